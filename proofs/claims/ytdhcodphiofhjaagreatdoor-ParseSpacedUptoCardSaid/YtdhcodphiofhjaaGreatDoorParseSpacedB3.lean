import Derived.Test.YtdhcodphiofhjaaGreatDoorParseSpacedB2
set_option linter.unusedVariables false
set_option linter.unusedSimpArgs false
set_option linter.unusedSectionVars false
set_option maxRecDepth 100000
namespace Go.Lx
open Go.Vc
def TR.v2:TR→Value
 | .ok t=>.tuple #[t.v,.int .i64 0]
 | .bad e p=>.tuple #[(ir 0).v,.int .i64 e]
def TR.Ha:TR→Value
 | .ok t=>.tuple #[t.v,.int .i64 0]
 | .bad e p=>.tuple #[(ir p).v,.int .i64 e]
theorem xz{s:ByteArray}(hs:dj s){i:Int}(h0:0≤i)(h1:i<s.size)(I:cS)(F:cR):cZ P 136 #[.string s,.int .i64 i] I F (lH (jH s i).v2 F):=by
 have hs':=hs
 unfold dj at hs'
 have hE:=eP (p:=dh) (s:=s) (i:=i) (by omega)
 have hstop:=gW (p:=dh) (s:=s) (i:=i) (by omega)
 have hcs:=fO (s:=s) h0 hE.1 hE.2
 generalize hEd:dA dh s i=E at hE hstop hcs
 have hEnd:∀n,dY s E n=n:=fun n=>by
  rcases Int.lt_or_le E s.size with h | h
  ·rw[gX h,hstop h];rfl
  ·exact nR h
 let e2:Int:=if dM (cX s E)=1 then E else E+1
 have hbad:(dY s i 0>9223372036854775807∨(E-i>1∧bt s i=48)∨(e2<s.size∧(dx (bt s e2)=true∨(65≤bt s e2∧bt s e2≤90)))) →
   (jH s i).v2=.tuple #[(ir 0).v,.int .i64 113]:=fun h=>by
  unfold jH;simp only[hEd];rw[if_pos h];rfl
 have hok:¬(dY s i 0>9223372036854775807∨(E-i>1∧bt s i=48)∨(e2<s.size∧(dx (bt s e2)=true∨(65≤bt s e2∧bt s e2≤90)))) →
   (jH s i).v2=.tuple #[(⟨3,cut s i e2,dM (cX s E),dY s i 0,i⟩:Tok).v,.int .i64 0]:=fun h=>by
  unfold jH;simp only[hEd];rw[if_neg h];rfl
 have he2r:e2≤s.size∧E≤e2∧e2≤E+1:=by
  show (if dM (cX s E)=1 then E else E+1)≤_∧_≤(if dM (cX s E)=1 then E else E+1)∧(if dM (cX s E)=1 then E else E+1)≤_
  split
  ·omega
  ·rename_i hne
   have:E<s.size:=by
    rcases Int.lt_or_le E s.size with h | h
    ·exact h
    ·rw[show cX s E=0 by unfold cX;rw[if_neg (by omega)]] at hne
     exact absurd rfl hne
   omega
 refine mH.vc (fun x k b0 b1 b2 b3 b4 t0 t1 t2 t3 t4 m I' F'=>0≤k∧k≤E-i∧m=(E-i-k).toNat∧t0=3∧t2=1∧0≤t3∧t3≤9223372036854775807∧t4=i∧dY s (i+k) t3=dY s i 0∧F'=F)
  (fun x b0 b1 b2 b3 b4 I' F'=>¬(E-i>1∧bt s i=48)∧F'=F) (fun c I' F'=>c=cX s E∧F'=F)
  (fun en st t0 t1 t2 t3 t4 I' F'=>en=e2∧t0=3∧t2=dM (cX s E)∧t3=dY s i 0∧t4=i∧F'=F) ?_
 unfold mH.V
 intro b
 refine cZ.ret (tj hs h0 (by omega) oV BJ I _) fun I1 hI1=>⟨_,rfl,F,.refl _, ?_⟩
 intro b_t
 rw[hEd]
 refine⟨⟨h0,hE⟩, ?_⟩
 refine (Ay (cut s i E) I1 _).mono fun v I2 G2 hI2 ⟨bb,cc,hv,hSl,hG⟩=>?_
 subst hG
 refine⟨_,_,_,hv,F,.refl _,⟨_,by omega,by omega,rfl,rfl,rfl,by omega,by omega,rfl,by rw[Int.add_zero],rfl⟩, ?_⟩
 intro x k b0 b1 b2 b3 b4 t0 t1 t2 t3 t4 m I3 F3 hI3 ⟨g0,g1,gm,gt0,gt2,gn0,gn1,gt4,gv,gF⟩
 subst gt0 gt2 gF
 obtain rfl:i=t4:=gt4.symm
 refine⟨fun hk=>?_,fun hk=>?_⟩
 ·have hk:k<E-i:=by have:=of_decide_eq_true hk;omega
  refine⟨⟨g0,by omega⟩, ?_⟩
  obtain⟨ad,c,had,hc,hrd⟩:=(hSl.mono hI3).at (i:=k) g0 (by omega)
  have hbtc:c=bt s (i+k):=by
   rw[re (by omega)] at hc
   have:=mL (s:=s) (i:=i) (j:=E) (k:=k) h0 g0 (by omega) hE.2
   rw[Int.toNat_of_nonneg g0] at hc
   rw[this] at hc
   exact (Option.some.inj hc).symm
  obtain⟨hd,_⟩:=xy (p:=dh) (s:=s) (i:=i) (k:=i+k) (by omega) (by omega) (by omega)
  rw[←hbtc] at hd
  obtain⟨hw,hc0,hc1⟩:=BN hd
  have hvs:=gX (s:=s) (i:=i+k) (v:=t3) (by omega)
  rw[←hbtc,if_pos hd] at hvs
  refine⟨ad,had,c,hrd _, ?_⟩
  rw[hw,tdiv_le (a:=0) (by omega) (by omega)]
  refine⟨fun hgt=>⟨?_,rfl⟩,fun hgt=>?_⟩
  ·refine (congrArg Ending.returned (hbad (.inl ?_)).symm)
   have hgt:=of_decide_eq_true hgt
   have:=s5 (s:=s) (i:=i+k+1) (v:=10*t3+(c-48)) (by omega)
   omega
  ·have hgt:=of_decide_eq_false hgt
   refine⟨_, ?_, ?_, ?_,rfl,rfl,rfl, ?_, ?_,rfl, ?_,rfl⟩
   ·rw[gU (by omega)];omega
   ·rw[gU (by omega)];omega
   ·rw[gU (by omega)];omega
   ·rw[gU (n:=10*t3) (by omega),gU (by omega)];omega
   ·rw[gU (n:=10*t3) (by omega),gU (by omega)];omega
   ·rw[gU (n:=10*t3) (by omega),gU (n:=k+1) (by omega),gU (n:=10*t3+(c-48)) (by omega),←gv,hvs]
    congr 1;omega
 ·have hk:¬k<E-i:=by have:=of_decide_eq_false hk;omega
  have hkE:i+k=E:=by omega
  rw[hkE,hEnd] at gv
  rw[gU (n:=E-i) (by omega)]
  refine⟨⟨fun hl=>⟨⟨h0,h1⟩,fun h48=>⟨?_,rfl⟩,fun h48=>⟨?_,rfl⟩⟩,fun hl=>⟨?_,rfl⟩⟩, ?_⟩
  ·exact congrArg Ending.returned (hbad (.inr (.inl ⟨of_decide_eq_true hl,by simpa using h48⟩))).symm
  ·intro hc;rw[hc.2] at h48;simp at h48
  ·intro hc;exact absurd hc.1 (of_decide_eq_false hl)
  intro x2 c0 c1 c2 c3 c4 I4 F4 hI4 ⟨hz,hF4⟩
  subst hF4
  refine⟨⟨fun hl=>⟨⟨by omega,of_decide_eq_true hl⟩, ?_,rfl⟩,fun hl=>⟨?_,rfl⟩⟩, ?_⟩
  ·unfold cX;rw[if_pos (of_decide_eq_true hl)]
  ·unfold cX;rw[if_neg (of_decide_eq_false hl)]
  intro more I5 F5 hI5 ⟨hmore,hF5⟩
  subst hF5
  refine⟨?_, ?_⟩
  ·rw[show IntKind.wrap .i64 (IntKind.wrap .i64 (IntKind.wrap .i64 (-1+1)+1)+1)=2 by decide,show IntKind.wrap .i64 (IntKind.wrap .i64 (-1+1)+1)=1 by decide,
    show IntKind.wrap .i64 (-1+1)=0 by decide,gU (n:=E+1) (by omega)]
   refine⟨fun h=>?_,fun h=>⟨fun h'=>?_,fun h'=>⟨fun h''=>?_,fun h''=>?_⟩⟩⟩
   ·have:more=116:=by simpa using h
    have ht:dM (cX s E)=4:=by rw[←hmore,this];rfl
    refine⟨?_,rfl,by rw[ht];decide,gv,rfl,rfl⟩
    show _=if dM (cX s E)=1 then E else E+1
    rw[ht];rfl
   ·have:more=112:=by simpa using h'
    have ht:dM (cX s E)=3:=by rw[←hmore,this];rfl
    refine⟨?_,rfl,by rw[ht];decide,gv,rfl,rfl⟩
    show _=if dM (cX s E)=1 then E else E+1
    rw[ht];rfl
   ·have:more=113:=by simpa using h''
    have ht:dM (cX s E)=2:=by rw[←hmore,this];rfl
    refine⟨?_,rfl,by rw[ht];decide,gv,rfl,rfl⟩
    show _=if dM (cX s E)=1 then E else E+1
    rw[ht];rfl
   ·have ht:dM (cX s E)=1:=by
     rw[←hmore];unfold dM
     rw[if_neg (by simpa using h),if_neg (by simpa using h'),if_neg (by simpa using h'')]
    refine⟨?_,rfl,ht.symm,gv,rfl,rfl⟩
    show _=if dM (cX s E)=1 then E else E+1
    rw[ht];rfl
  intro en st u0 u1 u2 u3 u4 I6 F6 hI6 ⟨hen,hu0,hu2,hu3,hu4,hF6⟩
  subst hu0 hu2 hF6 hen
  obtain rfl:i=u4:=hu4.symm
  have nov:¬dY s i 0>9223372036854775807:=by omega
  have okk:¬(e2<s.size∧(dx (bt s e2)=true∨(65≤bt s e2∧bt s e2≤90))) →
    (0≤i∧i≤e2∧e2≤(s.size:Int))∧∀(J:cS),lH (jH s i).v2 F6 (.returned (Value.tuple #[Value.agg #[Value.int .u8 3,Value.string (s.extract (Int.toNat (i)) (Int.toNat (e2))),Value.int .u8 (dM (cX s E)),Value.int .i64 u3,Value.int .i64 i],Value.int .i64 0])) J F6:=fun h=>by
   refine⟨by omega,fun J=>⟨?_,rfl⟩⟩
   rw[hok (fun h'=>h'.elim nov fun h'=>h'.elim hz h),hu3]
   rfl
  refine⟨fun hl=>⟨⟨by omega,of_decide_eq_true hl⟩, ?_⟩,fun hl=>?_⟩
  ·have hl:=of_decide_eq_true hl
   refine cZ.ret (tb (bt s e2) I6 _) fun I7 hI7=>⟨_,rfl,F6,.refl _,fun hi=>⟨?_,rfl⟩,fun hi=>⟨⟨by omega,hl⟩,fun h65=>⟨⟨by omega,hl⟩,fun h90=>⟨?_,rfl⟩,fun h90=>?_⟩,fun h65=>?_⟩⟩
   ·exact congrArg Ending.returned (hbad (.inr (.inr ⟨hl,.inl hi⟩))).symm
   ·exact congrArg Ending.returned (hbad (.inr (.inr ⟨hl,.inr ⟨of_decide_eq_true h65,of_decide_eq_true h90⟩⟩))).symm
   ·obtain⟨a1,a2⟩:=okk (fun h=>h.2.elim (fun h=>by rw[hi] at h;cases h) fun h=>of_decide_eq_false h90 h.2)
    exact⟨a1,a2 _⟩
   ·obtain⟨a1,a2⟩:=okk (fun h=>h.2.elim (fun h=>by rw[hi] at h;cases h) fun h=>of_decide_eq_false h65 h.1)
    exact⟨a1,a2 _⟩
  ·obtain⟨a1,a2⟩:=okk (fun h=>of_decide_eq_false hl h.1)
   exact⟨a1,a2 _⟩
theorem Ei{α:Type}{C:Prop}[d:Decidable C]{x y z:α}(h:z=if C then x else y):∃C':Prop,(C'∧z=x)∨(¬C'∧z=y) :=
 ⟨C,(Classical.em C).imp (fun c=>⟨c,by rw[h,if_pos c]⟩) fun c=>⟨c,by rw[h,if_neg c]⟩⟩
theorem zG(s:ByteArray)(i:Int):∃C:Prop,(C∧jH s i=.bad 113 i)∨(¬C∧jH s i =
  .ok ⟨3,cut s i (if dM (cX s (dA dh s i))=1 then dA dh s i else dA dh s i+1),dM (cX s (dA dh s i)),dY s i 0,i⟩):=by
 exact Ei rfl
theorem tq(s:ByteArray)(i:Int):(∃t,jH s i=.ok t∧t.pos=i)∨jH s i=.bad 113 i:=by
 obtain⟨C,⟨_,h⟩ | ⟨_,h⟩⟩:=zG s i
 ·exact .inr h
 ·exact .inl ⟨_,h,rfl⟩
theorem tu{s:ByteArray}(hs:dj s){f:Int}(h0:0≤f)(h1:f≤s.size)(I:cS)(F:cR):cZ P 123 #[.string s,.int .i64 f] I F (lH (fj s f).Ha F):=by
 have hs':=hs
 unfold dj at hs'
 refine nX.vc ?_
 unfold nX.V
 intro b
 have ho:=fN (s:=s) h1
 refine cZ.ret (yH hs h0 h1 I _) fun I1 hI1=>⟨_,rfl,F,.refl _, ?_⟩
 unfold fj
 simp only
 generalize dg s f=r at ho ⊢
 refine⟨fun h=>⟨?_,rfl⟩,fun h=>⟨?_, ?_⟩⟩
 ·rw[if_pos (by simpa using h)];rfl
 ·have:r≠s.size:=by simpa using h
  omega
 ·have hlt:r<s.size:=by have:r≠s.size:=by simpa using h
                        omega
  rw[if_neg (by omega)]
  refine cZ.ret (oV (bt s r) I1 _) fun I2 hI2=>⟨_,rfl,F,.refl _,fun hd=>?_,fun hd=>?_⟩
  ·rw[if_pos hd]
   refine cZ.ret (xz hs (by omega) hlt I2 _) fun I3 hI3=>?_
   rcases tq s r with ⟨t,ht,hp⟩ | ht
   ·rw[ht];exact⟨_,_,_,_,_,_,rfl,F,.refl _,fun b_t=>⟨by rw[←hp];rfl,rfl⟩⟩
   ·rw[ht];exact⟨_,_,_,_,_,_,rfl,F,.refl _,fun b_t=>⟨rfl,rfl⟩⟩
  ·rw[if_neg (by rw[hd];exact Bool.false_ne_true)]
   refine cZ.ret (s9 (bt s r) I2 _) fun I3 hI3=>⟨_,rfl,F,.refl _,fun hm=>?_,fun hm=>?_⟩
   ·rw[if_pos hm]
    have hn:=eP (p:=dx) (s:=s) (i:=r) (by omega)
    refine cZ.ret (tj hs (by omega) (by omega) tb BK I3 _) fun I4 hI4=>⟨_,rfl,F,.refl _, ?_⟩
    unfold jQ
    simp only
    generalize dA dx s r=e at hn ⊢
    rw[gU (by omega)]
    refine⟨fun h=>⟨?_,rfl⟩,fun h=>⟨⟨by omega,hn⟩,fun b_t=>?_⟩⟩
    ·rw[if_pos (of_decide_eq_true h)];rfl
    ·rw[if_neg (of_decide_eq_false h)]
     refine cZ.ret (Ap (cut s r e) I4 _) fun I5 hI5=>⟨_,rfl,F,.refl _,fun hw=>⟨?_,rfl⟩,fun hw=>⟨?_,rfl⟩⟩
     ·rw[if_pos hw];rfl
     ·rw[if_neg (by rw[hw];exact Bool.false_ne_true)];rfl
   ·rw[if_neg (by rw[hm];exact Bool.false_ne_true)]
    refine cZ.ret (Ax hs (by omega) hlt I3 _) fun I4 hI4=>⟨_,rfl,F,.refl _, ?_⟩
    have hr:=jI s r
    have hl:=nv hlt
    unfold jR
    generalize eF s r=k at hr hl ⊢
    rw[gU (by omega)]
    refine⟨fun h=>⟨?_,rfl⟩,fun h=>⟨by omega, ?_,rfl⟩⟩
    ·rw[if_pos (by simpa using h)];rfl
    ·rw[if_neg (by simpa using h)];rfl
def u5(s:ByteArray)(f:Int):Value :=
 if (s.size:Int)>4096 then .tuple #[(ir 0).v,.int .i64 0,.int .i64 110]
 else if f<0∨f>s.size then .tuple #[(ir 0).v,.int .i64 0,.int .i64 1]
 else match fj s f with
  | .ok t=>.tuple #[t.v,.int .i64 (t.pos+t.text.size),.int .i64 0]
  | .bad e p=>.tuple #[(ir 0).v,.int .i64 0,.int .i64 e]
def tx(s:ByteArray)(i:Int)(t:Tok):Prop :=
 t.pos=i∧t.pos+t.text.size≤s.size∧t.text=cut s t.pos (t.pos+t.text.size)∧((t.kind=0∧i=s.size∧t=ir s.size)∨(0<t.kind∧t.kind≤4∧0<t.text.size))
theorem tx.mk'{s:ByteArray}{i e k y n:Int}(h0:0≤i)(h:i<e)(h1:e≤s.size)(hk:0<k∧k≤4):tx s i ⟨k,cut s i e,y,n,i⟩:=by
 have hc:=fO h0 (by omega:i≤e) h1
 refine⟨rfl, ?_, ?_,.inr ⟨hk.1,hk.2, ?_⟩⟩
 ·show i+((cut s i e).size:Int)≤_;omega
 ·show cut s i e=cut s i (i+(cut s i e).size);rw[hc];congr 1;omega
 ·show 0<(cut s i e).size;omega
theorem BO(s:ByteArray)(i:Int):cut s i i=⟨#[]⟩:=by
 unfold cut
 have:(s.extract i.toNat i.toNat).size=0:=by rw[ByteArray.size_extract];omega
 exact ByteArray.size_eq_zero_iff.1 this
theorem fo{s:ByteArray}{f:Int}(h0:0≤f)(h1:f≤s.size) :
  (∃t,fj s f=.ok t∧tx s (dg s f) t)∨(∃e,fj s f=.bad e (dg s f)∧(e=111∨e=112∨e=113)):=by
 have ho:=fN (s:=s) h1
 unfold fj
 simp only
 generalize dg s f=i at ho ⊢
 by_cases hi:i=s.size
 ·rw[if_pos hi]
  refine .inl ⟨_,rfl,rfl, ?_, ?_,.inl ⟨rfl,hi,by rw[hi]⟩⟩
  ·show i+((0:Nat):Int)≤_;omega
  ·show (⟨#[]⟩:ByteArray)=cut s i (i+((0:Nat):Int))
   rw[show i+((0:Nat):Int)=i by omega,BO]
 ·have hlt:i<s.size:=by omega
  rw[if_neg hi]
  by_cases hd:dh (bt s i)=true
  ·rw[if_pos hd]
   obtain⟨C,⟨_,h⟩ | ⟨_,h⟩⟩:=zG s i
   ·exact .inr ⟨_,h,by simp⟩
   ·refine .inl ⟨_,h, ?_⟩
    have hr:=dK (p:=dh) hlt
    rw[if_pos hd] at hr
    have:=eP (p:=dh) (s:=s) (i:=i+1) (by omega)
    refine tx.mk' (by omega) ?_ ?_ (by decide)
    ·split<;>omega
    ·split
     ·omega
     ·rename_i hne
      have:dA dh s i<s.size:=by
       rcases Int.lt_or_le (dA dh s i) s.size with h | h
       ·exact h
       ·rw[show cX s (dA dh s i)=0 by unfold cX;rw[if_neg (by omega)]] at hne
        exact absurd rfl hne
      omega
  ·rw[if_neg hd]
   by_cases hm:gE (bt s i)=true
   ·rw[if_pos hm]
    have hr:=dK (p:=dx) hlt
    rw[if_pos (by simp[dx,hm])] at hr
    have:=eP (p:=dx) (s:=s) (i:=i+1) (by omega)
    unfold jQ
    simp only
    split
    ·exact .inr ⟨_,rfl,by simp⟩
    ·exact .inl ⟨_,rfl,tx.mk' (by omega) (by omega) (by omega) (by split<;>decide)⟩
   ·rw[if_neg hm]
    have hr:=jI s i
    have hl:=nv hlt
    unfold jR
    split
    ·exact .inr ⟨_,rfl,by simp⟩
    ·exact .inl ⟨_,rfl,tx.mk' (by omega) (by omega) (by omega) (by decide)⟩
theorem nY{s:ByteArray}(hs:dj s){f:Int}(I:cS)(F:cR):cZ P 102 #[.string s,.int .i64 f] I F (lH (u5 s f) F):=by
 refine pV.vc ?_
 unfold pV.V
 intro b
 unfold u5
 refine⟨fun h=>⟨by rw[if_pos (of_decide_eq_true h)];rfl,rfl⟩,fun h=>?_⟩
 rw[if_neg (of_decide_eq_false h)]
 refine⟨fun h=>⟨by rw[if_pos (.inl (of_decide_eq_true h))];rfl,rfl⟩,fun h=>⟨fun h=>⟨by rw[if_pos (.inr (of_decide_eq_true h))];rfl,rfl⟩,fun h'=>?_⟩⟩
 have h:=of_decide_eq_false h
 have h':=of_decide_eq_false h'
 unfold dj at hs
 rw[if_neg (by omega)]
 refine cZ.ret (tu hs (by omega) (by omega) I _) fun I1 hI1=>?_
 rcases fo (s:=s) (f:=f) (by omega) (by omega) with ⟨t,ht,hp,hl,_⟩ | ⟨e,ht,he⟩
 ·rw[ht]
  refine⟨_,_,_,_,_,_,rfl,F,.refl _,fun b_t=>⟨fun h=>absurd h (by decide),fun _=>⟨?_,rfl⟩⟩⟩
  have:=fN (s:=s) (i:=f) (by omega)
  rw[gU (n:=t.pos+t.text.size) (by omega)];rfl
 ·rw[ht]
  refine⟨_,_,_,_,_,_,rfl,F,.refl _,fun b_t=>⟨fun h=>⟨rfl,rfl⟩,fun h=>?_⟩⟩
  rcases he with rfl | rfl | rfl<;>exact absurd h (by decide)
end Go.Lx
namespace Go.Lx
open Go.Vc Go.Proofs.Tryz
def oY:List (Nat×List Sh):=[(3,[.one (.int .i64)]),(4,[.one .bool]),(9,[.one .str]),(77,[.agg [(.int .u8),.str,(.int .u8),(.int .i64),(.int .i64)],.one (.int .i64),.one (.int .i64)]),(80,[.one .slc]),(81,[.one .slc,.one (.int .i64),.one (.int .i64)]),(134,[.agg [(.int .u8),.str,(.int .u8),(.int .i64),(.int .i64)],.one (.int .i64)])]
def mM.V(vi:Int→Value)(wr:Int→Int)(s:Bs)(p:Int)(I:cS)(F:cR)(Q:cW)(Inv8:Int→Bool→Int→Nat→cS→cR→Prop):Prop:=(∃m:Nat,Inv8 0 false p m I F)∧∀(x:Int) (a:Bool) (i:Int) (m1:Nat) (I1:cS) (F1:cR),cS.le I I1→Inv8 x a i m1 I1 F1→(Dt (i<(s.size:Int)) ((0≤i∧i<(s.size:Int))∧(It ((bt s i)==10) (It ((bt s i)==35) (It false (It ((bt s i)!=32) (It ((bt s i)!=9) (It ((bt s i)!=10) (It ((bt s i)!=13) (Q (.returned (vi i)) I1 F1) (∃m2:Nat,m2<m1∧Inv8 x true (wr (i+1)) m2 I1 F1)) (∃m3:Nat,m3<m1∧Inv8 x true (wr (i+1)) m3 I1 F1)) (∃m4:Nat,m4<m1∧Inv8 x true (wr (i+1)) m4 I1 F1)) (∃m5:Nat,m5<m1∧Inv8 x true (wr (i+1)) m5 I1 F1)) (∃m6:Nat,m6<m1∧Inv8 x true (wr (i+1)) m6 I1 F1)) (It true (It ((bt s i)!=32) (It ((bt s i)!=9) (It ((bt s i)!=10) (It ((bt s i)!=13) (Q (.returned (vi i)) I1 F1) (∃m7:Nat,m7<m1∧Inv8 x false (wr (i+1)) m7 I1 F1)) (∃m8:Nat,m8<m1∧Inv8 x false (wr (i+1)) m8 I1 F1)) (∃m9:Nat,m9<m1∧Inv8 x false (wr (i+1)) m9 I1 F1)) (∃b:Nat,b<m1∧Inv8 x false (wr (i+1)) b I1 F1)) (∃c:Nat,c<m1∧Inv8 x false (wr (i+1)) c I1 F1))) (It ((bt s i)==35) (It false (It ((bt s i)!=32) (It ((bt s i)!=9) (It ((bt s i)!=10) (It ((bt s i)!=13) (Q (.returned (vi i)) I1 F1) (∃d:Nat,d<m1∧Inv8 x true (wr (i+1)) d I1 F1)) (∃e:Nat,e<m1∧Inv8 x true (wr (i+1)) e I1 F1)) (∃f:Nat,f<m1∧Inv8 x true (wr (i+1)) f I1 F1)) (∃g:Nat,g<m1∧Inv8 x true (wr (i+1)) g I1 F1)) (∃h:Nat,h<m1∧Inv8 x true (wr (i+1)) h I1 F1)) (It (!a) (It ((bt s i)!=32) (It ((bt s i)!=9) (It ((bt s i)!=10) (It ((bt s i)!=13) (Q (.returned (vi i)) I1 F1) (∃j:Nat,j<m1∧Inv8 x a (wr (i+1)) j I1 F1)) (∃k:Nat,k<m1∧Inv8 x a (wr (i+1)) k I1 F1)) (∃l:Nat,l<m1∧Inv8 x a (wr (i+1)) l I1 F1)) (∃n:Nat,n<m1∧Inv8 x a (wr (i+1)) n I1 F1)) (∃o:Nat,o<m1∧Inv8 x a (wr (i+1)) o I1 F1))))) (Q (.returned (vi (s.size:Int))) I1 F1))
theorem mM.vc{s:Bs}{a:Int}{I:cS}{F:cR}{Q:cW}(Inv8:Int→Bool→Int→Nat→cS→cR→Prop)(h:mM.V (.int .i64) (IntKind.wrap .i64) s a I F Q Inv8):cZ P 53 #[.string s,.int .i64 a] I F Q :=
 tw (A:=(fa [3003,6001,8001,10001,10004,10008,10012,10016] [] [] oY [(8,⟨[(4,(.int .i64)),(5,.bool),(6,(.int .i64))],[],fun _ _ _ vs m I F=>match vs with | [.int _ y0,.bool y1,.int _ y2]=>Inv8 y0 y1 y2 m I F | _=>False,[],[]⟩)] [] [] [] [] [] [])) [] func53 h
def kZ.V(ka:Nat→Int→Bs→Int→Int→Int→Nat×Obj)(vb vi:Int→Value)(vs:Bs→Value)(wr:Int→Int)(s:Bs)(c:Int)(I:cS)(F:cR)(Q:cW)(Inv6:Int→Nat→cS→cR→Prop):Prop:=∀b:Nat,(∃m:Nat,Inv6 c m I F)∧∀(a:Int) (m1:Nat) (I1:cS) (F1:cR),cS.le I I1→Inv6 a m1 I1 F1→(Dt (a<(s.size:Int)) ((0≤a∧a<(s.size:Int))∧jW P 97 (#[vb (bt s a)]) I1 ((ka b 0 (⟨#[]⟩:Bs) 0 0 0)::·) F1 .bool fun r I2 F2=>(It r (∃m2:Nat,m2<m1∧Inv6 (wr (a+1)) m2 I2 F2) ((0≤c∧c≤a∧a≤(s.size:Int))∧∀e:Nat,(Dt ((wr (a-c))>16) (Q (.returned (.tuple #[.agg #[vb 0,vs (⟨#[]⟩:Bs),vb 0,vi 0,vi 0],vi 112])) I2 F2) (jW P 96 (#[vs (s.extract (Int.toNat c) (Int.toNat a))]) I2 ((ka b 0 (⟨#[]⟩:Bs) 0 0 0)::(ka e 2 (s.extract (Int.toNat c) (Int.toNat a)) 0 0 c)::·) F2 .bool fun r1 I3 F3=>(It r1 (Q (.returned (.tuple #[.agg #[vb 1,vs (s.extract (Int.toNat c) (Int.toNat a)),vb 0,vi 0,vi c],vi 0])) I3 F3) (Q (.returned (.tuple #[.agg #[vb 2,vs (s.extract (Int.toNat c) (Int.toNat a)),vb 0,vi 0,vi c],vi 0])) I3 F3))))))) ((0≤c∧c≤a∧a≤(s.size:Int))∧∀d:Nat,(Dt ((wr (a-c))>16) (Q (.returned (.tuple #[.agg #[vb 0,vs (⟨#[]⟩:Bs),vb 0,vi 0,vi 0],vi 112])) I1 F1) (jW P 96 (#[vs (s.extract (Int.toNat c) (Int.toNat a))]) I1 ((ka b 0 (⟨#[]⟩:Bs) 0 0 0)::(ka d 2 (s.extract (Int.toNat c) (Int.toNat a)) 0 0 c)::·) F1 .bool fun r2 I4 F4=>(It r2 (Q (.returned (.tuple #[.agg #[vb 1,vs (s.extract (Int.toNat c) (Int.toNat a)),vb 0,vi 0,vi c],vi 0])) I4 F4) (Q (.returned (.tuple #[.agg #[vb 2,vs (s.extract (Int.toNat c) (Int.toNat a)),vb 0,vi 0,vi c],vi 0])) I4 F4))))))
theorem kZ.vc{s:Bs}{f:Int}{I:cS}{F:cR}{Q:cW}(Inv6:Int→Nat→cS→cR→Prop)(h:kZ.V (fun W a b c d e=>(W,Obj.cells #[.int .u8 a,.string b,.int .u8 c,.int .i64 d,.int .i64 e] 76 (0,0))) (.int .u8) (.int .i64) .string (IntKind.wrap .i64) s f I F Q Inv6):cZ P 55 #[.string s,.int .i64 f] I F Q :=
 tw (A:=(fa [2003,2008,5003,8000] [] [96,97] oY [(6,⟨[(6,(.int .i64))],[],fun _ _ _ vs m I F=>match vs with | [.int _ y0]=>Inv6 y0 m I F | _=>False,[],[]⟩)] [] [] [] [] [] [])) [96,97] func55 h
def j2.V(ka:Nat→Int→Bs→Int→Int→Int→Nat×Obj)(kb:Int→Bs→Int→Int→Int→Value)(vb vi:Int→Value)(vs:Bs→Value)(wr:Int→Int)(s:Bs)(d:Int)(I:cS)(F:cR)(Q:cW)(Inv8:Int→Int→Int→Int→Bs→Int→Int→Int→cS→cR→Prop)(Inv10:Int→Int→Int→Int→Bs→Int→Int→Int→Nat→cS→cR→Prop)(Inv29:Int→Int→Bs→Int→Int→Int→cS→cR→Prop)(Inv39:Int→Bs→Int→Int→Int→cS→cR→Prop)(Inv45:Int→Bs→Int→Int→Int→cS→cR→Prop)(Inv51:Int→Bs→Int→Int→Int→cS→cR→Prop)(Inv57:Int→cS→cR→Prop):Prop:=∀b:Nat,∀ao:Nat,((∃m:Nat,Inv10 0 d 0 0 (⟨#[]⟩:Bs) 0 0 0 m I F)∧∀(x f n y:Int) (z:Bs) (aa ab ac:Int) (m1:Nat) (I1:cS) (F1:cR),cS.le I I1→Inv10 x f n y z aa ab ac m1 I1 F1→(Dt (f<(s.size:Int)) ((0≤f∧f<(s.size:Int))∧jW P 56 (#[vb (bt s f)]) I1 ((ka b y z aa ab ac)::(ka ao 3 (⟨#[]⟩:Bs) 1 0 d)::·) F1 .bool fun r I2 F2=>(It r (Dt (n>922337203685477580) (Q (.returned (.tuple #[(kb 0 (⟨#[]⟩:Bs) 0 0 0),vi 113])) I2 F2) ((0≤f∧f<(s.size:Int))∧(∃m2:Nat,m2<m1∧Inv10 x (wr (f+1)) (IntKind.wrap .u64 ((IntKind.wrap .u64 (10*n))+(IntKind.wrap .u64 (IntKind.wrap .u8 ((bt s f)-48))))) y z aa ab ac m2 I2 F2))) (Inv8 x f n y z aa ab ac I2 F2))) (Inv8 x f n y z aa ab ac I1 F1)))∧∀(x1 a n1 ae:Int) (af:Bs) (ag ah ai:Int) (I3:cS) (F3:cR),cS.le I I3→Inv8 x1 a n1 ae af ag ah ai I3 F3→((Dt (n1>9223372036854775807) (Q (.returned (.tuple #[(kb 0 (⟨#[]⟩:Bs) 0 0 0),vi 113])) I3 F3) (Dt ((wr (a-d))>1) ((0≤d∧d<(s.size:Int))∧(It ((bt s d)==48) (Q (.returned (.tuple #[(kb 0 (⟨#[]⟩:Bs) 0 0 0),vi 113])) I3 F3) (Inv29 x1 ae af ag ah ai I3 F3))) (Inv29 x1 ae af ag ah ai I3 F3))))∧∀(x2 aj:Int) (ak:Bs) (al am an:Int) (I4:cS) (F4:cR),cS.le I3 I4→Inv29 x2 aj ak al am an I4 F4→((Dt (a<(s.size:Int)) ((0≤a∧a<(s.size:Int))∧(It ((bt s a)==113) (Inv39 3 (⟨#[]⟩:Bs) 2 (wr n1) d I4 F4) (Inv39 3 (⟨#[]⟩:Bs) 1 (wr n1) d I4 F4))) (Inv39 3 (⟨#[]⟩:Bs) 1 (wr n1) d I4 F4)))∧∀(p:Int) (q:Bs) (ad t u:Int) (I5:cS) (F5:cR),cS.le I4 I5→Inv39 p q ad t u I5 F5→((Dt (a<(s.size:Int)) ((0≤a∧a<(s.size:Int))∧(It ((bt s a)==112) (Inv45 p q 3 t u I5 F5) (Inv45 p q ad t u I5 F5))) (Inv45 p q ad t u I5 F5)))∧∀(j:Int) (k:Bs) (v l o:Int) (I6:cS) (F6:cR),cS.le I5 I6→Inv45 j k v l o I6 F6→((Dt (a<(s.size:Int)) ((0≤a∧a<(s.size:Int))∧(It ((bt s a)==116) (Inv51 j k 4 l o I6 F6) (Inv51 j k v l o I6 F6))) (Inv51 j k v l o I6 F6)))∧∀(g:Int) (w:Bs) (e h i:Int) (I7:cS) (F7:cR),cS.le I6 I7→Inv51 g w e h i I7 F7→((It (e != 1) (Inv57 (wr (a+1)) I7 F7) (Inv57 a I7 F7)))∧∀(c:Int) (I8:cS) (F8:cR),cS.le I7 I8→Inv57 c I8 F8→(Dt (c<(s.size:Int)) ((0≤c∧c<(s.size:Int))∧jW P 97 (#[vb (bt s c)]) I8 ((ka b aj ak al am an)::(ka ao g w e h i)::·) F8 .bool fun r1 I9 F9=>(It r1 (Q (.returned (.tuple #[(kb 0 (⟨#[]⟩:Bs) 0 0 0),vi 113])) I9 F9) ((0≤c∧c<(s.size:Int))∧(Dt ((bt s c)≥65) ((0≤c∧c<(s.size:Int))∧(Dt ((bt s c)≤90) (Q (.returned (.tuple #[(kb 0 (⟨#[]⟩:Bs) 0 0 0),vi 113])) I9 F9) ((0≤d∧d≤c∧c≤(s.size:Int))∧Q (.returned (.tuple #[(kb g (s.extract (Int.toNat d) (Int.toNat c)) e h i),vi 0])) I9 F9))) ((0≤d∧d≤c∧c≤(s.size:Int))∧Q (.returned (.tuple #[(kb g (s.extract (Int.toNat d) (Int.toNat c)) e h i),vi 0])) I9 F9))))) ((0≤d∧d≤c∧c≤(s.size:Int))∧Q (.returned (.tuple #[(kb g (s.extract (Int.toNat d) (Int.toNat c)) e h i),vi 0])) I8 F8))
theorem j2.vc{s:Bs}{f:Int}{I:cS}{F:cR}{Q:cW}(Inv8:Int→Int→Int→Int→Bs→Int→Int→Int→cS→cR→Prop)(Inv10:Int→Int→Int→Int→Bs→Int→Int→Int→Nat→cS→cR→Prop)(Inv29:Int→Int→Bs→Int→Int→Int→cS→cR→Prop)(Inv39:Int→Bs→Int→Int→Int→cS→cR→Prop)(Inv45:Int→Bs→Int→Int→Int→cS→cR→Prop)(Inv51:Int→Bs→Int→Int→Int→cS→cR→Prop)(Inv57:Int→cS→cR→Prop)(h:j2.V (fun W a b c d e=>(W,Obj.cells #[.int .u8 a,.string b,.int .u8 c,.int .i64 d,.int .i64 e] 76 (0,0))) (fun a b c d e=>.agg #[.int .u8 a,.string b,.int .u8 c,.int .i64 d,.int .i64 e]) (.int .u8) (.int .i64) .string (IntKind.wrap .i64) s f I F Q Inv8 Inv10 Inv29 Inv39 Inv45 Inv51 Inv57):cZ P 57 #[.string s,.int .i64 f] I F Q :=
 tw (A:=(fa [4003,4008,5001,9001,9006,9011,12003,12008,14003,14008,16003,16008,18002,20003,20008,20013,20018] [] [56,97] oY [(8,⟨[(5,(.int .i64)),(7,(.int .i64)),(8,(.int .u64))],[(0,[(.int .u8),.str,(.int .u8),(.int .i64),(.int .i64)])],fun _ _ _ vs m I F=>match vs with | [.int _ y0,.int _ y1,.int _ y2,.int _ y3,.string y4,.int _ y5,.int _ y6,.int _ y7]=>Inv8 y0 y1 y2 y3 y4 y5 y6 y7 I F | _=>False,[],[]⟩),(10,⟨[(5,(.int .i64)),(7,(.int .i64)),(8,(.int .u64))],[(0,[(.int .u8),.str,(.int .u8),(.int .i64),(.int .i64)])],fun _ _ _ vs m I F=>match vs with | [.int _ y0,.int _ y1,.int _ y2,.int _ y3,.string y4,.int _ y5,.int _ y6,.int _ y7]=>Inv10 y0 y1 y2 y3 y4 y5 y6 y7 m I F | _=>False,[],[]⟩),(29,⟨[(5,(.int .i64))],[(0,[(.int .u8),.str,(.int .u8),(.int .i64),(.int .i64)])],fun _ _ _ vs m I F=>match vs with | [.int _ y0,.int _ y1,.string y2,.int _ y3,.int _ y4,.int _ y5]=>Inv29 y0 y1 y2 y3 y4 y5 I F | _=>False,[],[]⟩),(39,⟨[],[(1,[(.int .u8),.str,(.int .u8),(.int .i64),(.int .i64)])],fun _ _ _ vs m I F=>match vs with | [.int _ y0,.string y1,.int _ y2,.int _ y3,.int _ y4]=>Inv39 y0 y1 y2 y3 y4 I F | _=>False,[],[]⟩),(45,⟨[],[(1,[(.int .u8),.str,(.int .u8),(.int .i64),(.int .i64)])],fun _ _ _ vs m I F=>match vs with | [.int _ y0,.string y1,.int _ y2,.int _ y3,.int _ y4]=>Inv45 y0 y1 y2 y3 y4 I F | _=>False,[],[]⟩),(51,⟨[],[(1,[(.int .u8),.str,(.int .u8),(.int .i64),(.int .i64)])],fun _ _ _ vs m I F=>match vs with | [.int _ y0,.string y1,.int _ y2,.int _ y3,.int _ y4]=>Inv51 y0 y1 y2 y3 y4 I F | _=>False,[],[]⟩),(57,⟨[(7,(.int .i64))],[],fun _ _ _ vs m I F=>match vs with | [.int _ y0]=>Inv57 y0 I F | _=>False,[],[]⟩)] [] [] [] [] [] [])) [56,97] func57 h
def mN.V(vb vi:Int→Value)(vs:Bs→Value)(wr:Int→Int)(s:Bs)(a:Int)(I:cS)(F:cR)(Q:cW)(Inv8:Int→Int→Int→Bs→Int→Int→Int→Nat→cS→cR→Prop):Prop:=∀b:Nat,∀(b1:Nat) (I1:cS),cS.le I I1→I1 b1=some (Obj.cells #[vs (⟨#[61,61]⟩:Bs),vs (⟨#[33,61]⟩:Bs),vs (⟨#[60,61]⟩:Bs),vs (⟨#[62,61]⟩:Bs),vs (⟨#[38,38]⟩:Bs),vs (⟨#[124,124]⟩:Bs),vs (⟨#[123]⟩:Bs),vs (⟨#[125]⟩:Bs),vs (⟨#[40]⟩:Bs),vs (⟨#[41]⟩:Bs),vs (⟨#[44]⟩:Bs),vs (⟨#[59]⟩:Bs),vs (⟨#[63]⟩:Bs),vs (⟨#[58]⟩:Bs),vs (⟨#[61]⟩:Bs),vs (⟨#[33]⟩:Bs),vs (⟨#[60]⟩:Bs),vs (⟨#[62]⟩:Bs),vs (⟨#[43]⟩:Bs),vs (⟨#[45]⟩:Bs),vs (⟨#[42]⟩:Bs),vs (⟨#[47]⟩:Bs),vs (⟨#[37]⟩:Bs)] 9 (0,0))→(∃m:Nat,Inv8 0 0 0 (⟨#[]⟩:Bs) 0 0 0 m I1 F)∧∀(x i c:Int) (d:Bs) (e f g:Int) (m1:Nat) (I2:cS) (F1:cR),cS.le I1 I2→Inv8 x i c d e f g m1 I2 F1→(Dt (i<(23:Int)) ((0≤i∧i<(23:Int))∧∃ad:Addr,some ⟨b1,0,none⟩=some ad∧∃(m2:Bs),Rd I2 ((b,Obj.cells #[vb c,vs d,vb e,vi f,vi g] 76 (0,0))::F1) (ad.add (Int.toNat i*1)) [vs m2]∧(Dt ((wr (a+(m2.size:Int)))≤(s.size:Int)) ((0≤a∧a≤(wr (a+(m2.size:Int)))∧(wr (a+(m2.size:Int)))≤(s.size:Int))∧((0≤i∧i<(23:Int))∧∃h:Addr,some ⟨b1,0,none⟩=some h∧∃(m3:Bs),Rd I2 ((b,Obj.cells #[vb c,vs d,vb e,vi f,vi g] 76 (0,0))::F1) (h.add (Int.toNat i*1)) [vs m3]∧(It ((s.extract (Int.toNat a) (Int.toNat ((wr (a+(m2.size:Int)))))).toList==m3.toList) ((0≤i∧i<(23:Int))∧∃j:Addr,some ⟨b1,0,none⟩=some j∧∃(m4:Bs),Rd I2 ((b,Obj.cells #[vb c,vs d,vb e,vi f,vi g] 76 (0,0))::F1) (j.add (Int.toNat i*1)) [vs m4]∧Q (.returned (.tuple #[.agg #[vb 4,vs m4,vb 0,vi 0,vi a],vi 0])) I2 F1) (∃m5:Nat,m5<m1∧Inv8 x (wr (i+1)) c d e f g m5 I2 F1)))) (∃m6:Nat,m6<m1∧Inv8 x (wr (i+1)) c d e f g m6 I2 F1))) (Q (.returned (.tuple #[.agg #[vb 0,vs (⟨#[]⟩:Bs),vb 0,vi 0,vi 0],vi 111])) I2 F1))
theorem mN.vc{s:Bs}{a:Int}{I:cS}{F:cR}{Q:cW}(Inv8:Int→Int→Int→Bs→Int→Int→Int→Nat→cS→cR→Prop)(h:mN.V (.int .u8) (.int .i64) .string (IntKind.wrap .i64) s a I F Q Inv8):cZ P 58 #[.string s,.int .i64 a] I F Q :=
 tw (A:=(fa [3003,6005,6017] [] [] oY [(8,⟨[(5,(.int .i64)),(7,(.int .i64))],[(0,[(.int .u8),.str,(.int .u8),(.int .i64),(.int .i64)])],fun _ _ _ vs m I F=>match vs with | [.int _ y0,.int _ y1,.int _ y2,.string y3,.int _ y4,.int _ y5,.int _ y6]=>Inv8 y0 y1 y2 y3 y4 y5 y6 m I F | _=>False,[],[]⟩)] [1000] [] [] [] [] [])) [] func58 h
def nZ.V(ka:Nat→Int→Bs→Int→Int→Int→Nat×Obj)(kb:Int→Bs→Int→Int→Int→Value)(vb vi:Int→Value)(vs:Bs→Value)(s:Bs)(w:Int)(I:cS)(F:cR)(Q:cW)  : Prop:=∀b:Nat,jW P 53 #[vs s,vi w] I ((ka b 0 (⟨#[]⟩:Bs) 0 0 0)::·) F vi fun r I1 F1=>(It (r==(s.size:Int)) (Q (.returned (.tuple #[(kb 0 (⟨#[]⟩:Bs) 0 0 r),vi 0,vi 0])) I1 F1) (∀a:Nat,((0≤r∧r<(s.size:Int))∧jW P 54 (#[vb (bt s r)]) I1 ((ka b 0 (⟨#[]⟩:Bs) 0 0 0)::(ka a 0 (⟨#[]⟩:Bs) 0 0 0)::·) F1 .bool fun r1 I2 F2=>(It r1 (ni P 55 #[vs s,vi r] I2 ((ka b 0 (⟨#[]⟩:Bs) 0 0 0)::(ka a 0 (⟨#[]⟩:Bs) 0 0 0)::·) F2 fun e3 I3 G3=>∃(p:Int) (q:Bs) (t u v m:Int),e3=.returned (.tuple #[(kb p q t u v),vi m])∧G3 fun F3=>(It (m != 0) (Q (.returned (.tuple #[(kb p q t u v),vi m,vi r])) I3 F3) (Q (.returned (.tuple #[(kb p q t u v),vi m,vi 0])) I3 F3))) ((0≤r∧r<(s.size:Int))∧jW P 56 (#[vb (bt s r)]) I2 ((ka b 0 (⟨#[]⟩:Bs) 0 0 0)::(ka a 0 (⟨#[]⟩:Bs) 0 0 0)::·) F2 .bool fun r2 I4 F4=>(It r2 (ni P 57 #[vs s,vi r] I4 ((ka b 0 (⟨#[]⟩:Bs) 0 0 0)::(ka a 0 (⟨#[]⟩:Bs) 0 0 0)::·) F4 fun e5 I5 G5=>∃(c:Int) (d:Bs) (e f g n:Int),e5=.returned (.tuple #[(kb c d e f g),vi n])∧G5 fun F5=>(It (n != 0) (Q (.returned (.tuple #[(kb c d e f g),vi n,vi r])) I5 F5) (Q (.returned (.tuple #[(kb c d e f g),vi n,vi 0])) I5 F5))) (ni P 58 #[vs s,vi r] I4 ((ka b 0 (⟨#[]⟩:Bs) 0 0 0)::(ka a 0 (⟨#[]⟩:Bs) 0 0 0)::·) F4 fun e6 I6 G6=>∃(h:Int) (i:Bs) (j k l o:Int),e6=.returned (.tuple #[(kb h i j k l),vi o])∧G6 fun F6=>(It (o != 0) (Q (.returned (.tuple #[(kb h i j k l),vi o,vi r])) I6 F6) (Q (.returned (.tuple #[(kb h i j k l),vi o,vi 0])) I6 F6)))))))))
theorem nZ.vc{s:Bs}{f:Int}{I:cS}{F:cR}{Q:cW}  (h:nZ.V (fun W a b c d e=>(W,Obj.cells #[.int .u8 a,.string b,.int .u8 c,.int .i64 d,.int .i64 e] 76 (0,0))) (fun a b c d e=>.agg #[.int .u8 a,.string b,.int .u8 c,.int .i64 d,.int .i64 e]) (.int .u8) (.int .i64) .string s f I F Q):cZ P 22 #[.string s,.int .i64 f] I F Q :=
 tw (A:=(an [2003,7003,9003,11001] [53,54,55,56,57,58] oY)) [53,54,55,56,57,58] func22 h
def k8.V(vb vi:Int→Value)(vs:Bs→Value)(vl:OA→Nat→Nat→Value)(s:Bs)(I:cS)(F:cR)(Q:cW)(Inv7:OA→Nat→Nat→Int→Int→OA→Nat→Nat→Int→Nat→cS→cR→Prop):Prop:=(∃m:Nat,Inv7 none 0 0 0 0 none 0 0 0 m I F)∧∀(n:OA) (o p:Nat) (x x1:Int) (g:OA) (h i:Nat) (q:Int) (m1:Nat) (I1:cS) (F1:cR),cS.le I I1→Inv7 n o p x x1 g h i q m1 I1 F1→ni P 22 #[vs s,vi q] I1 (·) F1 fun e1 I2 G1=>∃(a:Int) (c:Bs) (e f d r1 r2:Int),e1=.returned (.tuple #[.agg #[vb a,vs c,vb e,vi f,vi d],vi r1,vi r2])∧G1 fun F2=>∀r:Nat,(It (r1 != 0) (Q (.returned (.tuple #[vl g h i,vi r1,vi r2])) I2 F2) (∀(b:Nat) (I3:cS),cS.le I2 I3→I3 b=some (Obj.cells #[vb a,vs c,vb e,vi f,vi d] 76 (0,0))→dO P (Builtin.append_ #[80,80] 80 #[vl g h i,vl (some ⟨b,0,none⟩) 1 1]) I3 ((r,Obj.cells #[vb a,vs c,vb e,vi f,vi d] 76 (0,0))::F2) fun v I4 G2=>∃(j:OA) (k l:Nat),v=vl j k l∧∃F3:cR,List.Perm G2 ((r,Obj.cells #[vb a,vs c,vb e,vi f,vi d] 76 (0,0))::F3)∧(It (a==0) (Q (.returned (.tuple #[vl j k l,vi 0,vi 0])) I4 F3) (∃m2:Nat,m2<m1∧Inv7 n o p x x1 j k l (IntKind.wrap .i64 (d+(c.size:Int))) m2 I4 F3))))
theorem k8.vc{s:Bs}{I:cS}{F:cR}{Q:cW}(Inv7:OA→Nat→Nat→Int→Int→OA→Nat→Nat→Int→Nat→cS→cR→Prop)(h:k8.V (.int .u8) (.int .i64) .string .slice s I F Q Inv7):cZ P 59 #[.string s] I F Q :=
 tw (A:=(fa [4001,7002] [] [22] oY [(7,⟨[(2,.slc),(3,(.int .i64)),(4,(.int .i64)),(5,.slc),(6,(.int .i64))],[],fun _ _ _ vs m I F=>match vs with | [.slice y0 y1 y2,.int _ y3,.int _ y4,.slice y5 y6 y7,.int _ y8]=>Inv7 y0 y1 y2 y3 y4 y5 y6 y7 y8 m I F | _=>False,[],[]⟩)] [6002] [] [] [] [] [])) [22] func59 h
def j3.V(vi:Int→Value)(vl:OA→Nat→Nat→Value)(s:Bs)(I:cS)(F:cR)(Q:cW)  : Prop:=(Dt ((s.size:Int)>4096) (Q (.returned (.tuple #[vl none 0 0,vi 110,vi 0])) I F) (ni P 59 #[.string s] I (·) F fun e1 I1 G1=>∃(a:OA) (b c:Nat) (r1 r2:Int),e1=.returned (.tuple #[vl a b c,vi r1,vi r2])∧G1 fun F1=>(It (r1 != 0) (Q (.returned (.tuple #[vl none 0 0,vi r1,vi r2])) I1 F1) (Q (.returned (.tuple #[vl a b c,vi 0,vi 0])) I1 F1))))
theorem j3.vc{s:Bs}{I:cS}{F:cR}{Q:cW}  (h:j3.V (.int .i64) .slice s I F Q):cZ P 23 #[.string s] I F Q :=
 tw (A:=(an [1002,4001] [59] oY)) [59] func23 h
end Go.Lx
namespace Go.Lx
open Go.Vc
theorem yI{s:ByteArray}(hs:dj s){i:Int}(h0:0≤i)(h1:i≤s.size)(I:cS)(F:cR) :
  cZ P 53 #[.string s,.int .i64 i] I F (lH (.int .i64 (dg s i)) F):=by
 have hs':=hs
 unfold dj at hs'
 refine mM.vc (fun x r j m I' F'=>0≤j∧j≤s.size∧m=(s.size-j).toNat∧ig s r j=dg s i∧F'=F) ?_
 unfold mM.V
 refine⟨⟨_,h0,h1,rfl,rfl,rfl⟩,fun x r j m I1 F1 hI ⟨g0,g1,gm,gr,gF⟩=>⟨fun hlt=>?_,fun hlt=>?_⟩⟩
 ·have hlt:j<(s.size:Int):=by simpa using hlt
  subst gF
  have step:=eA (r:=r) hlt
  have stop:∀J:cS,mw (bt s j) r=false→blank (bt s j)=false→lH (.int .i64 (dg s i)) F1 (.returned (.int .i64 j)) J F1:=fun J a b=>by
   rw[a,b,gr] at step
   exact⟨by rw[step];rfl,rfl⟩
  have cont:∀r',mw (bt s j) r=r'→(r'=true∨blank (bt s j)=true)→∃m2:Nat,m2<m∧(0≤IntKind.wrap .i64 (j+1)∧IntKind.wrap .i64 (j+1)≤s.size∧m2=(s.size-IntKind.wrap .i64 (j+1)).toNat ∧
    ig s r' (IntKind.wrap .i64 (j+1))=dg s i∧F1=F1):=fun r' a b=>by
   rw[gU (by omega)]
   refine⟨_,by omega,by omega,by omega,rfl, ?_,rfl⟩
   rw[a,gr] at step
   rw[step,if_neg]
   rcases b with b | b<;>simp[b]
  refine⟨⟨g0,hlt⟩, ?_⟩
  clear step gr
  repeat' (first | (with_reducible apply And.intro) | (with_reducible intro h))
  all_goals first
   | (refine stop I1 ?_ ?_<;>simp_all [mw,blank];done)
   | (refine cont _ ?_ ?_<;>simp_all [mw,blank];done)
   | (exfalso;simp_all;done)
 ·have hlt:¬j<(s.size:Int):=by simpa using hlt
  refine⟨?_,gF⟩
  rw[hY (by omega)] at gr
  rw[←gr]
  have:j=s.size:=by omega
  rw[this]
theorem xA{s:ByteArray}(hs:dj s){i:Int}(h0:0≤i)(h1:i<s.size)(I:cS)(F:cR):cZ P 55 #[.string s,.int .i64 i] I F (lH (jQ s i).v2 F):=by
 have hs':=hs
 unfold dj at hs'
 have hE:=eP (p:=dx) (s:=s) (i:=i) (by omega)
 refine kZ.vc (fun j m I' F'=>i≤j∧j≤s.size∧m=(s.size-j).toNat∧dA dx s j=dA dx s i∧F'=F) ?_
 unfold kZ.V
 intro b
 refine⟨⟨_,by omega,by omega,rfl,rfl,rfl⟩,fun j m I1 F1 hI ⟨g0,g1,gm,gr,gF⟩=>⟨fun hlt=>?_,fun hlt=>?_⟩⟩
 ·have hlt:j<(s.size:Int):=of_decide_eq_true hlt
  subst gF
  refine⟨⟨by omega,hlt⟩, ?_⟩
  refine cZ.ret (te (bt s j) I1 _) fun I2 hI2=>⟨_,rfl,F1,.refl _,fun hc=>?_,fun hc=>⟨⟨h0,g0,g1⟩,fun b_t=>?_⟩⟩
  ·refine⟨m-1,by omega, ?_⟩
   rw[gU (by omega)]
   rw[dK hlt,if_pos hc] at gr
   exact⟨by omega,by omega,by omega,gr,rfl⟩
  ·rw[dK hlt,if_neg (by rw[hc];exact Bool.false_ne_true)] at gr
   unfold jQ
   simp only[←gr]
   rw[gU (by omega)]
   refine⟨fun h=>⟨?_,rfl⟩,fun h=>?_⟩
   ·rw[if_pos (of_decide_eq_true h)];rfl
   ·rw[if_neg (of_decide_eq_false h)]
    refine cZ.ret (tf (cut s i j) I2 _) fun I3 hI3=>⟨_,rfl,F1,.refl _,fun hw=>⟨?_,rfl⟩,fun hw=>⟨?_,rfl⟩⟩
    ·rw[if_pos hw];rfl
    ·rw[if_neg (by rw[hw];exact Bool.false_ne_true)];rfl
 ·have hlt:¬j<(s.size:Int):=of_decide_eq_false hlt
  subst gF
  refine⟨⟨h0,g0,g1⟩,fun b_t=>?_⟩
  rw[kj (by omega)] at gr
  unfold jQ
  simp only[←gr]
  rw[gU (by omega)]
  refine⟨fun h=>⟨?_,rfl⟩,fun h=>?_⟩
  ·rw[if_pos (of_decide_eq_true h)];rfl
  ·rw[if_neg (of_decide_eq_false h)]
   refine cZ.ret (tf (cut s i j) I1 _) fun I3 hI3=>⟨_,rfl,F1,.refl _,fun hw=>⟨?_,rfl⟩,fun hw=>⟨?_,rfl⟩⟩
   ·rw[if_pos hw];rfl
   ·rw[if_neg (by rw[hw];exact Bool.false_ne_true)];rfl
theorem Az{c:Int}(h:dh c=true):IntKind.wrap .u64 (IntKind.wrap .u8 (c-48))=c-48∧48≤c∧c≤57:=by
 simp only[dh,Bool.and_eq_true,decide_eq_true_eq] at h
 rw[w8 (by omega),CR (by omega)]
 exact⟨rfl,h⟩
theorem vQ{s:ByteArray}(hs:dj s){i:Int}(h0:0≤i)(h1:i<s.size)(I:cS)(F:cR):cZ P 57 #[.string s,.int .i64 i] I F (lH (jH s i).v2 F):=by
 have hs':=hs
 unfold dj at hs'
 have hE:=eP (p:=dh) (s:=s) (i:=i) (by omega)
 generalize hEd:dA dh s i=E at hE
 let e2:Int:=if dM (cX s E)=1 then E else E+1
 have hbad:(dY s i 0>9223372036854775807∨(E-i>1∧bt s i=48)∨(e2<s.size∧(dx (bt s e2)=true∨(65≤bt s e2∧bt s e2≤90)))) →
   (jH s i).v2=.tuple #[(ir 0).v,.int .i64 113]:=fun h=>by
  unfold jH;simp only[hEd];rw[if_pos h];rfl
 have hok:¬(dY s i 0>9223372036854775807∨(E-i>1∧bt s i=48)∨(e2<s.size∧(dx (bt s e2)=true∨(65≤bt s e2∧bt s e2≤90)))) →
   (jH s i).v2=.tuple #[(⟨3,cut s i e2,dM (cX s E),dY s i 0,i⟩:Tok).v,.int .i64 0]:=fun h=>by
  unfold jH;simp only[hEd];rw[if_neg h];rfl
 have he2r:e2≤s.size∧E≤e2∧e2≤E+1:=by
  show (if dM (cX s E)=1 then E else E+1)≤_∧_≤(if dM (cX s E)=1 then E else E+1)∧(if dM (cX s E)=1 then E else E+1)≤_
  split
  ·omega
  ·rename_i hne
   have:E<s.size:=by
    rcases Int.lt_or_le E s.size with h | h
    ·exact h
    ·rw[show cX s E=0 by unfold cX;rw[if_neg (by omega)]] at hne
     exact absurd rfl hne
   omega
 refine j2.vc (fun x en n b0 b1 b2 b3 b4 I' F'=>en=E∧n=dY s i 0∧F'=F)
  (fun x j n b0 b1 b2 b3 b4 m I' F'=>i≤j∧j≤E∧m=(E-j).toNat∧0≤n∧n≤18446744073709551615∧dA dh s j=E∧dY s j n=dY s i 0∧F'=F)
  (fun x b0 b1 b2 b3 b4 I' F'=>¬(E-i>1∧bt s i=48)∧¬dY s i 0>9223372036854775807∧F'=F)
  (fun t0 t1 t2 t3 t4 I' F'=>t0=3∧t2=(if cX s E=113 then 2 else 1)∧t3=dY s i 0∧t4=i∧F'=F)
  (fun t0 t1 t2 t3 t4 I' F'=>t0=3∧t2=(if cX s E=112 then 3 else if cX s E=113 then 2 else 1)∧t3=dY s i 0∧t4=i∧F'=F)
  (fun t0 t1 t2 t3 t4 I' F'=>t0=3∧t2=dM (cX s E)∧t3=dY s i 0∧t4=i∧F'=F)
  (fun en I' F'=>en=e2∧F'=F) ?_
 unfold j2.V
 intro b b_t
 refine⟨⟨⟨_,by omega,by omega,rfl,by omega,by omega,hEd,rfl,rfl⟩, ?_⟩, ?_⟩
 ·intro x j n b0 b1 b2 b3 b4 m I1 F1 hI1 ⟨g0,g1,gm,gn0,gn1,gr,gv,gF⟩
  subst gF
  refine⟨fun hlt=>?_,fun hlt=>?_⟩
  ·have hlt:j<s.size:=of_decide_eq_true hlt
   refine⟨⟨by omega,hlt⟩, ?_⟩
   refine cZ.ret (nq (bt s j) I1 _) fun I2 hI2=>⟨_,rfl,F1,.refl _,fun hd=>?_,fun hd=>?_⟩
   ·obtain⟨hw,hc0,hc1⟩:=Az hd
    rw[dK hlt,if_pos hd] at gr
    rw[gX hlt,if_pos hd] at gv
    have hr2:=eP (p:=dh) (s:=s) (i:=j+1) (by omega)
    refine⟨fun hgt=>⟨?_,rfl⟩,fun hgt=>⟨⟨by omega,hlt⟩, ?_⟩⟩
    ·refine (congrArg Ending.returned (hbad (.inl ?_)).symm)
     have hgt:=of_decide_eq_true hgt
     have:=s5 (s:=s) (i:=j+1) (v:=10*n+(bt s j-48)) (by omega)
     omega
    ·have hgt:=of_decide_eq_false hgt
     rw[hw,CR (n:=10*n) (by omega),CR (n:=10*n+_) (by omega),gU (by omega)]
     exact⟨_,by omega,by omega,by omega,rfl,by omega,by omega,gr,gv,rfl⟩
   ·rw[dK hlt,if_neg (by rw[hd];exact Bool.false_ne_true)] at gr
    rw[gX hlt,if_neg (by rw[hd];exact Bool.false_ne_true)] at gv
    exact⟨gr,gv,rfl⟩
  ·have hlt:¬j<s.size:=of_decide_eq_false hlt
   rw[kj (by omega)] at gr
   rw[nR (by omega)] at gv
   exact⟨gr,gv,rfl⟩
 intro x en n b0 b1 b2 b3 b4 I3 F3 hI3 ⟨hen,hn,hF3⟩
 subst hen hF3
 rw[gU (n:=en-i) (by omega)]
 refine⟨⟨fun h=>⟨?_,rfl⟩,fun h=>⟨fun hl=>⟨⟨h0,h1⟩,fun h48=>⟨?_,rfl⟩,fun h48=>⟨?_, ?_,rfl⟩⟩,fun hl=>⟨?_, ?_,rfl⟩⟩⟩, ?_⟩
 ·exact congrArg Ending.returned (hbad (.inl (by have:=of_decide_eq_true h;omega))).symm
 ·exact congrArg Ending.returned (hbad (.inr (.inl ⟨of_decide_eq_true hl,by simpa using h48⟩))).symm
 ·intro hc;rw[hc.2] at h48;simp at h48
 ·have:=of_decide_eq_false h;omega
 ·intro hc;exact absurd hc.1 (of_decide_eq_false hl)
 ·have:=of_decide_eq_false h;omega
 intro x2 c0 c1 c2 c3 c4 I4 F4 hI4 ⟨hz,nov,hF4⟩
 subst hF4
 have hv0:=s5 (s:=s) (i:=i) (v:=0) (by omega)
 rw[gU (n:=n) (by omega)]
 have hpos:en<s.size→cX s en=bt s en:=fun h=>by unfold cX;rw[if_pos h]
 have hneg:¬en<s.size→cX s en=0:=fun h=>by unfold cX;rw[if_neg h]
 refine⟨⟨fun hl=>⟨⟨by omega,of_decide_eq_true hl⟩,fun h=>⟨rfl, ?_,hn,rfl,rfl⟩,fun h=>⟨rfl, ?_,hn,rfl,rfl⟩⟩,fun hl=>⟨rfl, ?_,hn,rfl,rfl⟩⟩, ?_⟩
 ·rw[hpos (of_decide_eq_true hl),if_pos (by simpa using h)]
 ·rw[hpos (of_decide_eq_true hl),if_neg (by simpa using h)]
 ·rw[hneg (of_decide_eq_false hl)];rfl
 intro t0 t1 t2 t3 t4 I5 F5 hI5 ⟨ht0,ht2,ht3,ht4,hF5⟩
 subst hF5
 refine⟨⟨fun hl=>⟨⟨by omega,of_decide_eq_true hl⟩,fun h=>⟨ht0, ?_,ht3,ht4,rfl⟩,fun h=>⟨ht0, ?_,ht3,ht4,rfl⟩⟩,fun hl=>⟨ht0, ?_,ht3,ht4,rfl⟩⟩, ?_⟩
 ·rw[hpos (of_decide_eq_true hl),if_pos (by simpa using h)]
 ·rw[ht2,hpos (of_decide_eq_true hl),if_neg (c:=bt s en=112) (by simpa using h)]
 ·rw[ht2,hneg (of_decide_eq_false hl)];rfl
 clear ht0 ht2 ht3 ht4
 intro t0 t1 t2 t3 t4 I6 F6 hI6 ⟨ht0,ht2,ht3,ht4,hF6⟩
 subst hF6
 refine⟨⟨fun hl=>⟨⟨by omega,of_decide_eq_true hl⟩,fun h=>⟨ht0, ?_,ht3,ht4,rfl⟩,fun h=>⟨ht0, ?_,ht3,ht4,rfl⟩⟩,fun hl=>⟨ht0, ?_,ht3,ht4,rfl⟩⟩, ?_⟩
 ·unfold dM;rw[hpos (of_decide_eq_true hl),if_pos (by simpa using h)]
 ·unfold dM;rw[ht2,hpos (of_decide_eq_true hl),if_neg (c:=bt s en=116) (by simpa using h)]
 ·unfold dM;rw[ht2,hneg (of_decide_eq_false hl)];rfl
 clear ht0 ht2 ht3 ht4
 intro u0 u1 u2 u3 u4 I7 F7 hI7 ⟨hu0,hu2,hu3,hu4,hF7⟩
 subst hu0 hu2 hF7
 obtain rfl:i=u4:=hu4.symm
 refine⟨⟨fun h=>⟨?_,rfl⟩,fun h=>⟨?_,rfl⟩⟩, ?_⟩
 ·show _=if dM (cX s en)=1 then en else en+1
  rw[if_neg (by simpa using h),gU (by omega)]
 ·show _=if dM (cX s en)=1 then en else en+1
  rw[if_pos (by simpa using h)]
 intro e3 I8 F8 hI8 ⟨he3,hF8⟩
 subst he3 hF8
 have okk:¬(e2<s.size∧(dx (bt s e2)=true∨(65≤bt s e2∧bt s e2≤90))) →
   (0≤i∧i≤e2∧e2≤(s.size:Int))∧∀(J:cS),lH (jH s i).v2 F8 (.returned (Value.tuple #[Value.agg #[Value.int .u8 3,Value.string (s.extract (Int.toNat (i)) (Int.toNat (e2))),Value.int .u8 (dM (cX s en)),Value.int .i64 u3,Value.int .i64 i],Value.int .i64 0])) J F8:=fun h=>by
  refine⟨by omega,fun J=>⟨?_,rfl⟩⟩
  rw[hok (fun h'=>h'.elim nov fun h'=>h'.elim hz h),hu3]
  rfl
 refine⟨fun hl=>⟨⟨by omega,of_decide_eq_true hl⟩, ?_⟩,fun hl=>?_⟩
 ·have hl:=of_decide_eq_true hl
  refine cZ.ret (te (bt s e2) I8 _) fun I9 hI9=>⟨_,rfl,F8,.refl _,fun hi=>⟨?_,rfl⟩,fun hi=>⟨⟨by omega,hl⟩,fun h65=>⟨⟨by omega,hl⟩,fun h90=>⟨?_,rfl⟩,fun h90=>?_⟩,fun h65=>?_⟩⟩
  ·exact congrArg Ending.returned (hbad (.inr (.inr ⟨hl,.inl hi⟩))).symm
  ·exact congrArg Ending.returned (hbad (.inr (.inr ⟨hl,.inr ⟨of_decide_eq_true h65,of_decide_eq_true h90⟩⟩))).symm
  ·obtain⟨a1,a2⟩:=okk (fun h=>h.2.elim (fun h=>by rw[hi] at h;cases h) fun h=>of_decide_eq_false h90 h.2)
   exact⟨a1,a2 _⟩
  ·obtain⟨a1,a2⟩:=okk (fun h=>h.2.elim (fun h=>by rw[hi] at h;cases h) fun h=>of_decide_eq_false h65 h.1)
   exact⟨a1,a2 _⟩
 ·obtain⟨a1,a2⟩:=okk (fun h=>of_decide_eq_false hl h.1)
  exact⟨a1,a2 _⟩
def ju:List ByteArray:=[⟨#[61,61]⟩,⟨#[33,61]⟩,⟨#[60,61]⟩,⟨#[62,61]⟩,⟨#[38,38]⟩,⟨#[124,124]⟩,⟨#[123]⟩,⟨#[125]⟩,⟨#[40]⟩,⟨#[41]⟩,⟨#[44]⟩,⟨#[59]⟩,⟨#[63]⟩,⟨#[58]⟩,⟨#[61]⟩,⟨#[33]⟩,⟨#[60]⟩,⟨#[62]⟩,⟨#[43]⟩,⟨#[45]⟩,⟨#[42]⟩,⟨#[47]⟩,⟨#[37]⟩]
def nw(s:ByteArray)(i:Int)(m:ByteArray):Bool:=decide (i+(m.size:Int)≤s.size)&&((cut s i (i+(m.size:Int))).toList==m.toList)
theorem DD{a b:ByteArray}(h:a.toList=b.toList):a=b:=by
 rw[Lib.toList_data,Lib.toList_data] at h
 have:a.data=b.data:=Array.toList_inj.1 h
 cases a;cases b;simp_all
theorem qA{a:ByteArray}{k:Nat}(h:k<a.size):bt a k=(a.data[k].toNat:Int):=by
 have h2:a[k]? = some a[k]:=by simp[h]
 unfold bt
 rw[Int.toNat_natCast,h2]
 rfl
theorem tz{a b:ByteArray}(hs:a.size=b.size)(h:∀k:Nat,k<a.size→bt a k=bt b k):a=b:=by
 have:a.data=b.data:=by
  refine Array.ext hs fun k h1 h2=>?_
  have:=h k h1
  rw[qA h1,qA h2] at this
  exact UInt8.toNat_inj.1 (by omega)
 cases a;cases b;simp_all
theorem vR{s:ByteArray}{i:Int}(h0:0≤i)(m:ByteArray):nw s i m=true↔i+m.size≤s.size∧∀k:Nat,k<m.size→bt s (i+k)=bt m k:=by
 unfold nw
 simp only[Bool.and_eq_true,decide_eq_true_eq,beq_iff_eq]
 refine⟨fun ⟨h1,h2⟩=>⟨h1,fun k hk=>?_⟩,fun ⟨h1,h2⟩=>⟨h1, ?_⟩⟩
 ·have:=DD h2
  rw[←mL (j:=i+m.size) h0 (by omega) (by omega) h1,this]
 ·have hc:=fO (s:=s) h0 (by omega:i≤i+m.size) h1
  have:cut s i (i+m.size)=m:=tz (by omega) fun k hk=>by
   rw[mL h0 (by omega) (by omega) h1]
   exact h2 k (by omega)
  rw[this]
theorem Gh{s:ByteArray}{i:Int}(h0:0≤i)(h:i<s.size)(c:UInt8):nw s i ⟨#[c]⟩=(bt s i==(c.toNat:Int)):=by
 rw[Bool.eq_iff_iff,vR h0,beq_iff_eq]
 refine⟨fun ⟨_,h⟩=>by have:=h 0 (Nat.lt_succ_self 0);rwa [Int.natCast_zero,Int.add_zero] at this,fun hc=>⟨by show i+((1:Nat):Int)≤_;omega,fun k hk=>?_⟩⟩
 have:k=0:=by have:k<1:=hk;omega
 subst this
 rw[Int.natCast_zero,Int.add_zero,hc];rfl
theorem Ej{s:ByteArray}{i:Int}(h0:0≤i)(c d:UInt8)(hd:d.toNat≠0):nw s i ⟨#[c,d]⟩=(bt s i==(c.toNat:Int)&&cX s (i+1)==(d.toNat:Int)):=by
 rw[Bool.eq_iff_iff,vR h0]
 simp only[Bool.and_eq_true,beq_iff_eq]
 refine⟨fun ⟨h1,h⟩=>⟨?_, ?_⟩,fun ⟨hc,hd'⟩=>?_⟩
 ·have:=h 0 (show 0<2 by decide);rwa [Int.natCast_zero,Int.add_zero] at this
 ·have h1:i+((2:Nat):Int)≤s.size:=h1
  unfold cX
  rw[if_pos (by omega)]
  exact h 1 (show 1<2 by decide)
 ·have hl:i+1<s.size:=by
   rcases Int.lt_or_le (i+1) s.size with h | h
   ·exact h
   ·unfold cX at hd';rw[if_neg (by omega)] at hd';omega
  unfold cX at hd'
  rw[if_pos hl] at hd'
  refine⟨by show i+((2:Nat):Int)≤_;omega,fun k hk=>?_⟩
  have hk:k<2:=hk
  rcases (by omega:k=0∨k=1) with rfl | rfl
  ·rw[Int.natCast_zero,Int.add_zero,hc];rfl
  ·exact hd'
theorem AA{s:ByteArray}{i:Int}(h0:0≤i)(h:i<s.size) :
  (ju.find? (nw s i)=none∧eF s i=0)∨(∃m,ju.find? (nw s i)=some m∧(m.size:Int)=eF s i∧0<eF s i∧cut s i (i+eF s i)=m):=by
 have key:(ju.find? (nw s i)=none∧eF s i=0)∨(∃m,ju.find? (nw s i)=some m∧(m.size:Int)=eF s i∧0<eF s i):=by
  unfold ju
  simp only[List.find?_cons,List.find?_nil,Gh h0 h,Ej h0 _ 61 (by decide),Ej h0 _ 38 (by decide),Ej h0 _ 124 (by decide)]
  unfold eF
  generalize bt s i=c
  generalize cX s (i+1)=d
  clear h h0
  repeat' split
  all_goals first | (simp_all [single];done) | (simp_all [single];rfl) | (simp_all [single];omega)
 rcases key with hk | ⟨m,hm,hs,hp⟩
 ·exact .inl hk
 ·refine .inr ⟨m,hm,hs,hp, ?_⟩
  have:=List.find?_some hm
  rw[vR h0] at this
  rw[←hs]
  have hc:=fO (s:=s) h0 (by omega:i≤i+m.size) this.1
  refine tz (by omega) fun k hk=>?_
  rw[mL h0 (by omega) (by omega) this.1]
  exact this.2 k (by omega)
theorem xB{k:Nat}{m:ByteArray}(h:ju[k]? = some m):m.size≤2:=by
 have:=List.mem_of_getElem? h
 simp only[ju,List.mem_cons,List.not_mem_nil,or_false] at this
 rcases this with h | h | h | h | h | h | h | h | h | h | h | h | h | h | h | h | h | h | h | h | h | h | h<;>(subst h;decide)
theorem yJ{s:ByteArray}(hs:dj s){i:Int}(h0:0≤i)(h1:i<s.size)(I:cS)(F:cR):cZ P 58 #[.string s,.int .i64 i] I F (lH (jR s i).v2 F):=by
 unfold dj at hs
 have hm:=AA h0 h1
 refine mN.vc (fun x k b0 b1 b2 b3 b4 m I' F'=>0≤k∧k≤23∧m=(23-k).toNat∧ju.find? (nw s i)=(ju.drop k.toNat).find? (nw s i)∧F'=F) ?_
 unfold mN.V
 intro b b1 I1 hI1 hb1
 have hS:Sl I1 1 kH (some ⟨b1,0,none⟩) 23 ju:=Sl.jG (f:=kH) (z:=1) (l:=ju) (fun _=>rfl) hb1 (by kernel_rfl)
 refine⟨⟨_,by omega,by omega,rfl,rfl,rfl⟩,fun x k c0 c1 c2 c3 c4 m I2 F2 hI2 ⟨g0,g1,gm,gf,gF⟩=>⟨fun hlt=>?_,fun hlt=>?_⟩⟩
 ·have hlt:k<23:=of_decide_eq_true hlt
  obtain⟨ad,w,ha,hw,hrd⟩:=(hS.mono hI2).at (i:=k) g0 hlt
  have hwz:=xB hw
  subst gF
  rw[Aq hw] at gf
  have cont:nw s i w=false→∃m6,m6<m∧(0≤IntKind.wrap .i64 (k+1)∧IntKind.wrap .i64 (k+1)≤23∧m6=(23-IntKind.wrap .i64 (k+1)).toNat ∧
    ju.find? (nw s i)=(ju.drop (IntKind.wrap .i64 (k+1)).toNat).find? (nw s i)∧F2=F2):=fun h=>by
   rw[gU (by omega)]
   refine⟨(23-(k+1)).toNat,by omega,by omega,by omega,rfl, ?_,rfl⟩
   rw[gf,h,show (k+1).toNat=k.toNat+1 by omega];rfl
  refine⟨⟨g0,hlt⟩,ad,ha,w,hrd _, ?_⟩
  rw[gU (n:=i+w.size) (by omega)]
  refine⟨fun hle=>⟨⟨h0,by omega,of_decide_eq_true hle⟩,⟨g0,hlt⟩,ad,ha,w,hrd _,fun he=>⟨⟨g0,hlt⟩,ad,ha,w,hrd _, ?_,rfl⟩,fun he=>cont ?_⟩,fun hle=>cont ?_⟩
  ·have hhit:nw s i w=true:=by
    unfold nw;rw[hle,Bool.true_and];exact he
   rw[hhit,if_pos rfl] at gf
   rcases hm with ⟨h,_⟩ | ⟨w',h,hsz,hp,hcut⟩
   ·rw[h] at gf;cases gf
   ·rw[h] at gf;cases gf
    unfold jR
    rw[if_neg (by omega),hcut];rfl
  ·unfold nw;rw[hle,Bool.true_and];exact he
  ·unfold nw;rw[hle];rfl
 ·have hlt:¬k<23:=of_decide_eq_false hlt
  refine⟨?_,gF⟩
  rw[List.drop_eq_nil_of_le (by show 23≤_;omega)] at gf
  rcases hm with ⟨h,hz⟩ | ⟨w',h,_⟩
  ·unfold jR
   rw[if_pos hz];rfl
  ·rw[h] at gf;cases gf
def TR.v3:TR→Value
 | .ok t=>.tuple #[t.v,.int .i64 0,.int .i64 0]
 | .bad e p=>.tuple #[(ir 0).v,.int .i64 e,.int .i64 p]
theorem BP(s:ByteArray)(i:Int):(∃t,jH s i=.ok t)∨∃e,jH s i=.bad e i∧(e != 0)=true:=by
 rcases tq s i with ⟨t,h,_⟩ | h
 ·exact .inl ⟨t,h⟩
 ·exact .inr ⟨_,h,rfl⟩
theorem AB(s:ByteArray)(i:Int):(∃t,jQ s i=.ok t)∨∃e,jQ s i=.bad e i∧(e != 0)=true:=by
 unfold jQ;simp only;split
 ·exact .inr ⟨_,rfl,rfl⟩
 ·exact .inl ⟨_,rfl⟩
theorem AD(s:ByteArray)(i:Int):(∃t,jR s i=.ok t)∨∃e,jR s i=.bad e i∧(e != 0)=true:=by
 unfold jR;split
 ·exact .inr ⟨_,rfl,rfl⟩
 ·exact .inl ⟨_,rfl⟩
theorem BQ{c:Int}(h:gE c=true):dh c=false:=by
 simp only[gE,dh,Bool.and_eq_true,decide_eq_true_eq,Bool.and_eq_false_iff,decide_eq_false_iff_not] at h ⊢
 omega
theorem BR{s:ByteArray}(hs:dj s){f:Int}(h0:0≤f)(h1:f≤s.size)(I:cS)(F:cR):cZ P 22 #[.string s,.int .i64 f] I F (lH (fj s f).v3 F):=by
 have hs':=hs
 unfold dj at hs'
 refine nZ.vc ?_
 unfold nZ.V
 intro b
 have ho:=fN (s:=s) h1
 refine cZ.ret (yI hs h0 h1 I _) fun I1 hI1=>⟨_,rfl,F,.refl _, ?_⟩
 unfold fj
 simp only
 generalize dg s f=r at ho ⊢
 refine⟨fun h=>⟨?_,rfl⟩,fun h b_t=>?_⟩
 ·rw[if_pos (by simpa using h)];rfl
 ·have hne:r≠s.size:=by simpa using h
  have hlt:r<s.size:=by omega
  rw[if_neg hne]
  refine⟨⟨by omega,hlt⟩, ?_⟩
  refine cZ.ret (pR (bt s r) I1 _) fun I2 hI2=>⟨_,rfl,F,.refl _,fun hm=>?_,fun hm=>⟨⟨by omega,hlt⟩, ?_⟩⟩
  ·rw[if_neg (by rw[BQ hm];exact Bool.false_ne_true),if_pos hm]
   refine cZ.ret (xA hs (by omega) hlt I2 _) fun I3 hI3=>?_
   rcases AB s r with ⟨t,ht⟩ | ⟨e,ht,he⟩
   ·rw[ht];exact⟨_,_,_,_,_,_,rfl,F,.refl _,fun h=>absurd h (by decide),fun _=>⟨rfl,rfl⟩⟩
   ·rw[ht];exact⟨_,_,_,_,_,_,rfl,F,.refl _,fun h=>⟨rfl,rfl⟩,fun h=>by rw[he] at h;cases h⟩
  ·rw[if_neg (c:=gE (bt s r)=true) (by rw[hm];exact Bool.false_ne_true)]
   refine cZ.ret (nq (bt s r) I2 _) fun I3 hI3=>⟨_,rfl,F,.refl _,fun hd=>?_,fun hd=>?_⟩
   ·rw[if_pos hd]
    refine cZ.ret (vQ hs (by omega) hlt I3 _) fun I4 hI4=>?_
    rcases BP s r with ⟨t,ht⟩ | ⟨e,ht,he⟩
    ·rw[ht];exact⟨_,_,_,_,_,_,rfl,F,.refl _,fun h=>absurd h (by decide),fun _=>⟨rfl,rfl⟩⟩
    ·rw[ht];exact⟨_,_,_,_,_,_,rfl,F,.refl _,fun h=>⟨rfl,rfl⟩,fun h=>by rw[he] at h;cases h⟩
   ·rw[if_neg (by rw[hd];exact Bool.false_ne_true)]
    refine cZ.ret (yJ hs (by omega) hlt I3 _) fun I4 hI4=>?_
    rcases AD s r with ⟨t,ht⟩ | ⟨e,ht,he⟩
    ·rw[ht];exact⟨_,_,_,_,_,_,rfl,F,.refl _,fun h=>absurd h (by decide),fun _=>⟨rfl,rfl⟩⟩
    ·rw[ht];exact⟨_,_,_,_,_,_,rfl,F,.refl _,fun h=>⟨rfl,rfl⟩,fun h=>by rw[he] at h;cases h⟩
def iv(s:ByteArray):Nat→Int→List Tok×Option (Int×Int)
 | 0,_=>([],none)
 | n+1,f=>match fj s f with
   | .bad e p=>([],some (e,p))
   | .ok t=>if t.kind=0 then ([t],none) else (t::(iv s n (t.pos+t.text.size)).1,(iv s n (t.pos+t.text.size)).2)
def eQ(s:ByteArray)(f:Int):List Tok×Option (Int×Int):=iv s (s.size-f+1).toNat f
theorem fP{s:ByteArray}{f:Int}(h0:0≤f)(h1:f≤s.size){t:Tok}(ht:fj s f=.ok t):t.pos+t.text.size≤s.size∧f≤t.pos∧(t.kind≠0→f+1≤t.pos+t.text.size):=by
 have ho:=fN (s:=s) h1
 rcases fo h0 h1 with ⟨t',ht',hp,hl,_,hk⟩ | ⟨e,ht',_⟩
 ·rw[ht] at ht';cases ht'
  refine⟨hl,by omega,fun hne=>?_⟩
  rcases hk with ⟨h,_⟩ | ⟨_,_,h⟩
  ·exact absurd h hne
  ·omega
 ·rw[ht] at ht';cases ht'
theorem tA(s:ByteArray):∀(n n':Nat) (f:Int),0≤f→f≤s.size→(s.size-f+1).toNat≤n→(s.size-f+1).toNat≤n'→iv s n f=iv s n' f
 | 0,n',f,h0,h1,hn,hn'=>by omega
 | n+1,0,f,h0,h1,hn,hn'=>by omega
 | n+1,n'+1,f,h0,h1,hn,hn'=>by
   unfold iv
   cases ht:fj s f with
   | bad e p=>rfl
   | ok t =>
     have:=fP h0 h1 ht
     by_cases hk:t.kind=0
     ·simp[hk]
     ·have:=this.2.2 hk
      simp only[hk,if_false]
      rw[tA s n n' _ (by omega) (by omega) (by omega) (by omega)]
theorem eS{s:ByteArray}{f:Int}(h0:0≤f)(h1:f≤s.size):eQ s f=match fj s f with
  | .bad e p=>([],some (e,p))
  | .ok t=>if t.kind=0 then ([t],none) else (t::(eQ s (t.pos+t.text.size)).1,(eQ s (t.pos+t.text.size)).2):=by
 unfold eQ
 obtain⟨n,hn⟩:∃n,(s.size-f+1).toNat=n+1:=⟨(s.size-f+1).toNat-1,by omega⟩
 rw[hn]
 show (match fj s f with
  | .bad e p=>([],some (e,p))
  | .ok t=>if t.kind=0 then ([t],none) else (t::(iv s n (t.pos+t.text.size)).1,(iv s n (t.pos+t.text.size)).2))=_
 cases ht:fj s f with
 | bad e p=>rfl
 | ok t =>
   have:=fP h0 h1 ht
   by_cases hk:t.kind=0
   ·simp[hk]
   ·have:=this.2.2 hk
    simp only[hk,if_false]
    rw[tA s n _ _ (by omega) (by omega) (by omega) (Nat.le_refl _)]
def hZ(s:ByteArray):Except (Int×Int) (List Tok) :=
 if (s.size:Int)>4096 then .error (110,0) else match eQ s 0 with
  | (l,none)=>.ok l
  | (_,some ep)=>.error ep
def Tok.enc(t:Tok):List Value:=[.int .u8 t.kind,.string t.text,.int .u8 t.dH,.int .i64 t.n,.int .i64 t.pos]
def vS(r:Except (Int×Int) (List Tok))(F:cR)(e:Ending)(I:cS)(G:cR):Prop :=
 G=F∧match r with
  | .ok l=>∃a n c,e=.returned (.tuple #[.slice a n c,.int .i64 0,.int .i64 0])∧Sl I 5 Tok.enc a n l
  | .error (e',p)=>e=.returned (.tuple #[.slice none 0 0,.int .i64 e',.int .i64 p])
def n6(r:Except (Int×Int) (List Tok))(F:cR)(e:Ending)(I:cS)(G:cR):Prop :=
 match r with
  | .ok l=>∃a n c A,e=.returned (.tuple #[.slice a n c,.int .i64 0,.int .i64 0])∧Acc 5 Tok.enc 76 a n c l A∧G=A++F
  | .error (e',p)=>∃A,e=.returned (.tuple #[.slice none 0 0,.int .i64 e',.int .i64 p])∧G=A++F
theorem n6.keep{f:Nat}{args:Array Value}{I:cS}{F:cR}{r:Except (Int×Int) (List Tok)}(h:cZ P f args I F (n6 r F)):cZ P f args I F (vS r F):=by
 refine h.keep fun e I' G w hl hs hq=>?_
 unfold n6 at hq
 split at hq
 ·obtain⟨a,n,c,A,he,hA,hG⟩:=hq
  subst hG
  obtain⟨J,h1,h2,h3⟩:=Acc.keep (z:=5) (f:=Tok.enc) (fun _=>rfl) hA hs
  exact⟨J,F,h1,h2,rfl,a,n,c,he,h3⟩
 ·obtain⟨A,he,hG⟩:=hq
  subst hG
  exact⟨I',F,cS.le_refl _,hs.drop,rfl,he⟩
theorem CT:∀(t:Tok),∀u∈t.enc,u.oneCell'=true:=by
 intro t u hu
 simp only[Tok.enc,List.mem_cons,List.not_mem_nil,or_false] at hu
 rcases hu with h | h | h | h | h<;>(subst h;rfl)
theorem tB{a:Option Addr}{n c:Nat}{l:List Tok}{A F:cR}(hA:Acc 5 Tok.enc 76 a n c l A)(hl:l.length≤1000000000)(t:Tok){b:Nat}{I:cS}(hb:I b=some (.cells t.enc.toArray 76 (0,0))) :
  dO P (Builtin.append_ #[80,80] 80 #[.slice a n c,.slice (some ⟨b,0,none⟩) 1 1]) I (A++F) fun v I' G=>∃a' n' c' A',v=.slice a' n' c'∧Acc 5 Tok.enc 76 a' n' c' (l++[t]) A'∧G=A'++F:=by
 refine (jX (f:=Tok.enc) (zv:=(ir 0).v) (fun _=>rfl) (by':=48) (by kernel_rfl) (by kernel_rfl) rfl (by decide) hA (xs:=[t]) (fun x _=>CT x) (by simp) rfl ?_ (by simp only[List.length_cons,List.length_nil];omega)).mono
  fun v I' G _ ⟨a',n',c',A',h1,h2,h3,_⟩=>⟨a',n',c',A',h1,h2,h3⟩
 exact⟨rfl,_,_,_,.inl hb,fun j hj=>by simp⟩
theorem yK{s:ByteArray}(hs:dj s)(I:cS)(F:cR):cZ P 124 #[.string s] I F (n6 (hZ s) F):=by
 refine mJ.vc (fun x_a x_n x_c x x1 a n c f m I' F'=>0≤f∧f≤s.size∧m=(s.size-f).toNat∧∃l A,Acc 5 Tok.enc 76 a n c l A∧F'=A++F∧l.length≤f ∧
  eQ s 0=(l++(eQ s f).1,(eQ s f).2)) ?_
 unfold mJ.V
 unfold hZ
 refine⟨fun h=>?_,fun h=>?_⟩
 ·rw[if_pos (of_decide_eq_true h)]
  exact⟨[],rfl,rfl⟩
 have h:=of_decide_eq_false h
 rw[if_neg h]
 refine⟨⟨_,by omega,by omega,rfl,[],[],Acc.nil,rfl,by decide,rfl⟩, ?_⟩
 intro x_a x_n x_c x x1 a n c f m I1 F1 hI1 ⟨h0,h1,gm,l,A,hA,hF,hl,ht⟩
 subst hF
 rw[eS h0 h1] at ht
 refine cZ.ret (tu hs h0 h1 I1 _) fun I2 hI2=>?_
 rcases fo h0 h1 with ⟨t,htok,htat⟩ | ⟨e,htok,he⟩
 ·rw[htok] at ht ⊢
  have hnx:=fP h0 h1 htok
  refine⟨_,_,_,_,_,_,rfl,_,.refl _,fun b_t=>⟨fun h=>absurd h (by decide),fun _=>?_⟩⟩
  intro b I3 hI3 hb
  refine dO.perm ((tB hA (by omega) t hb (F:=(b_t,_)::F)).mono fun v I4 G2 hI4 ⟨a',n',c',A',hv,hA',hG⟩=>?_) List.perm_middle.symm
  subst hG
  refine⟨_,_,_,hv,A'++F,List.perm_middle,fun hk=>?_,fun hk=>?_⟩
  ·have hk:t.kind=0:=by simpa using hk
   simp only[hk,if_true] at ht
   rw[ht]
   exact⟨_,_,_,_,rfl,hA',rfl⟩
  ·have hk:t.kind≠0:=by simpa using hk
   have:=hnx.2.2 hk
   simp only[hk,if_false] at ht
   rw[gU (by omega)]
   refine⟨_, ?_,by omega,by omega,rfl,_,_,hA',rfl, ?_, ?_⟩
   ·omega
   ·rw[List.length_append,List.length_singleton];omega
   ·rw[ht,List.append_assoc];rfl
 ·rw[htok] at ht ⊢
  refine⟨_,_,_,_,_,_,rfl,_,.refl _,fun b_t=>⟨fun _=>?_,fun h=>?_⟩⟩
  ·rw[ht]
   exact⟨A,rfl,rfl⟩
  ·rcases he with rfl | rfl | rfl<;>exact absurd h (by decide)
theorem xC{s:ByteArray}(hs:dj s)(I:cS)(F:cR):cZ P 124 #[.string s] I F (vS (hZ s) F):=n6.keep (yK hs I F)
def BS(r:List Tok×Option (Int×Int))(F:cR)(e:Ending)(I:cS)(G:cR):Prop :=
 ∃a n c A,e=.returned (.tuple #[.slice a n c,.int .i64 ((r.2.map Prod.fst).getD 0),.int .i64 ((r.2.map Prod.snd).getD 0)])∧Acc 5 Tok.enc 76 a n c r.1 A∧G=A++F
theorem yL{s:ByteArray}(hs:dj s)(hs2:(s.size:Int)≤1000000000)(I:cS)(F:cR):cZ P 59 #[.string s] I F (BS (eQ s 0) F):=by
 refine k8.vc (fun x_a x_n x_c x x1 a n c f m I' F'=>0≤f∧f≤s.size∧m=(s.size-f).toNat∧∃l A,Acc 5 Tok.enc 76 a n c l A∧F'=A++F∧l.length≤f ∧
  eQ s 0=(l++(eQ s f).1,(eQ s f).2)) ?_
 unfold k8.V
 have h:True:=trivial
 refine⟨⟨_,by omega,by omega,rfl,[],[],Acc.nil,rfl,by decide,rfl⟩, ?_⟩
 intro x_a x_n x_c x x1 a n c f m I1 F1 hI1 ⟨h0,h1,gm,l,A,hA,hF,hl,ht⟩
 subst hF
 rw[eS h0 h1] at ht
 refine cZ.ret (BR hs h0 h1 I1 _) fun I2 hI2=>?_
 rcases fo h0 h1 with ⟨t,htok,htat⟩ | ⟨e,htok,he⟩
 ·rw[htok] at ht ⊢
  have hnx:=fP h0 h1 htok
  refine⟨_,_,_,_,_,_,_,rfl,_,.refl _,fun b_t=>⟨fun h=>absurd h (by decide),fun _=>?_⟩⟩
  intro b I3 hI3 hb
  refine dO.perm ((tB hA (by omega) t hb (F:=(b_t,_)::F)).mono fun v I4 G2 hI4 ⟨a',n',c',A',hv,hA',hG⟩=>?_) List.perm_middle.symm
  subst hG
  refine⟨_,_,_,hv,A'++F,List.perm_middle,fun hk=>?_,fun hk=>?_⟩
  ·have hk:t.kind=0:=by simpa using hk
   simp only[hk,if_true] at ht
   rw[ht]
   exact⟨_,_,_,_,rfl,hA',rfl⟩
  ·have hk:t.kind≠0:=by simpa using hk
   have:=hnx.2.2 hk
   simp only[hk,if_false] at ht
   rw[gU (by omega)]
   refine⟨_, ?_,by omega,by omega,rfl,_,_,hA',rfl, ?_, ?_⟩
   ·omega
   ·rw[List.length_append,List.length_singleton];omega
   ·rw[ht,List.append_assoc];rfl
 ·rw[htok] at ht ⊢
  refine⟨_,_,_,_,_,_,_,rfl,_,.refl _,fun b_t=>⟨fun _=>?_,fun h=>?_⟩⟩
  ·rw[ht]
   exact⟨_,_,_,A,rfl,by simpa using hA,rfl⟩
  ·rcases he with rfl | rfl | rfl<;>exact absurd h (by decide)
theorem xD{s:ByteArray}:∀(n:Nat) (f:Int),0≤f→f≤s.size→∀e p,(iv s n f).2=some (e,p)→(e != 0)=true
 | 0,f,_,_,e,p,h=>by simp[iv] at h
 | n+1,f,h0,h1,e,p,h=>by
   unfold iv at h
   rcases fo h0 h1 with ⟨t,htok,htat⟩ | ⟨e',htok,he⟩
   ·rw[htok] at h
    have hnx:=fP h0 h1 htok
    by_cases hk:t.kind=0
    ·simp[hk] at h
    ·simp only[hk,if_false] at h
     exact xD n _ (by omega) (by omega) e p h
   ·rw[htok] at h
    simp only[Option.some.injEq,Prod.mk.injEq] at h
    rcases he with he | he | he<;>(rw[←h.1,he];rfl)
theorem vT{s:ByteArray}(hs:dj s)(I:cS)(F:cR):cZ P 23 #[.string s] I F (vS (hZ s) F):=by
 refine n6.keep ?_
 refine j3.vc ?_
 unfold j3.V
 unfold hZ
 refine⟨fun h=>?_,fun h=>?_⟩
 ·rw[if_pos (of_decide_eq_true h)]
  exact⟨[],rfl,rfl⟩
 have h:=of_decide_eq_false h
 rw[if_neg h]
 refine (yL hs (by omega) I F).mono fun e I1 G hI ⟨a,n,c,A,he,hA,hG⟩=>?_
 subst hG
 refine⟨_,_,_,_,_,he,_,.refl _,fun h=>?_,fun h=>?_⟩
 ·cases ht:(eQ s 0).2 with
  | none=>rw[ht] at h;cases h
  | some ep =>
    have:eQ s 0=((eQ s 0).1,some ep):=by rw[←ht]
    rw[this]
    exact⟨A,rfl,rfl⟩
 ·cases ht:(eQ s 0).2 with
  | none =>
    have:eQ s 0=((eQ s 0).1,none):=by rw[←ht]
    rw[this]
    exact⟨_,_,_,A,rfl,hA,rfl⟩
  | some ep =>
    have:=xD _ 0 (by omega) (by omega) ep.1 ep.2 ht
    rw[ht] at h
    simp only[Option.map_some,Option.getD_some] at h
    rw[this] at h;cases h
structure PF where
 e:Int
 pos:Int
 tok:Bool
structure PS where
 next:Nat
 f:PF
structure PC where
 l:List Tok
 bad:Int
 pos:Int
def eU:Px:=.mk 0 0 0 0 0 ⟨#[]⟩ [] 0
def PS.over(s:PS):Bool:=s.f.e != 0
def PS.inc(s:PS):PS:=⟨s.next+1,s.f⟩
section
variable (c:PC)
def PC.tok(i:Nat):Tok:=(c.l[i]?).getD (ir 0)
def PC.now(s:PS):Tok:=if s.over||decide (c.l.length≤s.next) then ir 0 else c.tok s.next
def PC.c5(e:Int)(s:PS):PS:=if s.over then s else if c.l.length≤s.next then ⟨s.next,⟨c.bad,c.pos,true⟩⟩ else ⟨s.next,⟨e,(c.tok s.next).pos,false⟩⟩
def PC.ej(w:ByteArray)(s:PS):Bool:=(c.now s).text.toList==w.toList&&((c.now s).kind==1||(c.now s).kind==4)
def PC.gG(s:PS):List ByteArray→Int→Int
 | [],_=>-1
 | w::r,i=>if c.ej w s then i else PC.gG s r (i+1)
def PC.any(ws:List ByteArray)(s:PS):Int:=c.gG s ws 0
def PC.take(w:ByteArray)(s:PS):Int×PS:=if c.ej w s then ((c.now s).pos,s.inc) else (0,c.c5 130 s)
def PC.name(s:PS):ByteArray×PS:=if (c.now s).kind=2 then ((c.now s).text,s.inc) else (⟨#[]⟩,c.c5 130 s)
def PC.cT(d:Int)(s:PS):PS:=if 24<d+1 then c.c5 132 s else s
def pW(dH n pos:Int):Px:=.mk 1 0 dH n 0 ⟨#[]⟩ [] pos
def PC.literal(s:PS):(Px×Bool)×PS :=
 if (c.now s).kind=3 then ((pW (c.now s).dH (c.now s).n (c.now s).pos,true),s.inc)
 else if (c.now s).kind=1∧((c.now s).text.toList=(⟨#[116,114,117,101]⟩:ByteArray).toList∨(c.now s).text.toList=(⟨#[102,97,108,115,101]⟩:ByteArray).toList) then ((pW 5 (if (c.now s).text.toList=(⟨#[116,114,117,101]⟩:ByteArray).toList then 1 else 0) (c.now s).pos,true),s.inc)
 else if (c.now s).kind=1∧((c.now s).text.toList=(⟨#[98,117,121]⟩:ByteArray).toList∨(c.now s).text.toList=(⟨#[115,101,108,108]⟩:ByteArray).toList) then ((pW 6 (if (c.now s).text.toList=(⟨#[115,101,108,108]⟩:ByteArray).toList then 2 else 1) (c.now s).pos,true),s.inc)
 else ((eU,false),s)
structure Lv where
 ex:PS→Px×PS
 un:PS→Px×PS
def PC.dF(nx:Lv):Nat→Bool→PS→List Px×PS
 | 0,_,s=>([],s)
 | n+1,first,s =>
   let r:=nx.ex (if first then s else (c.take (⟨#[44]⟩:ByteArray) s).2)
   let q:=PC.dF nx n false r.2
   (r.1::q.1,q.2)
def PC.call(nx:Lv)(d:Int)(kind oper dH pos:Int)(many:Nat)(s:PS):Px×PS :=
 if (c.cT d s).over then (eU,c.cT d s)
 else
  let q:=c.dF nx many true (c.take (⟨#[40]⟩:ByteArray) (c.cT d s).inc).2
  (.mk kind oper dH 0 0 ⟨#[]⟩ q.1 pos,(c.take (⟨#[41]⟩:ByteArray) q.2).2)
def PC.rest(nx:Lv)(d:Int)(s:PS):Px×PS :=
 if c.ej (⟨#[104,97,115]⟩:ByteArray) s then
  if c.any [(⟨#[98,105,100]⟩:ByteArray),(⟨#[97,115,107]⟩:ByteArray),(⟨#[108,97,115,116]⟩:ByteArray)] s.inc<0 then (eU,c.c5 130 s.inc) else (.mk 4 0 0 0 (c.any [(⟨#[98,105,100]⟩:ByteArray),(⟨#[97,115,107]⟩:ByteArray),(⟨#[108,97,115,116]⟩:ByteArray)] s.inc+1) ⟨#[]⟩ [] (c.now s).pos,s.inc.inc)
 else if c.ej (⟨#[40]⟩:ByteArray) s then
  if (c.cT d s).over then (eU,c.cT d s)
  else
   let r:=nx.ex (c.cT d s).inc
   (r.1,(c.take (⟨#[41]⟩:ByteArray) r.2).2)
 else (eU,c.c5 130 s)
def jv:List ByteArray:=[(⟨#[98,105,100]⟩:ByteArray),(⟨#[97,115,107]⟩:ByteArray),(⟨#[108,97,115,116]⟩:ByteArray),(⟨#[118,111,108,117,109,101]⟩:ByteArray),(⟨#[110,111,119]⟩:ByteArray),(⟨#[111,112,101,110]⟩:ByteArray)]
def gL:List ByteArray:=[(⟨#[97,98,115]⟩:ByteArray),(⟨#[109,105,110]⟩:ByteArray),(⟨#[109,97,120]⟩:ByteArray)]
def jS:List ByteArray:=[(⟨#[105,110,116]⟩:ByteArray),(⟨#[113,116,121]⟩:ByteArray),(⟨#[112,114,105,99,101]⟩:ByteArray),(⟨#[116,105,109,101]⟩:ByteArray)]
def PC.one(nx:Lv)(d:Int)(s:PS):Px×PS :=
 if (c.literal s).1.2 then ((c.literal s).1.1,(c.literal s).2)
 else if (c.now s).kind=2 then (.mk 2 0 0 0 0 (c.now s).text [] (c.now s).pos,s.inc)
 else if 0≤c.any jv s then (.mk 3 0 0 0 (c.any jv s+1) ⟨#[]⟩ [] (c.now s).pos,s.inc)
 else if 0≤c.any gL s then c.call nx d 8 (3+c.any gL s) 0 (c.now s).pos (if c.any gL s=0 then 1 else 2) s
 else if 0≤c.any jS s then c.call nx d 9 0 (1+c.any jS s) (c.now s).pos 1 s
 else c.rest nx d s
def k9:List ByteArray:=[(⟨#[45]⟩:ByteArray),(⟨#[33]⟩:ByteArray)]
def PC.unary(nx:Lv)(d:Int)(s:PS):Px×PS :=
 if c.any k9 s<0 then c.one nx d s
 else if (c.cT d s).over then (eU,c.cT d s)
 else
  let r:=nx.un (c.cT d s).inc
  (.mk 5 (1+c.any k9 s) 0 0 0 ⟨#[]⟩ [r.1] (c.now (c.cT d s)).pos,r.2)
def jc(o pos:Int)(a b:Px):Px:=.mk 6 o 0 0 0 ⟨#[]⟩ [a,b] pos
def PC.dN(ws:List ByteArray)(o:Int)(sub:PS→Px×PS):Nat→Px→PS→Px×PS
 | 0,n,s=>(n,s)
 | m+1,n,s=>if c.any ws s<0 then (n,s) else
   let k:=sub s.inc
   PC.dN ws o sub m (jc (o+c.any ws s) (c.now s).pos n k.1) k.2
def PC.loop(ws:List ByteArray)(o:Int)(sub:PS→Px×PS)(s:PS):Px×PS:=c.dN ws o sub c.l.length (sub s).1 (sub s).2
def CU:List ByteArray:=[(⟨#[42]⟩:ByteArray),(⟨#[47]⟩:ByteArray),(⟨#[37]⟩:ByteArray)]
def Ek:List ByteArray:=[(⟨#[43]⟩:ByteArray),(⟨#[45]⟩:ByteArray)]
def jd:List ByteArray:=[(⟨#[61,61]⟩:ByteArray),(⟨#[33,61]⟩:ByteArray),(⟨#[60]⟩:ByteArray),(⟨#[60,61]⟩:ByteArray),(⟨#[62]⟩:ByteArray),(⟨#[62,61]⟩:ByteArray)]
def El:List ByteArray:=[(⟨#[38,38]⟩:ByteArray)]
def Gi:List ByteArray:=[(⟨#[124,124]⟩:ByteArray)]
def PC.product(nx:Lv)(d:Int)(s:PS):Px×PS:=c.loop CU 8 (c.unary nx d) s
def PC.sum(nx:Lv)(d:Int)(s:PS):Px×PS:=c.loop Ek 6 (c.product nx d) s
def PC.compare(nx:Lv)(d:Int)(s:PS):Px×PS :=
 let n:=c.sum nx d s
 if c.any jd n.2<0 then n else
  let k:=c.sum nx d n.2.inc
  (jc (11+c.any jd n.2) (c.now n.2).pos n.1 k.1,k.2)
def PC.and(nx:Lv)(d:Int)(s:PS):Px×PS:=c.loop El 17 (c.compare nx d) s
def PC.or(nx:Lv)(d:Int)(s:PS):Px×PS:=c.loop Gi 18 (c.and nx d) s
def PC.expr(nx:Lv)(d:Int)(s:PS):Px×PS :=
 let n:=c.or nx d s
 if c.ej (⟨#[63]⟩:ByteArray) n.2 then
  if (c.cT d n.2).over then (eU,c.cT d n.2)
  else
   let a:=nx.ex (c.cT d n.2).inc
   let b:=nx.ex (c.take (⟨#[58]⟩:ByteArray) a.2).2
   (.mk 7 0 0 0 0 ⟨#[]⟩ [n.1,a.1,b.1] (c.now (c.cT d n.2)).pos,b.2)
 else n
def PC.lv(nx:Lv)(d:Int):Lv:=⟨c.expr nx d,c.unary nx d⟩
def PC.lvl:Nat→Int→Lv
 | 0,d=>c.lv ⟨fun s=>(eU,s),fun s=>(eU,s)⟩ d
 | k+1,d=>c.lv (PC.lvl k (d+1)) d
def PC.dW(s:PS):Px×PS:=(c.lvl 24 0).ex s
def jr:List ByteArray:=[(⟨#[105,110,116]⟩:ByteArray),(⟨#[113,116,121]⟩:ByteArray),(⟨#[112,114,105,99,101]⟩:ByteArray),(⟨#[116,105,109,101]⟩:ByteArray),(⟨#[98,111,111,108]⟩:ByteArray),(⟨#[115,105,100,101]⟩:ByteArray)]
def PC.lQ(nm:ByteArray)(t pos pos2:Int)(minus:Bool)(n:Px)(s:PS):dL×PS:=(⟨nm,t,if minus then .mk 5 1 0 0 0 ⟨#[]⟩ [n] pos2 else n,pos⟩,(c.take (⟨#[59]⟩:ByteArray) s).2)
def PC.jJ(nm:ByteArray)(t pos pos2:Int)(minus:Bool)(s:PS):dL×PS :=
 if minus=true∧(c.now s).kind≠3 then (⟨nm,t,eU,pos⟩,c.c5 130 s) else c.lQ nm t pos pos2 minus (c.literal s).1.1 (if (c.literal s).1.2 then (c.literal s).2 else c.c5 130 (c.literal s).2)
def PC.kI(nm:ByteArray)(t pos:Int)(s:PS):dL×PS:=c.jJ nm t pos (c.now s).pos (c.ej (⟨#[45]⟩:ByteArray) s) (if c.ej (⟨#[45]⟩:ByteArray) s then s.inc else s)
def PC.kJ(nm:ByteArray)(pos:Int)(s:PS):dL×PS:=if c.any jr s<0 then (⟨nm,0,eU,pos⟩,c.c5 130 s) else c.kI nm (1+c.any jr s) pos (c.take (⟨#[61]⟩:ByteArray) s.inc).2
def PC.lx(s:PS):dL×PS:=c.kJ (c.name (c.take (⟨#[114,101,103]⟩:ByteArray) s).2).1 (c.take (⟨#[114,101,103]⟩:ByteArray) s).1 (c.name (c.take (⟨#[114,101,103]⟩:ByteArray) s).2).2
def fY:List ByteArray:=[(⟨#[108,105,109,105,116]⟩:ByteArray),(⟨#[105,111,99]⟩:ByteArray),(⟨#[102,111,107]⟩:ByteArray),(⟨#[112,111,115,116]⟩:ByteArray)]
def PC.eg(s:PS):ByteArray×PS:=if c.ej (⟨#[97,115]⟩:ByteArray) s then c.name s.inc else (⟨#[]⟩,s)
def PC.jK(x y:Px)(pos:Int)(z:Px)(o:Int)(s:PS):eJ×PS:=(⟨1,o,(c.eg s).1,x,y,z,eU,pos⟩,(c.eg s).2)
def PC.iw(x y:Px)(pos:Int)(z:Px)(s:PS):eJ×PS:=if c.any fY s<0 then (⟨1,2,⟨#[]⟩,x,y,z,eU,pos⟩,c.c5 130 s) else c.jK x y pos z (if c.any fY s=0 then 1 else 2+c.any fY s) s.inc
def yM:List ByteArray:=[(⟨#[109,97,114,107,101,116]⟩:ByteArray),(⟨#[97,116]⟩:ByteArray)]
def PC.ij(x y:Px)(pos:Int)(s:PS):eJ×PS:=if c.any yM s<0 then (⟨1,0,⟨#[]⟩,x,y,eU,eU,pos⟩,c.c5 130 s)
 else if c.any yM s=1 then c.iw x y pos (c.dW s.inc).1 (c.dW s.inc).2 else c.jK x y pos eU 2 s.inc
def PC.tC(x:Px)(pos:Int)(s:PS):eJ×PS:=c.ij x (c.dW (c.take (⟨#[111,102]⟩:ByteArray) s).2).1 pos (c.dW (c.take (⟨#[111,102]⟩:ByteArray) s).2).2
def PC.fZ(s:PS):eJ×PS:=c.tC (c.dW (c.take (⟨#[115,117,98,109,105,116]⟩:ByteArray) s).2).1 (c.take (⟨#[115,117,98,109,105,116]⟩:ByteArray) s).1 (c.dW (c.take (⟨#[115,117,98,109,105,116]⟩:ByteArray) s).2).2
def wJ:List ByteArray:=[(⟨#[115,117,98,109,105,116]⟩:ByteArray),(⟨#[97,109,101,110,100]⟩:ByteArray),(⟨#[99,97,110,99,101,108]⟩:ByteArray),(⟨#[115,101,116]⟩:ByteArray),(⟨#[103,111,116,111]⟩:ByteArray),(⟨#[104,97,108,116]⟩:ByteArray)]
def GV:eJ:=⟨0,0,⟨#[]⟩,eU,eU,eU,eU,0⟩
def PC.A8(nm:ByteArray)(pos:Int)(x:Px)(s:PS):eJ×PS:=(⟨2,0,nm,eU,x,(c.dW (c.take (⟨#[97,116]⟩:ByteArray) s).2).1,eU,pos⟩,(c.dW (c.take (⟨#[97,116]⟩:ByteArray) s).2).2)
def PC.Em(nm:ByteArray)(pos:Int)(s:PS):eJ×PS:=(⟨4,0,nm,eU,eU,eU,(c.dW (c.take (⟨#[61]⟩:ByteArray) s).2).1,pos⟩,(c.dW (c.take (⟨#[61]⟩:ByteArray) s).2).2)
def PC.ny(k:Int)(nm:ByteArray)(pos:Int)(s:PS):eJ×PS:=if k=2 then c.A8 nm pos (c.dW (c.take (⟨#[116,111]⟩:ByteArray) s).2).1 (c.dW (c.take (⟨#[116,111]⟩:ByteArray) s).2).2 else if k=4 then c.Em nm pos s else (⟨k,0,nm,eU,eU,eU,eU,pos⟩,s)
def PC.do(s:PS):eJ×PS :=
 if c.any wJ s<0 then (GV,c.c5 130 s)
 else if c.any wJ s=0 then c.fZ s
 else if c.any wJ s=5 then c.ny 6 ⟨#[]⟩ (c.now s).pos s.inc
 else c.ny (1+c.any wJ s) (c.name s.inc).1 (c.now s).pos (c.name s.inc).2
def PC.many(n most:Nat)(s:PS):PS:=if most≤n then c.c5 131 s else s
def PC.fc:Nat→List eJ→PS→List eJ×PS
 | 0,l,s=>(l,s)
 | m+1,l,s =>
   if c.ej (⟨#[44]⟩:ByteArray) (c.do s).2 then
    if (c.many (l.length+1) 8 (c.do s).2).over then (l++[(c.do s).1],c.many (l.length+1) 8 (c.do s).2) else PC.fc m (l++[(c.do s).1]) (c.many (l.length+1) 8 (c.do s).2).inc
   else (l++[(c.do s).1],(c.do s).2)
def PC.kK(w:Px)(pos:Int)(s:PS):dz×PS:=(⟨w,(c.fc 8 [] s).1,pos⟩,(c.take (⟨#[59]⟩:ByteArray) (c.fc 8 [] s).2).2)
def PC.fS(s:PS):dz×PS:=c.kK (c.dW (c.take (⟨#[119,104,101,110]⟩:ByteArray) s).2).1 (c.take (⟨#[119,104,101,110]⟩:ByteArray) s).1 (c.take (⟨#[100,111]⟩:ByteArray) (c.dW (c.take (⟨#[119,104,101,110]⟩:ByteArray) s).2).2).2
def PC.dZ{α:Type}(w:ByteArray)(most:Nat)(one:PS→α×PS):Nat→List α→PS→List α×PS
 | 0,l,s=>(l,if c.ej w s then c.many l.length most s else s)
 | m+1,l,s=>if c.ej w s then
    if (c.many l.length most s).over then (l,c.many l.length most s) else PC.dZ w most one m (l++[(one (c.many l.length most s)).1]) (one (c.many l.length most s)).2
   else (l,s)
def PC.list{α:Type}(w:ByteArray)(most:Nat)(one:PS→α×PS)(s:PS):List α×PS:=c.dZ w most one most [] s
def PC.ly(nm:ByteArray)(pos:Int)(s:PS):dm×PS:=(⟨nm,(c.list (⟨#[119,104,101,110]⟩:ByteArray) 12 c.fS s).1,pos⟩,(c.take (⟨#[125]⟩:ByteArray) (c.list (⟨#[119,104,101,110]⟩:ByteArray) 12 c.fS s).2).2)
def PC.state(s:PS):dm×PS:=c.ly (c.name (c.take (⟨#[115,116,97,116,101]⟩:ByteArray) s).2).1 (c.take (⟨#[115,116,97,116,101]⟩:ByteArray) s).1 (c.take (⟨#[123]⟩:ByteArray) (c.name (c.take (⟨#[115,116,97,116,101]⟩:ByteArray) s).2).2).2
def PC.slot(s:PS):di×PS:=(⟨(c.name (c.take (⟨#[115,108,111,116]⟩:ByteArray) s).2).1,(c.take (⟨#[115,108,111,116]⟩:ByteArray) s).1⟩,(c.take (⟨#[59]⟩:ByteArray) (c.name (c.take (⟨#[115,108,111,116]⟩:ByteArray) s).2).2).2)
def PC.end(s:PS):PS:=if s.over then s else if c.l.length≤s.next∨(c.tok s.next).kind≠0 then c.c5 130 s else s
def PC.lz(nm:ByteArray)(rs:List dL)(ss:List di)(ts:List dm)(s:PS):dU×PS:=(⟨nm,rs,ss,ts⟩,c.end (c.take (⟨#[125]⟩:ByteArray) (if ts.length=0 then c.c5 130 s else s)).2)
def PC.qB(nm:ByteArray)(rs:List dL)(ss:List di)(s:PS):dU×PS:=c.lz nm rs ss (c.list (⟨#[115,116,97,116,101]⟩:ByteArray) 12 c.state s).1 (c.list (⟨#[115,116,97,116,101]⟩:ByteArray) 12 c.state s).2
def PC.qC(nm:ByteArray)(rs:List dL)(s:PS):dU×PS:=c.qB nm rs (c.list (⟨#[115,108,111,116]⟩:ByteArray) 4 c.slot s).1 (c.list (⟨#[115,108,111,116]⟩:ByteArray) 4 c.slot s).2
def PC.qD(nm:ByteArray)(s:PS):dU×PS:=c.qC nm (c.list (⟨#[114,101,103]⟩:ByteArray) 12 c.lx s).1 (c.list (⟨#[114,101,103]⟩:ByteArray) 12 c.lx s).2
def PC.whole(s:PS):dU×PS:=c.qD (c.name (c.take (⟨#[115,116,114,97,116,101,103,121]⟩:ByteArray) s).2).1 (c.take (⟨#[123]⟩:ByteArray) (c.name (c.take (⟨#[115,116,114,97,116,101,103,121]⟩:ByteArray) s).2).2).2
end
def dC(t:ByteArray):PC:=if 4096<(t.size:Int) then ⟨[],0,0⟩ else ⟨(eQ t 0).1,((eQ t 0).2.map Prod.fst).getD 0,((eQ t 0).2.map Prod.snd).getD 0⟩
def eD(t:ByteArray):PS:=⟨0,if 4096<(t.size:Int) then ⟨110,0,true⟩ else ⟨0,0,false⟩⟩
def zF:PF:=⟨0,0,false⟩
def dS(t:ByteArray):dU×PF :=
 let r:=(dC t).whole (eD t)
 if r.2.over then (⟨⟨#[]⟩,[],[],[]⟩,r.2.f) else (r.1,zF)
def lC(t:ByteArray):Px×PF :=
 let n:=(dC t).dW (eD t)
 let s:=(dC t).end n.2
 if s.over then (eU,s.f) else (n.1,zF)
end Go.Lx
namespace Go.Lx
open Go.Vc
def PC.fin(c:PC)(s:PS):Option PF:=if s.over then some s.f else if c.l.length≤s.next then some ⟨c.bad,c.pos,true⟩ else none
def PC.dD(c:PC)(f:PF)(s:PS):Prop:=c.fin s=some f∧(s.over=false→c.bad≠0)
section
variable {c:PC} {f:PF} {s:PS}
theorem PC.dD.now(h:c.dD f s):c.now s=ir 0:=by
 unfold PC.now
 refine if_pos ?_
 have h1:=h.1
 unfold PC.fin at h1
 by_cases ho:s.over=true
 ·simp[ho]
 ·rw[if_neg ho] at h1
  split at h1
  ·rename_i hl;simp[hl]
  ·cases h1
theorem PC.dD.c5(h:c.dD f s)(e:Int):c.dD f (c.c5 e s):=by
 unfold PC.c5
 split
 ·exact h
 ·rename_i ho
  have h1:=h.1;have h2:=h.2 (by simpa using ho)
  unfold PC.fin at h1
  rw[if_neg ho] at h1
  split at h1
  ·rename_i hl
   rw[if_pos hl]
   have ho2:PS.over ⟨s.next,⟨c.bad,c.pos,true⟩⟩=true:=by simpa[PS.over] using h2
   exact⟨by unfold PC.fin;rw[if_pos ho2];exact h1,fun h=>by rw[ho2] at h;cases h⟩
  ·cases h1
theorem PC.dD.ej(h:c.dD f s)(w:ByteArray):c.ej w s=false:=by
 unfold PC.ej;rw[h.now];simp[ir]
theorem PC.dD.kind(h:c.dD f s):(c.now s).kind=0:=by rw[h.now];rfl
theorem PC.dD.any(h:c.dD f s)(ws:List ByteArray):c.any ws s = -1:=by
 have:∀(ws:List ByteArray) (i:Int),c.gG s ws i = -1:=by
  intro ws
  induction ws with
  | nil=>intro i;rw[PC.gG]
  | cons w r ih=>intro i;rw[PC.gG,h.ej,if_neg (by simp),ih]
 exact this ws 0
theorem PC.dD.take(h:c.dD f s)(w:ByteArray):c.dD f (c.take w s).2:=by
 unfold PC.take;rw[h.ej];exact h.c5 _
theorem PC.dD.name(h:c.dD f s):c.dD f (c.name s).2:=by
 unfold PC.name;rw[h.kind,if_neg (by decide)];exact h.c5 _
theorem PC.dD.cT(h:c.dD f s)(d:Int):c.dD f (c.cT d s):=by
 unfold PC.cT;split
 ·exact h.c5 _
 ·exact h
theorem PC.dD.many(h:c.dD f s)(n m:Nat):c.dD f (c.many n m s):=by
 unfold PC.many;split
 ·exact h.c5 _
 ·exact h
theorem PC.dD.literal(h:c.dD f s):c.literal s=((eU,false),s):=by
 unfold PC.literal;rw[h.kind,if_neg (by decide),if_neg (by simp),if_neg (by simp)]
theorem PC.dD.end(h:c.dD f s):c.dD f (c.end s):=by
 unfold PC.end;split
 ·exact h
 ·split
  ·exact h.c5 _
  ·exact h
end
def Kp(c:PC)(f:PF){α:Type}(g:PS→α×PS):Prop:=∀s,c.dD f s→c.dD f (g s).2
section
variable {c:PC} {f:PF}
theorem Kp.rest(nx:Lv)(d:Int):Kp c f (c.rest nx d):=fun s h=>by
 unfold PC.rest;rw[h.ej,h.ej];exact h.c5 _
theorem Kp.one(nx:Lv)(d:Int):Kp c f (c.one nx d):=fun s h=>by
 unfold PC.one;rw[h.literal,h.kind,h.any,h.any,h.any,if_neg (by simp),if_neg (by decide),if_neg (by decide),if_neg (by decide),if_neg (by decide)];exact Kp.rest nx d s h
theorem Kp.unary(nx:Lv)(d:Int):Kp c f (c.unary nx d):=fun s h=>by
 unfold PC.unary;rw[h.any,if_pos (by decide)];exact Kp.one nx d s h
theorem Kp.dN{ws:List ByteArray}{o:Int}{sub:PS→Px×PS}:∀(m:Nat) (n:Px),Kp c f (c.dN ws o sub m n)
 | 0,n=>fun s h=>h
 | m+1,n=>fun s h=>by rw[PC.dN,h.any,if_pos (by decide)];exact h
theorem Kp.loop{ws:List ByteArray}{o:Int}{sub:PS→Px×PS}(hs:Kp c f sub):Kp c f (c.loop ws o sub):=fun s h=>Kp.dN _ _ _ (hs s h)
theorem Kp.product(nx:Lv)(d:Int):Kp c f (c.product nx d):=Kp.loop (Kp.unary nx d)
theorem Kp.sum(nx:Lv)(d:Int):Kp c f (c.sum nx d):=Kp.loop (Kp.product nx d)
theorem Kp.compare(nx:Lv)(d:Int):Kp c f (c.compare nx d):=fun s h=>by
 have h1:=Kp.sum nx d s h
 unfold PC.compare
 show c.dD f (if c.any jd (c.sum nx d s).2<0 then c.sum nx d s else _:Px×PS).2
 rw[h1.any,if_pos (by decide)];exact h1
theorem Kp.and(nx:Lv)(d:Int):Kp c f (c.and nx d):=Kp.loop (Kp.compare nx d)
theorem Kp.or(nx:Lv)(d:Int):Kp c f (c.or nx d):=Kp.loop (Kp.and nx d)
theorem Kp.expr(nx:Lv)(d:Int):Kp c f (c.expr nx d):=fun s h=>by
 have h1:=Kp.or nx d s h
 unfold PC.expr
 show c.dD f (if c.ej _ (c.or nx d s).2 then _ else c.or nx d s:Px×PS).2
 rw[h1.ej];exact h1
theorem Kp.lvl:∀(k:Nat) (d:Int),Kp c f (c.lvl k d).ex∧Kp c f (c.lvl k d).un
 | 0,d=>⟨Kp.expr _ d,Kp.unary _ d⟩
 | k+1,d=>⟨Kp.expr _ d,Kp.unary _ d⟩
theorem Kp.dW:Kp c f c.dW:=(Kp.lvl 24 0).1
theorem Kp.kids{nx:Lv}(hx:Kp c f nx.ex):∀(n:Nat) (b:Bool),Kp c f (c.dF nx n b)
 | 0,b=>fun s h=>h
 | n+1,b=>fun s h=>by
   rw[PC.dF]
   refine Kp.kids hx n false _ (hx _ ?_)
   split
   ·exact h
   ·exact h.take _
theorem Kp.lQ(nm:ByteArray)(t p p2:Int)(m:Bool)(n:Px):Kp c f (c.lQ nm t p p2 m n):=fun s h=>h.take _
theorem Kp.jJ(nm:ByteArray)(t p p2:Int)(m:Bool):Kp c f (c.jJ nm t p p2 m):=fun s h=>by
 unfold PC.jJ;split
 ·exact h.c5 _
 ·refine Kp.lQ _ _ _ _ _ _ _ ?_
  rw[h.literal,if_neg (by simp)];exact h.c5 _
theorem Kp.kI(nm:ByteArray)(t p:Int):Kp c f (c.kI nm t p):=fun s h=>by
 unfold PC.kI;rw[h.ej,if_neg (by simp)];exact Kp.jJ _ _ _ _ _ _ h
theorem Kp.kJ(nm:ByteArray)(p:Int):Kp c f (c.kJ nm p):=fun s h=>by
 unfold PC.kJ;rw[h.any,if_pos (by decide)];exact h.c5 _
theorem Kp.eg:Kp c f c.eg:=fun s h=>by
 unfold PC.eg;rw[h.ej,if_neg (by simp)];exact h
theorem Kp.jK(x y:Px)(p:Int)(z:Px)(o:Int):Kp c f (c.jK x y p z o):=fun s h=>Kp.eg s h
theorem Kp.iw(x y:Px)(p:Int)(z:Px):Kp c f (c.iw x y p z):=fun s h=>by
 unfold PC.iw;rw[h.any,if_pos (by decide)];exact h.c5 _
theorem Kp.ij(x y:Px)(p:Int):Kp c f (c.ij x y p):=fun s h=>by
 unfold PC.ij;rw[h.any,if_pos (by decide)];exact h.c5 _
theorem Kp.tC(x:Px)(p:Int):Kp c f (c.tC x p):=fun s h=>Kp.ij _ _ _ _ (Kp.dW _ (h.take _))
theorem Kp.A8(nm:ByteArray)(p:Int)(x:Px):Kp c f (c.A8 nm p x):=fun s h=>Kp.dW _ (h.take _)
theorem Kp.Em(nm:ByteArray)(p:Int):Kp c f (c.Em nm p):=fun s h=>Kp.dW _ (h.take _)
theorem Kp.ny(k:Int)(nm:ByteArray)(p:Int):Kp c f (c.ny k nm p):=fun s h=>by
 unfold PC.ny;split
 ·exact Kp.A8 _ _ _ _ (Kp.dW _ (h.take _))
 ·split
  ·exact Kp.Em _ _ _ h
  ·exact h
theorem Kp.do:Kp c f c.do:=fun s h=>by
 unfold PC.do;rw[h.any,if_pos (by decide)];exact h.c5 _
theorem Kp.fc:∀(m:Nat) (l:List eJ),Kp c f (c.fc m l)
 | 0,l=>fun s h=>h
 | m+1,l=>fun s h=>by
   have h1:=Kp.do s h
   rw[PC.fc,h1.ej,if_neg (by simp)];exact h1
theorem Kp.kK(w:Px)(p:Int):Kp c f (c.kK w p):=fun s h=>(Kp.fc 8 [] s h).take _
theorem Kp.fS:Kp c f c.fS:=fun s h=>Kp.kK _ _ _ ((Kp.dW _ (h.take _)).take _)
theorem Kp.dZ{α:Type}(w:ByteArray)(most:Nat)(one:PS→α×PS):∀(m:Nat) (l:List α),Kp c f (c.dZ w most one m l)
 | 0,l=>fun s h=>by rw[PC.dZ,h.ej];exact h
 | m+1,l=>fun s h=>by rw[PC.dZ,h.ej];exact h
theorem Kp.list{α:Type}(w:ByteArray)(most:Nat)(one:PS→α×PS):Kp c f (c.list w most one):=Kp.dZ w most one most []
theorem Kp.ly(nm:ByteArray)(p:Int):Kp c f (c.ly nm p):=fun s h=>(Kp.list _ _ _ s h).take _
theorem Kp.lz(nm:ByteArray)(rs:List dL)(ss:List di)(ts:List dm):Kp c f (c.lz nm rs ss ts):=fun s h=>by
 refine PC.dD.end (PC.dD.take ?_ _)
 split
 ·exact h.c5 _
 ·exact h
end
end Go.Lx
namespace Go.Lx
open Go.Vc
structure PQ where
 c:PC
 a:Option Addr
 cap:Nat
def PQ.cl(q:PQ)(s:PS):List Value:=[.slice q.a q.c.l.length q.cap,.int .i64 q.c.bad,.int .i64 q.c.pos,.int .i64 s.next,.int .i64 s.f.e,.int .i64 s.f.pos,.bool s.f.tok]
def PQ.fp(q:PQ)(b:Nat)(s:PS):Nat×Obj:=(b,.cells (q.cl s).toArray 96 (0,0))
structure PQ.ok (q:PQ) (I:cS):Prop where
 sl:Sl I 5 Tok.enc q.a q.c.l.length q.c.l
 len:q.c.l.length≤1000000
theorem PQ.ok.mono{q:PQ}{I J:cS}(h:q.ok I)(hl:cS.le I J):q.ok J:=⟨h.sl.mono hl,h.len⟩
variable {q:PQ} {b:Nat} {s:PS} {I:cS}
theorem oZ{c:PC}{s:PS}(h:(c.now s).kind≠0):s.next<c.l.length:=by
 unfold PC.now at h
 split at h
 ·exact absurd rfl h
 ·rename_i h1
  simp only[Bool.or_eq_true,decide_eq_true_eq,not_or] at h1
  omega
theorem gZ{c:PC}{s:PS}{w:ByteArray}(h:c.ej w s=true):s.next<c.l.length:=by
 refine oZ fun hk=>?_
 unfold PC.ej at h
 rw[hk] at h
 simp at h
theorem vU{c:PC}{s:PS}:∀{ws:List ByteArray} {i:Int},0≤i→0≤c.gG s ws i→s.next<c.l.length∧i≤c.gG s ws i∧c.gG s ws i<i+ws.length
 | [],i,h0,h=>by rw[PC.gG] at h;omega
 | w::r,i,h0,h=>by
   rw[PC.gG] at h ⊢
   split at h
   ·rename_i hw
    rw[if_pos hw]
    exact⟨gZ hw,Int.le_refl _,by rw[List.length_cons];omega⟩
   ·rename_i hw
    rw[if_neg hw]
    have:=vU (ws:=r) (i:=i+1) (by omega) h
    rw[List.length_cons];exact⟨this.1,by omega,by omega⟩
theorem dB{c:PC}{s:PS}{ws:List ByteArray}(h:0≤c.any ws s):s.next<c.l.length∧c.any ws s<ws.length:=by
 have:=vU (Int.le_refl 0) h
 exact⟨this.1,by have:=this.2.2;unfold PC.any;omega⟩
end Go.Lx
namespace Go.Lx
open Go.Vc
def Small(l:List Px):Prop:=∀x∈l,x.size≤1048576
theorem mv.x7{α:Type}{I:cS}{G:cR}{z:Nat}{f:α→List Value}{a:Option Addr}{n:Nat}{l:List α}(h:mv I G z f a n l){i:Int}(h0:0≤i)(h1:i<n) :
  ∃ad x,a=some ad∧l[i.toNat]? = some x∧Rd I G (ad.add (Int.toNat i*z)) (f x)∧x∈l:=by
 obtain⟨ad,x,g1,g2,g3⟩:=h.at h0 h1
 exact⟨ad,x,g1,g2,g3,List.mem_of_getElem? g2⟩
theorem mv.nil{α:Type}{I:cS}{G:cR}{z:Nat}{f:α→List Value}{a:Option Addr}:mv I G z f a 0 ([]:List α):=⟨rfl,fun h=>absurd rfl h⟩
theorem fR.leaf{I:cS}{G:cR}{k o ty n f:Int}{s:ByteArray}{a:Option Addr}{c:Nat}{q:Int}:fR I G (.mk k o ty n f s a c [] q):=.mk mv.nil fun k hk=>by cases hk
section
variable {c:PC} {s:PS}
theorem fB:s.inc.next=s.next+1:=rfl
theorem hU(e:Int):(c.c5 e s).next=s.next:=by
 unfold PC.c5;split
 ·rfl
 ·split<;>rfl
theorem ef(d:Int):(c.cT d s).next=s.next:=by
 unfold PC.cT;split
 ·exact hU _
 ·rfl
theorem ko(n m:Nat):(c.many n m s).next=s.next:=by
 unfold PC.many;split
 ·exact hU _
 ·rfl
theorem BT:(c.end s).next=s.next:=by
 unfold PC.end;split
 ·rfl
 ·split
  ·exact hU _
  ·rfl
theorem iF{e:Int}(he:e≠0)(hl:s.next<c.l.length):(c.c5 e s).over=true:=by
 unfold PC.c5
 split
 ·assumption
 ·rw[if_neg (by omega)]
  simpa[PS.over] using he
theorem fw{d:Int}(hl:s.next<c.l.length)(h:(c.cT d s).over=false):d+1≤24∧c.cT d s=s:=by
 unfold PC.cT at h ⊢
 split
 ·rename_i hd
  rw[if_pos hd,iF (by decide) hl] at h
  cases h
 ·rename_i hd
  exact⟨by omega,rfl⟩
theorem pY{n m:Nat}(hl:s.next<c.l.length)(h:(c.many n m s).over=false):n<m∧c.many n m s=s:=by
 unfold PC.many at h ⊢
 split
 ·rename_i hd
  rw[if_pos hd,iF (by decide) hl] at h
  cases h
 ·rename_i hd
  exact⟨by omega,rfl⟩
def Up(c:PC)(s s':PS):Prop:=s.next≤s'.next∧(s.next≤c.l.length→s'.next≤c.l.length)
theorem Up.refl:Up c s s:=⟨Nat.le_refl _,fun h=>h⟩
theorem Up.trans{a b d:PS}(h:Up c a b)(h':Up c b d):Up c a d:=⟨Nat.le_trans h.1 h'.1,fun h0=>h'.2 (h.2 h0)⟩
theorem Up.inc(hl:s.next<c.l.length):Up c s s.inc:=⟨Nat.le_succ _,fun _=>hl⟩
theorem Up.of_eq{s':PS}(h:s'.next=s.next):Up c s s':=⟨by omega,fun _=>by omega⟩
theorem Up.c5(e:Int):Up c s (c.c5 e s):=.of_eq (hU e)
theorem Up.cT(d:Int):Up c s (c.cT d s):=.of_eq (ef d)
theorem Up.many(n m:Nat):Up c s (c.many n m s):=.of_eq (ko n m)
theorem Up.end:Up c s (c.end s):=.of_eq BT
theorem Up.take(w:ByteArray):Up c s (c.take w s).2:=by
 unfold PC.take;split
 ·rename_i h;exact .inc (gZ h)
 ·exact .c5 _
theorem Up.name:Up c s (c.name s).2:=by
 unfold PC.name;split
 ·rename_i h;exact .inc (oZ (by rw[h];decide))
 ·exact .c5 _
theorem Up.literal:Up c s (c.literal s).2:=by
 unfold PC.literal
 split
 ·rename_i h;exact .inc (oZ (by rw[h];decide))
 ·split
  ·rename_i h;exact .inc (oZ (by rw[h.1];decide))
  ·split
   ·rename_i h;exact .inc (oZ (by rw[h.1];decide))
   ·exact .refl
end
def dQ(c:PC){α:Type}(f:PS→α×PS):Prop:=∀s,Up c s (f s).2
section
variable {c:PC} {nx:Lv} (hx:dQ c nx.ex) (hu:dQ c nx.un)
include hx
theorem Up.kids:∀(n:Nat) (f:Bool) (s:PS),Up c s (c.dF nx n f s).2
 | 0,f,s=>.refl
 | n+1,f,s=>by
   rw[PC.dF]
   refine Up.trans ?_ (Up.kids n false _)
   refine Up.trans ?_ (hx _)
   split
   ·exact .refl
   ·exact .take _
theorem Up.call{d kind oper dH pos:Int}{many:Nat}{s:PS}(hl:s.next<c.l.length):Up c s (c.call nx d kind oper dH pos many s).2:=by
 unfold PC.call
 split
 ·exact .cT _
 ·rename_i h
  obtain⟨_,he⟩:=fw hl (by simpa using h)
  rw[he]
  exact ((Up.inc hl).trans (.take _)).trans ((Up.kids hx _ _ _).trans (.take _))
theorem Up.rest(d:Int):dQ c (c.rest nx d):=fun s=>by
 unfold PC.rest
 split
 ·rename_i h
  have hl:=gZ h
  split
  ·exact (Up.inc hl).trans (.c5 _)
  ·rename_i h2
   exact (Up.inc hl).trans (.inc (dB (Int.not_lt.1 h2)).1)
 ·split
  ·rename_i h
   have hl:=gZ h
   split
   ·exact .cT _
   ·rename_i h2
    obtain⟨_,he⟩:=fw hl (by simpa using h2)
    rw[he]
    exact (Up.inc hl).trans ((hx _).trans (.take _))
  ·exact .c5 _
theorem Up.one(d:Int):dQ c (c.one nx d):=fun s=>by
 unfold PC.one
 split
 ·exact .literal
 ·split
  ·rename_i h;exact .inc (oZ (by rw[h];decide))
  ·split
   ·rename_i h;exact .inc (dB h).1
   ·split
    ·rename_i h;exact .call hx (dB h).1
    ·split
     ·rename_i h;exact .call hx (dB h).1
     ·exact Up.rest hx d s
include hu
theorem Up.unary(d:Int):dQ c (c.unary nx d):=fun s=>by
 unfold PC.unary
 split
 ·exact Up.one hx d s
 ·rename_i h
  have hl:=(dB (c:=c) (s:=s) (ws:=k9) (by omega)).1
  split
  ·exact .cT _
  ·rename_i h2
   obtain⟨_,he⟩:=fw hl (by simpa using h2)
   rw[he]
   exact (Up.inc hl).trans (hu _)
end
theorem Up.dN{c:PC}{ws:List ByteArray}{o:Int}{sub:PS→Px×PS}(h:dQ c sub):∀(m:Nat) (n:Px) (s:PS),Up c s (c.dN ws o sub m n s).2
 | 0,n,s=>.refl
 | m+1,n,s=>by
   rw[PC.dN]
   split
   ·exact .refl
   ·rename_i h2
    exact ((Up.inc (dB (Int.not_lt.1 h2)).1).trans (h _)).trans (Up.dN h m _ _)
theorem Up.loop{c:PC}{ws:List ByteArray}{o:Int}{sub:PS→Px×PS}(h:dQ c sub):dQ c (c.loop ws o sub):=fun s=>(h s).trans (.dN h _ _ _)
section
variable {c:PC} {nx:Lv} (hx:dQ c nx.ex) (hu:dQ c nx.un) (d:Int)
include hx hu
theorem Up.product:dQ c (c.product nx d):=Up.loop (Up.unary hx hu d)
theorem Up.sum:dQ c (c.sum nx d):=Up.loop (Up.product hx hu d)
theorem Up.compare:dQ c (c.compare nx d):=fun s=>by
 unfold PC.compare
 have h1:=Up.sum hx hu d s
 show Up c s (if c.any jd (c.sum nx d s).2<0 then c.sum nx d s else _).2
 split
 ·exact h1
 ·rename_i h2
  exact (h1.trans (.inc (dB (Int.not_lt.1 h2)).1)).trans (Up.sum hx hu d _)
theorem Up.and:dQ c (c.and nx d):=Up.loop (Up.compare hx hu d)
theorem Up.or:dQ c (c.or nx d):=Up.loop (Up.and hx hu d)
theorem Up.expr:dQ c (c.expr nx d):=fun s=>by
 unfold PC.expr
 have h1:=Up.or hx hu d s
 show Up c s (if c.ej _ (c.or nx d s).2 then _ else _:Px×PS).2
 split
 ·rename_i h2
  have hl:=gZ h2
  show Up c s (if (c.cT d (c.or nx d s).2).over then _ else _:Px×PS).2
  split
  ·exact h1.trans (.cT _)
  ·rename_i h3
   obtain⟨_,he⟩:=fw hl (by simpa using h3)
   rw[he]
   exact h1.trans ((Up.inc hl).trans ((hx _).trans ((Up.take _).trans (hx _))))
 ·exact h1
end
theorem Up.lvl{c:PC}:∀(k:Nat) (d:Int),dQ c (c.lvl k d).ex∧dQ c (c.lvl k d).un
 | 0,d=>⟨Up.expr (fun s=>.refl) (fun s=>.refl) d,Up.unary (fun s=>.refl) (fun s=>.refl) d⟩
 | k+1,d=>⟨Up.expr (Up.lvl k (d+1)).1 (Up.lvl k (d+1)).2 d,Up.unary (Up.lvl k (d+1)).1 (Up.lvl k (d+1)).2 d⟩
theorem Up.dW{c:PC}:dQ c c.dW:=(Up.lvl 24 0).1
def E8(q:PQ)(b:Nat)(F0:cR)(r:Px×PS)(e:Ending)(I:cS)(G:cR):Prop:=∃t:Nd,e=.returned t.v∧t.px=r.1∧fR I [] t∧G.Perm (q.fp b r.2::F0)
def BU(f:Nat)(q:PQ)(d:Int)(g:PS→Px×PS):Prop:=∀(b:Nat) (s:PS) (I:cS) (F F0:cR),q.ok I→s.next≤q.c.l.length→F.Perm (q.fp b s::F0)→cZ P f #[.pointer (some ⟨b,0,none⟩),.int .i64 d] I F (E8 q b F0 (g s))
end Go.Lx
namespace Go.Lx
open Go.Vc
section
variable {q:PQ} {b:Nat} {s:PS} {I:cS} {F F0:cR}
end
end Go.Lx
namespace Go.Lx
open Go.Vc
section
variable {q:PQ} {b:Nat} {s:PS} {I:cS} {F F0:cR} {nx:Lv} {d:Int} (h0:0≤d) (h1:d≤24) (hx:d+1≤24→BU 48 q (d+1) nx.ex) (hmx:dQ q.c nx.ex)
include h0 h1 hx hmx
end
end Go.Lx
namespace Go.Lx
open Go.Vc
section
variable {q:PQ} {b:Nat} {s:PS} {I:cS} {F F0:cR} {nx:Lv} {d:Int} (h0:0≤d) (h1:d≤24) (hx:d+1≤24→BU 48 q (d+1) nx.ex) (hmx:dQ q.c nx.ex)
include h0 h1 hx hmx
end
end Go.Lx
namespace Go.Lx
open Go.Vc
section
variable {q:PQ} {nx:Lv} {d:Int} (h0:0≤d) (h1:d≤24)
include h0 h1
end
end Go.Lx
namespace Go.Lx
open Go.Vc
section
variable {q:PQ} {nx:Lv} {d:Int} (h0:0≤d) (h1:d≤24)
include h0 h1
end
end Go.Lx
namespace Go.Lx
open Go.Vc
structure c7 where
 c:PC
 c':PC
 o:Nat
 δ:Int
 K:Nat
 ov:Bool
 ρ:Int→Int→Prop
def okW(w:ByteArray):Bool:=!(w.toList==(⟨#[41]⟩:ByteArray).toList)
namespace c7
variable (m:c7)
def Rs(s s':PS):Prop:=s'.next=s.next+m.o∧s'.f.e=s.f.e∧s'.f.tok=s.f.tok∧(s.f.e≠0→m.ρ s.f.pos s'.f.pos)
def Gd(s:PS):Prop:=s.next≤m.K∧(m.ov=true→s.over=false)
def E9(t t':Tok):Prop:=(t'.kind=t.kind∧t'.text=t.text∧t'.dH=t.dH∧t'.n=t.n)∨(m.ov=true∧t.kind=0∧t'.kind=4∧t'.text.toList=(⟨#[41]⟩:ByteArray).toList)
structure Ok:Prop where
 d0:0≤m.δ
 len:∀i,i≤m.K→(i<m.c.l.length↔i+m.o<m.c'.l.length)
 tok:∀i,i≤m.K→i<m.c.l.length→m.E9 (m.c.tok i) (m.c'.tok (i+m.o))∧m.ρ (m.c.tok i).pos (m.c'.tok (i+m.o)).pos
 ovK:m.ov=true→m.K<m.c.l.length∧m.c.bad=0
 bad:m.K<m.c.l.length∨(m.c.bad=0∧m.c'.bad=0)
def Fa(s':PS):Prop:=0<m.δ∧∃f:PF,f.e=132∧m.c'.dD f s'
def Out{α:Type}(rel:α→α→Prop)(r r':α×PS):Prop:=(m.Rs r.2 r'.2∧rel r.1 r'.1)∨m.Fa r'.2
def Fn{α:Type}(rel:α→α→Prop)(g g':PS→α×PS):Prop:=∀s s',m.Rs s s'→m.Gd (g s).2→m.Out rel (g s) (g' s')
def xr(x x':Px):Prop:=x'.bare=x.bare
end c7
section
variable {m:c7} {s s':PS}
theorem c7.Fa.kp{s2:PS}(h:m.Fa s')(hk:∀f,m.c'.dD f s'→m.c'.dD f s2):m.Fa s2:=by
 obtain⟨h1,f,h2,h3⟩:=h
 exact⟨h1,f,h2,hk f h3⟩
theorem c7.Out.bind{α β:Type}{rel:α→α→Prop}{rel2:β→β→Prop}{r r':α×PS}{q q':β×PS}(h:m.Out rel r r')(hk:∀f,m.c'.dD f r'.2→m.c'.dD f q'.2)(hn:m.Rs r.2 r'.2→rel r.1 r'.1→m.Out rel2 q q'):m.Out rel2 q q':=by
 rcases h with ⟨h1,h2⟩ | h
 ·exact hn h1 h2
 ·exact .inr (h.kp hk)
theorem c7.Rs.over(h:m.Rs s s'):s'.over=s.over:=by unfold PS.over;rw[h.2.1]
theorem c7.Rs.inc(h:m.Rs s s'):m.Rs s.inc s'.inc:=⟨by show s'.next+1=s.next+1+m.o;rw[h.1];omega,h.2⟩
theorem kq{c:PC}{s:PS}(h:s.over=true):c.dD s.f s:=⟨by unfold PC.fin;rw[if_pos h],fun h2=>by rw[h] at h2;cases h2⟩
theorem lR{c:PC}{s:PS}{ws:List ByteArray}(h:0≤c.any ws s):s.over=false:=by
 cases ho:s.over with
 | false=>rfl
 | true=>rw[(kq (c:=c) ho).any] at h;exact absurd h (by decide)
theorem nz{c:PC}{s:PS}{w:ByteArray}(h:c.ej w s=true):s.over=false:=by
 cases ho:s.over with
 | false=>rfl
 | true=>rw[(kq (c:=c) ho).ej] at h;cases h
theorem AE{c:PC}{s:PS}(h:(c.now s).kind≠0):s.over=false:=by
 cases ho:s.over with
 | false=>rfl
 | true=>exact absurd (kq (c:=c) ho).kind h
variable (hm:m.Ok)
include hm
theorem c7.back{s2:PS}(hu:Up m.c s s2)(hk:∀f,m.c.dD f s→m.c.dD f s2)(h:m.Gd s2):m.Gd s:=by
 refine⟨Nat.le_trans hu.1 h.1,fun ho=>?_⟩
 have h2:=h.2 ho
 cases hs:s.over with
 | false=>rfl
 | true=>exact absurd (hm.ovK ho).2 ((hk _ (kq hs)).2 h2)
theorem c7.now(h:m.Rs s s')(hg:m.Gd s):m.E9 (m.c.now s) (m.c'.now s'):=by
 unfold PC.now
 rw[h.over]
 have hl:=hm.len _ hg.1
 by_cases hc:s.over=true∨m.c.l.length≤s.next
 ·have h1:(s.over||decide (m.c.l.length≤s.next))=true:=by
   rcases hc with hc | hc
   ·rw[hc];rfl
   ·rw[decide_eq_true hc,Bool.or_true]
  have h2:(s.over||decide (m.c'.l.length≤s'.next))=true:=by
   rcases hc with hc | hc
   ·rw[hc];rfl
   ·rw[decide_eq_true (by rw[h.1];omega),Bool.or_true]
  rw[h1,h2];exact .inl ⟨rfl,rfl,rfl,rfl⟩
 ·have hc1:s.over=false:=by simpa using fun h=>hc (.inl h)
  have hc2:s.next<m.c.l.length:=Nat.lt_of_not_le fun h=>hc (.inr h)
  have h1:(s.over||decide (m.c.l.length≤s.next))=false:=by rw[hc1,decide_eq_false (by omega)];rfl
  have h2:(s.over||decide (m.c'.l.length≤s'.next))=false:=by rw[hc1,decide_eq_false (by rw[h.1];omega)];rfl
  rw[h1,h2,h.1]
  exact (hm.tok _ hg.1 hc2).1
theorem c7.ej(h:m.Rs s s')(hg:m.Gd s){w:ByteArray}(hw:okW w=true∨m.ov=false):m.c'.ej w s'=m.c.ej w s:=by
 unfold PC.ej
 rcases c7.now hm h hg with ⟨h1,h2,_⟩ | ⟨h1,h2,h3,h4⟩
 ·rw[h1,h2]
 ·rw[h2,h3,h4]
  have:((⟨#[41]⟩:ByteArray).toList==w.toList)=false:=by
   rcases hw with hw | hw
   ·unfold okW at hw
    cases hb:((⟨#[41]⟩:ByteArray).toList==w.toList) with
    | false=>rfl
    | true=>rw[eq_of_beq hb,beq_self_eq_true] at hw;cases hw
   ·rw[hw] at h1;cases h1
  rw[this];simp
theorem c7.any(h:m.Rs s s')(hg:m.Gd s){ws:List ByteArray}(hw:ws.all okW=true):m.c'.any ws s'=m.c.any ws s:=by
 have:∀(ws:List ByteArray) (i:Int),ws.all okW=true→m.c'.gG s' ws i=m.c.gG s ws i:=by
  intro ws
  induction ws with
  | nil=>intro i hw;rw[PC.gG,PC.gG]
  | cons w r ih=>intro i hw;rw[List.all_cons,Bool.and_eq_true] at hw;rw[PC.gG,PC.gG,c7.ej hm h hg (.inl hw.1),ih _ hw.2]
 exact this ws 0 hw
theorem c7.c5(h:m.Rs s s'){e:Int}(hg:s.next≤m.K):m.Rs (m.c.c5 e s) (m.c'.c5 e s'):=by
 unfold PC.c5
 rw[h.over]
 have hl:=hm.len _ hg
 split
 ·exact h
 ·by_cases hc:m.c.l.length≤s.next
  ·rw[if_pos hc,if_pos (by rw[h.1];omega)]
   rcases hm.bad with hb | ⟨hb,hb'⟩
   ·omega
   ·exact⟨h.1,by show m.c'.bad=m.c.bad;rw[hb,hb'],rfl,fun hne=>absurd hb hne⟩
  ·rw[if_neg hc,if_neg (by rw[h.1];omega)]
   exact⟨h.1,rfl,rfl,fun _=>by show m.ρ (m.c.tok s.next).pos (m.c'.tok s'.next).pos;rw[h.1];exact (hm.tok _ hg (by omega)).2⟩
theorem c7.take(h:m.Rs s s')(w:ByteArray)(hg:m.Gd (m.c.take w s).2):m.Rs (m.c.take w s).2 (m.c'.take w s').2:=by
 have h0:m.Gd s:=c7.back hm (Up.take w) (fun f h=>h.take w) hg
 have hw:m.c'.ej w s'=m.c.ej w s:=by
  by_cases hp:okW w=true∨m.ov=false
  ·exact c7.ej hm h h0 hp
  ·have hov:m.ov=true:=by
    cases ho:m.ov with
    | true=>rfl
    | false=>exact absurd (.inr ho) hp
   have hc:m.c.ej w s=true:=by
    cases hc:m.c.ej w s with
    | true=>rfl
    | false =>
      have h1:=hg.2 hov
      unfold PC.take at h1
      rw[hc] at h1
      have h2:(m.c.c5 130 s).over=true:=iF (by decide) (by have:=(hm.ovK hov).1;have:=h0.1;omega)
      have h1:(m.c.c5 130 s).over=false:=h1
      rw[h2] at h1;cases h1
   rw[hc]
   unfold PC.ej at hc ⊢
   rcases c7.now hm h h0 with ⟨h1,h2,_⟩ | ⟨h1,h2,h3,h4⟩
   ·rw[h1,h2];exact hc
   ·rw[h2] at hc;simp at hc
 unfold PC.take
 rw[hw]
 split
 ·exact h.inc
 ·exact c7.c5 hm h h0.1
theorem c7.name(h:m.Rs s s')(hg:m.Gd (m.c.name s).2):m.Rs (m.c.name s).2 (m.c'.name s').2∧(m.c'.name s').1=(m.c.name s).1:=by
 have h0:m.Gd s:=c7.back hm Up.name (fun f h=>h.name) hg
 unfold PC.name
 rcases c7.now hm h h0 with ⟨h1,h2,_⟩ | ⟨h1,h2,h3,h4⟩
 ·rw[h1,h2]
  split
  ·exact⟨h.inc,rfl⟩
  ·exact⟨c7.c5 hm h h0.1,rfl⟩
 ·rw[h2,h3,if_neg (by decide),if_neg (by decide)]
  exact⟨c7.c5 hm h h0.1,rfl⟩
theorem c7.literal(h:m.Rs s s')(hg:m.Gd s):m.Rs (m.c.literal s).2 (m.c'.literal s').2∧c7.xr (m.c.literal s).1.1 (m.c'.literal s').1.1∧(m.c'.literal s').1.2=(m.c.literal s).1.2:=by
 unfold PC.literal
 rcases c7.now hm h hg with ⟨h1,h2,h3,h4⟩ | ⟨h1,h2,h3,h4⟩
 ·rw[h1,h2,h3,h4]
  split
  ·exact⟨h.inc,rfl,rfl⟩
  ·split
   ·exact⟨h.inc,rfl,rfl⟩
   ·split
    ·exact⟨h.inc,rfl,rfl⟩
    ·exact⟨h,rfl,rfl⟩
 ·rw[h2,h3]
  simp only[show ¬((4:Int)=3) by decide,show ¬((0:Int)=3) by decide,show ¬((4:Int)=1) by decide,show ¬((0:Int)=1) by decide,false_and,if_false]
  exact⟨h,rfl,trivial⟩
theorem c7.cT(h:m.Rs s s'){d:Int}(hg:s.next≤m.K)(ho:s.over=false)(hl:s.next<m.c.l.length) :
  ((m.c.cT d s).over=true∧(m.c'.cT (d+m.δ) s').over=true∧m.Rs (m.c.cT d s) (m.c'.cT (d+m.δ) s')) ∨
  ((m.c'.cT (d+m.δ) s').over=true∧m.Fa (m.c'.cT (d+m.δ) s')) ∨
  (d+m.δ+1≤24∧m.c.cT d s=s∧m.c'.cT (d+m.δ) s'=s'∧s.over=false∧s'.over=false):=by
 have hd:=hm.d0
 have hl':s'.next<m.c'.l.length:=by rw[h.1];exact (hm.len _ hg).1 hl
 have ho':s'.over=false:=by rw[h.over];exact ho
 unfold PC.cT
 by_cases h1:24<d+1
 ·rw[if_pos h1,if_pos (by omega)]
  exact .inl ⟨iF (by decide) hl,iF (by decide) hl',c7.c5 hm h hg⟩
 ·by_cases h2:24<d+m.δ+1
  ·rw[if_neg h1,if_pos h2]
   have hw:=iF (c:=m.c') (e:=132) (by decide) hl'
   refine .inr (.inl ⟨hw,by omega,_, ?_,kq hw⟩)
   unfold PC.c5
   rw[if_neg (by rw[ho'];decide),if_neg (by omega)]
  ·rw[if_neg h1,if_neg h2]
   exact .inr (.inr ⟨by omega,rfl,rfl,ho,ho'⟩)
end
namespace c7
def xl(l l':List Px):Prop:=l'.map Px.bare=l.map Px.bare
theorem xr.mk{k o t n f:Int}{nm:ByteArray}{l l':List Px}{q q':Int}(h:xl l l'):xr (.mk k o t n f nm l q) (.mk k o t n f nm l' q'):=by
 unfold xr;rw[Px.nS,Px.nS];show Px.mk k o t n f nm (l'.map Px.bare) 0=Px.mk k o t n f nm (l.map Px.bare) 0;rw[h]
theorem xl.one{x x':Px}(h:xr x x'):xl [x] [x']:=by unfold xl;rw[List.map_singleton,List.map_singleton,h]
theorem xl.cons{x x':Px}{l l':List Px}(h:xr x x')(hl:xl l l'):xl (x::l) (x'::l'):=by unfold xl;rw[List.map_cons,List.map_cons,h,hl]
theorem xr.two{o p p':Int}{a a' b b':Px}(h:xr a a')(h2:xr b b'):xr (jc o p a b) (jc o p' a' b'):=.mk (.cons h (.one h2))
structure BV (m:c7) (nx nx':Lv) (d:Int):Prop where
 mx:dQ m.c nx.ex
 mu:dQ m.c nx.un
 kx:∀f,Kp m.c f nx.ex
 ku:∀f,Kp m.c f nx.un
 kx':∀f,Kp m.c' f nx'.ex
 ku':∀f,Kp m.c' f nx'.un
 fx:d+m.δ+1≤24→m.Fn xr nx.ex nx'.ex
 fu:d+m.δ+1≤24→m.Fn xr nx.un nx'.un
end c7
section
variable {m:c7} (hm:m.Ok) {nx nx':Lv} {d:Int} (hx:m.BV nx nx' d)
include hm hx
theorem c7.kids(hd:d+m.δ+1≤24):∀(n:Nat) (b:Bool),m.Fn c7.xl (m.c.dF nx n b) (m.c'.dF nx' n b)
 | 0,b=>fun s s' h hg=>.inl ⟨h,rfl⟩
 | n+1,b=>fun s s' h hg=>by
   rw[PC.dF] at hg ⊢
   rw[PC.dF]
   have h3:m.Gd (m.c.dF nx n false (nx.ex (if b=true then s else (m.c.take (⟨#[44]⟩:ByteArray) s).2)).2).2:=hg
   have h2:=c7.back hm (Up.kids hx.mx n false _) (fun f h=>Kp.kids (hx.kx f) n false _ h) h3
   have h1:=c7.back hm (hx.mx _) (fun f h=>hx.kx f _ h) h2
   have h4:m.Rs (if b=true then s else (m.c.take (⟨#[44]⟩:ByteArray) s).2) (if b=true then s' else (m.c'.take (⟨#[44]⟩:ByteArray) s').2):=by
    split
    ·exact h
    ·rename_i hb;rw[if_neg hb] at h1;exact c7.take hm h _ h1
   refine (hx.fx hd _ _ h4 h2).bind (fun f h=>Kp.kids (hx.kx' f) n false _ h) fun g1 e1=>?_
   refine (c7.kids hd n false _ _ g1 h3).bind (fun f h=>h) fun g2 e2=>.inl ⟨g2,.cons e1 e2⟩
theorem c7.call{kind oper dH pos pos':Int}{many:Nat}{s s':PS}(h:m.Rs s s')(ho:s.over=false)(hl:s.next<m.c.l.length)(hg:m.Gd (m.c.call nx d kind oper dH pos many s).2) :
  m.Out c7.xr (m.c.call nx d kind oper dH pos many s) (m.c'.call nx' (d+m.δ) kind oper dH pos' many s'):=by
 have hs:s.next≤m.K:=Nat.le_trans (Up.call hx.mx hl).1 hg.1
 unfold PC.call at hg ⊢
 rcases c7.cT hm h (d:=d) hs ho hl with ⟨h1,h2,h3⟩ | ⟨h2,h3⟩ | ⟨hd,h1,h2,h3,h4⟩
 ·rw[if_pos h1,if_pos h2];exact .inl ⟨h3,rfl⟩
 ·rw[if_pos h2];exact .inr h3
 ·rw[h1,if_neg (by rw[h3];decide)] at hg ⊢
  rw[h2,if_neg (by rw[h4];decide)]
  have g3:m.Gd (m.c.take (⟨#[41]⟩:ByteArray) (m.c.dF nx many true (m.c.take (⟨#[40]⟩:ByteArray) s.inc).2).2).2:=hg
  have g2:=c7.back hm (Up.take _) (fun f h=>h.take _) g3
  have g1:=c7.back hm (Up.kids hx.mx _ _ _) (fun f h=>Kp.kids (hx.kx f) _ _ _ h) g2
  refine (c7.kids hm hx hd many true _ _ (c7.take hm h.inc _ g1) g2).bind (fun f h=>h.take _) fun k1 e1=>?_
  exact .inl ⟨c7.take hm k1 _ g3,.mk e1⟩
theorem c7.rest:m.Fn c7.xr (m.c.rest nx d) (m.c'.rest nx' (d+m.δ)):=fun s s' h hg=>by
 have hs:=c7.back hm (Up.rest hx.mx d s) (fun f h=>Kp.rest nx d s h) hg
 unfold PC.rest at hg ⊢
 have w1:=c7.ej hm h hs (w:=(⟨#[104,97,115]⟩:ByteArray)) (.inl (by kernel_rfl))
 have w2:=c7.ej hm h hs (w:=(⟨#[40]⟩:ByteArray)) (.inl (by kernel_rfl))
 rw[w1,w2]
 by_cases hc1:m.c.ej (⟨#[104,97,115]⟩:ByteArray) s=true
 ·rw[if_pos hc1] at hg ⊢
  rw[if_pos hc1]
  by_cases ha:m.c.any [(⟨#[98,105,100]⟩:ByteArray),(⟨#[97,115,107]⟩:ByteArray),(⟨#[108,97,115,116]⟩:ByteArray)] s.inc<0
  ·rw[if_pos ha] at hg ⊢
   have gi:m.Gd s.inc:=c7.back hm (Up.c5 _) (fun f h=>h.c5 _) hg
   rw[c7.any hm h.inc gi (by kernel_rfl),if_pos ha]
   exact .inl ⟨c7.c5 hm h.inc gi.1,rfl⟩
  ·rw[if_neg ha] at hg ⊢
   have gi:m.Gd s.inc:=⟨Nat.le_trans (Nat.le_succ _) hg.1,fun ho=>hg.2 ho⟩
   rw[c7.any hm h.inc gi (by kernel_rfl),if_neg ha]
   exact .inl ⟨h.inc.inc,.mk rfl⟩
 ·rw[if_neg hc1] at hg ⊢
  rw[if_neg hc1]
  by_cases hc2:m.c.ej (⟨#[40]⟩:ByteArray) s=true
  ·rw[if_pos hc2] at hg ⊢
   rw[if_pos hc2]
   rcases c7.cT hm h (d:=d) hs.1 (nz hc2) (gZ hc2) with ⟨h1,h2,h3⟩ | ⟨h2,h3⟩ | ⟨hd,h1,h2,h3,h4⟩
   ·rw[if_pos h1,if_pos h2];exact .inl ⟨h3,rfl⟩
   ·rw[if_pos h2];exact .inr h3
   ·rw[h1,if_neg (by rw[h3];decide)] at hg ⊢
    rw[h2,if_neg (by rw[h4];decide)]
    have g2:m.Gd (m.c.take (⟨#[41]⟩:ByteArray) (nx.ex s.inc).2).2:=hg
    have g1:=c7.back hm (Up.take _) (fun f h=>h.take _) g2
    exact (hx.fx hd _ _ h.inc g1).bind (fun f h=>h.take _) fun k1 e1=>.inl ⟨c7.take hm k1 _ g2,e1⟩
  ·rw[if_neg hc2,if_neg hc2]
   exact .inl ⟨c7.c5 hm h hs.1,rfl⟩
theorem c7.one:m.Fn c7.xr (m.c.one nx d) (m.c'.one nx' (d+m.δ)):=fun s s' h hg=>by
 have hs:=c7.back hm (Up.one hx.mx d s) (fun f h=>Kp.one nx d s h) hg
 obtain⟨l1,l2,l3⟩:=c7.literal hm h hs
 have hn:=c7.now hm h hs
 unfold PC.one at hg ⊢
 rw[l3,c7.any hm h hs (ws:=jv) (by kernel_rfl),c7.any hm h hs (ws:=gL) (by kernel_rfl),c7.any hm h hs (ws:=jS) (by kernel_rfl)]
 by_cases hc1:(m.c.literal s).1.2=true
 ·rw[if_pos hc1,if_pos hc1];exact .inl ⟨l1,l2⟩
 ·rw[if_neg hc1] at hg ⊢
  rw[if_neg hc1]
  have hk:(m.c'.now s').kind=2↔(m.c.now s).kind=2:=by
   rcases hn with ⟨h1,_⟩ | ⟨_,h2,h3,_⟩
   ·rw[h1]
   ·rw[h2,h3];decide
  by_cases hc2:(m.c.now s).kind=2
  ·rw[if_pos hc2,if_pos (hk.2 hc2)]
   refine .inl ⟨h.inc, ?_⟩
   rcases hn with ⟨_,h2,_⟩ | ⟨_,h2,_⟩
   ·rw[h2];exact .mk rfl
   ·rw[h2] at hc2;exact absurd hc2 (by decide)
  ·rw[if_neg hc2] at hg ⊢
   rw[if_neg fun h=>hc2 (hk.1 h)]
   by_cases hc3:0≤m.c.any jv s
   ·rw[if_pos hc3,if_pos hc3];exact .inl ⟨h.inc,.mk rfl⟩
   ·rw[if_neg hc3] at hg ⊢
    rw[if_neg hc3]
    by_cases hc4:0≤m.c.any gL s
    ·rw[if_pos hc4] at hg ⊢
     rw[if_pos hc4]
     exact c7.call hm hx h (lR hc4) (dB hc4).1 hg
    ·rw[if_neg hc4] at hg ⊢
     rw[if_neg hc4]
     by_cases hc5:0≤m.c.any jS s
     ·rw[if_pos hc5] at hg ⊢
      rw[if_pos hc5]
      exact c7.call hm hx h (lR hc5) (dB hc5).1 hg
     ·rw[if_neg hc5] at hg ⊢
      rw[if_neg hc5]
      exact c7.rest hm hx s s' h hg
theorem c7.unary:m.Fn c7.xr (m.c.unary nx d) (m.c'.unary nx' (d+m.δ)):=fun s s' h hg=>by
 have hs:=c7.back hm (Up.unary hx.mx hx.mu d s) (fun f h=>Kp.unary nx d s h) hg
 unfold PC.unary at hg ⊢
 rw[c7.any hm h hs (ws:=k9) (by kernel_rfl)]
 by_cases hc1:m.c.any k9 s<0
 ·rw[if_pos hc1] at hg ⊢
  rw[if_pos hc1]
  exact c7.one hm hx s s' h hg
 ·rw[if_neg hc1] at hg ⊢
  rw[if_neg hc1]
  have ha:0≤m.c.any k9 s:=Int.not_lt.1 hc1
  rcases c7.cT hm h (d:=d) hs.1 (lR ha) (dB ha).1 with ⟨h1,h2,h3⟩ | ⟨h2,h3⟩ | ⟨hd,h1,h2,h3,h4⟩
  ·rw[if_pos h1,if_pos h2];exact .inl ⟨h3,rfl⟩
  ·rw[if_pos h2];exact .inr h3
  ·rw[h1,if_neg (by rw[h3];decide)] at hg ⊢
   rw[h2,if_neg (by rw[h4];decide)]
   exact (hx.fu hd _ _ h.inc hg).bind (fun f h=>h) fun k1 e1=>.inl ⟨k1,.mk (.one e1)⟩
end
section
variable {m:c7} (hm:m.Ok)
include hm
theorem c7.dN{ws:List ByteArray}{o:Int}{sub sub':PS→Px×PS}(hw:ws.all okW=true)(h0:dQ m.c sub)(hk:∀f,Kp m.c f sub)(hk':∀f,Kp m.c' f sub')(hf:m.Fn c7.xr sub sub')(hm':dQ m.c' sub') :
  ∀(k k':Nat) (n n':Px) (s s':PS),m.Rs s s'→c7.xr n n'→m.c.l.length≤k+s.next→m.c'.l.length≤k'+s'.next→m.Gd (m.c.dN ws o sub k n s).2→m.Out c7.xr (m.c.dN ws o sub k n s) (m.c'.dN ws o sub' k' n' s')
 | 0,k',n,n',s,s',h,hn,h1,h2,hg=>by
   have hs:m.Gd s:=hg
   have ha:m.c.any ws s<0:=Int.not_le.1 fun ha=>by have:=(dB ha).1;omega
   cases k' with
   | zero=>exact .inl ⟨h,hn⟩
   | succ k' =>
     rw[PC.dN,PC.dN,c7.any hm h hs hw,if_pos ha];exact .inl ⟨h,hn⟩
 | k+1,k',n,n',s,s',h,hn,h1,h2,hg=>by
   have hs:m.Gd s:=c7.back hm (Up.dN h0 _ _ _) (fun f h=>Kp.dN _ _ _ h) hg
   rw[PC.dN] at hg ⊢
   by_cases ha:m.c.any ws s<0
   ·rw[if_pos ha]
    cases k' with
    | zero=>exact .inl ⟨h,hn⟩
    | succ k'=>rw[PC.dN,c7.any hm h hs hw,if_pos ha];exact .inl ⟨h,hn⟩
   ·rw[if_neg ha] at hg ⊢
    have ha':0≤m.c'.any ws s':=by rw[c7.any hm h hs hw];exact Int.not_lt.1 ha
    cases k' with
    | zero=>have:=(dB ha').1;omega
    | succ k' =>
      rw[PC.dN,c7.any hm h hs hw,if_neg ha]
      have g2:=c7.back hm (Up.dN h0 _ _ _) (fun f h=>Kp.dN _ _ _ h) hg
      refine (hf _ _ h.inc g2).bind (fun f h=>Kp.dN _ _ _ h) fun k1 e1=>?_
      refine c7.dN hw h0 hk hk' hf hm' k k' _ _ _ _ k1 (.two hn e1) ?_ ?_ hg
      ·have:=(h0 s.inc).1;rw[fB] at this;omega
      ·have:=(hm' s'.inc).1;rw[fB] at this;omega
theorem c7.loop{ws:List ByteArray}{o:Int}{sub sub':PS→Px×PS}(hw:ws.all okW=true)(h0:dQ m.c sub)(hk:∀f,Kp m.c f sub)(hk':∀f,Kp m.c' f sub')(hf:m.Fn c7.xr sub sub')(hm':dQ m.c' sub') :
  m.Fn c7.xr (m.c.loop ws o sub) (m.c'.loop ws o sub'):=fun s s' h hg=>by
 have g1:=c7.back hm (Up.dN h0 _ _ _) (fun f h=>Kp.dN _ _ _ h) hg
 exact (hf s s' h g1).bind (fun f h=>Kp.dN _ _ _ h) fun k1 e1=>c7.dN hm hw h0 hk hk' hf hm' _ _ _ _ _ _ k1 e1 (by omega) (by omega) hg
end
section
variable {m:c7} (hm:m.Ok) {nx nx':Lv} {d:Int} (hx:m.BV nx nx' d) (hx':dQ m.c' nx'.ex) (hu':dQ m.c' nx'.un)
include hm hx hx' hu'
theorem c7.product:m.Fn c7.xr (m.c.product nx d) (m.c'.product nx' (d+m.δ)) :=
 c7.loop hm (by kernel_rfl) (Up.unary hx.mx hx.mu d) (fun f=>Kp.unary nx d) (fun f=>Kp.unary nx' _) (c7.unary hm hx) (Up.unary hx' hu' _)
theorem c7.sum:m.Fn c7.xr (m.c.sum nx d) (m.c'.sum nx' (d+m.δ)) :=
 c7.loop hm (by kernel_rfl) (Up.product hx.mx hx.mu d) (fun f=>Kp.product nx d) (fun f=>Kp.product nx' _) (c7.product hm hx hx' hu') (Up.product hx' hu' _)
theorem c7.compare:m.Fn c7.xr (m.c.compare nx d) (m.c'.compare nx' (d+m.δ)):=fun s s' h hg=>by
 unfold PC.compare at hg ⊢
 replace hg:m.Gd (if m.c.any jd (m.c.sum nx d s).2<0 then m.c.sum nx d s else (jc (11+m.c.any jd (m.c.sum nx d s).2) (m.c.now (m.c.sum nx d s).2).pos (m.c.sum nx d s).1 (m.c.sum nx d (m.c.sum nx d s).2.inc).1,(m.c.sum nx d (m.c.sum nx d s).2.inc).2)).2:=hg
 show m.Out c7.xr (if m.c.any jd (m.c.sum nx d s).2<0 then m.c.sum nx d s else (jc (11+m.c.any jd (m.c.sum nx d s).2) (m.c.now (m.c.sum nx d s).2).pos (m.c.sum nx d s).1 (m.c.sum nx d (m.c.sum nx d s).2.inc).1,(m.c.sum nx d (m.c.sum nx d s).2.inc).2))
  (if m.c'.any jd (m.c'.sum nx' (d+m.δ) s').2<0 then m.c'.sum nx' (d+m.δ) s' else (jc (11+m.c'.any jd (m.c'.sum nx' (d+m.δ) s').2) (m.c'.now (m.c'.sum nx' (d+m.δ) s').2).pos (m.c'.sum nx' (d+m.δ) s').1 (m.c'.sum nx' (d+m.δ) (m.c'.sum nx' (d+m.δ) s').2.inc).1,(m.c'.sum nx' (d+m.δ) (m.c'.sum nx' (d+m.δ) s').2.inc).2))
 by_cases ha:m.c.any jd (m.c.sum nx d s).2<0
 ·rw[if_pos ha] at hg ⊢
  refine (c7.sum hm hx hx' hu' s s' h hg).bind (fun f h=>?_) fun k1 e1=>?_
  ·rw[h.any,if_pos (by decide)];exact h
  ·rw[c7.any hm k1 hg (by kernel_rfl),if_pos ha];exact .inl ⟨k1,e1⟩
 ·rw[if_neg ha] at hg ⊢
  have hl:=(dB (Int.not_lt.1 ha)).1
  have ho:=lR (Int.not_lt.1 ha)
  have g1:m.Gd (m.c.sum nx d s).2:=⟨by have:=(Up.sum hx.mx hx.mu d (m.c.sum nx d s).2.inc).1;have:=hg.1;rw[fB] at *;show (m.c.sum nx d s).2.next≤m.K;simp only at *;omega,fun _=>ho⟩
  refine (c7.sum hm hx hx' hu' s s' h g1).bind (fun f h=>?_) fun k1 e1=>?_
  ·rw[h.any,if_pos (by decide)];exact h
  ·rw[c7.any hm k1 g1 (by kernel_rfl),if_neg ha]
   exact (c7.sum hm hx hx' hu' _ _ k1.inc hg).bind (fun f h=>h) fun k2 e2=>.inl ⟨k2,.two e1 e2⟩
theorem c7.and:m.Fn c7.xr (m.c.and nx d) (m.c'.and nx' (d+m.δ)) :=
 c7.loop hm (by kernel_rfl) (Up.compare hx.mx hx.mu d) (fun f=>Kp.compare nx d) (fun f=>Kp.compare nx' _) (c7.compare hm hx hx' hu') (Up.compare hx' hu' _)
theorem c7.or:m.Fn c7.xr (m.c.or nx d) (m.c'.or nx' (d+m.δ)) :=
 c7.loop hm (by kernel_rfl) (Up.and hx.mx hx.mu d) (fun f=>Kp.and nx d) (fun f=>Kp.and nx' _) (c7.and hm hx hx' hu') (Up.and hx' hu' _)
theorem c7.expr:m.Fn c7.xr (m.c.expr nx d) (m.c'.expr nx' (d+m.δ)):=fun s s' h hg=>by
 unfold PC.expr at hg ⊢
 generalize hr:m.c.or nx d s=r at hg ⊢
 have hor:m.Gd r.2→m.Out c7.xr r (m.c'.or nx' (d+m.δ) s'):=fun g=>by rw[←hr];exact c7.or hm hx hx' hu' s s' h (by rw[hr];exact g)
 replace hg:m.Gd (if m.c.ej (⟨#[63]⟩:ByteArray) r.2 then (if (m.c.cT d r.2).over then (eU,m.c.cT d r.2) else (.mk 7 0 0 0 0 ⟨#[]⟩ [r.1,(nx.ex (m.c.cT d r.2).inc).1,(nx.ex (m.c.take (⟨#[58]⟩:ByteArray) (nx.ex (m.c.cT d r.2).inc).2).2).1] (m.c.now (m.c.cT d r.2)).pos,(nx.ex (m.c.take (⟨#[58]⟩:ByteArray) (nx.ex (m.c.cT d r.2).inc).2).2).2)) else r:Px×PS).2:=hg
 show m.Out c7.xr (if m.c.ej (⟨#[63]⟩:ByteArray) r.2 then (if (m.c.cT d r.2).over then (eU,m.c.cT d r.2) else (.mk 7 0 0 0 0 ⟨#[]⟩ [r.1,(nx.ex (m.c.cT d r.2).inc).1,(nx.ex (m.c.take (⟨#[58]⟩:ByteArray) (nx.ex (m.c.cT d r.2).inc).2).2).1] (m.c.now (m.c.cT d r.2)).pos,(nx.ex (m.c.take (⟨#[58]⟩:ByteArray) (nx.ex (m.c.cT d r.2).inc).2).2).2)) else r:Px×PS) _
 have key:∀r':Px×PS,m.Out c7.xr r r'→m.Out c7.xr (if m.c.ej (⟨#[63]⟩:ByteArray) r.2 then (if (m.c.cT d r.2).over then (eU,m.c.cT d r.2) else (.mk 7 0 0 0 0 ⟨#[]⟩ [r.1,(nx.ex (m.c.cT d r.2).inc).1,(nx.ex (m.c.take (⟨#[58]⟩:ByteArray) (nx.ex (m.c.cT d r.2).inc).2).2).1] (m.c.now (m.c.cT d r.2)).pos,(nx.ex (m.c.take (⟨#[58]⟩:ByteArray) (nx.ex (m.c.cT d r.2).inc).2).2).2)) else r:Px×PS)
   (if m.c'.ej (⟨#[63]⟩:ByteArray) r'.2 then (if (m.c'.cT (d+m.δ) r'.2).over then (eU,m.c'.cT (d+m.δ) r'.2) else (.mk 7 0 0 0 0 ⟨#[]⟩ [r'.1,(nx'.ex (m.c'.cT (d+m.δ) r'.2).inc).1,(nx'.ex (m.c'.take (⟨#[58]⟩:ByteArray) (nx'.ex (m.c'.cT (d+m.δ) r'.2).inc).2).2).1] (m.c'.now (m.c'.cT (d+m.δ) r'.2)).pos,(nx'.ex (m.c'.take (⟨#[58]⟩:ByteArray) (nx'.ex (m.c'.cT (d+m.δ) r'.2).inc).2).2).2)) else r':Px×PS):=by
  intro r' hrr
  refine hrr.bind (fun f h=>?_) fun k1 e1=>?_
  ·rw[h.ej];exact h
  by_cases hc:m.c.ej (⟨#[63]⟩:ByteArray) r.2=true
  ·rw[if_pos hc] at hg ⊢
   have hl:=gZ hc
   have ho:=nz hc
   have hK:r.2.next≤m.K:=by
    have h2:=hg.1
    split at h2
    ·have h2:(m.c.cT d r.2).next≤m.K:=h2
     rw[ef] at h2;exact h2
    ·have h2:(nx.ex (m.c.take (⟨#[58]⟩:ByteArray) (nx.ex (m.c.cT d r.2).inc).2).2).2.next≤m.K:=h2
     have a1:=(hx.mx (m.c.cT d r.2).inc).1
     have a2:=(Up.take (c:=m.c) (s:=(nx.ex (m.c.cT d r.2).inc).2) (⟨#[58]⟩:ByteArray)).1
     have a3:=(hx.mx (m.c.take (⟨#[58]⟩:ByteArray) (nx.ex (m.c.cT d r.2).inc).2).2).1
     rw[fB,ef] at a1
     omega
   rw[c7.ej hm k1 ⟨hK,fun _=>ho⟩ (.inl (by kernel_rfl)),if_pos hc]
   rcases c7.cT hm k1 (d:=d) hK ho hl with ⟨h1,h2,h3⟩ | ⟨h2,h3⟩ | ⟨hd,h1,h2,h3,h4⟩
   ·rw[if_pos h1,if_pos h2];exact .inl ⟨h3,rfl⟩
   ·rw[if_pos h2];exact .inr h3
   ·rw[h1,if_neg (by rw[h3];decide)] at hg ⊢
    rw[h2,if_neg (by rw[h4];decide)]
    have g3:m.Gd (nx.ex (m.c.take (⟨#[58]⟩:ByteArray) (nx.ex r.2.inc).2).2).2:=hg
    have g2:=c7.back hm (hx.mx _) (fun f h=>hx.kx f _ h) g3
    have g1:=c7.back hm (Up.take _) (fun f h=>h.take _) g2
    refine (hx.fx hd _ _ k1.inc g1).bind (fun f h=>hx.kx' f _ (h.take _)) fun k2 e2=>?_
    refine (hx.fx hd _ _ (c7.take hm k2 _ g2) g3).bind (fun f h=>h) fun k3 e3=>.inl ⟨k3,.mk (.cons e1 (.cons e2 (.one e3)))⟩
  ·rw[if_neg hc] at hg ⊢
   rw[c7.ej hm k1 hg (.inl (by kernel_rfl)),if_neg hc]
   exact .inl ⟨k1,e1⟩
 refine key _ (hor ?_)
 by_cases hc:m.c.ej (⟨#[63]⟩:ByteArray) r.2=true
 ·rw[if_pos hc] at hg
  have ho:=nz hc
  refine⟨?_,fun _=>ho⟩
  have h2:=hg.1
  split at h2
  ·have h2:(m.c.cT d r.2).next≤m.K:=h2
   rw[ef] at h2;exact h2
  ·have h2:(nx.ex (m.c.take (⟨#[58]⟩:ByteArray) (nx.ex (m.c.cT d r.2).inc).2).2).2.next≤m.K:=h2
   have a1:=(hx.mx (m.c.cT d r.2).inc).1
   have a2:=(Up.take (c:=m.c) (s:=(nx.ex (m.c.cT d r.2).inc).2) (⟨#[58]⟩:ByteArray)).1
   have a3:=(hx.mx (m.c.take (⟨#[58]⟩:ByteArray) (nx.ex (m.c.cT d r.2).inc).2).2).1
   rw[fB,ef] at a1
   omega
 ·rw[if_neg hc] at hg;exact hg
end
theorem c7.lvl{m:c7}(hm:m.Ok):∀(k k':Nat) (d:Int),(k:Int)+d=24→(k':Int)+(d+m.δ)=24→m.Fn c7.xr (m.c.lvl k d).ex (m.c'.lvl k' (d+m.δ)).ex∧m.Fn c7.xr (m.c.lvl k d).un (m.c'.lvl k' (d+m.δ)).un:=by
 have hz:∀c:PC,dQ c (fun s:PS=>(eU,s)):=fun c s=>.refl
 have kz:∀(c:PC) f,Kp c f (fun s:PS=>(eU,s)):=fun c f s h=>h
 have hd0:=hm.d0
 intro k
 induction k with
 | zero =>
   intro k' d hk hk'
   have hk0:k'=0:=by omega
   subst hk0
   have hx:m.BV ⟨fun s=>(eU,s),fun s=>(eU,s)⟩ ⟨fun s=>(eU,s),fun s=>(eU,s)⟩ d:=⟨hz _,hz _,kz _,kz _,kz _,kz _,fun h=>by omega,fun h=>by omega⟩
   exact⟨c7.expr hm hx (hz _) (hz _),c7.unary hm hx⟩
 | succ k ih =>
   intro k' d hk hk'
   cases k' with
   | zero =>
     have hx:m.BV (m.c.lvl k (d+1)) ⟨fun s=>(eU,s),fun s=>(eU,s)⟩ d:=⟨(Up.lvl k (d+1)).1,(Up.lvl k (d+1)).2,fun f=>(Kp.lvl k (d+1)).1,fun f=>(Kp.lvl k (d+1)).2,kz _,kz _,fun h=>by omega,fun h=>by omega⟩
     exact⟨c7.expr hm hx (hz _) (hz _),c7.unary hm hx⟩
   | succ k' =>
     have hi:=ih k' (d+1) (by omega) (by omega)
     rw[show d+1+m.δ=d+m.δ+1 by omega] at hi
     have hx:m.BV (m.c.lvl k (d+1)) (m.c'.lvl k' (d+m.δ+1)) d:=⟨(Up.lvl k (d+1)).1,(Up.lvl k (d+1)).2,fun f=>(Kp.lvl k (d+1)).1,fun f=>(Kp.lvl k (d+1)).2,fun f=>(Kp.lvl k' _).1,fun f=>(Kp.lvl k' _).2,fun _=>hi.1,fun _=>hi.2⟩
     exact⟨c7.expr hm hx (Up.lvl k' _).1 (Up.lvl k' _).2,c7.unary hm hx⟩
end Go.Lx
namespace Go.Lx
open Go.Vc
section
variable {c:PC}
theorem Up.lQ{nm:ByteArray}{t pos pos2:Int}{minus:Bool}{n:Px}:dQ c (c.lQ nm t pos pos2 minus n):=fun s=>Up.take _
theorem Up.jJ{nm:ByteArray}{t pos pos2:Int}{minus:Bool}:dQ c (c.jJ nm t pos pos2 minus):=fun s=>by
 unfold PC.jJ
 split
 ·exact .c5 _
 ·refine Up.trans ?_ (Up.lQ _)
  split
  ·exact .literal
  ·exact Up.literal.trans (.c5 _)
theorem Up.kI{nm:ByteArray}{t pos:Int}:dQ c (c.kI nm t pos):=fun s=>by
 unfold PC.kI
 refine Up.trans ?_ (Up.jJ _)
 split
 ·rename_i h;exact .inc (gZ h)
 ·exact .refl
theorem Up.kJ{nm:ByteArray}{pos:Int}:dQ c (c.kJ nm pos):=fun s=>by
 unfold PC.kJ
 split
 ·exact .c5 _
 ·rename_i ha
  exact (Up.inc (dB (Int.not_lt.1 ha)).1).trans ((Up.take _).trans (Up.kI _))
theorem Up.lx:dQ c c.lx:=fun s=>(Up.take _).trans (Up.name.trans (Up.kJ _))
theorem Up.eg:dQ c c.eg:=fun s=>by
 unfold PC.eg
 split
 ·rename_i h;exact (Up.inc (gZ h)).trans .name
 ·exact .refl
theorem Up.jK{x y z:Px}{pos o:Int}:dQ c (c.jK x y pos z o):=fun s=>Up.eg s
theorem Up.iw{x y z:Px}{pos:Int}:dQ c (c.iw x y pos z):=fun s=>by
 unfold PC.iw
 split
 ·exact .c5 _
 ·rename_i ha
  exact (Up.inc (dB (Int.not_lt.1 ha)).1).trans (Up.jK _)
theorem Up.ij{x y:Px}{pos:Int}:dQ c (c.ij x y pos):=fun s=>by
 unfold PC.ij
 split
 ·exact .c5 _
 ·rename_i ha
  have h1:=Up.inc (c:=c) (dB (Int.not_lt.1 ha)).1
  split
  ·exact h1.trans ((Up.dW _).trans (Up.iw _))
  ·exact h1.trans (Up.jK _)
theorem Up.fZ:dQ c c.fZ:=fun s=>(Up.take _).trans ((Up.dW _).trans ((Up.take _).trans ((Up.dW _).trans (Up.ij _))))
theorem Up.ny{k:Int}{nm:ByteArray}{pos:Int}:dQ c (c.ny k nm pos):=fun s=>by
 unfold PC.ny
 split
 ·exact (Up.take _).trans ((Up.dW _).trans ((Up.take _).trans (Up.dW _)))
 ·split
  ·exact (Up.take _).trans (Up.dW _)
  ·exact .refl
theorem Up.do:dQ c c.do:=fun s=>by
 unfold PC.do
 split
 ·exact .c5 _
 ·rename_i ha
  have h1:=Up.inc (c:=c) (dB (Int.not_lt.1 ha)).1
  split
  ·exact Up.fZ s
  ·split
   ·exact h1.trans (Up.ny _)
   ·exact h1.trans (Up.name.trans (Up.ny _))
end
end Go.Lx
namespace Go.Lx
open Go.Vc
theorem mO:kY.px=eU:=by simp only[kY,Nd.px,Nd.xp];rfl
section
variable {N Pl:Type} (z:Nat) (f:N→List Value) (E:Nat) (p:N→Pl) (ok:cS→N→Prop) (q:PQ) (b:Nat) (w:ByteArray) (most:Nat) (one:PS→Pl×PS) (s0:PS) (F0:cR)
def Fb(a:Option Addr)(n c m:Nat)(I:cS)(F:cR):Prop:=q.ok I∧∃(ks:List N) (A:cR) (s':PS),Acc z f E a n c ks A∧(∀k∈ks,ok I k)∧F.Perm (q.fp b s'::(A++F0))∧s'.next≤q.c.l.length∧ks.length≤most∧m=most-ks.length∧q.c.list w most one s0=q.c.dZ w most one (most-ks.length) (ks.map p) s'
end
section
variable {N Pl:Type} {z:Nat} {f:N→List Value} {E:Nat} {p:N→Pl} {ok:cS→N→Prop} {q:PQ} {b:Nat} {w:ByteArray} {most:Nat} {one:PS→Pl×PS} {s0:PS} {F0:cR} {I J:cS} {F:cR}
end
end Go.Lx
namespace Go.Lx
open Go.Vc
section
variable {c:PC}
theorem Up.fc:∀(m:Nat) (l:List eJ),dQ c (c.fc m l)
 | 0,l=>fun s=>.refl
 | m+1,l=>fun s=>by
   rw[PC.fc]
   have h1:=Up.do (c:=c) s
   split
   ·rename_i hw
    have hlt:=gZ hw
    split
    ·exact h1.trans (.many _ _)
    ·rename_i hm
     obtain⟨_,he⟩:=pY hlt (by simpa using hm)
     rw[he]
     exact h1.trans ((Up.inc hlt).trans (Up.fc m _ _))
   ·exact h1
theorem Up.fS:dQ c c.fS:=fun s=>(Up.take _).trans ((Up.dW _).trans ((Up.take _).trans ((Up.fc 8 [] _).trans (Up.take _))))
theorem Up.dZ{α:Type}{w:ByteArray}{most:Nat}{one:PS→α×PS}(h:dQ c one):∀(m:Nat) (l:List α),dQ c (c.dZ w most one m l)
 | 0,l=>fun s=>by
   rw[PC.dZ]
   show Up c s (if c.ej w s then c.many l.length most s else s)
   split
   ·exact .many _ _
   ·exact .refl
 | m+1,l=>fun s=>by
   rw[PC.dZ]
   split
   ·rename_i hw
    have hlt:=gZ hw
    split
    ·exact .many _ _
    ·rename_i hm
     obtain⟨_,he⟩:=pY hlt (by simpa using hm)
     rw[he]
     exact (h s).trans (Up.dZ h m _ _)
   ·exact .refl
theorem Up.list{α:Type}{w:ByteArray}{most:Nat}{one:PS→α×PS}(h:dQ c one):dQ c (c.list w most one):=Up.dZ h most []
theorem Up.state:dQ c c.state:=fun s=>(Up.take _).trans (Up.name.trans ((Up.take _).trans ((Up.list Up.fS _).trans (Up.take _))))
theorem Up.slot:dQ c c.slot:=fun s=>(Up.take _).trans (Up.name.trans (Up.take _))
theorem Up.lz{nm:ByteArray}{rs:List dL}{ss:List di}{ts:List dm}:dQ c (c.lz nm rs ss ts):=fun s=>by
 have h1:Up c s (if ts.length=0 then c.c5 130 s else s):=by
  split
  ·exact .c5 _
  ·exact .refl
 exact h1.trans ((Up.take _).trans .end)
theorem Up.qB{nm:ByteArray}{rs:List dL}{ss:List di}:dQ c (c.qB nm rs ss):=fun s=>(Up.list (w:=(⟨#[115,116,97,116,101]⟩:ByteArray)) (most:=12) Up.state s).trans (Up.lz _)
theorem Up.qC{nm:ByteArray}{rs:List dL}:dQ c (c.qC nm rs):=fun s=>(Up.list (w:=(⟨#[115,108,111,116]⟩:ByteArray)) (most:=4) Up.slot s).trans (Up.qB _)
theorem Up.qD{nm:ByteArray}:dQ c (c.qD nm):=fun s=>(Up.list (w:=(⟨#[114,101,103]⟩:ByteArray)) (most:=12) Up.lx s).trans (Up.qC _)
theorem Up.whole:dQ c c.whole:=fun s=>(Up.take _).trans (Up.name.trans ((Up.take _).trans (Up.qD _)))
end
section
variable {N Pl:Type} {z:Nat} {f:N→List Value} {E:Nat} {p:N→Pl} {ok:cS→N→Prop} {q:PQ} {b:Nat} {w:ByteArray} {most:Nat} {one:PS→Pl×PS} {s0:PS} {F0:cR} {I J:cS} {F:cR} {a:Option Addr} {n c m:Nat}
theorem Fb.next(hmono:∀I J x,cS.le I J→ok I x→ok J x){ks:List N}{A:cR}{s':PS}(hm:dQ q.c one)(hA:Acc z f E a n c ks A)(hks:∀k∈ks,ok I k)(hsn:s'.next≤q.c.l.length)(hr:q.c.list w most one s0=q.c.dZ w most one (most-ks.length) (ks.map p) s')(hw:q.c.ej w s'=true)(ho:(q.c.many ks.length most s').over=false)
  {x:N} (hx:p x=(one s').1) (hok:ok J x) (hl:cS.le I J) (hq:q.ok J) {a':Option Addr} {n' c':Nat} {A':cR} (hA':Acc z f E a' n' c' (ks++[x]) A') (hF:F.Perm (q.fp b (one s').2::(A'++F0))) :
  Fb z f E p ok q b w most one s0 F0 a' n' c' (most-(ks.length+1)) J F:=by
 obtain⟨hlt,he⟩:=pY (gZ hw) ho
 obtain⟨j,hj⟩:∃j,most-ks.length=j+1:=⟨most-ks.length-1,by omega⟩
 refine⟨hq,ks++[x],A',(one s').2,hA',fun k hk=>?_,hF,(hm _).2 hsn,by rw[List.length_append,List.length_singleton];omega,by rw[List.length_append,List.length_singleton], ?_⟩
 ·rcases List.mem_append.1 hk with hk | hk
  ·exact hmono _ _ _ hl (hks k hk)
  ·rw[List.mem_singleton] at hk;subst hk;exact hok
 ·rw[hr,hj,PC.dZ,if_pos hw,List.length_map,if_neg (by simp[ho]),he,List.map_append,List.map_singleton,hx,List.length_append,List.length_singleton,show most-(ks.length+1)=j by omega]
end
end Go.Lx
namespace Go.Lx
open Go.Vc
end Go.Lx
namespace Go.Lx
open Go.Vc Go.Proofs.Tryz
def o0:List (Nat×List Sh):=[(4,[.one .bool]),(9,[.one .str]),(39,[.one .slc]),(40,[.one .slc]),(41,[.one .slc]),(43,[.agg [.str,.slc,.slc,.slc]]),(64,[.agg [(.int .u8),(.int .u8),(.int .u8),(.int .i64),(.int .u8),.str,.slc,(.int .i64)]]),(86,[.one .slc]),(88,[.agg [.str,.slc,(.int .i64)]]),(104,[.agg [.str,(.int .u8),(.int .u8),(.int .u8),(.int .u8),(.int .i64),(.int .u8),.str,.slc,(.int .i64),(.int .i64)]]),(106,[.agg [.str,(.int .i64)]]),(108,[.one .slc]),(110,[.agg [(.int .u8),(.int .u8),(.int .u8),(.int .i64),(.int .u8),.str,.slc,(.int .i64),.slc,(.int .i64)]]),(114,[.agg [(.int .u8),(.int .u8),.str,(.int .u8),(.int .u8),(.int .u8),(.int .i64),(.int .u8),.str,.slc,(.int .i64),(.int .u8),(.int .u8),(.int .u8),(.int .i64),(.int .u8),.str,.slc,(.int .i64),(.int .u8),(.int .u8),(.int .u8),(.int .i64),(.int .u8),.str,.slc,(.int .i64),(.int .u8),(.int .u8),(.int .u8),(.int .i64),(.int .u8),.str,.slc,(.int .i64),(.int .i64)]])]
def j4.V(ka:Nat→Int→Int→Bs→Int→Int→Int→Int→Int→Bs→OA→Nat→Nat→Int→Int→Int→Int→Int→Int→Bs→OA→Nat→Nat→Int→Int→Int→Int→Int→Int→Bs→OA→Nat→Nat→Int→Int→Int→Int→Int→Int→Bs→OA→Nat→Nat→Int→Int→Nat×Obj)(nV:Int→Int→Int→Int→Int→Bs→OA→Nat→Nat→Int→Value)(vb vi:Int→Value)(vs:Bs→Value)(vl:OA→Nat→Nat→Value)(ae af:Int)(ag:Bs)(aW aX aY aZ a0:Int)(a1:Bs)(aI:OA)(aJ aK:Nat)(aV aB aC aD aE aF:Int)(aG:Bs)(u:OA)(v w:Nat)(aH x y z aa ab:Int)(ac:Bs)(e:OA)(f g:Nat)(ad n o p q r:Int)(s:Bs)(a:OA)(c d:Nat)(t a9:Int)(I:cS)(F:cR)(Q:cW)  : Prop:=∀aA:Nat,∀b:Nat,ni P 100 #[nV aW aX aY aZ a0 a1 aI aJ aK aV] I ((ka aA ae af ag aW aX aY aZ a0 a1 aI aJ aK aV aB aC aD aE aF aG u v w aH x y z aa ab ac e f g ad n o p q r s a c d t 0)::(ka b 0 0 (⟨#[]⟩:Bs) 0 0 0 0 0 (⟨#[]⟩:Bs) none 0 0 0 0 0 0 0 0 (⟨#[]⟩:Bs) none 0 0 0 0 0 0 0 0 (⟨#[]⟩:Bs) none 0 0 0 0 0 0 0 0 (⟨#[]⟩:Bs) none 0 0 0 0)::·) F fun e1 I1 G1=>∃(ar au av aw ax:Int) (ay:Bs) (h:OA) (i j:Nat) (az:Int),e1=.returned (nV ar au av aw ax ay h i j az)∧G1 fun F1=>ni P 100 #[nV aB aC aD aE aF aG u v w aH] I1 ((ka aA ae af ag ar au av aw ax ay h i j az aB aC aD aE aF aG u v w aH x y z aa ab ac e f g ad n o p q r s a c d t 0)::(ka b 0 0 (⟨#[]⟩:Bs) 0 0 0 0 0 (⟨#[]⟩:Bs) none 0 0 0 0 0 0 0 0 (⟨#[]⟩:Bs) none 0 0 0 0 0 0 0 0 (⟨#[]⟩:Bs) none 0 0 0 0 0 0 0 0 (⟨#[]⟩:Bs) none 0 0 0 0)::·) F1 fun e2 I2 G2=>∃(ak al am an ao:Int) (ap:Bs) (k:OA) (l m:Nat) (aq:Int),e2=.returned (nV ak al am an ao ap k l m aq)∧G2 fun F2=>ni P 100 #[nV x y z aa ab ac e f g ad] I2 ((ka aA ae af ag ar au av aw ax ay h i j az ak al am an ao ap k l m aq x y z aa ab ac e f g ad n o p q r s a c d t 0)::(ka b 0 0 (⟨#[]⟩:Bs) 0 0 0 0 0 (⟨#[]⟩:Bs) none 0 0 0 0 0 0 0 0 (⟨#[]⟩:Bs) none 0 0 0 0 0 0 0 0 (⟨#[]⟩:Bs) none 0 0 0 0 0 0 0 0 (⟨#[]⟩:Bs) none 0 0 0 0)::·) F2 fun e3 I3 G3=>∃(aL aM aN aO aP:Int) (aQ:Bs) (ah:OA) (ai aj:Nat) (aR:Int),e3=.returned (nV aL aM aN aO aP aQ ah ai aj aR)∧G3 fun F3=>ni P 100 #[nV n o p q r s a c d t] I3 ((ka aA ae af ag ar au av aw ax ay h i j az ak al am an ao ap k l m aq aL aM aN aO aP aQ ah ai aj aR n o p q r s a c d t 0)::(ka b 0 0 (⟨#[]⟩:Bs) 0 0 0 0 0 (⟨#[]⟩:Bs) none 0 0 0 0 0 0 0 0 (⟨#[]⟩:Bs) none 0 0 0 0 0 0 0 0 (⟨#[]⟩:Bs) none 0 0 0 0 0 0 0 0 (⟨#[]⟩:Bs) none 0 0 0 0)::·) F3 fun e4 I4 G4=>∃(a2 a3 a4 a5 a6:Int) (a7:Bs) (aS:OA) (aT aU:Nat) (a8:Int),e4=.returned (nV a2 a3 a4 a5 a6 a7 aS aT aU a8)∧G4 fun F4=>Q (.returned (.agg #[vb ae,vb af,vs ag,vb ar,vb au,vb av,vi aw,vb ax,vs ay,vl h i j,vi az,vb ak,vb al,vb am,vi an,vb ao,vs ap,vl k l m,vi aq,vb aL,vb aM,vb aN,vi aO,vb aP,vs aQ,vl ah ai aj,vi aR,vb a2,vb a3,vb a4,vi a5,vb a6,vs a7,vl aS aT aU,vi a8,vi 0])) I4 (F4)
theorem j4.vc{a3 a4:Int}{a5:Bs}{a6 a7 a8 a9 ba:Int}{bb:Bs}{aD:OA}{aE aF:Nat}{aG aH aI aJ aK aL:Int}{aM:Bs}{au:OA}{av aw:Nat}{aN aO aP aQ aR aS:Int}{aT:Bs}{ax:OA}{ay az:Nat}{aU aV aW aX aY aZ:Int}{a0:Bs}{aA:OA}{aB aC:Nat}{a1 a2:Int}{I:cS}{F:cR}{Q:cW}  (h:j4.V (fun W a b c d e f g h i j k l m n o p q r s t u v w x y z aa ab ac ad ae af ag ah ai aj ak al am an ao ap aq ar=>(W,Obj.cells #[.int .u8 a,.int .u8 b,.string c,.int .u8 d,.int .u8 e,.int .u8 f,.int .i64 g,.int .u8 h,.string i,.slice j k l,.int .i64 m,.int .u8 n,.int .u8 o,.int .u8 p,.int .i64 q,.int .u8 r,.string s,.slice t u v,.int .i64 w,.int .u8 x,.int .u8 y,.int .u8 z,.int .i64 aa,.int .u8 ab,.string ac,.slice ad ae af,.int .i64 ag,.int .u8 ah,.int .u8 ai,.int .u8 aj,.int .i64 ak,.int .u8 al,.string am,.slice an ao ap,.int .i64 aq,.int .i64 ar] 114 (0,0))) (fun k o t n f s a l c q=>.agg #[.int .u8 k,.int .u8 o,.int .u8 t,.int .i64 n,.int .u8 f,.string s,.slice a l c,.int .i64 q]) (.int .u8) (.int .i64) .string .slice a3 a4 a5 a6 a7 a8 a9 ba bb aD aE aF aG aH aI aJ aK aL aM au av aw aN aO aP aQ aR aS aT ax ay az aU aV aW aX aY aZ a0 aA aB aC a1 a2 I F Q):cZ P 122 #[.agg #[.int .u8 a3,.int .u8 a4,.string a5,.int .u8 a6,.int .u8 a7,.int .u8 a8,.int .i64 a9,.int .u8 ba,.string bb,.slice aD aE aF,.int .i64 aG,.int .u8 aH,.int .u8 aI,.int .u8 aJ,.int .i64 aK,.int .u8 aL,.string aM,.slice au av aw,.int .i64 aN,.int .u8 aO,.int .u8 aP,.int .u8 aQ,.int .i64 aR,.int .u8 aS,.string aT,.slice ax ay az,.int .i64 aU,.int .u8 aV,.int .u8 aW,.int .u8 aX,.int .i64 aY,.int .u8 aZ,.string a0,.slice aA aB aC,.int .i64 a1,.int .i64 a2]] I F Q :=
 tw (A:=(an [] [100] o0)) [100] func122 h
def iz.V(ka:Nat→Int→Int→Int→Int→Int→Bs→OA→Nat→Nat→Int→OA→Nat→Nat→Int→Nat×Obj)(kb:Nat→Bs→OA→Nat→Nat→Int→Nat×Obj)(r:Nat→Nat×Obj)(nV:Int→Int→Int→Int→Int→Bs→OA→Nat→Nat→Int→Value)(vb vi:Int→Value)(vs:Bs→Value)(vl:OA→Nat→Nat→Value)(bZ:Bs)(bJ:OA)(w b0:Nat)(b3:Int)(I:cS)(F:cR)(Q:cW)(Inv8:OA→Nat→Nat→Int→Nat→cS→cR→cS→cR→Prop)(Inv25:Int→OA→Nat→Nat→Int→Nat→cS→cR→cS→cR→Prop):Prop:=∀t:Nat,∀b:Nat,(∃m:Nat,Inv8 none 0 0 0 m I F I F)∧∀(aH:OA) (aI aJ:Nat) (i:Int) (m1:Nat) (I1:cS) (F1:cR),cS.le I I1→Inv8 aH aI aJ i m1 I F I1 F1→(Dt (i<(w:Int)) ((0≤i∧i<(w:Int))∧∃ad:Addr,bJ=some ad∧∃(h j l n o:Int) (p:Bs) (c:OA) (d e:Nat) (q:Int) (f:OA) (a g:Nat) (s:Int),Rd I1 ((r t)::(kb b (⟨#[]⟩:Bs) none 0 0 0)::F1) (ad.add (Int.toNat i*10)) [vb h,vb j,vb l,vi n,vb o,vs p,vl c d e,vi q,vl f a g,vi s]∧∀u:Nat,(∃m2:Nat,Inv25 i none 0 0 0 m2 I1 F1 I1 F1)∧∀(x:OA) (y z:Nat) (k:Int) (m3:Nat) (I2:cS) (F2:cR),cS.le I1 I2→Inv25 i x y z k m3 I1 F1 I2 F2→(Dt (k<(a:Int)) ((0≤k∧k<(a:Int))∧∃bY:Addr,f=some bY∧∃(aK aL:Int) (aM:Bs) (aN aO aP bK aQ:Int) (bL:Bs) (av:OA) (aw ax:Nat) (aR ay aS aT aU aV:Int) (aW:Bs) (aa:OA) (ab ac:Nat) (aX aY aZ az a0 a1:Int) (a2:Bs) (ae:OA) (af ag:Nat) (a3 a4 a5 a6 a7 aA:Int) (a8:Bs) (ah:OA) (ai aj:Nat) (a9 ba:Int),Rd I2 ((r t)::(kb b (⟨#[]⟩:Bs) none 0 0 0)::(ka u h j l n o p c d e q f a g s)::F2) (bY.add (Int.toNat k*36)) [vb aK,vb aL,vs aM,vb aN,vb aO,vb aP,vi bK,vb aQ,vs bL,vl av aw ax,vi aR,vb ay,vb aS,vb aT,vi aU,vb aV,vs aW,vl aa ab ac,vi aX,vb aY,vb aZ,vb az,vi a0,vb a1,vs a2,vl ae af ag,vi a3,vb a4,vb a5,vb a6,vi a7,vb aA,vs a8,vl ah ai aj,vi a9,vi ba]∧ni P 122 #[.agg #[vb aK,vb aL,vs aM,vb aN,vb aO,vb aP,vi bK,vb aQ,vs bL,vl av aw ax,vi aR,vb ay,vb aS,vb aT,vi aU,vb aV,vs aW,vl aa ab ac,vi aX,vb aY,vb aZ,vb az,vi a0,vb a1,vs a2,vl ae af ag,vi a3,vb a4,vb a5,vb a6,vi a7,vb aA,vs a8,vl ah ai aj,vi a9,vi ba]] I2 ((r t)::(kb b (⟨#[]⟩:Bs) none 0 0 0)::(ka u h j l n o p c d e q f a g s)::·) F2 fun e1 I3 G1=>∃(bM bN:Int) (bO:Bs) (bP bQ bR bS bT:Int) (bU:Bs) (aB:OA) (aC aD:Nat) (bb bc bd be bf bg:Int) (bh:Bs) (ak:OA) (al am:Nat) (bi bj bk bl bm bn:Int) (bo:Bs) (an:OA) (ao ap:Nat) (bp bq br bs bt bu:Int) (bv:Bs) (aq:OA) (ar au:Nat) (bw bx:Int),e1=.returned (.agg #[vb bM,vb bN,vs bO,vb bP,vb bQ,vb bR,vi bS,vb bT,vs bU,vl aB aC aD,vi bb,vb bc,vb bd,vb be,vi bf,vb bg,vs bh,vl ak al am,vi bi,vb bj,vb bk,vb bl,vi bm,vb bn,vs bo,vl an ao ap,vi bp,vb bq,vb br,vb bs,vi bt,vb bu,vs bv,vl aq ar au,vi bw,vi bx])∧G1 fun F3=>∀(b1:Nat) (I4:cS),cS.le I3 I4→I4 b1=some (Obj.cells #[vb bM,vb bN,vs bO,vb bP,vb bQ,vb bR,vi bS,vb bT,vs bU,vl aB aC aD,vi bb,vb bc,vb bd,vb be,vi bf,vb bg,vs bh,vl ak al am,vi bi,vb bj,vb bk,vb bl,vi bm,vb bn,vs bo,vl an ao ap,vi bp,vb bq,vb br,vb bs,vi bt,vb bu,vs bv,vl aq ar au,vi bw,vi bx] 114 (0,0))→dO P (Builtin.append_ #[108,108] 108 #[vl x y z,vl (some ⟨b1,0,none⟩) 1 1]) I4 ((r t)::(kb b (⟨#[]⟩:Bs) none 0 0 0)::(ka u h j l n o p c d e q f a g s)::F3) fun v I5 G2=>∃(bV:OA) (bW bX:Nat),v=vl bV bW bX∧∃F4:cR,List.Perm G2 ((r t)::(kb b (⟨#[]⟩:Bs) none 0 0 0)::(ka u h j l n o p c d e q f a g s)::F4)∧(∃m4:Nat,m4<m3∧Inv25 i bV bW bX (IntKind.wrap .i64 (k+1)) m4 I1 F1 I5 F4)) (ni P 100 #[nV h j l n o p c d e q] I2 ((r t)::(kb b (⟨#[]⟩:Bs) none 0 0 0)::(ka u h j l n o p c d e q f a g s)::·) F2 fun e2 I6 G3=>∃(bz bA bB bC bD:Int) (bE:Bs) (aE:OA) (aF aG:Nat) (bF:Int),e2=.returned (nV bz bA bB bC bD bE aE aF aG bF)∧G3 fun F5=>∀(b2:Nat) (I7:cS),cS.le I6 I7→I7 b2=some (Obj.cells #[vb bz,vb bA,vb bB,vi bC,vb bD,vs bE,vl aE aF aG,vi bF,vl x y z,vi 0] 110 (0,0))→dO P (Builtin.append_ #[86,86] 86 #[vl aH aI aJ,vl (some ⟨b2,0,none⟩) 1 1]) I7 ((r t)::(kb b (⟨#[]⟩:Bs) none 0 0 0)::(ka u h j l n o p c d e q f a g s)::F5) fun v1 I8 G4=>∃(bG:OA) (bH bI:Nat),v1=vl bG bH bI∧∃F6:cR,List.Perm G4 ((r t)::(kb b (⟨#[]⟩:Bs) none 0 0 0)::(ka u h j l n o p c d e q f a g s)::F6)∧(∃m5:Nat,m5<m1∧Inv8 bG bH bI (IntKind.wrap .i64 (i+1)) m5 I F I8 F6)))) (Q (.returned (.agg #[vs bZ,vl aH aI aJ,vi 0])) I1 F1))
theorem iz.vc{v:Bs}{p:OA}{r u:Nat}{w:Int}{I:cS}{F:cR}{Q:cW}(Inv8:OA→Nat→Nat→Int→Nat→cS→cR→cS→cR→Prop)(Inv25:Int→OA→Nat→Nat→Int→Nat→cS→cR→cS→cR→Prop)(h:iz.V (fun W a b c d e f g h i j k l m n=>(W,Obj.cells #[.int .u8 a,.int .u8 b,.int .u8 c,.int .i64 d,.int .u8 e,.string f,.slice g h i,.int .i64 j,.slice k l m,.int .i64 n] 110 (0,0))) (fun W a b c d e=>(W,Obj.cells #[.string a,.slice b c d,.int .i64 e] 88 (0,0))) (fun b=>(b,Obj.cells #[.string v,.slice p r u,.int .i64 w] 88 (0,0))) (fun k o t n f s a l c q=>.agg #[.int .u8 k,.int .u8 o,.int .u8 t,.int .i64 n,.int .u8 f,.string s,.slice a l c,.int .i64 q]) (.int .u8) (.int .i64) .string .slice v p r u w I F Q Inv8 Inv25):cZ P 101 #[.agg #[.string v,.slice p r u,.int .i64 w]] I F Q :=
 tw (A:=(fa [3004,8004] [] [100,122] o0 [(8,⟨[(3,.slc),(4,(.int .i64))],[],fun fs I0 F0 vs m I F=>match fs,vs with | [],[.slice y0 y1 y2,.int _ y3]=>Inv8 y0 y1 y2 y3 m I0 F0 I F | _,_=>False,[],[]⟩),(25,⟨[(6,.slc),(7,(.int .i64))],[],fun fs I0 F0 vs m I F=>match fs,vs with | [.int _ y0],[.slice y1 y2 y3,.int _ y4]=>Inv25 y0 y1 y2 y3 y4 m I0 F0 I F | _,_=>False,[4],[]⟩)] [10007,11006] [] [] [] [] [])) [100,122] func101 h
def gb.V(ka:Nat→Bs→OA→Nat→Nat→OA→Nat→Nat→OA→Nat→Nat→Nat×Obj)(ai:Nat→Nat×Obj)(nV:Int→Int→Int→Int→Int→Bs→OA→Nat→Nat→Int→Value)(vb vi:Int→Value)(vs:Bs→Value)(vl:OA→Nat→Nat→Value)(bd:Bs)(aY:OA)(aB be:Nat)(aZ:OA)(aC bf:Nat)(a0:OA)(aD bg:Nat)(I:cS)(F:cR)(Q:cW)(Inv8:Int→Bs→OA→Nat→Nat→OA→Nat→Nat→OA→Nat→Nat→Nat→cS→cR→Prop)(Inv25:Int→Bs→OA→Nat→Nat→OA→Nat→Nat→OA→Nat→Nat→Nat→cS→cR→Prop)(Inv40:Int→Bs→OA→Nat→Nat→OA→Nat→Nat→OA→Nat→Nat→Nat→cS→cR→Prop):Prop:=∀ak:Nat,∀b:Nat,∀al:Nat,(∃m:Nat,Inv8 0 bd none 0 0 none 0 0 none 0 0 m I F)∧∀(i:Int) (ah:Bs) (l:OA) (n o:Nat) (p:OA) (q r:Nat) (s:OA) (t u m1:Nat) (I1:cS) (F1:cR),cS.le I I1→Inv8 i ah l n o p q r s t u m1 I1 F1→(Dt (i<(aB:Int)) ((0≤i∧i<(aB:Int))∧∃ad:Addr,aY=some ad∧∃(aq:Bs) (ar au av aw ax ay:Int) (az:Bs) (am:OA) (an ao:Nat) (aA ap:Int),Rd I1 ((ai ak)::(ka b (⟨#[]⟩:Bs) none 0 0 none 0 0 none 0 0)::(ka al ah l n o p q r s t u)::F1) (ad.add (Int.toNat i*11)) [vs aq,vb ar,vb au,vb av,vb aw,vi ax,vb ay,vs az,vl am an ao,vi aA,vi ap]∧∀aN:Nat,ni P 100 #[nV au av aw ax ay az am an ao aA] I1 ((ai ak)::(ka b (⟨#[]⟩:Bs) none 0 0 none 0 0 none 0 0)::(ka al ah l n o p q r s t u)::(aN,Obj.cells #[vs aq,vb ar,vb au,vb av,vb aw,vi ax,vb ay,vs az,vl am an ao,vi aA,vi ap] 104 (0,0))::·) F1 fun e1 I2 G1=>∃(a1 a2 a3 a4 a5:Int) (a6:Bs) (aE:OA) (aF aG:Nat) (a7:Int),e1=.returned (nV a1 a2 a3 a4 a5 a6 aE aF aG a7)∧G1 fun F2=>∀(b1:Nat) (I3:cS),cS.le I2 I3→I3 b1=some (Obj.cells #[vs aq,vb ar,vb a1,vb a2,vb a3,vi a4,vb a5,vs a6,vl aE aF aG,vi a7,vi 0] 104 (0,0))→dO P (Builtin.append_ #[39,39] 39 #[vl l n o,vl (some ⟨b1,0,none⟩) 1 1]) I3 ((ai ak)::(ka b (⟨#[]⟩:Bs) none 0 0 none 0 0 none 0 0)::(ka al ah l n o p q r s t u)::(aN,Obj.cells #[vs aq,vb ar,vb au,vb av,vb aw,vi ax,vb ay,vs az,vl am an ao,vi aA,vi ap] 104 (0,0))::F2) fun v I4 G2=>∃(a8:OA) (a9 ba:Nat),v=vl a8 a9 ba∧∃F3:cR,List.Perm G2 ((ai ak)::(ka b (⟨#[]⟩:Bs) none 0 0 none 0 0 none 0 0)::(ka al ah l n o p q r s t u)::(aN,Obj.cells #[vs aq,vb ar,vb au,vb av,vb aw,vi ax,vb ay,vs az,vl am an ao,vi aA,vi ap] 104 (0,0))::F3)∧(∃m2:Nat,m2<m1∧Inv8 (IntKind.wrap .i64 (i+1)) ah a8 a9 ba p q r s t u m2 I4 F3)) ((∃m3:Nat,Inv25 0 ah l n o p q r s t u m3 I1 F1)∧∀(i1:Int) (aj:Bs) (w:OA) (x y:Nat) (z:OA) (aa ab:Nat) (ac:OA) (ae af m4:Nat) (I5:cS) (F4:cR),cS.le I1 I5→Inv25 i1 aj w x y z aa ab ac ae af m4 I5 F4→(Dt (i1<(aC:Int)) ((0≤i1∧i1<(aC:Int))∧∃bb:Addr,aZ=some bb∧∃(m5:Bs),Rd I5 ((ai ak)::(ka b (⟨#[]⟩:Bs) none 0 0 none 0 0 none 0 0)::(ka al aj w x y z aa ab ac ae af)::F4) ((bb.add (Int.toNat i1*2)).add 0) [vs m5]∧∀(b2:Nat) (I6:cS),cS.le I5 I6→I6 b2=some (Obj.cells #[vs m5,vi 0] 106 (0,0))→dO P (Builtin.append_ #[40,40] 40 #[vl z aa ab,vl (some ⟨b2,0,none⟩) 1 1]) I6 ((ai ak)::(ka b (⟨#[]⟩:Bs) none 0 0 none 0 0 none 0 0)::(ka al aj w x y z aa ab ac ae af)::F4) fun v1 I7 G3=>∃(aO:OA) (aP aQ:Nat),v1=vl aO aP aQ∧∃F5:cR,List.Perm G3 ((ai ak)::(ka b (⟨#[]⟩:Bs) none 0 0 none 0 0 none 0 0)::(ka al aj w x y z aa ab ac ae af)::F5)∧(∃m6:Nat,m6<m4∧Inv25 (IntKind.wrap .i64 (i1+1)) aj w x y aO aP aQ ac ae af m6 I7 F5)) ((∃m7:Nat,Inv40 0 aj w x y z aa ab ac ae af m7 I5 F4)∧∀(i2:Int) (ag:Bs) (a:OA) (c d:Nat) (e:OA) (f g:Nat) (h:OA) (j k m8:Nat) (I8:cS) (F6:cR),cS.le I5 I8→Inv40 i2 ag a c d e f g h j k m8 I8 F6→(Dt (i2<(aD:Int)) ((0≤i2∧i2<(aD:Int))∧∃bc:Addr,a0=some bc∧∃(aR:Bs) (aH:OA) (aI aJ:Nat) (aS:Int),Rd I8 ((ai ak)::(ka b (⟨#[]⟩:Bs) none 0 0 none 0 0 none 0 0)::(ka al ag a c d e f g h j k)::F6) (bc.add (Int.toNat i2*3)) [vs aR,vl aH aI aJ,vi aS]∧ni P 101 #[.agg #[vs aR,vl aH aI aJ,vi aS]] I8 ((ai ak)::(ka b (⟨#[]⟩:Bs) none 0 0 none 0 0 none 0 0)::(ka al ag a c d e f g h j k)::·) F6 fun e2 I9 G4=>∃(aT:Bs) (aK:OA) (aL aM:Nat) (aU:Int),e2=.returned (.agg #[vs aT,vl aK aL aM,vi aU])∧G4 fun F7=>∀(b3:Nat) (I10:cS),cS.le I9 I10→I10 b3=some (Obj.cells #[vs aT,vl aK aL aM,vi aU] 88 (0,0))→dO P (Builtin.append_ #[41,41] 41 #[vl h j k,vl (some ⟨b3,0,none⟩) 1 1]) I10 ((ai ak)::(ka b (⟨#[]⟩:Bs) none 0 0 none 0 0 none 0 0)::(ka al ag a c d e f g h j k)::F7) fun v2 I11 G5=>∃(aV:OA) (aW aX:Nat),v2=vl aV aW aX∧∃F8:cR,List.Perm G5 ((ai ak)::(ka b (⟨#[]⟩:Bs) none 0 0 none 0 0 none 0 0)::(ka al ag a c d e f g h j k)::F8)∧(∃m9:Nat,m9<m8∧Inv40 (IntKind.wrap .i64 (i2+1)) ag a c d e f g aV aW aX m9 I11 F8)) (Q (.returned (.agg #[vs ag,vl a c d,vl e f g,vl h j k])) I8 F6))))))
theorem gb.vc{ab:Bs}{p:OA}{r u:Nat}{v:OA}{w x:Nat}{y:OA}{z aa:Nat}{I:cS}{F:cR}{Q:cW}(Inv8:Int→Bs→OA→Nat→Nat→OA→Nat→Nat→OA→Nat→Nat→Nat→cS→cR→Prop)(Inv25:Int→Bs→OA→Nat→Nat→OA→Nat→Nat→OA→Nat→Nat→Nat→cS→cR→Prop)(Inv40:Int→Bs→OA→Nat→Nat→OA→Nat→Nat→OA→Nat→Nat→Nat→cS→cR→Prop)(h:gb.V (fun W a b c d e f g h i j=>(W,Obj.cells #[.string a,.slice b c d,.slice e f g,.slice h i j] 43 (0,0))) (fun b=>(b,Obj.cells #[.string ab,.slice p r u,.slice v w x,.slice y z aa] 43 (0,0))) (fun k o t n f s a l c q=>.agg #[.int .u8 k,.int .u8 o,.int .u8 t,.int .i64 n,.int .u8 f,.string s,.slice a l c,.int .i64 q]) (.int .u8) (.int .i64) .string .slice ab p r u v w x y z aa I F Q Inv8 Inv25 Inv40):cZ P 60 #[.agg #[.string ab,.slice p r u,.slice v w x,.slice y z aa]] I F Q :=
 tw (A:=(fa [3004,8004,12004] [] [100,101] o0 [(8,⟨[(4,(.int .i64))],[(2,[.str,.slc,.slc,.slc])],fun _ _ _ vs m I F=>match vs with | [.int _ y0,.string y1,.slice y2 y3 y4,.slice y5 y6 y7,.slice y8 y9 y10]=>Inv8 y0 y1 y2 y3 y4 y5 y6 y7 y8 y9 y10 m I F | _=>False,[],[]⟩),(25,⟨[(6,(.int .i64))],[(2,[.str,.slc,.slc,.slc])],fun _ _ _ vs m I F=>match vs with | [.int _ y0,.string y1,.slice y2 y3 y4,.slice y5 y6 y7,.slice y8 y9 y10]=>Inv25 y0 y1 y2 y3 y4 y5 y6 y7 y8 y9 y10 m I F | _=>False,[],[]⟩),(40,⟨[(7,(.int .i64))],[(2,[.str,.slc,.slc,.slc])],fun _ _ _ vs m I F=>match vs with | [.int _ y0,.string y1,.slice y2 y3 y4,.slice y5 y6 y7,.slice y8 y9 y10]=>Inv40 y0 y1 y2 y3 y4 y5 y6 y7 y8 y9 y10 m I F | _=>False,[],[]⟩)] [6010,10009,14008] [] [] [] [(6,[0,2,4,6,1,3,5,7,8,9,10,11,12,13]),(10,[0,2,4,3,5,6,1,7,8,9,10,11,12]),(14,[0,2,4,1,3,5,6,7,8,9,10,11])] [] [] [(6,[1,3,5],13),(10,[3],12),(14,[1],11)])) [100,101] func60 h
def j5.V(a b:Nat→Nat×Obj)(nV:Int→Int→Int→Int→Int→Bs→OA→Nat→Nat→Int→Value)(vt:Bool→Value)(af ag:Int)(ah:Bs)(a5 a6 a7 a8 a9:Int)(ba:Bs)(z:OA)(aa ab:Nat)(al am an ao ap aq:Int)(ar:Bs)(e:OA)(f g:Nat)(au av aw ax ay az:Int)(aA:Bs)(h:OA)(i j:Nat)(aB aC aD aE aF aG:Int)(aH:Bs)(k:OA)(l m:Nat)(aI n ai aj:Int)(ak:Bs)(bb bc bd be bf:Int)(bg:Bs)(ac:OA)(ad ae:Nat)(aJ aK aL aM aN aO:Int)(aP:Bs)(o:OA)(p q:Nat)(aQ aR aS aT aU aV:Int)(aW:Bs)(s:OA)(t u:Nat)(aX aY aZ a0 a1 a2:Int)(a3:Bs)(v:OA)(w x:Nat)(a4 y:Int)(I:cS)(F:cR)(Q:cW)  : Prop:=∀c:Nat,∀d:Nat,jW P 18 #[nV a5 a6 a7 a8 a9 ba z aa ab al,nV bb bc bd be bf bg ac ad ae aJ] I ((b c)::(a d)::·) F vt fun r I1 F1=>jW P 18 #[nV am an ao ap aq ar e f g au,nV aK aL aM aN aO aP o p q aQ] I1 ((b c)::(a d)::·) F1 vt fun r1 I2 F2=>jW P 18 #[nV av aw ax ay az aA h i j aB,nV aR aS aT aU aV aW s t u aX] I2 ((b c)::(a d)::·) F2 vt fun r2 I3 F3=>jW P 18 #[nV aC aD aE aF aG aH k l m aI,nV aY aZ a0 a1 a2 a3 v w x a4] I3 ((b c)::(a d)::·) F3 vt fun r3 I4 F4=>(It (af==ai) (It (ag==aj) (It (ah.toList==ak.toList) (It (n==y) (It r (It r1 (It r2 (Q (.returned (vt r3)) I4 F4) (Q (.returned (vt false)) I4 F4)) (Q (.returned (vt false)) I4 F4)) (Q (.returned (vt false)) I4 F4)) (Q (.returned (vt false)) I4 F4)) (Q (.returned (vt false)) I4 F4)) (Q (.returned (vt false)) I4 F4)) (Q (.returned (vt false)) I4 F4))
theorem j5.vc{a7 a8:Int}{a9:Bs}{ba bb bc bd be:Int}{bf:Bs}{ae:OA}{af ag:Nat}{ak al am ao ap aq:Int}{ar:Bs}{d:OA}{e g:Nat}{au av aw ax ay az:Int}{aA:Bs}{i:OA}{j m:Nat}{aB aC aD aE aF aG:Int}{aH:Bs}{p:OA}{r u:Nat}{aI aJ bg bh:Int}{bi:Bs}{bj bk bl bm bn:Int}{bo:Bs}{ah:OA}{ai aj:Nat}{aK aL aM aN aO aP:Int}{aQ:Bs}{v:OA}{w x:Nat}{aR aS aT aU aV aW:Int}{aX:Bs}{y:OA}{z aa:Nat}{aY aZ a0 a1 a2 a3:Int}{a4:Bs}{ab:OA}{ac ad:Nat}{a5 a6:Int}{I:cS}{F:cR}{Q:cW}  (h:j5.V (fun b=>(b,Obj.cells #[.int .u8 bg,.int .u8 bh,.string bi,.int .u8 bj,.int .u8 bk,.int .u8 bl,.int .i64 bm,.int .u8 bn,.string bo,.slice ah ai aj,.int .i64 aK,.int .u8 aL,.int .u8 aM,.int .u8 aN,.int .i64 aO,.int .u8 aP,.string aQ,.slice v w x,.int .i64 aR,.int .u8 aS,.int .u8 aT,.int .u8 aU,.int .i64 aV,.int .u8 aW,.string aX,.slice y z aa,.int .i64 aY,.int .u8 aZ,.int .u8 a0,.int .u8 a1,.int .i64 a2,.int .u8 a3,.string a4,.slice ab ac ad,.int .i64 a5,.int .i64 a6] 114 (0,0))) (fun b=>(b,Obj.cells #[.int .u8 a7,.int .u8 a8,.string a9,.int .u8 ba,.int .u8 bb,.int .u8 bc,.int .i64 bd,.int .u8 be,.string bf,.slice ae af ag,.int .i64 ak,.int .u8 al,.int .u8 am,.int .u8 ao,.int .i64 ap,.int .u8 aq,.string ar,.slice d e g,.int .i64 au,.int .u8 av,.int .u8 aw,.int .u8 ax,.int .i64 ay,.int .u8 az,.string aA,.slice i j m,.int .i64 aB,.int .u8 aC,.int .u8 aD,.int .u8 aE,.int .i64 aF,.int .u8 aG,.string aH,.slice p r u,.int .i64 aI,.int .i64 aJ] 114 (0,0))) (fun k o t n f s a l c q=>.agg #[.int .u8 k,.int .u8 o,.int .u8 t,.int .i64 n,.int .u8 f,.string s,.slice a l c,.int .i64 q]) .bool a7 a8 a9 ba bb bc bd be bf ae af ag ak al am ao ap aq ar d e g au av aw ax ay az aA i j m aB aC aD aE aF aG aH p r u aI aJ bg bh bi bj bk bl bm bn bo ah ai aj aK aL aM aN aO aP aQ v w x aR aS aT aU aV aW aX y z aa aY aZ a0 a1 a2 a3 a4 ab ac ad a5 a6 I F Q):cZ P 86 #[.agg #[.int .u8 a7,.int .u8 a8,.string a9,.int .u8 ba,.int .u8 bb,.int .u8 bc,.int .i64 bd,.int .u8 be,.string bf,.slice ae af ag,.int .i64 ak,.int .u8 al,.int .u8 am,.int .u8 ao,.int .i64 ap,.int .u8 aq,.string ar,.slice d e g,.int .i64 au,.int .u8 av,.int .u8 aw,.int .u8 ax,.int .i64 ay,.int .u8 az,.string aA,.slice i j m,.int .i64 aB,.int .u8 aC,.int .u8 aD,.int .u8 aE,.int .i64 aF,.int .u8 aG,.string aH,.slice p r u,.int .i64 aI,.int .i64 aJ],.agg #[.int .u8 bg,.int .u8 bh,.string bi,.int .u8 bj,.int .u8 bk,.int .u8 bl,.int .i64 bm,.int .u8 bn,.string bo,.slice ah ai aj,.int .i64 aK,.int .u8 aL,.int .u8 aM,.int .u8 aN,.int .i64 aO,.int .u8 aP,.string aQ,.slice v w x,.int .i64 aR,.int .u8 aS,.int .u8 aT,.int .u8 aU,.int .i64 aV,.int .u8 aW,.string aX,.slice y z aa,.int .i64 aY,.int .u8 aZ,.int .u8 a0,.int .u8 a1,.int .i64 a2,.int .u8 a3,.string a4,.slice ab ac ad,.int .i64 a5,.int .i64 a6]] I F Q :=
 tw (A:=(an [5004,5010,5017,5024,5027,5030,5033] [18] o0)) [18] func86 h
def iA.V(ka:Nat→Int→Int→Int→Int→Int→Bs→OA→Nat→Nat→Int→OA→Nat→Nat→Int→Nat×Obj)(aj ak:Nat→Nat×Obj)(nV:Int→Int→Int→Int→Int→Bs→OA→Nat→Nat→Int→Value)(vb vi:Int→Value)(vs:Bs→Value)(vl:OA→Nat→Nat→Value)(vt:Bool→Value)(bT:Bs)(bR:OA)(aa b2:Nat)(bU:Int)(bV:Bs)(bS:OA)(aA b3:Nat)(bW:Int)(I:cS)(F:cR)(Q:cW)(Inv14:Bool→Int→Nat→cS→cR→cS→cR→Prop)(Inv40:Int→Bool→Int→Nat→cS→cR→cS→cR→Prop):Prop:=∀al:Nat,∀am:Nat,(It (!(bT.toList==bV.toList)) (Q (.returned (vt false)) I F) (It (bU != bW) (Q (.returned (vt false)) I F) (It ((aa:Int)!=(aA:Int)) (Q (.returned (vt false)) I F) ((∃m:Nat,Inv14 false 0 m I F I F)∧∀(x:Bool) (i:Int) (m1:Nat) (I1:cS) (F1:cR),cS.le I I1→Inv14 x i m1 I F I1 F1→(Dt (i<(aa:Int)) ((0≤i∧i<(aa:Int))∧∃ad:Addr,bR=some ad∧∃(ab ac ae af ag:Int) (ah:Bs) (g:OA) (h j:Nat) (ai:Int) (l:OA) (a o:Nat) (z:Int),Rd I1 ((ak al)::(aj am)::F1) (ad.add (Int.toNat i*10)) [vb ab,vb ac,vb ae,vi af,vb ag,vs ah,vl g h j,vi ai,vl l a o,vi z]∧∀an:Nat,((0≤i∧i<(aA:Int))∧∃bZ:Addr,bS=some bZ∧∃(q s t u v:Int) (w:Bs) (c:OA) (d e:Nat) (y:Int) (f:OA) (b n:Nat) (p:Int),Rd I1 ((ak al)::(aj am)::(ka an ab ac ae af ag ah g h j ai l a o z)::F1) (bZ.add (Int.toNat i*10)) [vb q,vb s,vb t,vi u,vb v,vs w,vl c d e,vi y,vl f b n,vi p]∧∀az:Nat,jW P 18 #[nV ab ac ae af ag ah g h j ai,nV q s t u v w c d e y] I1 ((ak al)::(aj am)::(ka an ab ac ae af ag ah g h j ai l a o z)::(ka az q s t u v w c d e y f b n p)::·) F1 vt fun r I2 F2=>(It (!r) (Q (.returned (vt false)) I2 F2) (It (z != p) (Q (.returned (vt false)) I2 F2) (It ((a:Int)!=(b:Int)) (Q (.returned (vt false)) I2 F2) ((∃m2:Nat,Inv40 i x 0 m2 I2 F2 I2 F2)∧∀(x1:Bool) (k:Int) (m3:Nat) (I3:cS) (F3:cR),cS.le I2 I3→Inv40 i x1 k m3 I2 F2 I3 F3→(Dt (k<(a:Int)) ((0≤k∧k<(a:Int))∧∃b0:Addr,l=some b0∧∃(bj bk:Int) (bl:Bs) (bm bn bo bX bp:Int) (bY:Bs) (aN:OA) (aO aP:Nat) (bq aQ aR br bs bt:Int) (bu:Bs) (aB:OA) (aC aD:Nat) (bv bw bx aS aT bz:Int) (bA:Bs) (aE:OA) (aF aG:Nat) (bB bC bD bE bF aU:Int) (aV:Bs) (aH:OA) (aI aJ:Nat) (bG bH:Int),Rd I3 ((ak al)::(aj am)::(ka an ab ac ae af ag ah g h j ai l a o z)::(ka az q s t u v w c d e y f b n p)::F3) (b0.add (Int.toNat k*36)) [vb bj,vb bk,vs bl,vb bm,vb bn,vb bo,vi bX,vb bp,vs bY,vl aN aO aP,vi bq,vb aQ,vb aR,vb br,vi bs,vb bt,vs bu,vl aB aC aD,vi bv,vb bw,vb bx,vb aS,vi aT,vb bz,vs bA,vl aE aF aG,vi bB,vb bC,vb bD,vb bE,vi bF,vb aU,vs aV,vl aH aI aJ,vi bG,vi bH]∧((0≤k∧k<(b:Int))∧∃b1:Addr,f=some b1∧∃(bI bJ:Int) (bK:Bs) (bL bM bN bO bP:Int) (bQ:Bs) (aK:OA) (aL aM:Nat) (aW aX aY aZ a0 a1:Int) (a2:Bs) (ao:OA) (ap aq:Nat) (a3 a4 a5 a6 a7 a8:Int) (a9:Bs) (ar:OA) (au av:Nat) (ba bb bc bd be bf:Int) (bg:Bs) (aw:OA) (ax ay:Nat) (bh bi:Int),Rd I3 ((ak al)::(aj am)::(ka an ab ac ae af ag ah g h j ai l a o z)::(ka az q s t u v w c d e y f b n p)::F3) (b1.add (Int.toNat k*36)) [vb bI,vb bJ,vs bK,vb bL,vb bM,vb bN,vi bO,vb bP,vs bQ,vl aK aL aM,vi aW,vb aX,vb aY,vb aZ,vi a0,vb a1,vs a2,vl ao ap aq,vi a3,vb a4,vb a5,vb a6,vi a7,vb a8,vs a9,vl ar au av,vi ba,vb bb,vb bc,vb bd,vi be,vb bf,vs bg,vl aw ax ay,vi bh,vi bi]∧∃(r1:Bool),(cZ P 86 #[.agg #[vb bj,vb bk,vs bl,vb bm,vb bn,vb bo,vi bX,vb bp,vs bY,vl aN aO aP,vi bq,vb aQ,vb aR,vb br,vi bs,vb bt,vs bu,vl aB aC aD,vi bv,vb bw,vb bx,vb aS,vi aT,vb bz,vs bA,vl aE aF aG,vi bB,vb bC,vb bD,vb bE,vi bF,vb aU,vs aV,vl aH aI aJ,vi bG,vi bH],.agg #[vb bI,vb bJ,vs bK,vb bL,vb bM,vb bN,vi bO,vb bP,vs bQ,vl aK aL aM,vi aW,vb aX,vb aY,vb aZ,vi a0,vb a1,vs a2,vl ao ap aq,vi a3,vb a4,vb a5,vb a6,vi a7,vb a8,vs a9,vl ar au av,vi ba,vb bb,vb bc,vb bd,vi be,vb bf,vs bg,vl aw ax ay,vi bh,vi bi]] I3 ((ak al)::(aj am)::(ka an ab ac ae af ag ah g h j ai l a o z)::(ka az q s t u v w c d e y f b n p)::F3) fun e2 I4 G2=>e2=.returned (vt r1)∧List.Perm G2 ((ak al)::(aj am)::(ka an ab ac ae af ag ah g h j ai l a o z)::(ka az q s t u v w c d e y f b n p)::F3))∧(It (!r1) (Q (.returned (vt false)) I3 F3) (∃m4:Nat,m4<m3∧Inv40 i x1 (IntKind.wrap .i64 (k+1)) m4 I2 F2 I3 F3)))) (∃m5:Nat,m5<m1∧Inv14 x1 (IntKind.wrap .i64 (i+1)) m5 I F I3 F3)))))))) (Q (.returned (vt true)) I1 F1))))))
theorem iA.vc{y:Bs}{p:OA}{r u:Nat}{z:Int}{aa:Bs}{v:OA}{w x:Nat}{ab:Int}{I:cS}{F:cR}{Q:cW}(Inv14:Bool→Int→Nat→cS→cR→cS→cR→Prop)(Inv40:Int→Bool→Int→Nat→cS→cR→cS→cR→Prop)(h:iA.V (fun W a b c d e f g h i j k l m n=>(W,Obj.cells #[.int .u8 a,.int .u8 b,.int .u8 c,.int .i64 d,.int .u8 e,.string f,.slice g h i,.int .i64 j,.slice k l m,.int .i64 n] 110 (0,0))) (fun b=>(b,Obj.cells #[.string aa,.slice v w x,.int .i64 ab] 88 (0,0))) (fun b=>(b,Obj.cells #[.string y,.slice p r u,.int .i64 z] 88 (0,0))) (fun k o t n f s a l c q=>.agg #[.int .u8 k,.int .u8 o,.int .u8 t,.int .i64 n,.int .u8 f,.string s,.slice a l c,.int .i64 q]) (.int .u8) (.int .i64) .string .slice .bool y p r u z aa v w x ab I F Q Inv14 Inv40):cZ P 32 #[.agg #[.string y,.slice p r u,.int .i64 z],.agg #[.string aa,.slice v w x,.int .i64 ab]] I F Q :=
 tw (A:=(fa [1004,1010,1019,4004,9001,9007,9016,12004,15001] [] [18,86] o0 [(14,⟨[(4,.bool),(5,(.int .i64))],[],fun fs I0 F0 vs m I F=>match fs,vs with | [],[.bool y0,.int _ y1]=>Inv14 y0 y1 m I0 F0 I F | _,_=>False,[],[]⟩),(40,⟨[(4,.bool),(9,(.int .i64))],[],fun fs I0 F0 vs m I F=>match fs,vs with | [.int _ y0],[.bool y1,.int _ y2]=>Inv40 y0 y1 y2 m I0 F0 I F | _,_=>False,[5],[]⟩)] [] [] [] [] [] [])) [18,86] func32 h
def gh.V(ka:Nat→Bs→Int→Int→Int→Int→Int→Int→Bs→OA→Nat→Nat→Int→Int→Nat×Obj)(a b:Nat→Nat×Obj)(nV:Int→Int→Int→Int→Int→Bs→OA→Nat→Nat→Int→Value)(vb vi:Int→Value)(vs:Bs→Value)(vl:OA→Nat→Nat→Value)(vt:Bool→Value)(aN:Bs)(aH:OA)(e aV:Nat)(aI:OA)(f aW:Nat)(aJ:OA)(g aX:Nat)(aO:Bs)(aK:OA)(y aY:Nat)(aL:OA)(z aZ:Nat)(aM:OA)(aa a0:Nat)(I:cS)(F:cR)(Q:cW)(Inv14:Bool→Int→Nat→cS→cR→Prop)(Inv41:Bool→Int→Nat→cS→cR→Prop)(Inv62:Bool→Int→Nat→cS→cR→Prop):Prop:=∀c:Nat,∀d:Nat,(It (!(aN.toList==aO.toList)) (Q (.returned (vt false)) I F) (It ((e:Int)!=(y:Int)) (Q (.returned (vt false)) I F) (It ((f:Int)!=(z:Int)) (Q (.returned (vt false)) I F) (It ((g:Int)!=(aa:Int)) (Q (.returned (vt false)) I F) ((∃m:Nat,Inv14 false 0 m I F)∧∀(x:Bool) (i:Int) (m1:Nat) (I1:cS) (F1:cR),cS.le I I1→Inv14 x i m1 I1 F1→(Dt (i<(e:Int)) ((0≤i∧i<(e:Int))∧∃ad:Addr,aH=some ad∧∃(v:Bs) (w aj ak al am an:Int) (ao:Bs) (h:OA) (j k:Nat) (ap s:Int),Rd I1 ((a c)::(b d)::F1) (ad.add (Int.toNat i*11)) [vs v,vb w,vb aj,vb ak,vb al,vi am,vb an,vs ao,vl h j k,vi ap,vi s]∧∀aG:Nat,((0≤i∧i<(y:Int))∧∃aP:Addr,aK=some aP∧∃(t:Bs) (u ab ac ae af ag:Int) (ah:Bs) (l:OA) (n o:Nat) (ai p:Int),Rd I1 ((a c)::(b d)::(ka aG v w aj ak al am an ao h j k ap s)::F1) (aP.add (Int.toNat i*11)) [vs t,vb u,vb ab,vb ac,vb ae,vi af,vb ag,vs ah,vl l n o,vi ai,vi p]∧∀aQ:Nat,jW P 18 #[nV aj ak al am an ao h j k ap,nV ab ac ae af ag ah l n o ai] I1 ((a c)::(b d)::(ka aG v w aj ak al am an ao h j k ap s)::(ka aQ t u ab ac ae af ag ah l n o ai p)::·) F1 vt fun r I2 F2=>(It (!r) (Q (.returned (vt false)) I2 F2) (It (!(v.toList==t.toList)) (Q (.returned (vt false)) I2 F2) (It (w != u) (Q (.returned (vt false)) I2 F2) (It (s != p) (Q (.returned (vt false)) I2 F2) (∃m2:Nat,m2<m1∧Inv14 x (IntKind.wrap .i64 (i+1)) m2 I2 F2))))))) ((∃m3:Nat,Inv41 x 0 m3 I1 F1)∧∀(x1:Bool) (i1:Int) (m4:Nat) (I3:cS) (F3:cR),cS.le I1 I3→Inv41 x1 i1 m4 I3 F3→(Dt (i1<(f:Int)) ((0≤i1∧i1<(f:Int))∧∃aR:Addr,aI=some aR∧∃(ay:Bs) (az:Int),Rd I3 ((a c)::(b d)::F3) (aR.add (Int.toNat i1*2)) [vs ay,vi az]∧((0≤i1∧i1<(z:Int))∧∃aS:Addr,aL=some aS∧∃(aA:Bs) (aB:Int),Rd I3 ((a c)::(b d)::F3) (aS.add (Int.toNat i1*2)) [vs aA,vi aB]∧∃q:Bool,eu P .neq 106 (.tmp 100) (.tmp 105) (.agg #[vs ay,vi az]) (.agg #[vs aA,vi aB]) q∧(It q (Q (.returned (vt false)) I3 F3) (∃m5:Nat,m5<m4∧Inv41 x1 (IntKind.wrap .i64 (i1+1)) m5 I3 F3)))) ((∃m6:Nat,Inv62 x1 0 m6 I3 F3)∧∀(x2:Bool) (i2:Int) (m7:Nat) (I4:cS) (F4:cR),cS.le I3 I4→Inv62 x2 i2 m7 I4 F4→(Dt (i2<(g:Int)) ((0≤i2∧i2<(g:Int))∧∃aT:Addr,aJ=some aT∧∃(aC:Bs) (av:OA) (aw ax:Nat) (aD:Int),Rd I4 ((a c)::(b d)::F4) (aT.add (Int.toNat i2*3)) [vs aC,vl av aw ax,vi aD]∧((0≤i2∧i2<(aa:Int))∧∃aU:Addr,aM=some aU∧∃(aE:Bs) (aq:OA) (ar au:Nat) (aF:Int),Rd I4 ((a c)::(b d)::F4) (aU.add (Int.toNat i2*3)) [vs aE,vl aq ar au,vi aF]∧∃(r1:Bool),(cZ P 32 #[.agg #[vs aC,vl av aw ax,vi aD],.agg #[vs aE,vl aq ar au,vi aF]] I4 ((a c)::(b d)::F4) fun e2 I5 G2=>e2=.returned (vt r1)∧List.Perm G2 ((a c)::(b d)::F4))∧(It (!r1) (Q (.returned (vt false)) I4 F4) (∃m8:Nat,m8<m7∧Inv62 x2 (IntKind.wrap .i64 (i2+1)) m8 I4 F4)))) (Q (.returned (vt true)) I4 F4)))))))))))
theorem gh.vc{ak:Bs}{p:OA}{r u:Nat}{v:OA}{w x:Nat}{y:OA}{z aa:Nat}{al:Bs}{ab:OA}{ac ad:Nat}{ae:OA}{af ag:Nat}{ah:OA}{ai aj:Nat}{I:cS}{F:cR}{Q:cW}(Inv14:Bool→Int→Nat→cS→cR→Prop)(Inv41:Bool→Int→Nat→cS→cR→Prop)(Inv62:Bool→Int→Nat→cS→cR→Prop)(h:gh.V (fun W a b c d e f g h i j k l m=>(W,Obj.cells #[.string a,.int .u8 b,.int .u8 c,.int .u8 d,.int .u8 e,.int .i64 f,.int .u8 g,.string h,.slice i j k,.int .i64 l,.int .i64 m] 104 (0,0))) (fun b=>(b,Obj.cells #[.string ak,.slice p r u,.slice v w x,.slice y z aa] 43 (0,0))) (fun b=>(b,Obj.cells #[.string al,.slice ab ac ad,.slice ae af ag,.slice ah ai aj] 43 (0,0))) (fun k o t n f s a l c q=>.agg #[.int .u8 k,.int .u8 o,.int .u8 t,.int .i64 n,.int .u8 f,.string s,.slice a l c,.int .i64 q]) (.int .u8) (.int .i64) .string .slice .bool ak p r u v w x y z aa al ab ac ad ae af ag ah ai aj I F Q Inv14 Inv41 Inv62):cZ P 13 #[.agg #[.string ak,.slice p r u,.slice v w x,.slice y z aa],.agg #[.string al,.slice ab ac ad,.slice ae af ag,.slice ah ai aj]] I F Q :=
 tw (A:=(fa [1004,1012,1021,1030,4004,9001,9007,9014,9021,12004,14010,17004,20001] [] [18,32] o0 [(14,⟨[(4,.bool),(5,(.int .i64))],[],fun _ _ _ vs m I F=>match vs with | [.bool y0,.int _ y1]=>Inv14 y0 y1 m I F | _=>False,[],[]⟩),(41,⟨[(4,.bool),(9,(.int .i64))],[],fun _ _ _ vs m I F=>match vs with | [.bool y0,.int _ y1]=>Inv41 y0 y1 m I F | _=>False,[],[]⟩),(62,⟨[(4,.bool),(10,(.int .i64))],[],fun _ _ _ vs m I F=>match vs with | [.bool y0,.int _ y1]=>Inv62 y0 y1 m I F | _=>False,[],[]⟩)] [] [] [] [] [] [])) [18,32] func13 h
def gj.V(ka:Nat→Bs→OA→Nat→Nat→OA→Nat→Nat→OA→Nat→Nat→Nat×Obj)(t u:Nat→Nat×Obj)(vs:Bs→Value)(vl:OA→Nat→Nat→Value)(av:Bs)(aa:OA)(ab ac:Nat)(ad:OA)(ae af:Nat)(ag:OA)(ah ai:Nat)(aw:Bs)(aj:OA)(ak al:Nat)(am:OA)(an ao:Nat)(ap:OA)(aq ar:Nat)(I:cS)(F:cR)(Q:cW)  : Prop:=∀w:Nat,∀x:Nat,ni P 60 #[.agg #[vs av,vl aa ab ac,vl ad ae af,vl ag ah ai]] I ((t w)::(u x)::·) F fun e1 I1 G1=>∃(v:Bs) (a:OA) (b c:Nat) (d:OA) (e f:Nat) (g:OA) (h i:Nat),e1=.returned (.agg #[vs v,vl a b c,vl d e f,vl g h i])∧G1 fun F1=>∀z:Nat,ni P 60 #[.agg #[vs aw,vl aj ak al,vl am an ao,vl ap aq ar]] I1 ((t w)::(u x)::(ka z v a b c d e f g h i)::·) F1 fun e2 I2 G2=>∃(y:Bs) (j:OA) (k l:Nat) (m:OA) (n o:Nat) (p:OA) (q s:Nat),e2=.returned (.agg #[vs y,vl j k l,vl m n o,vl p q s])∧G2 fun F2=>∀au:Nat,jW P 13 #[.agg #[vs v,vl a b c,vl d e f,vl g h i],.agg #[vs y,vl j k l,vl m n o,vl p q s]] I2 ((t w)::(u x)::(ka z v a b c d e f g h i)::(ka au y j k l m n o p q s)::·) F2 .bool fun r I3 F3=>Q (.returned (.bool r)) I3 (F3)
theorem gj.vc{ac:Bs}{k:OA}{l m:Nat}{n:OA}{o p:Nat}{q:OA}{r s:Nat}{ad:Bs}{t:OA}{u v:Nat}{w:OA}{x y:Nat}{z:OA}{aa ab:Nat}{I:cS}{F:cR}{Q:cW}  (h:gj.V (fun W a b c d e f g h i j=>(W,Obj.cells #[.string a,.slice b c d,.slice e f g,.slice h i j] 43 (0,0))) (fun b=>(b,Obj.cells #[.string ac,.slice k l m,.slice n o p,.slice q r s] 43 (0,0))) (fun b=>(b,Obj.cells #[.string ad,.slice t u v,.slice w x y,.slice z aa ab] 43 (0,0))) .string .slice ac k l m n o p q r s ad t u v w x y z aa ab I F Q):cZ P 24 #[.agg #[.string ac,.slice k l m,.slice n o p,.slice q r s],.agg #[.string ad,.slice t u v,.slice w x y,.slice z aa ab]] I F Q :=
 tw (A:=(an [] [13,60] o0)) [13,60] func24 h
end Go.Lx
namespace Go.Lx
open Go.Vc
def eJ.dj(d:eJ):Prop:=d.name.size≤140737488351232∧∀x∈d.DB,x.fX
def dz.dj(r:dz):Prop:=r.when.fX∧r.dos.length≤140737488351232∧∀d∈r.dos,d.dj
def dm.dj(x:dm):Prop:=x.name.size≤140737488351232∧x.rules.length≤140737488351232∧∀r∈x.rules,r.dj
def dL.dj(r:dL):Prop:=r.name.size≤140737488351232∧r.init.fX
def di.dj(r:di):Prop:=r.name.size≤140737488351232
structure dU.dj (s:dU):Prop where
 name:s.name.size≤140737488351232
 regs:s.regs.length≤140737488351232
 lx:∀r∈s.regs,r.dj
 slots:s.slots.length≤140737488351232
 slot:∀r∈s.slots,r.dj
 states:s.states.length≤140737488351232
 state:∀x∈s.states,x.dj
def eJ.nA(d:eJ):Prop:=Small d.DB
def dz.nA(r:dz):Prop:=r.when.size≤1048576∧r.dos.length≤1048576∧∀d∈r.dos,d.nA
def dm.nA(x:dm):Prop:=x.rules.length≤1048576∧∀r∈x.rules,r.nA
def jo{α:Type}(f:α→Int):List α→Int
 | []=>0
 | x::r=>f x+jo f r
theorem nC{α β:Type}(f:α→Int)(g:β→α):∀l:List β,jo f (l.map g)=jo (fun x=>f (g x)) l
 | []=>rfl
 | x::l=>by rw[List.map_cons,jo,jo,nC f g l]
def eJ.fH(d:eJ):Int:=1+d.side.size+d.qty.size+d.price.size+d.value.size
def dz.fH(r:dz):Int:=1+r.when.size+jo eJ.fH r.dos
def dm.fH(x:dm):Int:=1+jo dz.fH x.rules
def dL.fH(r:dL):Int:=1+r.init.size
def dU.fH(s:dU):Int:=jo dL.fH s.regs+s.slots.length+jo dm.fH s.states
structure dU.nA (s:dU):Prop where
 regs:s.regs.length≤1048576
 lx:∀r∈s.regs,r.init.size≤1048576
 slots:s.slots.length≤1048576
 states:s.states.length≤1048576
 state:∀x∈s.states,x.nA
 all:s.fH≤1048576
def gC.fH(d:gC):Int:=d.p.fH
def dq.fH(r:dq):Int:=r.p.fH
def c9.fH(r:c9):Int:=r.p.fH
def dV.fH(r:dV):Int:=r.p.fH
theorem dq.pZ(r:dq):r.fH=1+r.when.px.size+jo gC.fH r.dos:=by
 show 1+r.when.px.size+jo eJ.fH (r.dos.map gC.p)=_
 rw[nC];rfl
theorem c9.pZ(r:c9):r.fH=1+jo dq.fH r.rules:=by
 show 1+jo dz.fH (r.rules.map dq.p)=_
 rw[nC];rfl
theorem fG.pZ(s:fG):s.p.fH=jo dV.fH s.regs+s.slots.length+jo c9.fH s.states:=by
 show jo dL.fH (s.regs.map dV.p)+s.slots.length+jo dm.fH (s.states.map c9.p)=_
 rw[nC,nC];rfl
structure dU.xE (s:dU):Prop where
 regs:s.regs.length≤1048576
 lx:∀r∈s.regs,r.init.size≤1048576
 slots:s.slots.length≤1048576
 states:s.states.length≤1048576
 state:∀x∈s.states,x.nA
end Go.Lx
namespace Go.Vc
def eV{α β:Type}(f:α→β→Bool):List α→List β→Bool
 | x::l,y::m=>f x y&&eV f l m
 | _,_=>true
theorem iG{α β γ δ:Type}{f:γ→δ→Bool}{g:α→γ}{h:β→δ}{l:List α}{m:List β}{i:Nat}{x:α}{y:β}(hx:l[i]? = some x)(hy:m[i]? = some y) :
  eV f ((l.drop i).map g) ((m.drop i).map h)=(f (g x) (h y)&&eV f ((l.drop (i+1)).map g) ((m.drop (i+1)).map h)):=by
 obtain⟨h1,rfl⟩:=List.getElem?_eq_some_iff.1 hx
 obtain⟨h2,rfl⟩:=List.getElem?_eq_some_iff.1 hy
 rw[List.drop_eq_getElem_cons h1,List.drop_eq_getElem_cons h2,List.map_cons,List.map_cons,eV]
theorem lT{α β γ δ:Type}{f:γ→δ→Bool}{g:α→γ}{h:β→δ}{l:List α}{m:List β}{i:Nat}(hi:l.length≤i):eV f ((l.drop i).map g) ((m.drop i).map h)=true:=by
 rw[List.drop_eq_nil_of_le hi,List.map_nil];cases (List.map h (List.drop i m))<;>rfl
theorem kr{α β γ δ:Type}{f:γ→δ→Bool}{f':α→β→Bool}{g:α→γ}{h:β→δ}:∀{l:List α} {m:List β},(∀x∈l,∀y,f (g x) (h y)=f' x y)→eV f (l.map g) (m.map h)=eV f' l m
 | [],[],_=>rfl
 | [],_::_,_=>rfl
 | _::_,[],_=>rfl
 | x::l,y::m,k=>by
   rw[List.map_cons,List.map_cons,eV,eV,k x (List.mem_cons_self ..) y,kr fun z hz w=>k z (List.mem_cons_of_mem _ hz) w]
theorem jw{α:Type}{f:α→α→Bool}:∀{l:List α},(∀x∈l,f x x=true)→eV f l l=true
 | [],_=>rfl
 | x::l,k=>by rw[eV,k x (List.mem_cons_self ..),jw fun y hy=>k y (List.mem_cons_of_mem _ hy)];rfl
end Go.Vc
namespace Go.Lx
open Go.Vc
namespace Px
mutual
def same:Px→Px→Bool
 | .mk k o t n f s l q,y=>q==y.pos&&(jY (.mk k o t n f s l q) y&&(decide (l.length=y.kids.length)&&kL l y.kids))
def kL:List Px→List Px→Bool
 | [],_=>true
 | _::_,[]=>false
 | x::r,y::r'=>same x y&&kL r r'
end
theorem vV(x y:Px):x.same y=(x.pos==y.pos&&(jY x y&&(decide (x.kids.length=y.kids.length)&&kL x.kids y.kids))):=by cases x;rw[same];rfl
theorem vW(x:Px):jY x x=true:=by simp[jY]
theorem vX(x y:Px):jY x.bare y.bare=jY x y:=by cases x;cases y;rw[bare,bare];rfl
theorem eI:∀x:Px,x.same x=true:=by
 have hL:∀l:List Px,(∀x∈l,x.same x=true)→kL l l=true:=by
  intro l
  induction l with
  | nil=>intro _;rw[kL]
  | cons y r ih=>intro h;rw[kL,h y (List.mem_cons_self ..),ih fun x hx=>h x (List.mem_cons_of_mem _ hx)];rfl
 refine ind fun x ih=>?_
 rw[vV,vW,decide_eq_true rfl,hL _ ih];simp
theorem eC:∀x y:Px,x.bare.same y.bare=x.gT y:=by
 have hL:∀l m:List Px,(∀x∈l,∀y:Px,x.bare.same y.bare=x.gT y)→kL (l.map bare) (m.map bare)=s8 l m:=by
  intro l
  induction l with
  | nil=>intro m _;rw[List.map_nil,kL,s8]
  | cons x r ih =>
    intro m h
    cases m with
    | nil=>rw[List.map_cons,List.map_nil,kL,s8]
    | cons y m=>rw[List.map_cons,List.map_cons,kL,s8,h x (List.mem_cons_self ..) y,ih m fun z hz=>h z (List.mem_cons_of_mem _ hz)]
 refine ind fun x ih y=>?_
 have e1:∀z:Px,z.bare.pos=0:=fun z=>by rw[nS];rfl
 have e2:∀z:Px,z.bare.kids=z.kids.map bare:=fun z=>by rw[nS];rfl
 rw[vV,CQ,e1,e1,e2,e2,vX,List.length_map,List.length_map,hL _ _ ih]
 simp
end Px
theorem jx:∀(t:Nd),t.px.fX→∀(u:Nd) (I:cS) (F:cR),fR I F t→fR I F u→cZ P 18 #[t.v,u.v] I F (lH (.bool (t.px.same u.px)) F):=by
 refine Nd.ind fun t ih hs u I F ht hu=>?_
 have hln:=hs.len
 rw[Nd.Ea] at hln
 refine iZ.vc (fun x i m I' F'=>0≤i∧i≤t.kids.length∧m=(t.kids.length-i).toNat∧Px.kL (t.kids.map Nd.px) (u.kids.map Nd.px)=Px.kL ((t.kids.drop i.toNat).map Nd.px) ((u.kids.drop i.toNat).map Nd.px)∧F'=F) ?_
 unfold iZ.V
 intro b_a b_b
 rw[Px.vV,Nd.jA,Nd.jA,List.length_map,List.length_map]
 unfold Px.jY
 rw[Nd.vJ,Nd.vJ,Nd.rP,Nd.rP,Nd.yA,Nd.yA,Nd.D9,Nd.D9,Nd.s6,Nd.s6,Nd.vK,Nd.vK,Nd.vL,Nd.vL]
 refine⟨fun h=>⟨?_,rfl⟩,fun hp=>⟨fun h=>⟨?_,rfl⟩,fun h0=>⟨fun h=>⟨?_,rfl⟩,fun h1=>⟨fun h=>⟨?_,rfl⟩,fun h2=>⟨fun h=>⟨?_,rfl⟩,fun h3=>⟨fun h=>⟨?_,rfl⟩,fun h4=>⟨fun h=>⟨?_,rfl⟩,fun h5=>⟨fun h=>⟨?_,rfl⟩,fun h6=>?_⟩⟩⟩⟩⟩⟩⟩⟩
 ·rw[show (t.pos==u.pos)=false by simpa using h];simp
 ·rw[show (t.kind==u.kind)=false by simpa using h];simp
 ·rw[show (t.oper==u.oper)=false by simpa using h];simp
 ·rw[show (t.dH==u.dH)=false by simpa using h];simp
 ·rw[show (t.n==u.n)=false by simpa using h];simp
 ·rw[show (t.field==u.field)=false by simpa using h];simp
 ·rw[show (t.name.toList==u.name.toList)=false by simpa using h];simp
 ·rw[decide_eq_false (show ¬t.kids.length=u.kids.length from fun e=>by rw[e] at h;simp at h)];simp
 have hlen:t.kids.length=u.kids.length:=by
  have:((t.kids.length:Int)!=(u.kids.length:Int))=false:=h6
  have:(t.kids.length:Int)=u.kids.length:=by simpa using this
  omega
 rw[show (t.pos==u.pos)=true by simpa using hp,show (t.kind==u.kind)=true by simpa using h0,show (t.oper==u.oper)=true by simpa using h1,show (t.dH==u.dH)=true by simpa using h2,show (t.n==u.n)=true by simpa using h3,
  show (t.field==u.field)=true by simpa using h4,show (t.name.toList==u.name.toList)=true by simpa using h5,decide_eq_true hlen]
 simp only[Bool.true_and]
 refine⟨⟨_,by omega,by omega,rfl,rfl,by first | rfl | trivial⟩,fun x i m I1 F1 hI ⟨g0,g1,gm,gl,gF⟩=>⟨fun hlt=>?_,fun hlt=>?_⟩⟩
 ·have hlt:=of_decide_eq_true hlt
  subst gF
  have hc:∀y,fR I F1 y→fR I1 ((b_a,.cells t.enc.toArray 64 (0,0))::(b_b,.cells u.enc.toArray 64 (0,0))::F1) y:=fun y h=>(h.mono hI fun _ h=>h).cons.cons
  obtain⟨ad,x,had,hx,hrd,hxo,hxm⟩:=(hc t ht).kids.at g0 hlt
  obtain⟨ad',y,had',hy,hrd',hyo,hym⟩:=(hc u hu).kids.at g0 (show i<u.kids.length by omega)
  refine⟨⟨g0,hlt⟩,ad,had,_,_,_,_,_,_,_,_,_,_,hrd,⟨g0,by omega⟩,ad',had',_,_,_,_,_,_,_,_,_,_,hrd',x.px.same y.px,
   (ih x hxm (hs.CP x.px (by rw[Nd.jA];exact List.mem_map_of_mem hxm)) y I1 _ hxo hyo).E5,fun h=>⟨?_,rfl⟩,fun h=>⟨(t.kids.length-(i+1)).toNat,by omega, ?_⟩⟩
  ·rw[gl,pS hx,pS hy,Px.kL,show x.px.same y.px=false by simpa using h];rfl
  ·rw[gU (n:=i+1) (by omega)]
   refine⟨by omega,by omega,rfl, ?_,rfl⟩
   rw[gl,pS hx,pS hy,Px.kL,show x.px.same y.px=true by simpa using h,show (i+1).toNat=i.toNat+1 by omega];rfl
 ·have hlt:=of_decide_eq_false hlt
  refine⟨?_,gF⟩
  rw[gl,BF (by omega),Px.kL]
def eJ.same(d e:eJ):Bool:=d.kind==e.kind&&(d.order==e.order&&(d.name.toList==e.name.toList&&(d.pos==e.pos&&(d.side.same e.side&&(d.qty.same e.qty&&(d.price.same e.price&&d.value.same e.value))))))
def dz.same(r q:dz):Bool:=r.when.same q.when&&(r.pos==q.pos&&(decide (r.dos.length=q.dos.length)&&eV eJ.same r.dos q.dos))
def dm.same(x y:dm):Bool:=x.name.toList==y.name.toList&&(x.pos==y.pos&&(decide (x.rules.length=y.rules.length)&&eV dz.same x.rules y.rules))
def dL.same(r q:dL):Bool:=r.init.same q.init&&(r.name.toList==q.name.toList&&(r.dH==q.dH&&r.pos==q.pos))
def di.same(r q:di):Bool:=r.name.toList==q.name.toList&&(r.pos==q.pos&&true)
def dU.same(s u:dU):Bool:=s.name.toList==u.name.toList&&(decide (s.regs.length=u.regs.length)&&(decide (s.slots.length=u.slots.length)&&(decide (s.states.length=u.states.length) &&
 (eV dL.same s.regs u.regs&&(eV di.same s.slots u.slots&&eV dm.same s.states u.states)))))
theorem eJ.eI(d:eJ):d.same d=true:=by simp[eJ.same,Px.eI]
theorem dz.eI(r:dz):r.same r=true:=by simp[dz.same,Px.eI,jw fun d _=>eJ.eI d]
theorem dm.eI(r:dm):r.same r=true:=by simp[dm.same,jw fun d _=>dz.eI d]
theorem dL.eI(r:dL):r.same r=true:=by simp[dL.same,Px.eI]
theorem di.eI(r:di):r.same r=true:=by simp[di.same]
theorem dU.eI(s:dU):s.same s=true:=by simp[dU.same,jw fun d _=>dL.eI d,jw fun d _=>di.eI d,jw fun d _=>dm.eI d]
theorem xF(d e:gC)(hs:d.p.dj)(I:cS)(F:cR)(hd:d.Ok I F)(he:e.Ok I F):cZ P 86 #[d.v,e.v] I F (lH (.bool (d.p.same e.p)) F):=by
 refine j5.vc ?_
 unfold j5.V
 intro b_a b_b
 have hsh:=hs.2
 simp only[eJ.DB,List.mem_cons,List.not_mem_nil,or_false] at hsh
 have od:∀{J:cS},cS.le I J→d.Ok J ((b_a,Obj.cells #[.int .u8 d.kind,.int .u8 d.order,.string d.name,.int .u8 d.side.kind,.int .u8 d.side.oper,.int .u8 d.side.dH,.int .i64 d.side.n,.int .u8 d.side.field,.string d.side.name,.slice d.side.a d.side.kids.length d.side.c,.int .i64 d.side.pos,.int .u8 d.qty.kind,.int .u8 d.qty.oper,.int .u8 d.qty.dH,.int .i64 d.qty.n,.int .u8 d.qty.field,.string d.qty.name,.slice d.qty.a d.qty.kids.length d.qty.c,.int .i64 d.qty.pos,.int .u8 d.price.kind,.int .u8 d.price.oper,.int .u8 d.price.dH,.int .i64 d.price.n,.int .u8 d.price.field,.string d.price.name,.slice d.price.a d.price.kids.length d.price.c,.int .i64 d.price.pos,.int .u8 d.value.kind,.int .u8 d.value.oper,.int .u8 d.value.dH,.int .i64 d.value.n,.int .u8 d.value.field,.string d.value.name,.slice d.value.a d.value.kids.length d.value.c,.int .i64 d.value.pos,.int .i64 d.pos] 114 (0,0))::(b_b,Obj.cells #[.int .u8 e.kind,.int .u8 e.order,.string e.name,.int .u8 e.side.kind,.int .u8 e.side.oper,.int .u8 e.side.dH,.int .i64 e.side.n,.int .u8 e.side.field,.string e.side.name,.slice e.side.a e.side.kids.length e.side.c,.int .i64 e.side.pos,.int .u8 e.qty.kind,.int .u8 e.qty.oper,.int .u8 e.qty.dH,.int .i64 e.qty.n,.int .u8 e.qty.field,.string e.qty.name,.slice e.qty.a e.qty.kids.length e.qty.c,.int .i64 e.qty.pos,.int .u8 e.price.kind,.int .u8 e.price.oper,.int .u8 e.price.dH,.int .i64 e.price.n,.int .u8 e.price.field,.string e.price.name,.slice e.price.a e.price.kids.length e.price.c,.int .i64 e.price.pos,.int .u8 e.value.kind,.int .u8 e.value.oper,.int .u8 e.value.dH,.int .i64 e.value.n,.int .u8 e.value.field,.string e.value.name,.slice e.value.a e.value.kids.length e.value.c,.int .i64 e.value.pos,.int .i64 e.pos] 114 (0,0))::F):=fun hl=>(hd.mono hl fun _ h=>h).cons.cons
 have oe:∀{J:cS},cS.le I J→e.Ok J ((b_a,Obj.cells #[.int .u8 d.kind,.int .u8 d.order,.string d.name,.int .u8 d.side.kind,.int .u8 d.side.oper,.int .u8 d.side.dH,.int .i64 d.side.n,.int .u8 d.side.field,.string d.side.name,.slice d.side.a d.side.kids.length d.side.c,.int .i64 d.side.pos,.int .u8 d.qty.kind,.int .u8 d.qty.oper,.int .u8 d.qty.dH,.int .i64 d.qty.n,.int .u8 d.qty.field,.string d.qty.name,.slice d.qty.a d.qty.kids.length d.qty.c,.int .i64 d.qty.pos,.int .u8 d.price.kind,.int .u8 d.price.oper,.int .u8 d.price.dH,.int .i64 d.price.n,.int .u8 d.price.field,.string d.price.name,.slice d.price.a d.price.kids.length d.price.c,.int .i64 d.price.pos,.int .u8 d.value.kind,.int .u8 d.value.oper,.int .u8 d.value.dH,.int .i64 d.value.n,.int .u8 d.value.field,.string d.value.name,.slice d.value.a d.value.kids.length d.value.c,.int .i64 d.value.pos,.int .i64 d.pos] 114 (0,0))::(b_b,Obj.cells #[.int .u8 e.kind,.int .u8 e.order,.string e.name,.int .u8 e.side.kind,.int .u8 e.side.oper,.int .u8 e.side.dH,.int .i64 e.side.n,.int .u8 e.side.field,.string e.side.name,.slice e.side.a e.side.kids.length e.side.c,.int .i64 e.side.pos,.int .u8 e.qty.kind,.int .u8 e.qty.oper,.int .u8 e.qty.dH,.int .i64 e.qty.n,.int .u8 e.qty.field,.string e.qty.name,.slice e.qty.a e.qty.kids.length e.qty.c,.int .i64 e.qty.pos,.int .u8 e.price.kind,.int .u8 e.price.oper,.int .u8 e.price.dH,.int .i64 e.price.n,.int .u8 e.price.field,.string e.price.name,.slice e.price.a e.price.kids.length e.price.c,.int .i64 e.price.pos,.int .u8 e.value.kind,.int .u8 e.value.oper,.int .u8 e.value.dH,.int .i64 e.value.n,.int .u8 e.value.field,.string e.value.name,.slice e.value.a e.value.kids.length e.value.c,.int .i64 e.value.pos,.int .i64 e.pos] 114 (0,0))::F):=fun hl=>(he.mono hl fun _ h=>h).cons.cons
 refine cZ.ret (jx d.side (hsh _ (.inl rfl)) e.side I _ (od (cS.le_refl I)).1 (oe (cS.le_refl I)).1) fun I1 l1=>⟨_,rfl,F,.refl _, ?_⟩
 refine cZ.ret (jx d.qty (hsh _ (.inr (.inl rfl))) e.qty I1 _ (od l1).2.1 (oe l1).2.1) fun I2 h2=>⟨_,rfl,F,.refl _, ?_⟩
 have l2:=cS.le_trans l1 h2
 refine cZ.ret (jx d.price (hsh _ (.inr (.inr (.inl rfl)))) e.price I2 _ (od l2).2.2.1 (oe l2).2.2.1) fun I3 h3=>⟨_,rfl,F,.refl _, ?_⟩
 have l3:=cS.le_trans l2 h3
 refine cZ.ret (jx d.value (hsh _ (.inr (.inr (.inr rfl)))) e.value I3 _ (od l3).2.2.2 (oe l3).2.2.2) fun I4 h4=>⟨_,rfl,F,.refl _, ?_⟩
 have hdef:d.p.same e.p=(d.kind==e.kind&&(d.order==e.order&&(d.name.toList==e.name.toList&&(d.pos==e.pos&&(d.side.px.same e.side.px&&(d.qty.px.same e.qty.px&&(d.price.px.same e.price.px&&d.value.px.same e.value.px))))))):=rfl
 rw[hdef]
 refine⟨fun h1=>⟨fun h2=>⟨fun h3=>⟨fun h4=>⟨fun h5=>⟨fun h6=>⟨fun h7=>⟨?_,rfl⟩,fun h7=>⟨?_,rfl⟩⟩,fun h6=>⟨?_,rfl⟩⟩,fun h5=>⟨?_,rfl⟩⟩,fun h4=>⟨?_,rfl⟩⟩,fun h3=>⟨?_,rfl⟩⟩,fun h2=>⟨?_,rfl⟩⟩,fun h1=>⟨?_,rfl⟩⟩
 all_goals simp only[*,Bool.true_and,Bool.false_and,Bool.and_false]
theorem p5{m n:Nat}(h:(((m:Nat):Int)!=((n:Nat):Int))=true):decide (m=n)=false:=decide_eq_false fun e=>by rw[e] at h;simp at h
theorem lD{m n:Nat}(h:(((m:Nat):Int)!=((n:Nat):Int))=false):m=n:=by
 have:(m:Int)=n:=by simpa using h
 omega
theorem zH{α:Type}[BEq α][LawfulBEq α]{x y:α}(h:(x != y)=true):(x==y)=false:=by simpa using h
theorem zI{α:Type}[BEq α][LawfulBEq α]{x y:α}(h:(x != y)=false):(x==y)=true:=by simpa using h
theorem rh{b:Bool}(h:(!b)=true):b=false:=by simpa using h
theorem ri{b:Bool}(h:(!b)=false):b=true:=by simpa using h
theorem tD(x y:c9)(hs:x.p.dj)(I:cS)(F:cR)(hx:x.Ok I F)(hy:y.Ok I F):cZ P 32 #[x.v,y.v] I F (lH (.bool (x.p.same y.p)) F):=by
 have hl:=hs.2.1
 have hru:∀r∈x.rules,r.p.dj:=fun r hr=>hs.2.2 _ (List.mem_map_of_mem hr)
 have hdl:∀r∈x.rules,r.dos.length≤140737488351232:=fun r hr=>by have:=(hru r hr).2.1;simpa only[dq.p,List.length_map] using this
 simp only[c9.p,List.length_map] at hl
 refine iA.vc
  (fun q i m I0 F0 I' F'=>F'=F∧0≤i∧i≤x.rules.length∧m=(x.rules.length-i).toNat∧x.rules.length=y.rules.length∧x.p.same y.p=eV dz.same ((x.rules.drop i.toNat).map dq.p) ((y.rules.drop i.toNat).map dq.p))
  (fun i q k m I0 F0 I' F'=>F'=F∧∃r s,x.rules[i.toNat]? = some r∧y.rules[i.toNat]? = some s∧0≤k∧k≤r.dos.length∧m=(r.dos.length-k).toNat ∧
    x.p.same y.p=(eV eJ.same ((r.dos.drop k.toNat).map gC.p) ((s.dos.drop k.toNat).map gC.p)&&eV dz.same ((x.rules.drop (i+1).toNat).map dq.p) ((y.rules.drop (i+1).toNat).map dq.p))) ?_
 unfold iA.V
 intro b_a b_b
 have hdef:x.p.same y.p=(x.name.toList==y.name.toList&&(x.pos==y.pos&&(decide (x.rules.length=y.rules.length)&&eV dz.same (x.rules.map dq.p) (y.rules.map dq.p)))):=by
  show (x.name.toList==y.name.toList&&(x.pos==y.pos&&(decide ((x.rules.map dq.p).length=(y.rules.map dq.p).length)&&_)))=_
  rw[List.length_map,List.length_map];rfl
 have ok:∀{J:cS},cS.le I J→x.Ok J ((b_a,Obj.cells #[.string x.name,.slice x.a x.rules.length x.c,.int .i64 x.pos] 88 (0,0))::(b_b,Obj.cells #[.string y.name,.slice y.a y.rules.length y.c,.int .i64 y.pos] 88 (0,0))::F)∧y.Ok J ((b_a,Obj.cells #[.string x.name,.slice x.a x.rules.length x.c,.int .i64 x.pos] 88 (0,0))::(b_b,Obj.cells #[.string y.name,.slice y.a y.rules.length y.c,.int .i64 y.pos] 88 (0,0))::F):=fun hl=>⟨(hx.mono hl fun _ h=>h).cons.cons,(hy.mono hl fun _ h=>h).cons.cons⟩
 refine⟨fun h1=>⟨?_,rfl⟩,fun h1=>⟨fun h2=>⟨?_,rfl⟩,fun h2=>⟨fun h3=>⟨?_,rfl⟩,fun h3=>⟨⟨_,rfl,by omega,by omega,rfl,lD h3, ?_⟩,fun q i m I1 F1 l1 ⟨gF,g0,g1,gm,gl,ge⟩=>?_⟩⟩⟩⟩
 ·rw[hdef,rh h1];rfl
 ·rw[hdef,zH h2];simp
 ·rw[hdef,p5 h3];simp
 ·rw[hdef,ri h1,zI h2,decide_eq_true (lD h3)];rfl
 subst gF
 refine⟨fun hlt=>?_,fun hlt=>⟨?_,rfl⟩⟩
 ·have hlt:=of_decide_eq_true hlt
  obtain⟨ad,r,had,hr,hrd,hrm⟩:=mv.x7 (ok l1).1.1 g0 hlt
  have hlt':i<(y.rules.length:Int):=by omega
  refine⟨⟨g0,hlt⟩,ad,had,_,_,_,_,_,_,_,_,_,_,_,_,_,_,hrd,fun b_x=>?_⟩
  obtain⟨ad',s,had',hs',hrd',hsm⟩:=mv.x7 (((ok l1).2.1).mono (cS.le_refl I1) (H:=(b_a,Obj.cells #[.string x.name,.slice x.a x.rules.length x.c,.int .i64 x.pos] 88 (0,0))::(b_b,Obj.cells #[.string y.name,.slice y.a y.rules.length y.c,.int .i64 y.pos] 88 (0,0))::(b_x,Obj.cells #[.int .u8 r.when.kind,.int .u8 r.when.oper,.int .u8 r.when.dH,.int .i64 r.when.n,.int .u8 r.when.field,.string r.when.name,.slice r.when.a r.when.kids.length r.when.c,.int .i64 r.when.pos,.slice r.a r.dos.length r.c,.int .i64 r.pos] 110 (0,0))::F1) fun a ha=>by simp only[List.mem_cons] at ha ⊢;rcases ha with h | h | h<;>simp[h]) g0 hlt'
  refine⟨⟨g0,hlt'⟩,ad',had',_,_,_,_,_,_,_,_,_,_,_,_,_,_,hrd',fun b_y=>?_⟩
  have ok2:∀{J:cS},cS.le I1 J→r.Ok J ((b_a,Obj.cells #[.string x.name,.slice x.a x.rules.length x.c,.int .i64 x.pos] 88 (0,0))::(b_b,Obj.cells #[.string y.name,.slice y.a y.rules.length y.c,.int .i64 y.pos] 88 (0,0))::(b_x,Obj.cells #[.int .u8 r.when.kind,.int .u8 r.when.oper,.int .u8 r.when.dH,.int .i64 r.when.n,.int .u8 r.when.field,.string r.when.name,.slice r.when.a r.when.kids.length r.when.c,.int .i64 r.when.pos,.slice r.a r.dos.length r.c,.int .i64 r.pos] 110 (0,0))::(b_y,Obj.cells #[.int .u8 s.when.kind,.int .u8 s.when.oper,.int .u8 s.when.dH,.int .i64 s.when.n,.int .u8 s.when.field,.string s.when.name,.slice s.when.a s.when.kids.length s.when.c,.int .i64 s.when.pos,.slice s.a s.dos.length s.c,.int .i64 s.pos] 110 (0,0))::F1)∧s.Ok J ((b_a,Obj.cells #[.string x.name,.slice x.a x.rules.length x.c,.int .i64 x.pos] 88 (0,0))::(b_b,Obj.cells #[.string y.name,.slice y.a y.rules.length y.c,.int .i64 y.pos] 88 (0,0))::(b_x,Obj.cells #[.int .u8 r.when.kind,.int .u8 r.when.oper,.int .u8 r.when.dH,.int .i64 r.when.n,.int .u8 r.when.field,.string r.when.name,.slice r.when.a r.when.kids.length r.when.c,.int .i64 r.when.pos,.slice r.a r.dos.length r.c,.int .i64 r.pos] 110 (0,0))::(b_y,Obj.cells #[.int .u8 s.when.kind,.int .u8 s.when.oper,.int .u8 s.when.dH,.int .i64 s.when.n,.int .u8 s.when.field,.string s.when.name,.slice s.when.a s.when.kids.length s.when.c,.int .i64 s.when.pos,.slice s.a s.dos.length s.c,.int .i64 s.pos] 110 (0,0))::F1):=fun hl =>
   ⟨(hx.2 r hrm).mono (cS.le_trans l1 hl) fun a ha=>.tail _ (.tail _ (.tail _ (.tail _ ha))),(hy.2 s hsm).mono (cS.le_trans l1 hl) fun a ha=>.tail _ (.tail _ (.tail _ (.tail _ ha)))⟩
  have hst:eV dz.same ((x.rules.drop i.toNat).map dq.p) ((y.rules.drop i.toNat).map dq.p)=(r.p.same s.p&&eV dz.same ((x.rules.drop (i+1).toNat).map dq.p) ((y.rules.drop (i+1).toNat).map dq.p)):=by
   rw[iG hr hs',show (i+1).toNat=i.toNat+1 by omega]
  have hrs:r.p.same s.p=(r.when.px.same s.when.px&&(r.pos==s.pos&&(decide (r.dos.length=s.dos.length)&&eV eJ.same (r.dos.map gC.p) (s.dos.map gC.p)))):=by
   show (r.when.px.same s.when.px&&(r.pos==s.pos&&(decide ((r.dos.map gC.p).length=(s.dos.map gC.p).length)&&_)))=_
   rw[List.length_map,List.length_map];rfl
  have hT:=ge.trans hst
  rw[hrs] at hT
  refine cZ.ret (jx r.when (hru r hrm).1 s.when I1 _ (ok2 (cS.le_refl I1)).1.1 (ok2 (cS.le_refl I1)).2.1) fun I2 l2=>⟨_,rfl,F1,.refl _, ?_⟩
  refine⟨fun h1=>⟨?_,rfl⟩,fun h1=>⟨fun h2=>⟨?_,rfl⟩,fun h2=>⟨fun h3=>⟨?_,rfl⟩,fun h3=>⟨⟨_,rfl,r,s,hr,hs',by omega,by omega,rfl, ?_⟩,fun q1 k m3 I3 F3 l3 ⟨kF,r',s',hr',hs2,k0,k1,km,ke⟩=>?_⟩⟩⟩⟩
  ·rw[hT,rh h1];rfl
  ·rw[hT,zH h2];simp
  ·rw[hT,p5 h3];simp
  ·rw[hT,ri h1,zI h2,decide_eq_true (lD h3)];rfl
  subst kF
  obtain rfl:r=r':=by rw[hr] at hr';exact Option.some.inj hr'
  obtain rfl:s=s':=by rw[hs'] at hs2;exact Option.some.inj hs2
  have hel:=lD h3
  have hrl:=hdl r hrm
  refine⟨fun hlt2=>?_,fun hlt2=>⟨(x.rules.length-(i+1)).toNat,by omega,rfl, ?_⟩⟩
  ·have hlt2:=of_decide_eq_true hlt2
   have l23:=cS.le_trans l2 l3
   obtain⟨ad2,d,had2,hd,hrd2,hdm⟩:=mv.x7 (ok2 l23).1.2.1 k0 hlt2
   obtain⟨ad3,e,had3,he,hrd3,hem⟩:=mv.x7 (ok2 l23).2.2.1 k0 (show k<(s.dos.length:Int) by omega)
   refine⟨⟨k0,hlt2⟩,ad2,had2,_,_,_,_,_,_,_,_,_,_,_,_,_,_,_,_,_,_,_,_,_,_,_,_,_,_,_,_,_,_,_,_,_,_,_,_,_,_,_,_,_,_,_,_,hrd2,⟨k0,by omega⟩,ad3,had3,_,_,_,_,_,_,_,_,_,_,_,_,_,_,_,_,_,_,_,_,_,_,_,_,_,_,_,_,_,_,_,_,_,_,_,_,_,_,_,_,_,_,_,_,hrd3,d.p.same e.p,cZ.ret (xF d e ((hru r hrm).2.2 _ (List.mem_map_of_mem hdm)) I3 _ ((ok2 l23).1.2.2 d hdm) ((ok2 l23).2.2.2 e hem)) fun _ _=>⟨rfl,.refl _⟩,fun h=>⟨?_,rfl⟩,fun h=>⟨(r.dos.length-(k+1)).toNat,by omega,rfl,r,s,hr,hs', ?_⟩⟩
   ·rw[ke,iG hd he,rh h];rfl
   ·rw[gU (n:=k+1) (by omega)]
    refine⟨by omega,by omega,rfl, ?_⟩
    rw[ke,iG hd he,ri h,show (k+1).toNat=k.toNat+1 by omega];rfl
  ·have hlt2:=of_decide_eq_false hlt2
   rw[gU (n:=i+1) (by omega)]
   refine⟨by omega,by omega,rfl,gl, ?_⟩
   rw[ke,lT (by omega)];rfl
 ·have hlt:=of_decide_eq_false hlt
  rw[ge,lT (by omega)]
theorem yN:P.underlying 106=some (.struct (P.fieldsOf 106)):=by kernel_rfl
theorem yO:P.stoodInHeld 106=false:=by kernel_rfl
theorem yP:P.eqGuardType P.depth 106=false:=by kernel_rfl
theorem AF(a:ByteArray)(p:Int)(b:ByteArray)(q:Int):sY P #[.string a,.int .i64 p] #[.string b,.int .i64 q] (P.fieldsOf 106).toList=some (a.toList==b.toList&&(p==q&&true)):=by kernel_rfl
theorem BW(r q:di){x y:Operand}:eu P .neq 106 x y (.agg #[.string r.name,.int .i64 r.pos]) (.agg #[.string q.name,.int .i64 q.pos]) (!r.same q):=yy yN yO yP (AF ..)
theorem vY(s u:fG)(hs:s.p.dj)(I:cS)(F:cR)(hx:s.Ok I F)(hy:u.Ok I F):cZ P 13 #[s.v,u.v] I F (lH (.bool (s.p.same u.p)) F):=by
 have lr:=hs.regs
 have ls:=hs.slots
 have lt:=hs.states
 simp only[fG.p,List.length_map] at lr ls lt
 have hnm:∀r∈s.regs,r.p.dj:=fun r hr=>hs.lx _ (List.mem_map_of_mem hr)
 have hst:∀x∈s.states,x.p.dj:=fun x hx=>hs.state _ (List.mem_map_of_mem hx)
 refine gh.vc
  (fun q i m I' F'=>F'=F∧0≤i∧i≤s.regs.length∧m=(s.regs.length-i).toNat∧cS.le I I'∧(s.regs.length=u.regs.length∧s.slots.length=u.slots.length∧s.states.length=u.states.length) ∧
    s.p.same u.p=(eV dL.same ((s.regs.drop i.toNat).map dV.p) ((u.regs.drop i.toNat).map dV.p)&&(eV di.same s.slots u.slots&&eV dm.same (s.states.map c9.p) (u.states.map c9.p))))
  (fun q i m I' F'=>F'=F∧0≤i∧i≤s.slots.length∧m=(s.slots.length-i).toNat∧cS.le I I'∧(s.regs.length=u.regs.length∧s.slots.length=u.slots.length∧s.states.length=u.states.length) ∧
    s.p.same u.p=(eV di.same ((s.slots.drop i.toNat).map id) ((u.slots.drop i.toNat).map id)&&eV dm.same (s.states.map c9.p) (u.states.map c9.p)))
  (fun q i m I' F'=>F'=F∧0≤i∧i≤s.states.length∧m=(s.states.length-i).toNat∧cS.le I I'∧(s.regs.length=u.regs.length∧s.slots.length=u.slots.length∧s.states.length=u.states.length) ∧
    s.p.same u.p=eV dm.same ((s.states.drop i.toNat).map c9.p) ((u.states.drop i.toNat).map c9.p)) ?_
 unfold gh.V
 intro b_a b_b
 have hdef:s.p.same u.p=(s.name.toList==u.name.toList&&(decide (s.regs.length=u.regs.length)&&(decide (s.slots.length=u.slots.length)&&(decide (s.states.length=u.states.length) &&
   (eV dL.same (s.regs.map dV.p) (u.regs.map dV.p)&&(eV di.same s.slots u.slots&&eV dm.same (s.states.map c9.p) (u.states.map c9.p))))))):=by
  show (s.name.toList==u.name.toList&&(decide ((s.regs.map dV.p).length=(u.regs.map dV.p).length)&&(decide (s.slots.length=u.slots.length)&&(decide ((s.states.map c9.p).length=(u.states.map c9.p).length)&&_))))=_
  rw[List.length_map,List.length_map,List.length_map,List.length_map];rfl
 have ok:∀{J:cS},cS.le I J→s.Ok J ((b_a,Obj.cells #[.string s.name,.slice s.ra s.regs.length s.rc,.slice s.sa s.slots.length s.sc,.slice s.ta s.states.length s.tc] 43 (0,0))::(b_b,Obj.cells #[.string u.name,.slice u.ra u.regs.length u.rc,.slice u.sa u.slots.length u.sc,.slice u.ta u.states.length u.tc] 43 (0,0))::F)∧u.Ok J ((b_a,Obj.cells #[.string s.name,.slice s.ra s.regs.length s.rc,.slice s.sa s.slots.length s.sc,.slice s.ta s.states.length s.tc] 43 (0,0))::(b_b,Obj.cells #[.string u.name,.slice u.ra u.regs.length u.rc,.slice u.sa u.slots.length u.sc,.slice u.ta u.states.length u.tc] 43 (0,0))::F):=fun hl=>⟨(hx.mono hl fun _ h=>h).cons.cons,(hy.mono hl fun _ h=>h).cons.cons⟩
 refine⟨fun h1=>⟨?_,rfl⟩,fun h1=>⟨fun h2=>⟨?_,rfl⟩,fun h2=>⟨fun h3=>⟨?_,rfl⟩,fun h3=>⟨fun h4=>⟨?_,rfl⟩,fun h4=>⟨⟨_,rfl,by omega,by omega,rfl,cS.le_refl I,⟨lD h2,lD h3,lD h4⟩, ?_⟩,fun q i m I1 F1 _ ⟨gF,g0,g1,gm,l1,gl,ge⟩=>?_⟩⟩⟩⟩⟩
 ·rw[hdef,rh h1];rfl
 ·rw[hdef,p5 h2];simp
 ·rw[hdef,p5 h3];simp
 ·rw[hdef,p5 h4];simp
 ·rw[hdef,ri h1,decide_eq_true (lD h2),decide_eq_true (lD h3),decide_eq_true (lD h4)];rfl
 subst gF
 obtain⟨gl1,gl2,gl3⟩:=gl
 refine⟨fun hlt=>?_,fun hlt=>⟨⟨_,rfl,by omega,by omega,rfl,l1,⟨gl1,gl2,gl3⟩, ?_⟩,fun q i m I3 F3 _ ⟨gF,g0,g1,gm,l3,gl,ge⟩=>?_⟩⟩
 ·have hlt:=of_decide_eq_true hlt
  obtain⟨ad,r,had,hr,hrd,hrm⟩:=mv.x7 (ok l1).1.regs g0 hlt
  have hlt':i<(u.regs.length:Int):=by omega
  refine⟨⟨g0,hlt⟩,ad,had,_,_,_,_,_,_,_,_,_,_,_,_,_,hrd,fun b_x=>?_⟩
  obtain⟨ad',q',had',hq,hrd',hqm⟩:=mv.x7 (((ok l1).2.regs).mono (cS.le_refl I1) (H:=(b_a,Obj.cells #[.string s.name,.slice s.ra s.regs.length s.rc,.slice s.sa s.slots.length s.sc,.slice s.ta s.states.length s.tc] 43 (0,0))::(b_b,Obj.cells #[.string u.name,.slice u.ra u.regs.length u.rc,.slice u.sa u.slots.length u.sc,.slice u.ta u.states.length u.tc] 43 (0,0))::(b_x,Obj.cells #[.string r.name,.int .u8 r.dH,.int .u8 r.init.kind,.int .u8 r.init.oper,.int .u8 r.init.dH,.int .i64 r.init.n,.int .u8 r.init.field,.string r.init.name,.slice r.init.a r.init.kids.length r.init.c,.int .i64 r.init.pos,.int .i64 r.pos] 104 (0,0))::F1) fun a ha=>by simp only[List.mem_cons] at ha ⊢;rcases ha with h | h | h<;>simp[h]) g0 hlt'
  refine⟨⟨g0,hlt'⟩,ad',had',_,_,_,_,_,_,_,_,_,_,_,_,_,hrd',fun b_y=>?_⟩
  have sub4:∀a,a∈F1→a∈((b_a,Obj.cells #[.string s.name,.slice s.ra s.regs.length s.rc,.slice s.sa s.slots.length s.sc,.slice s.ta s.states.length s.tc] 43 (0,0))::(b_b,Obj.cells #[.string u.name,.slice u.ra u.regs.length u.rc,.slice u.sa u.slots.length u.sc,.slice u.ta u.states.length u.tc] 43 (0,0))::(b_x,Obj.cells #[.string r.name,.int .u8 r.dH,.int .u8 r.init.kind,.int .u8 r.init.oper,.int .u8 r.init.dH,.int .i64 r.init.n,.int .u8 r.init.field,.string r.init.name,.slice r.init.a r.init.kids.length r.init.c,.int .i64 r.init.pos,.int .i64 r.pos] 104 (0,0))::(b_y,Obj.cells #[.string q'.name,.int .u8 q'.dH,.int .u8 q'.init.kind,.int .u8 q'.init.oper,.int .u8 q'.init.dH,.int .i64 q'.init.n,.int .u8 q'.init.field,.string q'.init.name,.slice q'.init.a q'.init.kids.length q'.init.c,.int .i64 q'.init.pos,.int .i64 q'.pos] 104 (0,0))::F1):=fun a ha=>.tail _ (.tail _ (.tail _ (.tail _ ha)))
  have hT:=ge
  rw[iG hr hq] at hT
  have hrs:r.p.same q'.p=(r.init.px.same q'.init.px&&(r.name.toList==q'.name.toList&&(r.dH==q'.dH&&r.pos==q'.pos))):=rfl
  rw[hrs] at hT
  refine cZ.ret (jx r.init (hnm r hrm).2 q'.init I1 _ ((hx.lx r hrm).mono l1 sub4) ((hy.lx q' hqm).mono l1 sub4)) fun I2 l2=>⟨_,rfl,F1,.refl _, ?_⟩
  refine⟨fun h1=>⟨?_,rfl⟩,fun h1=>⟨fun h2=>⟨?_,rfl⟩,fun h2=>⟨fun h3=>⟨?_,rfl⟩,fun h3=>⟨fun h4=>⟨?_,rfl⟩,fun h4=>⟨(s.regs.length-(i+1)).toNat,by omega,rfl, ?_⟩⟩⟩⟩⟩
  ·rw[hT,rh h1];rfl
  ·rw[hT,rh h2];simp
  ·rw[hT,zH h3];simp
  ·rw[hT,zH h4];simp
  ·rw[gU (n:=i+1) (by omega)]
   refine⟨by omega,by omega,rfl,cS.le_trans l1 l2,⟨gl1,gl2,gl3⟩, ?_⟩
   rw[hT,ri h1,ri h2,zI h3,zI h4,show (i+1).toNat=i.toNat+1 by omega];rfl
 ·have hlt:=of_decide_eq_false hlt
  rw[ge,lT (by omega)]
  simp only[Bool.true_and]
  show _=(eV di.same (s.slots.map id) (u.slots.map id)&&_)
  rw[List.map_id,List.map_id]
 subst gF
 obtain⟨gl1,gl2,gl3⟩:=gl
 refine⟨fun hlt=>?_,fun hlt=>⟨⟨_,rfl,by omega,by omega,rfl,l3,⟨gl1,gl2,gl3⟩, ?_⟩,fun q i m I4 F4 _ ⟨gF,g0,g1,gm,l4,gl,ge⟩=>?_⟩⟩
 ·have hlt:=of_decide_eq_true hlt
  obtain⟨ad,r,had,hr,hrd,hrm⟩:=mv.x7 (ok l3).1.slots g0 hlt
  have hlt':i<(u.slots.length:Int):=by omega
  obtain⟨ad',q',had',hq,hrd',hqm⟩:=mv.x7 (ok l3).2.slots g0 hlt'
  have hT:=ge
  rw[iG hr hq] at hT
  refine⟨⟨g0,hlt⟩,ad,had,_,_,hrd,⟨g0,hlt'⟩,ad',had',_,_,hrd',_,BW r q',fun h=>⟨?_,rfl⟩,fun h=>⟨(s.slots.length-(i+1)).toNat,by omega,rfl, ?_⟩⟩
  ·rw[hT]
   show Ending.returned (.bool false)=.returned (.bool ((r.same q'&&_)&&_))
   rw[rh h];rfl
  ·rw[gU (n:=i+1) (by omega)]
   refine⟨by omega,by omega,rfl,l3,⟨gl1,gl2,gl3⟩, ?_⟩
   rw[hT,show (i+1).toNat=i.toNat+1 by omega]
   show ((r.same q'&&_)&&_)=_
   rw[ri h];rfl
 ·have hlt:=of_decide_eq_false hlt
  rw[ge,lT (by omega)];rfl
 subst gF
 obtain⟨gl1,gl2,gl3⟩:=gl
 refine⟨fun hlt=>?_,fun hlt=>⟨?_,rfl⟩⟩
 ·have hlt:=of_decide_eq_true hlt
  obtain⟨ad,x,had,hx',hrd,hxm⟩:=mv.x7 (ok l4).1.states g0 hlt
  have hlt':i<(u.states.length:Int):=by omega
  obtain⟨ad',y,had',hy',hrd',hym⟩:=mv.x7 (ok l4).2.states g0 hlt'
  refine⟨⟨g0,hlt⟩,ad,had,_,_,_,_,_,hrd,⟨g0,hlt'⟩,ad',had',_,_,_,_,_,hrd',x.p.same y.p,cZ.ret (tD x y (hst x hxm) I4 _ ((ok l4).1.state x hxm) ((ok l4).2.state y hym)) fun _ _=>⟨rfl,.refl _⟩,fun h=>⟨?_,rfl⟩,fun h=>⟨(s.states.length-(i+1)).toNat,by omega,rfl, ?_⟩⟩
  ·rw[ge,iG hx' hy',rh h];rfl
  ·rw[gU (n:=i+1) (by omega)]
   refine⟨by omega,by omega,rfl,l4,⟨gl1,gl2,gl3⟩, ?_⟩
   rw[ge,iG hx' hy',ri h,show (i+1).toNat=i.toNat+1 by omega];rfl
 ·have hlt:=of_decide_eq_false hlt
  rw[ge,lT (by omega)]
def Fc(z n:Nat)(a:Option Addr)(c:Nat)(A:cR):Prop :=
 ∃b cells e,a=some ⟨b,0,none⟩∧A=[(b,Obj.cells cells e (0,0))]∧c=n+2∧cells[n*z+(z-1)]? = some (.int .i64 (-771))
def nb{α:Type}(R:Bool)(z:Nat)(f:α→List Value)(E:Nat)(O:α→cR→Prop)(a:Option Addr)(n c:Nat)(l:List α)(H:cR):Prop :=
 ∃A hs,H=A++dI n hs∧Acc z f E a n c l A∧(R=true→Fc z n a c A)∧∀(i:Nat) (k:α),l[i]? = some k→O k (hs i)
def iP(R:Bool)(d:gC)(H:cR):Prop:=∃H1 H2 H3 H4,H=H1++(H2++(H3++H4))∧eH 64 R d.side H1∧eH 64 R d.qty H2∧eH 64 R d.price H3∧eH 64 R d.value H4
def lE(R:Bool)(r:dV)(H:cR):Prop:=eH 64 R r.init H
def p6(r:di)(H:cR):Prop:=H=[]
def lb(R:Bool)(r:dq)(H:cR):Prop:=∃H1 H2,H=H1++H2∧eH 64 R r.when H1∧nb R 36 gC.enc 114 (iP R) r.a r.dos.length r.c r.dos H2
def je(R:Bool)(x:c9)(H:cR):Prop:=nb R 10 dq.enc 110 (lb R) x.a x.rules.length x.c x.rules H
def o5(R:Bool)(s:fG)(H:cR):Prop:=∃H1 H2 H3,H=H1++(H2++H3)∧nb R 11 dV.enc 104 (lE R) s.ra s.regs.length s.rc s.regs H1∧nb R 2 di.enc 106 p6 s.sa s.slots.length s.sc s.slots H2 ∧
 nb R 3 c9.enc 88 (je R) s.ta s.states.length s.tc s.states H3
theorem nb.ok{α:Type}{R:Bool}{z E n c:Nat}{f:α→List Value}{O:α→cR→Prop}{a:Option Addr}{l:List α}{H:cR}(h:nb R z f E O a n c l H)(hz:∀x,(f x).length=z){I:cS}{G:cR}{K:α→Prop}(hG:∀x,x∈H→x∈G)
  (hk:∀x H',O x H'→(∀y,y∈H'→y∈G)→K x):mv I G z f a n l∧∀x∈l,K x:=by
 obtain⟨A,hs,rfl,hA, -,hO⟩:=h
 refine⟨hA.GU hz I fun x hx=>hG x (List.mem_append_left _ hx),fun x hx=>?_⟩
 obtain⟨i,hi,rfl⟩:=List.mem_iff_getElem.1 hx
 have hn:=hA.1
 exact hk _ _ (hO i _ (List.getElem?_eq_getElem hi)) fun y hy=>hG y (List.mem_append_right _ (uU (by omega) hy))
theorem iP.ok{R:Bool}{d:gC}{H:cR}(h:iP R d H){I:cS}{G:cR}(hG:∀x,x∈H→x∈G):d.Ok I G:=by
 obtain⟨H1,H2,H3,H4,rfl,h1,h2,h3,h4⟩:=h
 simp only[List.mem_append] at hG
 exact⟨h1.ok fun x hx=>hG x (.inl hx),h2.ok fun x hx=>hG x (.inr (.inl hx)),h3.ok fun x hx=>hG x (.inr (.inr (.inl hx))),h4.ok fun x hx=>hG x (.inr (.inr (.inr hx)))⟩
theorem lE.ok{R:Bool}{d:dV}{H:cR}(h:lE R d H){I:cS}{G:cR}(hG:∀x,x∈H→x∈G):d.Ok I G:=eH.ok h hG
theorem lb.ok{R:Bool}{r:dq}{H:cR}(h:lb R r H){I:cS}{G:cR}(hG:∀x,x∈H→x∈G):r.Ok I G:=by
 obtain⟨H1,H2,rfl,h1,h2⟩:=h
 obtain⟨g1,g2⟩:=h2.ok (I:=I) (G:=G) (K:=fun d=>d.Ok I G) (fun _=>rfl) (fun x hx=>hG x (List.mem_append_right _ hx)) fun x H' hO hs=>iP.ok hO hs
 exact⟨h1.ok fun x hx=>hG x (List.mem_append_left _ hx),g1,g2⟩
theorem je.ok{R:Bool}{r:c9}{H:cR}(h:je R r H){I:cS}{G:cR}(hG:∀x,x∈H→x∈G):r.Ok I G :=
 nb.ok h (fun _=>rfl) hG fun x H' hO hs=>lb.ok hO hs
theorem o5.ok{R:Bool}{s:fG}{H:cR}(h:o5 R s H){I:cS}{G:cR}(hG:∀x,x∈H→x∈G):s.Ok I G:=by
 obtain⟨H1,H2,H3,rfl,h1,h2,h3⟩:=h
 simp only[List.mem_append] at hG
 obtain⟨a1,a2⟩:=h1.ok (I:=I) (G:=G) (K:=fun d=>d.Ok I G) (fun _=>rfl) (fun x hx=>hG x (.inl hx)) fun x H' hO hs=>lE.ok hO hs
 obtain⟨b1, -⟩:=h2.ok (I:=I) (G:=G) (K:=fun d=>True) (fun _=>rfl) (fun x hx=>hG x (.inr (.inl hx))) fun x H' hO hs=>trivial
 obtain⟨c1,c2⟩:=h3.ok (I:=I) (G:=G) (K:=fun d=>d.Ok I G) (fun _=>rfl) (fun x hx=>hG x (.inr (.inr hx))) fun x H' hO hs=>je.ok hO hs
 exact⟨a1,a2,b1,c1,c2⟩
def Part{α:Type}(z:Nat)(f:α→List Value)(E:Nat)(O:α→cR→Prop)(a:Option Addr)(n c:Nat)(l:List α)(F F':cR):Prop :=
 ∃A hs,Acc z f E a n c l A∧(∀(i:Nat) (k:α),l[i]? = some k→O k (hs i))∧F'.Perm (A++(dI l.length hs++F))
theorem Part.nil{α:Type}{z E:Nat}{f:α→List Value}{O:α→cR→Prop}{F:cR}:Part z f E O none 0 0 ([]:List α) F F:=⟨[],fun _=>[],Acc.nil,fun i k h=>by simp at h,.refl _⟩
theorem Part.own{α:Type}{z E n c:Nat}{f:α→List Value}{O:α→cR→Prop}{a:Option Addr}{l:List α}{F F':cR}(h:Part z f E O a n c l F F'):∃H,nb false z f E O a n c l H∧F'.Perm (H++F):=by
 obtain⟨A,hs,hA,hk,hp⟩:=h
 exact⟨A++dI n hs,⟨A,hs,rfl,hA,fun h=>(by cases h),hk⟩,by rw[hA.1,List.append_assoc];exact hp⟩
theorem Part.mem{α:Type}{z E n c:Nat}{f:α→List Value}{O:α→cR→Prop}{a:Option Addr}{l:List α}{F F':cR}(h:Part z f E O a n c l F F'):∀x,x∈F→x∈F':=by
 obtain⟨A,hs,hA,hk,hp⟩:=h
 exact fun x hx=>hp.mem_iff.2 (List.mem_append_right _ (List.mem_append_right _ hx))
theorem AG{α:Type}{z E n c:Nat}{f:α→List Value}{O:α→cR→Prop}{a:Option Addr}{l:List α}{F:cR}{hs:Nat→cR}{x:α}{Hx A' G:cR}(hA':Acc z f E a n c (l++[x]) A')(hk:∀(i:Nat) (k:α),l[i]? = some k→O k (hs i))(hx:O x Hx)
  (hG:G.Perm (A'++(Hx++(dI l.length hs++F)))):Part z f E O a n c (l++[x]) F G:=by
 refine⟨A',fun j=>if j<l.length then hs j else Hx,hA',fun j k hj=>?_, ?_⟩
 ·show O k (if j<l.length then hs j else Hx)
  rw[List.getElem?_append] at hj
  split at hj
  ·rename_i hlt';rw[if_pos hlt'];exact hk j k hj
  ·rename_i hge
   have hj':=List.mem_of_getElem? hj
   rw[List.mem_singleton] at hj'
   rw[if_neg hge,hj'];exact hx
 ·rw[List.length_append,List.length_singleton,mG,if_neg (Nat.lt_irrefl _),rb (hs':=hs) fun j hj=>if_pos hj]
  exact hG.trans (cU fun z=>by simp only[cY];omega)
theorem fQ{P:Program}{α:Type}{z:Nat}{f:α→List Value}(hz:∀x,(f x).length=z){t ty e:TypeId}{zv:Value}{by':Nat}(ht:P.underlying t=some (.slice e))(hi:(P.info? e).map (fun i=>(i.zero,i.size,i.bytes))=some (some zv,z,by'))(hzs:zv.cells.size=z)(hb:1≤by')
  {a:Option Addr} {n c:Nat} {l:List α} {O:α→cR→Prop} {F F1 F2 R0 Hx:cR} {x:α} (h:Part z f e O a n c l F F1) (h1:∀u∈f x,u.oneCell'=true) {b:Nat} {I:cS} {o:Obj} (ho:o=.cells (f x).toArray e (0,0)) (hbm:I b=some o)
  (hx:O x Hx) (hF2:F2.Perm (R0++(Hx++F1))) (hfit:(l.length+1)*by'≤140737488355328) :
  dO P (Builtin.append_ #[t,t] ty #[.slice a n c,.slice (some ⟨b,0,none⟩) 1 1]) I F2 fun v I' G=>∃a' n' c',v=.slice a' n' c'∧∃F3,G.Perm (R0++F3)∧Part z f e O a' n' c' (l++[x]) F F3:=by
 obtain⟨A,hs,hA,hk,hp⟩:=h
 subst ho
 refine dO.perm (dO.mono (jX hz ht hi hzs hb hA (xs:=[x]) (fun y hy=>by rw[List.mem_singleton] at hy;rw[hy];exact h1) (by simp) rfl ?_ (by simpa using hfit) (F:=R0++(Hx++(dI l.length hs++F)))) fun v I2 G hI2 ⟨a',n',c',A',hv,hA',hG',_⟩=>?_) ?_
 ·refine⟨rfl,_,_,_,.inl hbm,fun j hj=>?_⟩
  simp
 ·subst hG'
  exact⟨a',n',c',hv,A'++(Hx++(dI l.length hs++F)),cU fun z=>by simp only[cY];omega,AG hA' hk hx (.refl _)⟩
 ·refine hF2.trans ?_
  exact cU fun z=>by have:=iW hp z;simp only[cY] at this ⊢;omega
def eJ.bare(d:eJ):eJ:=⟨d.kind,d.order,d.name,d.side.bare,d.qty.bare,d.price.bare,d.value.bare,0⟩
def dz.bare(r:dz):dz:=⟨r.when.bare,r.dos.map eJ.bare,0⟩
def dm.bare(x:dm):dm:=⟨x.name,x.rules.map dz.bare,0⟩
def dL.bare(r:dL):dL:=⟨r.name,r.dH,r.init.bare,0⟩
def di.bare(r:di):di:=⟨r.name,0⟩
def dU.bare(s:dU):dU:=⟨s.name,s.regs.map dL.bare,s.slots.map di.bare,s.states.map dm.bare⟩
theorem xG(d:gC)(hs:Small d.p.DB)(I:cS)(F:cR)(hd:d.Ok I F):cZ P 122 #[d.v] I F fun e I' G=>∃(d':gC) (H:cR),e=.returned d'.v∧d'.p=d.p.bare∧iP false d' H∧G.Perm (H++F):=by
 refine j4.vc ?_
 unfold j4.V
 intro b_d b
 simp only[Small,eJ.DB,gC.p,List.mem_cons,List.not_mem_nil,or_false] at hs
 refine (kl d.side (hs _ (.inl rfl)) I _ hd.1.cons.cons).mono fun e I1 G l1 ⟨t1,H1,he,p1,o1,hG⟩=>?_
 subst he
 refine⟨_,_,_,_,_,_,_,_,_,_,rfl,H1++F,hG.trans (cU fun z=>by simp only[cY,cV,c6];omega), ?_⟩
 have k1:d.Ok I1 (H1++F):=hd.mono l1 fun a ha=>List.mem_append_right _ ha
 refine (kl d.qty (hs _ (.inr (.inl rfl))) I1 _ k1.2.1.cons.cons).mono fun e I2 G l2 ⟨t2,H2,he,p2,o2,hG⟩=>?_
 subst he
 refine⟨_,_,_,_,_,_,_,_,_,_,rfl,H2++(H1++F),hG.trans (cU fun z=>by simp only[cY,cV,c6];omega), ?_⟩
 have k2:d.Ok I2 (H2++(H1++F)):=k1.mono l2 fun a ha=>List.mem_append_right _ ha
 refine (kl d.price (hs _ (.inr (.inr (.inl rfl)))) I2 _ k2.2.2.1.cons.cons).mono fun e I3 G l3 ⟨t3,H3,he,p3,o3,hG⟩=>?_
 subst he
 refine⟨_,_,_,_,_,_,_,_,_,_,rfl,H3++(H2++(H1++F)),hG.trans (cU fun z=>by simp only[cY,cV,c6];omega), ?_⟩
 have k3:d.Ok I3 (H3++(H2++(H1++F))):=k2.mono l3 fun a ha=>List.mem_append_right _ ha
 refine (kl d.value (hs _ (.inr (.inr (.inr rfl)))) I3 _ k3.2.2.2.cons.cons).mono fun e I4 G l4 ⟨t4,H4,he,p4,o4,hG⟩=>?_
 subst he
 refine⟨_,_,_,_,_,_,_,_,_,_,rfl,H4++(H3++(H2++(H1++F))),hG.trans (cU fun z=>by simp only[cY,cV,c6];omega),⟨d.kind,d.order,d.name,t1,t2,t3,t4,0⟩,H1++(H2++(H3++H4)),rfl, ?_,⟨H1,H2,H3,H4,rfl,o1,o2,o3,o4⟩,(cU fun z=>by simp only[cY,cV,c6];omega)⟩
 show eJ.mk _ _ _ _ _ _ _ _=_
 rw[p1,p2,p3,p4];rfl
def c7.Fs(m:c7){α:Type}(rel:α→α→Prop)(g g':PS→α×PS):Prop:=∀s s',m.Rs s s'→m.Gd (g s).2→m.Rs (g s).2 (g' s').2∧rel (g s).1 (g' s').1
def c7.nr(x x':ByteArray):Prop:=x'=x
def c7.dr(x x':eJ):Prop:=x'.bare=x.bare
def c7.dl(l l':List eJ):Prop:=l'.map eJ.bare=l.map eJ.bare
def c7.ur(x x':dz):Prop:=x'.bare=x.bare
def c7.gr(x x':dL):Prop:=x'.bare=x.bare
def c7.sr(x x':di):Prop:=x'.bare=x.bare
def c7.tr(x x':dm):Prop:=x'.bare=x.bare
def c7.gg(x x':dU):Prop:=x'.bare=x.bare
section
variable {m:c7} (hm:m.Ok) (hd:m.δ=0) (hv:m.ov=false)
include hm hd hv
theorem c7.dW:m.Fs c7.xr m.c.dW m.c'.dW:=fun s s' h hg=>by
 have h1:=(c7.lvl hm 24 24 0 (by decide) (by rw[hd];decide)).1 s s' h hg
 rw[hd] at h1
 rcases h1 with h1 | ⟨h1,_⟩
 ·exact h1
 ·rw[hd] at h1;exact absurd h1 (by decide)
theorem c7.kind{s s':PS}(h:m.Rs s s')(hg:m.Gd s):(m.c'.now s').kind=(m.c.now s).kind:=by
 rcases c7.now hm h hg with ⟨h1,_⟩ | ⟨h1,_⟩
 ·exact h1
 ·rw[hv] at h1;cases h1
theorem c7.gd{s:PS}(h:s.next≤m.K):m.Gd s:=⟨h,fun ho=>by rw[hv] at ho;cases ho⟩
theorem c7.lQ{nm:ByteArray}{t p q p' q':Int}{b:Bool}{n n':Px}(hn:c7.xr n n'):m.Fs c7.gr (m.c.lQ nm t p q b n) (m.c'.lQ nm t p' q' b n'):=fun s s' h hg=>by
 refine⟨c7.take hm h _ hg, ?_⟩
 show dL.bare ⟨nm,t,if b then .mk 5 1 0 0 0 ⟨#[]⟩ [n'] q' else n',p'⟩=dL.bare ⟨nm,t,if b then .mk 5 1 0 0 0 ⟨#[]⟩ [n] q else n,p⟩
 have:c7.xr (if b then .mk 5 1 0 0 0 ⟨#[]⟩ [n] q else n) (if b then .mk 5 1 0 0 0 ⟨#[]⟩ [n'] q' else n'):=by
  split
  ·exact .mk (.one hn)
  ·exact hn
 unfold dL.bare
 rw[show _=_ from this]
theorem c7.jJ{nm:ByteArray}{t p q p' q':Int}{b:Bool}:m.Fs c7.gr (m.c.jJ nm t p q b) (m.c'.jJ nm t p' q' b):=fun s s' h hg=>by
 have h0:=c7.back hm (Up.jJ s) (fun f h=>Kp.jJ _ _ _ _ _ _ h) hg
 obtain⟨l1,l2,l3⟩:=c7.literal hm h h0
 unfold PC.jJ at hg ⊢
 rw[c7.kind hm hd hv h h0,l3]
 split
 ·exact⟨c7.c5 hm h h0.1,rfl⟩
 ·rename_i hc
  rw[if_neg hc] at hg
  refine c7.lQ hm hd hv l2 _ _ ?_ hg
  split
  ·exact l1
  ·rename_i hc2
   rw[if_neg hc2] at hg
   have g1:=c7.back hm (Up.lQ _) (fun f h=>Kp.lQ _ _ _ _ _ _ _ h) hg
   have:=g1.1;rw[hU] at this
   exact c7.c5 hm l1 this
theorem c7.kI{nm:ByteArray}{t p p':Int}:m.Fs c7.gr (m.c.kI nm t p) (m.c'.kI nm t p'):=fun s s' h hg=>by
 have h0:=c7.back hm (Up.kI s) (fun f h=>Kp.kI _ _ _ _ h) hg
 unfold PC.kI at hg ⊢
 rw[c7.ej hm h h0 (.inr hv)]
 refine c7.jJ hm hd hv _ _ ?_ hg
 split
 ·exact h.inc
 ·exact h
theorem c7.kJ{nm:ByteArray}{p p':Int}:m.Fs c7.gr (m.c.kJ nm p) (m.c'.kJ nm p'):=fun s s' h hg=>by
 have h0:=c7.back hm (Up.kJ s) (fun f h=>Kp.kJ _ _ _ h) hg
 unfold PC.kJ at hg ⊢
 rw[c7.any hm h h0 (by kernel_rfl)]
 split
 ·exact⟨c7.c5 hm h h0.1,rfl⟩
 ·rename_i hc
  rw[if_neg hc] at hg
  have g1:=c7.back hm (Up.kI _) (fun f h=>Kp.kI _ _ _ _ h) hg
  exact c7.kI hm hd hv _ _ (c7.take hm h.inc _ g1) hg
theorem c7.lx:m.Fs c7.gr m.c.lx m.c'.lx:=fun s s' h hg=>by
 unfold PC.lx at hg ⊢
 have g2:=c7.back hm (Up.kJ _) (fun f h=>Kp.kJ _ _ _ h) hg
 have g1:=c7.back hm Up.name (fun f h=>h.name) g2
 obtain⟨n1,n2⟩:=c7.name hm (c7.take hm h _ g1) g2
 rw[n2]
 exact c7.kJ hm hd hv _ _ n1 hg
theorem c7.eg:m.Fs c7.nr m.c.eg m.c'.eg:=fun s s' h hg=>by
 have h0:=c7.back hm (Up.eg s) (fun f h=>Kp.eg _ h) hg
 unfold PC.eg at hg ⊢
 rw[c7.ej hm h h0 (.inr hv)]
 split
 ·rename_i hc;rw[if_pos hc] at hg;exact c7.name hm h.inc hg
 ·exact⟨h,rfl⟩
theorem c7.jK{x y z x' y' z':Px}{p p' o:Int}(hx:c7.xr x x')(hy:c7.xr y y')(hz:c7.xr z z'):m.Fs c7.dr (m.c.jK x y p z o) (m.c'.jK x' y' p' z' o):=fun s s' h hg=>by
 obtain⟨h1,h2⟩:=c7.eg hm hd hv s s' h hg
 refine⟨h1, ?_⟩
 show eJ.bare ⟨1,o,(m.c'.eg s').1,x',y',z',eU,p'⟩=eJ.bare ⟨1,o,(m.c.eg s).1,x,y,z,eU,p⟩
 unfold eJ.bare
 rw[show _=_ from h2,show _=_ from hx,show _=_ from hy,show _=_ from hz]
theorem c7.iw{x y z x' y' z':Px}{p p':Int}(hx:c7.xr x x')(hy:c7.xr y y')(hz:c7.xr z z'):m.Fs c7.dr (m.c.iw x y p z) (m.c'.iw x' y' p' z'):=fun s s' h hg=>by
 have h0:=c7.back hm (Up.iw s) (fun f h=>Kp.iw _ _ _ _ _ h) hg
 unfold PC.iw at hg ⊢
 rw[c7.any hm h h0 (by kernel_rfl)]
 split
 ·refine⟨c7.c5 hm h h0.1, ?_⟩
  show eJ.bare ⟨1,2,⟨#[]⟩,x',y',z',eU,p'⟩=eJ.bare ⟨1,2,⟨#[]⟩,x,y,z,eU,p⟩
  unfold eJ.bare
  rw[show _=_ from hx,show _=_ from hy,show _=_ from hz]
 ·rename_i hc;rw[if_neg hc] at hg;exact c7.jK hm hd hv hx hy hz _ _ h.inc hg
theorem c7.ij{x y x' y':Px}{p p':Int}(hx:c7.xr x x')(hy:c7.xr y y'):m.Fs c7.dr (m.c.ij x y p) (m.c'.ij x' y' p'):=fun s s' h hg=>by
 have h0:=c7.back hm (Up.ij s) (fun f h=>Kp.ij _ _ _ _ h) hg
 unfold PC.ij at hg ⊢
 rw[c7.any hm h h0 (by kernel_rfl)]
 split
 ·refine⟨c7.c5 hm h h0.1, ?_⟩
  show eJ.bare ⟨1,0,⟨#[]⟩,x',y',eU,eU,p'⟩=eJ.bare ⟨1,0,⟨#[]⟩,x,y,eU,eU,p⟩
  unfold eJ.bare
  rw[show _=_ from hx,show _=_ from hy]
 ·rename_i hc
  rw[if_neg hc] at hg
  split
  ·rename_i hc2
   rw[if_pos hc2] at hg
   have g1:=c7.back hm (Up.iw _) (fun f h=>Kp.iw _ _ _ _ _ h) hg
   obtain⟨h1,h2⟩:=c7.dW hm hd hv _ _ h.inc g1
   exact c7.iw hm hd hv hx hy h2 _ _ h1 hg
  ·rename_i hc2
   rw[if_neg hc2] at hg
   exact c7.jK hm hd hv hx hy rfl _ _ h.inc hg
theorem c7.fZ:m.Fs c7.dr m.c.fZ m.c'.fZ:=fun s s' h hg=>by
 unfold PC.fZ PC.tC at hg ⊢
 have g4:=c7.back hm (Up.ij _) (fun f h=>Kp.ij _ _ _ _ h) hg
 have g3:=c7.back hm (Up.dW _) (fun f h=>Kp.dW _ h) g4
 have g2:=c7.back hm (Up.take _) (fun f h=>h.take _) g3
 have g1:=c7.back hm (Up.dW _) (fun f h=>Kp.dW _ h) g2
 obtain⟨k1,e1⟩:=c7.dW hm hd hv _ _ (c7.take hm h _ g1) g2
 obtain⟨k2,e2⟩:=c7.dW hm hd hv _ _ (c7.take hm k1 _ g3) g4
 exact c7.ij hm hd hv e1 e2 _ _ k2 hg
theorem c7.ny{k:Int}{nm:ByteArray}{p p':Int}:m.Fs c7.dr (m.c.ny k nm p) (m.c'.ny k nm p'):=fun s s' h hg=>by
 unfold PC.ny at hg ⊢
 split
 ·rename_i hc
  rw[if_pos hc] at hg
  unfold PC.A8 at hg ⊢
  have g4:m.Gd (m.c.dW (m.c.take (⟨#[97,116]⟩:ByteArray) (m.c.dW (m.c.take (⟨#[116,111]⟩:ByteArray) s).2).2).2).2:=hg
  have g3:=c7.back hm (Up.dW _) (fun f h=>Kp.dW _ h) g4
  have g2:=c7.back hm (Up.take _) (fun f h=>h.take _) g3
  have g1:=c7.back hm (Up.dW _) (fun f h=>Kp.dW _ h) g2
  obtain⟨k1,e1⟩:=c7.dW hm hd hv _ _ (c7.take hm h _ g1) g2
  obtain⟨k2,e2⟩:=c7.dW hm hd hv _ _ (c7.take hm k1 _ g3) g4
  refine⟨k2, ?_⟩
  unfold c7.dr eJ.bare
  show eJ.mk _ _ _ _ _ _ _ _=eJ.mk _ _ _ _ _ _ _ _
  rw[show _=_ from e1,show _=_ from e2]
 ·rename_i hc
  rw[if_neg hc] at hg
  split
  ·rename_i hc2
   rw[if_pos hc2] at hg
   unfold PC.Em at hg ⊢
   have g4:m.Gd (m.c.dW (m.c.take (⟨#[61]⟩:ByteArray) s).2).2:=hg
   have g3:=c7.back hm (Up.dW _) (fun f h=>Kp.dW _ h) g4
   obtain⟨k1,e1⟩:=c7.dW hm hd hv _ _ (c7.take hm h _ g3) g4
   refine⟨k1, ?_⟩
   unfold c7.dr eJ.bare
   show eJ.mk _ _ _ _ _ _ _ _=eJ.mk _ _ _ _ _ _ _ _
   rw[show _=_ from e1]
  ·exact⟨h,rfl⟩
theorem c7.do:m.Fs c7.dr m.c.do m.c'.do:=fun s s' h hg=>by
 have h0:=c7.back hm (Up.do s) (fun f h=>Kp.do _ h) hg
 unfold PC.do at hg ⊢
 rw[c7.any hm h h0 (by kernel_rfl)]
 split
 ·exact⟨c7.c5 hm h h0.1,rfl⟩
 ·rename_i hc
  rw[if_neg hc] at hg
  split
  ·rename_i hc2;rw[if_pos hc2] at hg;exact c7.fZ hm hd hv _ _ h hg
  ·rename_i hc2
   rw[if_neg hc2] at hg
   split
   ·rename_i hc3;rw[if_pos hc3] at hg;exact c7.ny hm hd hv _ _ h.inc hg
   ·rename_i hc3
    rw[if_neg hc3] at hg
    have g1:=c7.back hm (Up.ny _) (fun f h=>Kp.ny _ _ _ _ h) hg
    obtain⟨n1,n2⟩:=c7.name hm h.inc g1
    rw[n2]
    exact c7.ny hm hd hv _ _ n1 hg
theorem c7.many{s s':PS}(h:m.Rs s s')(hs:s.next≤m.K)(n k:Nat):m.Rs (m.c.many n k s) (m.c'.many n k s'):=by
 unfold PC.many
 split
 ·exact c7.c5 hm h hs
 ·exact h
theorem c7.fc:∀(k:Nat) (l l':List eJ),c7.dl l l'→m.Fs c7.dl (m.c.fc k l) (m.c'.fc k l')
 | 0,l,l',hl=>fun s s' h hg=>⟨h,hl⟩
 | k+1,l,l',hl=>fun s s' h hg=>by
   have hln:l'.length=l.length:=by have:=congrArg List.length (show _=_ from hl);rwa [List.length_map,List.length_map] at this
   rw[PC.fc] at hg ⊢
   rw[PC.fc,hln]
   have g1:m.Gd (m.c.do s).2:=by
    refine c7.gd hm hd hv ?_
    have h1:=hg.1
    split at h1
    ·split at h1
     ·have h1:(m.c.many (l.length+1) 8 (m.c.do s).2).next≤m.K:=h1
      rw[ko] at h1;exact h1
     ·have:=(Up.fc (c:=m.c) k (l++[(m.c.do s).1]) (m.c.many (l.length+1) 8 (m.c.do s).2).inc).1
      rw[fB,ko] at this;omega
    ·exact h1
   obtain⟨k1,e1⟩:=c7.do hm hd hv _ _ h g1
   have hl2:c7.dl (l++[(m.c.do s).1]) (l'++[(m.c'.do s').1]):=by
    unfold c7.dl;rw[List.map_append,List.map_append,List.map_singleton,List.map_singleton,show _=_ from hl,show _=_ from e1]
   rw[c7.ej hm k1 g1 (.inr hv)]
   have hmr:=c7.many hm hd hv k1 g1.1 (l.length+1) 8
   rw[hmr.over]
   split
   ·rename_i hc
    rw[if_pos hc] at hg
    split
    ·exact⟨hmr,hl2⟩
    ·rename_i hc2
     rw[if_neg hc2] at hg
     exact c7.fc k _ _ hl2 _ _ hmr.inc hg
   ·exact⟨k1,hl2⟩
theorem c7.fS:m.Fs c7.ur m.c.fS m.c'.fS:=fun s s' h hg=>by
 unfold PC.fS PC.kK at hg ⊢
 have g5:m.Gd (m.c.take (⟨#[59]⟩:ByteArray) (m.c.fc 8 [] (m.c.take (⟨#[100,111]⟩:ByteArray) (m.c.dW (m.c.take (⟨#[119,104,101,110]⟩:ByteArray) s).2).2).2).2).2:=hg
 have g4:=c7.back hm (Up.take _) (fun f h=>h.take _) g5
 have g3:=c7.back hm (Up.fc 8 [] _) (fun f h=>Kp.fc _ _ _ h) g4
 have g2:=c7.back hm (Up.take _) (fun f h=>h.take _) g3
 have g1:=c7.back hm (Up.dW _) (fun f h=>Kp.dW _ h) g2
 obtain⟨k1,e1⟩:=c7.dW hm hd hv _ _ (c7.take hm h _ g1) g2
 obtain⟨k2,e2⟩:=c7.fc hm hd hv 8 [] [] rfl _ _ (c7.take hm k1 _ g3) g4
 refine⟨c7.take hm k2 _ g5, ?_⟩
 unfold c7.ur dz.bare
 show dz.mk _ _ _=dz.mk _ _ _
 rw[show _=_ from e1,show _=_ from e2]
theorem c7.dZ{α:Type}{bare:α→α}{w:ByteArray}{most:Nat}{one one':PS→α×PS}(h0:dQ m.c one)(hf:m.Fs (fun x x'=>bare x'=bare x) one one') :
  ∀(k:Nat) (l l':List α),l'.map bare=l.map bare→m.Fs (fun x x'=>x'.map bare=x.map bare) (m.c.dZ w most one k l) (m.c'.dZ w most one' k l')
 | 0,l,l',hl=>fun s s' h hg=>by
   have hln:l'.length=l.length:=by have:=congrArg List.length hl;rwa [List.length_map,List.length_map] at this
   have h1:m.Gd s:=by
    refine c7.gd hm hd hv ?_
    have h1:=hg.1
    rw[PC.dZ] at h1
    have h1:(if m.c.ej w s then m.c.many l.length most s else s).next≤m.K:=h1
    split at h1
    ·rw[ko] at h1;exact h1
    ·exact h1
   rw[PC.dZ,PC.dZ,c7.ej hm h h1 (.inr hv),hln]
   refine⟨?_,hl⟩
   show m.Rs (if _ then _ else _) (if _ then _ else _)
   split
   ·exact c7.many hm hd hv h h1.1 _ _
   ·exact h
 | k+1,l,l',hl=>fun s s' h hg=>by
   have hln:l'.length=l.length:=by have:=congrArg List.length hl;rwa [List.length_map,List.length_map] at this
   have h1:m.Gd s:=c7.gd hm hd hv (Nat.le_trans (Up.dZ (w:=w) (most:=most) h0 (k+1) l s).1 hg.1)
   rw[PC.dZ] at hg ⊢
   rw[PC.dZ,c7.ej hm h h1 (.inr hv),hln]
   have hmr:=c7.many hm hd hv h h1.1 l.length most
   rw[hmr.over]
   split
   ·rename_i hc
    rw[if_pos hc] at hg
    split
    ·exact⟨hmr,hl⟩
    ·rename_i hc2
     rw[if_neg hc2] at hg
     have g1:m.Gd (one (m.c.many l.length most s)).2:=c7.gd hm hd hv (Nat.le_trans (Up.dZ (w:=w) (most:=most) h0 k _ _).1 hg.1)
     obtain⟨k1,e1⟩:=hf _ _ hmr g1
     exact c7.dZ h0 hf k _ _ (by rw[List.map_append,List.map_append,List.map_singleton,List.map_singleton,hl,e1]) _ _ k1 hg
   ·exact⟨h,hl⟩
theorem c7.list{α:Type}{bare:α→α}{w:ByteArray}{most:Nat}{one one':PS→α×PS}(h0:dQ m.c one)(hf:m.Fs (fun x x'=>bare x'=bare x) one one'):m.Fs (fun x x'=>x'.map bare=x.map bare) (m.c.list w most one) (m.c'.list w most one') :=
 c7.dZ hm hd hv h0 hf most [] [] rfl
theorem c7.state:m.Fs c7.tr m.c.state m.c'.state:=fun s s' h hg=>by
 unfold PC.state PC.ly at hg ⊢
 have g5:m.Gd (m.c.take (⟨#[125]⟩:ByteArray) (m.c.list (⟨#[119,104,101,110]⟩:ByteArray) 12 m.c.fS (m.c.take (⟨#[123]⟩:ByteArray) (m.c.name (m.c.take (⟨#[115,116,97,116,101]⟩:ByteArray) s).2).2).2).2).2:=hg
 have g4:=c7.back hm (Up.take _) (fun f h=>h.take _) g5
 have g3:=c7.back hm (Up.list Up.fS _) (fun f h=>Kp.list _ _ _ _ h) g4
 have g2:=c7.back hm (Up.take _) (fun f h=>h.take _) g3
 have g1:=c7.back hm Up.name (fun f h=>h.name) g2
 obtain⟨n1,n2⟩:=c7.name hm (c7.take hm h _ g1) g2
 obtain⟨k2,e2⟩:=c7.list hm hd hv (w:=(⟨#[119,104,101,110]⟩:ByteArray)) (most:=12) (bare:=dz.bare) Up.fS (c7.fS hm hd hv) _ _ (c7.take hm n1 _ g3) g4
 refine⟨c7.take hm k2 _ g5, ?_⟩
 unfold c7.tr dm.bare
 show dm.mk _ _ _=dm.mk _ _ _
 rw[n2,e2]
theorem c7.slot:m.Fs c7.sr m.c.slot m.c'.slot:=fun s s' h hg=>by
 unfold PC.slot at hg ⊢
 have g3:m.Gd (m.c.take (⟨#[59]⟩:ByteArray) (m.c.name (m.c.take (⟨#[115,108,111,116]⟩:ByteArray) s).2).2).2:=hg
 have g2:=c7.back hm (Up.take _) (fun f h=>h.take _) g3
 have g1:=c7.back hm Up.name (fun f h=>h.name) g2
 obtain⟨n1,n2⟩:=c7.name hm (c7.take hm h _ g1) g2
 refine⟨c7.take hm n1 _ g3, ?_⟩
 unfold c7.sr di.bare
 show di.mk _ _=di.mk _ _
 rw[n2]
theorem c7.end{s s':PS}(h:m.Rs s s')(hg:s.next≤m.K):m.Rs (m.c.end s) (m.c'.end s'):=by
 have hl:=hm.len _ hg
 unfold PC.end
 rw[h.over]
 split
 ·exact h
 ·have he:(m.c'.l.length≤s'.next∨(m.c'.tok s'.next).kind≠0)↔(m.c.l.length≤s.next∨(m.c.tok s.next).kind≠0):=by
   rw[h.1]
   by_cases hc:s.next<m.c.l.length
   ·have hk:(m.c'.tok (s.next+m.o)).kind=(m.c.tok s.next).kind:=by
     rcases (hm.tok _ hg hc).1 with ⟨h1,_⟩ | ⟨h1,_⟩
     ·exact h1
     ·rw[hv] at h1;cases h1
    rw[hk]
    constructor
    ·rintro (h1 | h1)
     ·omega
     ·exact .inr h1
    ·rintro (h1 | h1)
     ·omega
     ·exact .inr h1
   ·exact⟨fun _=>.inl (by omega),fun _=>.inl (by omega)⟩
  by_cases hc:m.c.l.length≤s.next∨(m.c.tok s.next).kind≠0
  ·rw[if_pos hc,if_pos (he.2 hc)];exact c7.c5 hm h hg
  ·rw[if_neg hc,if_neg fun h=>hc (he.1 h)];exact h
theorem c7.whole:m.Fs c7.gg m.c.whole m.c'.whole:=fun s s' h hg=>by
 unfold PC.whole PC.qD PC.qC PC.qB at hg ⊢
 have g8:=c7.back hm (Up.lz _) (fun f h=>Kp.lz _ _ _ _ _ h) hg
 have g7:=c7.back hm (Up.list Up.state _) (fun f h=>Kp.list _ _ _ _ h) g8
 have g6:=c7.back hm (Up.list Up.slot _) (fun f h=>Kp.list _ _ _ _ h) g7
 have g5:=c7.back hm (Up.list Up.lx _) (fun f h=>Kp.list _ _ _ _ h) g6
 have g4:=c7.back hm (Up.take _) (fun f h=>h.take _) g5
 have g3:=c7.back hm Up.name (fun f h=>h.name) g4
 obtain⟨n1,n2⟩:=c7.name hm (c7.take hm h _ g3) g4
 obtain⟨k1,e1⟩:=c7.list hm hd hv (w:=(⟨#[114,101,103]⟩:ByteArray)) (most:=12) (bare:=dL.bare) Up.lx (c7.lx hm hd hv) _ _ (c7.take hm n1 _ g5) g6
 obtain⟨k2,e2⟩:=c7.list hm hd hv (w:=(⟨#[115,108,111,116]⟩:ByteArray)) (most:=4) (bare:=di.bare) Up.slot (c7.slot hm hd hv) _ _ k1 g7
 obtain⟨k3,e3⟩:=c7.list hm hd hv (w:=(⟨#[115,116,97,116,101]⟩:ByteArray)) (most:=12) (bare:=dm.bare) Up.state (c7.state hm hd hv) _ _ k2 g8
 generalize (m.c.list (⟨#[115,116,97,116,101]⟩:ByteArray) 12 m.c.state _)=T at *
 generalize (m.c'.list (⟨#[115,116,97,116,101]⟩:ByteArray) 12 m.c'.state _)=T' at *
 have hln:T'.1.length=T.1.length:=by have:=congrArg List.length e3;rwa [List.length_map,List.length_map] at this
 unfold PC.lz at hg ⊢
 rw[hln]
 have hg:m.Gd (m.c.end (m.c.take (⟨#[125]⟩:ByteArray) (if T.1.length=0 then m.c.c5 130 T.2 else T.2)).2):=hg
 have g9:m.Gd (m.c.take (⟨#[125]⟩:ByteArray) (if T.1.length=0 then m.c.c5 130 T.2 else T.2)).2:=c7.back hm Up.end (fun f h=>h.end) hg
 have k4:m.Rs (if T.1.length=0 then m.c.c5 130 T.2 else T.2) (if T.1.length=0 then m.c'.c5 130 T'.2 else T'.2):=by
  split
  ·exact c7.c5 hm k3 g8.1
  ·exact k3
 refine⟨c7.end hm hd hv (c7.take hm k4 _ g9) g9.1, ?_⟩
 unfold c7.gg dU.bare
 show dU.mk _ _ _ _=dU.mk _ _ _ _
 rw[n2,e1,e2,e3]
end
end Go.Lx
namespace Go.Lx
open Go.Vc
def Can(c:PC)(s:PS):Prop:=s.next<c.l.length∧s.over=false∧(c.tok s.next).kind≠0
inductive eh (c:PC):PS→PS→Prop
 | refl {s:PS}:eh c s s
 | step {s:PS}:Can c s→eh c s s.inc
 | c5 {s:PS} (e:Int):eh c s (c.c5 e s)
 | trans {a b d:PS}:eh c a b→eh c b d→eh c a d
theorem eh.inc{c:PC}{s:PS}(h:Can c s):eh c s s.inc:=.step h
theorem n9{c:PC}{s:PS}(h:(c.now s).kind≠0):Can c s:=by
 have h1:=oZ h
 have h2:=AE h
 refine⟨h1,h2, ?_⟩
 unfold PC.now at h
 rwa [h2,decide_eq_false (by omega),if_neg (by decide)] at h
theorem ld{c:PC}{s:PS}{w:ByteArray}(h:c.ej w s=true):Can c s:=by
 refine n9 fun hk=>?_
 unfold PC.ej at h
 rw[hk] at h
 simp at h
theorem jB{c:PC}{s:PS}{ws:List ByteArray}(h:0≤c.any ws s):Can c s:=by
 have:∀(ws:List ByteArray) (i:Int),0≤i→0≤c.gG s ws i→Can c s∨c.gG s ws i = -1:=by
  intro ws
  induction ws with
  | nil=>intro i _ h;rw[PC.gG] at h;exact absurd h (by decide)
  | cons w r ih =>
    intro i hi h
    rw[PC.gG] at h ⊢
    split at h
    ·rename_i hw;exact .inl (ld hw)
    ·rename_i hw;rw[if_neg hw];exact ih _ (by omega) h
 rcases this ws 0 (Int.le_refl 0) h with h1 | h1
 ·exact h1
 ·unfold PC.any at h;rw[h1] at h;exact absurd h (by decide)
theorem eh.cT{c:PC}{s:PS}(d:Int):eh c s (c.cT d s):=by
 unfold PC.cT;split
 ·exact .c5 _
 ·exact .refl
theorem eh.many{c:PC}{s:PS}(n m:Nat):eh c s (c.many n m s):=by
 unfold PC.many;split
 ·exact .c5 _
 ·exact .refl
theorem eh.end{c:PC}{s:PS}:eh c s (c.end s):=by
 unfold PC.end;split
 ·exact .refl
 ·split
  ·exact .c5 _
  ·exact .refl
def Mv(c:PC){α:Type}(f:PS→α×PS):Prop:=∀s,eh c s (f s).2
section
variable {c:PC} {s:PS}
theorem eh.take(w:ByteArray):eh c s (c.take w s).2:=by
 unfold PC.take;split
 ·rename_i h;exact .inc (ld h)
 ·exact .c5 _
theorem eh.name:eh c s (c.name s).2:=by
 unfold PC.name;split
 ·rename_i h;exact .inc (n9 (by rw[h];decide))
 ·exact .c5 _
theorem eh.literal:eh c s (c.literal s).2:=by
 unfold PC.literal
 split
 ·rename_i h;exact .inc (n9 (by rw[h];decide))
 ·split
  ·rename_i h;exact .inc (n9 (by rw[h.1];decide))
  ·split
   ·rename_i h;exact .inc (n9 (by rw[h.1];decide))
   ·exact .refl
end
section
variable {c:PC} {nx:Lv} (hx:Mv c nx.ex) (hu:Mv c nx.un)
include hx
theorem eh.kids:∀(n:Nat) (f:Bool) (s:PS),eh c s (c.dF nx n f s).2
 | 0,f,s=>.refl
 | n+1,f,s=>by
   rw[PC.dF]
   refine eh.trans ?_ (eh.kids n false _)
   refine eh.trans ?_ (hx _)
   split
   ·exact .refl
   ·exact .take _
theorem eh.call{d kind oper dH pos:Int}{many:Nat}{s:PS}(hl:Can c s):eh c s (c.call nx d kind oper dH pos many s).2:=by
 unfold PC.call
 split
 ·exact .cT _
 ·rename_i h
  obtain⟨_,he⟩:=fw hl.1 (by simpa using h)
  rw[he]
  exact ((eh.inc hl).trans (.take _)).trans ((eh.kids hx _ _ _).trans (.take _))
theorem eh.rest(d:Int):Mv c (c.rest nx d):=fun s=>by
 unfold PC.rest
 split
 ·rename_i h
  have hl:=ld h
  split
  ·exact (eh.inc hl).trans (.c5 _)
  ·rename_i h2
   exact (eh.inc hl).trans (.inc (jB (Int.not_lt.1 h2)))
 ·split
  ·rename_i h
   have hl:=ld h
   split
   ·exact .cT _
   ·rename_i h2
    obtain⟨_,he⟩:=fw hl.1 (by simpa using h2)
    rw[he]
    exact (eh.inc hl).trans ((hx _).trans (.take _))
  ·exact .c5 _
theorem eh.one(d:Int):Mv c (c.one nx d):=fun s=>by
 unfold PC.one
 split
 ·exact .literal
 ·split
  ·rename_i h;exact .inc (n9 (by rw[h];decide))
  ·split
   ·rename_i h;exact .inc (jB h)
   ·split
    ·rename_i h;exact .call hx (jB h)
    ·split
     ·rename_i h;exact .call hx (jB h)
     ·exact eh.rest hx d s
include hu
theorem eh.unary(d:Int):Mv c (c.unary nx d):=fun s=>by
 unfold PC.unary
 split
 ·exact eh.one hx d s
 ·rename_i h
  have hl:=jB (c:=c) (s:=s) (ws:=k9) (by omega)
  split
  ·exact .cT _
  ·rename_i h2
   obtain⟨_,he⟩:=fw hl.1 (by simpa using h2)
   rw[he]
   exact (eh.inc hl).trans (hu _)
end
theorem eh.dN{c:PC}{ws:List ByteArray}{o:Int}{sub:PS→Px×PS}(h:Mv c sub):∀(m:Nat) (n:Px) (s:PS),eh c s (c.dN ws o sub m n s).2
 | 0,n,s=>.refl
 | m+1,n,s=>by
   rw[PC.dN]
   split
   ·exact .refl
   ·rename_i h2
    exact ((eh.inc (jB (Int.not_lt.1 h2))).trans (h _)).trans (eh.dN h m _ _)
theorem eh.loop{c:PC}{ws:List ByteArray}{o:Int}{sub:PS→Px×PS}(h:Mv c sub):Mv c (c.loop ws o sub):=fun s=>(h s).trans (.dN h _ _ _)
section
variable {c:PC} {nx:Lv} (hx:Mv c nx.ex) (hu:Mv c nx.un) (d:Int)
include hx hu
theorem eh.product:Mv c (c.product nx d):=eh.loop (eh.unary hx hu d)
theorem eh.sum:Mv c (c.sum nx d):=eh.loop (eh.product hx hu d)
theorem eh.compare:Mv c (c.compare nx d):=fun s=>by
 unfold PC.compare
 have h1:=eh.sum hx hu d s
 show eh c s (if c.any jd (c.sum nx d s).2<0 then c.sum nx d s else _).2
 split
 ·exact h1
 ·rename_i h2
  exact (h1.trans (.inc (jB (Int.not_lt.1 h2)))).trans (eh.sum hx hu d _)
theorem eh.and:Mv c (c.and nx d):=eh.loop (eh.compare hx hu d)
theorem eh.or:Mv c (c.or nx d):=eh.loop (eh.and hx hu d)
theorem eh.expr:Mv c (c.expr nx d):=fun s=>by
 unfold PC.expr
 have h1:=eh.or hx hu d s
 show eh c s (if c.ej _ (c.or nx d s).2 then _ else _:Px×PS).2
 split
 ·rename_i h2
  have hl:=ld h2
  show eh c s (if (c.cT d (c.or nx d s).2).over then _ else _:Px×PS).2
  split
  ·exact h1.trans (.cT _)
  ·rename_i h3
   obtain⟨_,he⟩:=fw hl.1 (by simpa using h3)
   rw[he]
   exact h1.trans ((eh.inc hl).trans ((hx _).trans ((eh.take _).trans (hx _))))
 ·exact h1
end
theorem eh.lvl{c:PC}:∀(k:Nat) (d:Int),Mv c (c.lvl k d).ex∧Mv c (c.lvl k d).un
 | 0,d=>⟨eh.expr (fun s=>.refl) (fun s=>.refl) d,eh.unary (fun s=>.refl) (fun s=>.refl) d⟩
 | k+1,d=>⟨eh.expr (eh.lvl k (d+1)).1 (eh.lvl k (d+1)).2 d,eh.unary (eh.lvl k (d+1)).1 (eh.lvl k (d+1)).2 d⟩
theorem eh.dW{c:PC}:Mv c c.dW:=(eh.lvl 24 0).1
section
variable {c:PC}
theorem eh.eg:Mv c c.eg:=fun s=>by
 unfold PC.eg
 split
 ·rename_i h;exact (eh.inc (ld h)).trans .name
 ·exact .refl
theorem eh.jK{x y z:Px}{pos o:Int}:Mv c (c.jK x y pos z o):=fun s=>eh.eg s
theorem eh.iw{x y z:Px}{pos:Int}:Mv c (c.iw x y pos z):=fun s=>by
 unfold PC.iw
 split
 ·exact .c5 _
 ·rename_i ha
  exact (eh.inc (jB (Int.not_lt.1 ha))).trans (eh.jK _)
theorem eh.ij{x y:Px}{pos:Int}:Mv c (c.ij x y pos):=fun s=>by
 unfold PC.ij
 split
 ·exact .c5 _
 ·rename_i ha
  have h1:=eh.inc (c:=c) (jB (Int.not_lt.1 ha))
  split
  ·exact h1.trans ((eh.dW _).trans (eh.iw _))
  ·exact h1.trans (eh.jK _)
theorem eh.fZ:Mv c c.fZ:=fun s=>(eh.take _).trans ((eh.dW _).trans ((eh.take _).trans ((eh.dW _).trans (eh.ij _))))
theorem eh.ny{k:Int}{nm:ByteArray}{pos:Int}:Mv c (c.ny k nm pos):=fun s=>by
 unfold PC.ny
 split
 ·exact (eh.take _).trans ((eh.dW _).trans ((eh.take _).trans (eh.dW _)))
 ·split
  ·exact (eh.take _).trans (eh.dW _)
  ·exact .refl
theorem eh.do:Mv c c.do:=fun s=>by
 unfold PC.do
 split
 ·exact .c5 _
 ·rename_i ha
  have h1:=eh.inc (c:=c) (jB (Int.not_lt.1 ha))
  split
  ·exact eh.fZ s
  ·split
   ·exact h1.trans (eh.ny _)
   ·exact h1.trans (eh.name.trans (eh.ny _))
end
section
variable {c:PC}
theorem eh.fc:∀(m:Nat) (l:List eJ),Mv c (c.fc m l)
 | 0,l=>fun s=>.refl
 | m+1,l=>fun s=>by
   rw[PC.fc]
   have h1:=eh.do (c:=c) s
   split
   ·rename_i hw
    have hlt:=ld hw
    split
    ·exact h1.trans (.many _ _)
    ·rename_i hm
     obtain⟨_,he⟩:=pY hlt.1 (by simpa using hm)
     rw[he]
     exact h1.trans ((eh.inc hlt).trans (eh.fc m _ _))
   ·exact h1
theorem eh.fS:Mv c c.fS:=fun s=>(eh.take _).trans ((eh.dW _).trans ((eh.take _).trans ((eh.fc 8 [] _).trans (eh.take _))))
theorem eh.dZ{α:Type}{w:ByteArray}{most:Nat}{one:PS→α×PS}(h:Mv c one):∀(m:Nat) (l:List α),Mv c (c.dZ w most one m l)
 | 0,l=>fun s=>by
   rw[PC.dZ]
   show eh c s (if c.ej w s then c.many l.length most s else s)
   split
   ·exact .many _ _
   ·exact .refl
 | m+1,l=>fun s=>by
   rw[PC.dZ]
   split
   ·rename_i hw
    have hlt:=ld hw
    split
    ·exact .many _ _
    ·rename_i hm
     obtain⟨_,he⟩:=pY hlt.1 (by simpa using hm)
     rw[he]
     exact (h s).trans (eh.dZ h m _ _)
   ·exact .refl
theorem eh.list{α:Type}{w:ByteArray}{most:Nat}{one:PS→α×PS}(h:Mv c one):Mv c (c.list w most one):=eh.dZ h most []
end
section
end
end Go.Lx
