import Derived.Test.YtdhcodphiofhjaaGreatDoorParseSoundB2
set_option linter.unusedVariables false
set_option linter.unusedSimpArgs false
set_option linter.unusedSectionVars false
set_option maxRecDepth 100000
namespace Go.Lx
open Go.Vc
theorem xX{s:ByteArray}(hs:dV s){i:Int}(h0:0≤i)(h1:i≤s.size)(I:cS)(F:cR) :
  cV P 134 #[.string s,.int .i64 i] I F (jg (.int .i64 (da s i)) F):=by
 have hs':=hs
 unfold dV at hs'
 refine pB.vc (fun j m I' F'=>0≤j∧j≤s.size∧m=(s.size-j).toNat∧da s j=da s i∧F'=F) ?_
 unfold pB.V
 refine⟨⟨_,h0,h1,rfl,rfl,rfl⟩,fun j m I1 F1 hI ⟨g0,g1,gm,gr,gF⟩=>⟨fun hlt=>?_,fun hlt=>?_⟩⟩
 ·have hlt:j<(s.size:Int):=by simpa using hlt
  subst gF
  have fo:blank (bt s j)=true→∃m':Nat,m'<m∧0≤IntKind.wrap .i64 (j+1)∧IntKind.wrap .i64 (j+1)≤s.size∧m'=(s.size-IntKind.wrap .i64 (j+1)).toNat ∧
    da s (IntKind.wrap .i64 (j+1))=da s i∧F1=F1:=by
   intro hb
   rw[gN (by omega)]
   exact⟨_,by omega,by omega,by omega,rfl,by rw[←gr,uM hlt hb],rfl⟩
  refine⟨⟨g0,hlt⟩,fun h=>fo ?_,fun h32=>⟨fun h=>fo ?_,fun h9=>⟨fun h=>fo ?_,fun h10=>⟨fun h=>fo ?_,fun h13=>⟨fun h=>?_,fun h35=>?_⟩⟩⟩⟩⟩
  ·simp[blank,h]
  ·simp[blank,h]
  ·simp[blank,h]
  ·simp[blank,h]
  ·have h35:bt s j=35:=by simpa using h
   refine cV.ret (sy hs g0 g1 zR Ba I1 F1) fun I2 h2=>⟨_,rfl,F1,.refl _, ?_⟩
   have hr:=dw (p:=qa) hlt
   rw[show qa (bt s j)=true by simp[qa,h35],if_pos rfl] at hr
   have:=dU (p:=qa) (s:=s) (i:=j+1) (by omega)
   exact⟨_,by omega,by omega,by omega,rfl,by rw[←gr,tx hlt h35],rfl⟩
  ·refine⟨?_,rfl⟩
   have:da s j=j:=ma hlt (by simp only[blank,h32,h9,h10,h13];rfl) (by simpa using h35)
   rw[this] at gr
   rw[gr]
 ·have hlt:¬j<(s.size:Int):=by simpa using hlt
  refine⟨?_,gF⟩
  have:da s j=j:=gz (by omega)
  rw[this] at gr
  rw[gr]
theorem zS{s:ByteArray}(hs:dV s){i:Int}(h0:0≤i)(h1:i<s.size)(I:cS)(F:cR):cV P 141 #[.string s,.int .i64 i] I F (jg (.int .i64 (dP s i)) F):=by
 unfold dV at hs
 refine pC.vc ?_
 unfold pC.V
 rw[gN (by omega)]
 refine⟨fun hn=>⟨⟨by omega,by simpa using hn⟩,⟨h0,h1⟩, ?_⟩,fun hn=>⟨⟨h0,h1⟩, ?_⟩⟩
 ·have hd:cW s (i+1)=bt s (i+1):=by unfold cW;rw[if_pos (by simpa using hn)]
  have e:dP s i=if single (bt s i) then 1 else if bt s i=38∨bt s i=124 then (if bt s (i+1)=bt s i then 2 else 0) else
   if bt s i=61∨bt s i=33∨bt s i=60∨bt s i=62 then (if bt s (i+1)=61 then 2 else 1) else 0:=by unfold dP;rw[hd]
  rw[e]
  generalize bt s i=c
  generalize bt s (i+1)=d
  clear e hd hn
  repeat' (first | (with_reducible apply And.intro) | (with_reducible intro h))
  all_goals (refine⟨?_,rfl⟩;simp_all [single])
 ·have hd:cW s (i+1)=0:=by unfold cW;rw[if_neg (by simpa using hn)]
  have e:dP s i=if single (bt s i) then 1 else if bt s i=38∨bt s i=124 then (if 0=bt s i then 2 else 0) else
   if bt s i=61∨bt s i=33∨bt s i=60∨bt s i=62 then 1 else 0:=by unfold dP;rw[hd];simp
  rw[e]
  generalize bt s i=c
  clear e hd hn
  repeat' (first | (with_reducible apply And.intro) | (with_reducible intro h))
  all_goals (refine⟨?_,rfl⟩;simp_all [single])
theorem iH(s:ByteArray)(i:Int):0≤dP s i∧dP s i≤2:=by
 unfold dP;simp only;repeat' split
 all_goals decide
theorem lz{s:ByteArray}{i:Int}(h:i<(s.size:Int)):i+dP s i≤s.size:=by
 have hb:cW s (i+1)≠0→i+1<(s.size:Int):=fun hne=>by
  unfold cW at hne;split at hne
  ·assumption
  ·exact absurd rfl hne
 unfold dP;simp only
 split
 ·omega
 ·split
  ·rename_i hc;split
   ·rename_i hd;have:=hb (by omega);omega
   ·omega
  ·split
   ·split
    ·rename_i hd;have:=hb (by omega);omega
    ·omega
   ·omega
def Ch(c:Int):List Value:=[.int .u8 c]
def bytesOf(s:ByteArray):List Int:=s.data.toList.map fun b=>(b.toNat:Int)
theorem wJ{s:ByteArray}{k:Nat}(h:k<s.size):(bytesOf s)[k]? = some (bt s k):=by
 have h':k<s.data.size:=h
 have h2:s[k]? = some s[k]:=by simp[h]
 have h3:s.data.toList[k]? = some s[k]:=by
  have:s.data.toList[k]? = some s.data[k]:=by simp[h']
  rw[this];rfl
 unfold bytesOf bt
 rw[List.getElem?_map,Int.toNat_natCast,h2,h3]
 rfl
theorem eD{s:ByteArray}{i j:Int}(h0:0≤i)(h1:i≤j)(h2:j≤s.size):((cut s i j).size:Int)=j-i:=by
 unfold cut;rw[ByteArray.size_extract];omega
theorem ld{s:ByteArray}{i j k:Int}(h0:0≤i)(hk:0≤k)(h1:i+k<j)(h2:j≤s.size):bt (cut s i j) k=bt s (i+k):=by
 have hsz:=eD (s:=s) (i:=i) (j:=j) h0 (by omega) h2
 unfold bt
 have e1:(cut s i j)[k.toNat]? = s[(i+k).toNat]?:=by
  have hk':k.toNat<(s.extract i.toNat j.toNat).size:=by unfold cut at hsz;omega
  have hi':(i+k).toNat<s.size:=by omega
  have a1:(s.extract i.toNat j.toNat)[k.toNat]? = some (s.extract i.toNat j.toNat)[k.toNat]:=by simp[hk']
  have a2:s[(i+k).toNat]? = some s[(i+k).toNat]:=by simp[hi']
  show (s.extract i.toNat j.toNat)[k.toNat]? = _
  rw[a1,a2,ByteArray.getElem_extract]
  congr 2
  omega
 rw[e1]
theorem zT(t:ByteArray)(I:cS)(F:cR):fh P (Go.convert 9 79 (.string t)) I F fun v I' G =>
  ∃(b c:Nat),v=.slice (some ⟨b,0,none⟩) t.size c∧Sl I' 1 Ch (some ⟨b,0,none⟩) t.size (bytesOf t)∧G=F:=by
 intro w hw
 have hrun:=Lib.run_convert_string_bytes (P:=P) w 9 79 5 t (u:=.string) (by kernel_rfl) (by kernel_rfl) (by kernel_rfl)
 have hheap:(Lib.bytesWorld w 5 t).heap=w.heap.push (.cells (Lib.bytesCells w 5 t) 5 ((Lib.bytesCells w 5 t).size,(Lib.bytesCells w 5 t).size+1)):=by
  apply Array.ext_getElem?
  intro j
  rw[Array.getElem?_push]
  rcases Nat.lt_trichotomy j w.heap.size with h | h | h
  ·rw[if_neg (by omega),Lib.bytesWorld_at_old w 5 t j h]
  ·subst h;rw[if_pos rfl,Lib.bytesWorld_at_new]
  ·rw[if_neg (by omega),Array.getElem?_eq_none (by rw[Lib.bytesWorld_size];omega),Array.getElem?_eq_none (by omega)]
 obtain⟨hle,hsat⟩:=((hw.alloc (.cells (Lib.bytesCells w 5 t) 5 ((Lib.bytesCells w 5 t).size,(Lib.bytesCells w 5 t).size+1))).kF)
 refine⟨_,_,_,F,hrun,hle,hsat.of_heap hheap ⟨rfl,rfl⟩,w.heap.size,_,rfl, ?_,rfl⟩
 have hl:t.size=(bytesOf t).length:=by unfold bytesOf;simp
 rw[hl]
 refine Sl.pj (z:=1) (f:=Ch) (fun _=>rfl) (cS.o0 _ _ _) fun k hk=>?_
 have hfl:(bytesOf t).flatMap Ch=(bytesOf t).map fun c=>Value.int .u8 c:=by
  induction bytesOf t with
  | nil=>rfl
  | cons x l ih=>simp[Ch,ih]
 rw[hfl] at hk ⊢
 have hk':k<t.data.size:=by simpa[bytesOf] using hk
 have hk2:k<t.size:=hk'
 simp[Lib.bytesCells,Array.getElem?_append,hk',hk2,bytesOf,Function.comp_def]
theorem tdiv_le{a d:Int}(hd:0≤d)(ha:d≤9):IntKind.wrap .i64 (Int.tdiv (IntKind.wrap .i64 (9223372036854775807-d)) 10)=(9223372036854775807-d) / 10:=by
 rw[gN (n:=9223372036854775807-d) (by omega),Int.tdiv_eq_ediv_of_nonneg (by omega),gN (by omega)]
theorem Bb{c:Int}(h:db c=true):IntKind.wrap .i64 (IntKind.wrap .u8 (c-48))=c-48∧48≤c∧c≤57:=by
 simp only[db,Bool.and_eq_true,decide_eq_true_eq] at h
 rw[w8 (by omega),gN (by omega)]
 exact⟨rfl,h⟩
theorem wK{p:Int→Bool}{s:ByteArray}{i k:Int}(h1:i≤k)(h2:k<dh p s i)(h3:i≤(s.size:Int)):p (bt s k)=true∧dh p s k=dh p s i:=by
 obtain⟨n,hn⟩:∃n:Nat,n=(k-i).toNat:=⟨_,rfl⟩
 have hle:=dU (p:=p) (s:=s) h3
 induction n generalizing i with
 | zero =>
   have:i=k:=by omega
   subst this
   rw[dw (by omega)] at h2
   split at h2
   ·rename_i hp;exact⟨hp,rfl⟩
   ·omega
 | succ n ih =>
   have hr:=dw (p:=p) (s:=s) (i:=i) (by omega)
   split at hr
   ·rw[hr] at h2 ⊢
    exact ih (by omega) h2 (by omega) (by omega) (dU (by omega))
   ·omega
def TR.v2:TR→Value
 | .ok t=>.tuple #[t.v,.int .i64 0]
 | .bad e p=>.tuple #[(iL 0).v,.int .i64 e]
def TR.Gh:TR→Value
 | .ok t=>.tuple #[t.v,.int .i64 0]
 | .bad e p=>.tuple #[(iL p).v,.int .i64 e]
theorem wL{s:ByteArray}(hs:dV s){i:Int}(h0:0≤i)(h1:i<s.size)(I:cS)(F:cR):cV P 136 #[.string s,.int .i64 i] I F (jg (js s i).v2 F):=by
 have hs':=hs
 unfold dV at hs'
 have hE:=dU (p:=db) (s:=s) (i:=i) (by omega)
 have hstop:=fe (p:=db) (s:=s) (i:=i) (by omega)
 have hcs:=eD (s:=s) h0 hE.1 hE.2
 generalize hEd:dh db s i=E at hE hstop hcs
 have hEnd:∀n,dS s E n=n:=fun n=>by
  rcases Int.lt_or_le E s.size with h | h
  ·rw[gM h,hstop h];rfl
  ·exact nJ h
 let e2:Int:=if dE (cW s E)=1 then E else E+1
 have hbad:(dS s i 0>9223372036854775807∨(E-i>1∧bt s i=48)∨(e2<s.size∧(c9 (bt s e2)=true∨(65≤bt s e2∧bt s e2≤90)))) →
   (js s i).v2=.tuple #[(iL 0).v,.int .i64 113]:=fun h=>by
  unfold js;simp only[hEd];rw[if_pos h];rfl
 have hok:¬(dS s i 0>9223372036854775807∨(E-i>1∧bt s i=48)∨(e2<s.size∧(c9 (bt s e2)=true∨(65≤bt s e2∧bt s e2≤90)))) →
   (js s i).v2=.tuple #[(⟨3,cut s i e2,dE (cW s E),dS s i 0,i⟩:Tok).v,.int .i64 0]:=fun h=>by
  unfold js;simp only[hEd];rw[if_neg h];rfl
 have he2r:e2≤s.size∧E≤e2∧e2≤E+1:=by
  show (if dE (cW s E)=1 then E else E+1)≤_∧_≤(if dE (cW s E)=1 then E else E+1)∧(if dE (cW s E)=1 then E else E+1)≤_
  split
  ·omega
  ·rename_i hne
   have:E<s.size:=by
    rcases Int.lt_or_le E s.size with h | h
    ·exact h
    ·rw[show cW s E=0 by unfold cW;rw[if_neg (by omega)]] at hne
     exact absurd rfl hne
   omega
 refine mm.vc (fun x k b0 b1 b2 b3 b4 t0 t1 t2 t3 t4 m I' F'=>0≤k∧k≤E-i∧m=(E-i-k).toNat∧t0=3∧t2=1∧0≤t3∧t3≤9223372036854775807∧t4=i∧dS s (i+k) t3=dS s i 0∧F'=F)
  (fun x b0 b1 b2 b3 b4 I' F'=>¬(E-i>1∧bt s i=48)∧F'=F) (fun c I' F'=>c=cW s E∧F'=F)
  (fun en st t0 t1 t2 t3 t4 I' F'=>en=e2∧t0=3∧t2=dE (cW s E)∧t3=dS s i 0∧t4=i∧F'=F) ?_
 unfold mm.V
 intro b
 refine cV.ret (sy hs h0 (by omega) oK A8 I _) fun I1 hI1=>⟨_,rfl,F,.refl _, ?_⟩
 intro b_t
 rw[hEd]
 refine⟨⟨h0,hE⟩, ?_⟩
 refine (zT (cut s i E) I1 _).mono fun v I2 G2 hI2 ⟨bb,cc,hv,hSl,hG⟩=>?_
 subst hG
 refine⟨_,_,_,hv,F,.refl _,⟨_,by omega,by omega,rfl,rfl,rfl,by omega,by omega,rfl,by rw[Int.add_zero],rfl⟩, ?_⟩
 intro x k b0 b1 b2 b3 b4 t0 t1 t2 t3 t4 m I3 F3 hI3 ⟨g0,g1,gm,gt0,gt2,gn0,gn1,gt4,gv,gF⟩
 subst gt0 gt2 gF
 obtain rfl:i=t4:=gt4.symm
 refine⟨fun hk=>?_,fun hk=>?_⟩
 ·have hk:k<E-i:=by have:=of_decide_eq_true hk;omega
  refine⟨⟨g0,by omega⟩, ?_⟩
  obtain⟨ad,c,had,hc,hrd⟩:=(hSl.mono hI3).at (i:=k) g0 (by omega)
  have hbtc:c=bt s (i+k):=by
   rw[wJ (by omega)] at hc
   have:=ld (s:=s) (i:=i) (j:=E) (k:=k) h0 g0 (by omega) hE.2
   rw[Int.toNat_of_nonneg g0] at hc
   rw[this] at hc
   exact (Option.some.inj hc).symm
  obtain⟨hd,_⟩:=wK (p:=db) (s:=s) (i:=i) (k:=i+k) (by omega) (by omega) (by omega)
  rw[←hbtc] at hd
  obtain⟨hw,hc0,hc1⟩:=Bb hd
  have hvs:=gM (s:=s) (i:=i+k) (v:=t3) (by omega)
  rw[←hbtc,if_pos hd] at hvs
  refine⟨ad,had,c,hrd _, ?_⟩
  rw[hw,tdiv_le (a:=0) (by omega) (by omega)]
  refine⟨fun hgt=>⟨?_,rfl⟩,fun hgt=>?_⟩
  ·refine (congrArg Ending.returned (hbad (.inl ?_)).symm)
   have hgt:=of_decide_eq_true hgt
   have:=sn (s:=s) (i:=i+k+1) (v:=10*t3+(c-48)) (by omega)
   omega
  ·have hgt:=of_decide_eq_false hgt
   refine⟨_, ?_, ?_, ?_,rfl,rfl,rfl, ?_, ?_,rfl, ?_,rfl⟩
   ·rw[gN (by omega)];omega
   ·rw[gN (by omega)];omega
   ·rw[gN (by omega)];omega
   ·rw[gN (n:=10*t3) (by omega),gN (by omega)];omega
   ·rw[gN (n:=10*t3) (by omega),gN (by omega)];omega
   ·rw[gN (n:=10*t3) (by omega),gN (n:=k+1) (by omega),gN (n:=10*t3+(c-48)) (by omega),←gv,hvs]
    congr 1;omega
 ·have hk:¬k<E-i:=by have:=of_decide_eq_false hk;omega
  have hkE:i+k=E:=by omega
  rw[hkE,hEnd] at gv
  rw[gN (n:=E-i) (by omega)]
  refine⟨⟨fun hl=>⟨⟨h0,h1⟩,fun h48=>⟨?_,rfl⟩,fun h48=>⟨?_,rfl⟩⟩,fun hl=>⟨?_,rfl⟩⟩, ?_⟩
  ·exact congrArg Ending.returned (hbad (.inr (.inl ⟨of_decide_eq_true hl,by simpa using h48⟩))).symm
  ·intro hc;rw[hc.2] at h48;simp at h48
  ·intro hc;exact absurd hc.1 (of_decide_eq_false hl)
  intro x2 c0 c1 c2 c3 c4 I4 F4 hI4 ⟨hz,hF4⟩
  subst hF4
  refine⟨⟨fun hl=>⟨⟨by omega,of_decide_eq_true hl⟩, ?_,rfl⟩,fun hl=>⟨?_,rfl⟩⟩, ?_⟩
  ·unfold cW;rw[if_pos (of_decide_eq_true hl)]
  ·unfold cW;rw[if_neg (of_decide_eq_false hl)]
  intro more I5 F5 hI5 ⟨hmore,hF5⟩
  subst hF5
  refine⟨?_, ?_⟩
  ·rw[show IntKind.wrap .i64 (IntKind.wrap .i64 (IntKind.wrap .i64 (-1+1)+1)+1)=2 by decide,show IntKind.wrap .i64 (IntKind.wrap .i64 (-1+1)+1)=1 by decide,
    show IntKind.wrap .i64 (-1+1)=0 by decide,gN (n:=E+1) (by omega)]
   refine⟨fun h=>?_,fun h=>⟨fun h'=>?_,fun h'=>⟨fun h''=>?_,fun h''=>?_⟩⟩⟩
   ·have:more=116:=by simpa using h
    have ht:dE (cW s E)=4:=by rw[←hmore,this];rfl
    refine⟨?_,rfl,by rw[ht];decide,gv,rfl,rfl⟩
    show _=if dE (cW s E)=1 then E else E+1
    rw[ht];rfl
   ·have:more=112:=by simpa using h'
    have ht:dE (cW s E)=3:=by rw[←hmore,this];rfl
    refine⟨?_,rfl,by rw[ht];decide,gv,rfl,rfl⟩
    show _=if dE (cW s E)=1 then E else E+1
    rw[ht];rfl
   ·have:more=113:=by simpa using h''
    have ht:dE (cW s E)=2:=by rw[←hmore,this];rfl
    refine⟨?_,rfl,by rw[ht];decide,gv,rfl,rfl⟩
    show _=if dE (cW s E)=1 then E else E+1
    rw[ht];rfl
   ·have ht:dE (cW s E)=1:=by
     rw[←hmore];unfold dE
     rw[if_neg (by simpa using h),if_neg (by simpa using h'),if_neg (by simpa using h'')]
    refine⟨?_,rfl,ht.symm,gv,rfl,rfl⟩
    show _=if dE (cW s E)=1 then E else E+1
    rw[ht];rfl
  intro en st u0 u1 u2 u3 u4 I6 F6 hI6 ⟨hen,hu0,hu2,hu3,hu4,hF6⟩
  subst hu0 hu2 hF6 hen
  obtain rfl:i=u4:=hu4.symm
  have nov:¬dS s i 0>9223372036854775807:=by omega
  have okk:¬(e2<s.size∧(c9 (bt s e2)=true∨(65≤bt s e2∧bt s e2≤90))) →
    (0≤i∧i≤e2∧e2≤(s.size:Int))∧∀(J:cS),jg (js s i).v2 F6 (.returned (Value.tuple #[Value.agg #[Value.int .u8 3,Value.string (s.extract (Int.toNat (i)) (Int.toNat (e2))),Value.int .u8 (dE (cW s E)),Value.int .i64 u3,Value.int .i64 i],Value.int .i64 0])) J F6:=fun h=>by
   refine⟨by omega,fun J=>⟨?_,rfl⟩⟩
   rw[hok (fun h'=>h'.elim nov fun h'=>h'.elim hz h),hu3]
   rfl
  refine⟨fun hl=>⟨⟨by omega,of_decide_eq_true hl⟩, ?_⟩,fun hl=>?_⟩
  ·have hl:=of_decide_eq_true hl
   refine cV.ret (su (bt s e2) I6 _) fun I7 hI7=>⟨_,rfl,F6,.refl _,fun hi=>⟨?_,rfl⟩,fun hi=>⟨⟨by omega,hl⟩,fun h65=>⟨⟨by omega,hl⟩,fun h90=>⟨?_,rfl⟩,fun h90=>?_⟩,fun h65=>?_⟩⟩
   ·exact congrArg Ending.returned (hbad (.inr (.inr ⟨hl,.inl hi⟩))).symm
   ·exact congrArg Ending.returned (hbad (.inr (.inr ⟨hl,.inr ⟨of_decide_eq_true h65,of_decide_eq_true h90⟩⟩))).symm
   ·obtain⟨a1,a2⟩:=okk (fun h=>h.2.elim (fun h=>by rw[hi] at h;cases h) fun h=>of_decide_eq_false h90 h.2)
    exact⟨a1,a2 _⟩
   ·obtain⟨a1,a2⟩:=okk (fun h=>h.2.elim (fun h=>by rw[hi] at h;cases h) fun h=>of_decide_eq_false h65 h.1)
    exact⟨a1,a2 _⟩
  ·obtain⟨a1,a2⟩:=okk (fun h=>of_decide_eq_false hl h.1)
   exact⟨a1,a2 _⟩
theorem Dz{α:Type}{C:Prop}[d:Decidable C]{x y z:α}(h:z=if C then x else y):∃C':Prop,(C'∧z=x)∨(¬C'∧z=y) :=
 ⟨C,(Classical.em C).imp (fun c=>⟨c,by rw[h,if_pos c]⟩) fun c=>⟨c,by rw[h,if_neg c]⟩⟩
theorem yS(s:ByteArray)(i:Int):∃C:Prop,(C∧js s i=.bad 113 i)∨(¬C∧js s i =
  .ok ⟨3,cut s i (if dE (cW s (dh db s i))=1 then dh db s i else dh db s i+1),dE (cW s (dh db s i)),dS s i 0,i⟩):=by
 exact Dz rfl
theorem sA(s:ByteArray)(i:Int):(∃t,js s i=.ok t∧t.pos=i)∨js s i=.bad 113 i:=by
 obtain⟨C,⟨_,h⟩ | ⟨_,h⟩⟩:=yS s i
 ·exact .inr h
 ·exact .inl ⟨_,h,rfl⟩
theorem sB{s:ByteArray}(hs:dV s){f:Int}(h0:0≤f)(h1:f≤s.size)(I:cS)(F:cR):cV P 123 #[.string s,.int .i64 f] I F (jg (eJ s f).Gh F):=by
 have hs':=hs
 unfold dV at hs'
 refine nP.vc ?_
 unfold nP.V
 intro b
 have ho:=eO (s:=s) h1
 refine cV.ret (xX hs h0 h1 I _) fun I1 hI1=>⟨_,rfl,F,.refl _, ?_⟩
 unfold eJ
 simp only
 generalize da s f=r at ho ⊢
 refine⟨fun h=>⟨?_,rfl⟩,fun h=>⟨?_, ?_⟩⟩
 ·rw[if_pos (by simpa using h)];rfl
 ·have:r≠s.size:=by simpa using h
  omega
 ·have hlt:r<s.size:=by have:r≠s.size:=by simpa using h
                        omega
  rw[if_neg (by omega)]
  refine cV.ret (oK (bt s r) I1 _) fun I2 hI2=>⟨_,rfl,F,.refl _,fun hd=>?_,fun hd=>?_⟩
  ·rw[if_pos hd]
   refine cV.ret (wL hs (by omega) hlt I2 _) fun I3 hI3=>?_
   rcases sA s r with ⟨t,ht,hp⟩ | ht
   ·rw[ht];exact⟨_,_,_,_,_,_,rfl,F,.refl _,fun b_t=>⟨by rw[←hp];rfl,rfl⟩⟩
   ·rw[ht];exact⟨_,_,_,_,_,_,rfl,F,.refl _,fun b_t=>⟨rfl,rfl⟩⟩
  ·rw[if_neg (by rw[hd];exact Bool.false_ne_true)]
   refine cV.ret (so (bt s r) I2 _) fun I3 hI3=>⟨_,rfl,F,.refl _,fun hm=>?_,fun hm=>?_⟩
   ·rw[if_pos hm]
    have hn:=dU (p:=c9) (s:=s) (i:=r) (by omega)
    refine cV.ret (sy hs (by omega) (by omega) su A9 I3 _) fun I4 hI4=>⟨_,rfl,F,.refl _, ?_⟩
    unfold iP
    simp only
    generalize dh c9 s r=e at hn ⊢
    rw[gN (by omega)]
    refine⟨fun h=>⟨?_,rfl⟩,fun h=>⟨⟨by omega,hn⟩,fun b_t=>?_⟩⟩
    ·rw[if_pos (of_decide_eq_true h)];rfl
    ·rw[if_neg (of_decide_eq_false h)]
     refine cV.ret (zM (cut s r e) I4 _) fun I5 hI5=>⟨_,rfl,F,.refl _,fun hw=>⟨?_,rfl⟩,fun hw=>⟨?_,rfl⟩⟩
     ·rw[if_pos hw];rfl
     ·rw[if_neg (by rw[hw];exact Bool.false_ne_true)];rfl
   ·rw[if_neg (by rw[hm];exact Bool.false_ne_true)]
    refine cV.ret (zS hs (by omega) hlt I3 _) fun I4 hI4=>⟨_,rfl,F,.refl _, ?_⟩
    have hr:=iH s r
    have hl:=lz hlt
    unfold iQ
    generalize dP s r=k at hr hl ⊢
    rw[gN (by omega)]
    refine⟨fun h=>⟨?_,rfl⟩,fun h=>⟨by omega, ?_,rfl⟩⟩
    ·rw[if_pos (by simpa using h)];rfl
    ·rw[if_neg (by simpa using h)];rfl
def ue(s:ByteArray)(f:Int):Value :=
 if (s.size:Int)>4096 then .tuple #[(iL 0).v,.int .i64 0,.int .i64 110]
 else if f<0∨f>s.size then .tuple #[(iL 0).v,.int .i64 0,.int .i64 1]
 else match eJ s f with
  | .ok t=>.tuple #[t.v,.int .i64 (t.pos+t.text.size),.int .i64 0]
  | .bad e p=>.tuple #[(iL 0).v,.int .i64 0,.int .i64 e]
def sC(s:ByteArray)(i:Int)(t:Tok):Prop :=
 t.pos=i∧t.pos+t.text.size≤s.size∧t.text=cut s t.pos (t.pos+t.text.size)∧((t.kind=0∧i=s.size∧t=iL s.size)∨(0<t.kind∧t.kind≤4∧0<t.text.size))
theorem sC.mk'{s:ByteArray}{i e k y n:Int}(h0:0≤i)(h:i<e)(h1:e≤s.size)(hk:0<k∧k≤4):sC s i ⟨k,cut s i e,y,n,i⟩:=by
 have hc:=eD h0 (by omega:i≤e) h1
 refine⟨rfl, ?_, ?_,.inr ⟨hk.1,hk.2, ?_⟩⟩
 ·show i+((cut s i e).size:Int)≤_;omega
 ·show cut s i e=cut s i (i+(cut s i e).size);rw[hc];congr 1;omega
 ·show 0<(cut s i e).size;omega
theorem Bc(s:ByteArray)(i:Int):cut s i i=⟨#[]⟩:=by
 unfold cut
 have:(s.extract i.toNat i.toNat).size=0:=by rw[ByteArray.size_extract];omega
 exact ByteArray.size_eq_zero_iff.1 this
theorem fF{s:ByteArray}{f:Int}(h0:0≤f)(h1:f≤s.size) :
  (∃t,eJ s f=.ok t∧sC s (da s f) t)∨(∃e,eJ s f=.bad e (da s f)∧(e=111∨e=112∨e=113)):=by
 have ho:=eO (s:=s) h1
 unfold eJ
 simp only
 generalize da s f=i at ho ⊢
 by_cases hi:i=s.size
 ·rw[if_pos hi]
  refine .inl ⟨_,rfl,rfl, ?_, ?_,.inl ⟨rfl,hi,by rw[hi]⟩⟩
  ·show i+((0:Nat):Int)≤_;omega
  ·show (⟨#[]⟩:ByteArray)=cut s i (i+((0:Nat):Int))
   rw[show i+((0:Nat):Int)=i by omega,Bc]
 ·have hlt:i<s.size:=by omega
  rw[if_neg hi]
  by_cases hd:db (bt s i)=true
  ·rw[if_pos hd]
   obtain⟨C,⟨_,h⟩ | ⟨_,h⟩⟩:=yS s i
   ·exact .inr ⟨_,h,by simp⟩
   ·refine .inl ⟨_,h, ?_⟩
    have hr:=dw (p:=db) hlt
    rw[if_pos hd] at hr
    have:=dU (p:=db) (s:=s) (i:=i+1) (by omega)
    refine sC.mk' (by omega) ?_ ?_ (by decide)
    ·split<;>omega
    ·split
     ·omega
     ·rename_i hne
      have:dh db s i<s.size:=by
       rcases Int.lt_or_le (dh db s i) s.size with h | h
       ·exact h
       ·rw[show cW s (dh db s i)=0 by unfold cW;rw[if_neg (by omega)]] at hne
        exact absurd rfl hne
      omega
  ·rw[if_neg hd]
   by_cases hm:fj (bt s i)=true
   ·rw[if_pos hm]
    have hr:=dw (p:=c9) hlt
    rw[if_pos (by simp[c9,hm])] at hr
    have:=dU (p:=c9) (s:=s) (i:=i+1) (by omega)
    unfold iP
    simp only
    split
    ·exact .inr ⟨_,rfl,by simp⟩
    ·exact .inl ⟨_,rfl,sC.mk' (by omega) (by omega) (by omega) (by split<;>decide)⟩
   ·rw[if_neg hm]
    have hr:=iH s i
    have hl:=lz hlt
    unfold iQ
    split
    ·exact .inr ⟨_,rfl,by simp⟩
    ·exact .inl ⟨_,rfl,sC.mk' (by omega) (by omega) (by omega) (by decide)⟩
theorem nQ{s:ByteArray}(hs:dV s){f:Int}(I:cS)(F:cR):cV P 102 #[.string s,.int .i64 f] I F (jg (ue s f) F):=by
 refine pD.vc ?_
 unfold pD.V
 intro b
 unfold ue
 refine⟨fun h=>⟨by rw[if_pos (of_decide_eq_true h)];rfl,rfl⟩,fun h=>?_⟩
 rw[if_neg (of_decide_eq_false h)]
 refine⟨fun h=>⟨by rw[if_pos (.inl (of_decide_eq_true h))];rfl,rfl⟩,fun h=>⟨fun h=>⟨by rw[if_pos (.inr (of_decide_eq_true h))];rfl,rfl⟩,fun h'=>?_⟩⟩
 have h:=of_decide_eq_false h
 have h':=of_decide_eq_false h'
 unfold dV at hs
 rw[if_neg (by omega)]
 refine cV.ret (sB hs (by omega) (by omega) I _) fun I1 hI1=>?_
 rcases fF (s:=s) (f:=f) (by omega) (by omega) with ⟨t,ht,hp,hl,_⟩ | ⟨e,ht,he⟩
 ·rw[ht]
  refine⟨_,_,_,_,_,_,rfl,F,.refl _,fun b_t=>⟨fun h=>absurd h (by decide),fun _=>⟨?_,rfl⟩⟩⟩
  have:=eO (s:=s) (i:=f) (by omega)
  rw[gN (n:=t.pos+t.text.size) (by omega)];rfl
 ·rw[ht]
  refine⟨_,_,_,_,_,_,rfl,F,.refl _,fun b_t=>⟨fun h=>⟨rfl,rfl⟩,fun h=>?_⟩⟩
  rcases he with rfl | rfl | rfl<;>exact absurd h (by decide)
end Go.Lx
namespace Go.Lx
open Go.Vc Go.Proofs.Tryz
def sD:List (Nat×List Sh):=[(3,[.one (.int .i64)]),(4,[.one .bool]),(9,[.one .str]),(77,[.agg [(.int .u8),.str,(.int .u8),(.int .i64),(.int .i64)],.one (.int .i64),.one (.int .i64)]),(80,[.one .slc]),(81,[.one .slc,.one (.int .i64),.one (.int .i64)]),(134,[.agg [(.int .u8),.str,(.int .u8),(.int .i64),(.int .i64)],.one (.int .i64)])]
def mo.V(vi:Int→Value)(wr:Int→Int)(s:Bs)(p:Int)(I:cS)(F:cR)(Q:cU)(Inv8:Int→Bool→Int→Nat→cS→cR→Prop):Prop:=(∃m:Nat,Inv8 0 false p m I F)∧∀(x:Int) (a:Bool) (i:Int) (m1:Nat) (I1:cS) (F1:cR),cS.le I I1→Inv8 x a i m1 I1 F1→(Dt (i<(s.size:Int)) ((0≤i∧i<(s.size:Int))∧(It ((bt s i)==10) (It ((bt s i)==35) (It false (It ((bt s i)!=32) (It ((bt s i)!=9) (It ((bt s i)!=10) (It ((bt s i)!=13) (Q (.returned (vi i)) I1 F1) (∃m2:Nat,m2<m1∧Inv8 x true (wr (i+1)) m2 I1 F1)) (∃m3:Nat,m3<m1∧Inv8 x true (wr (i+1)) m3 I1 F1)) (∃m4:Nat,m4<m1∧Inv8 x true (wr (i+1)) m4 I1 F1)) (∃m5:Nat,m5<m1∧Inv8 x true (wr (i+1)) m5 I1 F1)) (∃m6:Nat,m6<m1∧Inv8 x true (wr (i+1)) m6 I1 F1)) (It true (It ((bt s i)!=32) (It ((bt s i)!=9) (It ((bt s i)!=10) (It ((bt s i)!=13) (Q (.returned (vi i)) I1 F1) (∃m7:Nat,m7<m1∧Inv8 x false (wr (i+1)) m7 I1 F1)) (∃m8:Nat,m8<m1∧Inv8 x false (wr (i+1)) m8 I1 F1)) (∃m9:Nat,m9<m1∧Inv8 x false (wr (i+1)) m9 I1 F1)) (∃b:Nat,b<m1∧Inv8 x false (wr (i+1)) b I1 F1)) (∃c:Nat,c<m1∧Inv8 x false (wr (i+1)) c I1 F1))) (It ((bt s i)==35) (It false (It ((bt s i)!=32) (It ((bt s i)!=9) (It ((bt s i)!=10) (It ((bt s i)!=13) (Q (.returned (vi i)) I1 F1) (∃d:Nat,d<m1∧Inv8 x true (wr (i+1)) d I1 F1)) (∃e:Nat,e<m1∧Inv8 x true (wr (i+1)) e I1 F1)) (∃f:Nat,f<m1∧Inv8 x true (wr (i+1)) f I1 F1)) (∃g:Nat,g<m1∧Inv8 x true (wr (i+1)) g I1 F1)) (∃h:Nat,h<m1∧Inv8 x true (wr (i+1)) h I1 F1)) (It (!a) (It ((bt s i)!=32) (It ((bt s i)!=9) (It ((bt s i)!=10) (It ((bt s i)!=13) (Q (.returned (vi i)) I1 F1) (∃j:Nat,j<m1∧Inv8 x a (wr (i+1)) j I1 F1)) (∃k:Nat,k<m1∧Inv8 x a (wr (i+1)) k I1 F1)) (∃l:Nat,l<m1∧Inv8 x a (wr (i+1)) l I1 F1)) (∃n:Nat,n<m1∧Inv8 x a (wr (i+1)) n I1 F1)) (∃o:Nat,o<m1∧Inv8 x a (wr (i+1)) o I1 F1))))) (Q (.returned (vi (s.size:Int))) I1 F1))
theorem mo.vc{s:Bs}{a:Int}{I:cS}{F:cR}{Q:cU}(Inv8:Int→Bool→Int→Nat→cS→cR→Prop)(h:mo.V (.int .i64) (IntKind.wrap .i64) s a I F Q Inv8):cV P 53 #[.string s,.int .i64 a] I F Q :=
 tw (A:=(eM [3003,6001,8001,10001,10004,10008,10012,10016] [] [] sD [(8,⟨[(4,(.int .i64)),(5,.bool),(6,(.int .i64))],[],fun _ _ _ vs m I F=>match vs with | [.int _ y0,.bool y1,.int _ y2]=>Inv8 y0 y1 y2 m I F | _=>False,[],[]⟩)] [] [] [] [] [] [])) [] func53 h
def kO.V(ka:Nat→Int→Bs→Int→Int→Int→Nat×Obj)(vb vi:Int→Value)(vs:Bs→Value)(wr:Int→Int)(s:Bs)(c:Int)(I:cS)(F:cR)(Q:cU)(Inv6:Int→Nat→cS→cR→Prop):Prop:=∀b:Nat,(∃m:Nat,Inv6 c m I F)∧∀(a:Int) (m1:Nat) (I1:cS) (F1:cR),cS.le I I1→Inv6 a m1 I1 F1→(Dt (a<(s.size:Int)) ((0≤a∧a<(s.size:Int))∧fp P 97 (#[vb (bt s a)]) I1 ((ka b 0 (⟨#[]⟩:Bs) 0 0 0)::·) F1 .bool fun r I2 F2=>(It r (∃m2:Nat,m2<m1∧Inv6 (wr (a+1)) m2 I2 F2) ((0≤c∧c≤a∧a≤(s.size:Int))∧∀e:Nat,(Dt ((wr (a-c))>16) (Q (.returned (.tuple #[.agg #[vb 0,vs (⟨#[]⟩:Bs),vb 0,vi 0,vi 0],vi 112])) I2 F2) (fp P 96 (#[vs (s.extract (Int.toNat c) (Int.toNat a))]) I2 ((ka b 0 (⟨#[]⟩:Bs) 0 0 0)::(ka e 2 (s.extract (Int.toNat c) (Int.toNat a)) 0 0 c)::·) F2 .bool fun r1 I3 F3=>(It r1 (Q (.returned (.tuple #[.agg #[vb 1,vs (s.extract (Int.toNat c) (Int.toNat a)),vb 0,vi 0,vi c],vi 0])) I3 F3) (Q (.returned (.tuple #[.agg #[vb 2,vs (s.extract (Int.toNat c) (Int.toNat a)),vb 0,vi 0,vi c],vi 0])) I3 F3))))))) ((0≤c∧c≤a∧a≤(s.size:Int))∧∀d:Nat,(Dt ((wr (a-c))>16) (Q (.returned (.tuple #[.agg #[vb 0,vs (⟨#[]⟩:Bs),vb 0,vi 0,vi 0],vi 112])) I1 F1) (fp P 96 (#[vs (s.extract (Int.toNat c) (Int.toNat a))]) I1 ((ka b 0 (⟨#[]⟩:Bs) 0 0 0)::(ka d 2 (s.extract (Int.toNat c) (Int.toNat a)) 0 0 c)::·) F1 .bool fun r2 I4 F4=>(It r2 (Q (.returned (.tuple #[.agg #[vb 1,vs (s.extract (Int.toNat c) (Int.toNat a)),vb 0,vi 0,vi c],vi 0])) I4 F4) (Q (.returned (.tuple #[.agg #[vb 2,vs (s.extract (Int.toNat c) (Int.toNat a)),vb 0,vi 0,vi c],vi 0])) I4 F4))))))
theorem kO.vc{s:Bs}{f:Int}{I:cS}{F:cR}{Q:cU}(Inv6:Int→Nat→cS→cR→Prop)(h:kO.V (fun W a b c d e=>(W,Obj.cells #[.int .u8 a,.string b,.int .u8 c,.int .i64 d,.int .i64 e] 76 (0,0))) (.int .u8) (.int .i64) .string (IntKind.wrap .i64) s f I F Q Inv6):cV P 55 #[.string s,.int .i64 f] I F Q :=
 tw (A:=(eM [2003,2008,5003,8000] [] [96,97] sD [(6,⟨[(6,(.int .i64))],[],fun _ _ _ vs m I F=>match vs with | [.int _ y0]=>Inv6 y0 m I F | _=>False,[],[]⟩)] [] [] [] [] [] [])) [96,97] func55 h
def jT.V(ka:Nat→Int→Bs→Int→Int→Int→Nat×Obj)(kb:Int→Bs→Int→Int→Int→Value)(vb vi:Int→Value)(vs:Bs→Value)(wr:Int→Int)(s:Bs)(d:Int)(I:cS)(F:cR)(Q:cU)(Inv8:Int→Int→Int→Int→Bs→Int→Int→Int→cS→cR→Prop)(Inv10:Int→Int→Int→Int→Bs→Int→Int→Int→Nat→cS→cR→Prop)(Inv29:Int→Int→Bs→Int→Int→Int→cS→cR→Prop)(Inv39:Int→Bs→Int→Int→Int→cS→cR→Prop)(Inv45:Int→Bs→Int→Int→Int→cS→cR→Prop)(Inv51:Int→Bs→Int→Int→Int→cS→cR→Prop)(Inv57:Int→cS→cR→Prop):Prop:=∀b:Nat,∀ao:Nat,((∃m:Nat,Inv10 0 d 0 0 (⟨#[]⟩:Bs) 0 0 0 m I F)∧∀(x f n y:Int) (z:Bs) (aa ab ac:Int) (m1:Nat) (I1:cS) (F1:cR),cS.le I I1→Inv10 x f n y z aa ab ac m1 I1 F1→(Dt (f<(s.size:Int)) ((0≤f∧f<(s.size:Int))∧fp P 56 (#[vb (bt s f)]) I1 ((ka b y z aa ab ac)::(ka ao 3 (⟨#[]⟩:Bs) 1 0 d)::·) F1 .bool fun r I2 F2=>(It r (Dt (n>922337203685477580) (Q (.returned (.tuple #[(kb 0 (⟨#[]⟩:Bs) 0 0 0),vi 113])) I2 F2) ((0≤f∧f<(s.size:Int))∧(∃m2:Nat,m2<m1∧Inv10 x (wr (f+1)) (IntKind.wrap .u64 ((IntKind.wrap .u64 (10*n))+(IntKind.wrap .u64 (IntKind.wrap .u8 ((bt s f)-48))))) y z aa ab ac m2 I2 F2))) (Inv8 x f n y z aa ab ac I2 F2))) (Inv8 x f n y z aa ab ac I1 F1)))∧∀(x1 a n1 ae:Int) (af:Bs) (ag ah ai:Int) (I3:cS) (F3:cR),cS.le I I3→Inv8 x1 a n1 ae af ag ah ai I3 F3→((Dt (n1>9223372036854775807) (Q (.returned (.tuple #[(kb 0 (⟨#[]⟩:Bs) 0 0 0),vi 113])) I3 F3) (Dt ((wr (a-d))>1) ((0≤d∧d<(s.size:Int))∧(It ((bt s d)==48) (Q (.returned (.tuple #[(kb 0 (⟨#[]⟩:Bs) 0 0 0),vi 113])) I3 F3) (Inv29 x1 ae af ag ah ai I3 F3))) (Inv29 x1 ae af ag ah ai I3 F3))))∧∀(x2 aj:Int) (ak:Bs) (al am an:Int) (I4:cS) (F4:cR),cS.le I3 I4→Inv29 x2 aj ak al am an I4 F4→((Dt (a<(s.size:Int)) ((0≤a∧a<(s.size:Int))∧(It ((bt s a)==113) (Inv39 3 (⟨#[]⟩:Bs) 2 (wr n1) d I4 F4) (Inv39 3 (⟨#[]⟩:Bs) 1 (wr n1) d I4 F4))) (Inv39 3 (⟨#[]⟩:Bs) 1 (wr n1) d I4 F4)))∧∀(p:Int) (q:Bs) (ad t u:Int) (I5:cS) (F5:cR),cS.le I4 I5→Inv39 p q ad t u I5 F5→((Dt (a<(s.size:Int)) ((0≤a∧a<(s.size:Int))∧(It ((bt s a)==112) (Inv45 p q 3 t u I5 F5) (Inv45 p q ad t u I5 F5))) (Inv45 p q ad t u I5 F5)))∧∀(j:Int) (k:Bs) (v l o:Int) (I6:cS) (F6:cR),cS.le I5 I6→Inv45 j k v l o I6 F6→((Dt (a<(s.size:Int)) ((0≤a∧a<(s.size:Int))∧(It ((bt s a)==116) (Inv51 j k 4 l o I6 F6) (Inv51 j k v l o I6 F6))) (Inv51 j k v l o I6 F6)))∧∀(g:Int) (w:Bs) (e h i:Int) (I7:cS) (F7:cR),cS.le I6 I7→Inv51 g w e h i I7 F7→((It (e != 1) (Inv57 (wr (a+1)) I7 F7) (Inv57 a I7 F7)))∧∀(c:Int) (I8:cS) (F8:cR),cS.le I7 I8→Inv57 c I8 F8→(Dt (c<(s.size:Int)) ((0≤c∧c<(s.size:Int))∧fp P 97 (#[vb (bt s c)]) I8 ((ka b aj ak al am an)::(ka ao g w e h i)::·) F8 .bool fun r1 I9 F9=>(It r1 (Q (.returned (.tuple #[(kb 0 (⟨#[]⟩:Bs) 0 0 0),vi 113])) I9 F9) ((0≤c∧c<(s.size:Int))∧(Dt ((bt s c)≥65) ((0≤c∧c<(s.size:Int))∧(Dt ((bt s c)≤90) (Q (.returned (.tuple #[(kb 0 (⟨#[]⟩:Bs) 0 0 0),vi 113])) I9 F9) ((0≤d∧d≤c∧c≤(s.size:Int))∧Q (.returned (.tuple #[(kb g (s.extract (Int.toNat d) (Int.toNat c)) e h i),vi 0])) I9 F9))) ((0≤d∧d≤c∧c≤(s.size:Int))∧Q (.returned (.tuple #[(kb g (s.extract (Int.toNat d) (Int.toNat c)) e h i),vi 0])) I9 F9))))) ((0≤d∧d≤c∧c≤(s.size:Int))∧Q (.returned (.tuple #[(kb g (s.extract (Int.toNat d) (Int.toNat c)) e h i),vi 0])) I8 F8))
theorem jT.vc{s:Bs}{f:Int}{I:cS}{F:cR}{Q:cU}(Inv8:Int→Int→Int→Int→Bs→Int→Int→Int→cS→cR→Prop)(Inv10:Int→Int→Int→Int→Bs→Int→Int→Int→Nat→cS→cR→Prop)(Inv29:Int→Int→Bs→Int→Int→Int→cS→cR→Prop)(Inv39:Int→Bs→Int→Int→Int→cS→cR→Prop)(Inv45:Int→Bs→Int→Int→Int→cS→cR→Prop)(Inv51:Int→Bs→Int→Int→Int→cS→cR→Prop)(Inv57:Int→cS→cR→Prop)(h:jT.V (fun W a b c d e=>(W,Obj.cells #[.int .u8 a,.string b,.int .u8 c,.int .i64 d,.int .i64 e] 76 (0,0))) (fun a b c d e=>.agg #[.int .u8 a,.string b,.int .u8 c,.int .i64 d,.int .i64 e]) (.int .u8) (.int .i64) .string (IntKind.wrap .i64) s f I F Q Inv8 Inv10 Inv29 Inv39 Inv45 Inv51 Inv57):cV P 57 #[.string s,.int .i64 f] I F Q :=
 tw (A:=(eM [4003,4008,5001,9001,9006,9011,12003,12008,14003,14008,16003,16008,18002,20003,20008,20013,20018] [] [56,97] sD [(8,⟨[(5,(.int .i64)),(7,(.int .i64)),(8,(.int .u64))],[(0,[(.int .u8),.str,(.int .u8),(.int .i64),(.int .i64)])],fun _ _ _ vs m I F=>match vs with | [.int _ y0,.int _ y1,.int _ y2,.int _ y3,.string y4,.int _ y5,.int _ y6,.int _ y7]=>Inv8 y0 y1 y2 y3 y4 y5 y6 y7 I F | _=>False,[],[]⟩),(10,⟨[(5,(.int .i64)),(7,(.int .i64)),(8,(.int .u64))],[(0,[(.int .u8),.str,(.int .u8),(.int .i64),(.int .i64)])],fun _ _ _ vs m I F=>match vs with | [.int _ y0,.int _ y1,.int _ y2,.int _ y3,.string y4,.int _ y5,.int _ y6,.int _ y7]=>Inv10 y0 y1 y2 y3 y4 y5 y6 y7 m I F | _=>False,[],[]⟩),(29,⟨[(5,(.int .i64))],[(0,[(.int .u8),.str,(.int .u8),(.int .i64),(.int .i64)])],fun _ _ _ vs m I F=>match vs with | [.int _ y0,.int _ y1,.string y2,.int _ y3,.int _ y4,.int _ y5]=>Inv29 y0 y1 y2 y3 y4 y5 I F | _=>False,[],[]⟩),(39,⟨[],[(1,[(.int .u8),.str,(.int .u8),(.int .i64),(.int .i64)])],fun _ _ _ vs m I F=>match vs with | [.int _ y0,.string y1,.int _ y2,.int _ y3,.int _ y4]=>Inv39 y0 y1 y2 y3 y4 I F | _=>False,[],[]⟩),(45,⟨[],[(1,[(.int .u8),.str,(.int .u8),(.int .i64),(.int .i64)])],fun _ _ _ vs m I F=>match vs with | [.int _ y0,.string y1,.int _ y2,.int _ y3,.int _ y4]=>Inv45 y0 y1 y2 y3 y4 I F | _=>False,[],[]⟩),(51,⟨[],[(1,[(.int .u8),.str,(.int .u8),(.int .i64),(.int .i64)])],fun _ _ _ vs m I F=>match vs with | [.int _ y0,.string y1,.int _ y2,.int _ y3,.int _ y4]=>Inv51 y0 y1 y2 y3 y4 I F | _=>False,[],[]⟩),(57,⟨[(7,(.int .i64))],[],fun _ _ _ vs m I F=>match vs with | [.int _ y0]=>Inv57 y0 I F | _=>False,[],[]⟩)] [] [] [] [] [] [])) [56,97] func57 h
def mq.V(vb vi:Int→Value)(vs:Bs→Value)(wr:Int→Int)(s:Bs)(a:Int)(I:cS)(F:cR)(Q:cU)(Inv8:Int→Int→Int→Bs→Int→Int→Int→Nat→cS→cR→Prop):Prop:=∀b:Nat,∀(b1:Nat) (I1:cS),cS.le I I1→I1 b1=some (Obj.cells #[vs (⟨#[61,61]⟩:Bs),vs (⟨#[33,61]⟩:Bs),vs (⟨#[60,61]⟩:Bs),vs (⟨#[62,61]⟩:Bs),vs (⟨#[38,38]⟩:Bs),vs (⟨#[124,124]⟩:Bs),vs (⟨#[123]⟩:Bs),vs (⟨#[125]⟩:Bs),vs (⟨#[40]⟩:Bs),vs (⟨#[41]⟩:Bs),vs (⟨#[44]⟩:Bs),vs (⟨#[59]⟩:Bs),vs (⟨#[63]⟩:Bs),vs (⟨#[58]⟩:Bs),vs (⟨#[61]⟩:Bs),vs (⟨#[33]⟩:Bs),vs (⟨#[60]⟩:Bs),vs (⟨#[62]⟩:Bs),vs (⟨#[43]⟩:Bs),vs (⟨#[45]⟩:Bs),vs (⟨#[42]⟩:Bs),vs (⟨#[47]⟩:Bs),vs (⟨#[37]⟩:Bs)] 9 (0,0))→(∃m:Nat,Inv8 0 0 0 (⟨#[]⟩:Bs) 0 0 0 m I1 F)∧∀(x i c:Int) (d:Bs) (e f g:Int) (m1:Nat) (I2:cS) (F1:cR),cS.le I1 I2→Inv8 x i c d e f g m1 I2 F1→(Dt (i<(23:Int)) ((0≤i∧i<(23:Int))∧∃ad:Addr,some ⟨b1,0,none⟩=some ad∧∃(m2:Bs),Rd I2 ((b,Obj.cells #[vb c,vs d,vb e,vi f,vi g] 76 (0,0))::F1) (ad.add (Int.toNat i*1)) [vs m2]∧(Dt ((wr (a+(m2.size:Int)))≤(s.size:Int)) ((0≤a∧a≤(wr (a+(m2.size:Int)))∧(wr (a+(m2.size:Int)))≤(s.size:Int))∧((0≤i∧i<(23:Int))∧∃h:Addr,some ⟨b1,0,none⟩=some h∧∃(m3:Bs),Rd I2 ((b,Obj.cells #[vb c,vs d,vb e,vi f,vi g] 76 (0,0))::F1) (h.add (Int.toNat i*1)) [vs m3]∧(It ((s.extract (Int.toNat a) (Int.toNat ((wr (a+(m2.size:Int)))))).toList==m3.toList) ((0≤i∧i<(23:Int))∧∃j:Addr,some ⟨b1,0,none⟩=some j∧∃(m4:Bs),Rd I2 ((b,Obj.cells #[vb c,vs d,vb e,vi f,vi g] 76 (0,0))::F1) (j.add (Int.toNat i*1)) [vs m4]∧Q (.returned (.tuple #[.agg #[vb 4,vs m4,vb 0,vi 0,vi a],vi 0])) I2 F1) (∃m5:Nat,m5<m1∧Inv8 x (wr (i+1)) c d e f g m5 I2 F1)))) (∃m6:Nat,m6<m1∧Inv8 x (wr (i+1)) c d e f g m6 I2 F1))) (Q (.returned (.tuple #[.agg #[vb 0,vs (⟨#[]⟩:Bs),vb 0,vi 0,vi 0],vi 111])) I2 F1))
theorem mq.vc{s:Bs}{a:Int}{I:cS}{F:cR}{Q:cU}(Inv8:Int→Int→Int→Bs→Int→Int→Int→Nat→cS→cR→Prop)(h:mq.V (.int .u8) (.int .i64) .string (IntKind.wrap .i64) s a I F Q Inv8):cV P 58 #[.string s,.int .i64 a] I F Q :=
 tw (A:=(eM [3003,6005,6017] [] [] sD [(8,⟨[(5,(.int .i64)),(7,(.int .i64))],[(0,[(.int .u8),.str,(.int .u8),(.int .i64),(.int .i64)])],fun _ _ _ vs m I F=>match vs with | [.int _ y0,.int _ y1,.int _ y2,.string y3,.int _ y4,.int _ y5,.int _ y6]=>Inv8 y0 y1 y2 y3 y4 y5 y6 m I F | _=>False,[],[]⟩)] [1000] [] [] [] [] [])) [] func58 h
def nR.V(ka:Nat→Int→Bs→Int→Int→Int→Nat×Obj)(kb:Int→Bs→Int→Int→Int→Value)(vb vi:Int→Value)(vs:Bs→Value)(s:Bs)(w:Int)(I:cS)(F:cR)(Q:cU)  : Prop:=∀b:Nat,fp P 53 #[vs s,vi w] I ((ka b 0 (⟨#[]⟩:Bs) 0 0 0)::·) F vi fun r I1 F1=>(It (r==(s.size:Int)) (Q (.returned (.tuple #[(kb 0 (⟨#[]⟩:Bs) 0 0 r),vi 0,vi 0])) I1 F1) (∀a:Nat,((0≤r∧r<(s.size:Int))∧fp P 54 (#[vb (bt s r)]) I1 ((ka b 0 (⟨#[]⟩:Bs) 0 0 0)::(ka a 0 (⟨#[]⟩:Bs) 0 0 0)::·) F1 .bool fun r1 I2 F2=>(It r1 (sg P 55 #[vs s,vi r] I2 ((ka b 0 (⟨#[]⟩:Bs) 0 0 0)::(ka a 0 (⟨#[]⟩:Bs) 0 0 0)::·) F2 fun e3 I3 G3=>∃(p:Int) (q:Bs) (t u v m:Int),e3=.returned (.tuple #[(kb p q t u v),vi m])∧G3 fun F3=>(It (m != 0) (Q (.returned (.tuple #[(kb p q t u v),vi m,vi r])) I3 F3) (Q (.returned (.tuple #[(kb p q t u v),vi m,vi 0])) I3 F3))) ((0≤r∧r<(s.size:Int))∧fp P 56 (#[vb (bt s r)]) I2 ((ka b 0 (⟨#[]⟩:Bs) 0 0 0)::(ka a 0 (⟨#[]⟩:Bs) 0 0 0)::·) F2 .bool fun r2 I4 F4=>(It r2 (sg P 57 #[vs s,vi r] I4 ((ka b 0 (⟨#[]⟩:Bs) 0 0 0)::(ka a 0 (⟨#[]⟩:Bs) 0 0 0)::·) F4 fun e5 I5 G5=>∃(c:Int) (d:Bs) (e f g n:Int),e5=.returned (.tuple #[(kb c d e f g),vi n])∧G5 fun F5=>(It (n != 0) (Q (.returned (.tuple #[(kb c d e f g),vi n,vi r])) I5 F5) (Q (.returned (.tuple #[(kb c d e f g),vi n,vi 0])) I5 F5))) (sg P 58 #[vs s,vi r] I4 ((ka b 0 (⟨#[]⟩:Bs) 0 0 0)::(ka a 0 (⟨#[]⟩:Bs) 0 0 0)::·) F4 fun e6 I6 G6=>∃(h:Int) (i:Bs) (j k l o:Int),e6=.returned (.tuple #[(kb h i j k l),vi o])∧G6 fun F6=>(It (o != 0) (Q (.returned (.tuple #[(kb h i j k l),vi o,vi r])) I6 F6) (Q (.returned (.tuple #[(kb h i j k l),vi o,vi 0])) I6 F6)))))))))
theorem nR.vc{s:Bs}{f:Int}{I:cS}{F:cR}{Q:cU}  (h:nR.V (fun W a b c d e=>(W,Obj.cells #[.int .u8 a,.string b,.int .u8 c,.int .i64 d,.int .i64 e] 76 (0,0))) (fun a b c d e=>.agg #[.int .u8 a,.string b,.int .u8 c,.int .i64 d,.int .i64 e]) (.int .u8) (.int .i64) .string s f I F Q):cV P 22 #[.string s,.int .i64 f] I F Q :=
 tw (A:=(an [2003,7003,9003,11001] [53,54,55,56,57,58] sD)) [53,54,55,56,57,58] func22 h
end Go.Lx
namespace Go.Lx
open Go.Vc
theorem xY{s:ByteArray}(hs:dV s){i:Int}(h0:0≤i)(h1:i≤s.size)(I:cS)(F:cR) :
  cV P 53 #[.string s,.int .i64 i] I F (jg (.int .i64 (da s i)) F):=by
 have hs':=hs
 unfold dV at hs'
 refine mo.vc (fun x r j m I' F'=>0≤j∧j≤s.size∧m=(s.size-j).toNat∧fT s r j=da s i∧F'=F) ?_
 unfold mo.V
 refine⟨⟨_,h0,h1,rfl,rfl,rfl⟩,fun x r j m I1 F1 hI ⟨g0,g1,gm,gr,gF⟩=>⟨fun hlt=>?_,fun hlt=>?_⟩⟩
 ·have hlt:j<(s.size:Int):=by simpa using hlt
  subst gF
  have step:=eb (r:=r) hlt
  have stop:∀J:cS,mZ (bt s j) r=false→blank (bt s j)=false→jg (.int .i64 (da s i)) F1 (.returned (.int .i64 j)) J F1:=fun J a b=>by
   rw[a,b,gr] at step
   exact⟨by rw[step];rfl,rfl⟩
  have cont:∀r',mZ (bt s j) r=r'→(r'=true∨blank (bt s j)=true)→∃m2:Nat,m2<m∧(0≤IntKind.wrap .i64 (j+1)∧IntKind.wrap .i64 (j+1)≤s.size∧m2=(s.size-IntKind.wrap .i64 (j+1)).toNat ∧
    fT s r' (IntKind.wrap .i64 (j+1))=da s i∧F1=F1):=fun r' a b=>by
   rw[gN (by omega)]
   refine⟨_,by omega,by omega,by omega,rfl, ?_,rfl⟩
   rw[a,gr] at step
   rw[step,if_neg]
   rcases b with b | b<;>simp[b]
  refine⟨⟨g0,hlt⟩, ?_⟩
  clear step gr
  repeat' (first | (with_reducible apply And.intro) | (with_reducible intro h))
  all_goals first
   | (refine stop I1 ?_ ?_<;>simp_all [mZ,blank];done)
   | (refine cont _ ?_ ?_<;>simp_all [mZ,blank];done)
   | (exfalso;simp_all;done)
 ·have hlt:¬j<(s.size:Int):=by simpa using hlt
  refine⟨?_,gF⟩
  rw[gz (by omega)] at gr
  rw[←gr]
  have:j=s.size:=by omega
  rw[this]
theorem wM{s:ByteArray}(hs:dV s){i:Int}(h0:0≤i)(h1:i<s.size)(I:cS)(F:cR):cV P 55 #[.string s,.int .i64 i] I F (jg (iP s i).v2 F):=by
 have hs':=hs
 unfold dV at hs'
 have hE:=dU (p:=c9) (s:=s) (i:=i) (by omega)
 refine kO.vc (fun j m I' F'=>i≤j∧j≤s.size∧m=(s.size-j).toNat∧dh c9 s j=dh c9 s i∧F'=F) ?_
 unfold kO.V
 intro b
 refine⟨⟨_,by omega,by omega,rfl,rfl,rfl⟩,fun j m I1 F1 hI ⟨g0,g1,gm,gr,gF⟩=>⟨fun hlt=>?_,fun hlt=>?_⟩⟩
 ·have hlt:j<(s.size:Int):=of_decide_eq_true hlt
  subst gF
  refine⟨⟨by omega,hlt⟩, ?_⟩
  refine cV.ret (oM (bt s j) I1 _) fun I2 hI2=>⟨_,rfl,F1,.refl _,fun hc=>?_,fun hc=>⟨⟨h0,g0,g1⟩,fun b_t=>?_⟩⟩
  ·refine⟨m-1,by omega, ?_⟩
   rw[gN (by omega)]
   rw[dw hlt,if_pos hc] at gr
   exact⟨by omega,by omega,by omega,gr,rfl⟩
  ·rw[dw hlt,if_neg (by rw[hc];exact Bool.false_ne_true)] at gr
   unfold iP
   simp only[←gr]
   rw[gN (by omega)]
   refine⟨fun h=>⟨?_,rfl⟩,fun h=>?_⟩
   ·rw[if_pos (of_decide_eq_true h)];rfl
   ·rw[if_neg (of_decide_eq_false h)]
    refine cV.ret (oN (cut s i j) I2 _) fun I3 hI3=>⟨_,rfl,F1,.refl _,fun hw=>⟨?_,rfl⟩,fun hw=>⟨?_,rfl⟩⟩
    ·rw[if_pos hw];rfl
    ·rw[if_neg (by rw[hw];exact Bool.false_ne_true)];rfl
 ·have hlt:¬j<(s.size:Int):=of_decide_eq_false hlt
  subst gF
  refine⟨⟨h0,g0,g1⟩,fun b_t=>?_⟩
  rw[jr (by omega)] at gr
  unfold iP
  simp only[←gr]
  rw[gN (by omega)]
  refine⟨fun h=>⟨?_,rfl⟩,fun h=>?_⟩
  ·rw[if_pos (of_decide_eq_true h)];rfl
  ·rw[if_neg (of_decide_eq_false h)]
   refine cV.ret (oN (cut s i j) I1 _) fun I3 hI3=>⟨_,rfl,F1,.refl _,fun hw=>⟨?_,rfl⟩,fun hw=>⟨?_,rfl⟩⟩
   ·rw[if_pos hw];rfl
   ·rw[if_neg (by rw[hw];exact Bool.false_ne_true)];rfl
theorem zU{c:Int}(h:db c=true):IntKind.wrap .u64 (IntKind.wrap .u8 (c-48))=c-48∧48≤c∧c≤57:=by
 simp only[db,Bool.and_eq_true,decide_eq_true_eq] at h
 rw[w8 (by omega),Cf (by omega)]
 exact⟨rfl,h⟩
theorem uU{s:ByteArray}(hs:dV s){i:Int}(h0:0≤i)(h1:i<s.size)(I:cS)(F:cR):cV P 57 #[.string s,.int .i64 i] I F (jg (js s i).v2 F):=by
 have hs':=hs
 unfold dV at hs'
 have hE:=dU (p:=db) (s:=s) (i:=i) (by omega)
 generalize hEd:dh db s i=E at hE
 let e2:Int:=if dE (cW s E)=1 then E else E+1
 have hbad:(dS s i 0>9223372036854775807∨(E-i>1∧bt s i=48)∨(e2<s.size∧(c9 (bt s e2)=true∨(65≤bt s e2∧bt s e2≤90)))) →
   (js s i).v2=.tuple #[(iL 0).v,.int .i64 113]:=fun h=>by
  unfold js;simp only[hEd];rw[if_pos h];rfl
 have hok:¬(dS s i 0>9223372036854775807∨(E-i>1∧bt s i=48)∨(e2<s.size∧(c9 (bt s e2)=true∨(65≤bt s e2∧bt s e2≤90)))) →
   (js s i).v2=.tuple #[(⟨3,cut s i e2,dE (cW s E),dS s i 0,i⟩:Tok).v,.int .i64 0]:=fun h=>by
  unfold js;simp only[hEd];rw[if_neg h];rfl
 have he2r:e2≤s.size∧E≤e2∧e2≤E+1:=by
  show (if dE (cW s E)=1 then E else E+1)≤_∧_≤(if dE (cW s E)=1 then E else E+1)∧(if dE (cW s E)=1 then E else E+1)≤_
  split
  ·omega
  ·rename_i hne
   have:E<s.size:=by
    rcases Int.lt_or_le E s.size with h | h
    ·exact h
    ·rw[show cW s E=0 by unfold cW;rw[if_neg (by omega)]] at hne
     exact absurd rfl hne
   omega
 refine jT.vc (fun x en n b0 b1 b2 b3 b4 I' F'=>en=E∧n=dS s i 0∧F'=F)
  (fun x j n b0 b1 b2 b3 b4 m I' F'=>i≤j∧j≤E∧m=(E-j).toNat∧0≤n∧n≤18446744073709551615∧dh db s j=E∧dS s j n=dS s i 0∧F'=F)
  (fun x b0 b1 b2 b3 b4 I' F'=>¬(E-i>1∧bt s i=48)∧¬dS s i 0>9223372036854775807∧F'=F)
  (fun t0 t1 t2 t3 t4 I' F'=>t0=3∧t2=(if cW s E=113 then 2 else 1)∧t3=dS s i 0∧t4=i∧F'=F)
  (fun t0 t1 t2 t3 t4 I' F'=>t0=3∧t2=(if cW s E=112 then 3 else if cW s E=113 then 2 else 1)∧t3=dS s i 0∧t4=i∧F'=F)
  (fun t0 t1 t2 t3 t4 I' F'=>t0=3∧t2=dE (cW s E)∧t3=dS s i 0∧t4=i∧F'=F)
  (fun en I' F'=>en=e2∧F'=F) ?_
 unfold jT.V
 intro b b_t
 refine⟨⟨⟨_,by omega,by omega,rfl,by omega,by omega,hEd,rfl,rfl⟩, ?_⟩, ?_⟩
 ·intro x j n b0 b1 b2 b3 b4 m I1 F1 hI1 ⟨g0,g1,gm,gn0,gn1,gr,gv,gF⟩
  subst gF
  refine⟨fun hlt=>?_,fun hlt=>?_⟩
  ·have hlt:j<s.size:=of_decide_eq_true hlt
   refine⟨⟨by omega,hlt⟩, ?_⟩
   refine cV.ret (nc (bt s j) I1 _) fun I2 hI2=>⟨_,rfl,F1,.refl _,fun hd=>?_,fun hd=>?_⟩
   ·obtain⟨hw,hc0,hc1⟩:=zU hd
    rw[dw hlt,if_pos hd] at gr
    rw[gM hlt,if_pos hd] at gv
    have hr2:=dU (p:=db) (s:=s) (i:=j+1) (by omega)
    refine⟨fun hgt=>⟨?_,rfl⟩,fun hgt=>⟨⟨by omega,hlt⟩, ?_⟩⟩
    ·refine (congrArg Ending.returned (hbad (.inl ?_)).symm)
     have hgt:=of_decide_eq_true hgt
     have:=sn (s:=s) (i:=j+1) (v:=10*n+(bt s j-48)) (by omega)
     omega
    ·have hgt:=of_decide_eq_false hgt
     rw[hw,Cf (n:=10*n) (by omega),Cf (n:=10*n+_) (by omega),gN (by omega)]
     exact⟨_,by omega,by omega,by omega,rfl,by omega,by omega,gr,gv,rfl⟩
   ·rw[dw hlt,if_neg (by rw[hd];exact Bool.false_ne_true)] at gr
    rw[gM hlt,if_neg (by rw[hd];exact Bool.false_ne_true)] at gv
    exact⟨gr,gv,rfl⟩
  ·have hlt:¬j<s.size:=of_decide_eq_false hlt
   rw[jr (by omega)] at gr
   rw[nJ (by omega)] at gv
   exact⟨gr,gv,rfl⟩
 intro x en n b0 b1 b2 b3 b4 I3 F3 hI3 ⟨hen,hn,hF3⟩
 subst hen hF3
 rw[gN (n:=en-i) (by omega)]
 refine⟨⟨fun h=>⟨?_,rfl⟩,fun h=>⟨fun hl=>⟨⟨h0,h1⟩,fun h48=>⟨?_,rfl⟩,fun h48=>⟨?_, ?_,rfl⟩⟩,fun hl=>⟨?_, ?_,rfl⟩⟩⟩, ?_⟩
 ·exact congrArg Ending.returned (hbad (.inl (by have:=of_decide_eq_true h;omega))).symm
 ·exact congrArg Ending.returned (hbad (.inr (.inl ⟨of_decide_eq_true hl,by simpa using h48⟩))).symm
 ·intro hc;rw[hc.2] at h48;simp at h48
 ·have:=of_decide_eq_false h;omega
 ·intro hc;exact absurd hc.1 (of_decide_eq_false hl)
 ·have:=of_decide_eq_false h;omega
 intro x2 c0 c1 c2 c3 c4 I4 F4 hI4 ⟨hz,nov,hF4⟩
 subst hF4
 have hv0:=sn (s:=s) (i:=i) (v:=0) (by omega)
 rw[gN (n:=n) (by omega)]
 have hpos:en<s.size→cW s en=bt s en:=fun h=>by unfold cW;rw[if_pos h]
 have hneg:¬en<s.size→cW s en=0:=fun h=>by unfold cW;rw[if_neg h]
 refine⟨⟨fun hl=>⟨⟨by omega,of_decide_eq_true hl⟩,fun h=>⟨rfl, ?_,hn,rfl,rfl⟩,fun h=>⟨rfl, ?_,hn,rfl,rfl⟩⟩,fun hl=>⟨rfl, ?_,hn,rfl,rfl⟩⟩, ?_⟩
 ·rw[hpos (of_decide_eq_true hl),if_pos (by simpa using h)]
 ·rw[hpos (of_decide_eq_true hl),if_neg (by simpa using h)]
 ·rw[hneg (of_decide_eq_false hl)];rfl
 intro t0 t1 t2 t3 t4 I5 F5 hI5 ⟨ht0,ht2,ht3,ht4,hF5⟩
 subst hF5
 refine⟨⟨fun hl=>⟨⟨by omega,of_decide_eq_true hl⟩,fun h=>⟨ht0, ?_,ht3,ht4,rfl⟩,fun h=>⟨ht0, ?_,ht3,ht4,rfl⟩⟩,fun hl=>⟨ht0, ?_,ht3,ht4,rfl⟩⟩, ?_⟩
 ·rw[hpos (of_decide_eq_true hl),if_pos (by simpa using h)]
 ·rw[ht2,hpos (of_decide_eq_true hl),if_neg (c:=bt s en=112) (by simpa using h)]
 ·rw[ht2,hneg (of_decide_eq_false hl)];rfl
 clear ht0 ht2 ht3 ht4
 intro t0 t1 t2 t3 t4 I6 F6 hI6 ⟨ht0,ht2,ht3,ht4,hF6⟩
 subst hF6
 refine⟨⟨fun hl=>⟨⟨by omega,of_decide_eq_true hl⟩,fun h=>⟨ht0, ?_,ht3,ht4,rfl⟩,fun h=>⟨ht0, ?_,ht3,ht4,rfl⟩⟩,fun hl=>⟨ht0, ?_,ht3,ht4,rfl⟩⟩, ?_⟩
 ·unfold dE;rw[hpos (of_decide_eq_true hl),if_pos (by simpa using h)]
 ·unfold dE;rw[ht2,hpos (of_decide_eq_true hl),if_neg (c:=bt s en=116) (by simpa using h)]
 ·unfold dE;rw[ht2,hneg (of_decide_eq_false hl)];rfl
 clear ht0 ht2 ht3 ht4
 intro u0 u1 u2 u3 u4 I7 F7 hI7 ⟨hu0,hu2,hu3,hu4,hF7⟩
 subst hu0 hu2 hF7
 obtain rfl:i=u4:=hu4.symm
 refine⟨⟨fun h=>⟨?_,rfl⟩,fun h=>⟨?_,rfl⟩⟩, ?_⟩
 ·show _=if dE (cW s en)=1 then en else en+1
  rw[if_neg (by simpa using h),gN (by omega)]
 ·show _=if dE (cW s en)=1 then en else en+1
  rw[if_pos (by simpa using h)]
 intro e3 I8 F8 hI8 ⟨he3,hF8⟩
 subst he3 hF8
 have okk:¬(e2<s.size∧(c9 (bt s e2)=true∨(65≤bt s e2∧bt s e2≤90))) →
   (0≤i∧i≤e2∧e2≤(s.size:Int))∧∀(J:cS),jg (js s i).v2 F8 (.returned (Value.tuple #[Value.agg #[Value.int .u8 3,Value.string (s.extract (Int.toNat (i)) (Int.toNat (e2))),Value.int .u8 (dE (cW s en)),Value.int .i64 u3,Value.int .i64 i],Value.int .i64 0])) J F8:=fun h=>by
  refine⟨by omega,fun J=>⟨?_,rfl⟩⟩
  rw[hok (fun h'=>h'.elim nov fun h'=>h'.elim hz h),hu3]
  rfl
 refine⟨fun hl=>⟨⟨by omega,of_decide_eq_true hl⟩, ?_⟩,fun hl=>?_⟩
 ·have hl:=of_decide_eq_true hl
  refine cV.ret (oM (bt s e2) I8 _) fun I9 hI9=>⟨_,rfl,F8,.refl _,fun hi=>⟨?_,rfl⟩,fun hi=>⟨⟨by omega,hl⟩,fun h65=>⟨⟨by omega,hl⟩,fun h90=>⟨?_,rfl⟩,fun h90=>?_⟩,fun h65=>?_⟩⟩
  ·exact congrArg Ending.returned (hbad (.inr (.inr ⟨hl,.inl hi⟩))).symm
  ·exact congrArg Ending.returned (hbad (.inr (.inr ⟨hl,.inr ⟨of_decide_eq_true h65,of_decide_eq_true h90⟩⟩))).symm
  ·obtain⟨a1,a2⟩:=okk (fun h=>h.2.elim (fun h=>by rw[hi] at h;cases h) fun h=>of_decide_eq_false h90 h.2)
   exact⟨a1,a2 _⟩
  ·obtain⟨a1,a2⟩:=okk (fun h=>h.2.elim (fun h=>by rw[hi] at h;cases h) fun h=>of_decide_eq_false h65 h.1)
   exact⟨a1,a2 _⟩
 ·obtain⟨a1,a2⟩:=okk (fun h=>of_decide_eq_false hl h.1)
  exact⟨a1,a2 _⟩
def ju:List ByteArray:=[⟨#[61,61]⟩,⟨#[33,61]⟩,⟨#[60,61]⟩,⟨#[62,61]⟩,⟨#[38,38]⟩,⟨#[124,124]⟩,⟨#[123]⟩,⟨#[125]⟩,⟨#[40]⟩,⟨#[41]⟩,⟨#[44]⟩,⟨#[59]⟩,⟨#[63]⟩,⟨#[58]⟩,⟨#[61]⟩,⟨#[33]⟩,⟨#[60]⟩,⟨#[62]⟩,⟨#[43]⟩,⟨#[45]⟩,⟨#[42]⟩,⟨#[47]⟩,⟨#[37]⟩]
def ni(s:ByteArray)(i:Int)(m:ByteArray):Bool:=decide (i+(m.size:Int)≤s.size)&&((cut s i (i+(m.size:Int))).toList==m.toList)
theorem CW{a b:ByteArray}(h:a.toList=b.toList):a=b:=by
 rw[Lib.toList_data,Lib.toList_data] at h
 have:a.data=b.data:=Array.toList_inj.1 h
 cases a;cases b;simp_all
theorem qf{a:ByteArray}{k:Nat}(h:k<a.size):bt a k=(a.data[k].toNat:Int):=by
 have h2:a[k]? = some a[k]:=by simp[h]
 unfold bt
 rw[Int.toNat_natCast,h2]
 rfl
theorem xZ{a b:ByteArray}(hs:a.size=b.size)(h:∀k:Nat,k<a.size→bt a k=bt b k):a=b:=by
 have:a.data=b.data:=by
  refine Array.ext hs fun k h1 h2=>?_
  have:=h k h1
  rw[qf h1,qf h2] at this
  exact UInt8.toNat_inj.1 (by omega)
 cases a;cases b;simp_all
theorem uV{s:ByteArray}{i:Int}(h0:0≤i)(m:ByteArray):ni s i m=true↔i+m.size≤s.size∧∀k:Nat,k<m.size→bt s (i+k)=bt m k:=by
 unfold ni
 simp only[Bool.and_eq_true,decide_eq_true_eq,beq_iff_eq]
 refine⟨fun ⟨h1,h2⟩=>⟨h1,fun k hk=>?_⟩,fun ⟨h1,h2⟩=>⟨h1, ?_⟩⟩
 ·have:=CW h2
  rw[←ld (j:=i+m.size) h0 (by omega) (by omega) h1,this]
 ·have hc:=eD (s:=s) h0 (by omega:i≤i+m.size) h1
  have:cut s i (i+m.size)=m:=xZ (by omega) fun k hk=>by
   rw[ld h0 (by omega) (by omega) h1]
   exact h2 k (by omega)
  rw[this]
theorem Fo{s:ByteArray}{i:Int}(h0:0≤i)(h:i<s.size)(c:UInt8):ni s i ⟨#[c]⟩=(bt s i==(c.toNat:Int)):=by
 rw[Bool.eq_iff_iff,uV h0,beq_iff_eq]
 refine⟨fun ⟨_,h⟩=>by have:=h 0 (Nat.lt_succ_self 0);rwa [Int.natCast_zero,Int.add_zero] at this,fun hc=>⟨by show i+((1:Nat):Int)≤_;omega,fun k hk=>?_⟩⟩
 have:k=0:=by have:k<1:=hk;omega
 subst this
 rw[Int.natCast_zero,Int.add_zero,hc];rfl
theorem DA{s:ByteArray}{i:Int}(h0:0≤i)(c d:UInt8)(hd:d.toNat≠0):ni s i ⟨#[c,d]⟩=(bt s i==(c.toNat:Int)&&cW s (i+1)==(d.toNat:Int)):=by
 rw[Bool.eq_iff_iff,uV h0]
 simp only[Bool.and_eq_true,beq_iff_eq]
 refine⟨fun ⟨h1,h⟩=>⟨?_, ?_⟩,fun ⟨hc,hd'⟩=>?_⟩
 ·have:=h 0 (show 0<2 by decide);rwa [Int.natCast_zero,Int.add_zero] at this
 ·have h1:i+((2:Nat):Int)≤s.size:=h1
  unfold cW
  rw[if_pos (by omega)]
  exact h 1 (show 1<2 by decide)
 ·have hl:i+1<s.size:=by
   rcases Int.lt_or_le (i+1) s.size with h | h
   ·exact h
   ·unfold cW at hd';rw[if_neg (by omega)] at hd';omega
  unfold cW at hd'
  rw[if_pos hl] at hd'
  refine⟨by show i+((2:Nat):Int)≤_;omega,fun k hk=>?_⟩
  have hk:k<2:=hk
  rcases (by omega:k=0∨k=1) with rfl | rfl
  ·rw[Int.natCast_zero,Int.add_zero,hc];rfl
  ·exact hd'
theorem zV{s:ByteArray}{i:Int}(h0:0≤i)(h:i<s.size) :
  (ju.find? (ni s i)=none∧dP s i=0)∨(∃m,ju.find? (ni s i)=some m∧(m.size:Int)=dP s i∧0<dP s i∧cut s i (i+dP s i)=m):=by
 have key:(ju.find? (ni s i)=none∧dP s i=0)∨(∃m,ju.find? (ni s i)=some m∧(m.size:Int)=dP s i∧0<dP s i):=by
  unfold ju
  simp only[List.find?_cons,List.find?_nil,Fo h0 h,DA h0 _ 61 (by decide),DA h0 _ 38 (by decide),DA h0 _ 124 (by decide)]
  unfold dP
  generalize bt s i=c
  generalize cW s (i+1)=d
  clear h h0
  repeat' split
  all_goals first | (simp_all [single];done) | (simp_all [single];rfl) | (simp_all [single];omega)
 rcases key with hk | ⟨m,hm,hs,hp⟩
 ·exact .inl hk
 ·refine .inr ⟨m,hm,hs,hp, ?_⟩
  have:=List.find?_some hm
  rw[uV h0] at this
  rw[←hs]
  have hc:=eD (s:=s) h0 (by omega:i≤i+m.size) this.1
  refine xZ (by omega) fun k hk=>?_
  rw[ld h0 (by omega) (by omega) this.1]
  exact this.2 k (by omega)
theorem wN{k:Nat}{m:ByteArray}(h:ju[k]? = some m):m.size≤2:=by
 have:=List.mem_of_getElem? h
 simp only[ju,List.mem_cons,List.not_mem_nil,or_false] at this
 rcases this with h | h | h | h | h | h | h | h | h | h | h | h | h | h | h | h | h | h | h | h | h | h | h<;>(subst h;decide)
theorem x4{s:ByteArray}(hs:dV s){i:Int}(h0:0≤i)(h1:i<s.size)(I:cS)(F:cR):cV P 58 #[.string s,.int .i64 i] I F (jg (iQ s i).v2 F):=by
 unfold dV at hs
 have hm:=zV h0 h1
 refine mq.vc (fun x k b0 b1 b2 b3 b4 m I' F'=>0≤k∧k≤23∧m=(23-k).toNat∧ju.find? (ni s i)=(ju.drop k.toNat).find? (ni s i)∧F'=F) ?_
 unfold mq.V
 intro b b1 I1 hI1 hb1
 have hS:Sl I1 1 lb (some ⟨b1,0,none⟩) 23 ju:=Sl.ki (f:=lb) (z:=1) (l:=ju) (fun _=>rfl) hb1 (by kernel_rfl)
 refine⟨⟨_,by omega,by omega,rfl,rfl,rfl⟩,fun x k c0 c1 c2 c3 c4 m I2 F2 hI2 ⟨g0,g1,gm,gf,gF⟩=>⟨fun hlt=>?_,fun hlt=>?_⟩⟩
 ·have hlt:k<23:=of_decide_eq_true hlt
  obtain⟨ad,w,ha,hw,hrd⟩:=(hS.mono hI2).at (i:=k) g0 hlt
  have hwz:=wN hw
  subst gF
  rw[zN hw] at gf
  have cont:ni s i w=false→∃m6,m6<m∧(0≤IntKind.wrap .i64 (k+1)∧IntKind.wrap .i64 (k+1)≤23∧m6=(23-IntKind.wrap .i64 (k+1)).toNat ∧
    ju.find? (ni s i)=(ju.drop (IntKind.wrap .i64 (k+1)).toNat).find? (ni s i)∧F2=F2):=fun h=>by
   rw[gN (by omega)]
   refine⟨(23-(k+1)).toNat,by omega,by omega,by omega,rfl, ?_,rfl⟩
   rw[gf,h,show (k+1).toNat=k.toNat+1 by omega];rfl
  refine⟨⟨g0,hlt⟩,ad,ha,w,hrd _, ?_⟩
  rw[gN (n:=i+w.size) (by omega)]
  refine⟨fun hle=>⟨⟨h0,by omega,of_decide_eq_true hle⟩,⟨g0,hlt⟩,ad,ha,w,hrd _,fun he=>⟨⟨g0,hlt⟩,ad,ha,w,hrd _, ?_,rfl⟩,fun he=>cont ?_⟩,fun hle=>cont ?_⟩
  ·have hhit:ni s i w=true:=by
    unfold ni;rw[hle,Bool.true_and];exact he
   rw[hhit,if_pos rfl] at gf
   rcases hm with ⟨h,_⟩ | ⟨w',h,hsz,hp,hcut⟩
   ·rw[h] at gf;cases gf
   ·rw[h] at gf;cases gf
    unfold iQ
    rw[if_neg (by omega),hcut];rfl
  ·unfold ni;rw[hle,Bool.true_and];exact he
  ·unfold ni;rw[hle];rfl
 ·have hlt:¬k<23:=of_decide_eq_false hlt
  refine⟨?_,gF⟩
  rw[List.drop_eq_nil_of_le (by show 23≤_;omega)] at gf
  rcases hm with ⟨h,hz⟩ | ⟨w',h,_⟩
  ·unfold iQ
   rw[if_pos hz];rfl
  ·rw[h] at gf;cases gf
def TR.v3:TR→Value
 | .ok t=>.tuple #[t.v,.int .i64 0,.int .i64 0]
 | .bad e p=>.tuple #[(iL 0).v,.int .i64 e,.int .i64 p]
theorem Be(s:ByteArray)(i:Int):(∃t,js s i=.ok t)∨∃e,js s i=.bad e i∧(e != 0)=true:=by
 rcases sA s i with ⟨t,h,_⟩ | h
 ·exact .inl ⟨t,h⟩
 ·exact .inr ⟨_,h,rfl⟩
theorem zW(s:ByteArray)(i:Int):(∃t,iP s i=.ok t)∨∃e,iP s i=.bad e i∧(e != 0)=true:=by
 unfold iP;simp only;split
 ·exact .inr ⟨_,rfl,rfl⟩
 ·exact .inl ⟨_,rfl⟩
theorem zX(s:ByteArray)(i:Int):(∃t,iQ s i=.ok t)∨∃e,iQ s i=.bad e i∧(e != 0)=true:=by
 unfold iQ;split
 ·exact .inr ⟨_,rfl,rfl⟩
 ·exact .inl ⟨_,rfl⟩
theorem Bf{c:Int}(h:fj c=true):db c=false:=by
 simp only[fj,db,Bool.and_eq_true,decide_eq_true_eq,Bool.and_eq_false_iff,decide_eq_false_iff_not] at h ⊢
 omega
theorem Bg{s:ByteArray}(hs:dV s){f:Int}(h0:0≤f)(h1:f≤s.size)(I:cS)(F:cR):cV P 22 #[.string s,.int .i64 f] I F (jg (eJ s f).v3 F):=by
 have hs':=hs
 unfold dV at hs'
 refine nR.vc ?_
 unfold nR.V
 intro b
 have ho:=eO (s:=s) h1
 refine cV.ret (xY hs h0 h1 I _) fun I1 hI1=>⟨_,rfl,F,.refl _, ?_⟩
 unfold eJ
 simp only
 generalize da s f=r at ho ⊢
 refine⟨fun h=>⟨?_,rfl⟩,fun h b_t=>?_⟩
 ·rw[if_pos (by simpa using h)];rfl
 ·have hne:r≠s.size:=by simpa using h
  have hlt:r<s.size:=by omega
  rw[if_neg hne]
  refine⟨⟨by omega,hlt⟩, ?_⟩
  refine cV.ret (mh (bt s r) I1 _) fun I2 hI2=>⟨_,rfl,F,.refl _,fun hm=>?_,fun hm=>⟨⟨by omega,hlt⟩, ?_⟩⟩
  ·rw[if_neg (by rw[Bf hm];exact Bool.false_ne_true),if_pos hm]
   refine cV.ret (wM hs (by omega) hlt I2 _) fun I3 hI3=>?_
   rcases zW s r with ⟨t,ht⟩ | ⟨e,ht,he⟩
   ·rw[ht];exact⟨_,_,_,_,_,_,rfl,F,.refl _,fun h=>absurd h (by decide),fun _=>⟨rfl,rfl⟩⟩
   ·rw[ht];exact⟨_,_,_,_,_,_,rfl,F,.refl _,fun h=>⟨rfl,rfl⟩,fun h=>by rw[he] at h;cases h⟩
  ·rw[if_neg (c:=fj (bt s r)=true) (by rw[hm];exact Bool.false_ne_true)]
   refine cV.ret (nc (bt s r) I2 _) fun I3 hI3=>⟨_,rfl,F,.refl _,fun hd=>?_,fun hd=>?_⟩
   ·rw[if_pos hd]
    refine cV.ret (uU hs (by omega) hlt I3 _) fun I4 hI4=>?_
    rcases Be s r with ⟨t,ht⟩ | ⟨e,ht,he⟩
    ·rw[ht];exact⟨_,_,_,_,_,_,rfl,F,.refl _,fun h=>absurd h (by decide),fun _=>⟨rfl,rfl⟩⟩
    ·rw[ht];exact⟨_,_,_,_,_,_,rfl,F,.refl _,fun h=>⟨rfl,rfl⟩,fun h=>by rw[he] at h;cases h⟩
   ·rw[if_neg (by rw[hd];exact Bool.false_ne_true)]
    refine cV.ret (x4 hs (by omega) hlt I3 _) fun I4 hI4=>?_
    rcases zX s r with ⟨t,ht⟩ | ⟨e,ht,he⟩
    ·rw[ht];exact⟨_,_,_,_,_,_,rfl,F,.refl _,fun h=>absurd h (by decide),fun _=>⟨rfl,rfl⟩⟩
    ·rw[ht];exact⟨_,_,_,_,_,_,rfl,F,.refl _,fun h=>⟨rfl,rfl⟩,fun h=>by rw[he] at h;cases h⟩
def jl(s:ByteArray):Nat→Int→List Tok×Option (Int×Int)
 | 0,_=>([],none)
 | n+1,f=>match eJ s f with
   | .bad e p=>([],some (e,p))
   | .ok t=>if t.kind=0 then ([t],none) else (t::(jl s n (t.pos+t.text.size)).1,(jl s n (t.pos+t.text.size)).2)
def hU(s:ByteArray)(f:Int):List Tok×Option (Int×Int):=jl s (s.size-f+1).toNat f
theorem gO{s:ByteArray}{f:Int}(h0:0≤f)(h1:f≤s.size){t:Tok}(ht:eJ s f=.ok t):t.pos+t.text.size≤s.size∧f≤t.pos∧(t.kind≠0→f+1≤t.pos+t.text.size):=by
 have ho:=eO (s:=s) h1
 rcases fF h0 h1 with ⟨t',ht',hp,hl,_,hk⟩ | ⟨e,ht',_⟩
 ·rw[ht] at ht';cases ht'
  refine⟨hl,by omega,fun hne=>?_⟩
  rcases hk with ⟨h,_⟩ | ⟨_,_,h⟩
  ·exact absurd h hne
  ·omega
 ·rw[ht] at ht';cases ht'
theorem sE(s:ByteArray):∀(n n':Nat) (f:Int),0≤f→f≤s.size→(s.size-f+1).toNat≤n→(s.size-f+1).toNat≤n'→jl s n f=jl s n' f
 | 0,n',f,h0,h1,hn,hn'=>by omega
 | n+1,0,f,h0,h1,hn,hn'=>by omega
 | n+1,n'+1,f,h0,h1,hn,hn'=>by
   unfold jl
   cases ht:eJ s f with
   | bad e p=>rfl
   | ok t =>
     have:=gO h0 h1 ht
     by_cases hk:t.kind=0
     ·simp[hk]
     ·have:=this.2.2 hk
      simp only[hk,if_false]
      rw[sE s n n' _ (by omega) (by omega) (by omega) (by omega)]
theorem fQ{s:ByteArray}{f:Int}(h0:0≤f)(h1:f≤s.size):hU s f=match eJ s f with
  | .bad e p=>([],some (e,p))
  | .ok t=>if t.kind=0 then ([t],none) else (t::(hU s (t.pos+t.text.size)).1,(hU s (t.pos+t.text.size)).2):=by
 unfold hU
 obtain⟨n,hn⟩:∃n,(s.size-f+1).toNat=n+1:=⟨(s.size-f+1).toNat-1,by omega⟩
 rw[hn]
 show (match eJ s f with
  | .bad e p=>([],some (e,p))
  | .ok t=>if t.kind=0 then ([t],none) else (t::(jl s n (t.pos+t.text.size)).1,(jl s n (t.pos+t.text.size)).2))=_
 cases ht:eJ s f with
 | bad e p=>rfl
 | ok t =>
   have:=gO h0 h1 ht
   by_cases hk:t.kind=0
   ·simp[hk]
   ·have:=this.2.2 hk
    simp only[hk,if_false]
    rw[sE s n _ _ (by omega) (by omega) (by omega) (Nat.le_refl _)]
def pE(s:ByteArray):Except (Int×Int) (List Tok) :=
 if (s.size:Int)>4096 then .error (110,0) else match hU s 0 with
  | (l,none)=>.ok l
  | (_,some ep)=>.error ep
def Tok.enc(t:Tok):List Value:=[.int .u8 t.kind,.string t.text,.int .u8 t.dJ,.int .i64 t.n,.int .i64 t.pos]
def yT(r:Except (Int×Int) (List Tok))(F:cR)(e:Ending)(I:cS)(G:cR):Prop :=
 G=F∧match r with
  | .ok l=>∃a n c,e=.returned (.tuple #[.slice a n c,.int .i64 0,.int .i64 0])∧Sl I 5 Tok.enc a n l
  | .error (e',p)=>e=.returned (.tuple #[.slice none 0 0,.int .i64 e',.int .i64 p])
def pF(r:Except (Int×Int) (List Tok))(F:cR)(e:Ending)(I:cS)(G:cR):Prop :=
 match r with
  | .ok l=>∃a n c A,e=.returned (.tuple #[.slice a n c,.int .i64 0,.int .i64 0])∧Acc 5 Tok.enc 76 a n c l A∧G=A++F
  | .error (e',p)=>∃A,e=.returned (.tuple #[.slice none 0 0,.int .i64 e',.int .i64 p])∧G=A++F
theorem pF.keep{f:Nat}{args:Array Value}{I:cS}{F:cR}{r:Except (Int×Int) (List Tok)}(h:cV P f args I F (pF r F)):cV P f args I F (yT r F):=by
 refine h.keep fun e I' G w hl hs hq=>?_
 unfold pF at hq
 split at hq
 ·obtain⟨a,n,c,A,he,hA,hG⟩:=hq
  subst hG
  obtain⟨J,h1,h2,h3⟩:=Acc.keep (z:=5) (f:=Tok.enc) (fun _=>rfl) hA hs
  exact⟨J,F,h1,h2,rfl,a,n,c,he,h3⟩
 ·obtain⟨A,he,hG⟩:=hq
  subst hG
  exact⟨I',F,cS.le_refl _,hs.drop,rfl,he⟩
theorem Ci:∀(t:Tok),∀u∈t.enc,u.oneCell'=true:=by
 intro t u hu
 simp only[Tok.enc,List.mem_cons,List.not_mem_nil,or_false] at hu
 rcases hu with h | h | h | h | h<;>(subst h;rfl)
theorem x5{a:Option Addr}{n c:Nat}{l:List Tok}{A F:cR}(hA:Acc 5 Tok.enc 76 a n c l A)(hl:l.length≤1000000000)(t:Tok){b:Nat}{I:cS}(hb:I b=some (.cells t.enc.toArray 76 (0,0))) :
  fh P (Builtin.append_ #[80,80] 80 #[.slice a n c,.slice (some ⟨b,0,none⟩) 1 1]) I (A++F) fun v I' G=>∃a' n' c' A',v=.slice a' n' c'∧Acc 5 Tok.enc 76 a' n' c' (l++[t]) A'∧G=A'++F:=by
 refine (pk (f:=Tok.enc) (zv:=(iL 0).v) (fun _=>rfl) (by':=48) (by kernel_rfl) (by kernel_rfl) rfl (by decide) hA (xs:=[t]) (fun x _=>Ci x) (by simp) rfl ?_ (by simp only[List.length_cons,List.length_nil];omega)).mono
  fun v I' G _ ⟨a',n',c',A',h1,h2,h3,_⟩=>⟨a',n',c',A',h1,h2,h3⟩
 exact⟨rfl,_,_,_,.inl hb,fun j hj=>by simp⟩
theorem x6{s:ByteArray}(hs:dV s)(I:cS)(F:cR):cV P 124 #[.string s] I F (pF (pE s) F):=by
 refine mn.vc (fun x_a x_n x_c x x1 a n c f m I' F'=>0≤f∧f≤s.size∧m=(s.size-f).toNat∧∃l A,Acc 5 Tok.enc 76 a n c l A∧F'=A++F∧l.length≤f ∧
  hU s 0=(l++(hU s f).1,(hU s f).2)) ?_
 unfold mn.V
 unfold pE
 refine⟨fun h=>?_,fun h=>?_⟩
 ·rw[if_pos (of_decide_eq_true h)]
  exact⟨[],rfl,rfl⟩
 have h:=of_decide_eq_false h
 rw[if_neg h]
 refine⟨⟨_,by omega,by omega,rfl,[],[],Acc.nil,rfl,by decide,rfl⟩, ?_⟩
 intro x_a x_n x_c x x1 a n c f m I1 F1 hI1 ⟨h0,h1,gm,l,A,hA,hF,hl,ht⟩
 subst hF
 rw[fQ h0 h1] at ht
 refine cV.ret (sB hs h0 h1 I1 _) fun I2 hI2=>?_
 rcases fF h0 h1 with ⟨t,htok,htat⟩ | ⟨e,htok,he⟩
 ·rw[htok] at ht ⊢
  have hnx:=gO h0 h1 htok
  refine⟨_,_,_,_,_,_,rfl,_,.refl _,fun b_t=>⟨fun h=>absurd h (by decide),fun _=>?_⟩⟩
  intro b I3 hI3 hb
  refine fh.perm ((x5 hA (by omega) t hb (F:=(b_t,_)::F)).mono fun v I4 G2 hI4 ⟨a',n',c',A',hv,hA',hG⟩=>?_) List.perm_middle.symm
  subst hG
  refine⟨_,_,_,hv,A'++F,List.perm_middle,fun hk=>?_,fun hk=>?_⟩
  ·have hk:t.kind=0:=by simpa using hk
   simp only[hk,if_true] at ht
   rw[ht]
   exact⟨_,_,_,_,rfl,hA',rfl⟩
  ·have hk:t.kind≠0:=by simpa using hk
   have:=hnx.2.2 hk
   simp only[hk,if_false] at ht
   rw[gN (by omega)]
   refine⟨_, ?_,by omega,by omega,rfl,_,_,hA',rfl, ?_, ?_⟩
   ·omega
   ·rw[List.length_append,List.length_singleton];omega
   ·rw[ht,List.append_assoc];rfl
 ·rw[htok] at ht ⊢
  refine⟨_,_,_,_,_,_,rfl,_,.refl _,fun b_t=>⟨fun _=>?_,fun h=>?_⟩⟩
  ·rw[ht]
   exact⟨A,rfl,rfl⟩
  ·rcases he with rfl | rfl | rfl<;>exact absurd h (by decide)
theorem wO{s:ByteArray}(hs:dV s)(I:cS)(F:cR):cV P 124 #[.string s] I F (yT (pE s) F):=pF.keep (x6 hs I F)
structure PF where
 e:Int
 pos:Int
 tok:Bool
structure PS where
 next:Nat
 f:PF
structure PC where
 l:List Tok
 bad:Int
 pos:Int
def eP:Px:=.mk 0 0 0 0 0 ⟨#[]⟩ [] 0
def PS.over(s:PS):Bool:=s.f.e != 0
def PS.inc(s:PS):PS:=⟨s.next+1,s.f⟩
section
variable (c:PC)
def PC.tok(i:Nat):Tok:=(c.l[i]?).getD (iL 0)
def PC.now(s:PS):Tok:=if s.over||decide (c.l.length≤s.next) then iL 0 else c.tok s.next
def PC.cX(e:Int)(s:PS):PS:=if s.over then s else if c.l.length≤s.next then ⟨s.next,⟨c.bad,c.pos,true⟩⟩ else ⟨s.next,⟨e,(c.tok s.next).pos,false⟩⟩
def PC.eo(w:ByteArray)(s:PS):Bool:=(c.now s).text.toList==w.toList&&((c.now s).kind==1||(c.now s).kind==4)
def PC.gA(s:PS):List ByteArray→Int→Int
 | [],_=>-1
 | w::r,i=>if c.eo w s then i else PC.gA s r (i+1)
def PC.any(ws:List ByteArray)(s:PS):Int:=c.gA s ws 0
def PC.take(w:ByteArray)(s:PS):Int×PS:=if c.eo w s then ((c.now s).pos,s.inc) else (0,c.cX 130 s)
def PC.name(s:PS):ByteArray×PS:=if (c.now s).kind=2 then ((c.now s).text,s.inc) else (⟨#[]⟩,c.cX 130 s)
def PC.cT(d:Int)(s:PS):PS:=if 24<d+1 then c.cX 132 s else s
def pG(dJ n pos:Int):Px:=.mk 1 0 dJ n 0 ⟨#[]⟩ [] pos
def PC.literal(s:PS):(Px×Bool)×PS :=
 if (c.now s).kind=3 then ((pG (c.now s).dJ (c.now s).n (c.now s).pos,true),s.inc)
 else if (c.now s).kind=1∧((c.now s).text.toList=(⟨#[116,114,117,101]⟩:ByteArray).toList∨(c.now s).text.toList=(⟨#[102,97,108,115,101]⟩:ByteArray).toList) then ((pG 5 (if (c.now s).text.toList=(⟨#[116,114,117,101]⟩:ByteArray).toList then 1 else 0) (c.now s).pos,true),s.inc)
 else if (c.now s).kind=1∧((c.now s).text.toList=(⟨#[98,117,121]⟩:ByteArray).toList∨(c.now s).text.toList=(⟨#[115,101,108,108]⟩:ByteArray).toList) then ((pG 6 (if (c.now s).text.toList=(⟨#[115,101,108,108]⟩:ByteArray).toList then 2 else 1) (c.now s).pos,true),s.inc)
 else ((eP,false),s)
structure Lv where
 ex:PS→Px×PS
 un:PS→Px×PS
def PC.dB(nx:Lv):Nat→Bool→PS→List Px×PS
 | 0,_,s=>([],s)
 | n+1,first,s =>
   let r:=nx.ex (if first then s else (c.take (⟨#[44]⟩:ByteArray) s).2)
   let q:=PC.dB nx n false r.2
   (r.1::q.1,q.2)
def PC.call(nx:Lv)(d:Int)(kind oper dJ pos:Int)(many:Nat)(s:PS):Px×PS :=
 if (c.cT d s).over then (eP,c.cT d s)
 else
  let q:=c.dB nx many true (c.take (⟨#[40]⟩:ByteArray) (c.cT d s).inc).2
  (.mk kind oper dJ 0 0 ⟨#[]⟩ q.1 pos,(c.take (⟨#[41]⟩:ByteArray) q.2).2)
def PC.rest(nx:Lv)(d:Int)(s:PS):Px×PS :=
 if c.eo (⟨#[104,97,115]⟩:ByteArray) s then
  if c.any [(⟨#[98,105,100]⟩:ByteArray),(⟨#[97,115,107]⟩:ByteArray),(⟨#[108,97,115,116]⟩:ByteArray)] s.inc<0 then (eP,c.cX 130 s.inc) else (.mk 4 0 0 0 (c.any [(⟨#[98,105,100]⟩:ByteArray),(⟨#[97,115,107]⟩:ByteArray),(⟨#[108,97,115,116]⟩:ByteArray)] s.inc+1) ⟨#[]⟩ [] (c.now s).pos,s.inc.inc)
 else if c.eo (⟨#[40]⟩:ByteArray) s then
  if (c.cT d s).over then (eP,c.cT d s)
  else
   let r:=nx.ex (c.cT d s).inc
   (r.1,(c.take (⟨#[41]⟩:ByteArray) r.2).2)
 else (eP,c.cX 130 s)
def jv:List ByteArray:=[(⟨#[98,105,100]⟩:ByteArray),(⟨#[97,115,107]⟩:ByteArray),(⟨#[108,97,115,116]⟩:ByteArray),(⟨#[118,111,108,117,109,101]⟩:ByteArray),(⟨#[110,111,119]⟩:ByteArray),(⟨#[111,112,101,110]⟩:ByteArray)]
def gE:List ByteArray:=[(⟨#[97,98,115]⟩:ByteArray),(⟨#[109,105,110]⟩:ByteArray),(⟨#[109,97,120]⟩:ByteArray)]
def jN:List ByteArray:=[(⟨#[105,110,116]⟩:ByteArray),(⟨#[113,116,121]⟩:ByteArray),(⟨#[112,114,105,99,101]⟩:ByteArray),(⟨#[116,105,109,101]⟩:ByteArray)]
def PC.one(nx:Lv)(d:Int)(s:PS):Px×PS :=
 if (c.literal s).1.2 then ((c.literal s).1.1,(c.literal s).2)
 else if (c.now s).kind=2 then (.mk 2 0 0 0 0 (c.now s).text [] (c.now s).pos,s.inc)
 else if 0≤c.any jv s then (.mk 3 0 0 0 (c.any jv s+1) ⟨#[]⟩ [] (c.now s).pos,s.inc)
 else if 0≤c.any gE s then c.call nx d 8 (3+c.any gE s) 0 (c.now s).pos (if c.any gE s=0 then 1 else 2) s
 else if 0≤c.any jN s then c.call nx d 9 0 (1+c.any jN s) (c.now s).pos 1 s
 else c.rest nx d s
def kQ:List ByteArray:=[(⟨#[45]⟩:ByteArray),(⟨#[33]⟩:ByteArray)]
def PC.unary(nx:Lv)(d:Int)(s:PS):Px×PS :=
 if c.any kQ s<0 then c.one nx d s
 else if (c.cT d s).over then (eP,c.cT d s)
 else
  let r:=nx.un (c.cT d s).inc
  (.mk 5 (1+c.any kQ s) 0 0 0 ⟨#[]⟩ [r.1] (c.now (c.cT d s)).pos,r.2)
def iS(o pos:Int)(a b:Px):Px:=.mk 6 o 0 0 0 ⟨#[]⟩ [a,b] pos
def PC.dM(ws:List ByteArray)(o:Int)(sub:PS→Px×PS):Nat→Px→PS→Px×PS
 | 0,n,s=>(n,s)
 | m+1,n,s=>if c.any ws s<0 then (n,s) else
   let k:=sub s.inc
   PC.dM ws o sub m (iS (o+c.any ws s) (c.now s).pos n k.1) k.2
def PC.loop(ws:List ByteArray)(o:Int)(sub:PS→Px×PS)(s:PS):Px×PS:=c.dM ws o sub c.l.length (sub s).1 (sub s).2
def Cj:List ByteArray:=[(⟨#[42]⟩:ByteArray),(⟨#[47]⟩:ByteArray),(⟨#[37]⟩:ByteArray)]
def DB:List ByteArray:=[(⟨#[43]⟩:ByteArray),(⟨#[45]⟩:ByteArray)]
def iU:List ByteArray:=[(⟨#[61,61]⟩:ByteArray),(⟨#[33,61]⟩:ByteArray),(⟨#[60]⟩:ByteArray),(⟨#[60,61]⟩:ByteArray),(⟨#[62]⟩:ByteArray),(⟨#[62,61]⟩:ByteArray)]
def DC:List ByteArray:=[(⟨#[38,38]⟩:ByteArray)]
def Fp:List ByteArray:=[(⟨#[124,124]⟩:ByteArray)]
def PC.product(nx:Lv)(d:Int)(s:PS):Px×PS:=c.loop Cj 8 (c.unary nx d) s
def PC.sum(nx:Lv)(d:Int)(s:PS):Px×PS:=c.loop DB 6 (c.product nx d) s
def PC.compare(nx:Lv)(d:Int)(s:PS):Px×PS :=
 let n:=c.sum nx d s
 if c.any iU n.2<0 then n else
  let k:=c.sum nx d n.2.inc
  (iS (11+c.any iU n.2) (c.now n.2).pos n.1 k.1,k.2)
def PC.and(nx:Lv)(d:Int)(s:PS):Px×PS:=c.loop DC 17 (c.compare nx d) s
def PC.or(nx:Lv)(d:Int)(s:PS):Px×PS:=c.loop Fp 18 (c.and nx d) s
def PC.expr(nx:Lv)(d:Int)(s:PS):Px×PS :=
 let n:=c.or nx d s
 if c.eo (⟨#[63]⟩:ByteArray) n.2 then
  if (c.cT d n.2).over then (eP,c.cT d n.2)
  else
   let a:=nx.ex (c.cT d n.2).inc
   let b:=nx.ex (c.take (⟨#[58]⟩:ByteArray) a.2).2
   (.mk 7 0 0 0 0 ⟨#[]⟩ [n.1,a.1,b.1] (c.now (c.cT d n.2)).pos,b.2)
 else n
def PC.lv(nx:Lv)(d:Int):Lv:=⟨c.expr nx d,c.unary nx d⟩
def PC.lvl:Nat→Int→Lv
 | 0,d=>c.lv ⟨fun s=>(eP,s),fun s=>(eP,s)⟩ d
 | k+1,d=>c.lv (PC.lvl k (d+1)) d
def PC.dW(s:PS):Px×PS:=(c.lvl 24 0).ex s
def iV:List ByteArray:=[(⟨#[105,110,116]⟩:ByteArray),(⟨#[113,116,121]⟩:ByteArray),(⟨#[112,114,105,99,101]⟩:ByteArray),(⟨#[116,105,109,101]⟩:ByteArray),(⟨#[98,111,111,108]⟩:ByteArray),(⟨#[115,105,100,101]⟩:ByteArray)]
def PC.jL(nm:ByteArray)(t pos pos2:Int)(minus:Bool)(n:Px)(s:PS):eg×PS:=(⟨nm,t,if minus then .mk 5 1 0 0 0 ⟨#[]⟩ [n] pos2 else n,pos⟩,(c.take (⟨#[59]⟩:ByteArray) s).2)
def PC.hY(nm:ByteArray)(t pos pos2:Int)(minus:Bool)(s:PS):eg×PS :=
 if minus=true∧(c.now s).kind≠3 then (⟨nm,t,eP,pos⟩,c.cX 130 s) else c.jL nm t pos pos2 minus (c.literal s).1.1 (if (c.literal s).1.2 then (c.literal s).2 else c.cX 130 (c.literal s).2)
def PC.jh(nm:ByteArray)(t pos:Int)(s:PS):eg×PS:=c.hY nm t pos (c.now s).pos (c.eo (⟨#[45]⟩:ByteArray) s) (if c.eo (⟨#[45]⟩:ByteArray) s then s.inc else s)
def PC.ig(nm:ByteArray)(pos:Int)(s:PS):eg×PS:=if c.any iV s<0 then (⟨nm,0,eP,pos⟩,c.cX 130 s) else c.jh nm (1+c.any iV s) pos (c.take (⟨#[61]⟩:ByteArray) s.inc).2
def PC.kR(s:PS):eg×PS:=c.ig (c.name (c.take (⟨#[114,101,103]⟩:ByteArray) s).2).1 (c.take (⟨#[114,101,103]⟩:ByteArray) s).1 (c.name (c.take (⟨#[114,101,103]⟩:ByteArray) s).2).2
def fY:List ByteArray:=[(⟨#[108,105,109,105,116]⟩:ByteArray),(⟨#[105,111,99]⟩:ByteArray),(⟨#[102,111,107]⟩:ByteArray),(⟨#[112,111,115,116]⟩:ByteArray)]
def PC.eh(s:PS):ByteArray×PS:=if c.eo (⟨#[97,115]⟩:ByteArray) s then c.name s.inc else (⟨#[]⟩,s)
def PC.jI(x y:Px)(pos:Int)(z:Px)(o:Int)(s:PS):fA×PS:=(⟨1,o,(c.eh s).1,x,y,z,eP,pos⟩,(c.eh s).2)
def PC.ij(x y:Px)(pos:Int)(z:Px)(s:PS):fA×PS:=if c.any fY s<0 then (⟨1,2,⟨#[]⟩,x,y,z,eP,pos⟩,c.cX 130 s) else c.jI x y pos z (if c.any fY s=0 then 1 else 2+c.any fY s) s.inc
def x7:List ByteArray:=[(⟨#[109,97,114,107,101,116]⟩:ByteArray),(⟨#[97,116]⟩:ByteArray)]
def PC.hZ(x y:Px)(pos:Int)(s:PS):fA×PS:=if c.any x7 s<0 then (⟨1,0,⟨#[]⟩,x,y,eP,eP,pos⟩,c.cX 130 s)
 else if c.any x7 s=1 then c.ij x y pos (c.dW s.inc).1 (c.dW s.inc).2 else c.jI x y pos eP 2 s.inc
def PC.sF(x:Px)(pos:Int)(s:PS):fA×PS:=c.hZ x (c.dW (c.take (⟨#[111,102]⟩:ByteArray) s).2).1 pos (c.dW (c.take (⟨#[111,102]⟩:ByteArray) s).2).2
def PC.fZ(s:PS):fA×PS:=c.sF (c.dW (c.take (⟨#[115,117,98,109,105,116]⟩:ByteArray) s).2).1 (c.take (⟨#[115,117,98,109,105,116]⟩:ByteArray) s).1 (c.dW (c.take (⟨#[115,117,98,109,105,116]⟩:ByteArray) s).2).2
def vz:List ByteArray:=[(⟨#[115,117,98,109,105,116]⟩:ByteArray),(⟨#[97,109,101,110,100]⟩:ByteArray),(⟨#[99,97,110,99,101,108]⟩:ByteArray),(⟨#[115,101,116]⟩:ByteArray),(⟨#[103,111,116,111]⟩:ByteArray),(⟨#[104,97,108,116]⟩:ByteArray)]
def Ga:fA:=⟨0,0,⟨#[]⟩,eP,eP,eP,eP,0⟩
def PC.Aw(nm:ByteArray)(pos:Int)(x:Px)(s:PS):fA×PS:=(⟨2,0,nm,eP,x,(c.dW (c.take (⟨#[97,116]⟩:ByteArray) s).2).1,eP,pos⟩,(c.dW (c.take (⟨#[97,116]⟩:ByteArray) s).2).2)
def PC.DD(nm:ByteArray)(pos:Int)(s:PS):fA×PS:=(⟨4,0,nm,eP,eP,eP,(c.dW (c.take (⟨#[61]⟩:ByteArray) s).2).1,pos⟩,(c.dW (c.take (⟨#[61]⟩:ByteArray) s).2).2)
def PC.nj(k:Int)(nm:ByteArray)(pos:Int)(s:PS):fA×PS:=if k=2 then c.Aw nm pos (c.dW (c.take (⟨#[116,111]⟩:ByteArray) s).2).1 (c.dW (c.take (⟨#[116,111]⟩:ByteArray) s).2).2 else if k=4 then c.DD nm pos s else (⟨k,0,nm,eP,eP,eP,eP,pos⟩,s)
def PC.do(s:PS):fA×PS :=
 if c.any vz s<0 then (Ga,c.cX 130 s)
 else if c.any vz s=0 then c.fZ s
 else if c.any vz s=5 then c.nj 6 ⟨#[]⟩ (c.now s).pos s.inc
 else c.nj (1+c.any vz s) (c.name s.inc).1 (c.now s).pos (c.name s.inc).2
def PC.many(n most:Nat)(s:PS):PS:=if most≤n then c.cX 131 s else s
def PC.eX:Nat→List fA→PS→List fA×PS
 | 0,l,s=>(l,s)
 | m+1,l,s =>
   if c.eo (⟨#[44]⟩:ByteArray) (c.do s).2 then
    if (c.many (l.length+1) 8 (c.do s).2).over then (l++[(c.do s).1],c.many (l.length+1) 8 (c.do s).2) else PC.eX m (l++[(c.do s).1]) (c.many (l.length+1) 8 (c.do s).2).inc
   else (l++[(c.do s).1],(c.do s).2)
def PC.kS(w:Px)(pos:Int)(s:PS):ej×PS:=(⟨w,(c.eX 8 [] s).1,pos⟩,(c.take (⟨#[59]⟩:ByteArray) (c.eX 8 [] s).2).2)
def PC.fG(s:PS):ej×PS:=c.kS (c.dW (c.take (⟨#[119,104,101,110]⟩:ByteArray) s).2).1 (c.take (⟨#[119,104,101,110]⟩:ByteArray) s).1 (c.take (⟨#[100,111]⟩:ByteArray) (c.dW (c.take (⟨#[119,104,101,110]⟩:ByteArray) s).2).2).2
def PC.dH{α:Type}(w:ByteArray)(most:Nat)(one:PS→α×PS):Nat→List α→PS→List α×PS
 | 0,l,s=>(l,if c.eo w s then c.many l.length most s else s)
 | m+1,l,s=>if c.eo w s then
    if (c.many l.length most s).over then (l,c.many l.length most s) else PC.dH w most one m (l++[(one (c.many l.length most s)).1]) (one (c.many l.length most s)).2
   else (l,s)
def PC.list{α:Type}(w:ByteArray)(most:Nat)(one:PS→α×PS)(s:PS):List α×PS:=c.dH w most one most [] s
def PC.ko(nm:ByteArray)(pos:Int)(s:PS):dt×PS:=(⟨nm,(c.list (⟨#[119,104,101,110]⟩:ByteArray) 12 c.fG s).1,pos⟩,(c.take (⟨#[125]⟩:ByteArray) (c.list (⟨#[119,104,101,110]⟩:ByteArray) 12 c.fG s).2).2)
def PC.state(s:PS):dt×PS:=c.ko (c.name (c.take (⟨#[115,116,97,116,101]⟩:ByteArray) s).2).1 (c.take (⟨#[115,116,97,116,101]⟩:ByteArray) s).1 (c.take (⟨#[123]⟩:ByteArray) (c.name (c.take (⟨#[115,116,97,116,101]⟩:ByteArray) s).2).2).2
def PC.slot(s:PS):dm×PS:=(⟨(c.name (c.take (⟨#[115,108,111,116]⟩:ByteArray) s).2).1,(c.take (⟨#[115,108,111,116]⟩:ByteArray) s).1⟩,(c.take (⟨#[59]⟩:ByteArray) (c.name (c.take (⟨#[115,108,111,116]⟩:ByteArray) s).2).2).2)
def PC.end(s:PS):PS:=if s.over then s else if c.l.length≤s.next∨(c.tok s.next).kind≠0 then c.cX 130 s else s
def PC.ia(nm:ByteArray)(rs:List eg)(ss:List dm)(ts:List dt)(s:PS):fm×PS:=(⟨nm,rs,ss,ts⟩,c.end (c.take (⟨#[125]⟩:ByteArray) (if ts.length=0 then c.cX 130 s else s)).2)
def PC.lf(nm:ByteArray)(rs:List eg)(ss:List dm)(s:PS):fm×PS:=c.ia nm rs ss (c.list (⟨#[115,116,97,116,101]⟩:ByteArray) 12 c.state s).1 (c.list (⟨#[115,116,97,116,101]⟩:ByteArray) 12 c.state s).2
def PC.lg(nm:ByteArray)(rs:List eg)(s:PS):fm×PS:=c.lf nm rs (c.list (⟨#[115,108,111,116]⟩:ByteArray) 4 c.slot s).1 (c.list (⟨#[115,108,111,116]⟩:ByteArray) 4 c.slot s).2
def PC.lh(nm:ByteArray)(s:PS):fm×PS:=c.lg nm (c.list (⟨#[114,101,103]⟩:ByteArray) 12 c.kR s).1 (c.list (⟨#[114,101,103]⟩:ByteArray) 12 c.kR s).2
def PC.whole(s:PS):fm×PS:=c.lh (c.name (c.take (⟨#[115,116,114,97,116,101,103,121]⟩:ByteArray) s).2).1 (c.take (⟨#[123]⟩:ByteArray) (c.name (c.take (⟨#[115,116,114,97,116,101,103,121]⟩:ByteArray) s).2).2).2
end
def de(t:ByteArray):PC:=if 4096<(t.size:Int) then ⟨[],0,0⟩ else ⟨(hU t 0).1,((hU t 0).2.map Prod.fst).getD 0,((hU t 0).2.map Prod.snd).getD 0⟩
def dN(t:ByteArray):PS:=⟨0,if 4096<(t.size:Int) then ⟨110,0,true⟩ else ⟨0,0,false⟩⟩
def zF:PF:=⟨0,0,false⟩
def dI(t:ByteArray):fm×PF :=
 let r:=(de t).whole (dN t)
 if r.2.over then (⟨⟨#[]⟩,[],[],[]⟩,r.2.f) else (r.1,zF)
def oR(t:ByteArray):Px×PF :=
 let n:=(de t).dW (dN t)
 let s:=(de t).end n.2
 if s.over then (eP,s.f) else (n.1,zF)
end Go.Lx
namespace Go.Lx
open Go.Vc
def PC.fin(c:PC)(s:PS):Option PF:=if s.over then some s.f else if c.l.length≤s.next then some ⟨c.bad,c.pos,true⟩ else none
def PC.dD(c:PC)(f:PF)(s:PS):Prop:=c.fin s=some f∧(s.over=false→c.bad≠0)
section
variable {c:PC} {f:PF} {s:PS}
theorem PC.dD.now(h:c.dD f s):c.now s=iL 0:=by
 unfold PC.now
 refine if_pos ?_
 have h1:=h.1
 unfold PC.fin at h1
 by_cases ho:s.over=true
 ·simp[ho]
 ·rw[if_neg ho] at h1
  split at h1
  ·rename_i hl;simp[hl]
  ·cases h1
theorem PC.dD.cX(h:c.dD f s)(e:Int):c.dD f (c.cX e s):=by
 unfold PC.cX
 split
 ·exact h
 ·rename_i ho
  have h1:=h.1;have h2:=h.2 (by simpa using ho)
  unfold PC.fin at h1
  rw[if_neg ho] at h1
  split at h1
  ·rename_i hl
   rw[if_pos hl]
   have ho2:PS.over ⟨s.next,⟨c.bad,c.pos,true⟩⟩=true:=by simpa[PS.over] using h2
   exact⟨by unfold PC.fin;rw[if_pos ho2];exact h1,fun h=>by rw[ho2] at h;cases h⟩
  ·cases h1
theorem PC.dD.eo(h:c.dD f s)(w:ByteArray):c.eo w s=false:=by
 unfold PC.eo;rw[h.now];simp[iL]
theorem PC.dD.kind(h:c.dD f s):(c.now s).kind=0:=by rw[h.now];rfl
theorem PC.dD.any(h:c.dD f s)(ws:List ByteArray):c.any ws s = -1:=by
 have:∀(ws:List ByteArray) (i:Int),c.gA s ws i = -1:=by
  intro ws
  induction ws with
  | nil=>intro i;rw[PC.gA]
  | cons w r ih=>intro i;rw[PC.gA,h.eo,if_neg (by simp),ih]
 exact this ws 0
theorem PC.dD.take(h:c.dD f s)(w:ByteArray):c.dD f (c.take w s).2:=by
 unfold PC.take;rw[h.eo];exact h.cX _
theorem PC.dD.name(h:c.dD f s):c.dD f (c.name s).2:=by
 unfold PC.name;rw[h.kind,if_neg (by decide)];exact h.cX _
theorem PC.dD.many(h:c.dD f s)(n m:Nat):c.dD f (c.many n m s):=by
 unfold PC.many;split
 ·exact h.cX _
 ·exact h
theorem PC.dD.literal(h:c.dD f s):c.literal s=((eP,false),s):=by
 unfold PC.literal;rw[h.kind,if_neg (by decide),if_neg (by simp),if_neg (by simp)]
theorem PC.dD.end(h:c.dD f s):c.dD f (c.end s):=by
 unfold PC.end;split
 ·exact h
 ·split
  ·exact h.cX _
  ·exact h
end
def Kp(c:PC)(f:PF){α:Type}(g:PS→α×PS):Prop:=∀s,c.dD f s→c.dD f (g s).2
section
variable {c:PC} {f:PF}
theorem Kp.rest(nx:Lv)(d:Int):Kp c f (c.rest nx d):=fun s h=>by
 unfold PC.rest;rw[h.eo,h.eo];exact h.cX _
theorem Kp.one(nx:Lv)(d:Int):Kp c f (c.one nx d):=fun s h=>by
 unfold PC.one;rw[h.literal,h.kind,h.any,h.any,h.any,if_neg (by simp),if_neg (by decide),if_neg (by decide),if_neg (by decide),if_neg (by decide)];exact Kp.rest nx d s h
theorem Kp.unary(nx:Lv)(d:Int):Kp c f (c.unary nx d):=fun s h=>by
 unfold PC.unary;rw[h.any,if_pos (by decide)];exact Kp.one nx d s h
theorem Kp.dM{ws:List ByteArray}{o:Int}{sub:PS→Px×PS}:∀(m:Nat) (n:Px),Kp c f (c.dM ws o sub m n)
 | 0,n=>fun s h=>h
 | m+1,n=>fun s h=>by rw[PC.dM,h.any,if_pos (by decide)];exact h
theorem Kp.loop{ws:List ByteArray}{o:Int}{sub:PS→Px×PS}(hs:Kp c f sub):Kp c f (c.loop ws o sub):=fun s h=>Kp.dM _ _ _ (hs s h)
theorem Kp.product(nx:Lv)(d:Int):Kp c f (c.product nx d):=Kp.loop (Kp.unary nx d)
theorem Kp.sum(nx:Lv)(d:Int):Kp c f (c.sum nx d):=Kp.loop (Kp.product nx d)
theorem Kp.compare(nx:Lv)(d:Int):Kp c f (c.compare nx d):=fun s h=>by
 have h1:=Kp.sum nx d s h
 unfold PC.compare
 show c.dD f (if c.any iU (c.sum nx d s).2<0 then c.sum nx d s else _:Px×PS).2
 rw[h1.any,if_pos (by decide)];exact h1
theorem Kp.and(nx:Lv)(d:Int):Kp c f (c.and nx d):=Kp.loop (Kp.compare nx d)
theorem Kp.or(nx:Lv)(d:Int):Kp c f (c.or nx d):=Kp.loop (Kp.and nx d)
theorem Kp.expr(nx:Lv)(d:Int):Kp c f (c.expr nx d):=fun s h=>by
 have h1:=Kp.or nx d s h
 unfold PC.expr
 show c.dD f (if c.eo _ (c.or nx d s).2 then _ else c.or nx d s:Px×PS).2
 rw[h1.eo];exact h1
theorem Kp.lvl:∀(k:Nat) (d:Int),Kp c f (c.lvl k d).ex∧Kp c f (c.lvl k d).un
 | 0,d=>⟨Kp.expr _ d,Kp.unary _ d⟩
 | k+1,d=>⟨Kp.expr _ d,Kp.unary _ d⟩
theorem Kp.dW:Kp c f c.dW:=(Kp.lvl 24 0).1
theorem Kp.kids{nx:Lv}(hx:Kp c f nx.ex):∀(n:Nat) (b:Bool),Kp c f (c.dB nx n b)
 | 0,b=>fun s h=>h
 | n+1,b=>fun s h=>by
   rw[PC.dB]
   refine Kp.kids hx n false _ (hx _ ?_)
   split
   ·exact h
   ·exact h.take _
theorem Kp.jL(nm:ByteArray)(t p p2:Int)(m:Bool)(n:Px):Kp c f (c.jL nm t p p2 m n):=fun s h=>h.take _
theorem Kp.hY(nm:ByteArray)(t p p2:Int)(m:Bool):Kp c f (c.hY nm t p p2 m):=fun s h=>by
 unfold PC.hY;split
 ·exact h.cX _
 ·refine Kp.jL _ _ _ _ _ _ _ ?_
  rw[h.literal,if_neg (by simp)];exact h.cX _
theorem Kp.jh(nm:ByteArray)(t p:Int):Kp c f (c.jh nm t p):=fun s h=>by
 unfold PC.jh;rw[h.eo,if_neg (by simp)];exact Kp.hY _ _ _ _ _ _ h
theorem Kp.ig(nm:ByteArray)(p:Int):Kp c f (c.ig nm p):=fun s h=>by
 unfold PC.ig;rw[h.any,if_pos (by decide)];exact h.cX _
theorem Kp.eh:Kp c f c.eh:=fun s h=>by
 unfold PC.eh;rw[h.eo,if_neg (by simp)];exact h
theorem Kp.jI(x y:Px)(p:Int)(z:Px)(o:Int):Kp c f (c.jI x y p z o):=fun s h=>Kp.eh s h
theorem Kp.ij(x y:Px)(p:Int)(z:Px):Kp c f (c.ij x y p z):=fun s h=>by
 unfold PC.ij;rw[h.any,if_pos (by decide)];exact h.cX _
theorem Kp.hZ(x y:Px)(p:Int):Kp c f (c.hZ x y p):=fun s h=>by
 unfold PC.hZ;rw[h.any,if_pos (by decide)];exact h.cX _
theorem Kp.sF(x:Px)(p:Int):Kp c f (c.sF x p):=fun s h=>Kp.hZ _ _ _ _ (Kp.dW _ (h.take _))
theorem Kp.Aw(nm:ByteArray)(p:Int)(x:Px):Kp c f (c.Aw nm p x):=fun s h=>Kp.dW _ (h.take _)
theorem Kp.DD(nm:ByteArray)(p:Int):Kp c f (c.DD nm p):=fun s h=>Kp.dW _ (h.take _)
theorem Kp.nj(k:Int)(nm:ByteArray)(p:Int):Kp c f (c.nj k nm p):=fun s h=>by
 unfold PC.nj;split
 ·exact Kp.Aw _ _ _ _ (Kp.dW _ (h.take _))
 ·split
  ·exact Kp.DD _ _ _ h
  ·exact h
theorem Kp.do:Kp c f c.do:=fun s h=>by
 unfold PC.do;rw[h.any,if_pos (by decide)];exact h.cX _
theorem Kp.eX:∀(m:Nat) (l:List fA),Kp c f (c.eX m l)
 | 0,l=>fun s h=>h
 | m+1,l=>fun s h=>by
   have h1:=Kp.do s h
   rw[PC.eX,h1.eo,if_neg (by simp)];exact h1
theorem Kp.kS(w:Px)(p:Int):Kp c f (c.kS w p):=fun s h=>(Kp.eX 8 [] s h).take _
theorem Kp.dH{α:Type}(w:ByteArray)(most:Nat)(one:PS→α×PS):∀(m:Nat) (l:List α),Kp c f (c.dH w most one m l)
 | 0,l=>fun s h=>by rw[PC.dH,h.eo];exact h
 | m+1,l=>fun s h=>by rw[PC.dH,h.eo];exact h
theorem Kp.list{α:Type}(w:ByteArray)(most:Nat)(one:PS→α×PS):Kp c f (c.list w most one):=Kp.dH w most one most []
theorem Kp.ko(nm:ByteArray)(p:Int):Kp c f (c.ko nm p):=fun s h=>(Kp.list _ _ _ s h).take _
theorem Kp.ia(nm:ByteArray)(rs:List eg)(ss:List dm)(ts:List dt):Kp c f (c.ia nm rs ss ts):=fun s h=>by
 refine PC.dD.end (PC.dD.take ?_ _)
 split
 ·exact h.cX _
 ·exact h
theorem Kp.lf(nm:ByteArray)(rs:List eg)(ss:List dm):Kp c f (c.lf nm rs ss):=fun s h=>Kp.ia _ _ _ _ _ (Kp.list _ _ _ s h)
theorem Kp.lg(nm:ByteArray)(rs:List eg):Kp c f (c.lg nm rs):=fun s h=>Kp.lf _ _ _ _ (Kp.list _ _ _ s h)
theorem Kp.lh(nm:ByteArray):Kp c f (c.lh nm):=fun s h=>Kp.lg _ _ _ (Kp.list _ _ _ s h)
end
end Go.Lx
namespace Go.Lx
open Go.Vc
structure PQ where
 c:PC
 a:Option Addr
 cap:Nat
def PQ.cl(q:PQ)(s:PS):List Value:=[.slice q.a q.c.l.length q.cap,.int .i64 q.c.bad,.int .i64 q.c.pos,.int .i64 s.next,.int .i64 s.f.e,.int .i64 s.f.pos,.bool s.f.tok]
def PQ.fo(q:PQ)(b:Nat)(s:PS):Nat×Obj:=(b,.cells (q.cl s).toArray 96 (0,0))
structure PQ.ok (q:PQ) (I:cS):Prop where
 sl:Sl I 5 Tok.enc q.a q.c.l.length q.c.l
 len:q.c.l.length≤1000000
theorem PQ.ok.mono{q:PQ}{I J:cS}(h:q.ok I)(hl:cS.le I J):q.ok J:=⟨h.sl.mono hl,h.len⟩
variable {q:PQ} {b:Nat} {s:PS} {I:cS}
theorem oS{c:PC}{s:PS}(h:(c.now s).kind≠0):s.next<c.l.length:=by
 unfold PC.now at h
 split at h
 ·exact absurd rfl h
 ·rename_i h1
  simp only[Bool.or_eq_true,decide_eq_true_eq,not_or] at h1
  omega
theorem gQ{c:PC}{s:PS}{w:ByteArray}(h:c.eo w s=true):s.next<c.l.length:=by
 refine oS fun hk=>?_
 unfold PC.eo at h
 rw[hk] at h
 simp at h
theorem uW{c:PC}{s:PS}:∀{ws:List ByteArray} {i:Int},0≤i→0≤c.gA s ws i→s.next<c.l.length∧i≤c.gA s ws i∧c.gA s ws i<i+ws.length
 | [],i,h0,h=>by rw[PC.gA] at h;omega
 | w::r,i,h0,h=>by
   rw[PC.gA] at h ⊢
   split at h
   ·rename_i hw
    rw[if_pos hw]
    exact⟨gQ hw,Int.le_refl _,by rw[List.length_cons];omega⟩
   ·rename_i hw
    rw[if_neg hw]
    have:=uW (ws:=r) (i:=i+1) (by omega) h
    rw[List.length_cons];exact⟨this.1,by omega,by omega⟩
theorem dx{c:PC}{s:PS}{ws:List ByteArray}(h:0≤c.any ws s):s.next<c.l.length∧c.any ws s<ws.length:=by
 have:=uW (Int.le_refl 0) h
 exact⟨this.1,by have:=this.2.2;unfold PC.any;omega⟩
end Go.Lx
namespace Go.Lx
open Go.Vc
def Small(l:List Px):Prop:=∀x∈l,x.size≤1048576
theorem fH{α β:Type}(f:β→Int)(g:α→β){l:List α}{i:Nat}{x:α}(h:l[i]? = some x):dL f ((l.drop i).map g)=dg (f (g x)) (dL f ((l.drop (i+1)).map g)):=by
 obtain⟨hk,rfl⟩:=List.getElem?_eq_some_iff.1 h
 rw[List.drop_eq_getElem_cons hk,List.map_cons,dL]
theorem gR{α β:Type}(f:β→Int)(g:α→β){l:List α}{i:Nat}(h:l.length≤i):dL f ((l.drop i).map g)=0:=by rw[List.drop_eq_nil_of_le h];rfl
theorem pY.DE{α:Type}{I:cS}{G:cR}{z:Nat}{f:α→List Value}{a:Option Addr}{n:Nat}{l:List α}(h:pY I G z f a n l){i:Int}(h0:0≤i)(h1:i<n) :
  ∃ad x,a=some ad∧l[i.toNat]? = some x∧Rd I G (ad.add (Int.toNat i*z)) (f x)∧x∈l:=by
 obtain⟨ad,x,g1,g2,g3⟩:=h.at h0 h1
 exact⟨ad,x,g1,g2,g3,List.mem_of_getElem? g2⟩
section
variable {c:PC} {s:PS}
theorem fB:s.inc.next=s.next+1:=rfl
theorem ga(e:Int):(c.cX e s).next=s.next:=by
 unfold PC.cX;split
 ·rfl
 ·split<;>rfl
theorem ef(d:Int):(c.cT d s).next=s.next:=by
 unfold PC.cT;split
 ·exact ga _
 ·rfl
theorem j5(n m:Nat):(c.many n m s).next=s.next:=by
 unfold PC.many;split
 ·exact ga _
 ·rfl
theorem wP:(c.end s).next=s.next:=by
 unfold PC.end;split
 ·rfl
 ·split
  ·exact ga _
  ·rfl
theorem iA{e:Int}(he:e≠0)(hl:s.next<c.l.length):(c.cX e s).over=true:=by
 unfold PC.cX
 split
 ·assumption
 ·rw[if_neg (by omega)]
  simpa[PS.over] using he
theorem ft{d:Int}(hl:s.next<c.l.length)(h:(c.cT d s).over=false):d+1≤24∧c.cT d s=s:=by
 unfold PC.cT at h ⊢
 split
 ·rename_i hd
  rw[if_pos hd,iA (by decide) hl] at h
  cases h
 ·rename_i hd
  exact⟨by omega,rfl⟩
theorem pH{n m:Nat}(hl:s.next<c.l.length)(h:(c.many n m s).over=false):n<m∧c.many n m s=s:=by
 unfold PC.many at h ⊢
 split
 ·rename_i hd
  rw[if_pos hd,iA (by decide) hl] at h
  cases h
 ·rename_i hd
  exact⟨by omega,rfl⟩
def Up(c:PC)(s s':PS):Prop:=s.next≤s'.next∧(s.next≤c.l.length→s'.next≤c.l.length)
theorem Up.refl:Up c s s:=⟨Nat.le_refl _,fun h=>h⟩
theorem Up.trans{a b d:PS}(h:Up c a b)(h':Up c b d):Up c a d:=⟨Nat.le_trans h.1 h'.1,fun h0=>h'.2 (h.2 h0)⟩
theorem Up.inc(hl:s.next<c.l.length):Up c s s.inc:=⟨Nat.le_succ _,fun _=>hl⟩
theorem Up.of_eq{s':PS}(h:s'.next=s.next):Up c s s':=⟨by omega,fun _=>by omega⟩
theorem Up.cX(e:Int):Up c s (c.cX e s):=.of_eq (ga e)
theorem Up.cT(d:Int):Up c s (c.cT d s):=.of_eq (ef d)
theorem Up.many(n m:Nat):Up c s (c.many n m s):=.of_eq (j5 n m)
theorem Up.end:Up c s (c.end s):=.of_eq wP
theorem Up.take(w:ByteArray):Up c s (c.take w s).2:=by
 unfold PC.take;split
 ·rename_i h;exact .inc (gQ h)
 ·exact .cX _
theorem Up.name:Up c s (c.name s).2:=by
 unfold PC.name;split
 ·rename_i h;exact .inc (oS (by rw[h];decide))
 ·exact .cX _
theorem Up.literal:Up c s (c.literal s).2:=by
 unfold PC.literal
 split
 ·rename_i h;exact .inc (oS (by rw[h];decide))
 ·split
  ·rename_i h;exact .inc (oS (by rw[h.1];decide))
  ·split
   ·rename_i h;exact .inc (oS (by rw[h.1];decide))
   ·exact .refl
end
def dR(c:PC){α:Type}(f:PS→α×PS):Prop:=∀s,Up c s (f s).2
section
variable {c:PC} {nx:Lv} (hx:dR c nx.ex) (hu:dR c nx.un)
include hx
theorem Up.kids:∀(n:Nat) (f:Bool) (s:PS),Up c s (c.dB nx n f s).2
 | 0,f,s=>.refl
 | n+1,f,s=>by
   rw[PC.dB]
   refine Up.trans ?_ (Up.kids n false _)
   refine Up.trans ?_ (hx _)
   split
   ·exact .refl
   ·exact .take _
theorem Up.call{d kind oper dJ pos:Int}{many:Nat}{s:PS}(hl:s.next<c.l.length):Up c s (c.call nx d kind oper dJ pos many s).2:=by
 unfold PC.call
 split
 ·exact .cT _
 ·rename_i h
  obtain⟨_,he⟩:=ft hl (by simpa using h)
  rw[he]
  exact ((Up.inc hl).trans (.take _)).trans ((Up.kids hx _ _ _).trans (.take _))
theorem Up.rest(d:Int):dR c (c.rest nx d):=fun s=>by
 unfold PC.rest
 split
 ·rename_i h
  have hl:=gQ h
  split
  ·exact (Up.inc hl).trans (.cX _)
  ·rename_i h2
   exact (Up.inc hl).trans (.inc (dx (Int.not_lt.1 h2)).1)
 ·split
  ·rename_i h
   have hl:=gQ h
   split
   ·exact .cT _
   ·rename_i h2
    obtain⟨_,he⟩:=ft hl (by simpa using h2)
    rw[he]
    exact (Up.inc hl).trans ((hx _).trans (.take _))
  ·exact .cX _
theorem Up.one(d:Int):dR c (c.one nx d):=fun s=>by
 unfold PC.one
 split
 ·exact .literal
 ·split
  ·rename_i h;exact .inc (oS (by rw[h];decide))
  ·split
   ·rename_i h;exact .inc (dx h).1
   ·split
    ·rename_i h;exact .call hx (dx h).1
    ·split
     ·rename_i h;exact .call hx (dx h).1
     ·exact Up.rest hx d s
include hu
theorem Up.unary(d:Int):dR c (c.unary nx d):=fun s=>by
 unfold PC.unary
 split
 ·exact Up.one hx d s
 ·rename_i h
  have hl:=(dx (c:=c) (s:=s) (ws:=kQ) (by omega)).1
  split
  ·exact .cT _
  ·rename_i h2
   obtain⟨_,he⟩:=ft hl (by simpa using h2)
   rw[he]
   exact (Up.inc hl).trans (hu _)
end
theorem Up.dM{c:PC}{ws:List ByteArray}{o:Int}{sub:PS→Px×PS}(h:dR c sub):∀(m:Nat) (n:Px) (s:PS),Up c s (c.dM ws o sub m n s).2
 | 0,n,s=>.refl
 | m+1,n,s=>by
   rw[PC.dM]
   split
   ·exact .refl
   ·rename_i h2
    exact ((Up.inc (dx (Int.not_lt.1 h2)).1).trans (h _)).trans (Up.dM h m _ _)
theorem Up.loop{c:PC}{ws:List ByteArray}{o:Int}{sub:PS→Px×PS}(h:dR c sub):dR c (c.loop ws o sub):=fun s=>(h s).trans (.dM h _ _ _)
section
variable {c:PC} {nx:Lv} (hx:dR c nx.ex) (hu:dR c nx.un) (d:Int)
include hx hu
theorem Up.product:dR c (c.product nx d):=Up.loop (Up.unary hx hu d)
theorem Up.sum:dR c (c.sum nx d):=Up.loop (Up.product hx hu d)
theorem Up.compare:dR c (c.compare nx d):=fun s=>by
 unfold PC.compare
 have h1:=Up.sum hx hu d s
 show Up c s (if c.any iU (c.sum nx d s).2<0 then c.sum nx d s else _).2
 split
 ·exact h1
 ·rename_i h2
  exact (h1.trans (.inc (dx (Int.not_lt.1 h2)).1)).trans (Up.sum hx hu d _)
theorem Up.and:dR c (c.and nx d):=Up.loop (Up.compare hx hu d)
theorem Up.or:dR c (c.or nx d):=Up.loop (Up.and hx hu d)
theorem Up.expr:dR c (c.expr nx d):=fun s=>by
 unfold PC.expr
 have h1:=Up.or hx hu d s
 show Up c s (if c.eo _ (c.or nx d s).2 then _ else _:Px×PS).2
 split
 ·rename_i h2
  have hl:=gQ h2
  show Up c s (if (c.cT d (c.or nx d s).2).over then _ else _:Px×PS).2
  split
  ·exact h1.trans (.cT _)
  ·rename_i h3
   obtain⟨_,he⟩:=ft hl (by simpa using h3)
   rw[he]
   exact h1.trans ((Up.inc hl).trans ((hx _).trans ((Up.take _).trans (hx _))))
 ·exact h1
end
theorem Up.lvl{c:PC}:∀(k:Nat) (d:Int),dR c (c.lvl k d).ex∧dR c (c.lvl k d).un
 | 0,d=>⟨Up.expr (fun s=>.refl) (fun s=>.refl) d,Up.unary (fun s=>.refl) (fun s=>.refl) d⟩
 | k+1,d=>⟨Up.expr (Up.lvl k (d+1)).1 (Up.lvl k (d+1)).2 d,Up.unary (Up.lvl k (d+1)).1 (Up.lvl k (d+1)).2 d⟩
theorem Up.dW{c:PC}:dR c c.dW:=(Up.lvl 24 0).1
def Es(q:PQ)(b:Nat)(F0:cR)(r:Px×PS)(e:Ending)(I:cS)(G:cR):Prop:=∃t:Nd,e=.returned t.v∧t.px=r.1∧fR I [] t∧G.Perm (q.fo b r.2::F0)
def Bh(f:Nat)(q:PQ)(d:Int)(g:PS→Px×PS):Prop:=∀(b:Nat) (s:PS) (I:cS) (F F0:cR),q.ok I→s.next≤q.c.l.length→F.Perm (q.fo b s::F0)→cV P f #[.pointer (some ⟨b,0,none⟩),.int .i64 d] I F (Es q b F0 (g s))
end Go.Lx
namespace Go.Lx
open Go.Vc
section
variable {q:PQ} {b:Nat} {s:PS} {I:cS} {F F0:cR}
end
end Go.Lx
namespace Go.Lx
open Go.Vc
section
variable {q:PQ} {b:Nat} {s:PS} {I:cS} {F F0:cR} {nx:Lv} {d:Int} (h0:0≤d) (h1:d≤24) (hx:d+1≤24→Bh 48 q (d+1) nx.ex) (hmx:dR q.c nx.ex)
include h0 h1 hx hmx
end
end Go.Lx
namespace Go.Lx
open Go.Vc
section
variable {q:PQ} {b:Nat} {s:PS} {I:cS} {F F0:cR} {nx:Lv} {d:Int} (h0:0≤d) (h1:d≤24) (hx:d+1≤24→Bh 48 q (d+1) nx.ex) (hmx:dR q.c nx.ex)
include h0 h1 hx hmx
end
end Go.Lx
namespace Go.Lx
open Go.Vc
section
variable {q:PQ} {nx:Lv} {d:Int} (h0:0≤d) (h1:d≤24)
include h0 h1
end
end Go.Lx
namespace Go.Lx
open Go.Vc
section
variable {q:PQ} {nx:Lv} {d:Int} (h0:0≤d) (h1:d≤24)
include h0 h1
end
end Go.Lx
namespace Go.Lx
open Go.Vc
structure c7 where
 c:PC
 c':PC
 o:Nat
 δ:Int
 K:Nat
 ov:Bool
 ρ:Int→Int→Prop
def okW(w:ByteArray):Bool:=!(w.toList==(⟨#[41]⟩:ByteArray).toList)
namespace c7
variable (m:c7)
def Rs(s s':PS):Prop:=s'.next=s.next+m.o∧s'.f.e=s.f.e∧s'.f.tok=s.f.tok∧(s.f.e≠0→m.ρ s.f.pos s'.f.pos)
def Gd(s:PS):Prop:=s.next≤m.K∧(m.ov=true→s.over=false)
def Et(t t':Tok):Prop:=(t'.kind=t.kind∧t'.text=t.text∧t'.dJ=t.dJ∧t'.n=t.n)∨(m.ov=true∧t.kind=0∧t'.kind=4∧t'.text.toList=(⟨#[41]⟩:ByteArray).toList)
structure Ok:Prop where
 d0:0≤m.δ
 len:∀i,i≤m.K→(i<m.c.l.length↔i+m.o<m.c'.l.length)
 tok:∀i,i≤m.K→i<m.c.l.length→m.Et (m.c.tok i) (m.c'.tok (i+m.o))∧m.ρ (m.c.tok i).pos (m.c'.tok (i+m.o)).pos
 ovK:m.ov=true→m.K<m.c.l.length∧m.c.bad=0
 bad:m.K<m.c.l.length∨(m.c.bad=0∧m.c'.bad=0)
def Eu(s':PS):Prop:=0<m.δ∧∃f:PF,f.e=132∧m.c'.dD f s'
def Out{α:Type}(rel:α→α→Prop)(r r':α×PS):Prop:=(m.Rs r.2 r'.2∧rel r.1 r'.1)∨m.Eu r'.2
def Fn{α:Type}(rel:α→α→Prop)(g g':PS→α×PS):Prop:=∀s s',m.Rs s s'→m.Gd (g s).2→m.Out rel (g s) (g' s')
def xr(x x':Px):Prop:=x'.bare=x.bare
end c7
section
variable {m:c7} {s s':PS}
theorem c7.Eu.kp{s2:PS}(h:m.Eu s')(hk:∀f,m.c'.dD f s'→m.c'.dD f s2):m.Eu s2:=by
 obtain⟨h1,f,h2,h3⟩:=h
 exact⟨h1,f,h2,hk f h3⟩
theorem c7.Out.bind{α β:Type}{rel:α→α→Prop}{rel2:β→β→Prop}{r r':α×PS}{q q':β×PS}(h:m.Out rel r r')(hk:∀f,m.c'.dD f r'.2→m.c'.dD f q'.2)(hn:m.Rs r.2 r'.2→rel r.1 r'.1→m.Out rel2 q q'):m.Out rel2 q q':=by
 rcases h with ⟨h1,h2⟩ | h
 ·exact hn h1 h2
 ·exact .inr (h.kp hk)
theorem c7.Rs.over(h:m.Rs s s'):s'.over=s.over:=by unfold PS.over;rw[h.2.1]
theorem c7.Rs.inc(h:m.Rs s s'):m.Rs s.inc s'.inc:=⟨by show s'.next+1=s.next+1+m.o;rw[h.1];omega,h.2⟩
theorem jw{c:PC}{s:PS}(h:s.over=true):c.dD s.f s:=⟨by unfold PC.fin;rw[if_pos h],fun h2=>by rw[h] at h2;cases h2⟩
theorem lC{c:PC}{s:PS}{ws:List ByteArray}(h:0≤c.any ws s):s.over=false:=by
 cases ho:s.over with
 | false=>rfl
 | true=>rw[(jw (c:=c) ho).any] at h;exact absurd h (by decide)
theorem nk{c:PC}{s:PS}{w:ByteArray}(h:c.eo w s=true):s.over=false:=by
 cases ho:s.over with
 | false=>rfl
 | true=>rw[(jw (c:=c) ho).eo] at h;cases h
theorem zY{c:PC}{s:PS}(h:(c.now s).kind≠0):s.over=false:=by
 cases ho:s.over with
 | false=>rfl
 | true=>exact absurd (jw (c:=c) ho).kind h
variable (hm:m.Ok)
include hm
theorem c7.back{s2:PS}(hu:Up m.c s s2)(hk:∀f,m.c.dD f s→m.c.dD f s2)(h:m.Gd s2):m.Gd s:=by
 refine⟨Nat.le_trans hu.1 h.1,fun ho=>?_⟩
 have h2:=h.2 ho
 cases hs:s.over with
 | false=>rfl
 | true=>exact absurd (hm.ovK ho).2 ((hk _ (jw hs)).2 h2)
theorem c7.now(h:m.Rs s s')(hg:m.Gd s):m.Et (m.c.now s) (m.c'.now s'):=by
 unfold PC.now
 rw[h.over]
 have hl:=hm.len _ hg.1
 by_cases hc:s.over=true∨m.c.l.length≤s.next
 ·have h1:(s.over||decide (m.c.l.length≤s.next))=true:=by
   rcases hc with hc | hc
   ·rw[hc];rfl
   ·rw[decide_eq_true hc,Bool.or_true]
  have h2:(s.over||decide (m.c'.l.length≤s'.next))=true:=by
   rcases hc with hc | hc
   ·rw[hc];rfl
   ·rw[decide_eq_true (by rw[h.1];omega),Bool.or_true]
  rw[h1,h2];exact .inl ⟨rfl,rfl,rfl,rfl⟩
 ·have hc1:s.over=false:=by simpa using fun h=>hc (.inl h)
  have hc2:s.next<m.c.l.length:=Nat.lt_of_not_le fun h=>hc (.inr h)
  have h1:(s.over||decide (m.c.l.length≤s.next))=false:=by rw[hc1,decide_eq_false (by omega)];rfl
  have h2:(s.over||decide (m.c'.l.length≤s'.next))=false:=by rw[hc1,decide_eq_false (by rw[h.1];omega)];rfl
  rw[h1,h2,h.1]
  exact (hm.tok _ hg.1 hc2).1
theorem c7.eo(h:m.Rs s s')(hg:m.Gd s){w:ByteArray}(hw:okW w=true∨m.ov=false):m.c'.eo w s'=m.c.eo w s:=by
 unfold PC.eo
 rcases c7.now hm h hg with ⟨h1,h2,_⟩ | ⟨h1,h2,h3,h4⟩
 ·rw[h1,h2]
 ·rw[h2,h3,h4]
  have:((⟨#[41]⟩:ByteArray).toList==w.toList)=false:=by
   rcases hw with hw | hw
   ·unfold okW at hw
    cases hb:((⟨#[41]⟩:ByteArray).toList==w.toList) with
    | false=>rfl
    | true=>rw[eq_of_beq hb,beq_self_eq_true] at hw;cases hw
   ·rw[hw] at h1;cases h1
  rw[this];simp
theorem c7.any(h:m.Rs s s')(hg:m.Gd s){ws:List ByteArray}(hw:ws.all okW=true):m.c'.any ws s'=m.c.any ws s:=by
 have:∀(ws:List ByteArray) (i:Int),ws.all okW=true→m.c'.gA s' ws i=m.c.gA s ws i:=by
  intro ws
  induction ws with
  | nil=>intro i hw;rw[PC.gA,PC.gA]
  | cons w r ih=>intro i hw;rw[List.all_cons,Bool.and_eq_true] at hw;rw[PC.gA,PC.gA,c7.eo hm h hg (.inl hw.1),ih _ hw.2]
 exact this ws 0 hw
theorem c7.cX(h:m.Rs s s'){e:Int}(hg:s.next≤m.K):m.Rs (m.c.cX e s) (m.c'.cX e s'):=by
 unfold PC.cX
 rw[h.over]
 have hl:=hm.len _ hg
 split
 ·exact h
 ·by_cases hc:m.c.l.length≤s.next
  ·rw[if_pos hc,if_pos (by rw[h.1];omega)]
   rcases hm.bad with hb | ⟨hb,hb'⟩
   ·omega
   ·exact⟨h.1,by show m.c'.bad=m.c.bad;rw[hb,hb'],rfl,fun hne=>absurd hb hne⟩
  ·rw[if_neg hc,if_neg (by rw[h.1];omega)]
   exact⟨h.1,rfl,rfl,fun _=>by show m.ρ (m.c.tok s.next).pos (m.c'.tok s'.next).pos;rw[h.1];exact (hm.tok _ hg (by omega)).2⟩
theorem c7.take(h:m.Rs s s')(w:ByteArray)(hg:m.Gd (m.c.take w s).2):m.Rs (m.c.take w s).2 (m.c'.take w s').2:=by
 have h0:m.Gd s:=c7.back hm (Up.take w) (fun f h=>h.take w) hg
 have hw:m.c'.eo w s'=m.c.eo w s:=by
  by_cases hp:okW w=true∨m.ov=false
  ·exact c7.eo hm h h0 hp
  ·have hov:m.ov=true:=by
    cases ho:m.ov with
    | true=>rfl
    | false=>exact absurd (.inr ho) hp
   have hc:m.c.eo w s=true:=by
    cases hc:m.c.eo w s with
    | true=>rfl
    | false =>
      have h1:=hg.2 hov
      unfold PC.take at h1
      rw[hc] at h1
      have h2:(m.c.cX 130 s).over=true:=iA (by decide) (by have:=(hm.ovK hov).1;have:=h0.1;omega)
      have h1:(m.c.cX 130 s).over=false:=h1
      rw[h2] at h1;cases h1
   rw[hc]
   unfold PC.eo at hc ⊢
   rcases c7.now hm h h0 with ⟨h1,h2,_⟩ | ⟨h1,h2,h3,h4⟩
   ·rw[h1,h2];exact hc
   ·rw[h2] at hc;simp at hc
 unfold PC.take
 rw[hw]
 split
 ·exact h.inc
 ·exact c7.cX hm h h0.1
theorem c7.name(h:m.Rs s s')(hg:m.Gd (m.c.name s).2):m.Rs (m.c.name s).2 (m.c'.name s').2∧(m.c'.name s').1=(m.c.name s).1:=by
 have h0:m.Gd s:=c7.back hm Up.name (fun f h=>h.name) hg
 unfold PC.name
 rcases c7.now hm h h0 with ⟨h1,h2,_⟩ | ⟨h1,h2,h3,h4⟩
 ·rw[h1,h2]
  split
  ·exact⟨h.inc,rfl⟩
  ·exact⟨c7.cX hm h h0.1,rfl⟩
 ·rw[h2,h3,if_neg (by decide),if_neg (by decide)]
  exact⟨c7.cX hm h h0.1,rfl⟩
theorem c7.literal(h:m.Rs s s')(hg:m.Gd s):m.Rs (m.c.literal s).2 (m.c'.literal s').2∧c7.xr (m.c.literal s).1.1 (m.c'.literal s').1.1∧(m.c'.literal s').1.2=(m.c.literal s).1.2:=by
 unfold PC.literal
 rcases c7.now hm h hg with ⟨h1,h2,h3,h4⟩ | ⟨h1,h2,h3,h4⟩
 ·rw[h1,h2,h3,h4]
  split
  ·exact⟨h.inc,rfl,rfl⟩
  ·split
   ·exact⟨h.inc,rfl,rfl⟩
   ·split
    ·exact⟨h.inc,rfl,rfl⟩
    ·exact⟨h,rfl,rfl⟩
 ·rw[h2,h3]
  simp only[show ¬((4:Int)=3) by decide,show ¬((0:Int)=3) by decide,show ¬((4:Int)=1) by decide,show ¬((0:Int)=1) by decide,false_and,if_false]
  exact⟨h,rfl,trivial⟩
theorem c7.cT(h:m.Rs s s'){d:Int}(hg:s.next≤m.K)(ho:s.over=false)(hl:s.next<m.c.l.length) :
  ((m.c.cT d s).over=true∧(m.c'.cT (d+m.δ) s').over=true∧m.Rs (m.c.cT d s) (m.c'.cT (d+m.δ) s')) ∨
  ((m.c'.cT (d+m.δ) s').over=true∧m.Eu (m.c'.cT (d+m.δ) s')) ∨
  (d+m.δ+1≤24∧m.c.cT d s=s∧m.c'.cT (d+m.δ) s'=s'∧s.over=false∧s'.over=false):=by
 have hd:=hm.d0
 have hl':s'.next<m.c'.l.length:=by rw[h.1];exact (hm.len _ hg).1 hl
 have ho':s'.over=false:=by rw[h.over];exact ho
 unfold PC.cT
 by_cases h1:24<d+1
 ·rw[if_pos h1,if_pos (by omega)]
  exact .inl ⟨iA (by decide) hl,iA (by decide) hl',c7.cX hm h hg⟩
 ·by_cases h2:24<d+m.δ+1
  ·rw[if_neg h1,if_pos h2]
   have hw:=iA (c:=m.c') (e:=132) (by decide) hl'
   refine .inr (.inl ⟨hw,by omega,_, ?_,jw hw⟩)
   unfold PC.cX
   rw[if_neg (by rw[ho'];decide),if_neg (by omega)]
  ·rw[if_neg h1,if_neg h2]
   exact .inr (.inr ⟨by omega,rfl,rfl,ho,ho'⟩)
end
namespace c7
def xl(l l':List Px):Prop:=l'.map Px.bare=l.map Px.bare
theorem xr.mk{k o t n f:Int}{nm:ByteArray}{l l':List Px}{q q':Int}(h:xl l l'):xr (.mk k o t n f nm l q) (.mk k o t n f nm l' q'):=by
 unfold xr;rw[Px.yQ,Px.yQ];show Px.mk k o t n f nm (l'.map Px.bare) 0=Px.mk k o t n f nm (l.map Px.bare) 0;rw[h]
theorem xl.one{x x':Px}(h:xr x x'):xl [x] [x']:=by unfold xl;rw[List.map_singleton,List.map_singleton,h]
theorem xl.cons{x x':Px}{l l':List Px}(h:xr x x')(hl:xl l l'):xl (x::l) (x'::l'):=by unfold xl;rw[List.map_cons,List.map_cons,h,hl]
theorem xr.two{o p p':Int}{a a' b b':Px}(h:xr a a')(h2:xr b b'):xr (iS o p a b) (iS o p' a' b'):=.mk (.cons h (.one h2))
structure Bi (m:c7) (nx nx':Lv) (d:Int):Prop where
 mx:dR m.c nx.ex
 mu:dR m.c nx.un
 kx:∀f,Kp m.c f nx.ex
 ku:∀f,Kp m.c f nx.un
 kx':∀f,Kp m.c' f nx'.ex
 ku':∀f,Kp m.c' f nx'.un
 fx:d+m.δ+1≤24→m.Fn xr nx.ex nx'.ex
 fu:d+m.δ+1≤24→m.Fn xr nx.un nx'.un
end c7
section
variable {m:c7} (hm:m.Ok) {nx nx':Lv} {d:Int} (hx:m.Bi nx nx' d)
include hm hx
theorem c7.kids(hd:d+m.δ+1≤24):∀(n:Nat) (b:Bool),m.Fn c7.xl (m.c.dB nx n b) (m.c'.dB nx' n b)
 | 0,b=>fun s s' h hg=>.inl ⟨h,rfl⟩
 | n+1,b=>fun s s' h hg=>by
   rw[PC.dB] at hg ⊢
   rw[PC.dB]
   have h3:m.Gd (m.c.dB nx n false (nx.ex (if b=true then s else (m.c.take (⟨#[44]⟩:ByteArray) s).2)).2).2:=hg
   have h2:=c7.back hm (Up.kids hx.mx n false _) (fun f h=>Kp.kids (hx.kx f) n false _ h) h3
   have h1:=c7.back hm (hx.mx _) (fun f h=>hx.kx f _ h) h2
   have h4:m.Rs (if b=true then s else (m.c.take (⟨#[44]⟩:ByteArray) s).2) (if b=true then s' else (m.c'.take (⟨#[44]⟩:ByteArray) s').2):=by
    split
    ·exact h
    ·rename_i hb;rw[if_neg hb] at h1;exact c7.take hm h _ h1
   refine (hx.fx hd _ _ h4 h2).bind (fun f h=>Kp.kids (hx.kx' f) n false _ h) fun g1 e1=>?_
   refine (c7.kids hd n false _ _ g1 h3).bind (fun f h=>h) fun g2 e2=>.inl ⟨g2,.cons e1 e2⟩
theorem c7.call{kind oper dJ pos pos':Int}{many:Nat}{s s':PS}(h:m.Rs s s')(ho:s.over=false)(hl:s.next<m.c.l.length)(hg:m.Gd (m.c.call nx d kind oper dJ pos many s).2) :
  m.Out c7.xr (m.c.call nx d kind oper dJ pos many s) (m.c'.call nx' (d+m.δ) kind oper dJ pos' many s'):=by
 have hs:s.next≤m.K:=Nat.le_trans (Up.call hx.mx hl).1 hg.1
 unfold PC.call at hg ⊢
 rcases c7.cT hm h (d:=d) hs ho hl with ⟨h1,h2,h3⟩ | ⟨h2,h3⟩ | ⟨hd,h1,h2,h3,h4⟩
 ·rw[if_pos h1,if_pos h2];exact .inl ⟨h3,rfl⟩
 ·rw[if_pos h2];exact .inr h3
 ·rw[h1,if_neg (by rw[h3];decide)] at hg ⊢
  rw[h2,if_neg (by rw[h4];decide)]
  have g3:m.Gd (m.c.take (⟨#[41]⟩:ByteArray) (m.c.dB nx many true (m.c.take (⟨#[40]⟩:ByteArray) s.inc).2).2).2:=hg
  have g2:=c7.back hm (Up.take _) (fun f h=>h.take _) g3
  have g1:=c7.back hm (Up.kids hx.mx _ _ _) (fun f h=>Kp.kids (hx.kx f) _ _ _ h) g2
  refine (c7.kids hm hx hd many true _ _ (c7.take hm h.inc _ g1) g2).bind (fun f h=>h.take _) fun k1 e1=>?_
  exact .inl ⟨c7.take hm k1 _ g3,.mk e1⟩
theorem c7.rest:m.Fn c7.xr (m.c.rest nx d) (m.c'.rest nx' (d+m.δ)):=fun s s' h hg=>by
 have hs:=c7.back hm (Up.rest hx.mx d s) (fun f h=>Kp.rest nx d s h) hg
 unfold PC.rest at hg ⊢
 have w1:=c7.eo hm h hs (w:=(⟨#[104,97,115]⟩:ByteArray)) (.inl (by kernel_rfl))
 have w2:=c7.eo hm h hs (w:=(⟨#[40]⟩:ByteArray)) (.inl (by kernel_rfl))
 rw[w1,w2]
 by_cases hc1:m.c.eo (⟨#[104,97,115]⟩:ByteArray) s=true
 ·rw[if_pos hc1] at hg ⊢
  rw[if_pos hc1]
  by_cases ha:m.c.any [(⟨#[98,105,100]⟩:ByteArray),(⟨#[97,115,107]⟩:ByteArray),(⟨#[108,97,115,116]⟩:ByteArray)] s.inc<0
  ·rw[if_pos ha] at hg ⊢
   have gi:m.Gd s.inc:=c7.back hm (Up.cX _) (fun f h=>h.cX _) hg
   rw[c7.any hm h.inc gi (by kernel_rfl),if_pos ha]
   exact .inl ⟨c7.cX hm h.inc gi.1,rfl⟩
  ·rw[if_neg ha] at hg ⊢
   have gi:m.Gd s.inc:=⟨Nat.le_trans (Nat.le_succ _) hg.1,fun ho=>hg.2 ho⟩
   rw[c7.any hm h.inc gi (by kernel_rfl),if_neg ha]
   exact .inl ⟨h.inc.inc,.mk rfl⟩
 ·rw[if_neg hc1] at hg ⊢
  rw[if_neg hc1]
  by_cases hc2:m.c.eo (⟨#[40]⟩:ByteArray) s=true
  ·rw[if_pos hc2] at hg ⊢
   rw[if_pos hc2]
   rcases c7.cT hm h (d:=d) hs.1 (nk hc2) (gQ hc2) with ⟨h1,h2,h3⟩ | ⟨h2,h3⟩ | ⟨hd,h1,h2,h3,h4⟩
   ·rw[if_pos h1,if_pos h2];exact .inl ⟨h3,rfl⟩
   ·rw[if_pos h2];exact .inr h3
   ·rw[h1,if_neg (by rw[h3];decide)] at hg ⊢
    rw[h2,if_neg (by rw[h4];decide)]
    have g2:m.Gd (m.c.take (⟨#[41]⟩:ByteArray) (nx.ex s.inc).2).2:=hg
    have g1:=c7.back hm (Up.take _) (fun f h=>h.take _) g2
    exact (hx.fx hd _ _ h.inc g1).bind (fun f h=>h.take _) fun k1 e1=>.inl ⟨c7.take hm k1 _ g2,e1⟩
  ·rw[if_neg hc2,if_neg hc2]
   exact .inl ⟨c7.cX hm h hs.1,rfl⟩
theorem c7.one:m.Fn c7.xr (m.c.one nx d) (m.c'.one nx' (d+m.δ)):=fun s s' h hg=>by
 have hs:=c7.back hm (Up.one hx.mx d s) (fun f h=>Kp.one nx d s h) hg
 obtain⟨l1,l2,l3⟩:=c7.literal hm h hs
 have hn:=c7.now hm h hs
 unfold PC.one at hg ⊢
 rw[l3,c7.any hm h hs (ws:=jv) (by kernel_rfl),c7.any hm h hs (ws:=gE) (by kernel_rfl),c7.any hm h hs (ws:=jN) (by kernel_rfl)]
 by_cases hc1:(m.c.literal s).1.2=true
 ·rw[if_pos hc1,if_pos hc1];exact .inl ⟨l1,l2⟩
 ·rw[if_neg hc1] at hg ⊢
  rw[if_neg hc1]
  have hk:(m.c'.now s').kind=2↔(m.c.now s).kind=2:=by
   rcases hn with ⟨h1,_⟩ | ⟨_,h2,h3,_⟩
   ·rw[h1]
   ·rw[h2,h3];decide
  by_cases hc2:(m.c.now s).kind=2
  ·rw[if_pos hc2,if_pos (hk.2 hc2)]
   refine .inl ⟨h.inc, ?_⟩
   rcases hn with ⟨_,h2,_⟩ | ⟨_,h2,_⟩
   ·rw[h2];exact .mk rfl
   ·rw[h2] at hc2;exact absurd hc2 (by decide)
  ·rw[if_neg hc2] at hg ⊢
   rw[if_neg fun h=>hc2 (hk.1 h)]
   by_cases hc3:0≤m.c.any jv s
   ·rw[if_pos hc3,if_pos hc3];exact .inl ⟨h.inc,.mk rfl⟩
   ·rw[if_neg hc3] at hg ⊢
    rw[if_neg hc3]
    by_cases hc4:0≤m.c.any gE s
    ·rw[if_pos hc4] at hg ⊢
     rw[if_pos hc4]
     exact c7.call hm hx h (lC hc4) (dx hc4).1 hg
    ·rw[if_neg hc4] at hg ⊢
     rw[if_neg hc4]
     by_cases hc5:0≤m.c.any jN s
     ·rw[if_pos hc5] at hg ⊢
      rw[if_pos hc5]
      exact c7.call hm hx h (lC hc5) (dx hc5).1 hg
     ·rw[if_neg hc5] at hg ⊢
      rw[if_neg hc5]
      exact c7.rest hm hx s s' h hg
theorem c7.unary:m.Fn c7.xr (m.c.unary nx d) (m.c'.unary nx' (d+m.δ)):=fun s s' h hg=>by
 have hs:=c7.back hm (Up.unary hx.mx hx.mu d s) (fun f h=>Kp.unary nx d s h) hg
 unfold PC.unary at hg ⊢
 rw[c7.any hm h hs (ws:=kQ) (by kernel_rfl)]
 by_cases hc1:m.c.any kQ s<0
 ·rw[if_pos hc1] at hg ⊢
  rw[if_pos hc1]
  exact c7.one hm hx s s' h hg
 ·rw[if_neg hc1] at hg ⊢
  rw[if_neg hc1]
  have ha:0≤m.c.any kQ s:=Int.not_lt.1 hc1
  rcases c7.cT hm h (d:=d) hs.1 (lC ha) (dx ha).1 with ⟨h1,h2,h3⟩ | ⟨h2,h3⟩ | ⟨hd,h1,h2,h3,h4⟩
  ·rw[if_pos h1,if_pos h2];exact .inl ⟨h3,rfl⟩
  ·rw[if_pos h2];exact .inr h3
  ·rw[h1,if_neg (by rw[h3];decide)] at hg ⊢
   rw[h2,if_neg (by rw[h4];decide)]
   exact (hx.fu hd _ _ h.inc hg).bind (fun f h=>h) fun k1 e1=>.inl ⟨k1,.mk (.one e1)⟩
end
section
variable {m:c7} (hm:m.Ok)
include hm
theorem c7.dM{ws:List ByteArray}{o:Int}{sub sub':PS→Px×PS}(hw:ws.all okW=true)(h0:dR m.c sub)(hk:∀f,Kp m.c f sub)(hk':∀f,Kp m.c' f sub')(hf:m.Fn c7.xr sub sub')(hm':dR m.c' sub') :
  ∀(k k':Nat) (n n':Px) (s s':PS),m.Rs s s'→c7.xr n n'→m.c.l.length≤k+s.next→m.c'.l.length≤k'+s'.next→m.Gd (m.c.dM ws o sub k n s).2→m.Out c7.xr (m.c.dM ws o sub k n s) (m.c'.dM ws o sub' k' n' s')
 | 0,k',n,n',s,s',h,hn,h1,h2,hg=>by
   have hs:m.Gd s:=hg
   have ha:m.c.any ws s<0:=Int.not_le.1 fun ha=>by have:=(dx ha).1;omega
   cases k' with
   | zero=>exact .inl ⟨h,hn⟩
   | succ k' =>
     rw[PC.dM,PC.dM,c7.any hm h hs hw,if_pos ha];exact .inl ⟨h,hn⟩
 | k+1,k',n,n',s,s',h,hn,h1,h2,hg=>by
   have hs:m.Gd s:=c7.back hm (Up.dM h0 _ _ _) (fun f h=>Kp.dM _ _ _ h) hg
   rw[PC.dM] at hg ⊢
   by_cases ha:m.c.any ws s<0
   ·rw[if_pos ha]
    cases k' with
    | zero=>exact .inl ⟨h,hn⟩
    | succ k'=>rw[PC.dM,c7.any hm h hs hw,if_pos ha];exact .inl ⟨h,hn⟩
   ·rw[if_neg ha] at hg ⊢
    have ha':0≤m.c'.any ws s':=by rw[c7.any hm h hs hw];exact Int.not_lt.1 ha
    cases k' with
    | zero=>have:=(dx ha').1;omega
    | succ k' =>
      rw[PC.dM,c7.any hm h hs hw,if_neg ha]
      have g2:=c7.back hm (Up.dM h0 _ _ _) (fun f h=>Kp.dM _ _ _ h) hg
      refine (hf _ _ h.inc g2).bind (fun f h=>Kp.dM _ _ _ h) fun k1 e1=>?_
      refine c7.dM hw h0 hk hk' hf hm' k k' _ _ _ _ k1 (.two hn e1) ?_ ?_ hg
      ·have:=(h0 s.inc).1;rw[fB] at this;omega
      ·have:=(hm' s'.inc).1;rw[fB] at this;omega
theorem c7.loop{ws:List ByteArray}{o:Int}{sub sub':PS→Px×PS}(hw:ws.all okW=true)(h0:dR m.c sub)(hk:∀f,Kp m.c f sub)(hk':∀f,Kp m.c' f sub')(hf:m.Fn c7.xr sub sub')(hm':dR m.c' sub') :
  m.Fn c7.xr (m.c.loop ws o sub) (m.c'.loop ws o sub'):=fun s s' h hg=>by
 have g1:=c7.back hm (Up.dM h0 _ _ _) (fun f h=>Kp.dM _ _ _ h) hg
 exact (hf s s' h g1).bind (fun f h=>Kp.dM _ _ _ h) fun k1 e1=>c7.dM hm hw h0 hk hk' hf hm' _ _ _ _ _ _ k1 e1 (by omega) (by omega) hg
end
section
variable {m:c7} (hm:m.Ok) {nx nx':Lv} {d:Int} (hx:m.Bi nx nx' d) (hx':dR m.c' nx'.ex) (hu':dR m.c' nx'.un)
include hm hx hx' hu'
theorem c7.product:m.Fn c7.xr (m.c.product nx d) (m.c'.product nx' (d+m.δ)) :=
 c7.loop hm (by kernel_rfl) (Up.unary hx.mx hx.mu d) (fun f=>Kp.unary nx d) (fun f=>Kp.unary nx' _) (c7.unary hm hx) (Up.unary hx' hu' _)
theorem c7.sum:m.Fn c7.xr (m.c.sum nx d) (m.c'.sum nx' (d+m.δ)) :=
 c7.loop hm (by kernel_rfl) (Up.product hx.mx hx.mu d) (fun f=>Kp.product nx d) (fun f=>Kp.product nx' _) (c7.product hm hx hx' hu') (Up.product hx' hu' _)
theorem c7.compare:m.Fn c7.xr (m.c.compare nx d) (m.c'.compare nx' (d+m.δ)):=fun s s' h hg=>by
 unfold PC.compare at hg ⊢
 replace hg:m.Gd (if m.c.any iU (m.c.sum nx d s).2<0 then m.c.sum nx d s else (iS (11+m.c.any iU (m.c.sum nx d s).2) (m.c.now (m.c.sum nx d s).2).pos (m.c.sum nx d s).1 (m.c.sum nx d (m.c.sum nx d s).2.inc).1,(m.c.sum nx d (m.c.sum nx d s).2.inc).2)).2:=hg
 show m.Out c7.xr (if m.c.any iU (m.c.sum nx d s).2<0 then m.c.sum nx d s else (iS (11+m.c.any iU (m.c.sum nx d s).2) (m.c.now (m.c.sum nx d s).2).pos (m.c.sum nx d s).1 (m.c.sum nx d (m.c.sum nx d s).2.inc).1,(m.c.sum nx d (m.c.sum nx d s).2.inc).2))
  (if m.c'.any iU (m.c'.sum nx' (d+m.δ) s').2<0 then m.c'.sum nx' (d+m.δ) s' else (iS (11+m.c'.any iU (m.c'.sum nx' (d+m.δ) s').2) (m.c'.now (m.c'.sum nx' (d+m.δ) s').2).pos (m.c'.sum nx' (d+m.δ) s').1 (m.c'.sum nx' (d+m.δ) (m.c'.sum nx' (d+m.δ) s').2.inc).1,(m.c'.sum nx' (d+m.δ) (m.c'.sum nx' (d+m.δ) s').2.inc).2))
 by_cases ha:m.c.any iU (m.c.sum nx d s).2<0
 ·rw[if_pos ha] at hg ⊢
  refine (c7.sum hm hx hx' hu' s s' h hg).bind (fun f h=>?_) fun k1 e1=>?_
  ·rw[h.any,if_pos (by decide)];exact h
  ·rw[c7.any hm k1 hg (by kernel_rfl),if_pos ha];exact .inl ⟨k1,e1⟩
 ·rw[if_neg ha] at hg ⊢
  have hl:=(dx (Int.not_lt.1 ha)).1
  have ho:=lC (Int.not_lt.1 ha)
  have g1:m.Gd (m.c.sum nx d s).2:=⟨by have:=(Up.sum hx.mx hx.mu d (m.c.sum nx d s).2.inc).1;have:=hg.1;rw[fB] at *;show (m.c.sum nx d s).2.next≤m.K;simp only at *;omega,fun _=>ho⟩
  refine (c7.sum hm hx hx' hu' s s' h g1).bind (fun f h=>?_) fun k1 e1=>?_
  ·rw[h.any,if_pos (by decide)];exact h
  ·rw[c7.any hm k1 g1 (by kernel_rfl),if_neg ha]
   exact (c7.sum hm hx hx' hu' _ _ k1.inc hg).bind (fun f h=>h) fun k2 e2=>.inl ⟨k2,.two e1 e2⟩
theorem c7.and:m.Fn c7.xr (m.c.and nx d) (m.c'.and nx' (d+m.δ)) :=
 c7.loop hm (by kernel_rfl) (Up.compare hx.mx hx.mu d) (fun f=>Kp.compare nx d) (fun f=>Kp.compare nx' _) (c7.compare hm hx hx' hu') (Up.compare hx' hu' _)
theorem c7.or:m.Fn c7.xr (m.c.or nx d) (m.c'.or nx' (d+m.δ)) :=
 c7.loop hm (by kernel_rfl) (Up.and hx.mx hx.mu d) (fun f=>Kp.and nx d) (fun f=>Kp.and nx' _) (c7.and hm hx hx' hu') (Up.and hx' hu' _)
theorem c7.expr:m.Fn c7.xr (m.c.expr nx d) (m.c'.expr nx' (d+m.δ)):=fun s s' h hg=>by
 unfold PC.expr at hg ⊢
 generalize hr:m.c.or nx d s=r at hg ⊢
 have hor:m.Gd r.2→m.Out c7.xr r (m.c'.or nx' (d+m.δ) s'):=fun g=>by rw[←hr];exact c7.or hm hx hx' hu' s s' h (by rw[hr];exact g)
 replace hg:m.Gd (if m.c.eo (⟨#[63]⟩:ByteArray) r.2 then (if (m.c.cT d r.2).over then (eP,m.c.cT d r.2) else (.mk 7 0 0 0 0 ⟨#[]⟩ [r.1,(nx.ex (m.c.cT d r.2).inc).1,(nx.ex (m.c.take (⟨#[58]⟩:ByteArray) (nx.ex (m.c.cT d r.2).inc).2).2).1] (m.c.now (m.c.cT d r.2)).pos,(nx.ex (m.c.take (⟨#[58]⟩:ByteArray) (nx.ex (m.c.cT d r.2).inc).2).2).2)) else r:Px×PS).2:=hg
 show m.Out c7.xr (if m.c.eo (⟨#[63]⟩:ByteArray) r.2 then (if (m.c.cT d r.2).over then (eP,m.c.cT d r.2) else (.mk 7 0 0 0 0 ⟨#[]⟩ [r.1,(nx.ex (m.c.cT d r.2).inc).1,(nx.ex (m.c.take (⟨#[58]⟩:ByteArray) (nx.ex (m.c.cT d r.2).inc).2).2).1] (m.c.now (m.c.cT d r.2)).pos,(nx.ex (m.c.take (⟨#[58]⟩:ByteArray) (nx.ex (m.c.cT d r.2).inc).2).2).2)) else r:Px×PS) _
 have key:∀r':Px×PS,m.Out c7.xr r r'→m.Out c7.xr (if m.c.eo (⟨#[63]⟩:ByteArray) r.2 then (if (m.c.cT d r.2).over then (eP,m.c.cT d r.2) else (.mk 7 0 0 0 0 ⟨#[]⟩ [r.1,(nx.ex (m.c.cT d r.2).inc).1,(nx.ex (m.c.take (⟨#[58]⟩:ByteArray) (nx.ex (m.c.cT d r.2).inc).2).2).1] (m.c.now (m.c.cT d r.2)).pos,(nx.ex (m.c.take (⟨#[58]⟩:ByteArray) (nx.ex (m.c.cT d r.2).inc).2).2).2)) else r:Px×PS)
   (if m.c'.eo (⟨#[63]⟩:ByteArray) r'.2 then (if (m.c'.cT (d+m.δ) r'.2).over then (eP,m.c'.cT (d+m.δ) r'.2) else (.mk 7 0 0 0 0 ⟨#[]⟩ [r'.1,(nx'.ex (m.c'.cT (d+m.δ) r'.2).inc).1,(nx'.ex (m.c'.take (⟨#[58]⟩:ByteArray) (nx'.ex (m.c'.cT (d+m.δ) r'.2).inc).2).2).1] (m.c'.now (m.c'.cT (d+m.δ) r'.2)).pos,(nx'.ex (m.c'.take (⟨#[58]⟩:ByteArray) (nx'.ex (m.c'.cT (d+m.δ) r'.2).inc).2).2).2)) else r':Px×PS):=by
  intro r' hrr
  refine hrr.bind (fun f h=>?_) fun k1 e1=>?_
  ·rw[h.eo];exact h
  by_cases hc:m.c.eo (⟨#[63]⟩:ByteArray) r.2=true
  ·rw[if_pos hc] at hg ⊢
   have hl:=gQ hc
   have ho:=nk hc
   have hK:r.2.next≤m.K:=by
    have h2:=hg.1
    split at h2
    ·have h2:(m.c.cT d r.2).next≤m.K:=h2
     rw[ef] at h2;exact h2
    ·have h2:(nx.ex (m.c.take (⟨#[58]⟩:ByteArray) (nx.ex (m.c.cT d r.2).inc).2).2).2.next≤m.K:=h2
     have a1:=(hx.mx (m.c.cT d r.2).inc).1
     have a2:=(Up.take (c:=m.c) (s:=(nx.ex (m.c.cT d r.2).inc).2) (⟨#[58]⟩:ByteArray)).1
     have a3:=(hx.mx (m.c.take (⟨#[58]⟩:ByteArray) (nx.ex (m.c.cT d r.2).inc).2).2).1
     rw[fB,ef] at a1
     omega
   rw[c7.eo hm k1 ⟨hK,fun _=>ho⟩ (.inl (by kernel_rfl)),if_pos hc]
   rcases c7.cT hm k1 (d:=d) hK ho hl with ⟨h1,h2,h3⟩ | ⟨h2,h3⟩ | ⟨hd,h1,h2,h3,h4⟩
   ·rw[if_pos h1,if_pos h2];exact .inl ⟨h3,rfl⟩
   ·rw[if_pos h2];exact .inr h3
   ·rw[h1,if_neg (by rw[h3];decide)] at hg ⊢
    rw[h2,if_neg (by rw[h4];decide)]
    have g3:m.Gd (nx.ex (m.c.take (⟨#[58]⟩:ByteArray) (nx.ex r.2.inc).2).2).2:=hg
    have g2:=c7.back hm (hx.mx _) (fun f h=>hx.kx f _ h) g3
    have g1:=c7.back hm (Up.take _) (fun f h=>h.take _) g2
    refine (hx.fx hd _ _ k1.inc g1).bind (fun f h=>hx.kx' f _ (h.take _)) fun k2 e2=>?_
    refine (hx.fx hd _ _ (c7.take hm k2 _ g2) g3).bind (fun f h=>h) fun k3 e3=>.inl ⟨k3,.mk (.cons e1 (.cons e2 (.one e3)))⟩
  ·rw[if_neg hc] at hg ⊢
   rw[c7.eo hm k1 hg (.inl (by kernel_rfl)),if_neg hc]
   exact .inl ⟨k1,e1⟩
 refine key _ (hor ?_)
 by_cases hc:m.c.eo (⟨#[63]⟩:ByteArray) r.2=true
 ·rw[if_pos hc] at hg
  have ho:=nk hc
  refine⟨?_,fun _=>ho⟩
  have h2:=hg.1
  split at h2
  ·have h2:(m.c.cT d r.2).next≤m.K:=h2
   rw[ef] at h2;exact h2
  ·have h2:(nx.ex (m.c.take (⟨#[58]⟩:ByteArray) (nx.ex (m.c.cT d r.2).inc).2).2).2.next≤m.K:=h2
   have a1:=(hx.mx (m.c.cT d r.2).inc).1
   have a2:=(Up.take (c:=m.c) (s:=(nx.ex (m.c.cT d r.2).inc).2) (⟨#[58]⟩:ByteArray)).1
   have a3:=(hx.mx (m.c.take (⟨#[58]⟩:ByteArray) (nx.ex (m.c.cT d r.2).inc).2).2).1
   rw[fB,ef] at a1
   omega
 ·rw[if_neg hc] at hg;exact hg
end
theorem c7.lvl{m:c7}(hm:m.Ok):∀(k k':Nat) (d:Int),(k:Int)+d=24→(k':Int)+(d+m.δ)=24→m.Fn c7.xr (m.c.lvl k d).ex (m.c'.lvl k' (d+m.δ)).ex∧m.Fn c7.xr (m.c.lvl k d).un (m.c'.lvl k' (d+m.δ)).un:=by
 have hz:∀c:PC,dR c (fun s:PS=>(eP,s)):=fun c s=>.refl
 have kz:∀(c:PC) f,Kp c f (fun s:PS=>(eP,s)):=fun c f s h=>h
 have hd0:=hm.d0
 intro k
 induction k with
 | zero =>
   intro k' d hk hk'
   have hk0:k'=0:=by omega
   subst hk0
   have hx:m.Bi ⟨fun s=>(eP,s),fun s=>(eP,s)⟩ ⟨fun s=>(eP,s),fun s=>(eP,s)⟩ d:=⟨hz _,hz _,kz _,kz _,kz _,kz _,fun h=>by omega,fun h=>by omega⟩
   exact⟨c7.expr hm hx (hz _) (hz _),c7.unary hm hx⟩
 | succ k ih =>
   intro k' d hk hk'
   cases k' with
   | zero =>
     have hx:m.Bi (m.c.lvl k (d+1)) ⟨fun s=>(eP,s),fun s=>(eP,s)⟩ d:=⟨(Up.lvl k (d+1)).1,(Up.lvl k (d+1)).2,fun f=>(Kp.lvl k (d+1)).1,fun f=>(Kp.lvl k (d+1)).2,kz _,kz _,fun h=>by omega,fun h=>by omega⟩
     exact⟨c7.expr hm hx (hz _) (hz _),c7.unary hm hx⟩
   | succ k' =>
     have hi:=ih k' (d+1) (by omega) (by omega)
     rw[show d+1+m.δ=d+m.δ+1 by omega] at hi
     have hx:m.Bi (m.c.lvl k (d+1)) (m.c'.lvl k' (d+m.δ+1)) d:=⟨(Up.lvl k (d+1)).1,(Up.lvl k (d+1)).2,fun f=>(Kp.lvl k (d+1)).1,fun f=>(Kp.lvl k (d+1)).2,fun f=>(Kp.lvl k' _).1,fun f=>(Kp.lvl k' _).2,fun _=>hi.1,fun _=>hi.2⟩
     exact⟨c7.expr hm hx (Up.lvl k' _).1 (Up.lvl k' _).2,c7.unary hm hx⟩
end Go.Lx
namespace Go.Lx
open Go.Vc
section
variable {c:PC}
theorem Up.jL{nm:ByteArray}{t pos pos2:Int}{minus:Bool}{n:Px}:dR c (c.jL nm t pos pos2 minus n):=fun s=>Up.take _
theorem Up.hY{nm:ByteArray}{t pos pos2:Int}{minus:Bool}:dR c (c.hY nm t pos pos2 minus):=fun s=>by
 unfold PC.hY
 split
 ·exact .cX _
 ·refine Up.trans ?_ (Up.jL _)
  split
  ·exact .literal
  ·exact Up.literal.trans (.cX _)
theorem Up.jh{nm:ByteArray}{t pos:Int}:dR c (c.jh nm t pos):=fun s=>by
 unfold PC.jh
 refine Up.trans ?_ (Up.hY _)
 split
 ·rename_i h;exact .inc (gQ h)
 ·exact .refl
theorem Up.ig{nm:ByteArray}{pos:Int}:dR c (c.ig nm pos):=fun s=>by
 unfold PC.ig
 split
 ·exact .cX _
 ·rename_i ha
  exact (Up.inc (dx (Int.not_lt.1 ha)).1).trans ((Up.take _).trans (Up.jh _))
theorem Up.kR:dR c c.kR:=fun s=>(Up.take _).trans (Up.name.trans (Up.ig _))
theorem Up.eh:dR c c.eh:=fun s=>by
 unfold PC.eh
 split
 ·rename_i h;exact (Up.inc (gQ h)).trans .name
 ·exact .refl
theorem Up.jI{x y z:Px}{pos o:Int}:dR c (c.jI x y pos z o):=fun s=>Up.eh s
theorem Up.ij{x y z:Px}{pos:Int}:dR c (c.ij x y pos z):=fun s=>by
 unfold PC.ij
 split
 ·exact .cX _
 ·rename_i ha
  exact (Up.inc (dx (Int.not_lt.1 ha)).1).trans (Up.jI _)
theorem Up.hZ{x y:Px}{pos:Int}:dR c (c.hZ x y pos):=fun s=>by
 unfold PC.hZ
 split
 ·exact .cX _
 ·rename_i ha
  have h1:=Up.inc (c:=c) (dx (Int.not_lt.1 ha)).1
  split
  ·exact h1.trans ((Up.dW _).trans (Up.ij _))
  ·exact h1.trans (Up.jI _)
theorem Up.fZ:dR c c.fZ:=fun s=>(Up.take _).trans ((Up.dW _).trans ((Up.take _).trans ((Up.dW _).trans (Up.hZ _))))
theorem Up.nj{k:Int}{nm:ByteArray}{pos:Int}:dR c (c.nj k nm pos):=fun s=>by
 unfold PC.nj
 split
 ·exact (Up.take _).trans ((Up.dW _).trans ((Up.take _).trans (Up.dW _)))
 ·split
  ·exact (Up.take _).trans (Up.dW _)
  ·exact .refl
theorem Up.do:dR c c.do:=fun s=>by
 unfold PC.do
 split
 ·exact .cX _
 ·rename_i ha
  have h1:=Up.inc (c:=c) (dx (Int.not_lt.1 ha)).1
  split
  ·exact Up.fZ s
  ·split
   ·exact h1.trans (Up.nj _)
   ·exact h1.trans (Up.name.trans (Up.nj _))
end
end Go.Lx
namespace Go.Lx
open Go.Vc
theorem mr:mT.px=eP:=by simp only[mT,Nd.px,Nd.wg];rfl
section
variable {N Pl:Type} (z:Nat) (f:N→List Value) (E:Nat) (p:N→Pl) (ok:cS→N→Prop) (q:PQ) (b:Nat) (w:ByteArray) (most:Nat) (one:PS→Pl×PS) (s0:PS) (F0:cR)
def Ev(a:Option Addr)(n c m:Nat)(I:cS)(F:cR):Prop:=q.ok I∧∃(ks:List N) (A:cR) (s':PS),Acc z f E a n c ks A∧(∀k∈ks,ok I k)∧F.Perm (q.fo b s'::(A++F0))∧s'.next≤q.c.l.length∧ks.length≤most∧m=most-ks.length∧q.c.list w most one s0=q.c.dH w most one (most-ks.length) (ks.map p) s'
end
section
variable {N Pl:Type} {z:Nat} {f:N→List Value} {E:Nat} {p:N→Pl} {ok:cS→N→Prop} {q:PQ} {b:Nat} {w:ByteArray} {most:Nat} {one:PS→Pl×PS} {s0:PS} {F0:cR} {I J:cS} {F:cR}
end
end Go.Lx
namespace Go.Lx
open Go.Vc
section
variable {c:PC}
theorem Up.eX:∀(m:Nat) (l:List fA),dR c (c.eX m l)
 | 0,l=>fun s=>.refl
 | m+1,l=>fun s=>by
   rw[PC.eX]
   have h1:=Up.do (c:=c) s
   split
   ·rename_i hw
    have hlt:=gQ hw
    split
    ·exact h1.trans (.many _ _)
    ·rename_i hm
     obtain⟨_,he⟩:=pH hlt (by simpa using hm)
     rw[he]
     exact h1.trans ((Up.inc hlt).trans (Up.eX m _ _))
   ·exact h1
theorem Up.fG:dR c c.fG:=fun s=>(Up.take _).trans ((Up.dW _).trans ((Up.take _).trans ((Up.eX 8 [] _).trans (Up.take _))))
theorem Up.dH{α:Type}{w:ByteArray}{most:Nat}{one:PS→α×PS}(h:dR c one):∀(m:Nat) (l:List α),dR c (c.dH w most one m l)
 | 0,l=>fun s=>by
   rw[PC.dH]
   show Up c s (if c.eo w s then c.many l.length most s else s)
   split
   ·exact .many _ _
   ·exact .refl
 | m+1,l=>fun s=>by
   rw[PC.dH]
   split
   ·rename_i hw
    have hlt:=gQ hw
    split
    ·exact .many _ _
    ·rename_i hm
     obtain⟨_,he⟩:=pH hlt (by simpa using hm)
     rw[he]
     exact (h s).trans (Up.dH h m _ _)
   ·exact .refl
theorem Up.list{α:Type}{w:ByteArray}{most:Nat}{one:PS→α×PS}(h:dR c one):dR c (c.list w most one):=Up.dH h most []
theorem Up.state:dR c c.state:=fun s=>(Up.take _).trans (Up.name.trans ((Up.take _).trans ((Up.list Up.fG _).trans (Up.take _))))
theorem Up.slot:dR c c.slot:=fun s=>(Up.take _).trans (Up.name.trans (Up.take _))
theorem Up.ia{nm:ByteArray}{rs:List eg}{ss:List dm}{ts:List dt}:dR c (c.ia nm rs ss ts):=fun s=>by
 have h1:Up c s (if ts.length=0 then c.cX 130 s else s):=by
  split
  ·exact .cX _
  ·exact .refl
 exact h1.trans ((Up.take _).trans .end)
end
section
variable {N Pl:Type} {z:Nat} {f:N→List Value} {E:Nat} {p:N→Pl} {ok:cS→N→Prop} {q:PQ} {b:Nat} {w:ByteArray} {most:Nat} {one:PS→Pl×PS} {s0:PS} {F0:cR} {I J:cS} {F:cR} {a:Option Addr} {n c m:Nat}
theorem Ev.next(hmono:∀I J x,cS.le I J→ok I x→ok J x){ks:List N}{A:cR}{s':PS}(hm:dR q.c one)(hA:Acc z f E a n c ks A)(hks:∀k∈ks,ok I k)(hsn:s'.next≤q.c.l.length)(hr:q.c.list w most one s0=q.c.dH w most one (most-ks.length) (ks.map p) s')(hw:q.c.eo w s'=true)(ho:(q.c.many ks.length most s').over=false)
  {x:N} (hx:p x=(one s').1) (hok:ok J x) (hl:cS.le I J) (hq:q.ok J) {a':Option Addr} {n' c':Nat} {A':cR} (hA':Acc z f E a' n' c' (ks++[x]) A') (hF:F.Perm (q.fo b (one s').2::(A'++F0))) :
  Ev z f E p ok q b w most one s0 F0 a' n' c' (most-(ks.length+1)) J F:=by
 obtain⟨hlt,he⟩:=pH (gQ hw) ho
 obtain⟨j,hj⟩:∃j,most-ks.length=j+1:=⟨most-ks.length-1,by omega⟩
 refine⟨hq,ks++[x],A',(one s').2,hA',fun k hk=>?_,hF,(hm _).2 hsn,by rw[List.length_append,List.length_singleton];omega,by rw[List.length_append,List.length_singleton], ?_⟩
 ·rcases List.mem_append.1 hk with hk | hk
  ·exact hmono _ _ _ hl (hks k hk)
  ·rw[List.mem_singleton] at hk;subst hk;exact hok
 ·rw[hr,hj,PC.dH,if_pos hw,List.length_map,if_neg (by simp[ho]),he,List.map_append,List.map_singleton,hx,List.length_append,List.length_singleton,show most-(ks.length+1)=j by omega]
end
end Go.Lx
namespace Go.Lx
open Go.Vc
def fA.np(d:fA):Prop:=Small d.Fb
def ej.np(r:ej):Prop:=r.when.size≤1048576∧r.dos.length≤1048576∧∀d∈r.dos,d.np
def dt.np(x:dt):Prop:=x.rules.length≤1048576∧∀r∈x.rules,r.np
def ji{α:Type}(f:α→Int):List α→Int
 | []=>0
 | x::r=>f x+ji f r
theorem nq{α β:Type}(f:α→Int)(g:β→α):∀l:List β,ji f (l.map g)=ji (fun x=>f (g x)) l
 | []=>rfl
 | x::l=>by rw[List.map_cons,ji,ji,nq f g l]
def fA.fK(d:fA):Int:=1+d.side.size+d.qty.size+d.price.size+d.value.size
def ej.fK(r:ej):Int:=1+r.when.size+ji fA.fK r.dos
def dt.fK(x:dt):Int:=1+ji ej.fK x.rules
def eg.fK(r:eg):Int:=1+r.init.size
def fm.fK(s:fm):Int:=ji eg.fK s.regs+s.slots.length+ji dt.fK s.states
structure fm.np (s:fm):Prop where
 regs:s.regs.length≤1048576
 kR:∀r∈s.regs,r.init.size≤1048576
 slots:s.slots.length≤1048576
 states:s.states.length≤1048576
 state:∀x∈s.states,x.np
 all:s.fK≤1048576
def gZ.fK(d:gZ):Int:=d.p.fK
def dy.fK(r:dy):Int:=r.p.fK
def di.fK(r:di):Int:=r.p.fK
def eW.fK(r:eW):Int:=r.p.fK
theorem dy.pI(r:dy):r.fK=1+r.when.px.size+ji gZ.fK r.dos:=by
 show 1+r.when.px.size+ji fA.fK (r.dos.map gZ.p)=_
 rw[nq];rfl
theorem di.pI(r:di):r.fK=1+ji dy.fK r.rules:=by
 show 1+ji ej.fK (r.rules.map dy.p)=_
 rw[nq];rfl
theorem gy.pI(s:gy):s.p.fK=ji eW.fK s.regs+s.slots.length+ji di.fK s.states:=by
 show ji eg.fK (s.regs.map eW.p)+s.slots.length+ji dt.fK (s.states.map di.p)=_
 rw[nq,nq];rfl
structure fm.zZ (s:fm):Prop where
 regs:s.regs.length≤1048576
 kR:∀r∈s.regs,r.init.size≤1048576
 slots:s.slots.length≤1048576
 states:s.states.length≤1048576
 state:∀x∈s.states,x.np
end Go.Lx
namespace Go.Vc
def uf{α β:Type}(f:α→β→Bool):List α→List β→Bool
 | x::l,y::m=>f x y&&uf f l m
 | _,_=>true
end Go.Vc
namespace Go.Lx
open Go.Vc
namespace Px
mutual
def same:Px→Px→Bool
 | .mk k o t n f s l q,y=>q==y.pos&&(Ce (.mk k o t n f s l q) y&&(decide (l.length=y.kids.length)&&CX l y.kids))
def CX:List Px→List Px→Bool
 | [],_=>true
 | _::_,[]=>false
 | x::r,y::r'=>same x y&&CX r r'
end
end Px
def fA.same(d e:fA):Bool:=d.kind==e.kind&&(d.order==e.order&&(d.name.toList==e.name.toList&&(d.pos==e.pos&&(d.side.same e.side&&(d.qty.same e.qty&&(d.price.same e.price&&d.value.same e.value))))))
def ej.same(r q:ej):Bool:=r.when.same q.when&&(r.pos==q.pos&&(decide (r.dos.length=q.dos.length)&&uf fA.same r.dos q.dos))
def dt.same(x y:dt):Bool:=x.name.toList==y.name.toList&&(x.pos==y.pos&&(decide (x.rules.length=y.rules.length)&&uf ej.same x.rules y.rules))
def eg.same(r q:eg):Bool:=r.init.same q.init&&(r.name.toList==q.name.toList&&(r.dJ==q.dJ&&r.pos==q.pos))
def dm.same(r q:dm):Bool:=r.name.toList==q.name.toList&&(r.pos==q.pos&&true)
def fm.same(s u:fm):Bool:=s.name.toList==u.name.toList&&(decide (s.regs.length=u.regs.length)&&(decide (s.slots.length=u.slots.length)&&(decide (s.states.length=u.states.length) &&
 (uf eg.same s.regs u.regs&&(uf dm.same s.slots u.slots&&uf dt.same s.states u.states)))))
theorem qH{b:Bool}(h:(!b)=true):b=false:=by simpa using h
theorem pJ{b:Bool}(h:(!b)=false):b=true:=by simpa using h
def Ew(z n:Nat)(a:Option Addr)(c:Nat)(A:cR):Prop :=
 ∃b cells e,a=some ⟨b,0,none⟩∧A=[(b,Obj.cells cells e (0,0))]∧c=n+2∧cells[n*z+(z-1)]? = some (.int .i64 (-771))
def qN{α:Type}(R:Bool)(z:Nat)(f:α→List Value)(E:Nat)(O:α→cR→Prop)(a:Option Addr)(n c:Nat)(l:List α)(H:cR):Prop :=
 ∃A hs,H=A++dT n hs∧Acc z f E a n c l A∧(R=true→Ew z n a c A)∧∀(i:Nat) (k:α),l[i]? = some k→O k (hs i)
def jn(R:Bool)(d:gZ)(H:cR):Prop:=∃H1 H2 H3 H4,H=H1++(H2++(H3++H4))∧eG 64 R d.side H1∧eG 64 R d.qty H2∧eG 64 R d.price H3∧eG 64 R d.value H4
def oT(R:Bool)(r:eW)(H:cR):Prop:=eG 64 R r.init H
def uX(r:dm)(H:cR):Prop:=H=[]
def mv(R:Bool)(r:dy)(H:cR):Prop:=∃H1 H2,H=H1++H2∧eG 64 R r.when H1∧qN R 36 gZ.enc 114 (jn R) r.a r.dos.length r.c r.dos H2
def kq(R:Bool)(x:di)(H:cR):Prop:=qN R 10 dy.enc 110 (mv R) x.a x.rules.length x.c x.rules H
def qg(R:Bool)(s:gy)(H:cR):Prop:=∃H1 H2 H3,H=H1++(H2++H3)∧qN R 11 eW.enc 104 (oT R) s.ra s.regs.length s.rc s.regs H1∧qN R 2 dm.enc 106 uX s.sa s.slots.length s.sc s.slots H2 ∧
 qN R 3 di.enc 88 (kq R) s.ta s.states.length s.tc s.states H3
theorem qN.ok{α:Type}{R:Bool}{z E n c:Nat}{f:α→List Value}{O:α→cR→Prop}{a:Option Addr}{l:List α}{H:cR}(h:qN R z f E O a n c l H)(hz:∀x,(f x).length=z){I:cS}{G:cR}{K:α→Prop}(hG:∀x,x∈H→x∈G)
  (hk:∀x H',O x H'→(∀y,y∈H'→y∈G)→K x):pY I G z f a n l∧∀x∈l,K x:=by
 obtain⟨A,hs,rfl,hA, -,hO⟩:=h
 refine⟨hA.FZ hz I fun x hx=>hG x (List.mem_append_left _ hx),fun x hx=>?_⟩
 obtain⟨i,hi,rfl⟩:=List.mem_iff_getElem.1 hx
 have hn:=hA.1
 exact hk _ _ (hO i _ (List.getElem?_eq_getElem hi)) fun y hy=>hG y (List.mem_append_right _ (tZ (by omega) hy))
theorem jn.ok{R:Bool}{d:gZ}{H:cR}(h:jn R d H){I:cS}{G:cR}(hG:∀x,x∈H→x∈G):d.Ok I G:=by
 obtain⟨H1,H2,H3,H4,rfl,h1,h2,h3,h4⟩:=h
 simp only[List.mem_append] at hG
 exact⟨h1.ok fun x hx=>hG x (.inl hx),h2.ok fun x hx=>hG x (.inr (.inl hx)),h3.ok fun x hx=>hG x (.inr (.inr (.inl hx))),h4.ok fun x hx=>hG x (.inr (.inr (.inr hx)))⟩
theorem oT.ok{R:Bool}{d:eW}{H:cR}(h:oT R d H){I:cS}{G:cR}(hG:∀x,x∈H→x∈G):d.Ok I G:=eG.ok h hG
theorem mv.ok{R:Bool}{r:dy}{H:cR}(h:mv R r H){I:cS}{G:cR}(hG:∀x,x∈H→x∈G):r.Ok I G:=by
 obtain⟨H1,H2,rfl,h1,h2⟩:=h
 obtain⟨g1,g2⟩:=h2.ok (I:=I) (G:=G) (K:=fun d=>d.Ok I G) (fun _=>rfl) (fun x hx=>hG x (List.mem_append_right _ hx)) fun x H' hO hs=>jn.ok hO hs
 exact⟨h1.ok fun x hx=>hG x (List.mem_append_left _ hx),g1,g2⟩
theorem kq.ok{R:Bool}{r:di}{H:cR}(h:kq R r H){I:cS}{G:cR}(hG:∀x,x∈H→x∈G):r.Ok I G :=
 qN.ok h (fun _=>rfl) hG fun x H' hO hs=>mv.ok hO hs
theorem qg.ok{R:Bool}{s:gy}{H:cR}(h:qg R s H){I:cS}{G:cR}(hG:∀x,x∈H→x∈G):s.Ok I G:=by
 obtain⟨H1,H2,H3,rfl,h1,h2,h3⟩:=h
 simp only[List.mem_append] at hG
 obtain⟨a1,a2⟩:=h1.ok (I:=I) (G:=G) (K:=fun d=>d.Ok I G) (fun _=>rfl) (fun x hx=>hG x (.inl hx)) fun x H' hO hs=>oT.ok hO hs
 obtain⟨b1, -⟩:=h2.ok (I:=I) (G:=G) (K:=fun d=>True) (fun _=>rfl) (fun x hx=>hG x (.inr (.inl hx))) fun x H' hO hs=>trivial
 obtain⟨c1,c2⟩:=h3.ok (I:=I) (G:=G) (K:=fun d=>d.Ok I G) (fun _=>rfl) (fun x hx=>hG x (.inr (.inr hx))) fun x H' hO hs=>kq.ok hO hs
 exact⟨a1,a2,b1,c1,c2⟩
def Part{α:Type}(z:Nat)(f:α→List Value)(E:Nat)(O:α→cR→Prop)(a:Option Addr)(n c:Nat)(l:List α)(F F':cR):Prop :=
 ∃A hs,Acc z f E a n c l A∧(∀(i:Nat) (k:α),l[i]? = some k→O k (hs i))∧F'.Perm (A++(dT l.length hs++F))
theorem Part.nil{α:Type}{z E:Nat}{f:α→List Value}{O:α→cR→Prop}{F:cR}:Part z f E O none 0 0 ([]:List α) F F:=⟨[],fun _=>[],Acc.nil,fun i k h=>by simp at h,.refl _⟩
theorem z0{α:Type}{z E n c:Nat}{f:α→List Value}{O:α→cR→Prop}{a:Option Addr}{l:List α}{F:cR}{hs:Nat→cR}{x:α}{Hx A' G:cR}(hA':Acc z f E a n c (l++[x]) A')(hk:∀(i:Nat) (k:α),l[i]? = some k→O k (hs i))(hx:O x Hx)
  (hG:G.Perm (A'++(Hx++(dT l.length hs++F)))):Part z f E O a n c (l++[x]) F G:=by
 refine⟨A',fun j=>if j<l.length then hs j else Hx,hA',fun j k hj=>?_, ?_⟩
 ·show O k (if j<l.length then hs j else Hx)
  rw[List.getElem?_append] at hj
  split at hj
  ·rename_i hlt';rw[if_pos hlt'];exact hk j k hj
  ·rename_i hge
   have hj':=List.mem_of_getElem? hj
   rw[List.mem_singleton] at hj'
   rw[if_neg hge,hj'];exact hx
 ·rw[List.length_append,List.length_singleton,oO,if_neg (Nat.lt_irrefl _),wq (hs':=hs) fun j hj=>if_pos hj]
  exact hG.trans (cY fun z=>by simp only[c6];omega)
theorem j6{P:Program}{α:Type}{z:Nat}{f:α→List Value}(hz:∀x,(f x).length=z){t ty e:TypeId}{zv:Value}{by':Nat}(ht:P.underlying t=some (.slice e))(hi:(P.info? e).map (fun i=>(i.zero,i.size,i.bytes))=some (some zv,z,by'))(hzs:zv.cells.size=z)(hb:1≤by')
  {a:Option Addr} {n c:Nat} {l:List α} {O:α→cR→Prop} {F F1 F2 R0 Hx:cR} {x:α} (h:Part z f e O a n c l F F1) (h1:∀u∈f x,u.oneCell'=true) {b:Nat} {I:cS} {o:Obj} (ho:o=.cells (f x).toArray e (0,0)) (hbm:I b=some o)
  (hx:O x Hx) (hF2:F2.Perm (R0++(Hx++F1))) (hfit:(l.length+1)*by'≤140737488355328) :
  fh P (Builtin.append_ #[t,t] ty #[.slice a n c,.slice (some ⟨b,0,none⟩) 1 1]) I F2 fun v I' G=>∃a' n' c',v=.slice a' n' c'∧∃F3,G.Perm (R0++F3)∧Part z f e O a' n' c' (l++[x]) F F3:=by
 obtain⟨A,hs,hA,hk,hp⟩:=h
 subst ho
 refine fh.perm (fh.mono (pk hz ht hi hzs hb hA (xs:=[x]) (fun y hy=>by rw[List.mem_singleton] at hy;rw[hy];exact h1) (by simp) rfl ?_ (by simpa using hfit) (F:=R0++(Hx++(dT l.length hs++F)))) fun v I2 G hI2 ⟨a',n',c',A',hv,hA',hG',_⟩=>?_) ?_
 ·refine⟨rfl,_,_,_,.inl hbm,fun j hj=>?_⟩
  simp
 ·subst hG'
  exact⟨a',n',c',hv,A'++(Hx++(dT l.length hs++F)),cY fun z=>by simp only[c6];omega,z0 hA' hk hx (.refl _)⟩
 ·refine hF2.trans ?_
  exact cY fun z=>by have:=po hp z;simp only[c6] at this ⊢;omega
def fA.bare(d:fA):fA:=⟨d.kind,d.order,d.name,d.side.bare,d.qty.bare,d.price.bare,d.value.bare,0⟩
def ej.bare(r:ej):ej:=⟨r.when.bare,r.dos.map fA.bare,0⟩
def dt.bare(x:dt):dt:=⟨x.name,x.rules.map ej.bare,0⟩
def eg.bare(r:eg):eg:=⟨r.name,r.dJ,r.init.bare,0⟩
def dm.bare(r:dm):dm:=⟨r.name,0⟩
def fm.bare(s:fm):fm:=⟨s.name,s.regs.map eg.bare,s.slots.map dm.bare,s.states.map dt.bare⟩
def c7.Fs(m:c7){α:Type}(rel:α→α→Prop)(g g':PS→α×PS):Prop:=∀s s',m.Rs s s'→m.Gd (g s).2→m.Rs (g s).2 (g' s').2∧rel (g s).1 (g' s').1
def c7.nr(x x':ByteArray):Prop:=x'=x
def c7.dr(x x':fA):Prop:=x'.bare=x.bare
def c7.dl(l l':List fA):Prop:=l'.map fA.bare=l.map fA.bare
def c7.ur(x x':ej):Prop:=x'.bare=x.bare
def c7.gr(x x':eg):Prop:=x'.bare=x.bare
def c7.sr(x x':dm):Prop:=x'.bare=x.bare
def c7.tr(x x':dt):Prop:=x'.bare=x.bare
def c7.gg(x x':fm):Prop:=x'.bare=x.bare
section
variable {m:c7} (hm:m.Ok) (hd:m.δ=0) (hv:m.ov=false)
include hm hd hv
theorem c7.dW:m.Fs c7.xr m.c.dW m.c'.dW:=fun s s' h hg=>by
 have h1:=(c7.lvl hm 24 24 0 (by decide) (by rw[hd];decide)).1 s s' h hg
 rw[hd] at h1
 rcases h1 with h1 | ⟨h1,_⟩
 ·exact h1
 ·rw[hd] at h1;exact absurd h1 (by decide)
theorem c7.kind{s s':PS}(h:m.Rs s s')(hg:m.Gd s):(m.c'.now s').kind=(m.c.now s).kind:=by
 rcases c7.now hm h hg with ⟨h1,_⟩ | ⟨h1,_⟩
 ·exact h1
 ·rw[hv] at h1;cases h1
theorem c7.gd{s:PS}(h:s.next≤m.K):m.Gd s:=⟨h,fun ho=>by rw[hv] at ho;cases ho⟩
theorem c7.jL{nm:ByteArray}{t p q p' q':Int}{b:Bool}{n n':Px}(hn:c7.xr n n'):m.Fs c7.gr (m.c.jL nm t p q b n) (m.c'.jL nm t p' q' b n'):=fun s s' h hg=>by
 refine⟨c7.take hm h _ hg, ?_⟩
 show eg.bare ⟨nm,t,if b then .mk 5 1 0 0 0 ⟨#[]⟩ [n'] q' else n',p'⟩=eg.bare ⟨nm,t,if b then .mk 5 1 0 0 0 ⟨#[]⟩ [n] q else n,p⟩
 have:c7.xr (if b then .mk 5 1 0 0 0 ⟨#[]⟩ [n] q else n) (if b then .mk 5 1 0 0 0 ⟨#[]⟩ [n'] q' else n'):=by
  split
  ·exact .mk (.one hn)
  ·exact hn
 unfold eg.bare
 rw[show _=_ from this]
theorem c7.hY{nm:ByteArray}{t p q p' q':Int}{b:Bool}:m.Fs c7.gr (m.c.hY nm t p q b) (m.c'.hY nm t p' q' b):=fun s s' h hg=>by
 have h0:=c7.back hm (Up.hY s) (fun f h=>Kp.hY _ _ _ _ _ _ h) hg
 obtain⟨l1,l2,l3⟩:=c7.literal hm h h0
 unfold PC.hY at hg ⊢
 rw[c7.kind hm hd hv h h0,l3]
 split
 ·exact⟨c7.cX hm h h0.1,rfl⟩
 ·rename_i hc
  rw[if_neg hc] at hg
  refine c7.jL hm hd hv l2 _ _ ?_ hg
  split
  ·exact l1
  ·rename_i hc2
   rw[if_neg hc2] at hg
   have g1:=c7.back hm (Up.jL _) (fun f h=>Kp.jL _ _ _ _ _ _ _ h) hg
   have:=g1.1;rw[ga] at this
   exact c7.cX hm l1 this
theorem c7.jh{nm:ByteArray}{t p p':Int}:m.Fs c7.gr (m.c.jh nm t p) (m.c'.jh nm t p'):=fun s s' h hg=>by
 have h0:=c7.back hm (Up.jh s) (fun f h=>Kp.jh _ _ _ _ h) hg
 unfold PC.jh at hg ⊢
 rw[c7.eo hm h h0 (.inr hv)]
 refine c7.hY hm hd hv _ _ ?_ hg
 split
 ·exact h.inc
 ·exact h
theorem c7.ig{nm:ByteArray}{p p':Int}:m.Fs c7.gr (m.c.ig nm p) (m.c'.ig nm p'):=fun s s' h hg=>by
 have h0:=c7.back hm (Up.ig s) (fun f h=>Kp.ig _ _ _ h) hg
 unfold PC.ig at hg ⊢
 rw[c7.any hm h h0 (by kernel_rfl)]
 split
 ·exact⟨c7.cX hm h h0.1,rfl⟩
 ·rename_i hc
  rw[if_neg hc] at hg
  have g1:=c7.back hm (Up.jh _) (fun f h=>Kp.jh _ _ _ _ h) hg
  exact c7.jh hm hd hv _ _ (c7.take hm h.inc _ g1) hg
theorem c7.kR:m.Fs c7.gr m.c.kR m.c'.kR:=fun s s' h hg=>by
 unfold PC.kR at hg ⊢
 have g2:=c7.back hm (Up.ig _) (fun f h=>Kp.ig _ _ _ h) hg
 have g1:=c7.back hm Up.name (fun f h=>h.name) g2
 obtain⟨n1,n2⟩:=c7.name hm (c7.take hm h _ g1) g2
 rw[n2]
 exact c7.ig hm hd hv _ _ n1 hg
theorem c7.eh:m.Fs c7.nr m.c.eh m.c'.eh:=fun s s' h hg=>by
 have h0:=c7.back hm (Up.eh s) (fun f h=>Kp.eh _ h) hg
 unfold PC.eh at hg ⊢
 rw[c7.eo hm h h0 (.inr hv)]
 split
 ·rename_i hc;rw[if_pos hc] at hg;exact c7.name hm h.inc hg
 ·exact⟨h,rfl⟩
theorem c7.jI{x y z x' y' z':Px}{p p' o:Int}(hx:c7.xr x x')(hy:c7.xr y y')(hz:c7.xr z z'):m.Fs c7.dr (m.c.jI x y p z o) (m.c'.jI x' y' p' z' o):=fun s s' h hg=>by
 obtain⟨h1,h2⟩:=c7.eh hm hd hv s s' h hg
 refine⟨h1, ?_⟩
 show fA.bare ⟨1,o,(m.c'.eh s').1,x',y',z',eP,p'⟩=fA.bare ⟨1,o,(m.c.eh s).1,x,y,z,eP,p⟩
 unfold fA.bare
 rw[show _=_ from h2,show _=_ from hx,show _=_ from hy,show _=_ from hz]
theorem c7.ij{x y z x' y' z':Px}{p p':Int}(hx:c7.xr x x')(hy:c7.xr y y')(hz:c7.xr z z'):m.Fs c7.dr (m.c.ij x y p z) (m.c'.ij x' y' p' z'):=fun s s' h hg=>by
 have h0:=c7.back hm (Up.ij s) (fun f h=>Kp.ij _ _ _ _ _ h) hg
 unfold PC.ij at hg ⊢
 rw[c7.any hm h h0 (by kernel_rfl)]
 split
 ·refine⟨c7.cX hm h h0.1, ?_⟩
  show fA.bare ⟨1,2,⟨#[]⟩,x',y',z',eP,p'⟩=fA.bare ⟨1,2,⟨#[]⟩,x,y,z,eP,p⟩
  unfold fA.bare
  rw[show _=_ from hx,show _=_ from hy,show _=_ from hz]
 ·rename_i hc;rw[if_neg hc] at hg;exact c7.jI hm hd hv hx hy hz _ _ h.inc hg
theorem c7.hZ{x y x' y':Px}{p p':Int}(hx:c7.xr x x')(hy:c7.xr y y'):m.Fs c7.dr (m.c.hZ x y p) (m.c'.hZ x' y' p'):=fun s s' h hg=>by
 have h0:=c7.back hm (Up.hZ s) (fun f h=>Kp.hZ _ _ _ _ h) hg
 unfold PC.hZ at hg ⊢
 rw[c7.any hm h h0 (by kernel_rfl)]
 split
 ·refine⟨c7.cX hm h h0.1, ?_⟩
  show fA.bare ⟨1,0,⟨#[]⟩,x',y',eP,eP,p'⟩=fA.bare ⟨1,0,⟨#[]⟩,x,y,eP,eP,p⟩
  unfold fA.bare
  rw[show _=_ from hx,show _=_ from hy]
 ·rename_i hc
  rw[if_neg hc] at hg
  split
  ·rename_i hc2
   rw[if_pos hc2] at hg
   have g1:=c7.back hm (Up.ij _) (fun f h=>Kp.ij _ _ _ _ _ h) hg
   obtain⟨h1,h2⟩:=c7.dW hm hd hv _ _ h.inc g1
   exact c7.ij hm hd hv hx hy h2 _ _ h1 hg
  ·rename_i hc2
   rw[if_neg hc2] at hg
   exact c7.jI hm hd hv hx hy rfl _ _ h.inc hg
theorem c7.fZ:m.Fs c7.dr m.c.fZ m.c'.fZ:=fun s s' h hg=>by
 unfold PC.fZ PC.sF at hg ⊢
 have g4:=c7.back hm (Up.hZ _) (fun f h=>Kp.hZ _ _ _ _ h) hg
 have g3:=c7.back hm (Up.dW _) (fun f h=>Kp.dW _ h) g4
 have g2:=c7.back hm (Up.take _) (fun f h=>h.take _) g3
 have g1:=c7.back hm (Up.dW _) (fun f h=>Kp.dW _ h) g2
 obtain⟨k1,e1⟩:=c7.dW hm hd hv _ _ (c7.take hm h _ g1) g2
 obtain⟨k2,e2⟩:=c7.dW hm hd hv _ _ (c7.take hm k1 _ g3) g4
 exact c7.hZ hm hd hv e1 e2 _ _ k2 hg
theorem c7.nj{k:Int}{nm:ByteArray}{p p':Int}:m.Fs c7.dr (m.c.nj k nm p) (m.c'.nj k nm p'):=fun s s' h hg=>by
 unfold PC.nj at hg ⊢
 split
 ·rename_i hc
  rw[if_pos hc] at hg
  unfold PC.Aw at hg ⊢
  have g4:m.Gd (m.c.dW (m.c.take (⟨#[97,116]⟩:ByteArray) (m.c.dW (m.c.take (⟨#[116,111]⟩:ByteArray) s).2).2).2).2:=hg
  have g3:=c7.back hm (Up.dW _) (fun f h=>Kp.dW _ h) g4
  have g2:=c7.back hm (Up.take _) (fun f h=>h.take _) g3
  have g1:=c7.back hm (Up.dW _) (fun f h=>Kp.dW _ h) g2
  obtain⟨k1,e1⟩:=c7.dW hm hd hv _ _ (c7.take hm h _ g1) g2
  obtain⟨k2,e2⟩:=c7.dW hm hd hv _ _ (c7.take hm k1 _ g3) g4
  refine⟨k2, ?_⟩
  unfold c7.dr fA.bare
  show fA.mk _ _ _ _ _ _ _ _=fA.mk _ _ _ _ _ _ _ _
  rw[show _=_ from e1,show _=_ from e2]
 ·rename_i hc
  rw[if_neg hc] at hg
  split
  ·rename_i hc2
   rw[if_pos hc2] at hg
   unfold PC.DD at hg ⊢
   have g4:m.Gd (m.c.dW (m.c.take (⟨#[61]⟩:ByteArray) s).2).2:=hg
   have g3:=c7.back hm (Up.dW _) (fun f h=>Kp.dW _ h) g4
   obtain⟨k1,e1⟩:=c7.dW hm hd hv _ _ (c7.take hm h _ g3) g4
   refine⟨k1, ?_⟩
   unfold c7.dr fA.bare
   show fA.mk _ _ _ _ _ _ _ _=fA.mk _ _ _ _ _ _ _ _
   rw[show _=_ from e1]
  ·exact⟨h,rfl⟩
theorem c7.do:m.Fs c7.dr m.c.do m.c'.do:=fun s s' h hg=>by
 have h0:=c7.back hm (Up.do s) (fun f h=>Kp.do _ h) hg
 unfold PC.do at hg ⊢
 rw[c7.any hm h h0 (by kernel_rfl)]
 split
 ·exact⟨c7.cX hm h h0.1,rfl⟩
 ·rename_i hc
  rw[if_neg hc] at hg
  split
  ·rename_i hc2;rw[if_pos hc2] at hg;exact c7.fZ hm hd hv _ _ h hg
  ·rename_i hc2
   rw[if_neg hc2] at hg
   split
   ·rename_i hc3;rw[if_pos hc3] at hg;exact c7.nj hm hd hv _ _ h.inc hg
   ·rename_i hc3
    rw[if_neg hc3] at hg
    have g1:=c7.back hm (Up.nj _) (fun f h=>Kp.nj _ _ _ _ h) hg
    obtain⟨n1,n2⟩:=c7.name hm h.inc g1
    rw[n2]
    exact c7.nj hm hd hv _ _ n1 hg
theorem c7.many{s s':PS}(h:m.Rs s s')(hs:s.next≤m.K)(n k:Nat):m.Rs (m.c.many n k s) (m.c'.many n k s'):=by
 unfold PC.many
 split
 ·exact c7.cX hm h hs
 ·exact h
theorem c7.eX:∀(k:Nat) (l l':List fA),c7.dl l l'→m.Fs c7.dl (m.c.eX k l) (m.c'.eX k l')
 | 0,l,l',hl=>fun s s' h hg=>⟨h,hl⟩
 | k+1,l,l',hl=>fun s s' h hg=>by
   have hln:l'.length=l.length:=by have:=congrArg List.length (show _=_ from hl);rwa [List.length_map,List.length_map] at this
   rw[PC.eX] at hg ⊢
   rw[PC.eX,hln]
   have g1:m.Gd (m.c.do s).2:=by
    refine c7.gd hm hd hv ?_
    have h1:=hg.1
    split at h1
    ·split at h1
     ·have h1:(m.c.many (l.length+1) 8 (m.c.do s).2).next≤m.K:=h1
      rw[j5] at h1;exact h1
     ·have:=(Up.eX (c:=m.c) k (l++[(m.c.do s).1]) (m.c.many (l.length+1) 8 (m.c.do s).2).inc).1
      rw[fB,j5] at this;omega
    ·exact h1
   obtain⟨k1,e1⟩:=c7.do hm hd hv _ _ h g1
   have hl2:c7.dl (l++[(m.c.do s).1]) (l'++[(m.c'.do s').1]):=by
    unfold c7.dl;rw[List.map_append,List.map_append,List.map_singleton,List.map_singleton,show _=_ from hl,show _=_ from e1]
   rw[c7.eo hm k1 g1 (.inr hv)]
   have hmr:=c7.many hm hd hv k1 g1.1 (l.length+1) 8
   rw[hmr.over]
   split
   ·rename_i hc
    rw[if_pos hc] at hg
    split
    ·exact⟨hmr,hl2⟩
    ·rename_i hc2
     rw[if_neg hc2] at hg
     exact c7.eX k _ _ hl2 _ _ hmr.inc hg
   ·exact⟨k1,hl2⟩
theorem c7.fG:m.Fs c7.ur m.c.fG m.c'.fG:=fun s s' h hg=>by
 unfold PC.fG PC.kS at hg ⊢
 have g5:m.Gd (m.c.take (⟨#[59]⟩:ByteArray) (m.c.eX 8 [] (m.c.take (⟨#[100,111]⟩:ByteArray) (m.c.dW (m.c.take (⟨#[119,104,101,110]⟩:ByteArray) s).2).2).2).2).2:=hg
 have g4:=c7.back hm (Up.take _) (fun f h=>h.take _) g5
 have g3:=c7.back hm (Up.eX 8 [] _) (fun f h=>Kp.eX _ _ _ h) g4
 have g2:=c7.back hm (Up.take _) (fun f h=>h.take _) g3
 have g1:=c7.back hm (Up.dW _) (fun f h=>Kp.dW _ h) g2
 obtain⟨k1,e1⟩:=c7.dW hm hd hv _ _ (c7.take hm h _ g1) g2
 obtain⟨k2,e2⟩:=c7.eX hm hd hv 8 [] [] rfl _ _ (c7.take hm k1 _ g3) g4
 refine⟨c7.take hm k2 _ g5, ?_⟩
 unfold c7.ur ej.bare
 show ej.mk _ _ _=ej.mk _ _ _
 rw[show _=_ from e1,show _=_ from e2]
theorem c7.dH{α:Type}{bare:α→α}{w:ByteArray}{most:Nat}{one one':PS→α×PS}(h0:dR m.c one)(hf:m.Fs (fun x x'=>bare x'=bare x) one one') :
  ∀(k:Nat) (l l':List α),l'.map bare=l.map bare→m.Fs (fun x x'=>x'.map bare=x.map bare) (m.c.dH w most one k l) (m.c'.dH w most one' k l')
 | 0,l,l',hl=>fun s s' h hg=>by
   have hln:l'.length=l.length:=by have:=congrArg List.length hl;rwa [List.length_map,List.length_map] at this
   have h1:m.Gd s:=by
    refine c7.gd hm hd hv ?_
    have h1:=hg.1
    rw[PC.dH] at h1
    have h1:(if m.c.eo w s then m.c.many l.length most s else s).next≤m.K:=h1
    split at h1
    ·rw[j5] at h1;exact h1
    ·exact h1
   rw[PC.dH,PC.dH,c7.eo hm h h1 (.inr hv),hln]
   refine⟨?_,hl⟩
   show m.Rs (if _ then _ else _) (if _ then _ else _)
   split
   ·exact c7.many hm hd hv h h1.1 _ _
   ·exact h
 | k+1,l,l',hl=>fun s s' h hg=>by
   have hln:l'.length=l.length:=by have:=congrArg List.length hl;rwa [List.length_map,List.length_map] at this
   have h1:m.Gd s:=c7.gd hm hd hv (Nat.le_trans (Up.dH (w:=w) (most:=most) h0 (k+1) l s).1 hg.1)
   rw[PC.dH] at hg ⊢
   rw[PC.dH,c7.eo hm h h1 (.inr hv),hln]
   have hmr:=c7.many hm hd hv h h1.1 l.length most
   rw[hmr.over]
   split
   ·rename_i hc
    rw[if_pos hc] at hg
    split
    ·exact⟨hmr,hl⟩
    ·rename_i hc2
     rw[if_neg hc2] at hg
     have g1:m.Gd (one (m.c.many l.length most s)).2:=c7.gd hm hd hv (Nat.le_trans (Up.dH (w:=w) (most:=most) h0 k _ _).1 hg.1)
     obtain⟨k1,e1⟩:=hf _ _ hmr g1
     exact c7.dH h0 hf k _ _ (by rw[List.map_append,List.map_append,List.map_singleton,List.map_singleton,hl,e1]) _ _ k1 hg
   ·exact⟨h,hl⟩
theorem c7.list{α:Type}{bare:α→α}{w:ByteArray}{most:Nat}{one one':PS→α×PS}(h0:dR m.c one)(hf:m.Fs (fun x x'=>bare x'=bare x) one one'):m.Fs (fun x x'=>x'.map bare=x.map bare) (m.c.list w most one) (m.c'.list w most one') :=
 c7.dH hm hd hv h0 hf most [] [] rfl
theorem c7.state:m.Fs c7.tr m.c.state m.c'.state:=fun s s' h hg=>by
 unfold PC.state PC.ko at hg ⊢
 have g5:m.Gd (m.c.take (⟨#[125]⟩:ByteArray) (m.c.list (⟨#[119,104,101,110]⟩:ByteArray) 12 m.c.fG (m.c.take (⟨#[123]⟩:ByteArray) (m.c.name (m.c.take (⟨#[115,116,97,116,101]⟩:ByteArray) s).2).2).2).2).2:=hg
 have g4:=c7.back hm (Up.take _) (fun f h=>h.take _) g5
 have g3:=c7.back hm (Up.list Up.fG _) (fun f h=>Kp.list _ _ _ _ h) g4
 have g2:=c7.back hm (Up.take _) (fun f h=>h.take _) g3
 have g1:=c7.back hm Up.name (fun f h=>h.name) g2
 obtain⟨n1,n2⟩:=c7.name hm (c7.take hm h _ g1) g2
 obtain⟨k2,e2⟩:=c7.list hm hd hv (w:=(⟨#[119,104,101,110]⟩:ByteArray)) (most:=12) (bare:=ej.bare) Up.fG (c7.fG hm hd hv) _ _ (c7.take hm n1 _ g3) g4
 refine⟨c7.take hm k2 _ g5, ?_⟩
 unfold c7.tr dt.bare
 show dt.mk _ _ _=dt.mk _ _ _
 rw[n2,e2]
theorem c7.slot:m.Fs c7.sr m.c.slot m.c'.slot:=fun s s' h hg=>by
 unfold PC.slot at hg ⊢
 have g3:m.Gd (m.c.take (⟨#[59]⟩:ByteArray) (m.c.name (m.c.take (⟨#[115,108,111,116]⟩:ByteArray) s).2).2).2:=hg
 have g2:=c7.back hm (Up.take _) (fun f h=>h.take _) g3
 have g1:=c7.back hm Up.name (fun f h=>h.name) g2
 obtain⟨n1,n2⟩:=c7.name hm (c7.take hm h _ g1) g2
 refine⟨c7.take hm n1 _ g3, ?_⟩
 unfold c7.sr dm.bare
 show dm.mk _ _=dm.mk _ _
 rw[n2]
theorem c7.end{s s':PS}(h:m.Rs s s')(hg:s.next≤m.K):m.Rs (m.c.end s) (m.c'.end s'):=by
 have hl:=hm.len _ hg
 unfold PC.end
 rw[h.over]
 split
 ·exact h
 ·have he:(m.c'.l.length≤s'.next∨(m.c'.tok s'.next).kind≠0)↔(m.c.l.length≤s.next∨(m.c.tok s.next).kind≠0):=by
   rw[h.1]
   by_cases hc:s.next<m.c.l.length
   ·have hk:(m.c'.tok (s.next+m.o)).kind=(m.c.tok s.next).kind:=by
     rcases (hm.tok _ hg hc).1 with ⟨h1,_⟩ | ⟨h1,_⟩
     ·exact h1
     ·rw[hv] at h1;cases h1
    rw[hk]
    constructor
    ·rintro (h1 | h1)
     ·omega
     ·exact .inr h1
    ·rintro (h1 | h1)
     ·omega
     ·exact .inr h1
   ·exact⟨fun _=>.inl (by omega),fun _=>.inl (by omega)⟩
  by_cases hc:m.c.l.length≤s.next∨(m.c.tok s.next).kind≠0
  ·rw[if_pos hc,if_pos (he.2 hc)];exact c7.cX hm h hg
  ·rw[if_neg hc,if_neg fun h=>hc (he.1 h)];exact h
theorem c7.whole:m.Fs c7.gg m.c.whole m.c'.whole:=fun s s' h hg=>by
 unfold PC.whole PC.lh PC.lg PC.lf at hg ⊢
 have g8:=c7.back hm (Up.ia _) (fun f h=>Kp.ia _ _ _ _ _ h) hg
 have g7:=c7.back hm (Up.list Up.state _) (fun f h=>Kp.list _ _ _ _ h) g8
 have g6:=c7.back hm (Up.list Up.slot _) (fun f h=>Kp.list _ _ _ _ h) g7
 have g5:=c7.back hm (Up.list Up.kR _) (fun f h=>Kp.list _ _ _ _ h) g6
 have g4:=c7.back hm (Up.take _) (fun f h=>h.take _) g5
 have g3:=c7.back hm Up.name (fun f h=>h.name) g4
 obtain⟨n1,n2⟩:=c7.name hm (c7.take hm h _ g3) g4
 obtain⟨k1,e1⟩:=c7.list hm hd hv (w:=(⟨#[114,101,103]⟩:ByteArray)) (most:=12) (bare:=eg.bare) Up.kR (c7.kR hm hd hv) _ _ (c7.take hm n1 _ g5) g6
 obtain⟨k2,e2⟩:=c7.list hm hd hv (w:=(⟨#[115,108,111,116]⟩:ByteArray)) (most:=4) (bare:=dm.bare) Up.slot (c7.slot hm hd hv) _ _ k1 g7
 obtain⟨k3,e3⟩:=c7.list hm hd hv (w:=(⟨#[115,116,97,116,101]⟩:ByteArray)) (most:=12) (bare:=dt.bare) Up.state (c7.state hm hd hv) _ _ k2 g8
 generalize (m.c.list (⟨#[115,116,97,116,101]⟩:ByteArray) 12 m.c.state _)=T at *
 generalize (m.c'.list (⟨#[115,116,97,116,101]⟩:ByteArray) 12 m.c'.state _)=T' at *
 have hln:T'.1.length=T.1.length:=by have:=congrArg List.length e3;rwa [List.length_map,List.length_map] at this
 unfold PC.ia at hg ⊢
 rw[hln]
 have hg:m.Gd (m.c.end (m.c.take (⟨#[125]⟩:ByteArray) (if T.1.length=0 then m.c.cX 130 T.2 else T.2)).2):=hg
 have g9:m.Gd (m.c.take (⟨#[125]⟩:ByteArray) (if T.1.length=0 then m.c.cX 130 T.2 else T.2)).2:=c7.back hm Up.end (fun f h=>h.end) hg
 have k4:m.Rs (if T.1.length=0 then m.c.cX 130 T.2 else T.2) (if T.1.length=0 then m.c'.cX 130 T'.2 else T'.2):=by
  split
  ·exact c7.cX hm k3 g8.1
  ·exact k3
 refine⟨c7.end hm hd hv (c7.take hm k4 _ g9) g9.1, ?_⟩
 unfold c7.gg fm.bare
 show fm.mk _ _ _ _=fm.mk _ _ _ _
 rw[n2,e1,e2,e3]
end
end Go.Lx
namespace Go.Lx
open Go.Vc
def Can(c:PC)(s:PS):Prop:=s.next<c.l.length∧s.over=false∧(c.tok s.next).kind≠0
inductive dz (c:PC):PS→PS→Prop
 | refl {s:PS}:dz c s s
 | step {s:PS}:Can c s→dz c s s.inc
 | cX {s:PS} (e:Int):dz c s (c.cX e s)
 | trans {a b d:PS}:dz c a b→dz c b d→dz c a d
theorem dz.inc{c:PC}{s:PS}(h:Can c s):dz c s s.inc:=.step h
theorem nS{c:PC}{s:PS}(h:(c.now s).kind≠0):Can c s:=by
 have h1:=oS h
 have h2:=zY h
 refine⟨h1,h2, ?_⟩
 unfold PC.now at h
 rwa [h2,decide_eq_false (by omega),if_neg (by decide)] at h
theorem jU{c:PC}{s:PS}{w:ByteArray}(h:c.eo w s=true):Can c s:=by
 refine nS fun hk=>?_
 unfold PC.eo at h
 rw[hk] at h
 simp at h
theorem iW{c:PC}{s:PS}{ws:List ByteArray}(h:0≤c.any ws s):Can c s:=by
 have:∀(ws:List ByteArray) (i:Int),0≤i→0≤c.gA s ws i→Can c s∨c.gA s ws i = -1:=by
  intro ws
  induction ws with
  | nil=>intro i _ h;rw[PC.gA] at h;exact absurd h (by decide)
  | cons w r ih =>
    intro i hi h
    rw[PC.gA] at h ⊢
    split at h
    ·rename_i hw;exact .inl (jU hw)
    ·rename_i hw;rw[if_neg hw];exact ih _ (by omega) h
 rcases this ws 0 (Int.le_refl 0) h with h1 | h1
 ·exact h1
 ·unfold PC.any at h;rw[h1] at h;exact absurd h (by decide)
theorem dz.cT{c:PC}{s:PS}(d:Int):dz c s (c.cT d s):=by
 unfold PC.cT;split
 ·exact .cX _
 ·exact .refl
theorem dz.many{c:PC}{s:PS}(n m:Nat):dz c s (c.many n m s):=by
 unfold PC.many;split
 ·exact .cX _
 ·exact .refl
theorem dz.end{c:PC}{s:PS}:dz c s (c.end s):=by
 unfold PC.end;split
 ·exact .refl
 ·split
  ·exact .cX _
  ·exact .refl
def Mv(c:PC){α:Type}(f:PS→α×PS):Prop:=∀s,dz c s (f s).2
section
variable {c:PC} {s:PS}
theorem dz.take(w:ByteArray):dz c s (c.take w s).2:=by
 unfold PC.take;split
 ·rename_i h;exact .inc (jU h)
 ·exact .cX _
theorem dz.name:dz c s (c.name s).2:=by
 unfold PC.name;split
 ·rename_i h;exact .inc (nS (by rw[h];decide))
 ·exact .cX _
theorem dz.literal:dz c s (c.literal s).2:=by
 unfold PC.literal
 split
 ·rename_i h;exact .inc (nS (by rw[h];decide))
 ·split
  ·rename_i h;exact .inc (nS (by rw[h.1];decide))
  ·split
   ·rename_i h;exact .inc (nS (by rw[h.1];decide))
   ·exact .refl
end
section
variable {c:PC} {nx:Lv} (hx:Mv c nx.ex) (hu:Mv c nx.un)
include hx
theorem dz.kids:∀(n:Nat) (f:Bool) (s:PS),dz c s (c.dB nx n f s).2
 | 0,f,s=>.refl
 | n+1,f,s=>by
   rw[PC.dB]
   refine dz.trans ?_ (dz.kids n false _)
   refine dz.trans ?_ (hx _)
   split
   ·exact .refl
   ·exact .take _
theorem dz.call{d kind oper dJ pos:Int}{many:Nat}{s:PS}(hl:Can c s):dz c s (c.call nx d kind oper dJ pos many s).2:=by
 unfold PC.call
 split
 ·exact .cT _
 ·rename_i h
  obtain⟨_,he⟩:=ft hl.1 (by simpa using h)
  rw[he]
  exact ((dz.inc hl).trans (.take _)).trans ((dz.kids hx _ _ _).trans (.take _))
theorem dz.rest(d:Int):Mv c (c.rest nx d):=fun s=>by
 unfold PC.rest
 split
 ·rename_i h
  have hl:=jU h
  split
  ·exact (dz.inc hl).trans (.cX _)
  ·rename_i h2
   exact (dz.inc hl).trans (.inc (iW (Int.not_lt.1 h2)))
 ·split
  ·rename_i h
   have hl:=jU h
   split
   ·exact .cT _
   ·rename_i h2
    obtain⟨_,he⟩:=ft hl.1 (by simpa using h2)
    rw[he]
    exact (dz.inc hl).trans ((hx _).trans (.take _))
  ·exact .cX _
theorem dz.one(d:Int):Mv c (c.one nx d):=fun s=>by
 unfold PC.one
 split
 ·exact .literal
 ·split
  ·rename_i h;exact .inc (nS (by rw[h];decide))
  ·split
   ·rename_i h;exact .inc (iW h)
   ·split
    ·rename_i h;exact .call hx (iW h)
    ·split
     ·rename_i h;exact .call hx (iW h)
     ·exact dz.rest hx d s
include hu
theorem dz.unary(d:Int):Mv c (c.unary nx d):=fun s=>by
 unfold PC.unary
 split
 ·exact dz.one hx d s
 ·rename_i h
  have hl:=iW (c:=c) (s:=s) (ws:=kQ) (by omega)
  split
  ·exact .cT _
  ·rename_i h2
   obtain⟨_,he⟩:=ft hl.1 (by simpa using h2)
   rw[he]
   exact (dz.inc hl).trans (hu _)
end
theorem dz.dM{c:PC}{ws:List ByteArray}{o:Int}{sub:PS→Px×PS}(h:Mv c sub):∀(m:Nat) (n:Px) (s:PS),dz c s (c.dM ws o sub m n s).2
 | 0,n,s=>.refl
 | m+1,n,s=>by
   rw[PC.dM]
   split
   ·exact .refl
   ·rename_i h2
    exact ((dz.inc (iW (Int.not_lt.1 h2))).trans (h _)).trans (dz.dM h m _ _)
theorem dz.loop{c:PC}{ws:List ByteArray}{o:Int}{sub:PS→Px×PS}(h:Mv c sub):Mv c (c.loop ws o sub):=fun s=>(h s).trans (.dM h _ _ _)
section
variable {c:PC} {nx:Lv} (hx:Mv c nx.ex) (hu:Mv c nx.un) (d:Int)
include hx hu
theorem dz.product:Mv c (c.product nx d):=dz.loop (dz.unary hx hu d)
theorem dz.sum:Mv c (c.sum nx d):=dz.loop (dz.product hx hu d)
theorem dz.compare:Mv c (c.compare nx d):=fun s=>by
 unfold PC.compare
 have h1:=dz.sum hx hu d s
 show dz c s (if c.any iU (c.sum nx d s).2<0 then c.sum nx d s else _).2
 split
 ·exact h1
 ·rename_i h2
  exact (h1.trans (.inc (iW (Int.not_lt.1 h2)))).trans (dz.sum hx hu d _)
theorem dz.and:Mv c (c.and nx d):=dz.loop (dz.compare hx hu d)
theorem dz.or:Mv c (c.or nx d):=dz.loop (dz.and hx hu d)
theorem dz.expr:Mv c (c.expr nx d):=fun s=>by
 unfold PC.expr
 have h1:=dz.or hx hu d s
 show dz c s (if c.eo _ (c.or nx d s).2 then _ else _:Px×PS).2
 split
 ·rename_i h2
  have hl:=jU h2
  show dz c s (if (c.cT d (c.or nx d s).2).over then _ else _:Px×PS).2
  split
  ·exact h1.trans (.cT _)
  ·rename_i h3
   obtain⟨_,he⟩:=ft hl.1 (by simpa using h3)
   rw[he]
   exact h1.trans ((dz.inc hl).trans ((hx _).trans ((dz.take _).trans (hx _))))
 ·exact h1
end
theorem dz.lvl{c:PC}:∀(k:Nat) (d:Int),Mv c (c.lvl k d).ex∧Mv c (c.lvl k d).un
 | 0,d=>⟨dz.expr (fun s=>.refl) (fun s=>.refl) d,dz.unary (fun s=>.refl) (fun s=>.refl) d⟩
 | k+1,d=>⟨dz.expr (dz.lvl k (d+1)).1 (dz.lvl k (d+1)).2 d,dz.unary (dz.lvl k (d+1)).1 (dz.lvl k (d+1)).2 d⟩
theorem dz.dW{c:PC}:Mv c c.dW:=(dz.lvl 24 0).1
section
variable {c:PC}
theorem dz.jL{nm:ByteArray}{t pos pos2:Int}{minus:Bool}{n:Px}:Mv c (c.jL nm t pos pos2 minus n):=fun s=>dz.take _
theorem dz.hY{nm:ByteArray}{t pos pos2:Int}{minus:Bool}:Mv c (c.hY nm t pos pos2 minus):=fun s=>by
 unfold PC.hY
 split
 ·exact .cX _
 ·refine dz.trans ?_ (dz.jL _)
  split
  ·exact .literal
  ·exact dz.literal.trans (.cX _)
theorem dz.jh{nm:ByteArray}{t pos:Int}:Mv c (c.jh nm t pos):=fun s=>by
 unfold PC.jh
 refine dz.trans ?_ (dz.hY _)
 split
 ·rename_i h;exact .inc (jU h)
 ·exact .refl
theorem dz.ig{nm:ByteArray}{pos:Int}:Mv c (c.ig nm pos):=fun s=>by
 unfold PC.ig
 split
 ·exact .cX _
 ·rename_i ha
  exact (dz.inc (iW (Int.not_lt.1 ha))).trans ((dz.take _).trans (dz.jh _))
theorem dz.kR:Mv c c.kR:=fun s=>(dz.take _).trans (dz.name.trans (dz.ig _))
theorem dz.eh:Mv c c.eh:=fun s=>by
 unfold PC.eh
 split
 ·rename_i h;exact (dz.inc (jU h)).trans .name
 ·exact .refl
theorem dz.jI{x y z:Px}{pos o:Int}:Mv c (c.jI x y pos z o):=fun s=>dz.eh s
theorem dz.ij{x y z:Px}{pos:Int}:Mv c (c.ij x y pos z):=fun s=>by
 unfold PC.ij
 split
 ·exact .cX _
 ·rename_i ha
  exact (dz.inc (iW (Int.not_lt.1 ha))).trans (dz.jI _)
theorem dz.hZ{x y:Px}{pos:Int}:Mv c (c.hZ x y pos):=fun s=>by
 unfold PC.hZ
 split
 ·exact .cX _
 ·rename_i ha
  have h1:=dz.inc (c:=c) (iW (Int.not_lt.1 ha))
  split
  ·exact h1.trans ((dz.dW _).trans (dz.ij _))
  ·exact h1.trans (dz.jI _)
theorem dz.fZ:Mv c c.fZ:=fun s=>(dz.take _).trans ((dz.dW _).trans ((dz.take _).trans ((dz.dW _).trans (dz.hZ _))))
theorem dz.nj{k:Int}{nm:ByteArray}{pos:Int}:Mv c (c.nj k nm pos):=fun s=>by
 unfold PC.nj
 split
 ·exact (dz.take _).trans ((dz.dW _).trans ((dz.take _).trans (dz.dW _)))
 ·split
  ·exact (dz.take _).trans (dz.dW _)
  ·exact .refl
theorem dz.do:Mv c c.do:=fun s=>by
 unfold PC.do
 split
 ·exact .cX _
 ·rename_i ha
  have h1:=dz.inc (c:=c) (iW (Int.not_lt.1 ha))
  split
  ·exact dz.fZ s
  ·split
   ·exact h1.trans (dz.nj _)
   ·exact h1.trans (dz.name.trans (dz.nj _))
end
section
variable {c:PC}
theorem dz.eX:∀(m:Nat) (l:List fA),Mv c (c.eX m l)
 | 0,l=>fun s=>.refl
 | m+1,l=>fun s=>by
   rw[PC.eX]
   have h1:=dz.do (c:=c) s
   split
   ·rename_i hw
    have hlt:=jU hw
    split
    ·exact h1.trans (.many _ _)
    ·rename_i hm
     obtain⟨_,he⟩:=pH hlt.1 (by simpa using hm)
     rw[he]
     exact h1.trans ((dz.inc hlt).trans (dz.eX m _ _))
   ·exact h1
theorem dz.fG:Mv c c.fG:=fun s=>(dz.take _).trans ((dz.dW _).trans ((dz.take _).trans ((dz.eX 8 [] _).trans (dz.take _))))
theorem dz.dH{α:Type}{w:ByteArray}{most:Nat}{one:PS→α×PS}(h:Mv c one):∀(m:Nat) (l:List α),Mv c (c.dH w most one m l)
 | 0,l=>fun s=>by
   rw[PC.dH]
   show dz c s (if c.eo w s then c.many l.length most s else s)
   split
   ·exact .many _ _
   ·exact .refl
 | m+1,l=>fun s=>by
   rw[PC.dH]
   split
   ·rename_i hw
    have hlt:=jU hw
    split
    ·exact .many _ _
    ·rename_i hm
     obtain⟨_,he⟩:=pH hlt.1 (by simpa using hm)
     rw[he]
     exact (h s).trans (dz.dH h m _ _)
   ·exact .refl
theorem dz.list{α:Type}{w:ByteArray}{most:Nat}{one:PS→α×PS}(h:Mv c one):Mv c (c.list w most one):=dz.dH h most []
theorem dz.state:Mv c c.state:=fun s=>(dz.take _).trans (dz.name.trans ((dz.take _).trans ((dz.list dz.fG _).trans (dz.take _))))
theorem dz.slot:Mv c c.slot:=fun s=>(dz.take _).trans (dz.name.trans (dz.take _))
theorem dz.ia{nm:ByteArray}{rs:List eg}{ss:List dm}{ts:List dt}:Mv c (c.ia nm rs ss ts):=fun s=>by
 have h1:dz c s (if ts.length=0 then c.cX 130 s else s):=by
  split
  ·exact .cX _
  ·exact .refl
 exact h1.trans ((dz.take _).trans .end)
theorem dz.lf{nm:ByteArray}{rs:List eg}{ss:List dm}:Mv c (c.lf nm rs ss):=fun s=>(dz.list (w:=(⟨#[115,116,97,116,101]⟩:ByteArray)) (most:=12) dz.state s).trans (dz.ia _)
theorem dz.lg{nm:ByteArray}{rs:List eg}:Mv c (c.lg nm rs):=fun s=>(dz.list (w:=(⟨#[115,108,111,116]⟩:ByteArray)) (most:=4) dz.slot s).trans (dz.lf _)
theorem dz.lh{nm:ByteArray}:Mv c (c.lh nm):=fun s=>(dz.list (w:=(⟨#[114,101,103]⟩:ByteArray)) (most:=12) dz.kR s).trans (dz.lg _)
theorem dz.whole:Mv c c.whole:=fun s=>(dz.take _).trans (dz.name.trans ((dz.take _).trans (dz.lh _)))
end
section
end
structure Told (c:PC) (s:PS):Prop where
 here:s.over=true→s.next<c.l.length→s.f.tok=false∧s.f.pos=(c.tok s.next).pos
 bad:s.over=true→c.l.length≤s.next→s.f.tok=true∧s.f.e=c.bad∧s.f.pos=c.pos
 last:s.next=0∨s.next≤c.l.length∧(c.tok (s.next-1)).kind≠0
theorem Told.via{c:PC}{s s':PS}(h:dz c s s'):Told c s→Told c s':=by
 induction h with
 | refl=>exact fun h=>h
 | @step s hc =>
   intro h
   have ho:s.inc.over=false:=hc.2.1
   exact⟨fun h=>by (rw[ho] at h;cases h),fun h=>by (rw[ho] at h;cases h),.inr ⟨hc.1,hc.2.2⟩⟩
 | @cX s e =>
   intro h
   have hn:=ga (c:=c) (s:=s) e
   by_cases ho:s.over=true
   ·have hw:c.cX e s=s:=by unfold PC.cX;rw[if_pos ho]
    rw[hw];exact h
   ·by_cases hl:c.l.length≤s.next
    ·have hw:c.cX e s=⟨s.next,⟨c.bad,c.pos,true⟩⟩:=by unfold PC.cX;rw[if_neg ho,if_pos hl]
     rw[hw]
     exact⟨fun _ h1=>by have h1:s.next<c.l.length:=h1;omega,fun _ _=>⟨rfl,rfl,rfl⟩,h.last⟩
    ·have hw:c.cX e s=⟨s.next,⟨e,(c.tok s.next).pos,false⟩⟩:=by unfold PC.cX;rw[if_neg ho,if_neg hl]
     rw[hw]
     exact⟨fun _ _=>⟨rfl,rfl⟩,fun _ h1=>by have h1:c.l.length≤s.next:=h1;omega,h.last⟩
 | trans _ _ h1 h2=>exact fun h=>h2 (h1 h)
end Go.Lx
namespace Go.Lx
open Go.Vc
def Al(c:PC)(s:PS):Prop:=s.over=false∧s.next<c.l.length
theorem Al.back{c:PC}{s s2:PS}(h:Al c s2)(hu:Up c s s2)(hk:∀f,c.dD f s→c.dD f s2):Al c s:=by
 refine⟨?_,Nat.lt_of_le_of_lt hu.1 h.2⟩
 cases hs:s.over with
 | false=>rfl
 | true =>
   have h1:=(hk _ (jw hs)).1
   unfold PC.fin at h1
   rw[if_neg (by rw[h.1];decide),if_neg (Nat.not_le_of_lt h.2)] at h1
   cases h1
theorem Al.cX{c:PC}{s:PS}{e:Int}(he:e≠0)(h:Al c (c.cX e s)):False:=by
 have h2:=h.2
 rw[ga] at h2
 rw[Al,iA he h2] at h
 exact absurd h.1 (by decide)
theorem pK(k o t n f q:Int)(l:List Px):(Px.mk k o t n f ⟨#[]⟩ l q).qE=((o==0||k==5||k==6||k==8)&&(t==0||k==1||k==9)&&(n==0||k==1)&&(f==0||k==3||k==4)&&true):=by
 show ((o==0||k==5||k==6||k==8)&&(t==0||k==1||k==9)&&(n==0||k==1)&&(f==0||k==3||k==4)&&((⟨#[]⟩:ByteArray).toList==[]||k==2))=_
 rw[eE];rfl
theorem uY{k o t n f q:Int}{l:List Px}(h:((Px.mk k o t n f ⟨#[]⟩ l q).wi&&((o==0||k==5||k==6||k==8)&&(t==0||k==1||k==9)&&(n==0||k==1)&&(f==0||k==3||k==4)&&true)&&decide (l.length=(Px.mk k o t n f ⟨#[]⟩ l q).arity))=true):(Px.mk k o t n f ⟨#[]⟩ l q).iK=true:=by
 unfold Px.iK;rw[pK];exact h
def tz(c:PC):Prop:=∀t∈c.l,(t.kind=2→dK t.text=true)∧(t.kind=3→1≤t.dJ∧t.dJ≤4∧0≤t.n)
theorem Bj{c:PC}(hF:tz c)(s:PS):((c.now s).kind=2→dK (c.now s).text=true)∧((c.now s).kind=3→1≤(c.now s).dJ∧(c.now s).dJ≤4∧0≤(c.now s).n):=by
 have hz:((iL 0).kind=2→dK (iL 0).text=true)∧((iL 0).kind=3→1≤(iL 0).dJ∧(iL 0).dJ≤4∧0≤(iL 0).n):=⟨fun h=>absurd h (by decide),fun h=>absurd h (by decide)⟩
 unfold PC.now
 split
 ·exact hz
 ·unfold PC.tok
  cases h:c.l[s.next]? with
  | none=>exact hz
  | some t=>exact hF t (List.mem_of_getElem? h)
def Fit(L d:Int)(x:Px):Prop:=x.formed=true∧x.depth+d+(if x.level<L then 1 else 0)≤24
theorem ns(x:Px):1≤x.level∧x.level≤8:=by
 unfold Px.level
 repeat' split
 all_goals decide
theorem Fit.Bk{L L' d:Int}{x:Px}(h:Fit L d x)(hl:L'≤L):Fit L' d x:=by
 refine⟨h.1, ?_⟩
 have:=h.2
 split at this
 ·split<;>omega
 ·rw[if_neg (by omega)];omega
theorem Fit.deep{d:Int}{x:Px}(h:Fit 1 (d+1) x)(L:Int):Fit L d x:=by
 refine⟨h.1, ?_⟩
 have h2:=h.2
 have:=ns x
 rw[if_neg (by omega)] at h2
 split<;>omega
theorem lD{x:Px}{b:Int}:∀(l:List Px) (i m:Int),m≤b→(∀(j:Nat) y,l[j]? = some y→y.depth+Px.oJ x y (i+j)≤b)→Px.fX x i l m≤b
 | [],i,m,hm,_=>by rw[Px.fX];exact hm
 | y::r,i,m,hm,h=>by
   rw[Px.fX]
   have h0:=h 0 y rfl
   rw[show i+((0:Nat):Int)=i by omega] at h0
   refine lD r (i+1) _ (by omega) fun j z hj=>?_
   have:=h (j+1) z (by simpa using hj)
   rwa [show i+1+(j:Int)=i+((j+1:Nat):Int) by omega]
theorem mw{l:List Px}(h:∀k∈l,k.formed=true):Px.iq l=true:=by
 induction l with
 | nil=>rw[Px.iq]
 | cons x r ih=>rw[Px.iq,h x (.head _),ih fun k hk=>h k (.tail _ hk)];rfl
theorem Fit.leaf{x:Px}(h1:x.iK=true)(hk:x.kids=[])(hl:x.kind≠5∧x.kind≠6∧x.kind≠7){d:Int}(hd:d≤24):Fit 8 d x:=by
 refine⟨by rw[Px.gT,h1,hk,Px.iq];rfl, ?_⟩
 have h2:x.level=8:=by unfold Px.level;rw[if_neg hl.2.2,if_neg hl.1,if_neg hl.2.1]
 rw[Px.kj,hk,Px.fX,h2,if_neg (by decide)];omega
theorem Fit.call{x:Px}(h1:x.iK=true)(hl:x.kind=8∨x.kind=9){d:Int}(hd:d≤24)(hk:∀k∈x.kids,Fit 1 (d+1) k):Fit 8 d x:=by
 have h57:x.kind≠5∧x.kind≠6∧x.kind≠7:=by omega
 refine⟨by rw[Px.gT,h1,mw fun k hm=>(hk k hm).1];rfl, ?_⟩
 have h2:x.level=8:=by unfold Px.level;rw[if_neg h57.2.2,if_neg h57.1,if_neg h57.2.1]
 rw[h2,if_neg (by decide),Px.kj]
 have:=lD (x:=x) (b:=24-d) x.kids 0 0 (by omega) fun j y hj=>by
  have hy:=hk y (List.mem_of_getElem? hj)
  have h3:=hy.2
  have:=ns y
  rw[if_neg (by omega)] at h3
  have ha:Px.oJ x y (0+j)=1:=by
   unfold Px.oJ Px.asks
   rw[if_neg h57.2.2,if_neg h57.1,if_neg h57.2.1,if_neg (by omega)]
   rw[if_neg h57.2.1,if_neg h57.2.2];rfl
  rw[ha];omega
 omega
theorem Fit.un{o q d:Int}{y:Px}(ho:o=1∨o=2)(hd:d≤24)(hy:Fit 7 (d+1) y):Fit 7 d (.mk 5 o 0 0 0 ⟨#[]⟩ [y] q):=by
 have h1:(Px.mk 5 o 0 0 0 ⟨#[]⟩ [y] q).iK=true:=by rcases ho with rfl | rfl<;>exact uY rfl
 refine⟨by rw[Px.gT,h1,mw fun k hm=>?_];rfl;· have hm:k∈[y]:=hm
                                              rw[List.mem_singleton] at hm;subst hm;exact hy.1, ?_⟩
 have h2:(Px.mk 5 o 0 0 0 ⟨#[]⟩ [y] q).level=7:=rfl
 rw[h2,if_neg (by decide),Px.kj]
 have:=lD (x:=.mk 5 o 0 0 0 ⟨#[]⟩ [y] q) (b:=24-d) [y] 0 0 (by omega) fun j z hj=>by
  have hz:z=y:=by have:=List.mem_of_getElem? hj;rwa [List.mem_singleton] at this
  subst hz
  have h3:=hy.2
  have ha:Px.oJ (.mk 5 o 0 0 0 ⟨#[]⟩ [z] q) z (0+j)=(if z.level<7 then 1 else 0)+1:=rfl
  rw[ha];omega
 show Px.fX _ 0 [y] 0+d+0≤24
 omega
theorem Fit.two{L A B o q d:Int}{a b:Px}(ho:6≤o∧o≤18)(hd:d≤24)(hL:∀l:List Px,(Px.mk 6 o 0 0 0 ⟨#[]⟩ l q).level=L)(hA:A=if L=4 then 5 else L)(hB:B=if L=4 then 5 else L+1)(ha:Fit A d a)(hb:Fit B d b):Fit L d (iS o q a b):=by
 have h1:(iS o q a b).iK=true:=by
  have hf:(iS o q a b).wi=true:=by
   show decide (6≤o∧o≤18)=true
   exact decide_eq_true ho
  have hz:(iS o q a b).qE=true:=by
   refine (pK ..).trans ?_
   show ((o==0||false||true||false)&&true&&true&&true&&true)=true
   simp
  have har:decide ((iS o q a b).kids.length=(iS o q a b).arity)=true:=rfl
  unfold Px.iK;rw[hf,hz,har];rfl
 refine⟨by rw[Px.gT,h1,mw fun k hm=>?_];rfl;· have hm:k∈[a,b]:=hm
                                              rcases List.mem_cons.1 hm with rfl | hm
                                              ·exact ha.1
                                              ·rw[List.mem_singleton] at hm;subst hm;exact hb.1, ?_⟩
 have h2:(iS o q a b).level=L:=hL _
 rw[h2,if_neg (by omega),Px.kj]
 have hs:∀y i,Px.oJ (iS o q a b) y i=if y.level<(if L=4 then 5 else L+i) then 1 else 0:=fun y i=>by
  show (if y.level<(if (iS o q a b).level=4 then 5 else (iS o q a b).level+i) then (1:Int) else 0)+0=_
  rw[h2];omega
 have:=lD (x:=iS o q a b) (b:=24-d) [a,b] 0 0 (by omega) fun j z hj=>by
  rw[hs]
  rcases j with _ | _ | j
  ·obtain rfl:a=z:=by simpa using hj
   have h3:=ha.2
   rw[hA] at h3
   rw[show (0:Int)+((0:Nat):Int)=0 by omega,Int.add_zero];omega
  ·obtain rfl:b=z:=by simpa using hj
   have h3:=hb.2
   rw[hB] at h3
   rw[show (0:Int)+((0+1:Nat):Int)=1 by omega];omega
  ·simp at hj
 show Px.fX _ 0 [a,b] 0+d+0≤24
 omega
theorem Fit.cond{q d:Int}{a b e:Px}(hd:d≤24)(ha:Fit 2 d a)(hb:Fit 1 (d+1) b)(he:Fit 1 (d+1) e):Fit 1 d (.mk 7 0 0 0 0 ⟨#[]⟩ [a,b,e] q):=by
 have h1:(Px.mk 7 0 0 0 0 ⟨#[]⟩ [a,b,e] q).iK=true:=uY rfl
 refine⟨by rw[Px.gT,h1,mw fun k hm=>?_];rfl;· have hm:k∈[a,b,e]:=hm
                                              simp only[List.mem_cons,List.not_mem_nil,or_false] at hm
                                              rcases hm with rfl | rfl | rfl
                                              ·exact ha.1
                                              ·exact hb.1
                                              ·exact he.1, ?_⟩
 have h2:(Px.mk 7 0 0 0 0 ⟨#[]⟩ [a,b,e] q).level=1:=rfl
 rw[h2,if_neg (by decide),Px.kj]
 have h3:=ha.2
 have h4:=hb.2
 have h5:=he.2
 have l1:=ns b
 have l2:=ns e
 rw[if_neg (by omega)] at h4 h5
 have:=lD (x:=.mk 7 0 0 0 0 ⟨#[]⟩ [a,b,e] q) (b:=24-d) [a,b,e] 0 0 (by omega) fun j z hj=>by
  rcases j with _ | _ | _ | j
  ·obtain rfl:a=z:=by simpa using hj
   have:Px.oJ (.mk 7 0 0 0 0 ⟨#[]⟩ [a,b,e] q) a (0+((0:Nat):Int))=(if a.level<2 then 1 else 0)+0:=rfl
   rw[this];omega
  ·obtain rfl:b=z:=by simpa using hj
   have:Px.oJ (.mk 7 0 0 0 0 ⟨#[]⟩ [a,b,e] q) b (0+((0+1:Nat):Int))=(if b.level<1 then 1 else 0)+1:=rfl
   rw[this,if_neg (by omega)];omega
  ·obtain rfl:e=z:=by simpa using hj
   have:Px.oJ (.mk 7 0 0 0 0 ⟨#[]⟩ [a,b,e] q) e (0+((0+1+1:Nat):Int))=(if e.level<1 then 1 else 0)+1:=rfl
   rw[this,if_neg (by omega)];omega
  ·simp at hj
 show Px.fX _ 0 [a,b,e] 0+d+0≤24
 omega
def wQ(c:PC)(L d:Int)(g:PS→Px×PS):Prop:=∀s,Al c (g s).2→Fit L d (g s).1
structure Fc (c:PC) (nx:Lv) (d:Int):Prop where
 mx:dR c nx.ex
 mu:dR c nx.un
 kx:∀f,Kp c f nx.ex
 ku:∀f,Kp c f nx.un
 fx:d+1≤24→wQ c 1 (d+1) nx.ex
 fu:d+1≤24→wQ c 7 (d+1) nx.un
theorem ug{c:PC}(hF:tz c)(s:PS):(c.literal s).1.2=true→(∀d:Int,d≤24→Fit 8 d (c.literal s).1.1)∧(c.literal s).1.1.kind=1∧((c.now s).kind=3→(c.literal s).1.1.dJ≤4):=by
 have hn:=Bj hF s
 have key:∀t n q:Int,(pG t n q).A1=true→∀d:Int,d≤24→Fit 8 d (pG t n q):=fun t n q hl d hd=>by
  refine .leaf ?_ rfl ⟨by show (1:Int)≠5;decide,by show (1:Int)≠6;decide,by show (1:Int)≠7;decide⟩ hd
  have hf:(pG t n q).wi=true:=hl
  have hz:(pG t n q).qE=true:=by
   refine (pK ..).trans ?_
   show (true&&(t==0||true||false)&&(n==0||true)&&true&&true)=true
   simp
  unfold Px.iK;rw[hf,hz];rfl
 unfold PC.literal
 split
 ·rename_i h
  intro _
  have h3:=hn.2 h
  refine⟨key _ _ _ ?_,rfl,fun _=>h3.2.1⟩
  show (if (c.now s).dJ=6 then _ else if (c.now s).dJ=5 then _ else if 1≤(c.now s).dJ∧(c.now s).dJ≤4 then decide (0≤(c.now s).n) else false)=true
  rw[if_neg (by omega),if_neg (by omega),if_pos ⟨h3.1,h3.2.1⟩]
  exact decide_eq_true h3.2.2
 ·rename_i h
  split
  ·intro _
   refine⟨key _ _ _ ?_,rfl,fun h3=>absurd h3 h⟩
   split<;>rfl
  ·split
   ·intro _
    refine⟨key _ _ _ ?_,rfl,fun h3=>absurd h3 h⟩
    split<;>rfl
   ·intro h;cases h
section
variable {c:PC} (hF:tz c) {nx:Lv} {d:Int} (h0:0≤d) (hd:d≤24) (hx:Fc c nx d)
include hF h0 hd hx
theorem Bl(hd1:d+1≤24):∀(n:Nat) (b:Bool) (s:PS),Al c (c.dB nx n b s).2→(c.dB nx n b s).1.length=n∧∀k∈(c.dB nx n b s).1,Fit 1 (d+1) k
 | 0,b,s,h=>⟨rfl,fun k hk=>by cases hk⟩
 | n+1,b,s,h=>by
   rw[PC.dB] at h ⊢
   have h:Al c (c.dB nx n false (nx.ex (if b=true then s else (c.take (⟨#[44]⟩:ByteArray) s).2)).2).2:=h
   have h1:=h.back (Up.kids hx.mx n false _) fun f h=>Kp.kids (hx.kx f) n false _ h
   obtain⟨i1,i2⟩:=Bl hd1 n false _ h
   refine⟨by show List.length (_::_)=_;rw[List.length_cons,i1],fun k hk=>?_⟩
   rcases List.mem_cons.1 hk with rfl | hk
   ·exact hx.fx hd1 _ h1
   ·exact i2 k hk
theorem Bm{kind oper dJ pos:Int}{many:Nat}{s:PS}(hl:s.next<c.l.length)(hk:kind=8∧3≤oper∧oper≤5∧dJ=0∧many=(if oper=3 then 1 else 2)∨kind=9∧oper=0∧1≤dJ∧dJ≤4∧many=1)(h:Al c (c.call nx d kind oper dJ pos many s).2):Fit 8 d (c.call nx d kind oper dJ pos many s).1:=by
 unfold PC.call at h ⊢
 split
 ·rename_i ho
  rw[if_pos ho] at h
  exact absurd h.1 (by rw[ho];decide)
 ·rename_i ho
  rw[if_neg ho] at h
  obtain⟨hd1,_⟩:=ft hl (by simpa using ho)
  have h:Al c (c.take (⟨#[41]⟩:ByteArray) (c.dB nx many true (c.take (⟨#[40]⟩:ByteArray) (c.cT d s).inc).2).2).2:=h
  obtain⟨k1,k2⟩:=Bl hF h0 hd hx hd1 many true _ (h.back (Up.take _) fun f h=>h.take _)
  show Fit 8 d (.mk kind oper dJ 0 0 ⟨#[]⟩ (c.dB nx many true (c.take (⟨#[40]⟩:ByteArray) (c.cT d s).inc).2).1 pos)
  generalize (c.dB nx many true (c.take (⟨#[40]⟩:ByteArray) (c.cT d s).inc).2).1=l at k1 k2
  refine .call ?_ ?_ hd k2
  ·rcases hk with ⟨rfl,ho1,ho2,rfl,hm⟩ | ⟨rfl,rfl,ho1,ho2,rfl⟩
   ·have hf:(Px.mk 8 oper 0 0 0 ⟨#[]⟩ l pos).wi=true:=decide_eq_true (⟨ho1,ho2⟩:3≤oper∧oper≤5)
    have hz:(Px.mk 8 oper 0 0 0 ⟨#[]⟩ l pos).qE=true:=by
     refine (pK ..).trans ?_
     show ((oper==0||false||false||true)&&true&&true&&true&&true)=true
     simp
    have har:decide ((Px.mk 8 oper 0 0 0 ⟨#[]⟩ l pos).kids.length=(Px.mk 8 oper 0 0 0 ⟨#[]⟩ l pos).arity)=true:=by
     refine decide_eq_true ?_
     show l.length=if oper=3 then 1 else 2
     rw[k1,hm]
    unfold Px.iK;rw[hf,hz,har];rfl
   ·have hf:(Px.mk 9 0 dJ 0 0 ⟨#[]⟩ l pos).wi=true:=decide_eq_true (⟨ho1,ho2⟩:1≤dJ∧dJ≤4)
    have hz:(Px.mk 9 0 dJ 0 0 ⟨#[]⟩ l pos).qE=true:=by
     refine (pK ..).trans ?_
     show (true&&(dJ==0||false||true)&&true&&true&&true)=true
     simp
    have har:decide ((Px.mk 9 0 dJ 0 0 ⟨#[]⟩ l pos).kids.length=(Px.mk 9 0 dJ 0 0 ⟨#[]⟩ l pos).arity)=true:=decide_eq_true k1
    unfold Px.iK;rw[hf,hz,har];rfl
  ·rcases hk with ⟨rfl,_⟩ | ⟨rfl,_⟩
   ·exact .inl rfl
   ·exact .inr rfl
theorem DF:wQ c 8 d (c.rest nx d):=fun s h=>by
 unfold PC.rest at h ⊢
 split
 ·rename_i hw
  rw[if_pos hw] at h
  split
  ·rename_i ha
   rw[if_pos ha] at h
   exact (Al.cX (by decide) h).elim
  ·rename_i ha
   have h3:=(dx (Int.not_lt.1 ha)).2
   have ha:=Int.not_lt.1 ha
   refine .leaf ?_ rfl ⟨by show (4:Int)≠5;decide,by show (4:Int)≠6;decide,by show (4:Int)≠7;decide⟩ hd
   generalize c.any [(⟨#[98,105,100]⟩:ByteArray),(⟨#[97,115,107]⟩:ByteArray),(⟨#[108,97,115,116]⟩:ByteArray)] s.inc=a at h3 ha
   have h3:a<3:=h3
   rcases (by omega:a=0∨a=1∨a=2) with rfl | rfl | rfl<;>exact uY rfl
 ·rename_i hw
  rw[if_neg hw] at h
  split
  ·rename_i hw2
   rw[if_pos hw2] at h
   split
   ·rename_i ho
    rw[if_pos ho] at h
    exact absurd h.1 (by rw[ho];decide)
   ·rename_i ho
    rw[if_neg ho] at h
    obtain⟨hd1,_⟩:=ft (gQ hw2) (by simpa using ho)
    have h:Al c (c.take (⟨#[41]⟩:ByteArray) (nx.ex (c.cT d s).inc).2).2:=h
    exact (hx.fx hd1 _ (h.back (Up.take _) fun f h=>h.take _)).deep 8
  ·rename_i hw2
   rw[if_neg hw2] at h
   exact (Al.cX (by decide) h).elim
theorem Ex:wQ c 8 d (c.one nx d):=fun s h=>by
 unfold PC.one at h ⊢
 split
 ·rename_i hl
  exact (ug hF s hl).1 d hd
 ·rename_i hl
  rw[if_neg hl] at h
  split
  ·rename_i hk
   have hn:=(Bj hF s).1 hk
   refine .leaf ?_ rfl ⟨by show (2:Int)≠5;decide,by show (2:Int)≠6;decide,by show (2:Int)≠7;decide⟩ hd
   generalize (c.now s).text=t at hn
   generalize (c.now s).pos=q
   have hf:(Px.mk 2 0 0 0 0 t [] q).wi=true:=hn
   have hz:(Px.mk 2 0 0 0 0 t [] q).qE=true:=by
    show (true&&true&&true&&true&&(t.toList==[]||true))=true
    simp
   unfold Px.iK;rw[hf,hz];rfl
  ·rename_i hk
   rw[if_neg hk] at h
   split
   ·rename_i ha
    have h3:=(dx ha).2
    refine .leaf ?_ rfl ⟨by show (3:Int)≠5;decide,by show (3:Int)≠6;decide,by show (3:Int)≠7;decide⟩ hd
    generalize c.any jv s=a at h3 ha
    have h3:a<6:=h3
    rcases (by omega:a=0∨a=1∨a=2∨a=3∨a=4∨a=5) with rfl | rfl | rfl | rfl | rfl | rfl<;>exact uY rfl
   ·rename_i ha
    rw[if_neg ha] at h
    split
    ·rename_i hb
     rw[if_pos hb] at h
     have h3:=(dx hb).2
     have h3:c.any gE s<3:=h3
     refine Bm hF h0 hd hx (dx hb).1 (.inl ⟨rfl,by omega,by omega,rfl, ?_⟩) h
     by_cases h4:c.any gE s=0
     ·rw[if_pos h4,if_pos (by omega)]
     ·rw[if_neg h4,if_neg (by omega)]
    ·rename_i hb
     rw[if_neg hb] at h
     split
     ·rename_i he
      rw[if_pos he] at h
      have h3:=(dx he).2
      have h3:c.any jN s<4:=h3
      exact Bm hF h0 hd hx (dx he).1 (.inr ⟨rfl,rfl,by omega,by omega,rfl⟩) h
     ·rename_i he
      rw[if_neg he] at h
      exact DF hF h0 hd hx s h
theorem uZ:wQ c 7 d (c.unary nx d):=fun s h=>by
 unfold PC.unary at h ⊢
 split
 ·rename_i ha
  rw[if_pos ha] at h
  exact (Ex hF h0 hd hx s h).Bk (by decide)
 ·rename_i ha
  rw[if_neg ha] at h
  have ha:=Int.not_lt.1 ha
  have h3:=dx ha
  split
  ·rename_i ho
   rw[if_pos ho] at h
   exact absurd h.1 (by rw[ho];decide)
  ·rename_i ho
   rw[if_neg ho] at h
   obtain⟨hd1,_⟩:=ft h3.1 (by simpa using ho)
   have h4:c.any kQ s<2:=h3.2
   exact .un (by omega) hd (hx.fu hd1 _ h)
end
theorem yU{c:PC}{L d o:Int}{ws:List ByteArray}{sub:PS→Px×PS}(h0:dR c sub)(hk:∀f,Kp c f sub)(hf:wQ c (L+1) d sub)(ht:∀(a q:Int) (n k:Px),0≤a→a<ws.length→Fit L d n→Fit (L+1) d k→Fit L d (iS (o+a) q n k)) :
  ∀(m:Nat) (n:Px) (s:PS),(Al c s→Fit L d n)→Al c (c.dM ws o sub m n s).2→Fit L d (c.dM ws o sub m n s).1
 | 0,n,s,hn,h=>hn h
 | m+1,n,s,hn,h=>by
   rw[PC.dM] at h ⊢
   split
   ·rename_i ha
    rw[if_pos ha] at h
    exact hn h
   ·rename_i ha
    rw[if_neg ha] at h
    have ha:=Int.not_lt.1 ha
    refine yU h0 hk hf ht m _ _ (fun hs=>?_) h
    exact ht _ _ _ _ ha (dx ha).2 (hn ⟨lC ha,(dx ha).1⟩) (hf _ hs)
theorem u5{c:PC}{L d o:Int}{ws:List ByteArray}{sub:PS→Px×PS}(h0:dR c sub)(hk:∀f,Kp c f sub)(hf:wQ c (L+1) d sub)(ht:∀(a q:Int) (n k:Px),0≤a→a<ws.length→Fit L d n→Fit (L+1) d k→Fit L d (iS (o+a) q n k)):wQ c L d (c.loop ws o sub):=fun s h =>
 yU h0 hk hf ht _ _ _ (fun hs=>(hf s hs).Bk (by omega)) h
section
variable {c:PC} (hF:tz c) {nx:Lv} {d:Int} (h0:0≤d) (hd:d≤24) (hx:Fc c nx d)
include hF h0 hd hx
theorem z5:wQ c 6 d (c.product nx d) :=
 u5 (Up.unary hx.mx hx.mu d) (fun f=>Kp.unary nx d) (uZ hF h0 hd hx) fun a q n k a0 a1 hn hk=>by
  have a1:a<3:=a1
  rcases (by omega:a=0∨a=1∨a=2) with rfl | rfl | rfl<;>exact .two (by decide) hd (fun l=>rfl) rfl rfl hn hk
theorem Bn:wQ c 5 d (c.sum nx d) :=
 u5 (Up.product hx.mx hx.mu d) (fun f=>Kp.product nx d) (z5 hF h0 hd hx) fun a q n k a0 a1 hn hk=>by
  have a1:a<2:=a1
  rcases (by omega:a=0∨a=1) with rfl | rfl<;>exact .two (by decide) hd (fun l=>rfl) rfl rfl hn hk
theorem z6:wQ c 4 d (c.compare nx d):=fun s h=>by
 unfold PC.compare at h ⊢
 replace h:Al c (if c.any iU (c.sum nx d s).2<0 then c.sum nx d s else (iS (11+c.any iU (c.sum nx d s).2) (c.now (c.sum nx d s).2).pos (c.sum nx d s).1 (c.sum nx d (c.sum nx d s).2.inc).1,(c.sum nx d (c.sum nx d s).2.inc).2)).2:=h
 show Fit 4 d (if c.any iU (c.sum nx d s).2<0 then c.sum nx d s else (iS (11+c.any iU (c.sum nx d s).2) (c.now (c.sum nx d s).2).pos (c.sum nx d s).1 (c.sum nx d (c.sum nx d s).2.inc).1,(c.sum nx d (c.sum nx d s).2.inc).2)).1
 split
 ·rename_i ha
  rw[if_pos ha] at h
  exact (Bn hF h0 hd hx s h).Bk (by decide)
 ·rename_i ha
  rw[if_neg ha] at h
  have ha:=Int.not_lt.1 ha
  have h1:=Bn hF h0 hd hx s ⟨lC ha,(dx ha).1⟩
  have h2:=Bn hF h0 hd hx _ h
  have a1:c.any iU (c.sum nx d s).2<6:=(dx ha).2
  generalize c.any iU (c.sum nx d s).2=a at ha a1
  show Fit 4 d (iS (11+a) (c.now (c.sum nx d s).2).pos (c.sum nx d s).1 (c.sum nx d (c.sum nx d s).2.inc).1)
  rcases (by omega:a=0∨a=1∨a=2∨a=3∨a=4∨a=5) with rfl | rfl | rfl | rfl | rfl | rfl<;>exact .two (by decide) hd (fun l=>rfl) rfl rfl h1 h2
theorem Ey:wQ c 3 d (c.and nx d) :=
 u5 (Up.compare hx.mx hx.mu d) (fun f=>Kp.compare nx d) (z6 hF h0 hd hx) fun a q n k a0 a1 hn hk=>by
  have a1:a<1:=a1
  obtain rfl:a=0:=by omega
  exact .two (by decide) hd (fun l=>rfl) rfl rfl hn hk
theorem Fq:wQ c 2 d (c.or nx d) :=
 u5 (Up.and hx.mx hx.mu d) (fun f=>Kp.and nx d) (Ey hF h0 hd hx) fun a q n k a0 a1 hn hk=>by
  have a1:a<1:=a1
  obtain rfl:a=0:=by omega
  exact .two (by decide) hd (fun l=>rfl) rfl rfl hn hk
theorem Bo:wQ c 1 d (c.expr nx d):=fun s h=>by
 unfold PC.expr at h ⊢
 have ho:=Fq hF h0 hd hx s
 generalize c.or nx d s=r at ho h
 replace h:Al c (if c.eo (⟨#[63]⟩:ByteArray) r.2 then (if (c.cT d r.2).over then (eP,c.cT d r.2) else (.mk 7 0 0 0 0 ⟨#[]⟩ [r.1,(nx.ex (c.cT d r.2).inc).1,(nx.ex (c.take (⟨#[58]⟩:ByteArray) (nx.ex (c.cT d r.2).inc).2).2).1] (c.now (c.cT d r.2)).pos,(nx.ex (c.take (⟨#[58]⟩:ByteArray) (nx.ex (c.cT d r.2).inc).2).2).2)) else r:Px×PS).2:=h
 show Fit 1 d (if c.eo (⟨#[63]⟩:ByteArray) r.2 then (if (c.cT d r.2).over then (eP,c.cT d r.2) else (.mk 7 0 0 0 0 ⟨#[]⟩ [r.1,(nx.ex (c.cT d r.2).inc).1,(nx.ex (c.take (⟨#[58]⟩:ByteArray) (nx.ex (c.cT d r.2).inc).2).2).1] (c.now (c.cT d r.2)).pos,(nx.ex (c.take (⟨#[58]⟩:ByteArray) (nx.ex (c.cT d r.2).inc).2).2).2)) else r:Px×PS).1
 split
 ·rename_i hw
  rw[if_pos hw] at h
  split
  ·rename_i hv
   rw[if_pos hv] at h
   exact absurd h.1 (by rw[hv];decide)
  ·rename_i hv
   rw[if_neg hv] at h
   obtain⟨hd1,_⟩:=ft (gQ hw) (by simpa using hv)
   have h:Al c (nx.ex (c.take (⟨#[58]⟩:ByteArray) (nx.ex (c.cT d r.2).inc).2).2).2:=h
   have h2:=(h.back (hx.mx _) fun f h=>hx.kx f _ h).back (Up.take _) fun f h=>h.take _
   exact .cond hd (ho ⟨nk hw,gQ hw⟩) (hx.fx hd1 _ h2) (hx.fx hd1 _ h)
 ·rename_i hw
  rw[if_neg hw] at h
  exact (ho h).Bk (by decide)
end
theorem CY{c:PC}(hF:tz c):∀(k:Nat) (d:Int),0≤d→(k:Int)+d=24→wQ c 1 d (c.lvl k d).ex∧wQ c 7 d (c.lvl k d).un
 | 0,d,h0,hk=>by
   have hz:dR c (fun s:PS=>(eP,s)):=fun s=>.refl
   have kz:∀f,Kp c f (fun s:PS=>(eP,s)):=fun f s h=>h
   have hx:Fc c ⟨fun s=>(eP,s),fun s=>(eP,s)⟩ d:=⟨hz,hz,kz,kz,fun h=>by omega,fun h=>by omega⟩
   exact⟨Bo hF h0 (by omega) hx,uZ hF h0 (by omega) hx⟩
 | k+1,d,h0,hk=>by
   have hi:=CY hF k (d+1) (by omega) (by omega)
   have hx:Fc c (c.lvl k (d+1)) d:=⟨(Up.lvl k (d+1)).1,(Up.lvl k (d+1)).2,fun f=>(Kp.lvl k (d+1)).1,fun f=>(Kp.lvl k (d+1)).2,fun _=>hi.1,fun _=>hi.2⟩
   exact⟨Bo hF h0 (by omega) hx,uZ hF h0 (by omega) hx⟩
theorem Ez{c:PC}(hF:tz c):wQ c 1 0 c.dW:=(CY hF 24 0 (Int.le_refl 0) (by decide)).1
theorem jx{c:PC}(hF:tz c)(s:PS)(h:Al c (c.dW s).2):(c.dW s).1.fk=0:=by
 obtain⟨h1,h2⟩:=Ez hF s h
 have:=ns (c.dW s).1
 rw[if_neg (by omega)] at h2
 unfold Px.fk
 rw[if_pos h1,if_neg (by omega)]
end Go.Lx
namespace Go.Lx
open Go.Vc
theorem c5{a b:Int}(ha:a=0)(hb:b=0):dg a b=0:=by rw[ha,kl,hb]
theorem dO{b:Bool}{n:Int}(h:b=true):fJ b n=0:=by rw[h];rfl
theorem iX:fg false eP=0:=by
 show fJ eP.wI 120=0
 refine dO ?_
 show (true&&(true&&(true&&(true&&(true&&((⟨#[]⟩:ByteArray).toList==[])))))&&true)=true
 rw[eE];rfl
theorem nt{α:Type}{f:α→Int}:∀{l:List α},(∀x∈l,f x=0)→dL f l=0
 | [],_=>rfl
 | x::r,h=>by rw[dL];exact c5 (h x (.head _)) (nt fun y hy=>h y (.tail _ hy))
section
variable {c:PC} (hF:tz c)
include hF
theorem qh(s:PS)(h:Al c (c.name s).2):dK (c.name s).1=true:=by
 unfold PC.name at h ⊢
 split
 ·rename_i hk;exact (Bj hF s).1 hk
 ·rename_i hk;rw[if_neg hk] at h;exact (Al.cX (by decide) h).elim
theorem DG{nm:ByteArray}{t p q:Int}{b:Bool}(hn:dK nm=true)(ht:1≤t∧t≤6)(s:PS)(h:Al c (c.hY nm t p q b s).2):(c.hY nm t p q b s).1.check=0:=by
 unfold PC.hY at h ⊢
 split
 ·rename_i hc;rw[if_pos hc] at h;exact (Al.cX (by decide) h).elim
 ·rename_i hc
  rw[if_neg hc] at h
  have h1:=h.back (Up.jL _) fun f h=>Kp.jL _ _ _ _ _ _ _ h
  have hl:(c.literal s).1.2=true:=by
   cases hl:(c.literal s).1.2 with
   | true=>rfl
   | false=>rw[hl,if_neg (by decide)] at h1;exact (Al.cX (by decide) h1).elim
  obtain⟨l1,l2,l3⟩:=ug hF s hl
  show eg.check ⟨nm,t,if b=true then .mk 5 1 0 0 0 ⟨#[]⟩ [(c.literal s).1.1] q else (c.literal s).1.1,p⟩=0
  refine dO ?_
  show (dK nm&&(decide (1≤t∧t≤6)&&(Px.formed (if b=true then .mk 5 1 0 0 0 ⟨#[]⟩ [(c.literal s).1.1] q else (c.literal s).1.1)&&Px.nf (if b=true then .mk 5 1 0 0 0 ⟨#[]⟩ [(c.literal s).1.1] q else (c.literal s).1.1))))=true
  rw[hn,decide_eq_true ht,Bool.true_and,Bool.true_and]
  cases b with
  | true =>
    have h3:=l3 (by
     by_cases h3:(c.now s).kind=3
     ·exact h3
     ·exact absurd ⟨rfl,h3⟩ hc)
    rw[if_pos rfl,(Fit.un (q:=q) (d:=0) (.inl rfl) (by decide) ((l1 (0+1) (by decide)).Bk (by decide))).1]
    show (if (5:Int)=5∧(1:Int)=1 then decide ((c.literal s).1.1.kind=1∧(c.literal s).1.1.dJ≤4) else decide ((5:Int)=1))=true
    rw[if_pos ⟨rfl,rfl⟩]
    exact decide_eq_true ⟨l2,h3⟩
  | false =>
    rw[if_neg (by decide),(l1 0 (by decide)).1]
    unfold Px.nf
    rw[if_neg (by rw[l2];exact fun h=>absurd h.1 (by decide)),l2];rfl
theorem DH{nm:ByteArray}{p:Int}(hn:dK nm=true)(s:PS)(h:Al c (c.ig nm p s).2):(c.ig nm p s).1.check=0:=by
 unfold PC.ig at h ⊢
 split
 ·rename_i hc;rw[if_pos hc] at h;exact (Al.cX (by decide) h).elim
 ·rename_i hc
  rw[if_neg hc] at h
  have hc:=Int.not_lt.1 hc
  have h6:c.any iV s<6:=(dx hc).2
  unfold PC.jh at h ⊢
  exact DG hF hn ⟨by omega,by omega⟩ _ h
theorem EA(s:PS)(h:Al c (c.kR s).2):(c.kR s).1.check=0:=by
 unfold PC.kR at h ⊢
 exact DH hF (qh hF _ (h.back (Up.ig _) fun f h=>Kp.ig _ _ _ h)) _ h
theorem Bp(s:PS)(h:Al c (c.eh s).2):(c.eh s).1.toList=[]∨dK (c.eh s).1=true:=by
 unfold PC.eh at h ⊢
 split
 ·rename_i hc;rw[if_pos hc] at h;exact .inr (qh hF _ h)
 ·exact .inl eE
omit hF in
theorem z7{x y z:Px}{p o:Int}{nm:ByteArray}(hx:x.fk=0)(hy:y.fk=0)(hz:o≠2∧z.fk=0∨o=2∧z=eP)(ho:1≤o∧o≤5)(hn:nm.toList=[]∨dK nm=true):fA.check ⟨1,o,nm,x,y,z,eP,p⟩=0:=by
 unfold fA.check
 refine c5 rfl (c5 (dO ?_) (c5 (dO ?_) (c5 hx (c5 hy (c5 ?_ iX)))))
 ·exact decide_eq_true (.inl ⟨rfl,ho⟩)
 ·show (if (1:Int)=6 then _ else if (1:Int)≠1∨nm.toList≠[] then dK nm else true)=true
  rw[if_neg (by decide)]
  split
  ·rename_i h
   rcases hn with hn | hn
   ·rcases h with h | h
    ·exact absurd rfl h
    ·exact absurd hn h
   ·exact hn
  ·rfl
 ·show fg (decide ((1:Int)=1∧o≠2∨(1:Int)=2)) z=0
  rcases hz with ⟨h1,h2⟩ | ⟨h1,h2⟩
  ·rw[decide_eq_true (.inl ⟨rfl,h1⟩)];exact h2
  ·rw[decide_eq_false (by rintro (h | h);exact h.2 h1;exact absurd h (by decide)),h2];exact iX
theorem Bq{x y z:Px}{p o:Int}(hx:x.fk=0)(hy:y.fk=0)(hz:o≠2∧z.fk=0∨o=2∧z=eP)(ho:1≤o∧o≤5)(s:PS)(h:Al c (c.jI x y p z o s).2):(c.jI x y p z o s).1.check=0 :=
 z7 hx hy hz ho (Bp hF s h)
theorem DI{x y z:Px}{p:Int}(hx:x.fk=0)(hy:y.fk=0)(hz:z.fk=0)(s:PS)(h:Al c (c.ij x y p z s).2):(c.ij x y p z s).1.check=0:=by
 unfold PC.ij at h ⊢
 split
 ·rename_i hc;rw[if_pos hc] at h;exact (Al.cX (by decide) h).elim
 ·rename_i hc
  rw[if_neg hc] at h
  have hc:=Int.not_lt.1 hc
  have h4:c.any fY s<4:=(dx hc).2
  refine Bq hF hx hy (.inl ⟨?_,hz⟩) ?_ _ h
  ·split<;>omega
  ·split<;>omega
theorem DJ{x y:Px}{p:Int}(hx:x.fk=0)(hy:y.fk=0)(s:PS)(h:Al c (c.hZ x y p s).2):(c.hZ x y p s).1.check=0:=by
 unfold PC.hZ at h ⊢
 split
 ·rename_i hc;rw[if_pos hc] at h;exact (Al.cX (by decide) h).elim
 ·rename_i hc
  rw[if_neg hc] at h
  split
  ·rename_i hc2
   rw[if_pos hc2] at h
   exact DI hF hx hy (jx hF _ (h.back (Up.ij _) fun f h=>Kp.ij _ _ _ _ _ h)) _ h
  ·rename_i hc2
   rw[if_neg hc2] at h
   exact Bq hF hx hy (.inr ⟨rfl,rfl⟩) (by decide) _ h
theorem Br(s:PS)(h:Al c (c.fZ s).2):(c.fZ s).1.check=0:=by
 unfold PC.fZ PC.sF at h ⊢
 have g4:=h.back (Up.hZ _) (fun f h=>Kp.hZ _ _ _ _ h)
 have g3:=g4.back (Up.dW _) (fun f h=>Kp.dW _ h)
 have g2:=g3.back (Up.take _) (fun f h=>h.take _)
 exact DJ hF (jx hF _ g2) (jx hF _ g4) _ h
theorem CZ{k p:Int}{nm:ByteArray}(hk:k=6∧nm=⟨#[]⟩∨2≤k∧k≤5∧dK nm=true)(s:PS)(h:Al c (c.nj k nm p s).2):(c.nj k nm p s).1.check=0:=by
 have hnm:k≠6→dK nm=true:=fun hne=>by
  rcases hk with ⟨h1,_⟩ | ⟨_,_,h1⟩
  ·exact absurd h1 hne
  ·exact h1
 have key:∀(j:Int),j=2∨j=3∨j=4∨j=5→dK nm=true→∀y z v:Px,fA.dK ⟨j,0,nm,eP,y,z,v,p⟩=true:=fun j hj hn y z v=>by
  show (if j=6 then _ else if j≠1∨nm.toList≠[] then dK nm else true)=true
  rw[if_neg (by omega),if_pos (.inl (by omega)),hn]
 unfold PC.nj at h ⊢
 split
 ·rename_i hc
  rw[if_pos hc] at h
  unfold PC.Aw at h ⊢
  have g4:Al c (c.dW (c.take (⟨#[97,116]⟩:ByteArray) (c.dW (c.take (⟨#[116,111]⟩:ByteArray) s).2).2).2).2:=h
  have g3:=g4.back (Up.dW _) (fun f h=>Kp.dW _ h)
  have g2:=g3.back (Up.take _) (fun f h=>h.take _)
  have e1:=jx hF _ g2
  have e2:=jx hF _ g4
  unfold fA.check
  exact c5 rfl (c5 rfl (c5 (dO (key 2 (.inl rfl) (hnm (by omega)) _ _ _)) (c5 iX (c5 e1 (c5 e2 iX)))))
 ·rename_i hc
  rw[if_neg hc] at h
  split
  ·rename_i hc2
   rw[if_pos hc2] at h
   unfold PC.DD at h ⊢
   have e1:=jx hF _ (show Al c (c.dW (c.take (⟨#[61]⟩:ByteArray) s).2).2 from h)
   unfold fA.check
   exact c5 rfl (c5 rfl (c5 (dO (key 4 (.inr (.inr (.inl rfl))) (hnm (by omega)) _ _ _)) (c5 iX (c5 iX (c5 iX e1)))))
  ·rename_i hc2
   rcases hk with ⟨rfl,rfl⟩ | ⟨h1,h2,h3⟩
   ·unfold fA.check
    refine c5 rfl (c5 rfl (c5 (dO ?_) (c5 iX (c5 iX (c5 iX iX)))))
    show ((⟨#[]⟩:ByteArray).toList==[])=true
    rw[eE];rfl
   ·rcases (by omega:k=3∨k=5) with rfl | rfl
    ·unfold fA.check
     exact c5 rfl (c5 rfl (c5 (dO (key 3 (.inr (.inl rfl)) h3 _ _ _)) (c5 iX (c5 iX (c5 iX iX)))))
    ·unfold fA.check
     exact c5 rfl (c5 rfl (c5 (dO (key 5 (.inr (.inr (.inr rfl))) h3 _ _ _)) (c5 iX (c5 iX (c5 iX iX)))))
theorem Ft(s:PS)(h:Al c (c.do s).2):(c.do s).1.check=0:=by
 unfold PC.do at h ⊢
 split
 ·rename_i hc;rw[if_pos hc] at h;exact (Al.cX (by decide) h).elim
 ·rename_i hc
  rw[if_neg hc] at h
  have hc:=Int.not_lt.1 hc
  have h6:c.any vz s<6:=(dx hc).2
  split
  ·rename_i hc2;rw[if_pos hc2] at h;exact Br hF s h
  ·rename_i hc2
   rw[if_neg hc2] at h
   split
   ·rename_i hc3;rw[if_pos hc3] at h;exact CZ hF (.inl ⟨rfl,rfl⟩) _ h
   ·rename_i hc3
    rw[if_neg hc3] at h
    exact CZ hF (.inr ⟨by omega,by omega,qh hF _ (h.back (Up.nj _) fun f h=>Kp.nj _ _ _ _ h)⟩) _ h
theorem Bt:∀(m:Nat) (l:List fA) (s:PS),(∀d∈l,d.check=0)→Al c (c.eX m l s).2→(∀d∈(c.eX m l s).1,d.check=0)∧(c.eX m l s).1.length≤l.length+m∧(0<m→0<(c.eX m l s).1.length)
 | 0,l,s,hl,h=>⟨hl,Nat.le_refl _,fun h=>absurd h (by decide)⟩
 | m+1,l,s,hl,h=>by
   rw[PC.eX] at h ⊢
   have key:Al c (c.do s).2→∀d∈l++[(c.do s).1],d.check=0:=fun ha d hd=>by
    rcases List.mem_append.1 hd with hd | hd
    ·exact hl d hd
    ·rw[List.mem_singleton] at hd;subst hd;exact Ft hF s ha
   have hlen:(l++[(c.do s).1]).length=l.length+1:=by rw[List.length_append,List.length_singleton]
   split
   ·rename_i hw
    rw[if_pos hw] at h
    have hk:=key ⟨nk hw,gQ hw⟩
    split
    ·rename_i ho
     rw[if_pos ho] at h
     exact absurd h.1 (by show ¬(c.many (l.length+1) 8 (c.do s).2).over=false;rw[ho];decide)
    ·rename_i ho
     rw[if_neg ho] at h
     obtain⟨i1,i2,i3⟩:=Bt m _ _ hk h
     rw[hlen] at i2
     refine⟨i1,by omega,fun _=>?_⟩
     cases m with
     | zero=>rw[PC.eX,hlen];omega
     | succ m=>exact i3 (by omega)
   ·rename_i hw
    rw[if_neg hw] at h
    exact⟨key h,by show (l++[(c.do s).1]).length≤_;rw[hlen];omega,fun _=>by show 0<(l++[(c.do s).1]).length;rw[hlen];omega⟩
theorem DK(s:PS)(h:Al c (c.fG s).2):(c.fG s).1.check=0:=by
 unfold PC.fG PC.kS at h ⊢
 have g5:Al c (c.take (⟨#[59]⟩:ByteArray) (c.eX 8 [] (c.take (⟨#[100,111]⟩:ByteArray) (c.dW (c.take (⟨#[119,104,101,110]⟩:ByteArray) s).2).2).2).2).2:=h
 have g4:=g5.back (Up.take _) (fun f h=>h.take _)
 have g3:=g4.back (Up.eX 8 [] _) (fun f h=>Kp.eX _ _ _ h)
 have g2:=g3.back (Up.take _) (fun f h=>h.take _)
 have e1:=jx hF _ g2
 obtain⟨i1,i2,i3⟩:=Bt hF 8 [] _ (fun d hd=>by cases hd) g4
 show ej.check ⟨(c.dW (c.take (⟨#[119,104,101,110]⟩:ByteArray) s).2).1,(c.eX 8 [] (c.take (⟨#[100,111]⟩:ByteArray) (c.dW (c.take (⟨#[119,104,101,110]⟩:ByteArray) s).2).2).2).1,_⟩=0
 unfold ej.check
 exact c5 e1 (c5 (dO (decide_eq_true (i3 (by decide)))) (c5 (dO (decide_eq_true (by simpa using i2))) (nt i1)))
omit hF in
theorem yV{α:Type}{chk:α→Int}{w:ByteArray}{most:Nat}{one:PS→α×PS}(h0:dR c one)(hf:∀s,Al c (one s).2→chk (one s).1=0) :
  ∀(k:Nat) (l:List α) (s:PS),(∀x∈l,chk x=0)→Al c (c.dH w most one k l s).2→(∀x∈(c.dH w most one k l s).1,chk x=0)∧(c.dH w most one k l s).1.length≤l.length+k
 | 0,l,s,hl,h=>by rw[PC.dH];exact⟨hl,Nat.le_refl _⟩
 | k+1,l,s,hl,h=>by
   rw[PC.dH] at h ⊢
   split
   ·rename_i hw
    rw[if_pos hw] at h
    split
    ·exact⟨hl,Nat.le_add_right _ _⟩
    ·rename_i ho
     rw[if_neg ho] at h
     have g1:Al c (one (c.many l.length most s)).2:=h.back (Up.dH (w:=w) (most:=most) h0 k _ _) fun f h=>Kp.dH _ _ _ _ _ _ h
     obtain⟨i1,i2⟩:=yV h0 hf k (l++[(one (c.many l.length most s)).1]) _ (fun x hx=>by
      rcases List.mem_append.1 hx with hx | hx
      ·exact hl x hx
      ·rw[List.mem_singleton] at hx;subst hx;exact hf _ g1) h
     rw[List.length_append,List.length_singleton] at i2
     exact⟨i1,by omega⟩
   ·exact⟨hl,Nat.le_add_right _ _⟩
omit hF in
theorem u6{α:Type}{chk:α→Int}{w:ByteArray}{most:Nat}{one:PS→α×PS}(h0:dR c one)(hf:∀s,Al c (one s).2→chk (one s).1=0)(s:PS)(h:Al c (c.list w most one s).2) :
  dL chk (c.list w most one s).1=0∧(c.list w most one s).1.length≤most:=by
 obtain⟨h1,h2⟩:=yV h0 hf most [] s (fun x hx=>by cases hx) h
 exact⟨nt h1,by rw[List.length_nil,Nat.zero_add] at h2;exact h2⟩
theorem Cl(s:PS)(h:Al c (c.state s).2):(c.state s).1.check=0:=by
 unfold PC.state PC.ko at h ⊢
 have g5:Al c (c.take (⟨#[125]⟩:ByteArray) (c.list (⟨#[119,104,101,110]⟩:ByteArray) 12 c.fG (c.take (⟨#[123]⟩:ByteArray) (c.name (c.take (⟨#[115,116,97,116,101]⟩:ByteArray) s).2).2).2).2).2:=h
 have g4:=g5.back (Up.take _) (fun f h=>h.take _)
 have g3:=g4.back (Up.list Up.fG _) (fun f h=>Kp.list _ _ _ _ h)
 have g2:=g3.back (Up.take _) (fun f h=>h.take _)
 obtain⟨i1,i2⟩:=u6 (chk:=ej.check) Up.fG (DK hF) _ g4
 show dt.check ⟨(c.name (c.take (⟨#[115,116,97,116,101]⟩:ByteArray) s).2).1,(c.list (⟨#[119,104,101,110]⟩:ByteArray) 12 c.fG (c.take (⟨#[123]⟩:ByteArray) (c.name (c.take (⟨#[115,116,97,116,101]⟩:ByteArray) s).2).2).2).1,_⟩=0
 unfold dt.check
 exact c5 (dO (qh hF _ g2)) (c5 (dO (decide_eq_true i2)) i1)
theorem DL(s:PS)(h:Al c (c.slot s).2):(c.slot s).1.check=0:=by
 unfold PC.slot at h ⊢
 have g3:Al c (c.take (⟨#[59]⟩:ByteArray) (c.name (c.take (⟨#[115,108,111,116]⟩:ByteArray) s).2).2).2:=h
 exact dO (qh hF _ (g3.back (Up.take _) fun f h=>h.take _))
theorem Cm(s:PS)(h:Al c (c.whole s).2):(c.whole s).1.check=0:=by
 unfold PC.whole PC.lh PC.lg PC.lf at h ⊢
 have g8:=h.back (Up.ia _) (fun f h=>Kp.ia _ _ _ _ _ h)
 have g7:=g8.back (Up.list Up.state _) (fun f h=>Kp.list _ _ _ _ h)
 have g6:=g7.back (Up.list Up.slot _) (fun f h=>Kp.list _ _ _ _ h)
 have g5:=g6.back (Up.list Up.kR _) (fun f h=>Kp.list _ _ _ _ h)
 have g4:=g5.back (Up.take _) (fun f h=>h.take _)
 have n1:=qh hF _ g4
 obtain⟨a1,a2⟩:=u6 (chk:=eg.check) Up.kR (EA hF) _ g6
 obtain⟨b1,b2⟩:=u6 (chk:=dm.check) Up.slot (DL hF) _ g7
 obtain⟨d1,d2⟩:=u6 (chk:=dt.check) Up.state (Cl hF) _ g8
 generalize c.list (⟨#[115,116,97,116,101]⟩:ByteArray) 12 c.state _=T at *
 unfold PC.ia at h ⊢
 have h:Al c (c.end (c.take (⟨#[125]⟩:ByteArray) (if T.1.length=0 then c.cX 130 T.2 else T.2)).2):=h
 have h9:=(h.back Up.end fun f h=>h.end).back (Up.take _) fun f h=>h.take _
 have ht:T.1.length≠0:=fun ht=>by rw[if_pos ht] at h9;exact Al.cX (by decide) h9
 show fm.check ⟨_,_,_,T.1⟩=0
 unfold fm.check
 exact c5 (dO n1) (c5 (dO (decide_eq_true a2)) (c5 a1 (c5 (dO (decide_eq_true b2)) (c5 b1
  (c5 (dO (decide_eq_true (Nat.pos_of_ne_zero ht))) (c5 (dO (decide_eq_true d2)) d1))))))
end
end Go.Lx
namespace Go.Lx
open Go.Vc
def kr(s:ByteArray)(i:Int):TR:=if db (bt s i) then js s i else if fj (bt s i) then iP s i else iQ s i
theorem jy(s:ByteArray)(f:Int):eJ s f=if da s f=s.size then .ok (iL (da s f)) else kr s (da s f):=rfl
def Bu(c:Int):Bool:=blank c||c==35
theorem z8{c:Int}(h:Bu c=true):c=32∨c=9∨c=10∨c=13∨c=35:=by
 simp only[Bu,blank,Bool.or_eq_true,beq_iff_eq] at h;omega
theorem nu{p:Int→Bool}{s:ByteArray}{i E:Int}(h:i≤E)(hE:E≤s.size)(hall:∀k,i≤k→k<E→p (bt s k)=true)(hend:E<s.size→p (bt s E)=false):dh p s i=E:=by
 obtain⟨n,hn⟩:∃n:Nat,n=(E-i).toNat:=⟨_,rfl⟩
 induction n generalizing i with
 | zero =>
   have:i=E:=by omega
   subst this
   rcases Int.lt_or_le i s.size with h' | h'
   ·rw[dw h',hend h'];rfl
   ·exact jr h'
 | succ n ih =>
   rw[dw (by omega),if_pos (hall i (Int.le_refl i) (by omega))]
   exact ih (by omega) (fun k h1 h2=>hall k (by omega) h2) (by omega)
theorem iI{p:Int→Bool}{s:ByteArray}{i k:Int}(h1:i≤k)(h2:k<dh p s i)(h3:i≤(s.size:Int)):p (bt s k)=true:=(wK h1 h2 h3).1
theorem my{s s':ByteArray}{i i' E:Int}(hE:i≤E)(hEs:E≤s.size)(hE':i'+(E-i)≤s'.size)(hag:∀k,0≤k→k<E-i→bt s' (i'+k)=bt s (i+k))(hd:∀k,i≤k→k<E→db (bt s k)=true)
  (h1:E<s.size→db (bt s E)=false) (h2:i'+(E-i)<s'.size→db (bt s' (i'+(E-i)))=false) (v:Int):dS s' i' v=dS s i v:=by
 obtain⟨n,hn⟩:∃n:Nat,n=(E-i).toNat:=⟨_,rfl⟩
 induction n generalizing i i' v with
 | zero =>
   have hi:i=E:=by omega
   subst hi
   have e1:dS s i v=v:=by
    rcases Int.lt_or_le i s.size with h | h
    ·rw[gM h,h1 h];rfl
    ·exact nJ h
   have e2:dS s' i' v=v:=by
    rcases Int.lt_or_le i' s'.size with h | h
    ·rw[gM h,show db (bt s' i')=false by have:=h2 (by omega);rwa [show i'+(i-i)=i' by omega] at this];rfl
    ·exact nJ h
   rw[e1,e2]
 | succ n ih =>
   have hb:bt s' i'=bt s i:=by have:=hag 0 (Int.le_refl 0) (by omega);rwa [Int.add_zero,Int.add_zero] at this
   rw[gM (s:=s) (by omega),gM (s:=s') (by omega),hb,hd i (Int.le_refl i) (by omega)]
   simp only[if_true]
   refine ih (i:=i+1) (i':=i'+1) (by omega) (by omega) (fun k g0 g1=>?_) (fun k g0 g1=>hd k (by omega) g1) (fun h=>?_) _ (by omega)
   ·have:=hag (k+1) (by omega) (by omega)
    rw[show i'+1+k=i'+(k+1) by omega,show i+1+k=i+(k+1) by omega];exact this
   ·have:=h2 (by omega)
    rwa [show i'+1+(E-(i+1))=i'+(E-i) by omega]
theorem nv{s s':ByteArray}{i i':Int}{n:Int}(h0:0≤i)(h0':0≤i')(hn:0≤n)(hle:i+n≤s.size)(hle':i'+n≤s'.size)(hag:∀k,0≤k→k<n→bt s' (i'+k)=bt s (i+k)):cut s' i' (i'+n)=cut s i (i+n):=by
 have h1:=eD h0 (by omega:i≤i+n) hle
 have h2:=eD h0' (by omega:i'≤i'+n) hle'
 refine xZ (by omega) fun k hk=>?_
 rw[ld h0' (by omega) (by omega) hle',ld h0 (by omega) (by omega) hle]
 exact hag k (by omega) (by omega)
theorem qY{s:ByteArray}{i:Int}{t:Tok}(h:js s i=.ok t) :
  ∃E e2,E=dh db s i∧e2=(if dE (cW s E)=1 then E else E+1)∧¬(dS s i 0>9223372036854775807∨(E-i>1∧bt s i=48)∨(e2<s.size∧(c9 (bt s e2)=true∨(65≤bt s e2∧bt s e2≤90)))) ∧
   t=⟨3,cut s i e2,dE (cW s E),dS s i 0,i⟩:=by
 refine⟨_,_,rfl,rfl, ?_, ?_⟩
 ·intro hc
  have:js s i=.bad 113 i:=if_pos hc
  rw[this] at h;cases h
 ·have:∀C:Prop,[Decidable C]→∀x y:TR,(if C then x else y)=.ok t→x=.bad 113 i→y=.ok t:=fun C _ x y h hx=>by
   split at h
   ·rw[hx] at h;cases h
   ·exact h
  have:=this _ _ _ h rfl
  cases this;rfl
theorem Cn{s:ByteArray}{i E e2:Int}(hE:dh db s i=E)(he2:e2=(if dE (cW s E)=1 then E else E+1))(hc:¬(dS s i 0>9223372036854775807∨(E-i>1∧bt s i=48)∨(e2<s.size∧(c9 (bt s e2)=true∨(65≤bt s e2∧bt s e2≤90))))) :
  js s i=.ok ⟨3,cut s i e2,dE (cW s E),dS s i 0,i⟩:=by
 subst hE he2
 exact if_neg hc
theorem z9{s s':ByteArray}{i i':Int}{t:Tok}(h0:0≤i)(hi:i<s.size)(h0':0≤i')(ht:kr s i=.ok t)(hle:i'+t.text.size≤s'.size)
  (hag:∀k,0≤k→k<(t.text.size:Int)→bt s' (i'+k)=bt s (i+k)) (hsep:i'+t.text.size<s'.size→Bu (bt s' (i'+t.text.size))=true):kr s' i'=.ok ⟨t.kind,t.text,t.dJ,t.n,i'⟩:=by
 have hsn:∀{c:Int},Bu c=true→db c=false∧c9 c=false∧dE c=1∧c≠61∧¬(65≤c∧c≤90)∧c≠38∧c≠124:=fun {c} h=>by
  rcases z8 h with h | h | h | h | h<;>subst h<;>decide
 unfold kr at ht
 by_cases hd:db (bt s i)=true
 ·rw[if_pos hd] at ht
  obtain⟨E,e2,hE,he2,hc,htt⟩:=qY ht
  have hr:=dw (p:=db) hi
  rw[if_pos hd] at hr
  have hEb:=dU (p:=db) (s:=s) (i:=i+1) (by omega)
  rw[←hr,←hE] at hEb
  have hdE:E<s.size→db (bt s E)=false:=fun h=>by rw[hE] at h ⊢;exact fe (by omega) h
  have htE:dE (cW s E)≠1→E<s.size:=fun hne=>by
   rcases Int.lt_or_le E s.size with h | h
   ·exact h
   ·rw[show cW s E=0 by unfold cW;rw[if_neg (by omega)]] at hne;exact absurd rfl hne
  have he2b:E≤e2∧e2≤s.size:=by
   rw[he2];split
   ·omega
   ·rename_i h;have:=htE h;omega
  have hn:(t.text.size:Int)=e2-i:=by rw[htt];exact eD h0 (by omega) he2b.2
  rw[hn] at hle hag hsep
  have hdig:∀k,i≤k→k<E→db (bt s k)=true:=fun k g0 g1=>iI (p:=db) g0 (by omega) (by omega)
  have hag':∀k,0≤k→k<E-i→bt s' (i'+k)=bt s (i+k):=fun k g0 g1=>hag k g0 (by omega)
  have hend:cW s' (i'+(E-i))=cW s E∨(dE (cW s E)=1∧dE (cW s' (i'+(E-i)))=1):=by
   by_cases h1:dE (cW s E)=1
   ·right
    refine⟨h1, ?_⟩
    rw[if_pos h1] at he2
    subst he2
    unfold cW
    split
    ·rename_i h;exact (hsn (hsep h)).2.2.1
    ·rfl
   ·left
    have:=htE h1
    rw[if_neg h1] at he2
    unfold cW
    rw[if_pos (by omega),if_pos this,hag (E-i) (by omega) (by omega)]
    congr 1;omega
  have hty:dE (cW s' (i'+(E-i)))=dE (cW s E):=by
   rcases hend with h | ⟨h1,h2⟩
   ·rw[h]
   ·rw[h1,h2]
  have hdE':i'+(E-i)<s'.size→db (bt s' (i'+(E-i)))=false:=fun h=>by
   by_cases h1:dE (cW s E)=1
   ·rw[if_pos h1] at he2
    subst he2
    exact (hsn (hsep h)).1
   ·have hlt:=htE h1
    rw[if_neg h1] at he2
    rw[hag (E-i) (by omega) (by omega),show i+(E-i)=E by omega]
    exact hdE hlt
  have hE':dh db s' i'=i'+(E-i):=by
   refine nu (by omega) (by omega) (fun k g0 g1=>?_) hdE'
   rw[show k=i'+(k-i') by omega,hag' (k-i') (by omega) (by omega)]
   exact hdig _ (by omega) (by omega)
  have hv:dS s' i' 0=dS s i 0:=my (by omega) (by omega) (by omega) hag' hdig hdE hdE' 0
  have hb0:bt s' i'=bt s i:=by have:=hag 0 (Int.le_refl 0) (by omega);rwa [Int.add_zero,Int.add_zero] at this
  have he2':i'+(e2-i)=(if dE (cW s' (i'+(E-i)))=1 then i'+(E-i) else i'+(E-i)+1):=by
   rw[hty,he2];split<;>omega
  unfold kr
  rw[hb0,if_pos hd,Cn hE' he2' (fun hc'=>hc ?_),hty,hv]
  ·rw[htt]
   rw[nv h0 h0' (by omega) (by omega) (by omega) hag,show i+(e2-i)=e2 by omega]
  ·rcases hc' with h | ⟨h,h'⟩ | ⟨h,h'⟩
   ·exact .inl (by rw[←hv];exact h)
   ·exact .inr (.inl ⟨by omega,by rw[←hb0];exact h'⟩)
   ·have hs:=hsn (hsep h)
    rcases h' with h' | h'
    ·rw[hs.2.1] at h';cases h'
    ·exact absurd h' hs.2.2.2.2.1
 ·rw[if_neg hd] at ht
  by_cases hm:fj (bt s i)=true
  ·rw[if_pos hm] at ht
   have hr:=dw (p:=c9) hi
   rw[if_pos (by simp[c9,hm])] at hr
   have hEb:=dU (p:=c9) (s:=s) (i:=i+1) (by omega)
   rw[←hr] at hEb
   unfold iP at ht
   simp only at ht
   split at ht
   ·cases ht
   ·rename_i h16
    have htt:=TR.ok.inj ht
    have hn:(t.text.size:Int)=dh c9 s i-i:=by rw[←htt];exact eD h0 (by omega) hEb.2
    rw[hn] at hle hag hsep
    have hb0:bt s' i'=bt s i:=by have:=hag 0 (Int.le_refl 0) (by omega);rwa [Int.add_zero,Int.add_zero] at this
    have hE':dh c9 s' i'=i'+(dh c9 s i-i):=by
     refine nu (by omega) (by omega) (fun k g0 g1=>?_) (fun h=>(hsn (hsep h)).2.1)
     rw[show k=i'+(k-i') by omega,hag (k-i') (by omega) (by omega)]
     exact iI (p:=c9) (i:=i) (k:=i+(k-i')) (by omega) (by omega) (by omega)
    have hcut:cut s' i' (i'+(dh c9 s i-i))=cut s i (dh c9 s i):=by
     rw[nv h0 h0' (by omega) (by omega) (by omega) hag,show i+(dh c9 s i-i)=dh c9 s i by omega]
    unfold kr
    rw[hb0,if_neg hd,if_pos hm]
    unfold iP
    simp only[hE']
    rw[if_neg (by omega),hcut,←htt]
  ·rw[if_neg hm] at ht
   have hr:=iH s i
   have hl:=lz hi
   unfold iQ at ht
   split at ht
   ·cases ht
   ·rename_i hz
    have htt:=TR.ok.inj ht
    have hn:(t.text.size:Int)=dP s i:=by
     rw[←htt]
     have:=eD h0 (by omega:i≤i+dP s i) hl
     show ((cut s i (i+dP s i)).size:Int)=_
     omega
    rw[hn] at hle hag hsep
    have hb0:bt s' i'=bt s i:=by have:=hag 0 (Int.le_refl 0) (by omega);rwa [Int.add_zero,Int.add_zero] at this
    have hmk:dP s' i'=dP s i:=by
     rcases (by omega:dP s i=1∨dP s i=2) with h1 | h2
     ·-- the next byte parts
      have hnx:cW s' (i'+1)=0∨Bu (cW s' (i'+1))=true:=by
       unfold cW
       split
       ·rename_i h;right;have:=hsep (by omega);rwa [h1] at this
       ·exact .inl rfl
      have hnx':cW s' (i'+1)≠61∧cW s' (i'+1)≠38∧cW s' (i'+1)≠124:=by
       rcases hnx with h | h
       ·rw[h];decide
       ·exact⟨(hsn h).2.2.2.1,(hsn h).2.2.2.2.2.1,(hsn h).2.2.2.2.2.2⟩
      rw[h1]
      unfold dP at h1 ⊢
      simp only[hb0] at h1 ⊢
      generalize cW s' (i'+1)=d' at hnx'
      split at h1
      ·rw[if_pos (by assumption)]
      ·rw[if_neg (by assumption)]
       split at h1
       ·split at h1<;>omega
       ·rw[if_neg (by assumption)]
        split at h1
        ·rw[if_pos (by assumption),if_neg hnx'.1]
        ·omega
     ·have hnx:cW s' (i'+1)=cW s (i+1):=by
       unfold cW
       rw[if_pos (by omega),if_pos (by omega)]
       exact hag 1 (by decide) (by omega)
      unfold dP
      rw[hnx,hb0]
    have hcut:cut s' i' (i'+dP s i)=cut s i (i+dP s i):=nv h0 h0' hr.1 hl hle hag
    unfold kr
    rw[hb0,if_neg hd,if_neg hm]
    unfold iQ
    rw[hmk,if_neg hz,hcut,←htt]
theorem lE{s:ByteArray}{f:Int}(h0:0≤f)(h1:f≤s.size){t:Tok}(ht:eJ s f=.ok t):sC s (da s f) t:=by
 rcases fF h0 h1 with ⟨t',ht',h⟩ | ⟨e,ht',_⟩
 ·rw[ht] at ht';cases ht';exact h
 ·rw[ht] at ht';cases ht'
theorem sG{s:ByteArray}{f:Int}(h0:0≤f)(h1:f≤s.size){t:Tok}(ht:eJ s f=.ok t)(hk:t.kind≠0):da s f<s.size∧kr s (da s f)=.ok t:=by
 have ho:=eO h1
 have hat:=lE h0 h1 ht
 rw[jy] at ht
 by_cases he:da s f=s.size
 ·rcases hat.2.2.2 with ⟨h,_⟩ | ⟨_,_,h⟩
  ·exact absurd h hk
  ·have:=hat.1;have:=hat.2.1;omega
 ·rw[if_neg he] at ht;exact⟨by omega,ht⟩
theorem sH(s:ByteArray):∀(n:Nat) (f:Int),(jl s n f).1.length≤n
 | 0,f=>Nat.le_refl _
 | n+1,f=>by
   unfold jl
   cases eJ s f with
   | bad e p=>simp
   | ok t =>
     simp only
     split
     ·simp
     ·simp only[List.length_cons];exact Nat.succ_le_succ (sH s n _)
structure yW (a z:ByteArray):Prop where
 lt:(a.size:Int)<z.size
 same:∀k,0≤k→k<(a.size:Int)→bt z k=bt a k
 nl:bt z a.size=10
theorem yW.val{a z:ByteArray}(h:yW a z){i:Int}(h0:0≤i)(h1:i≤a.size):dS z i 0=dS a i 0:=by
 have:=h.lt
 have hE:=dU (p:=db) h1
 refine my (E:=dh db a i) hE.1 hE.2 (by omega) (fun k g0 g1=>h.same _ (by omega) (by omega)) (fun k g0 g1=>iI g0 g1 h1) (fun hl=>fe h1 hl) (fun hl=>?_) 0
 rw[show i+(dh db a i-i)=dh db a i by omega]
 rcases Int.lt_or_le (dh db a i) a.size with hh | hh
 ·rw[h.same _ (by omega) hh];exact fe h1 hh
 ·rw[show dh db a i=a.size by omega,h.nl];rfl
theorem yX{C D:Prop}[Decidable C][Decidable D](h:C↔D){α:Type}(x y:α):(if C then x else y)=if D then x else y:=by
 by_cases hc:C
 ·rw[if_pos hc,if_pos (h.1 hc)]
 ·rw[if_neg hc,if_neg (fun hd=>hc (h.2 hd))]
theorem yW.over{a z:ByteArray}(h:yW a z):∀(n:Nat) (r:Bool) (f:Int),0≤f→f≤a.size→(a.size-f).toNat=n →
  (fT a r f<a.size→fT z r f=fT a r f)∧(fT a r f=a.size→fT z r f=da z (a.size+1)):=by
 have hlt:=h.lt
 intro n
 induction n with
 | zero =>
   intro r f h0 h1 hn
   have hf:f=a.size:=by omega
   subst hf
   rw[gz (Int.le_refl _)]
   refine⟨fun h=>by omega,fun _=>?_⟩
   rw[eb (by omega),h.nl]
   rw[show mZ 10 r=false from rfl]
   rfl
 | succ n ih =>
   intro r f h0 h1 hn
   have hb:=h.same f h0 (by omega)
   have st:=eb (s:=a) (r:=r) (i:=f) (by omega)
   have st':=eb (s:=z) (r:=r) (i:=f) (by omega)
   rw[hb] at st'
   split at st
   ·rename_i hc
    rw[if_pos hc] at st'
    exact⟨fun _=>by rw[st,st'],fun e=>by omega⟩
   ·rename_i hc
    rw[if_neg hc] at st'
    rw[st,st']
    exact ih _ (f+1) (by omega) (by omega) (by omega)
structure gS (b z:ByteArray) (d:Int):Prop where
 d0:0≤d
 size:(z.size:Int)=b.size+d
 same:∀k,0≤k→k<(b.size:Int)→bt z (k+d)=bt b k
theorem gS.run{b z:ByteArray}{d:Int}(h:gS b z d){p:Int→Bool}{i:Int}(h0:0≤i)(h1:i≤b.size):dh p z (i+d)=dh p b i+d:=by
 have hE:=dU (p:=p) h1
 have hd:=h.d0
 have hs:=h.size
 refine nu (by omega) (by omega) (fun k g0 g1=>?_) fun hl=>?_
 ·rw[show k=k-d+d by omega,h.same (k-d) (by omega) (by omega)];exact iI (by omega) (by omega) h1
 ·rw[h.same _ (by omega) (by omega)];exact fe h1 (by omega)
theorem gS.byte{b z:ByteArray}{d:Int}(h:gS b z d){i:Int}(h0:0≤i):cW z (i+d)=cW b i:=by
 have hs:=h.size
 unfold cW
 by_cases hh:i<b.size
 ·rw[if_pos (by omega),if_pos hh,h.same i h0 hh]
 ·rw[if_neg (by omega),if_neg hh]
theorem gS.cut{b z:ByteArray}{d:Int}(h:gS b z d){i e:Int}(h0:0≤i)(h1:i≤e)(h2:e≤b.size):cut z (i+d) (e+d)=cut b i e:=by
 have hd:=h.d0
 have hs:=h.size
 have hc:=nv (s:=b) (s':=z) (i:=i) (i':=i+d) (n:=e-i) h0 (by omega) (by omega) (by omega) (by omega) fun k g0 g1=>by
  rw[show i+d+k=i+k+d by omega];exact h.same _ (by omega) (by omega)
 rwa [show i+(e-i)=e by omega,show i+d+(e-i)=e+d by omega] at hc
theorem gS.val{b z:ByteArray}{d:Int}(h:gS b z d){i:Int}(h0:0≤i)(h1:i≤b.size):dS z (i+d) 0=dS b i 0:=by
 have hd:=h.d0
 have hs:=h.size
 have hE:=dU (p:=db) h1
 refine my (E:=dh db b i) hE.1 hE.2 (by omega) (fun k g0 g1=>?_) (fun k g0 g1=>iI g0 g1 h1) (fun hl=>fe h1 hl) (fun hl=>?_) 0
 ·rw[show i+d+k=i+k+d by omega];exact h.same _ (by omega) (by omega)
 ·rw[show i+d+(dh db b i-i)=dh db b i+d by omega,h.same _ (by omega) (by omega)];exact fe h1 (by omega)
def TR.shift(d:Int):TR→TR
 | .ok t=>.ok ⟨t.kind,t.text,t.dJ,t.n,t.pos+d⟩
 | .bad e p=>.bad e (p+d)
theorem lF{C:Prop}[Decidable C]{d:Int}{x y:TR}:TR.shift d (if C then x else y)=if C then x.shift d else y.shift d:=by split<;>rfl
theorem gS.num{b z:ByteArray}{d:Int}(h:gS b z d){i:Int}(h0:0≤i)(h1:i<b.size):js z (i+d)=(js b i).shift d:=by
 have hd:=h.d0
 have hs:=h.size
 have hE:=dU (p:=db) (s:=b) (i:=i) (by omega)
 have hr:=h.run (p:=db) (i:=i) h0 (by omega)
 have hv:=h.val (i:=i) h0 (by omega)
 generalize hEd:dh db b i=E at hE hr
 have hby:=h.byte (i:=E) (by omega)
 have htE:dE (cW b E)≠1→E<b.size:=fun hne=>by
  rcases Int.lt_or_le E b.size with h | h
  ·exact h
  ·rw[show cW b E=0 by unfold cW;rw[if_neg (by omega)]] at hne;exact absurd rfl hne
 have he2:∃e2,e2=(if dE (cW b E)=1 then E else E+1)∧(if dE (cW b E)=1 then E+d else E+d+1)=e2+d∧E≤e2∧e2≤b.size:=by
  refine⟨_,rfl, ?_⟩
  split
  ·exact⟨rfl,by omega⟩
  ·rename_i hne;have:=htE hne;exact⟨by omega,by omega⟩
 obtain⟨e2,he2,he2',hb1,hb2⟩:=he2
 have hb0:bt z (i+d)=bt b i:=h.same i h0 h1
 have hc:(e2+d<z.size∧(c9 (bt z (e2+d))=true∨(65≤bt z (e2+d)∧bt z (e2+d)≤90)))↔(e2<b.size∧(c9 (bt b e2)=true∨(65≤bt b e2∧bt b e2≤90))):=by
  rcases Int.lt_or_le e2 b.size with hh | hh
  ·rw[h.same e2 (by omega) hh]
   exact⟨fun x=>⟨hh,x.2⟩,fun x=>⟨by omega,x.2⟩⟩
  ·exact⟨fun x=>by omega,fun x=>by omega⟩
 have hdig:(E+d-(i+d)>1∧bt b i=48)↔(E-i>1∧bt b i=48):=by rw[show E+d-(i+d)=E-i by omega]
 unfold js
 simp only[hr,hEd,hby,he2',←he2,hv,hb0,h.cut h0 (by omega:i≤e2) hb2]
 rw[lF]
 exact yX (or_congr (Iff.refl (dS b i 0>9223372036854775807)) (or_congr hdig hc)) _ _
theorem gS.read{b z:ByteArray}{d:Int}(h:gS b z d){i:Int}(h0:0≤i)(h1:i<b.size):kr z (i+d)=(kr b i).shift d:=by
 have hb0:bt z (i+d)=bt b i:=h.same i h0 h1
 have hn:iP z (i+d)=(iP b i).shift d:=by
  have hE:=dU (p:=c9) (s:=b) (i:=i) (by omega)
  unfold iP
  simp only[h.run (p:=c9) (i:=i) h0 (by omega),h.cut h0 hE.1 hE.2,show dh c9 b i+d-(i+d)=dh c9 b i-i by omega]
  rw[lF]
  rfl
 have hm:iQ z (i+d)=(iQ b i).shift d:=by
  have hr:=iH b i
  have hl:=lz h1
  have hmn:dP z (i+d)=dP b i:=by
   unfold dP
   rw[hb0,show i+d+1=i+1+d by omega,h.byte (i:=i+1) (by omega)]
  unfold iQ
  rw[hmn,show i+d+dP b i=i+dP b i+d by omega,h.cut h0 (by omega) hl,lF]
  rfl
 unfold kr
 rw[hb0,h.num h0 h1,hn,hm,lF,lF]
theorem gS.over{b z:ByteArray}{d:Int}(h:gS b z d):∀(n:Nat) (r:Bool) (f:Int),0≤f→f≤b.size→(b.size-f).toNat=n→fT z r (f+d)=fT b r f+d:=by
 have hs:=h.size
 intro n
 induction n with
 | zero =>
   intro r f h0 h1 hn
   rw[gz (by omega),gz (by omega)]
 | succ n ih =>
   intro r f h0 h1 hn
   rw[eb (s:=b) (by omega),eb (s:=z) (by omega),h.same f h0 (by omega)]
   split
   ·rfl
   ·rw[show f+d+1=f+1+d by omega]
    exact ih _ (f+1) (by omega) (by omega) (by omega)
theorem gS.tok{b z:ByteArray}{d:Int}(h:gS b z d){f:Int}(h0:0≤f)(h1:f≤b.size):eJ z (f+d)=(eJ b f).shift d:=by
 have hs:=h.size
 have ho:=eO (s:=b) h1
 have hz:da z (f+d)=da b f+d:=h.over _ false f h0 h1 rfl
 rw[jy,jy,hz]
 by_cases he:da b f=b.size
 ·rw[if_pos (by omega),if_pos he];rfl
 ·rw[if_neg (by omega),if_neg he,h.read (by omega) (by omega)]
theorem uh(s:ByteArray):∀(n:Nat) (f:Int),(jl s n f).1.length≤n
 | 0,f=>Nat.le_refl _
 | n+1,f=>by
   unfold jl
   cases ht:eJ s f with
   | bad e p=>exact Nat.zero_le _
   | ok t =>
     show (if t.kind=0 then ([t],none) else _:List Tok×Option (Int×Int)).1.length≤n+1
     split
     ·exact Nat.succ_le_succ (Nat.zero_le _)
     ·exact Nat.succ_le_succ (uh s n _)
def PF.v(f:PF):Value:=.agg #[.int .i64 f.e,.int .i64 f.pos,.bool f.tok]
structure TF where
 e:Int
 pos:Int
 of:Bool
def Gb:TF:=⟨0,0,false⟩
def TF.v(f:TF):Value:=.agg #[.int .i64 f.e,.int .i64 f.pos,.bool f.of]
theorem cV.clean{P:Program}{f:FuncId}{args:Array Value}{I:cS}{F:cR}{v:Value}(h:cV P f args I F fun e I' G=>e=.returned v∧∃H,G.Perm (H++F)):cV P f args I F (jg v F) :=
 h.keep fun e I' G w hl hs ⟨he,H,hp⟩=>⟨I',F,cS.le_refl _,(hs.perm hp).drop,he,rfl⟩
theorem Part.len{α:Type}{z E n c:Nat}{f:α→List Value}{O:α→cR→Prop}{a:Option Addr}{l:List α}{F F':cR}(h:Part z f E O a n c l F F'):n=l.length:=by
 obtain⟨A,hs,hA,hk,hp⟩:=h;exact hA.1
theorem Bd.app{z:Nat}{ls ms:List (List (Ck z))}(h:Bd ls)(h':Bd ms):Bd (ls++ms):=by
 intro j y hy
 rw[List.getElem?_append] at hy
 split at hy
 ·exact h j y hy
 ·exact h' _ y hy
end Go.Lx
namespace Go.Lx
open Go.Vc Go.Proofs.Tryz
def mz:List (Nat×List Sh):=[(4,[.one .bool]),(9,[.one .str]),(48,[.one (.int .i64)]),(64,[.agg [(.int .u8),(.int .u8),(.int .u8),(.int .i64),(.int .u8),.str,.slc,(.int .i64)]]),(88,[.agg [.str,.slc,(.int .i64)]]),(104,[.agg [.str,(.int .u8),(.int .u8),(.int .u8),(.int .u8),(.int .i64),(.int .u8),.str,.slc,(.int .i64),(.int .i64)]]),(110,[.agg [(.int .u8),(.int .u8),(.int .u8),(.int .i64),(.int .u8),.str,.slc,(.int .i64),.slc,(.int .i64)]]),(114,[.agg [(.int .u8),(.int .u8),.str,(.int .u8),(.int .u8),(.int .u8),(.int .i64),(.int .u8),.str,.slc,(.int .i64),(.int .u8),(.int .u8),(.int .u8),(.int .i64),(.int .u8),.str,.slc,(.int .i64),(.int .u8),(.int .u8),(.int .u8),(.int .i64),(.int .u8),.str,.slc,(.int .i64),(.int .u8),(.int .u8),(.int .u8),(.int .i64),(.int .u8),.str,.slc,(.int .i64),(.int .i64)]])]
def kU.V(b:Nat→Nat×Obj)(vb vi:Int→Value)(vs:Bs→Value)(vl:OA→Nat→Nat→Value)(ah:Bs)(q:OA)(d aj:Nat)(s:OA)(e ak:Nat)(t:OA)(a al:Nat)(I:cS)(F:cR)(Q:cU)(Inv24:Int→Bool→Int→Nat→cS→cR→Prop)(Inv55:Int→Bool→Int→Nat→cS→cR→Prop)(Inv94:Int→Int→Nat→cS→cR→Prop):Prop:=∀c:Nat,fp P 50 #[vs ah] I ((b c)::·) F .bool fun r I1 F1=>(It (!r) (Q (.returned (vi 120)) I1 F1) (Dt ((d:Int)>12) (Q (.returned (vi 121)) I1 F1) ((∃m:Nat,Inv24 0 r 0 m I1 F1)∧∀(x:Int) (ok:Bool) (i:Int) (m1:Nat) (I2:cS) (F2:cR),cS.le I1 I2→Inv24 x ok i m1 I2 F2→(Dt (i<(d:Int)) ((0≤i∧i<(d:Int))∧∃ad:Addr,q=some ad∧∃(u:Bs) (v w y z aa ab:Int) (ac:Bs) (f:OA) (g h:Nat) (ae n:Int),Rd I2 ((b c)::F2) (ad.add (Int.toNat i*11)) [vs u,vb v,vb w,vb y,vb z,vi aa,vb ab,vs ac,vl f g h,vi ae,vi n]∧fp P 51 #[.agg #[vs u,vb v,vb w,vb y,vb z,vi aa,vb ab,vs ac,vl f g h,vi ae,vi n]] I2 ((b c)::·) F2 .bool fun r1 I3 F3=>(It (!r1) (Q (.returned (vi 120)) I3 F3) (∃m2:Nat,m2<m1∧Inv24 x r1 (IntKind.wrap .i64 (i+1)) m2 I3 F3))) (Dt ((e:Int)>4) (Q (.returned (vi 121)) I2 F2) ((∃m3:Nat,Inv55 x ok 0 m3 I2 F2)∧∀(x1:Int) (ai:Bool) (i1:Int) (m4:Nat) (I4:cS) (F4:cR),cS.le I2 I4→Inv55 x1 ai i1 m4 I4 F4→(Dt (i1<(e:Int)) ((0≤i1∧i1<(e:Int))∧∃af:Addr,s=some af∧∃(m5:Bs),Rd I4 ((b c)::F4) ((af.add (Int.toNat i1*2)).add 0) [vs m5]∧fp P 50 #[vs m5] I4 ((b c)::·) F4 .bool fun r2 I5 F5=>(It (!r2) (Q (.returned (vi 120)) I5 F5) (∃m6:Nat,m6<m4∧Inv55 x1 r2 (IntKind.wrap .i64 (i1+1)) m6 I5 F5))) (It ((a:Int)==0) (Q (.returned (vi 120)) I4 F4) (Dt ((a:Int)>12) (Q (.returned (vi 121)) I4 F4) ((∃m7:Nat,Inv94 x1 0 m7 I4 F4)∧∀(x2 i2:Int) (m8:Nat) (I6:cS) (F6:cR),cS.le I4 I6→Inv94 x2 i2 m8 I6 F6→(Dt (i2<(a:Int)) ((0≤i2∧i2<(a:Int))∧∃ag:Addr,t=some ag∧∃(o:Bs) (j:OA) (k l:Nat) (p:Int),Rd I6 ((b c)::F6) (ag.add (Int.toNat i2*3)) [vs o,vl j k l,vi p]∧fp P 52 #[.agg #[vs o,vl j k l,vi p]] I6 ((b c)::·) F6 vi fun r3 I7 F7=>(It (r3 != 0) (Q (.returned (vi r3)) I7 F7) (∃m9:Nat,m9<m8∧Inv94 x2 (IntKind.wrap .i64 (i2+1)) m9 I7 F7))) (Q (.returned (vi 0)) I6 F6))))))))))))
theorem kU.vc{l:Bs}{a:OA}{c d:Nat}{e:OA}{f g:Nat}{i:OA}{j k:Nat}{I:cS}{F:cR}{Q:cU}(Inv24:Int→Bool→Int→Nat→cS→cR→Prop)(Inv55:Int→Bool→Int→Nat→cS→cR→Prop)(Inv94:Int→Int→Nat→cS→cR→Prop)(h:kU.V (fun b=>(b,Obj.cells #[.string l,.slice a c d,.slice e f g,.slice i j k] 43 (0,0))) (.int .u8) (.int .i64) .string .slice l a c d e f g i j k I F Q Inv24 Inv55 Inv94):cV P 21 #[.agg #[.string l,.slice a c d,.slice e f g,.slice i j k]] I F Q :=
 tw (A:=(eM [2001,4003,7004,10001,12003,15004,18001,20003,22003,25004,28001] [] [50,51,52] mz [(24,⟨[(2,(.int .i64)),(3,.bool),(4,(.int .i64))],[],fun _ _ _ vs m I F=>match vs with | [.int _ y0,.bool y1,.int _ y2]=>Inv24 y0 y1 y2 m I F | _=>False,[],[]⟩),(55,⟨[(2,(.int .i64)),(3,.bool),(5,(.int .i64))],[],fun _ _ _ vs m I F=>match vs with | [.int _ y0,.bool y1,.int _ y2]=>Inv55 y0 y1 y2 m I F | _=>False,[],[]⟩),(94,⟨[(2,(.int .i64)),(6,(.int .i64))],[],fun _ _ _ vs m I F=>match vs with | [.int _ y0,.int _ y1]=>Inv94 y0 y1 m I F | _=>False,[],[]⟩)] [] [] [] [] [] [])) [50,51,52] func21 h
def nT.V(a:Nat→Nat×Obj)(vb:Int→Value)(vt:Bool→Value)(g:Bs)(b h i j k l:Int)(m:Bs)(d:OA)(e f:Nat)(n o:Int)(I:cS)(F:cR)(Q:cU)  : Prop:=∀c:Nat,fp P 50 #[.string g] I ((a c)::·) F vt fun r I1 F1=>(It r (Dt (b≥1) (Dt (b≤6) (fp P 98 #[.agg #[vb h,vb i,vb j,.int .i64 k,vb l,.string m,.slice d e f,.int .i64 n]] I1 ((a c)::·) F1 vt fun r1 I2 F2=>Q (.returned (vt r1)) I2 F2) (Q (.returned (vt false)) I1 F1)) (Q (.returned (vt false)) I1 F1)) (Q (.returned (vt false)) I1 F1))
theorem nT.vc{f:Bs}{g i j k l m:Int}{n:Bs}{a:OA}{c d:Nat}{o e:Int}{I:cS}{F:cR}{Q:cU}  (h:nT.V (fun b=>(b,Obj.cells #[.string f,.int .u8 g,.int .u8 i,.int .u8 j,.int .u8 k,.int .i64 l,.int .u8 m,.string n,.slice a c d,.int .i64 o,.int .i64 e] 104 (0,0))) (.int .u8) .bool f g i j k l m n a c d o e I F Q):cV P 51 #[.agg #[.string f,.int .u8 g,.int .u8 i,.int .u8 j,.int .u8 k,.int .i64 l,.int .u8 m,.string n,.slice a c d,.int .i64 o,.int .i64 e]] I F Q :=
 tw (A:=(an [2000,2004,2009] [50,98] mz)) [50,98] func51 h
def kV.V(b:Nat→Nat×Obj)(vb vi:Int→Value)(vl:OA→Nat→Nat→Value)(v:Bs)(k:OA)(a w:Nat)(y:Int)(I:cS)(F:cR)(Q:cU)(Inv24:Int→Int→Nat→cS→cR→Prop):Prop:=∀c:Nat,fp P 50 #[.string v] I ((b c)::·) F .bool fun r I1 F1=>(It (!r) (Q (.returned (vi 120)) I1 F1) (Dt ((a:Int)>12) (Q (.returned (vi 121)) I1 F1) ((∃m:Nat,Inv24 0 0 m I1 F1)∧∀(x i:Int) (m1:Nat) (I2:cS) (F2:cR),cS.le I1 I2→Inv24 x i m1 I2 F2→(Dt (i<(a:Int)) ((0≤i∧i<(a:Int))∧∃ad:Addr,k=some ad∧∃(l n o p q:Int) (s:Bs) (d:OA) (e f:Nat) (t:Int) (g:OA) (h j:Nat) (u:Int),Rd I2 ((b c)::F2) (ad.add (Int.toNat i*10)) [vb l,vb n,vb o,vi p,vb q,.string s,vl d e f,vi t,vl g h j,vi u]∧fp P 99 #[.agg #[vb l,vb n,vb o,vi p,vb q,.string s,vl d e f,vi t,vl g h j,vi u]] I2 ((b c)::·) F2 vi fun r1 I3 F3=>(It (r1 != 0) (Q (.returned (vi r1)) I3 F3) (∃m2:Nat,m2<m1∧Inv24 x (IntKind.wrap .i64 (i+1)) m2 I3 F3))) (Q (.returned (vi 0)) I2 F2)))))
theorem kV.vc{e:Bs}{a:OA}{c d:Nat}{f:Int}{I:cS}{F:cR}{Q:cU}(Inv24:Int→Int→Nat→cS→cR→Prop)(h:kV.V (fun b=>(b,Obj.cells #[.string e,.slice a c d,.int .i64 f] 88 (0,0))) (.int .u8) (.int .i64) .slice e a c d f I F Q Inv24):cV P 52 #[.agg #[.string e,.slice a c d,.int .i64 f]] I F Q :=
 tw (A:=(eM [2001,4003,7004,10001] [] [50,99] mz [(24,⟨[(2,(.int .i64)),(4,(.int .i64))],[],fun _ _ _ vs m I F=>match vs with | [.int _ y0,.int _ y1]=>Inv24 y0 y1 m I F | _=>False,[],[]⟩)] [] [] [] [] [] [])) [50,99] func52 h
def mB.V(b:Nat→Nat×Obj)(vb vi:Int→Value)(vs:Bs→Value)(vl:OA→Nat→Nat→Value)(aG aH aI aJ aK:Int)(aL:Bs)(ar:OA)(au av:Nat)(aM:Int)(aw:OA)(a aN:Nat)(aO:Int)(I:cS)(F:cR)(Q:cU)(Inv32:Int→Int→Int→Nat→cS→cR→Prop):Prop:=∀n:Nat,fp P 120 #[.agg #[vb aG,vb aH,vb aI,vi aJ,vb aK,vs aL,vl ar au av,vi aM]] I ((b n)::·) F vi fun r I1 F1=>(It (r != 0) (Q (.returned (vi r)) I1 F1) (It ((a:Int)==0) (Q (.returned (vi 120)) I1 F1) (Dt ((a:Int)>8) (Q (.returned (vi 121)) I1 F1) ((∃m:Nat,Inv32 0 r 0 m I1 F1)∧∀(x e2 i:Int) (m1:Nat) (I2:cS) (F2:cR),cS.le I1 I2→Inv32 x e2 i m1 I2 F2→(Dt (i<(a:Int)) ((0≤i∧i<(a:Int))∧∃ad:Addr,aw=some ad∧∃(ax ay:Int) (az:Bs) (aA aB aC aD aE:Int) (aF:Bs) (o:OA) (p q:Nat) (s t u v w y:Int) (z:Bs) (c:OA) (d e:Nat) (aa ab ac ae af ag:Int) (ah:Bs) (f:OA) (g h:Nat) (ai aj ak al am an:Int) (ao:Bs) (j:OA) (k l:Nat) (ap aq:Int),Rd I2 ((b n)::F2) (ad.add (Int.toNat i*36)) [vb ax,vb ay,vs az,vb aA,vb aB,vb aC,vi aD,vb aE,vs aF,vl o p q,vi s,vb t,vb u,vb v,vi w,vb y,vs z,vl c d e,vi aa,vb ab,vb ac,vb ae,vi af,vb ag,vs ah,vl f g h,vi ai,vb aj,vb ak,vb al,vi am,vb an,vs ao,vl j k l,vi ap,vi aq]∧fp P 121 #[.agg #[vb ax,vb ay,vs az,vb aA,vb aB,vb aC,vi aD,vb aE,vs aF,vl o p q,vi s,vb t,vb u,vb v,vi w,vb y,vs z,vl c d e,vi aa,vb ab,vb ac,vb ae,vi af,vb ag,vs ah,vl f g h,vi ai,vb aj,vb ak,vb al,vi am,vb an,vs ao,vl j k l,vi ap,vi aq]] I2 ((b n)::·) F2 vi fun r1 I3 F3=>(It (r1 != 0) (Q (.returned (vi r1)) I3 F3) (∃m2:Nat,m2<m1∧Inv32 x r1 (IntKind.wrap .i64 (i+1)) m2 I3 F3))) (Q (.returned (vi 0)) I2 F2))))))
theorem mB.vc{i j k l n:Int}{o:Bs}{a:OA}{c d:Nat}{p:Int}{e:OA}{f g:Nat}{q:Int}{I:cS}{F:cR}{Q:cU}(Inv32:Int→Int→Int→Nat→cS→cR→Prop)(h:mB.V (fun b=>(b,Obj.cells #[.int .u8 i,.int .u8 j,.int .u8 k,.int .i64 l,.int .u8 n,.string o,.slice a c d,.int .i64 p,.slice e f g,.int .i64 q] 110 (0,0))) (.int .u8) (.int .i64) .string .slice i j k l n o a c d p e f g q I F Q Inv32):cV P 99 #[.agg #[.int .u8 i,.int .u8 j,.int .u8 k,.int .i64 l,.int .u8 n,.string o,.slice a c d,.int .i64 p,.slice e f g,.int .i64 q]] I F Q :=
 tw (A:=(eM [2001,4003,6003,9004,12001] [] [120,121] mz [(32,⟨[(2,(.int .i64)),(3,(.int .i64)),(4,(.int .i64))],[],fun _ _ _ vs m I F=>match vs with | [.int _ y0,.int _ y1,.int _ y2]=>Inv32 y0 y1 y2 m I F | _=>False,[],[]⟩)] [] [] [] [] [] [])) [120,121] func99 h
def pL.V(a:Nat→Nat×Obj)(nV:Int→Int→Int→Int→Int→Bs→OA→Nat→Nat→Int→Value)(vi:Int→Value)(vl:OA→Nat→Nat→Value)(vt:Bool→Value)(d k:Int)(ab:Bs)(aE aF aG aH aI:Int)(aJ:Bs)(an:OA)(ao ap:Nat)(aD ag ah ai aj ak:Int)(al:Bs)(ac:OA)(ad ae:Nat)(am l m n o p:Int)(q:Bs)(e:OA)(f g:Nat)(s t u v w y:Int)(z:Bs)(h:OA)(i j:Nat)(aa aX:Int)(I:cS)(F:cR)(Q:cU)(Inv6:Int→cS→cR→Prop)(Inv14:Int→cS→cR→Prop)(Inv24:Int→cS→cR→Prop):Prop:=∀c:Nat,((Dt (d<1) (Q (.returned (vi 120)) I F) (Dt (d>6) (Q (.returned (vi 120)) I F) (Inv6 0 I F))))∧∀(x:Int) (I1:cS) (F1:cR),cS.le I I1→Inv6 x I1 F1→((It (d==1) (Dt (k<1) (Q (.returned (vi 120)) I1 F1) (Dt (k>5) (Q (.returned (vi 120)) I1 F1) (It (!(d==1)) (It (k != 0) (Q (.returned (vi 120)) I1 F1) (Inv14 x I1 F1)) (Inv14 x I1 F1)))) (It (!(d==1)) (It (k != 0) (Q (.returned (vi 120)) I1 F1) (Inv14 x I1 F1)) (Inv14 x I1 F1))))∧∀(x1:Int) (I2:cS) (F2:cR),cS.le I1 I2→Inv14 x1 I2 F2→fp P 50 #[.string ab] I2 ((a c)::·) F2 vt fun r I3 F3=>((It (d==6) (It (!(ab.toList==(⟨#[]⟩:Bs).toList)) (Q (.returned (vi 120)) I3 F3) (It (d != 6) (It (!r) (It (d==1) (It (!(ab.toList==(⟨#[]⟩:Bs).toList)) (Q (.returned (vi 120)) I3 F3) (Inv24 x1 I3 F3)) (It true (Q (.returned (vi 120)) I3 F3) (Inv24 x1 I3 F3))) (Inv24 x1 I3 F3)) (Inv24 x1 I3 F3))) (It (d != 6) (It (!r) (It (d==1) (It (!(ab.toList==(⟨#[]⟩:Bs).toList)) (Q (.returned (vi 120)) I3 F3) (Inv24 x1 I3 F3)) (It true (Q (.returned (vi 120)) I3 F3) (Inv24 x1 I3 F3))) (Inv24 x1 I3 F3)) (Inv24 x1 I3 F3))))∧∀(x2:Int) (I4:cS) (F4:cR),cS.le I3 I4→Inv24 x2 I4 F4→fp P 132 (#[vt (d==1),nV aE aF aG aH aI aJ an ao ap aD]) I4 ((a c)::·) F4 vi fun r1 I5 F5=>(It (d==1) (fp P 132 #[vt true,nV ag ah ai aj ak al ac ad ae am] I5 ((a c)::·) F5 vi fun r2 I6 F6=>(It (d==1) (It (k != 2) (fp P 132 #[vt true,nV l m n o p q e f g s] I6 ((a c)::·) F6 vi fun r3 I7 F7=>fp P 132 (#[vt (d==4),nV t u v w y z h i j aa]) I7 ((a c)::·) F7 vi fun r4 I8 F8=>∀(b:Nat) (I9:cS),cS.le I8 I9→I9 b=some (Obj.cells #[vi r1,vi r2,vi r3,vi r4] 48 (0,0))→fp P 133 (#[vl (some ⟨b,0,none⟩) 4 4]) I9 ((a c)::·) F8 vi fun r5 I10 F9=>Q (.returned (vi r5)) I10 F9) (fp P 132 (#[vt (d==2),nV l m n o p q e f g s]) I6 ((a c)::·) F6 vi fun r6 I11 F10=>fp P 132 (#[vt (d==4),nV t u v w y z h i j aa]) I11 ((a c)::·) F10 vi fun r7 I12 F11=>∀(b1:Nat) (I13:cS),cS.le I12 I13→I13 b1=some (Obj.cells #[vi r1,vi r2,vi r6,vi r7] 48 (0,0))→fp P 133 (#[vl (some ⟨b1,0,none⟩) 4 4]) I13 ((a c)::·) F11 vi fun r8 I14 F12=>Q (.returned (vi r8)) I14 F12)) (fp P 132 (#[vt (d==2),nV l m n o p q e f g s]) I6 ((a c)::·) F6 vi fun r9 I15 F13=>fp P 132 (#[vt (d==4),nV t u v w y z h i j aa]) I15 ((a c)::·) F13 vi fun aq I16 F14=>∀(b2:Nat) (I17:cS),cS.le I16 I17→I17 b2=some (Obj.cells #[vi r1,vi r2,vi r9,vi aq] 48 (0,0))→fp P 133 (#[vl (some ⟨b2,0,none⟩) 4 4]) I17 ((a c)::·) F14 vi fun ar I18 F15=>Q (.returned (vi ar)) I18 F15))) (fp P 132 (#[vt (d==2),nV ag ah ai aj ak al ac ad ae am]) I5 ((a c)::·) F5 vi fun af I19 F16=>(It (d==1) (It (k != 2) (fp P 132 #[vt true,nV l m n o p q e f g s] I19 ((a c)::·) F16 vi fun au I20 F17=>fp P 132 (#[vt (d==4),nV t u v w y z h i j aa]) I20 ((a c)::·) F17 vi fun av I21 F18=>∀(b3:Nat) (I22:cS),cS.le I21 I22→I22 b3=some (Obj.cells #[vi r1,vi af,vi au,vi av] 48 (0,0))→fp P 133 (#[vl (some ⟨b3,0,none⟩) 4 4]) I22 ((a c)::·) F18 vi fun aw I23 F19=>Q (.returned (vi aw)) I23 F19) (fp P 132 (#[vt (d==2),nV l m n o p q e f g s]) I19 ((a c)::·) F16 vi fun ax I24 F20=>fp P 132 (#[vt (d==4),nV t u v w y z h i j aa]) I24 ((a c)::·) F20 vi fun ay I25 F21=>∀(b4:Nat) (I26:cS),cS.le I25 I26→I26 b4=some (Obj.cells #[vi r1,vi af,vi ax,vi ay] 48 (0,0))→fp P 133 (#[vl (some ⟨b4,0,none⟩) 4 4]) I26 ((a c)::·) F21 vi fun az I27 F22=>Q (.returned (vi az)) I27 F22)) (fp P 132 (#[vt (d==2),nV l m n o p q e f g s]) I19 ((a c)::·) F16 vi fun aA I28 F23=>fp P 132 (#[vt (d==4),nV t u v w y z h i j aa]) I28 ((a c)::·) F23 vi fun aB I29 F24=>∀(b5:Nat) (I30:cS),cS.le I29 I30→I30 b5=some (Obj.cells #[vi r1,vi af,vi aA,vi aB] 48 (0,0))→fp P 133 (#[vl (some ⟨b5,0,none⟩) 4 4]) I30 ((a c)::·) F24 vi fun aC I31 F25=>Q (.returned (vi aC)) I31 F25))))
theorem pL.vc{ay az:Int}{aA:Bs}{aB aC aD aE aF:Int}{aG:Bs}{w:OA}{x y:Nat}{z aa ab ac ad ae:Int}{af:Bs}{d:OA}{e g:Nat}{ag ah ai aj ak al:Int}{am:Bs}{i:OA}{j p:Nat}{an ao ap aq ar au:Int}{av:Bs}{r:OA}{u v:Nat}{aw ax:Int}{I:cS}{F:cR}{Q:cU}(Inv6:Int→cS→cR→Prop)(Inv14:Int→cS→cR→Prop)(Inv24:Int→cS→cR→Prop)(h:pL.V (fun b=>(b,Obj.cells #[.int .u8 ay,.int .u8 az,.string aA,.int .u8 aB,.int .u8 aC,.int .u8 aD,.int .i64 aE,.int .u8 aF,.string aG,.slice w x y,.int .i64 z,.int .u8 aa,.int .u8 ab,.int .u8 ac,.int .i64 ad,.int .u8 ae,.string af,.slice d e g,.int .i64 ag,.int .u8 ah,.int .u8 ai,.int .u8 aj,.int .i64 ak,.int .u8 al,.string am,.slice i j p,.int .i64 an,.int .u8 ao,.int .u8 ap,.int .u8 aq,.int .i64 ar,.int .u8 au,.string av,.slice r u v,.int .i64 aw,.int .i64 ax] 114 (0,0))) (fun k o t n f s a l c q=>.agg #[.int .u8 k,.int .u8 o,.int .u8 t,.int .i64 n,.int .u8 f,.string s,.slice a l c,.int .i64 q]) (.int .i64) .slice .bool ay az aA aB aC aD aE aF aG w x y z aa ab ac ad ae af d e g ag ah ai aj ak al am i j p an ao ap aq ar au av r u v aw ax I F Q Inv6 Inv14 Inv24):cV P 121 #[.agg #[.int .u8 ay,.int .u8 az,.string aA,.int .u8 aB,.int .u8 aC,.int .u8 aD,.int .i64 aE,.int .u8 aF,.string aG,.slice w x y,.int .i64 z,.int .u8 aa,.int .u8 ab,.int .u8 ac,.int .i64 ad,.int .u8 ae,.string af,.slice d e g,.int .i64 ag,.int .u8 ah,.int .u8 ai,.int .u8 aj,.int .i64 ak,.int .u8 al,.string am,.slice i j p,.int .i64 an,.int .u8 ao,.int .u8 ap,.int .u8 aq,.int .i64 ar,.int .u8 au,.string av,.slice r u v,.int .i64 aw,.int .i64 ax]] I F Q :=
 tw (A:=(eM [3002,3006,5000,5004,5008,5013,5017,8002,8006,8011,8014,8017,8023,11000,12000,12004] [] [50,132,133] mz [(6,⟨[(2,(.int .i64))],[],fun _ _ _ vs m I F=>match vs with | [.int _ y0]=>Inv6 y0 I F | _=>False,[],[]⟩),(14,⟨[(2,(.int .i64))],[],fun _ _ _ vs m I F=>match vs with | [.int _ y0]=>Inv14 y0 I F | _=>False,[],[]⟩),(24,⟨[(2,(.int .i64))],[],fun _ _ _ vs m I F=>match vs with | [.int _ y0]=>Inv24 y0 I F | _=>False,[],[]⟩)] [14004] [] [] [] [] [])) [50,132,133] func121 h
def kW.V(vi:Int→Value)(b:OA)(a d:Nat)(I:cS)(F:cR)(Q:cU)(Inv6:Int→Int→Nat→cS→cR→Prop):Prop:=(∃m:Nat,Inv6 0 0 m I F)∧∀(x i:Int) (m1:Nat) (I1:cS) (F1:cR),cS.le I I1→Inv6 x i m1 I1 F1→(Dt (i<(a:Int)) ((0≤i∧i<(a:Int))∧∃ad:Addr,b=some ad∧∃(m2:Int),Rd I1 F1 (ad.add (Int.toNat i*1)) [vi m2]∧(It (m2 != 0) ((0≤i∧i<(a:Int))∧∃c:Addr,b=some c∧∃(m3:Int),Rd I1 F1 (c.add (Int.toNat i*1)) [vi m3]∧Q (.returned (vi m3)) I1 F1) (∃m4:Nat,m4<m1∧Inv6 x (IntKind.wrap .i64 (i+1)) m4 I1 F1))) (Q (.returned (vi 0)) I1 F1))
theorem kW.vc{a:OA}{b c:Nat}{I:cS}{F:cR}{Q:cU}(Inv6:Int→Int→Nat→cS→cR→Prop)(h:kW.V (.int .i64) a b c I F Q Inv6):cV P 133 #[.slice a b c] I F Q :=
 tw (A:=(eM [2003,4004] [] [] mz [(6,⟨[(2,(.int .i64)),(3,(.int .i64))],[],fun _ _ _ vs m I F=>match vs with | [.int _ y0,.int _ y1]=>Inv6 y0 y1 m I F | _=>False,[],[]⟩)] [] [] [] [] [] [])) [] func133 h
def mC.V(a:Nat→Nat×Obj)(nV:Int→Int→Int→Int→Int→Bs→OA→Nat→Nat→Int→Value)(vi:Int→Value)(b:Bool)(g h i j k:Int)(l:Bs)(c:OA)(d e:Nat)(m:Int)(I:cS)(F:cR)(Q:cU)  : Prop:=∀f:Nat,(It b (fp P 120 #[nV g h i j k l c d e m] I ((a f)::·) F vi fun r I1 F1=>Q (.returned (vi r)) I1 F1) (fp P 148 #[nV g h i j k l c d e m] I ((a f)::·) F .bool fun r1 I2 F2=>(It (!r1) (Q (.returned (vi 120)) I2 F2) (Q (.returned (vi 0)) I2 F2))))
theorem mC.vc{i:Bool}{j m p r u:Int}{v:Bs}{d:OA}{e g:Nat}{w:Int}{I:cS}{F:cR}{Q:cU}  (h:mC.V (fun b=>(b,Obj.cells #[.int .u8 j,.int .u8 m,.int .u8 p,.int .i64 r,.int .u8 u,.string v,.slice d e g,.int .i64 w] 64 (0,0))) (fun k o t n f s a l c q=>.agg #[.int .u8 k,.int .u8 o,.int .u8 t,.int .i64 n,.int .u8 f,.string s,.slice a l c,.int .i64 q]) (.int .i64) i j m p r u v d e g w I F Q):cV P 132 #[.bool i,.agg #[.int .u8 j,.int .u8 m,.int .u8 p,.int .i64 r,.int .u8 u,.string v,.slice d e g,.int .i64 w]] I F Q :=
 tw (A:=(an [1000,4001] [120,148] mz)) [120,148] func132 h
def mD.V(nO:Int→Int→Int→Int→Int→Bs→OA→Nat→Nat→Int→Obj)(vb:Int→Value)(vt:Bool→Value)(d e f g h:Int)(i:Bs)(b:OA)(a c:Nat)(j:Int)(I:cS)(F:cR)(Q:cU)  : Prop:=∀k:Nat,(It (d==0) (fp P 146 #[.agg #[vb d,vb e,vb f,.int .i64 g,vb h,.string i,.slice b a c,.int .i64 j]] I ((k,nO d e f g h i b a c j)::·) F vt fun r I1 F1=>(It r (Q (.returned (vt ((a:Int)==0))) I1 F1) (Q (.returned (vt false)) I1 F1))) (Q (.returned (vt false)) I F))
theorem mD.vc{g i j m p:Int}{r:Bs}{b:OA}{d e:Nat}{u:Int}{I:cS}{F:cR}{Q:cU}  (h:mD.V (fun k o t n f s a l c q=>.cells #[.int .u8 k,.int .u8 o,.int .u8 t,.int .i64 n,.int .u8 f,.string s,.slice a l c,.int .i64 q] 64 (0,0)) (.int .u8) .bool g i j m p r b d e u I F Q):cV P 148 #[.agg #[.int .u8 g,.int .u8 i,.int .u8 j,.int .i64 m,.int .u8 p,.string r,.slice b d e,.int .i64 u]] I F Q :=
 tw (A:=(an [1002,1005] [146] mz)) [146] func148 h
def jV.V(b:Nat→Nat×Obj)(nV:Int→Int→Int→Int→Int→Bs→OA→Nat→Nat→Int→Value)(nO:Int→Int→Int→Int→Int→Bs→OA→Nat→Nat→Int→Obj)(vb:Int→Value)(vt:Bool→Value)(c g l m n:Int)(o:Bs)(d:OA)(a f:Nat)(p:Int)(I:cS)(F:cR)(Q:cU)  : Prop:=∀e:Nat,(It (c==5) (It (g==1) (It ((a:Int)==1) ((0≤(0:Int)∧(0:Int)<(a:Int))∧∃ad:Addr,d=some ad∧∃(k s q t u:Int) (v:Bs) (h:OA) (i j:Nat) (w:Int),Rd I ((b e)::F) (ad.add (Int.toNat 0*8)) [vb k,vb s,vb q,.int .i64 t,vb u,.string v,.slice h i j,.int .i64 w]∧∀x:Nat,fp P 119 #[nV c g l m n o d a f p] I ((b e)::(x,nO k s q t u v h i j w)::·) F vt fun r I1 F1=>(It r (It (k==1) (Q (.returned (vt (decide (q≤4)))) I1 F1) (Q (.returned (vt false)) I1 F1)) (Q (.returned (vt false)) I1 F1))) (fp P 119 #[nV c g l m n o d a f p] I ((b e)::·) F vt fun r1 I2 F2=>(It r1 (Q (.returned (vt (c==1))) I2 F2) (Q (.returned (vt false)) I2 F2)))) (fp P 119 #[nV c g l m n o d a f p] I ((b e)::·) F vt fun r2 I3 F3=>(It r2 (Q (.returned (vt (c==1))) I3 F3) (Q (.returned (vt false)) I3 F3)))) (fp P 119 #[nV c g l m n o d a f p] I ((b e)::·) F vt fun r3 I4 F4=>(It r3 (Q (.returned (vt (c==1))) I4 F4) (Q (.returned (vt false)) I4 F4))))
theorem jV.vc{i j m p r:Int}{u:Bs}{d:OA}{e g:Nat}{v:Int}{I:cS}{F:cR}{Q:cU}  (h:jV.V (fun b=>(b,Obj.cells #[.int .u8 i,.int .u8 j,.int .u8 m,.int .i64 p,.int .u8 r,.string u,.slice d e g,.int .i64 v] 64 (0,0))) (fun k o t n f s a l c q=>.agg #[.int .u8 k,.int .u8 o,.int .u8 t,.int .i64 n,.int .u8 f,.string s,.slice a l c,.int .i64 q]) (fun k o t n f s a l c q=>.cells #[.int .u8 k,.int .u8 o,.int .u8 t,.int .i64 n,.int .u8 f,.string s,.slice a l c,.int .i64 q] 64 (0,0)) (.int .u8) .bool i j m p r u d e g v I F Q):cV P 98 #[.agg #[.int .u8 i,.int .u8 j,.int .u8 m,.int .i64 p,.int .u8 r,.string u,.slice d e g,.int .i64 v]] I F Q :=
 tw (A:=(an [1002,1006,1012,3001,3005,4001] [119] mz)) [119] func98 h
end Go.Lx
