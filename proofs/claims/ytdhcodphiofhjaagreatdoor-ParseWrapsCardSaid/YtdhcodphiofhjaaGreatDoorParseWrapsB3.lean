import Derived.Test.YtdhcodphiofhjaaGreatDoorParseWrapsB2
set_option linter.unusedVariables false
set_option linter.unusedSimpArgs false
set_option linter.unusedSectionVars false
set_option maxRecDepth 100000
namespace Go.Lx
open Go.Vc
theorem xD{c:Int}(h:dh c=true):IntKind.wrap .u64 (IntKind.wrap .u8 (c-48))=c-48∧48≤c∧c≤57:=by
 simp only[dh,Bool.and_eq_true,decide_eq_true_eq] at h
 rw[w8 (by omega),zG (by omega)]
 exact⟨rfl,h⟩
theorem sZ{s:ByteArray}(hs:dz s){i:Int}(h0:0≤i)(h1:i<s.size)(I:cS)(F:cR):cU P 57 #[.string s,.int .i64 i] I F (kj (jc s i).v2 F):=by
 have hs':=hs
 unfold dz at hs'
 have hE:=eP (p:=dh) (s:=s) (i:=i) (by omega)
 generalize hEd:dy dh s i=E at hE
 let e2:Int:=if dV (cZ s E)=1 then E else E+1
 have hbad:(dU s i 0>9223372036854775807∨(E-i>1∧bt s i=48)∨(e2<s.size∧(dF (bt s e2)=true∨(65≤bt s e2∧bt s e2≤90)))) →
   (jc s i).v2=.tuple #[(jm 0).v,.int .i64 113]:=fun h=>by
  unfold jc;simp only[hEd];rw[if_pos h];rfl
 have hok:¬(dU s i 0>9223372036854775807∨(E-i>1∧bt s i=48)∨(e2<s.size∧(dF (bt s e2)=true∨(65≤bt s e2∧bt s e2≤90)))) →
   (jc s i).v2=.tuple #[(⟨3,cut s i e2,dV (cZ s E),dU s i 0,i⟩:Tok).v,.int .i64 0]:=fun h=>by
  unfold jc;simp only[hEd];rw[if_neg h];rfl
 have he2r:e2≤s.size∧E≤e2∧e2≤E+1:=by
  show (if dV (cZ s E)=1 then E else E+1)≤_∧_≤(if dV (cZ s E)=1 then E else E+1)∧(if dV (cZ s E)=1 then E else E+1)≤_
  split
  ·omega
  ·rename_i hne
   have:E<s.size:=by
    rcases Int.lt_or_le E s.size with h | h
    ·exact h
    ·rw[show cZ s E=0 by unfold cZ;rw[if_neg (by omega)]] at hne
     exact absurd rfl hne
   omega
 refine jq.vc (fun x en n b0 b1 b2 b3 b4 I' F'=>en=E∧n=dU s i 0∧F'=F)
  (fun x j n b0 b1 b2 b3 b4 m I' F'=>i≤j∧j≤E∧m=(E-j).toNat∧0≤n∧n≤18446744073709551615∧dy dh s j=E∧dU s j n=dU s i 0∧F'=F)
  (fun x b0 b1 b2 b3 b4 I' F'=>¬(E-i>1∧bt s i=48)∧¬dU s i 0>9223372036854775807∧F'=F)
  (fun t0 t1 t2 t3 t4 I' F'=>t0=3∧t2=(if cZ s E=113 then 2 else 1)∧t3=dU s i 0∧t4=i∧F'=F)
  (fun t0 t1 t2 t3 t4 I' F'=>t0=3∧t2=(if cZ s E=112 then 3 else if cZ s E=113 then 2 else 1)∧t3=dU s i 0∧t4=i∧F'=F)
  (fun t0 t1 t2 t3 t4 I' F'=>t0=3∧t2=dV (cZ s E)∧t3=dU s i 0∧t4=i∧F'=F)
  (fun en I' F'=>en=e2∧F'=F) ?_
 unfold jq.V
 intro b b_t
 refine⟨⟨⟨_,by omega,by omega,rfl,by omega,by omega,hEd,rfl,rfl⟩, ?_⟩, ?_⟩
 ·intro x j n b0 b1 b2 b3 b4 m I1 F1 hI1 ⟨g0,g1,gm,gn0,gn1,gr,gv,gF⟩
  subst gF
  refine⟨fun hlt=>?_,fun hlt=>?_⟩
  ·have hlt:j<s.size:=of_decide_eq_true hlt
   refine⟨⟨by omega,hlt⟩, ?_⟩
   refine cU.ret (lG (bt s j) I1 _) fun I2 hI2=>⟨_,rfl,F1,.refl _,fun hd=>?_,fun hd=>?_⟩
   ·obtain⟨hw,hc0,hc1⟩:=xD hd
    rw[dx hlt,if_pos hd] at gr
    rw[gy hlt,if_pos hd] at gv
    have hr2:=eP (p:=dh) (s:=s) (i:=j+1) (by omega)
    refine⟨fun hgt=>⟨?_,rfl⟩,fun hgt=>⟨⟨by omega,hlt⟩, ?_⟩⟩
    ·refine (congrArg Ending.returned (hbad (.inl ?_)).symm)
     have hgt:=of_decide_eq_true hgt
     have:=qA (s:=s) (i:=j+1) (v:=10*n+(bt s j-48)) (by omega)
     omega
    ·have hgt:=of_decide_eq_false hgt
     rw[hw,zG (n:=10*n) (by omega),zG (n:=10*n+_) (by omega),gS (by omega)]
     exact⟨_,by omega,by omega,by omega,rfl,by omega,by omega,gr,gv,rfl⟩
   ·rw[dx hlt,if_neg (by rw[hd];exact Bool.false_ne_true)] at gr
    rw[gy hlt,if_neg (by rw[hd];exact Bool.false_ne_true)] at gv
    exact⟨gr,gv,rfl⟩
  ·have hlt:¬j<s.size:=of_decide_eq_false hlt
   rw[jy (by omega)] at gr
   rw[lW (by omega)] at gv
   exact⟨gr,gv,rfl⟩
 intro x en n b0 b1 b2 b3 b4 I3 F3 hI3 ⟨hen,hn,hF3⟩
 subst hen hF3
 rw[gS (n:=en-i) (by omega)]
 refine⟨⟨fun h=>⟨?_,rfl⟩,fun h=>⟨fun hl=>⟨⟨h0,h1⟩,fun h48=>⟨?_,rfl⟩,fun h48=>⟨?_, ?_,rfl⟩⟩,fun hl=>⟨?_, ?_,rfl⟩⟩⟩, ?_⟩
 ·exact congrArg Ending.returned (hbad (.inl (by have:=of_decide_eq_true h;omega))).symm
 ·exact congrArg Ending.returned (hbad (.inr (.inl ⟨of_decide_eq_true hl,by simpa using h48⟩))).symm
 ·intro hc;rw[hc.2] at h48;simp at h48
 ·have:=of_decide_eq_false h;omega
 ·intro hc;exact absurd hc.1 (of_decide_eq_false hl)
 ·have:=of_decide_eq_false h;omega
 intro x2 c0 c1 c2 c3 c4 I4 F4 hI4 ⟨hz,nov,hF4⟩
 subst hF4
 have hv0:=qA (s:=s) (i:=i) (v:=0) (by omega)
 rw[gS (n:=n) (by omega)]
 have hpos:en<s.size→cZ s en=bt s en:=fun h=>by unfold cZ;rw[if_pos h]
 have hneg:¬en<s.size→cZ s en=0:=fun h=>by unfold cZ;rw[if_neg h]
 refine⟨⟨fun hl=>⟨⟨by omega,of_decide_eq_true hl⟩,fun h=>⟨rfl, ?_,hn,rfl,rfl⟩,fun h=>⟨rfl, ?_,hn,rfl,rfl⟩⟩,fun hl=>⟨rfl, ?_,hn,rfl,rfl⟩⟩, ?_⟩
 ·rw[hpos (of_decide_eq_true hl),if_pos (by simpa using h)]
 ·rw[hpos (of_decide_eq_true hl),if_neg (by simpa using h)]
 ·rw[hneg (of_decide_eq_false hl)];rfl
 intro t0 t1 t2 t3 t4 I5 F5 hI5 ⟨ht0,ht2,ht3,ht4,hF5⟩
 subst hF5
 refine⟨⟨fun hl=>⟨⟨by omega,of_decide_eq_true hl⟩,fun h=>⟨ht0, ?_,ht3,ht4,rfl⟩,fun h=>⟨ht0, ?_,ht3,ht4,rfl⟩⟩,fun hl=>⟨ht0, ?_,ht3,ht4,rfl⟩⟩, ?_⟩
 ·rw[hpos (of_decide_eq_true hl),if_pos (by simpa using h)]
 ·rw[ht2,hpos (of_decide_eq_true hl),if_neg (c:=bt s en=112) (by simpa using h)]
 ·rw[ht2,hneg (of_decide_eq_false hl)];rfl
 clear ht0 ht2 ht3 ht4
 intro t0 t1 t2 t3 t4 I6 F6 hI6 ⟨ht0,ht2,ht3,ht4,hF6⟩
 subst hF6
 refine⟨⟨fun hl=>⟨⟨by omega,of_decide_eq_true hl⟩,fun h=>⟨ht0, ?_,ht3,ht4,rfl⟩,fun h=>⟨ht0, ?_,ht3,ht4,rfl⟩⟩,fun hl=>⟨ht0, ?_,ht3,ht4,rfl⟩⟩, ?_⟩
 ·unfold dV;rw[hpos (of_decide_eq_true hl),if_pos (by simpa using h)]
 ·unfold dV;rw[ht2,hpos (of_decide_eq_true hl),if_neg (c:=bt s en=116) (by simpa using h)]
 ·unfold dV;rw[ht2,hneg (of_decide_eq_false hl)];rfl
 clear ht0 ht2 ht3 ht4
 intro u0 u1 u2 u3 u4 I7 F7 hI7 ⟨hu0,hu2,hu3,hu4,hF7⟩
 subst hu0 hu2 hF7
 obtain rfl:i=u4:=hu4.symm
 refine⟨⟨fun h=>⟨?_,rfl⟩,fun h=>⟨?_,rfl⟩⟩, ?_⟩
 ·show _=if dV (cZ s en)=1 then en else en+1
  rw[if_neg (by simpa using h),gS (by omega)]
 ·show _=if dV (cZ s en)=1 then en else en+1
  rw[if_pos (by simpa using h)]
 intro e3 I8 F8 hI8 ⟨he3,hF8⟩
 subst he3 hF8
 have okk:¬(e2<s.size∧(dF (bt s e2)=true∨(65≤bt s e2∧bt s e2≤90))) →
   (0≤i∧i≤e2∧e2≤(s.size:Int))∧∀(J:cS),kj (jc s i).v2 F8 (.returned (Value.tuple #[Value.agg #[Value.int .u8 3,Value.string (s.extract (Int.toNat (i)) (Int.toNat (e2))),Value.int .u8 (dV (cZ s en)),Value.int .i64 u3,Value.int .i64 i],Value.int .i64 0])) J F8:=fun h=>by
  refine⟨by omega,fun J=>⟨?_,rfl⟩⟩
  rw[hok (fun h'=>h'.elim nov fun h'=>h'.elim hz h),hu3]
  rfl
 refine⟨fun hl=>⟨⟨by omega,of_decide_eq_true hl⟩, ?_⟩,fun hl=>?_⟩
 ·have hl:=of_decide_eq_true hl
  refine cU.ret (qE (bt s e2) I8 _) fun I9 hI9=>⟨_,rfl,F8,.refl _,fun hi=>⟨?_,rfl⟩,fun hi=>⟨⟨by omega,hl⟩,fun h65=>⟨⟨by omega,hl⟩,fun h90=>⟨?_,rfl⟩,fun h90=>?_⟩,fun h65=>?_⟩⟩
  ·exact congrArg Ending.returned (hbad (.inr (.inr ⟨hl,.inl hi⟩))).symm
  ·exact congrArg Ending.returned (hbad (.inr (.inr ⟨hl,.inr ⟨of_decide_eq_true h65,of_decide_eq_true h90⟩⟩))).symm
  ·obtain⟨a1,a2⟩:=okk (fun h=>h.2.elim (fun h=>by rw[hi] at h;cases h) fun h=>of_decide_eq_false h90 h.2)
   exact⟨a1,a2 _⟩
  ·obtain⟨a1,a2⟩:=okk (fun h=>h.2.elim (fun h=>by rw[hi] at h;cases h) fun h=>of_decide_eq_false h65 h.1)
   exact⟨a1,a2 _⟩
 ·obtain⟨a1,a2⟩:=okk (fun h=>of_decide_eq_false hl h.1)
  exact⟨a1,a2 _⟩
def iP:List ByteArray:=[⟨#[61,61]⟩,⟨#[33,61]⟩,⟨#[60,61]⟩,⟨#[62,61]⟩,⟨#[38,38]⟩,⟨#[124,124]⟩,⟨#[123]⟩,⟨#[125]⟩,⟨#[40]⟩,⟨#[41]⟩,⟨#[44]⟩,⟨#[59]⟩,⟨#[63]⟩,⟨#[58]⟩,⟨#[61]⟩,⟨#[33]⟩,⟨#[60]⟩,⟨#[62]⟩,⟨#[43]⟩,⟨#[45]⟩,⟨#[42]⟩,⟨#[47]⟩,⟨#[37]⟩]
def lJ(s:ByteArray)(i:Int)(m:ByteArray):Bool:=decide (i+(m.size:Int)≤s.size)&&((cut s i (i+(m.size:Int))).toList==m.toList)
theorem Ae{a b:ByteArray}(h:a.toList=b.toList):a=b:=by
 rw[Lib.toList_data,Lib.toList_data] at h
 have:a.data=b.data:=Array.toList_inj.1 h
 cases a;cases b;simp_all
theorem yG{a:ByteArray}{k:Nat}(h:k<a.size):bt a k=(a.data[k].toNat:Int):=by
 have h2:a[k]? = some a[k]:=by simp[h]
 unfold bt
 rw[Int.toNat_natCast,h2]
 rfl
theorem vK{a b:ByteArray}(hs:a.size=b.size)(h:∀k:Nat,k<a.size→bt a k=bt b k):a=b:=by
 have:a.data=b.data:=by
  refine Array.ext hs fun k h1 h2=>?_
  have:=h k h1
  rw[yG h1,yG h2] at this
  exact UInt8.toNat_inj.1 (by omega)
 cases a;cases b;simp_all
theorem s8{s:ByteArray}{i:Int}(h0:0≤i)(m:ByteArray):lJ s i m=true↔i+m.size≤s.size∧∀k:Nat,k<m.size→bt s (i+k)=bt m k:=by
 unfold lJ
 simp only[Bool.and_eq_true,decide_eq_true_eq,beq_iff_eq]
 refine⟨fun ⟨h1,h2⟩=>⟨h1,fun k hk=>?_⟩,fun ⟨h1,h2⟩=>⟨h1, ?_⟩⟩
 ·have:=Ae h2
  rw[←lI (j:=i+m.size) h0 (by omega) (by omega) h1,this]
 ·have hc:=g9 (s:=s) h0 (by omega:i≤i+m.size) h1
  have:cut s i (i+m.size)=m:=vK (by omega) fun k hk=>by
   rw[lI h0 (by omega) (by omega) h1]
   exact h2 k (by omega)
  rw[this]
theorem Cq{s:ByteArray}{i:Int}(h0:0≤i)(h:i<s.size)(c:UInt8):lJ s i ⟨#[c]⟩=(bt s i==(c.toNat:Int)):=by
 rw[Bool.eq_iff_iff,s8 h0,beq_iff_eq]
 refine⟨fun ⟨_,h⟩=>by have:=h 0 (Nat.lt_succ_self 0);rwa [Int.natCast_zero,Int.add_zero] at this,fun hc=>⟨by show i+((1:Nat):Int)≤_;omega,fun k hk=>?_⟩⟩
 have:k=0:=by have:k<1:=hk;omega
 subst this
 rw[Int.natCast_zero,Int.add_zero,hc];rfl
theorem AP{s:ByteArray}{i:Int}(h0:0≤i)(c d:UInt8)(hd:d.toNat≠0):lJ s i ⟨#[c,d]⟩=(bt s i==(c.toNat:Int)&&cZ s (i+1)==(d.toNat:Int)):=by
 rw[Bool.eq_iff_iff,s8 h0]
 simp only[Bool.and_eq_true,beq_iff_eq]
 refine⟨fun ⟨h1,h⟩=>⟨?_, ?_⟩,fun ⟨hc,hd'⟩=>?_⟩
 ·have:=h 0 (show 0<2 by decide);rwa [Int.natCast_zero,Int.add_zero] at this
 ·have h1:i+((2:Nat):Int)≤s.size:=h1
  unfold cZ
  rw[if_pos (by omega)]
  exact h 1 (show 1<2 by decide)
 ·have hl:i+1<s.size:=by
   rcases Int.lt_or_le (i+1) s.size with h | h
   ·exact h
   ·unfold cZ at hd';rw[if_neg (by omega)] at hd';omega
  unfold cZ at hd'
  rw[if_pos hl] at hd'
  refine⟨by show i+((2:Nat):Int)≤_;omega,fun k hk=>?_⟩
  have hk:k<2:=hk
  rcases (by omega:k=0∨k=1) with rfl | rfl
  ·rw[Int.natCast_zero,Int.add_zero,hc];rfl
  ·exact hd'
theorem xE{s:ByteArray}{i:Int}(h0:0≤i)(h:i<s.size) :
  (iP.find? (lJ s i)=none∧fm s i=0)∨(∃m,iP.find? (lJ s i)=some m∧(m.size:Int)=fm s i∧0<fm s i∧cut s i (i+fm s i)=m):=by
 have key:(iP.find? (lJ s i)=none∧fm s i=0)∨(∃m,iP.find? (lJ s i)=some m∧(m.size:Int)=fm s i∧0<fm s i):=by
  unfold iP
  simp only[List.find?_cons,List.find?_nil,Cq h0 h,AP h0 _ 61 (by decide),AP h0 _ 38 (by decide),AP h0 _ 124 (by decide)]
  unfold fm
  generalize bt s i=c
  generalize cZ s (i+1)=d
  clear h h0
  repeat' split
  all_goals first | (simp_all [single];done) | (simp_all [single];rfl) | (simp_all [single];omega)
 rcases key with hk | ⟨m,hm,hs,hp⟩
 ·exact .inl hk
 ·refine .inr ⟨m,hm,hs,hp, ?_⟩
  have:=List.find?_some hm
  rw[s8 h0] at this
  rw[←hs]
  have hc:=g9 (s:=s) h0 (by omega:i≤i+m.size) this.1
  refine vK (by omega) fun k hk=>?_
  rw[lI h0 (by omega) (by omega) this.1]
  exact this.2 k (by omega)
theorem uD{k:Nat}{m:ByteArray}(h:iP[k]? = some m):m.size≤2:=by
 have:=List.mem_of_getElem? h
 simp only[iP,List.mem_cons,List.not_mem_nil,or_false] at this
 rcases this with h | h | h | h | h | h | h | h | h | h | h | h | h | h | h | h | h | h | h | h | h | h | h<;>(subst h;decide)
theorem vL{s:ByteArray}(hs:dz s){i:Int}(h0:0≤i)(h1:i<s.size)(I:cS)(F:cR):cU P 58 #[.string s,.int .i64 i] I F (kj (jZ s i).v2 F):=by
 unfold dz at hs
 have hm:=xE h0 h1
 refine kW.vc (fun x k b0 b1 b2 b3 b4 m I' F'=>0≤k∧k≤23∧m=(23-k).toNat∧iP.find? (lJ s i)=(iP.drop k.toNat).find? (lJ s i)∧F'=F) ?_
 unfold kW.V
 intro b b1 I1 hI1 hb1
 have hS:Sl I1 1 jd (some ⟨b1,0,none⟩) 23 iP:=Sl.g8 (f:=jd) (z:=1) (l:=iP) (fun _=>rfl) hb1 (by kernel_rfl)
 refine⟨⟨_,by omega,by omega,rfl,rfl,rfl⟩,fun x k c0 c1 c2 c3 c4 m I2 F2 hI2 ⟨g0,g1,gm,gf,gF⟩=>⟨fun hlt=>?_,fun hlt=>?_⟩⟩
 ·have hlt:k<23:=of_decide_eq_true hlt
  obtain⟨ad,w,ha,hw,hrd⟩:=(hS.mono hI2).at (i:=k) g0 hlt
  have hwz:=uD hw
  subst gF
  rw[xw hw] at gf
  have cont:lJ s i w=false→∃m6,m6<m∧(0≤IntKind.wrap .i64 (k+1)∧IntKind.wrap .i64 (k+1)≤23∧m6=(23-IntKind.wrap .i64 (k+1)).toNat ∧
    iP.find? (lJ s i)=(iP.drop (IntKind.wrap .i64 (k+1)).toNat).find? (lJ s i)∧F2=F2):=fun h=>by
   rw[gS (by omega)]
   refine⟨(23-(k+1)).toNat,by omega,by omega,by omega,rfl, ?_,rfl⟩
   rw[gf,h,show (k+1).toNat=k.toNat+1 by omega];rfl
  refine⟨⟨g0,hlt⟩,ad,ha,w,hrd _, ?_⟩
  rw[gS (n:=i+w.size) (by omega)]
  refine⟨fun hle=>⟨⟨h0,by omega,of_decide_eq_true hle⟩,⟨g0,hlt⟩,ad,ha,w,hrd _,fun he=>⟨⟨g0,hlt⟩,ad,ha,w,hrd _, ?_,rfl⟩,fun he=>cont ?_⟩,fun hle=>cont ?_⟩
  ·have hhit:lJ s i w=true:=by
    unfold lJ;rw[hle,Bool.true_and];exact he
   rw[hhit,if_pos rfl] at gf
   rcases hm with ⟨h,_⟩ | ⟨w',h,hsz,hp,hcut⟩
   ·rw[h] at gf;cases gf
   ·rw[h] at gf;cases gf
    unfold jZ
    rw[if_neg (by omega),hcut];rfl
  ·unfold lJ;rw[hle,Bool.true_and];exact he
  ·unfold lJ;rw[hle];rfl
 ·have hlt:¬k<23:=of_decide_eq_false hlt
  refine⟨?_,gF⟩
  rw[List.drop_eq_nil_of_le (by show 23≤_;omega)] at gf
  rcases hm with ⟨h,hz⟩ | ⟨w',h,_⟩
  ·unfold jZ
   rw[if_pos hz];rfl
  ·rw[h] at gf;cases gf
def TR.v3:TR→Value
 | .ok t=>.tuple #[t.v,.int .i64 0,.int .i64 0]
 | .bad e p=>.tuple #[(jm 0).v,.int .i64 e,.int .i64 p]
theorem yH(s:ByteArray)(i:Int):(∃t,jc s i=.ok t)∨∃e,jc s i=.bad e i∧(e != 0)=true:=by
 rcases qH s i with ⟨t,h,_⟩ | h
 ·exact .inl ⟨t,h⟩
 ·exact .inr ⟨_,h,rfl⟩
theorem xF(s:ByteArray)(i:Int):(∃t,jY s i=.ok t)∨∃e,jY s i=.bad e i∧(e != 0)=true:=by
 unfold jY;simp only;split
 ·exact .inr ⟨_,rfl,rfl⟩
 ·exact .inl ⟨_,rfl⟩
theorem xG(s:ByteArray)(i:Int):(∃t,jZ s i=.ok t)∨∃e,jZ s i=.bad e i∧(e != 0)=true:=by
 unfold jZ;split
 ·exact .inr ⟨_,rfl,rfl⟩
 ·exact .inl ⟨_,rfl⟩
theorem yI{c:Int}(h:gT c=true):dh c=false:=by
 simp only[gT,dh,Bool.and_eq_true,decide_eq_true_eq,Bool.and_eq_false_iff,decide_eq_false_iff_not] at h ⊢
 omega
theorem yJ{s:ByteArray}(hs:dz s){f:Int}(h0:0≤f)(h1:f≤s.size)(I:cS)(F:cR):cU P 22 #[.string s,.int .i64 f] I F (kj (gU s f).v3 F):=by
 have hs':=hs
 unfold dz at hs'
 refine me.vc ?_
 unfold me.V
 intro b
 have ho:=iv (s:=s) h1
 refine cU.ret (vJ hs h0 h1 I _) fun I1 hI1=>⟨_,rfl,F,.refl _, ?_⟩
 unfold gU
 simp only
 generalize dk s f=r at ho ⊢
 refine⟨fun h=>⟨?_,rfl⟩,fun h b_t=>?_⟩
 ·rw[if_pos (by simpa using h)];rfl
 ·have hne:r≠s.size:=by simpa using h
  have hlt:r<s.size:=by omega
  rw[if_neg hne]
  refine⟨⟨by omega,hlt⟩, ?_⟩
  refine cU.ret (nQ (bt s r) I1 _) fun I2 hI2=>⟨_,rfl,F,.refl _,fun hm=>?_,fun hm=>⟨⟨by omega,hlt⟩, ?_⟩⟩
  ·rw[if_neg (by rw[yI hm];exact Bool.false_ne_true),if_pos hm]
   refine cU.ret (uC hs (by omega) hlt I2 _) fun I3 hI3=>?_
   rcases xF s r with ⟨t,ht⟩ | ⟨e,ht,he⟩
   ·rw[ht];exact⟨_,_,_,_,_,_,rfl,F,.refl _,fun h=>absurd h (by decide),fun _=>⟨rfl,rfl⟩⟩
   ·rw[ht];exact⟨_,_,_,_,_,_,rfl,F,.refl _,fun h=>⟨rfl,rfl⟩,fun h=>by rw[he] at h;cases h⟩
  ·rw[if_neg (c:=gT (bt s r)=true) (by rw[hm];exact Bool.false_ne_true)]
   refine cU.ret (lG (bt s r) I2 _) fun I3 hI3=>⟨_,rfl,F,.refl _,fun hd=>?_,fun hd=>?_⟩
   ·rw[if_pos hd]
    refine cU.ret (sZ hs (by omega) hlt I3 _) fun I4 hI4=>?_
    rcases yH s r with ⟨t,ht⟩ | ⟨e,ht,he⟩
    ·rw[ht];exact⟨_,_,_,_,_,_,rfl,F,.refl _,fun h=>absurd h (by decide),fun _=>⟨rfl,rfl⟩⟩
    ·rw[ht];exact⟨_,_,_,_,_,_,rfl,F,.refl _,fun h=>⟨rfl,rfl⟩,fun h=>by rw[he] at h;cases h⟩
   ·rw[if_neg (by rw[hd];exact Bool.false_ne_true)]
    refine cU.ret (vL hs (by omega) hlt I3 _) fun I4 hI4=>?_
    rcases xG s r with ⟨t,ht⟩ | ⟨e,ht,he⟩
    ·rw[ht];exact⟨_,_,_,_,_,_,rfl,F,.refl _,fun h=>absurd h (by decide),fun _=>⟨rfl,rfl⟩⟩
    ·rw[ht];exact⟨_,_,_,_,_,_,rfl,F,.refl _,fun h=>⟨rfl,rfl⟩,fun h=>by rw[he] at h;cases h⟩
def jI(s:ByteArray):Nat→Int→List Tok×Option (Int×Int)
 | 0,_=>([],none)
 | n+1,f=>match gU s f with
   | .bad e p=>([],some (e,p))
   | .ok t=>if t.kind=0 then ([t],none) else (t::(jI s n (t.pos+t.text.size)).1,(jI s n (t.pos+t.text.size)).2)
def kX(s:ByteArray)(f:Int):List Tok×Option (Int×Int):=jI s (s.size-f+1).toNat f
theorem lK{s:ByteArray}{f:Int}(h0:0≤f)(h1:f≤s.size){t:Tok}(ht:gU s f=.ok t):t.pos+t.text.size≤s.size∧f≤t.pos∧(t.kind≠0→f+1≤t.pos+t.text.size):=by
 have ho:=iv (s:=s) h1
 rcases gz h0 h1 with ⟨t',ht',hp,hl,_,hk⟩ | ⟨e,ht',_⟩
 ·rw[ht] at ht';cases ht'
  refine⟨hl,by omega,fun hne=>?_⟩
  rcases hk with ⟨h,_⟩ | ⟨_,_,h⟩
  ·exact absurd h hne
  ·omega
 ·rw[ht] at ht';cases ht'
theorem qJ(s:ByteArray):∀(n n':Nat) (f:Int),0≤f→f≤s.size→(s.size-f+1).toNat≤n→(s.size-f+1).toNat≤n'→jI s n f=jI s n' f
 | 0,n',f,h0,h1,hn,hn'=>by omega
 | n+1,0,f,h0,h1,hn,hn'=>by omega
 | n+1,n'+1,f,h0,h1,hn,hn'=>by
   unfold jI
   cases ht:gU s f with
   | bad e p=>rfl
   | ok t =>
     have:=lK h0 h1 ht
     by_cases hk:t.kind=0
     ·simp[hk]
     ·have:=this.2.2 hk
      simp only[hk,if_false]
      rw[qJ s n n' _ (by omega) (by omega) (by omega) (by omega)]
theorem oK{s:ByteArray}{f:Int}(h0:0≤f)(h1:f≤s.size):kX s f=match gU s f with
  | .bad e p=>([],some (e,p))
  | .ok t=>if t.kind=0 then ([t],none) else (t::(kX s (t.pos+t.text.size)).1,(kX s (t.pos+t.text.size)).2):=by
 unfold kX
 obtain⟨n,hn⟩:∃n,(s.size-f+1).toNat=n+1:=⟨(s.size-f+1).toNat-1,by omega⟩
 rw[hn]
 show (match gU s f with
  | .bad e p=>([],some (e,p))
  | .ok t=>if t.kind=0 then ([t],none) else (t::(jI s n (t.pos+t.text.size)).1,(jI s n (t.pos+t.text.size)).2))=_
 cases ht:gU s f with
 | bad e p=>rfl
 | ok t =>
   have:=lK h0 h1 ht
   by_cases hk:t.kind=0
   ·simp[hk]
   ·have:=this.2.2 hk
    simp only[hk,if_false]
    rw[qJ s n _ _ (by omega) (by omega) (by omega) (Nat.le_refl _)]
def nW(s:ByteArray):Except (Int×Int) (List Tok) :=
 if (s.size:Int)>4096 then .error (110,0) else match kX s 0 with
  | (l,none)=>.ok l
  | (_,some ep)=>.error ep
def Tok.enc(t:Tok):List Value:=[.int .u8 t.kind,.string t.text,.int .u8 t.iS,.int .i64 t.n,.int .i64 t.pos]
def wM(r:Except (Int×Int) (List Tok))(F:cR)(e:Ending)(I:cS)(G:cR):Prop :=
 G=F∧match r with
  | .ok l=>∃a n c,e=.returned (.tuple #[.slice a n c,.int .i64 0,.int .i64 0])∧Sl I 5 Tok.enc a n l
  | .error (e',p)=>e=.returned (.tuple #[.slice none 0 0,.int .i64 e',.int .i64 p])
def nX(r:Except (Int×Int) (List Tok))(F:cR)(e:Ending)(I:cS)(G:cR):Prop :=
 match r with
  | .ok l=>∃a n c A,e=.returned (.tuple #[.slice a n c,.int .i64 0,.int .i64 0])∧Acc 5 Tok.enc 76 a n c l A∧G=A++F
  | .error (e',p)=>∃A,e=.returned (.tuple #[.slice none 0 0,.int .i64 e',.int .i64 p])∧G=A++F
theorem nX.keep{f:Nat}{args:Array Value}{I:cS}{F:cR}{r:Except (Int×Int) (List Tok)}(h:cU P f args I F (nX r F)):cU P f args I F (wM r F):=by
 refine h.keep fun e I' G w hl hs hq=>?_
 unfold nX at hq
 split at hq
 ·obtain⟨a,n,c,A,he,hA,hG⟩:=hq
  subst hG
  obtain⟨J,h1,h2,h3⟩:=Acc.keep (z:=5) (f:=Tok.enc) (fun _=>rfl) hA hs
  exact⟨J,F,h1,h2,rfl,a,n,c,he,h3⟩
 ·obtain⟨A,he,hG⟩:=hq
  subst hG
  exact⟨I',F,cS.le_refl _,hs.drop,rfl,he⟩
theorem zH:∀(t:Tok),∀u∈t.enc,u.oneCell'=true:=by
 intro t u hu
 simp only[Tok.enc,List.mem_cons,List.not_mem_nil,or_false] at hu
 rcases hu with h | h | h | h | h<;>(subst h;rfl)
theorem qK{a:Option Addr}{n c:Nat}{l:List Tok}{A F:cR}(hA:Acc 5 Tok.enc 76 a n c l A)(hl:l.length≤1000000000)(t:Tok){b:Nat}{I:cS}(hb:I b=some (.cells t.enc.toArray 76 (0,0))) :
  dC P (Builtin.append_ #[80,80] 80 #[.slice a n c,.slice (some ⟨b,0,none⟩) 1 1]) I (A++F) fun v I' G=>∃a' n' c' A',v=.slice a' n' c'∧Acc 5 Tok.enc 76 a' n' c' (l++[t]) A'∧G=A'++F:=by
 refine (jl (f:=Tok.enc) (zv:=(jm 0).v) (fun _=>rfl) (by':=48) (by kernel_rfl) (by kernel_rfl) rfl (by decide) hA (xs:=[t]) (fun x _=>zH x) (by simp) rfl ?_ (by simp only[List.length_cons,List.length_nil];omega)).mono
  fun v I' G _ ⟨a',n',c',A',h1,h2,h3,_⟩=>⟨a',n',c',A',h1,h2,h3⟩
 exact⟨rfl,_,_,_,.inl hb,fun j hj=>by simp⟩
theorem vM{s:ByteArray}(hs:dz s)(I:cS)(F:cR):cU P 124 #[.string s] I F (nX (nW s) F):=by
 refine kU.vc (fun x_a x_n x_c x x1 a n c f m I' F'=>0≤f∧f≤s.size∧m=(s.size-f).toNat∧∃l A,Acc 5 Tok.enc 76 a n c l A∧F'=A++F∧l.length≤f ∧
  kX s 0=(l++(kX s f).1,(kX s f).2)) ?_
 unfold kU.V
 unfold nW
 refine⟨fun h=>?_,fun h=>?_⟩
 ·rw[if_pos (of_decide_eq_true h)]
  exact⟨[],rfl,rfl⟩
 have h:=of_decide_eq_false h
 rw[if_neg h]
 refine⟨⟨_,by omega,by omega,rfl,[],[],Acc.nil,rfl,by decide,rfl⟩, ?_⟩
 intro x_a x_n x_c x x1 a n c f m I1 F1 hI1 ⟨h0,h1,gm,l,A,hA,hF,hl,ht⟩
 subst hF
 rw[oK h0 h1] at ht
 refine cU.ret (qI hs h0 h1 I1 _) fun I2 hI2=>?_
 rcases gz h0 h1 with ⟨t,htok,htat⟩ | ⟨e,htok,he⟩
 ·rw[htok] at ht ⊢
  have hnx:=lK h0 h1 htok
  refine⟨_,_,_,_,_,_,rfl,_,.refl _,fun b_t=>⟨fun h=>absurd h (by decide),fun _=>?_⟩⟩
  intro b I3 hI3 hb
  refine dC.perm ((qK hA (by omega) t hb (F:=(b_t,_)::F)).mono fun v I4 G2 hI4 ⟨a',n',c',A',hv,hA',hG⟩=>?_) List.perm_middle.symm
  subst hG
  refine⟨_,_,_,hv,A'++F,List.perm_middle,fun hk=>?_,fun hk=>?_⟩
  ·have hk:t.kind=0:=by simpa using hk
   simp only[hk,if_true] at ht
   rw[ht]
   exact⟨_,_,_,_,rfl,hA',rfl⟩
  ·have hk:t.kind≠0:=by simpa using hk
   have:=hnx.2.2 hk
   simp only[hk,if_false] at ht
   rw[gS (by omega)]
   refine⟨_, ?_,by omega,by omega,rfl,_,_,hA',rfl, ?_, ?_⟩
   ·omega
   ·rw[List.length_append,List.length_singleton];omega
   ·rw[ht,List.append_assoc];rfl
 ·rw[htok] at ht ⊢
  refine⟨_,_,_,_,_,_,rfl,_,.refl _,fun b_t=>⟨fun _=>?_,fun h=>?_⟩⟩
  ·rw[ht]
   exact⟨A,rfl,rfl⟩
  ·rcases he with rfl | rfl | rfl<;>exact absurd h (by decide)
theorem uE{s:ByteArray}(hs:dz s)(I:cS)(F:cR):cU P 124 #[.string s] I F (wM (nW s) F):=nX.keep (vM hs I F)
def yK(r:List Tok×Option (Int×Int))(F:cR)(e:Ending)(I:cS)(G:cR):Prop :=
 ∃a n c A,e=.returned (.tuple #[.slice a n c,.int .i64 ((r.2.map Prod.fst).getD 0),.int .i64 ((r.2.map Prod.snd).getD 0)])∧Acc 5 Tok.enc 76 a n c r.1 A∧G=A++F
theorem vN{s:ByteArray}(hs:dz s)(hs2:(s.size:Int)≤1000000000)(I:cS)(F:cR):cU P 59 #[.string s] I F (yK (kX s 0) F):=by
 refine j4.vc (fun x_a x_n x_c x x1 a n c f m I' F'=>0≤f∧f≤s.size∧m=(s.size-f).toNat∧∃l A,Acc 5 Tok.enc 76 a n c l A∧F'=A++F∧l.length≤f ∧
  kX s 0=(l++(kX s f).1,(kX s f).2)) ?_
 unfold j4.V
 have h:True:=trivial
 refine⟨⟨_,by omega,by omega,rfl,[],[],Acc.nil,rfl,by decide,rfl⟩, ?_⟩
 intro x_a x_n x_c x x1 a n c f m I1 F1 hI1 ⟨h0,h1,gm,l,A,hA,hF,hl,ht⟩
 subst hF
 rw[oK h0 h1] at ht
 refine cU.ret (yJ hs h0 h1 I1 _) fun I2 hI2=>?_
 rcases gz h0 h1 with ⟨t,htok,htat⟩ | ⟨e,htok,he⟩
 ·rw[htok] at ht ⊢
  have hnx:=lK h0 h1 htok
  refine⟨_,_,_,_,_,_,_,rfl,_,.refl _,fun b_t=>⟨fun h=>absurd h (by decide),fun _=>?_⟩⟩
  intro b I3 hI3 hb
  refine dC.perm ((qK hA (by omega) t hb (F:=(b_t,_)::F)).mono fun v I4 G2 hI4 ⟨a',n',c',A',hv,hA',hG⟩=>?_) List.perm_middle.symm
  subst hG
  refine⟨_,_,_,hv,A'++F,List.perm_middle,fun hk=>?_,fun hk=>?_⟩
  ·have hk:t.kind=0:=by simpa using hk
   simp only[hk,if_true] at ht
   rw[ht]
   exact⟨_,_,_,_,rfl,hA',rfl⟩
  ·have hk:t.kind≠0:=by simpa using hk
   have:=hnx.2.2 hk
   simp only[hk,if_false] at ht
   rw[gS (by omega)]
   refine⟨_, ?_,by omega,by omega,rfl,_,_,hA',rfl, ?_, ?_⟩
   ·omega
   ·rw[List.length_append,List.length_singleton];omega
   ·rw[ht,List.append_assoc];rfl
 ·rw[htok] at ht ⊢
  refine⟨_,_,_,_,_,_,_,rfl,_,.refl _,fun b_t=>⟨fun _=>?_,fun h=>?_⟩⟩
  ·rw[ht]
   exact⟨_,_,_,A,rfl,by simpa using hA,rfl⟩
  ·rcases he with rfl | rfl | rfl<;>exact absurd h (by decide)
structure PF where
 e:Int
 pos:Int
 tok:Bool
structure PS where
 next:Nat
 f:PF
structure PC where
 l:List Tok
 bad:Int
 pos:Int
def gA:Px:=.mk 0 0 0 0 0 ⟨#[]⟩ [] 0
def PS.over(s:PS):Bool:=s.f.e != 0
def PS.inc(s:PS):PS:=⟨s.next+1,s.f⟩
section
variable (c:PC)
def PC.tok(i:Nat):Tok:=(c.l[i]?).getD (jm 0)
def PC.now(s:PS):Tok:=if s.over||decide (c.l.length≤s.next) then jm 0 else c.tok s.next
def PC.c5(e:Int)(s:PS):PS:=if s.over then s else if c.l.length≤s.next then ⟨s.next,⟨c.bad,c.pos,true⟩⟩ else ⟨s.next,⟨e,(c.tok s.next).pos,false⟩⟩
def PC.dS(w:ByteArray)(s:PS):Bool:=(c.now s).text.toList==w.toList&&((c.now s).kind==1||(c.now s).kind==4)
def PC.iz(s:PS):List ByteArray→Int→Int
 | [],_=>-1
 | w::r,i=>if c.dS w s then i else PC.iz s r (i+1)
def PC.any(ws:List ByteArray)(s:PS):Int:=c.iz s ws 0
def PC.take(w:ByteArray)(s:PS):Int×PS:=if c.dS w s then ((c.now s).pos,s.inc) else (0,c.c5 130 s)
def PC.name(s:PS):ByteArray×PS:=if (c.now s).kind=2 then ((c.now s).text,s.inc) else (⟨#[]⟩,c.c5 130 s)
def PC.c9(d:Int)(s:PS):PS:=if 24<d+1 then c.c5 132 s else s
def s9(iS n pos:Int):Px:=.mk 1 0 iS n 0 ⟨#[]⟩ [] pos
def PC.literal(s:PS):(Px×Bool)×PS :=
 if (c.now s).kind=3 then ((s9 (c.now s).iS (c.now s).n (c.now s).pos,true),s.inc)
 else if (c.now s).kind=1∧((c.now s).text.toList=(⟨#[116,114,117,101]⟩:ByteArray).toList∨(c.now s).text.toList=(⟨#[102,97,108,115,101]⟩:ByteArray).toList) then ((s9 5 (if (c.now s).text.toList=(⟨#[116,114,117,101]⟩:ByteArray).toList then 1 else 0) (c.now s).pos,true),s.inc)
 else if (c.now s).kind=1∧((c.now s).text.toList=(⟨#[98,117,121]⟩:ByteArray).toList∨(c.now s).text.toList=(⟨#[115,101,108,108]⟩:ByteArray).toList) then ((s9 6 (if (c.now s).text.toList=(⟨#[115,101,108,108]⟩:ByteArray).toList then 2 else 1) (c.now s).pos,true),s.inc)
 else ((gA,false),s)
structure Lv where
 ex:PS→Px×PS
 un:PS→Px×PS
def PC.dW(nx:Lv):Nat→Bool→PS→List Px×PS
 | 0,_,s=>([],s)
 | n+1,first,s =>
   let r:=nx.ex (if first then s else (c.take (⟨#[44]⟩:ByteArray) s).2)
   let q:=PC.dW nx n false r.2
   (r.1::q.1,q.2)
def PC.call(nx:Lv)(d:Int)(kind oper iS pos:Int)(many:Nat)(s:PS):Px×PS :=
 if (c.c9 d s).over then (gA,c.c9 d s)
 else
  let q:=c.dW nx many true (c.take (⟨#[40]⟩:ByteArray) (c.c9 d s).inc).2
  (.mk kind oper iS 0 0 ⟨#[]⟩ q.1 pos,(c.take (⟨#[41]⟩:ByteArray) q.2).2)
def PC.rest(nx:Lv)(d:Int)(s:PS):Px×PS :=
 if c.dS (⟨#[104,97,115]⟩:ByteArray) s then
  if c.any [(⟨#[98,105,100]⟩:ByteArray),(⟨#[97,115,107]⟩:ByteArray),(⟨#[108,97,115,116]⟩:ByteArray)] s.inc<0 then (gA,c.c5 130 s.inc) else (.mk 4 0 0 0 (c.any [(⟨#[98,105,100]⟩:ByteArray),(⟨#[97,115,107]⟩:ByteArray),(⟨#[108,97,115,116]⟩:ByteArray)] s.inc+1) ⟨#[]⟩ [] (c.now s).pos,s.inc.inc)
 else if c.dS (⟨#[40]⟩:ByteArray) s then
  if (c.c9 d s).over then (gA,c.c9 d s)
  else
   let r:=nx.ex (c.c9 d s).inc
   (r.1,(c.take (⟨#[41]⟩:ByteArray) r.2).2)
 else (gA,c.c5 130 s)
def je:List ByteArray:=[(⟨#[98,105,100]⟩:ByteArray),(⟨#[97,115,107]⟩:ByteArray),(⟨#[108,97,115,116]⟩:ByteArray),(⟨#[118,111,108,117,109,101]⟩:ByteArray),(⟨#[110,111,119]⟩:ByteArray),(⟨#[111,112,101,110]⟩:ByteArray)]
def eQ:List ByteArray:=[(⟨#[97,98,115]⟩:ByteArray),(⟨#[109,105,110]⟩:ByteArray),(⟨#[109,97,120]⟩:ByteArray)]
def iK:List ByteArray:=[(⟨#[105,110,116]⟩:ByteArray),(⟨#[113,116,121]⟩:ByteArray),(⟨#[112,114,105,99,101]⟩:ByteArray),(⟨#[116,105,109,101]⟩:ByteArray)]
def PC.one(nx:Lv)(d:Int)(s:PS):Px×PS :=
 if (c.literal s).1.2 then ((c.literal s).1.1,(c.literal s).2)
 else if (c.now s).kind=2 then (.mk 2 0 0 0 0 (c.now s).text [] (c.now s).pos,s.inc)
 else if 0≤c.any je s then (.mk 3 0 0 0 (c.any je s+1) ⟨#[]⟩ [] (c.now s).pos,s.inc)
 else if 0≤c.any eQ s then c.call nx d 8 (3+c.any eQ s) 0 (c.now s).pos (if c.any eQ s=0 then 1 else 2) s
 else if 0≤c.any iK s then c.call nx d 9 0 (1+c.any iK s) (c.now s).pos 1 s
 else c.rest nx d s
def j5:List ByteArray:=[(⟨#[45]⟩:ByteArray),(⟨#[33]⟩:ByteArray)]
def PC.unary(nx:Lv)(d:Int)(s:PS):Px×PS :=
 if c.any j5 s<0 then c.one nx d s
 else if (c.c9 d s).over then (gA,c.c9 d s)
 else
  let r:=nx.un (c.c9 d s).inc
  (.mk 5 (1+c.any j5 s) 0 0 0 ⟨#[]⟩ [r.1] (c.now (c.c9 d s)).pos,r.2)
def xH(o pos:Int)(a b:Px):Px:=.mk 6 o 0 0 0 ⟨#[]⟩ [a,b] pos
def PC.fs(ws:List ByteArray)(o:Int)(sub:PS→Px×PS):Nat→Px→PS→Px×PS
 | 0,n,s=>(n,s)
 | m+1,n,s=>if c.any ws s<0 then (n,s) else
   let k:=sub s.inc
   PC.fs ws o sub m (xH (o+c.any ws s) (c.now s).pos n k.1) k.2
def PC.loop(ws:List ByteArray)(o:Int)(sub:PS→Px×PS)(s:PS):Px×PS:=c.fs ws o sub c.l.length (sub s).1 (sub s).2
def qL:List ByteArray:=[(⟨#[42]⟩:ByteArray),(⟨#[47]⟩:ByteArray),(⟨#[37]⟩:ByteArray)]
def rF:List ByteArray:=[(⟨#[43]⟩:ByteArray),(⟨#[45]⟩:ByteArray)]
def lu:List ByteArray:=[(⟨#[61,61]⟩:ByteArray),(⟨#[33,61]⟩:ByteArray),(⟨#[60]⟩:ByteArray),(⟨#[60,61]⟩:ByteArray),(⟨#[62]⟩:ByteArray),(⟨#[62,61]⟩:ByteArray)]
def rG:List ByteArray:=[(⟨#[38,38]⟩:ByteArray)]
def zp:List ByteArray:=[(⟨#[124,124]⟩:ByteArray)]
def PC.product(nx:Lv)(d:Int)(s:PS):Px×PS:=c.loop qL 8 (c.unary nx d) s
def PC.sum(nx:Lv)(d:Int)(s:PS):Px×PS:=c.loop rF 6 (c.product nx d) s
def PC.compare(nx:Lv)(d:Int)(s:PS):Px×PS :=
 let n:=c.sum nx d s
 if c.any lu n.2<0 then n else
  let k:=c.sum nx d n.2.inc
  (xH (11+c.any lu n.2) (c.now n.2).pos n.1 k.1,k.2)
def PC.and(nx:Lv)(d:Int)(s:PS):Px×PS:=c.loop rG 17 (c.compare nx d) s
def PC.or(nx:Lv)(d:Int)(s:PS):Px×PS:=c.loop zp 18 (c.and nx d) s
def PC.expr(nx:Lv)(d:Int)(s:PS):Px×PS :=
 let n:=c.or nx d s
 if c.dS (⟨#[63]⟩:ByteArray) n.2 then
  if (c.c9 d n.2).over then (gA,c.c9 d n.2)
  else
   let a:=nx.ex (c.c9 d n.2).inc
   let b:=nx.ex (c.take (⟨#[58]⟩:ByteArray) a.2).2
   (.mk 7 0 0 0 0 ⟨#[]⟩ [n.1,a.1,b.1] (c.now (c.c9 d n.2)).pos,b.2)
 else n
def PC.lv(nx:Lv)(d:Int):Lv:=⟨c.expr nx d,c.unary nx d⟩
def PC.lvl:Nat→Int→Lv
 | 0,d=>c.lv ⟨fun s=>(gA,s),fun s=>(gA,s)⟩ d
 | k+1,d=>c.lv (PC.lvl k (d+1)) d
def PC.eJ(s:PS):Px×PS:=(c.lvl 24 0).ex s
def fS:List ByteArray:=[(⟨#[105,110,116]⟩:ByteArray),(⟨#[113,116,121]⟩:ByteArray),(⟨#[112,114,105,99,101]⟩:ByteArray),(⟨#[116,105,109,101]⟩:ByteArray),(⟨#[98,111,111,108]⟩:ByteArray),(⟨#[115,105,100,101]⟩:ByteArray)]
def PC.oL(nm:ByteArray)(t pos pos2:Int)(minus:Bool)(n:Px)(s:PS):iY×PS:=(⟨nm,t,if minus then .mk 5 1 0 0 0 ⟨#[]⟩ [n] pos2 else n,pos⟩,(c.take (⟨#[59]⟩:ByteArray) s).2)
def PC.kY(nm:ByteArray)(t pos pos2:Int)(minus:Bool)(s:PS):iY×PS :=
 if minus=true∧(c.now s).kind≠3 then (⟨nm,t,gA,pos⟩,c.c5 130 s) else c.oL nm t pos pos2 minus (c.literal s).1.1 (if (c.literal s).1.2 then (c.literal s).2 else c.c5 130 (c.literal s).2)
def PC.nY(nm:ByteArray)(t pos:Int)(s:PS):iY×PS:=c.kY nm t pos (c.now s).pos (c.dS (⟨#[45]⟩:ByteArray) s) (if c.dS (⟨#[45]⟩:ByteArray) s then s.inc else s)
def PC.nZ(nm:ByteArray)(pos:Int)(s:PS):iY×PS:=if c.any fS s<0 then (⟨nm,0,gA,pos⟩,c.c5 130 s) else c.nY nm (1+c.any fS s) pos (c.take (⟨#[61]⟩:ByteArray) s.inc).2
def PC.lx(s:PS):iY×PS:=c.nZ (c.name (c.take (⟨#[114,101,103]⟩:ByteArray) s).2).1 (c.take (⟨#[114,101,103]⟩:ByteArray) s).1 (c.name (c.take (⟨#[114,101,103]⟩:ByteArray) s).2).2
def eI:List ByteArray:=[(⟨#[108,105,109,105,116]⟩:ByteArray),(⟨#[105,111,99]⟩:ByteArray),(⟨#[102,111,107]⟩:ByteArray),(⟨#[112,111,115,116]⟩:ByteArray)]
def PC.iQ(s:PS):ByteArray×PS:=if c.dS (⟨#[97,115]⟩:ByteArray) s then c.name s.inc else (⟨#[]⟩,s)
def PC.mq(x y:Px)(pos:Int)(z:Px)(o:Int)(s:PS):mo×PS:=(⟨1,o,(c.iQ s).1,x,y,z,gA,pos⟩,(c.iQ s).2)
def PC.oM(x y:Px)(pos:Int)(z:Px)(s:PS):mo×PS:=if c.any eI s<0 then (⟨1,2,⟨#[]⟩,x,y,z,gA,pos⟩,c.c5 130 s) else c.mq x y pos z (if c.any eI s=0 then 1 else 2+c.any eI s) s.inc
def tH:List ByteArray:=[(⟨#[109,97,114,107,101,116]⟩:ByteArray),(⟨#[97,116]⟩:ByteArray)]
def PC.n6(x y:Px)(pos:Int)(s:PS):mo×PS:=if c.any tH s<0 then (⟨1,0,⟨#[]⟩,x,y,gA,gA,pos⟩,c.c5 130 s)
 else if c.any tH s=1 then c.oM x y pos (c.eJ s.inc).1 (c.eJ s.inc).2 else c.mq x y pos gA 2 s.inc
def PC.tb(x:Px)(pos:Int)(s:PS):mo×PS:=c.n6 x (c.eJ (c.take (⟨#[111,102]⟩:ByteArray) s).2).1 pos (c.eJ (c.take (⟨#[111,102]⟩:ByteArray) s).2).2
def PC.kZ(s:PS):mo×PS:=c.tb (c.eJ (c.take (⟨#[115,117,98,109,105,116]⟩:ByteArray) s).2).1 (c.take (⟨#[115,117,98,109,105,116]⟩:ByteArray) s).1 (c.eJ (c.take (⟨#[115,117,98,109,105,116]⟩:ByteArray) s).2).2
def qM:List ByteArray:=[(⟨#[115,117,98,109,105,116]⟩:ByteArray),(⟨#[97,109,101,110,100]⟩:ByteArray),(⟨#[99,97,110,99,101,108]⟩:ByteArray),(⟨#[115,101,116]⟩:ByteArray),(⟨#[103,111,116,111]⟩:ByteArray),(⟨#[104,97,108,116]⟩:ByteArray)]
def CX:mo:=⟨0,0,⟨#[]⟩,gA,gA,gA,gA,0⟩
def PC.zq(nm:ByteArray)(pos:Int)(x:Px)(s:PS):mo×PS:=(⟨2,0,nm,gA,x,(c.eJ (c.take (⟨#[97,116]⟩:ByteArray) s).2).1,gA,pos⟩,(c.eJ (c.take (⟨#[97,116]⟩:ByteArray) s).2).2)
def PC.BA(nm:ByteArray)(pos:Int)(s:PS):mo×PS:=(⟨4,0,nm,gA,gA,gA,(c.eJ (c.take (⟨#[61]⟩:ByteArray) s).2).1,pos⟩,(c.eJ (c.take (⟨#[61]⟩:ByteArray) s).2).2)
def PC.uF(k:Int)(nm:ByteArray)(pos:Int)(s:PS):mo×PS:=if k=2 then c.zq nm pos (c.eJ (c.take (⟨#[116,111]⟩:ByteArray) s).2).1 (c.eJ (c.take (⟨#[116,111]⟩:ByteArray) s).2).2 else if k=4 then c.BA nm pos s else (⟨k,0,nm,gA,gA,gA,gA,pos⟩,s)
def PC.do(s:PS):mo×PS :=
 if c.any qM s<0 then (CX,c.c5 130 s)
 else if c.any qM s=0 then c.kZ s
 else if c.any qM s=5 then c.uF 6 ⟨#[]⟩ (c.now s).pos s.inc
 else c.uF (1+c.any qM s) (c.name s.inc).1 (c.now s).pos (c.name s.inc).2
def PC.many(n most:Nat)(s:PS):PS:=if most≤n then c.c5 131 s else s
def PC.gV:Nat→List mo→PS→List mo×PS
 | 0,l,s=>(l,s)
 | m+1,l,s =>
   if c.dS (⟨#[44]⟩:ByteArray) (c.do s).2 then
    if (c.many (l.length+1) 8 (c.do s).2).over then (l++[(c.do s).1],c.many (l.length+1) 8 (c.do s).2) else PC.gV m (l++[(c.do s).1]) (c.many (l.length+1) 8 (c.do s).2).inc
   else (l++[(c.do s).1],(c.do s).2)
def PC.ll(w:Px)(pos:Int)(s:PS):j1×PS:=(⟨w,(c.gV 8 [] s).1,pos⟩,(c.take (⟨#[59]⟩:ByteArray) (c.gV 8 [] s).2).2)
def PC.gW(s:PS):j1×PS:=c.ll (c.eJ (c.take (⟨#[119,104,101,110]⟩:ByteArray) s).2).1 (c.take (⟨#[119,104,101,110]⟩:ByteArray) s).1 (c.take (⟨#[100,111]⟩:ByteArray) (c.eJ (c.take (⟨#[119,104,101,110]⟩:ByteArray) s).2).2).2
def PC.eR{α:Type}(w:ByteArray)(most:Nat)(one:PS→α×PS):Nat→List α→PS→List α×PS
 | 0,l,s=>(l,if c.dS w s then c.many l.length most s else s)
 | m+1,l,s=>if c.dS w s then
    if (c.many l.length most s).over then (l,c.many l.length most s) else PC.eR w most one m (l++[(one (c.many l.length most s)).1]) (one (c.many l.length most s)).2
   else (l,s)
def PC.list{α:Type}(w:ByteArray)(most:Nat)(one:PS→α×PS)(s:PS):List α×PS:=c.eR w most one most [] s
def PC.k6(nm:ByteArray)(pos:Int)(s:PS):iD×PS:=(⟨nm,(c.list (⟨#[119,104,101,110]⟩:ByteArray) 12 c.gW s).1,pos⟩,(c.take (⟨#[125]⟩:ByteArray) (c.list (⟨#[119,104,101,110]⟩:ByteArray) 12 c.gW s).2).2)
def PC.state(s:PS):iD×PS:=c.k6 (c.name (c.take (⟨#[115,116,97,116,101]⟩:ByteArray) s).2).1 (c.take (⟨#[115,116,97,116,101]⟩:ByteArray) s).1 (c.take (⟨#[123]⟩:ByteArray) (c.name (c.take (⟨#[115,116,97,116,101]⟩:ByteArray) s).2).2).2
def PC.slot(s:PS):dr×PS:=(⟨(c.name (c.take (⟨#[115,108,111,116]⟩:ByteArray) s).2).1,(c.take (⟨#[115,108,111,116]⟩:ByteArray) s).1⟩,(c.take (⟨#[59]⟩:ByteArray) (c.name (c.take (⟨#[115,108,111,116]⟩:ByteArray) s).2).2).2)
def PC.end(s:PS):PS:=if s.over then s else if c.l.length≤s.next∨(c.tok s.next).kind≠0 then c.c5 130 s else s
def PC.yL(nm:ByteArray)(rs:List iY)(ss:List dr)(ts:List iD)(s:PS):jo×PS:=(⟨nm,rs,ss,ts⟩,c.end (c.take (⟨#[125]⟩:ByteArray) (if ts.length=0 then c.c5 130 s else s)).2)
def PC.yM(nm:ByteArray)(rs:List iY)(ss:List dr)(s:PS):jo×PS:=c.yL nm rs ss (c.list (⟨#[115,116,97,116,101]⟩:ByteArray) 12 c.state s).1 (c.list (⟨#[115,116,97,116,101]⟩:ByteArray) 12 c.state s).2
def PC.yN(nm:ByteArray)(rs:List iY)(s:PS):jo×PS:=c.yM nm rs (c.list (⟨#[115,108,111,116]⟩:ByteArray) 4 c.slot s).1 (c.list (⟨#[115,108,111,116]⟩:ByteArray) 4 c.slot s).2
def PC.yO(nm:ByteArray)(s:PS):jo×PS:=c.yN nm (c.list (⟨#[114,101,103]⟩:ByteArray) 12 c.lx s).1 (c.list (⟨#[114,101,103]⟩:ByteArray) 12 c.lx s).2
def PC.whole(s:PS):jo×PS:=c.yO (c.name (c.take (⟨#[115,116,114,97,116,101,103,121]⟩:ByteArray) s).2).1 (c.take (⟨#[123]⟩:ByteArray) (c.name (c.take (⟨#[115,116,114,97,116,101,103,121]⟩:ByteArray) s).2).2).2
end
def du(t:ByteArray):PC:=if 4096<(t.size:Int) then ⟨[],0,0⟩ else ⟨(kX t 0).1,((kX t 0).2.map Prod.fst).getD 0,((kX t 0).2.map Prod.snd).getD 0⟩
def eG(t:ByteArray):PS:=⟨0,if 4096<(t.size:Int) then ⟨110,0,true⟩ else ⟨0,0,false⟩⟩
def zF:PF:=⟨0,0,false⟩
def gB(t:ByteArray):jo×PF :=
 let r:=(du t).whole (eG t)
 if r.2.over then (⟨⟨#[]⟩,[],[],[]⟩,r.2.f) else (r.1,zF)
def ng(t:ByteArray):Px×PF :=
 let n:=(du t).eJ (eG t)
 let s:=(du t).end n.2
 if s.over then (gA,s.f) else (n.1,zF)
end Go.Lx
namespace Go.Lx
open Go.Vc
def PC.fin(c:PC)(s:PS):Option PF:=if s.over then some s.f else if c.l.length≤s.next then some ⟨c.bad,c.pos,true⟩ else none
def PC.dI(c:PC)(f:PF)(s:PS):Prop:=c.fin s=some f∧(s.over=false→c.bad≠0)
section
variable {c:PC} {f:PF} {s:PS}
theorem PC.dI.now(h:c.dI f s):c.now s=jm 0:=by
 unfold PC.now
 refine if_pos ?_
 have h1:=h.1
 unfold PC.fin at h1
 by_cases ho:s.over=true
 ·simp[ho]
 ·rw[if_neg ho] at h1
  split at h1
  ·rename_i hl;simp[hl]
  ·cases h1
theorem PC.dI.c5(h:c.dI f s)(e:Int):c.dI f (c.c5 e s):=by
 unfold PC.c5
 split
 ·exact h
 ·rename_i ho
  have h1:=h.1;have h2:=h.2 (by simpa using ho)
  unfold PC.fin at h1
  rw[if_neg ho] at h1
  split at h1
  ·rename_i hl
   rw[if_pos hl]
   have ho2:PS.over ⟨s.next,⟨c.bad,c.pos,true⟩⟩=true:=by simpa[PS.over] using h2
   exact⟨by unfold PC.fin;rw[if_pos ho2];exact h1,fun h=>by rw[ho2] at h;cases h⟩
  ·cases h1
theorem PC.dI.dS(h:c.dI f s)(w:ByteArray):c.dS w s=false:=by
 unfold PC.dS;rw[h.now];simp[jm]
theorem PC.dI.kind(h:c.dI f s):(c.now s).kind=0:=by rw[h.now];rfl
theorem PC.dI.any(h:c.dI f s)(ws:List ByteArray):c.any ws s = -1:=by
 have:∀(ws:List ByteArray) (i:Int),c.iz s ws i = -1:=by
  intro ws
  induction ws with
  | nil=>intro i;rw[PC.iz]
  | cons w r ih=>intro i;rw[PC.iz,h.dS,if_neg (by simp),ih]
 exact this ws 0
theorem PC.dI.take(h:c.dI f s)(w:ByteArray):c.dI f (c.take w s).2:=by
 unfold PC.take;rw[h.dS];exact h.c5 _
theorem PC.dI.name(h:c.dI f s):c.dI f (c.name s).2:=by
 unfold PC.name;rw[h.kind,if_neg (by decide)];exact h.c5 _
theorem PC.dI.literal(h:c.dI f s):c.literal s=((gA,false),s):=by
 unfold PC.literal;rw[h.kind,if_neg (by decide),if_neg (by simp),if_neg (by simp)]
end
def Kp(c:PC)(f:PF){α:Type}(g:PS→α×PS):Prop:=∀s,c.dI f s→c.dI f (g s).2
section
variable {c:PC} {f:PF}
theorem Kp.rest(nx:Lv)(d:Int):Kp c f (c.rest nx d):=fun s h=>by
 unfold PC.rest;rw[h.dS,h.dS];exact h.c5 _
theorem Kp.one(nx:Lv)(d:Int):Kp c f (c.one nx d):=fun s h=>by
 unfold PC.one;rw[h.literal,h.kind,h.any,h.any,h.any,if_neg (by simp),if_neg (by decide),if_neg (by decide),if_neg (by decide),if_neg (by decide)];exact Kp.rest nx d s h
theorem Kp.unary(nx:Lv)(d:Int):Kp c f (c.unary nx d):=fun s h=>by
 unfold PC.unary;rw[h.any,if_pos (by decide)];exact Kp.one nx d s h
theorem Kp.fs{ws:List ByteArray}{o:Int}{sub:PS→Px×PS}:∀(m:Nat) (n:Px),Kp c f (c.fs ws o sub m n)
 | 0,n=>fun s h=>h
 | m+1,n=>fun s h=>by rw[PC.fs,h.any,if_pos (by decide)];exact h
theorem Kp.loop{ws:List ByteArray}{o:Int}{sub:PS→Px×PS}(hs:Kp c f sub):Kp c f (c.loop ws o sub):=fun s h=>Kp.fs _ _ _ (hs s h)
theorem Kp.product(nx:Lv)(d:Int):Kp c f (c.product nx d):=Kp.loop (Kp.unary nx d)
theorem Kp.sum(nx:Lv)(d:Int):Kp c f (c.sum nx d):=Kp.loop (Kp.product nx d)
theorem Kp.compare(nx:Lv)(d:Int):Kp c f (c.compare nx d):=fun s h=>by
 have h1:=Kp.sum nx d s h
 unfold PC.compare
 show c.dI f (if c.any lu (c.sum nx d s).2<0 then c.sum nx d s else _:Px×PS).2
 rw[h1.any,if_pos (by decide)];exact h1
theorem Kp.and(nx:Lv)(d:Int):Kp c f (c.and nx d):=Kp.loop (Kp.compare nx d)
theorem Kp.or(nx:Lv)(d:Int):Kp c f (c.or nx d):=Kp.loop (Kp.and nx d)
theorem Kp.expr(nx:Lv)(d:Int):Kp c f (c.expr nx d):=fun s h=>by
 have h1:=Kp.or nx d s h
 unfold PC.expr
 show c.dI f (if c.dS _ (c.or nx d s).2 then _ else c.or nx d s:Px×PS).2
 rw[h1.dS];exact h1
theorem Kp.lvl:∀(k:Nat) (d:Int),Kp c f (c.lvl k d).ex∧Kp c f (c.lvl k d).un
 | 0,d=>⟨Kp.expr _ d,Kp.unary _ d⟩
 | k+1,d=>⟨Kp.expr _ d,Kp.unary _ d⟩
theorem Kp.eJ:Kp c f c.eJ:=(Kp.lvl 24 0).1
theorem Kp.kids{nx:Lv}(hx:Kp c f nx.ex):∀(n:Nat) (b:Bool),Kp c f (c.dW nx n b)
 | 0,b=>fun s h=>h
 | n+1,b=>fun s h=>by
   rw[PC.dW]
   refine Kp.kids hx n false _ (hx _ ?_)
   split
   ·exact h
   ·exact h.take _
theorem Kp.oL(nm:ByteArray)(t p p2:Int)(m:Bool)(n:Px):Kp c f (c.oL nm t p p2 m n):=fun s h=>h.take _
theorem Kp.kY(nm:ByteArray)(t p p2:Int)(m:Bool):Kp c f (c.kY nm t p p2 m):=fun s h=>by
 unfold PC.kY;split
 ·exact h.c5 _
 ·refine Kp.oL _ _ _ _ _ _ _ ?_
  rw[h.literal,if_neg (by simp)];exact h.c5 _
theorem Kp.nY(nm:ByteArray)(t p:Int):Kp c f (c.nY nm t p):=fun s h=>by
 unfold PC.nY;rw[h.dS,if_neg (by simp)];exact Kp.kY _ _ _ _ _ _ h
theorem Kp.nZ(nm:ByteArray)(p:Int):Kp c f (c.nZ nm p):=fun s h=>by
 unfold PC.nZ;rw[h.any,if_pos (by decide)];exact h.c5 _
theorem Kp.iQ:Kp c f c.iQ:=fun s h=>by
 unfold PC.iQ;rw[h.dS,if_neg (by simp)];exact h
theorem Kp.mq(x y:Px)(p:Int)(z:Px)(o:Int):Kp c f (c.mq x y p z o):=fun s h=>Kp.iQ s h
theorem Kp.oM(x y:Px)(p:Int)(z:Px):Kp c f (c.oM x y p z):=fun s h=>by
 unfold PC.oM;rw[h.any,if_pos (by decide)];exact h.c5 _
theorem Kp.n6(x y:Px)(p:Int):Kp c f (c.n6 x y p):=fun s h=>by
 unfold PC.n6;rw[h.any,if_pos (by decide)];exact h.c5 _
theorem Kp.tb(x:Px)(p:Int):Kp c f (c.tb x p):=fun s h=>Kp.n6 _ _ _ _ (Kp.eJ _ (h.take _))
theorem Kp.zq(nm:ByteArray)(p:Int)(x:Px):Kp c f (c.zq nm p x):=fun s h=>Kp.eJ _ (h.take _)
theorem Kp.BA(nm:ByteArray)(p:Int):Kp c f (c.BA nm p):=fun s h=>Kp.eJ _ (h.take _)
theorem Kp.uF(k:Int)(nm:ByteArray)(p:Int):Kp c f (c.uF k nm p):=fun s h=>by
 unfold PC.uF;split
 ·exact Kp.zq _ _ _ _ (Kp.eJ _ (h.take _))
 ·split
  ·exact Kp.BA _ _ _ h
  ·exact h
theorem Kp.do:Kp c f c.do:=fun s h=>by
 unfold PC.do;rw[h.any,if_pos (by decide)];exact h.c5 _
theorem Kp.gV:∀(m:Nat) (l:List mo),Kp c f (c.gV m l)
 | 0,l=>fun s h=>h
 | m+1,l=>fun s h=>by
   have h1:=Kp.do s h
   rw[PC.gV,h1.dS,if_neg (by simp)];exact h1
theorem Kp.ll(w:Px)(p:Int):Kp c f (c.ll w p):=fun s h=>(Kp.gV 8 [] s h).take _
theorem Kp.eR{α:Type}(w:ByteArray)(most:Nat)(one:PS→α×PS):∀(m:Nat) (l:List α),Kp c f (c.eR w most one m l)
 | 0,l=>fun s h=>by rw[PC.eR,h.dS];exact h
 | m+1,l=>fun s h=>by rw[PC.eR,h.dS];exact h
theorem Kp.list{α:Type}(w:ByteArray)(most:Nat)(one:PS→α×PS):Kp c f (c.list w most one):=Kp.eR w most one most []
theorem Kp.k6(nm:ByteArray)(p:Int):Kp c f (c.k6 nm p):=fun s h=>(Kp.list _ _ _ s h).take _
end
end Go.Lx
namespace Go.Lx
open Go.Vc
def wN(s:ByteArray)(i:Int):TR:=if dh (bt s i) then jc s i else if gT (bt s i) then jY s i else jZ s i
theorem so(s:ByteArray)(f:Int):gU s f=if dk s f=s.size then .ok (jm (dk s f)) else wN s (dk s f):=rfl
theorem yP{p:Int→Bool}{s:ByteArray}{i E:Int}(h:i≤E)(hE:E≤s.size)(hall:∀k,i≤k→k<E→p (bt s k)=true)(hend:E<s.size→p (bt s E)=false):dy p s i=E:=by
 obtain⟨n,hn⟩:∃n:Nat,n=(E-i).toNat:=⟨_,rfl⟩
 induction n generalizing i with
 | zero =>
   have:i=E:=by omega
   subst this
   rcases Int.lt_or_le i s.size with h' | h'
   ·rw[dx h',hend h'];rfl
   ·exact jy h'
 | succ n ih =>
   rw[dx (by omega),if_pos (hall i (Int.le_refl i) (by omega))]
   exact ih (by omega) (fun k h1 h2=>hall k (by omega) h2) (by omega)
theorem sr{p:Int→Bool}{s:ByteArray}{i k:Int}(h1:i≤k)(h2:k<dy p s i)(h3:i≤(s.size:Int)):p (bt s k)=true:=(uA h1 h2 h3).1
theorem vO{s s':ByteArray}{i i' E:Int}(hE:i≤E)(hEs:E≤s.size)(hE':i'+(E-i)≤s'.size)(hag:∀k,0≤k→k<E-i→bt s' (i'+k)=bt s (i+k))(hd:∀k,i≤k→k<E→dh (bt s k)=true)
  (h1:E<s.size→dh (bt s E)=false) (h2:i'+(E-i)<s'.size→dh (bt s' (i'+(E-i)))=false) (v:Int):dU s' i' v=dU s i v:=by
 obtain⟨n,hn⟩:∃n:Nat,n=(E-i).toNat:=⟨_,rfl⟩
 induction n generalizing i i' v with
 | zero =>
   have hi:i=E:=by omega
   subst hi
   have e1:dU s i v=v:=by
    rcases Int.lt_or_le i s.size with h | h
    ·rw[gy h,h1 h];rfl
    ·exact lW h
   have e2:dU s' i' v=v:=by
    rcases Int.lt_or_le i' s'.size with h | h
    ·rw[gy h,show dh (bt s' i')=false by have:=h2 (by omega);rwa [show i'+(i-i)=i' by omega] at this];rfl
    ·exact lW h
   rw[e1,e2]
 | succ n ih =>
   have hb:bt s' i'=bt s i:=by have:=hag 0 (Int.le_refl 0) (by omega);rwa [Int.add_zero,Int.add_zero] at this
   rw[gy (s:=s) (by omega),gy (s:=s') (by omega),hb,hd i (Int.le_refl i) (by omega)]
   simp only[if_true]
   refine ih (i:=i+1) (i':=i'+1) (by omega) (by omega) (fun k g0 g1=>?_) (fun k g0 g1=>hd k (by omega) g1) (fun h=>?_) _ (by omega)
   ·have:=hag (k+1) (by omega) (by omega)
    rw[show i'+1+k=i'+(k+1) by omega,show i+1+k=i+(k+1) by omega];exact this
   ·have:=h2 (by omega)
    rwa [show i'+1+(E-(i+1))=i'+(E-i) by omega]
theorem yQ{s s':ByteArray}{i i':Int}{n:Int}(h0:0≤i)(h0':0≤i')(hn:0≤n)(hle:i+n≤s.size)(hle':i'+n≤s'.size)(hag:∀k,0≤k→k<n→bt s' (i'+k)=bt s (i+k)):cut s' i' (i'+n)=cut s i (i+n):=by
 have h1:=g9 h0 (by omega:i≤i+n) hle
 have h2:=g9 h0' (by omega:i'≤i'+n) hle'
 refine vK (by omega) fun k hk=>?_
 rw[lI h0' (by omega) (by omega) hle',lI h0 (by omega) (by omega) hle]
 exact hag k (by omega) (by omega)
theorem zI{s:ByteArray}{i:Int}{t:Tok}(h:jc s i=.ok t) :
  ∃E e2,E=dy dh s i∧e2=(if dV (cZ s E)=1 then E else E+1)∧¬(dU s i 0>9223372036854775807∨(E-i>1∧bt s i=48)∨(e2<s.size∧(dF (bt s e2)=true∨(65≤bt s e2∧bt s e2≤90)))) ∧
   t=⟨3,cut s i e2,dV (cZ s E),dU s i 0,i⟩:=by
 refine⟨_,_,rfl,rfl, ?_, ?_⟩
 ·intro hc
  have:jc s i=.bad 113 i:=if_pos hc
  rw[this] at h;cases h
 ·have:∀C:Prop,[Decidable C]→∀x y:TR,(if C then x else y)=.ok t→x=.bad 113 i→y=.ok t:=fun C _ x y h hx=>by
   split at h
   ·rw[hx] at h;cases h
   ·exact h
  have:=this _ _ _ h rfl
  cases this;rfl
theorem qN(s:ByteArray):∀(n:Nat) (f:Int),(jI s n f).1.length≤n
 | 0,f=>Nat.le_refl _
 | n+1,f=>by
   unfold jI
   cases gU s f with
   | bad e p=>simp
   | ok t =>
     simp only
     split
     ·simp
     ·simp only[List.length_cons];exact Nat.succ_le_succ (qN s n _)
theorem zJ{C D:Prop}[Decidable C][Decidable D](h:C↔D){α:Type}(x y:α):(if C then x else y)=if D then x else y:=by
 by_cases hc:C
 ·rw[if_pos hc,if_pos (h.1 hc)]
 ·rw[if_neg hc,if_neg (fun hd=>hc (h.2 hd))]
structure gC (b z:ByteArray) (d:Int):Prop where
 d0:0≤d
 size:(z.size:Int)=b.size+d
 same:∀k,0≤k→k<(b.size:Int)→bt z (k+d)=bt b k
theorem gC.run{b z:ByteArray}{d:Int}(h:gC b z d){p:Int→Bool}{i:Int}(h0:0≤i)(h1:i≤b.size):dy p z (i+d)=dy p b i+d:=by
 have hE:=eP (p:=p) h1
 have hd:=h.d0
 have hs:=h.size
 refine yP (by omega) (by omega) (fun k g0 g1=>?_) fun hl=>?_
 ·rw[show k=k-d+d by omega,h.same (k-d) (by omega) (by omega)];exact sr (by omega) (by omega) h1
 ·rw[h.same _ (by omega) (by omega)];exact jX h1 (by omega)
theorem gC.byte{b z:ByteArray}{d:Int}(h:gC b z d){i:Int}(h0:0≤i):cZ z (i+d)=cZ b i:=by
 have hs:=h.size
 unfold cZ
 by_cases hh:i<b.size
 ·rw[if_pos (by omega),if_pos hh,h.same i h0 hh]
 ·rw[if_neg (by omega),if_neg hh]
theorem gC.cut{b z:ByteArray}{d:Int}(h:gC b z d){i e:Int}(h0:0≤i)(h1:i≤e)(h2:e≤b.size):cut z (i+d) (e+d)=cut b i e:=by
 have hd:=h.d0
 have hs:=h.size
 have hc:=yQ (s:=b) (s':=z) (i:=i) (i':=i+d) (n:=e-i) h0 (by omega) (by omega) (by omega) (by omega) fun k g0 g1=>by
  rw[show i+d+k=i+k+d by omega];exact h.same _ (by omega) (by omega)
 rwa [show i+(e-i)=e by omega,show i+d+(e-i)=e+d by omega] at hc
theorem gC.val{b z:ByteArray}{d:Int}(h:gC b z d){i:Int}(h0:0≤i)(h1:i≤b.size):dU z (i+d) 0=dU b i 0:=by
 have hd:=h.d0
 have hs:=h.size
 have hE:=eP (p:=dh) h1
 refine vO (E:=dy dh b i) hE.1 hE.2 (by omega) (fun k g0 g1=>?_) (fun k g0 g1=>sr g0 g1 h1) (fun hl=>jX h1 hl) (fun hl=>?_) 0
 ·rw[show i+d+k=i+k+d by omega];exact h.same _ (by omega) (by omega)
 ·rw[show i+d+(dy dh b i-i)=dy dh b i+d by omega,h.same _ (by omega) (by omega)];exact jX h1 (by omega)
def TR.shift(d:Int):TR→TR
 | .ok t=>.ok ⟨t.kind,t.text,t.iS,t.n,t.pos+d⟩
 | .bad e p=>.bad e (p+d)
theorem kx{C:Prop}[Decidable C]{d:Int}{x y:TR}:TR.shift d (if C then x else y)=if C then x.shift d else y.shift d:=by split<;>rfl
theorem gC.num{b z:ByteArray}{d:Int}(h:gC b z d){i:Int}(h0:0≤i)(h1:i<b.size):jc z (i+d)=(jc b i).shift d:=by
 have hd:=h.d0
 have hs:=h.size
 have hE:=eP (p:=dh) (s:=b) (i:=i) (by omega)
 have hr:=h.run (p:=dh) (i:=i) h0 (by omega)
 have hv:=h.val (i:=i) h0 (by omega)
 generalize hEd:dy dh b i=E at hE hr
 have hby:=h.byte (i:=E) (by omega)
 have htE:dV (cZ b E)≠1→E<b.size:=fun hne=>by
  rcases Int.lt_or_le E b.size with h | h
  ·exact h
  ·rw[show cZ b E=0 by unfold cZ;rw[if_neg (by omega)]] at hne;exact absurd rfl hne
 have he2:∃e2,e2=(if dV (cZ b E)=1 then E else E+1)∧(if dV (cZ b E)=1 then E+d else E+d+1)=e2+d∧E≤e2∧e2≤b.size:=by
  refine⟨_,rfl, ?_⟩
  split
  ·exact⟨rfl,by omega⟩
  ·rename_i hne;have:=htE hne;exact⟨by omega,by omega⟩
 obtain⟨e2,he2,he2',hb1,hb2⟩:=he2
 have hb0:bt z (i+d)=bt b i:=h.same i h0 h1
 have hc:(e2+d<z.size∧(dF (bt z (e2+d))=true∨(65≤bt z (e2+d)∧bt z (e2+d)≤90)))↔(e2<b.size∧(dF (bt b e2)=true∨(65≤bt b e2∧bt b e2≤90))):=by
  rcases Int.lt_or_le e2 b.size with hh | hh
  ·rw[h.same e2 (by omega) hh]
   exact⟨fun x=>⟨hh,x.2⟩,fun x=>⟨by omega,x.2⟩⟩
  ·exact⟨fun x=>by omega,fun x=>by omega⟩
 have hdig:(E+d-(i+d)>1∧bt b i=48)↔(E-i>1∧bt b i=48):=by rw[show E+d-(i+d)=E-i by omega]
 unfold jc
 simp only[hr,hEd,hby,he2',←he2,hv,hb0,h.cut h0 (by omega:i≤e2) hb2]
 rw[kx]
 exact zJ (or_congr (Iff.refl (dU b i 0>9223372036854775807)) (or_congr hdig hc)) _ _
theorem gC.read{b z:ByteArray}{d:Int}(h:gC b z d){i:Int}(h0:0≤i)(h1:i<b.size):wN z (i+d)=(wN b i).shift d:=by
 have hb0:bt z (i+d)=bt b i:=h.same i h0 h1
 have hn:jY z (i+d)=(jY b i).shift d:=by
  have hE:=eP (p:=dF) (s:=b) (i:=i) (by omega)
  unfold jY
  simp only[h.run (p:=dF) (i:=i) h0 (by omega),h.cut h0 hE.1 hE.2,show dy dF b i+d-(i+d)=dy dF b i-i by omega]
  rw[kx]
  rfl
 have hm:jZ z (i+d)=(jZ b i).shift d:=by
  have hr:=j2 b i
  have hl:=nU h1
  have hmn:fm z (i+d)=fm b i:=by
   unfold fm
   rw[hb0,show i+d+1=i+1+d by omega,h.byte (i:=i+1) (by omega)]
  unfold jZ
  rw[hmn,show i+d+fm b i=i+fm b i+d by omega,h.cut h0 (by omega) hl,kx]
  rfl
 unfold wN
 rw[hb0,h.num h0 h1,hn,hm,kx,kx]
theorem gC.over{b z:ByteArray}{d:Int}(h:gC b z d):∀(n:Nat) (r:Bool) (f:Int),0≤f→f≤b.size→(b.size-f).toNat=n→lh z r (f+d)=lh b r f+d:=by
 have hs:=h.size
 intro n
 induction n with
 | zero =>
   intro r f h0 h1 hn
   rw[jz (by omega),jz (by omega)]
 | succ n ih =>
   intro r f h0 h1 hn
   rw[fy (s:=b) (by omega),fy (s:=z) (by omega),h.same f h0 (by omega)]
   split
   ·rfl
   ·rw[show f+d+1=f+1+d by omega]
    exact ih _ (f+1) (by omega) (by omega) (by omega)
theorem gC.tok{b z:ByteArray}{d:Int}(h:gC b z d){f:Int}(h0:0≤f)(h1:f≤b.size):gU z (f+d)=(gU b f).shift d:=by
 have hs:=h.size
 have ho:=iv (s:=b) h1
 have hz:dk z (f+d)=dk b f+d:=h.over _ false f h0 h1 rfl
 rw[so,so,hz]
 by_cases he:dk b f=b.size
 ·rw[if_pos (by omega),if_pos he];rfl
 ·rw[if_neg (by omega),if_neg he,h.read (by omega) (by omega)]
end Go.Lx
namespace Go.Vc
open Go.ChangeShapes Go.WideShapes Go.ChangeAt Go.RowKit
def cS.all(w:World):cS:=⟨fun b=>w.heap[b]?,w.os,w.output⟩
theorem Sat.all(w:World):Sat (cS.all w) [] w:=⟨fun _ _ h=>h,fun _ _ h=>by simp at h,fun _ _ h=>by simp at h,List.nodup_nil,rfl,rfl⟩
structure j6 (w w':World):Prop where
 heap:∀i,i<w.heap.size→w'.heap[i]? = w.heap[i]?
 os:w'.os=w.os
 out:w'.output=w.output
theorem j6.of{w w':World}{I:cS}{F:cR}(hl:cS.le (cS.all w) I)(hs:Sat I F w'):j6 w w':=by
 refine⟨fun i hi=>?_,hs.env.1.trans hl.2.1,hs.env.2.trans hl.2.2⟩
 obtain⟨o,ho⟩:∃o,w.heap[i]? = some o:=⟨_,Array.getElem?_eq_getElem hi⟩
 rw[ho]
 exact hs.imm _ _ (hl.1 i o ho)
theorem j6.kept{w w':World}(h:j6 w w')(may:MemPlace→Prop):w.keptBut w' may:=by
 refine⟨h.os,h.out,fun i hi=>?_⟩
 rw[h.heap i hi]
 cases w.heap[i]? with
 | none=>rfl
 | some o=>cases o with
   | cells c t fr=>exact⟨rfl,rfl,rfl,fun _ _=>rfl⟩
   | map es clock=>exact .inr ⟨rfl,rfl⟩
   | _=>rfl
theorem j6.frozen{w w':World}(h:j6 w w'){a:Addr}(ha:a.block<w.heap.size):w'.frozen? a=w.frozen? a:=by
 unfold World.frozen?;rw[h.heap _ ha]
theorem vP{H:Type}{enc:TypeId×Value→H}{P:Program}{f:Func}{s:ChangeSpec}{apart fresh handsOn again:Bool}{W W':World}{args:Array Value}{v:Value}{ds gs:List (DataW H)}{before pa pv:List MemPlace}
  (hW:DataW.Whole enc P f.params.toList s.vars apart W args.toList ds gs before)
  (hres:∀(b:Nat) (sp:Nat→Bool) (hd:Bool),DataW.TrodAll enc P W' b sp hd f.resultTypes.toList (v.resultList f.resultTypes.size) (s.fn H (ds++gs)).results [])
  (hargs:∀sp:Nat→Bool,(∀p∈before,sp p.block=true)→DataW.TrodAll enc P W' 0 sp true f.params.toList args.toList (s.fn H (ds++gs)).args pa)
  (hvars:∀sp:Nat→Bool,(∀p∈before,sp p.block=true)→DataW.TrodVars enc P W' sp s.vars (s.fn H (ds++gs)).vars pv)
  (hps:before=pa++pv) (hk:j6 W W')
  (hok:∀(j:Nat) (t:TypeId) (r:Value),f.resultTypes[j]? = some t→(v.resultList f.resultTypes.size)[j]? = some r→Value.okWide P W' .any 0 t r) :
  s.post enc P f apart fresh handsOn again W args v W':=by
 have hold:∀p∈before,(fun b=>decide (b<W.heap.size)) p.block=true:=fun p hp=>by simpa using hW.lt p hp
 have hlt:∀p∈before,p.block<W.heap.size:=fun p hp=>hW.lt p hp
 refine⟨ds,gs,before,[],pa,pv,hW,hres _ _ _,hargs _ hold,hvars _ hold,World.keptBut_mono (fun p hp=>⟨hp, ?_⟩) (hk.kept (·∈before)),fun _=>?_⟩
 ·rw[hps,List.mem_append] at hp
  exact Or.inr hp
 ·obtain⟨_,_,_,_,_,hz,hn⟩:=hW
  refine⟨hok,_,_,([]++pa)++pv,⟨[]++pa,pv,trodAll_append (hargs _ (fun _ _=>rfl)) (hres _ _ _),hvars _ (fun _ _=>rfl),rfl, ?_, ?_⟩, ?_⟩
  ·intro b off hp
   have hp':MemPlace.cell b off∈before:=by rw[hps];simpa using hp
   rw[hk.frozen (hlt _ hp')]
   exact hz b off hp'
  ·intro ha
   have:=hn ha
   rw[hps] at this
   simpa using this
  ·intro p hp _
   rw[hps]
   simpa using hp
end Go.Vc
namespace Go.Lx
open Go.Vc Go.Proofs.Tryz
def jf:List (Nat×List Sh):=[(0,[]),(3,[.one (.int .i64)]),(4,[.one .bool]),(9,[.one .str]),(48,[.one (.int .i64)]),(74,[.one (.int .u8)]),(76,[.agg [(.int .u8),.str,(.int .u8),(.int .i64),(.int .i64)]]),(80,[.one .slc]),(81,[.one .slc,.one (.int .i64),.one (.int .i64)])]
def fT.V(p:Addr)(I:cS)(F:cR)(Q:cT)  : Prop:=∃ad:Addr,some p=some ad∧∃(m:Int),Rd I F ((ad.add 4).add 0) [.int .i64 m]∧Q (.returned (.bool (m != 0))) I (F)
theorem fT.vc{p:Addr}{I:cS}{F:cR}{Q:cT}  (h:fT.V p I F Q):cU P 30 #[.pointer (some p)] I F Q :=
 tw (A:=(an [] [] jf)) [] func30 h
def gD.V(ka:Nat→Int→Bs→Int→Int→Int→Nat×Obj)(vb vi:Int→Value)(vs:Bs→Value)(p:Addr)(I:cS)(F:cR)(Q:cT)  : Prop:=∀b:Nat,∃(r:Bool),(cU P 30 (#[.pointer (some p)]) I ((ka b 0 (⟨#[]⟩:Bs) 0 0 0)::F) fun e1 I1 G1=>e1=.returned (.bool r)∧List.Perm G1 ((ka b 0 (⟨#[]⟩:Bs) 0 0 0)::F))∧(It r (Q (.returned (.agg #[vb 0,vs (⟨#[]⟩:Bs),vb 0,vi 0,vi 0])) I F) (∃ad:Addr,some p=some ad∧∃(m:Int),Rd I ((ka b 0 (⟨#[]⟩:Bs) 0 0 0)::F) (ad.add 3) [vi m]∧∃j:Addr,some p=some j∧∃(q:OA) (a s:Nat),Rd I ((ka b 0 (⟨#[]⟩:Bs) 0 0 0)::F) (j.add 0) [.slice q a s]∧(Dt (m≥(a:Int)) (Q (.returned (.agg #[vb 0,vs (⟨#[]⟩:Bs),vb 0,vi 0,vi 0])) I F) (∃k:Addr,some p=some k∧∃(c:OA) (d o:Nat),Rd I ((ka b 0 (⟨#[]⟩:Bs) 0 0 0)::F) (k.add 0) [.slice c d o]∧∃l:Addr,some p=some l∧∃(m1:Int),Rd I ((ka b 0 (⟨#[]⟩:Bs) 0 0 0)::F) (l.add 3) [vi m1]∧((0≤m1∧m1<(d:Int))∧∃n:Addr,c=some n∧∃(e:Int) (f:Bs) (g h i:Int),Rd I ((ka b 0 (⟨#[]⟩:Bs) 0 0 0)::F) (n.add (Int.toNat m1*5)) [vb e,vs f,vb g,vi h,vi i]∧Q (.returned (.agg #[vb e,vs f,vb g,vi h,vi i])) I F)))))
theorem gD.vc{p:Addr}{I:cS}{F:cR}{Q:cT}  (h:gD.V (fun W a b c d e=>(W,Obj.cells #[.int .u8 a,.string b,.int .u8 c,.int .i64 d,.int .i64 e] 76 (0,0))) (.int .u8) (.int .i64) .string p I F Q):cU P 95 #[.pointer (some p)] I F Q :=
 tw (A:=(dv [1001,1012] [] [30] jf [] [] [] [(3,10,[0])] [] [] [])) [30] func95 h
def fA.V(vi:Int→Value)(p:Addr)(e1:Int)(I:cS)(F:cR)(Q:cT)  : Prop:=dR P 30 (#[.pointer (some p)]) I (·) F .bool fun r I1 F1=>(It r (Q (.returned (.tuple #[])) I1 F1) (∃ad:Addr,some p=some ad∧∃(m:Int),Rd I1 F1 (ad.add 3) [vi m]∧∃h:Addr,some p=some h∧∃(q:OA) (c s:Nat),Rd I1 F1 (h.add 0) [.slice q c s]∧(Dt (m≥(c:Int)) (∃i:Addr,some p=some i∧∃(m1:Int),Rd I1 F1 (i.add 1) [vi m1]∧∃j:Addr,some p=some j∧∃(m2:Int),Rd I1 F1 (j.add 2) [vi m2]∧∃a:Addr,some p=some a∧∃(cs:List Value) (el:Nat) (F2:cR),List.Perm F1 (((a.add 4).block,Obj.cells cs.toArray el (0,0))::F2)∧(a.add 4).spot=none∧(a.add 4).off+3≤cs.length∧Q (.returned (.tuple #[])) I1 ((((a.add 4).block,Obj.cells (cY (a.add 4).off [vi m1,vi m2,.bool true] cs).toArray el (0,0))::F2))) (∃k:Addr,some p=some k∧∃(d:OA) (e o:Nat),Rd I1 F1 (k.add 0) [.slice d e o]∧∃l:Addr,some p=some l∧∃(m3:Int),Rd I1 F1 (l.add 3) [vi m3]∧((0≤m3∧m3<(e:Int))∧∃n:Addr,d=some n∧∃(m4:Int),Rd I1 F1 ((n.add (Int.toNat m3*5)).add 4) [vi m4]∧∃b:Addr,some p=some b∧∃(f:List Value) (g:Nat) (F3:cR),List.Perm F1 (((b.add 4).block,Obj.cells f.toArray g (0,0))::F3)∧(b.add 4).spot=none∧(b.add 4).off+3≤f.length∧Q (.returned (.tuple #[])) I1 ((((b.add 4).block,Obj.cells (cY (b.add 4).off [vi e1,vi m4,.bool false] f).toArray g (0,0))::F3)))))))
theorem fA.vc{p:Addr}{e1:Int}{I:cS}{F:cR}{Q:cT}  (h:fA.V (.int .i64) p e1 I F Q):cU P 81 #[.pointer (some p),.int .i64 e1] I F Q :=
 tw (A:=(dv [1,1009] [] [30] jf [] [] [] [(2,12,[]),(3,16,[])] [] [] [])) [30] func81 h
def hY.V(p:Addr)(s:Bs)(I:cS)(F:cR)(Q:cT)  : Prop:=eM P 95 (#[.pointer (some p)]) I (·) F fun e1 I1 G1=>∃(a:Int) (b:Bs) (c d e:Int),e1=.returned (.agg #[.int .u8 a,.string b,.int .u8 c,.int .i64 d,.int .i64 e])∧G1 fun F1=>∀f:Nat,(It (b.toList==s.toList) (It (a==1) (Q (.returned (.bool true)) I1 F1) (Q (.returned (.bool (a==4))) I1 F1)) (Q (.returned (.bool false)) I1 F1))
theorem hY.vc{p:Addr}{s:Bs}{I:cS}{F:cR}{Q:cT}  (h:hY.V p s I F Q):cU P 76 #[.pointer (some p),.string s] I F Q :=
 tw (A:=(an [2003,2007] [95] jf)) [95] func76 h
def gE.V(p:Addr)(b:OA)(a c:Nat)(I:cS)(F:cR)(Q:cT)(Inv6:Int→Int→Nat→cS→cR→Prop):Prop:=(∃m:Nat,Inv6 0 0 m I F)∧∀(x i:Int) (m1:Nat) (I1:cS) (F1:cR),cS.le I I1→Inv6 x i m1 I1 F1→(Dt (i<(a:Int)) ((0≤i∧i<(a:Int))∧∃ad:Addr,b=some ad∧∃(m2:Bs),Rd I1 F1 (ad.add (Int.toNat i*1)) [.string m2]∧dR P 76 (#[.pointer (some p),.string m2]) I1 (·) F1 .bool fun r I2 F2=>(It r (Q (.returned (.int .i64 i)) I2 F2) (∃m3:Nat,m3<m1∧Inv6 x (IntKind.wrap .i64 (i+1)) m3 I2 F2))) (Q (.returned (.int .i64 (-1))) I1 F1))
theorem gE.vc{p:Addr}{a:OA}{b c:Nat}{I:cS}{F:cR}{Q:cT}(Inv6:Int→Int→Nat→cS→cR→Prop)(h:gE.V p a b c I F Q Inv6):cU P 108 #[.pointer (some p),.slice a b c] I F Q :=
 tw (A:=(dv [2003,5000] [] [76] jf [(6,⟨[(4,(.int .i64)),(5,(.int .i64))],[],fun _ _ _ vs m I F=>match vs with | [.int _ y0,.int _ y1]=>Inv6 y0 y1 m I F | _=>False,[],[]⟩)] [] [] [] [] [] [])) [76] func108 h
def fU.V(vi:Int→Value)(p:Addr)(s:Bs)(I:cS)(F:cR)(Q:cT)  : Prop:=dR P 76 (#[.pointer (some p),.string s]) I (·) F .bool fun r I1 F1=>(It (!r) (eM P 81 (#[.pointer (some p),vi 130]) I1 (·) F1 fun e2 I2 G2=>e2=.returned (.tuple #[])∧G2 fun F2=>Q (.returned (vi 0)) I2 F2) (eM P 95 (#[.pointer (some p)]) I1 (·) F1 fun e3 I3 G3=>∃(c:Int) (d:Bs) (e f b:Int),e3=.returned (.agg #[.int .u8 c,.string d,.int .u8 e,vi f,vi b])∧G3 fun F3=>∃ad:Addr,some p=some ad∧∃(m:Int),Rd I3 F3 (ad.add 3) [vi m]∧∃a:Addr,some p=some a∧∃(cs:List Value) (el:Nat) (F4:cR),List.Perm F3 (((a.add 3).block,Obj.cells cs.toArray el (0,0))::F4)∧(a.add 3).spot=none∧(a.add 3).off+1≤cs.length∧Q (.returned (vi b)) I3 ((((a.add 3).block,Obj.cells (cY (a.add 3).off [vi (IntKind.wrap .i64 (m+1))] cs).toArray el (0,0))::F4))))
theorem fU.vc{p:Addr}{s:Bs}{I:cS}{F:cR}{Q:cT}  (h:fU.V (.int .i64) p s I F Q):cU P 74 #[.pointer (some p),.string s] I F Q :=
 tw (A:=(an [2001] [76,81,95] jf)) [76,81,95] func74 h
def fV.V(vb vi:Int→Value)(vs:Bs→Value)(p:Addr)(I:cS)(F:cR)(Q:cT)  : Prop:=eM P 95 (#[.pointer (some p)]) I (·) F fun e1 I1 G1=>∃(a:Int) (c:Bs) (d e f:Int),e1=.returned (.agg #[vb a,vs c,vb d,vi e,vi f])∧G1 fun F1=>∀g:Nat,(It (a != 2) (eM P 81 (#[.pointer (some p),vi 130]) I1 ((g,Obj.cells #[vb a,vs c,vb d,vi e,vi f] 76 (0,0))::·) F1 fun e2 I2 G2=>e2=.returned (.tuple #[])∧G2 fun F2=>Q (.returned (vs (⟨#[]⟩:Bs))) I2 F2) (∃ad:Addr,some p=some ad∧∃(m:Int),Rd I1 ((g,Obj.cells #[vb a,vs c,vb d,vi e,vi f] 76 (0,0))::F1) (ad.add 3) [vi m]∧∃b:Addr,some p=some b∧∃(cs:List Value) (el:Nat) (F3:cR),List.Perm F1 (((b.add 3).block,Obj.cells cs.toArray el (0,0))::F3)∧(b.add 3).spot=none∧(b.add 3).off+1≤cs.length∧Q (.returned (vs c)) I1 ((((b.add 3).block,Obj.cells (cY (b.add 3).off [vi (IntKind.wrap .i64 (m+1))] cs).toArray el (0,0))::F3))))
theorem fV.vc{p:Addr}{I:cS}{F:cR}{Q:cT}  (h:fV.V (.int .u8) (.int .i64) .string p I F Q):cU P 75 #[.pointer (some p)] I F Q :=
 tw (A:=(an [2002] [81,95] jf)) [81,95] func75 h
def fe.V(vt:Bool→Value)(p:Addr)(d:Int)(I:cS)(F:cR)(Q:cT)  : Prop:=(Dt ((IntKind.wrap .i64 (d+1))>24) (eM P 81 (#[.pointer (some p),.int .i64 132]) I (·) F fun e1 I1 G1=>e1=.returned (.tuple #[])∧G1 fun F1=>dR P 30 (#[.pointer (some p)]) I1 (·) F1 vt fun r I2 F2=>Q (.returned (vt (!r))) I2 F2) (dR P 30 (#[.pointer (some p)]) I (·) F vt fun r1 I3 F3=>Q (.returned (vt (!r1))) I3 F3))
theorem fe.vc{p:Addr}{d:Int}{I:cS}{F:cR}{Q:cT}  (h:fe.V .bool p d I F Q):cU P 94 #[.pointer (some p),.int .i64 d] I F Q :=
 tw (A:=(an [1002] [30,81] jf)) [30,81] func94 h
def eS.V(nV:Int→Int→Int→Int→Int→Bs→OA→Nat→Nat→Int→Value)(nO:Int→Int→Int→Int→Int→Bs→OA→Nat→Nat→Int→Obj)(vb vi:Int→Value)(vt:Bool→Value)(p:Addr)(I:cS)(F:cR)(Q:cT)(Inv6:Bool→Int→Int→Int→Int→Int→Bs→OA→Nat→Nat→Int→Int→Int→Int→Int→Int→Bs→OA→Nat→Nat→Int→cS→cR→Prop):Prop:=∀b:Nat,eM P 95 (#[.pointer (some p)]) I ((b,nO 0 0 0 0 0 (⟨#[]⟩:Bs) none 0 0 0)::·) F fun e1 I1 G1=>∃(d:Int) (a:Bs) (u v c:Int),e1=.returned (.agg #[vb d,.string a,vb u,vi v,vi c])∧G1 fun F1=>∀af:Nat,∀ag:Nat,((It (d==3) (Inv6 false 0 0 0 0 0 (⟨#[]⟩:Bs) none 0 0 0 1 0 u v 0 (⟨#[]⟩:Bs) none 0 0 c I1 F1) (It (d==1) (It (a.toList==(⟨#[116,114,117,101]⟩:Bs).toList) (It (a.toList==(⟨#[116,114,117,101]⟩:Bs).toList) (Inv6 false 0 0 0 0 0 (⟨#[]⟩:Bs) none 0 0 0 1 0 5 1 0 (⟨#[]⟩:Bs) none 0 0 c I1 F1) (Inv6 false 0 0 0 0 0 (⟨#[]⟩:Bs) none 0 0 0 1 0 5 0 0 (⟨#[]⟩:Bs) none 0 0 c I1 F1)) (It (a.toList==(⟨#[102,97,108,115,101]⟩:Bs).toList) (It (a.toList==(⟨#[116,114,117,101]⟩:Bs).toList) (Inv6 false 0 0 0 0 0 (⟨#[]⟩:Bs) none 0 0 0 1 0 5 1 0 (⟨#[]⟩:Bs) none 0 0 c I1 F1) (Inv6 false 0 0 0 0 0 (⟨#[]⟩:Bs) none 0 0 0 1 0 5 0 0 (⟨#[]⟩:Bs) none 0 0 c I1 F1)) (It (d==1) (It (a.toList==(⟨#[98,117,121]⟩:Bs).toList) (It (a.toList==(⟨#[115,101,108,108]⟩:Bs).toList) (Inv6 false 0 0 0 0 0 (⟨#[]⟩:Bs) none 0 0 0 1 0 6 2 0 (⟨#[]⟩:Bs) none 0 0 c I1 F1) (Inv6 false 0 0 0 0 0 (⟨#[]⟩:Bs) none 0 0 0 1 0 6 1 0 (⟨#[]⟩:Bs) none 0 0 c I1 F1)) (It (a.toList==(⟨#[115,101,108,108]⟩:Bs).toList) (It (a.toList==(⟨#[115,101,108,108]⟩:Bs).toList) (Inv6 false 0 0 0 0 0 (⟨#[]⟩:Bs) none 0 0 0 1 0 6 2 0 (⟨#[]⟩:Bs) none 0 0 c I1 F1) (Inv6 false 0 0 0 0 0 (⟨#[]⟩:Bs) none 0 0 0 1 0 6 1 0 (⟨#[]⟩:Bs) none 0 0 c I1 F1)) (Q (.returned (.tuple #[nV 0 0 0 0 0 (⟨#[]⟩:Bs) none 0 0 0,vt false])) I1 F1))) (Q (.returned (.tuple #[nV 0 0 0 0 0 (⟨#[]⟩:Bs) none 0 0 0,vt false])) I1 F1)))) (It (d==1) (It (a.toList==(⟨#[98,117,121]⟩:Bs).toList) (It (a.toList==(⟨#[115,101,108,108]⟩:Bs).toList) (Inv6 false 0 0 0 0 0 (⟨#[]⟩:Bs) none 0 0 0 1 0 6 2 0 (⟨#[]⟩:Bs) none 0 0 c I1 F1) (Inv6 false 0 0 0 0 0 (⟨#[]⟩:Bs) none 0 0 0 1 0 6 1 0 (⟨#[]⟩:Bs) none 0 0 c I1 F1)) (It (a.toList==(⟨#[115,101,108,108]⟩:Bs).toList) (It (a.toList==(⟨#[115,101,108,108]⟩:Bs).toList) (Inv6 false 0 0 0 0 0 (⟨#[]⟩:Bs) none 0 0 0 1 0 6 2 0 (⟨#[]⟩:Bs) none 0 0 c I1 F1) (Inv6 false 0 0 0 0 0 (⟨#[]⟩:Bs) none 0 0 0 1 0 6 1 0 (⟨#[]⟩:Bs) none 0 0 c I1 F1)) (Q (.returned (.tuple #[nV 0 0 0 0 0 (⟨#[]⟩:Bs) none 0 0 0,vt false])) I1 F1))) (Q (.returned (.tuple #[nV 0 0 0 0 0 (⟨#[]⟩:Bs) none 0 0 0,vt false])) I1 F1)))))∧∀(x:Bool) (w y z aa ab:Int) (ac:Bs) (r:OA) (s t:Nat) (ae i j k l n:Int) (o:Bs) (e:OA) (f g:Nat) (q:Int) (I2:cS) (F2:cR),cS.le I1 I2→Inv6 x w y z aa ab ac r s t ae i j k l n o e f g q I2 F2→∃ad:Addr,some p=some ad∧∃(m:Int),Rd I2 ((b,nO w y z aa ab ac r s t ae)::(af,Obj.cells #[vb d,.string a,vb u,vi v,vi c] 76 (0,0))::(ag,nO i j k l n o e f g q)::F2) (ad.add 3) [vi m]∧∃h:Addr,some p=some h∧∃(cs:List Value) (el:Nat) (F3:cR),List.Perm F2 (((h.add 3).block,Obj.cells cs.toArray el (0,0))::F3)∧(h.add 3).spot=none∧(h.add 3).off+1≤cs.length∧Q (.returned (.tuple #[nV i j k l n o e f g q,vt true])) I2 ((((h.add 3).block,Obj.cells (cY (h.add 3).off [vi (IntKind.wrap .i64 (m+1))] cs).toArray el (0,0))::F3))
theorem eS.vc{p:Addr}{I:cS}{F:cR}{Q:cT}(Inv6:Bool→Int→Int→Int→Int→Int→Bs→OA→Nat→Nat→Int→Int→Int→Int→Int→Int→Bs→OA→Nat→Nat→Int→cS→cR→Prop)(h:eS.V (fun k o t n f s a l c q=>.agg #[.int .u8 k,.int .u8 o,.int .u8 t,.int .i64 n,.int .u8 f,.string s,.slice a l c,.int .i64 q]) (fun k o t n f s a l c q=>.cells #[.int .u8 k,.int .u8 o,.int .u8 t,.int .i64 n,.int .u8 f,.string s,.slice a l c,.int .i64 q] 64 (0,0)) (.int .u8) (.int .i64) .bool p I F Q Inv6):cU P 109 #[.pointer (some p)] I F Q :=
 tw (A:=(dv [4002,7002,7006,7010,9002,11002,11006,11010,14002] [] [95] jf [(6,⟨[(3,.bool)],[(0,[(.int .u8),(.int .u8),(.int .u8),(.int .i64),(.int .u8),.str,.slc,(.int .i64)]),(2,[(.int .u8),(.int .u8),(.int .u8),(.int .i64),(.int .u8),.str,.slc,(.int .i64)])],fun _ _ _ vs m I F=>match vs with | [.bool y0,.int _ y1,.int _ y2,.int _ y3,.int _ y4,.int _ y5,.string y6,.slice y7 y8 y9,.int _ y10,.int _ y11,.int _ y12,.int _ y13,.int _ y14,.int _ y15,.string y16,.slice y17 y18 y19,.int _ y20]=>Inv6 y0 y1 y2 y3 y4 y5 y6 y7 y8 y9 y10 y11 y12 y13 y14 y15 y16 y17 y18 y19 y20 I F | _=>False,[],[]⟩)] [] [] [] [] [] [])) [95] func109 h
def gG.V(vi:Int→Value)(p:Addr)(I:cS)(F:cR)(Q:cT)  : Prop:=dR P 30 (#[.pointer (some p)]) I (·) F .bool fun r I1 F1=>(It r (Q (.returned (.tuple #[])) I1 F1) (∃ad:Addr,some p=some ad∧∃(m:Int),Rd I1 F1 (ad.add 3) [vi m]∧∃d:Addr,some p=some d∧∃(i:OA) (a j:Nat),Rd I1 F1 (d.add 0) [.slice i a j]∧(Dt (m≥(a:Int)) (eM P 81 (#[.pointer (some p),vi 130]) I1 (·) F1 fun e2 I2 G2=>e2=.returned (.tuple #[])∧G2 fun F2=>Q (.returned (.tuple #[])) I2 F2) (∃e:Addr,some p=some e∧∃(b:OA) (c h:Nat),Rd I1 F1 (e.add 0) [.slice b c h]∧∃f:Addr,some p=some f∧∃(m1:Int),Rd I1 F1 (f.add 3) [vi m1]∧((0≤m1∧m1<(c:Int))∧∃g:Addr,b=some g∧∃(m2:Int),Rd I1 F1 ((g.add (Int.toNat m1*5)).add 0) [.int .u8 m2]∧(It (m2 != 0) (eM P 81 (#[.pointer (some p),vi 130]) I1 (·) F1 fun e3 I3 G3=>e3=.returned (.tuple #[])∧G3 fun F3=>Q (.returned (.tuple #[])) I3 F3) (Q (.returned (.tuple #[])) I1 F1)))))))
theorem gG.vc{p:Addr}{I:cS}{F:cR}{Q:cT}  (h:gG.V (.int .i64) p I F Q):cU P 49 #[.pointer (some p)] I F Q :=
 tw (A:=(an [1,1009,1022] [30,81] jf)) [30,81] func49 h
def fW.V(vt:Bool→Value)(p:Addr)(n a:Int)(I:cS)(F:cR)(Q:cT)  : Prop:=(Dt (n≥a) (eM P 81 (#[.pointer (some p),.int .i64 131]) I (·) F fun e1 I1 G1=>e1=.returned (.tuple #[])∧G1 fun F1=>dR P 30 (#[.pointer (some p)]) I1 (·) F1 vt fun r I2 F2=>Q (.returned (vt (!r))) I2 F2) (dR P 30 (#[.pointer (some p)]) I (·) F vt fun r1 I3 F3=>Q (.returned (vt (!r1))) I3 F3))
theorem fW.vc{p:Addr}{n a:Int}{I:cS}{F:cR}{Q:cT}  (h:fW.V .bool p n a I F Q):cU P 77 #[.pointer (some p),.int .i64 n,.int .i64 a] I F Q :=
 tw (A:=(an [1002] [30,81] jf)) [30,81] func77 h
def j7.V(vi:Int→Value)(s:Bs)(I:cS)(F:cR)(Q:cT)  : Prop:=(Dt ((s.size:Int)>4096) (∀b:Nat,Q (.returned (.pointer (some (⟨b,0,none⟩:Addr)))) I (((b,Obj.cells #[.slice none 0 0,vi 0,vi 0,vi 0,vi 110,vi 0,.bool true] 96 (0,0))::F))) (eM P 59 #[.string s] I (·) F fun e1 I1 G1=>∃(a:OA) (c d:Nat) (r1 r2:Int),e1=.returned (.tuple #[.slice a c d,vi r1,vi r2])∧G1 fun F1=>∀b1:Nat,Q (.returned (.pointer (some (⟨b1,0,none⟩:Addr)))) I1 (((b1,Obj.cells #[.slice a c d,vi r1,vi r2,vi 0,vi 0,vi 0,.bool false] 96 (0,0))::F1))))
theorem j7.vc{s:Bs}{I:cS}{F:cR}{Q:cT}  (h:j7.V (.int .i64) s I F Q):cU P 28 #[.string s] I F Q :=
 tw (A:=(dv [1002] [] [59] jf [] [] [2002,4004] [] [] [] [])) [59] func28 h
end Go.Lx
namespace Go.Lx
open Go.Vc
structure PQ where
 c:PC
 a:Option Addr
 cap:Nat
def PQ.cl(q:PQ)(s:PS):List Value:=[.slice q.a q.c.l.length q.cap,.int .i64 q.c.bad,.int .i64 q.c.pos,.int .i64 s.next,.int .i64 s.f.e,.int .i64 s.f.pos,.bool s.f.tok]
def PQ.c7(q:PQ)(b:Nat)(s:PS):Nat×Obj:=(b,.cells (q.cl s).toArray 96 (0,0))
structure PQ.ok (q:PQ) (I:cS):Prop where
 sl:Sl I 5 Tok.enc q.a q.c.l.length q.c.l
 len:q.c.l.length≤1000000
theorem PQ.ok.mono{q:PQ}{I J:cS}(h:q.ok I)(hl:cS.le I J):q.ok J:=⟨h.sl.mono hl,h.len⟩
theorem PQ.rd{q:PQ}{b:Nat}{s:PS}{I:cS}{G:cR}(h:q.c7 b s∈G){k:Nat}{v:Value}(hv:(q.cl s)[k]? = some v):Rd I G ((⟨b,0,none⟩:Addr).add k) [v]:=by
 rw[dM]
 refine⟨rfl,_,_,_,.inr h,fun j hj=>?_⟩
 have:j=0:=by simpa using hj
 subst this
 simpa using hv
theorem PQ.eD{q:PQ}{b:Nat}{s:PS}(hn:s.next≤2000000) :
  (((⟨b,0,none⟩:Addr).add 3).block,Obj.cells (cY ((⟨b,0,none⟩:Addr).add 3).off [.int .i64 (IntKind.wrap .i64 ((s.next:Int)+1))] (q.cl s)).toArray 96 (0,0))=q.c7 b s.inc:=by
 rw[dM,gS (by omega)]
 rfl
theorem PQ.BB{q:PQ}{b:Nat}{s:PS}{e p:Int}{t:Bool} :
  (((⟨b,0,none⟩:Addr).add 4).block,Obj.cells (cY ((⟨b,0,none⟩:Addr).add 4).off [.int .i64 e,.int .i64 p,.bool t] (q.cl s)).toArray 96 (0,0))=q.c7 b ⟨s.next,⟨e,p,t⟩⟩:=by
 rw[dM]
 rfl
theorem PQ.spot(b k:Nat):((⟨b,0,none⟩:Addr).add k).spot=none:=by rw[dM]
theorem PQ.off(b k:Nat):((⟨b,0,none⟩:Addr).add k).off=k:=by rw[dM]
variable {q:PQ} {b:Nat} {s:PS} {I:cS}
theorem lL{F:cR}(hm:q.c7 b s∈F):cU P 30 #[.pointer (some ⟨b,0,none⟩)] I F (kj (.bool s.over) F):=by
 refine fT.vc ?_
 unfold fT.V
 exact⟨_,rfl,_,(PQ.rd hm (k:=4) rfl).field (o:=0) rfl,rfl,rfl⟩
theorem jh(hq:q.ok I){F:cR}(hm:q.c7 b s∈F):cU P 95 #[.pointer (some ⟨b,0,none⟩)] I F (kj (q.c.now s).v F):=by
 refine gD.vc ?_
 unfold gD.V
 intro b1
 refine⟨s.over,cU.ret (lL (.tail _ hm)) fun I1 l1=>⟨rfl,.refl _⟩,fun h=>⟨?_,rfl⟩,fun h=>⟨_,rfl,_,PQ.rd (.tail _ hm) rfl,_,rfl,_,_,_,PQ.rd (.tail _ hm) rfl,fun hn=>⟨?_,rfl⟩,fun hn=>⟨_,rfl,_,_,_,PQ.rd (.tail _ hm) rfl,_,rfl,_,PQ.rd (.tail _ hm) rfl, ?_⟩⟩⟩
 ·unfold PC.now;rw[h];rfl
 ·have hn:=of_decide_eq_true hn
  unfold PC.now;rw[h,if_pos (by simp;omega)];rfl
 ·have hn:=of_decide_eq_false hn
  obtain⟨ad,t,ha,ht,hr⟩:=hq.sl.at (i:=(s.next:Int)) (by omega) (by omega)
  refine⟨⟨by omega,by omega⟩,ad,ha,_,_,_,_,_,hr _, ?_,rfl⟩
  have ht:q.c.l[s.next]? = some t:=ht
  unfold PC.now PC.tok;rw[h,if_neg (by simp;omega),ht];rfl
theorem fB(hq:q.ok I)(e:Int){F F0:cR}(hF:F.Perm (q.c7 b s::F0)):cU P 81 #[.pointer (some ⟨b,0,none⟩),.int .i64 e] I F fun e1 I' G=>e1=.returned (.tuple #[])∧G.Perm (q.c7 b (q.c.c5 e s)::F0):=by
 have hm:q.c7 b s∈F:=hF.mem_iff.2 (.head _)
 refine fA.vc ?_
 unfold fA.V
 refine cU.ret (lL hm) fun I1 l1=>⟨_,rfl,F,.refl _,fun h=>⟨rfl, ?_⟩,fun h=>⟨_,rfl,_,PQ.rd hm rfl,_,rfl,_,_,_,PQ.rd hm rfl,fun hn=>⟨_,rfl,_,PQ.rd hm rfl,_,rfl,_,PQ.rd hm rfl,_,rfl,q.cl s,96,F0,hF,PQ.spot _ _,by rw[PQ.off];exact (by decide:4+3≤7),rfl, ?_⟩,
  fun hn=>⟨_,rfl,_,_,_,PQ.rd hm rfl,_,rfl,_,PQ.rd hm rfl, ?_⟩⟩⟩
 ·unfold PC.c5;rw[if_pos h];exact hF
 ·have hn:=of_decide_eq_true hn
  unfold PC.c5;rw[if_neg (by simp[h]),if_pos (by omega),PQ.BB]
 ·have hn:=of_decide_eq_false hn
  obtain⟨ad,t,ha,ht,hr⟩:=(hq.mono l1).sl.at (i:=(s.next:Int)) (by omega) (by omega)
  refine⟨⟨by omega,by omega⟩,ad,ha,t.pos,(hr _).field (o:=4) rfl,_,rfl,q.cl s,96,F0,hF,PQ.spot _ _,by rw[PQ.off];exact (by decide:4+3≤7),rfl, ?_⟩
  have ht:q.c.l[s.next]? = some t:=ht
  unfold PC.c5 PC.tok;rw[if_neg (by simp[h]),if_neg (by omega),ht,PQ.BB];exact .refl _
theorem nh(hq:q.ok I)(w:ByteArray){F:cR}(hm:q.c7 b s∈F):cU P 76 #[.pointer (some ⟨b,0,none⟩),.string w] I F (kj (.bool (q.c.dS w s)) F):=by
 refine hY.vc ?_
 unfold hY.V
 refine cU.ret (jh hq hm) fun I1 l1=>⟨_,_,_,_,_,rfl,F,.refl _,fun b_t=>⟨fun h=>⟨fun h1=>⟨?_,rfl⟩,fun h1=>⟨?_,rfl⟩⟩,fun h=>⟨?_,rfl⟩⟩⟩<;>unfold PC.dS<;>simp_all
theorem ln(hq:q.ok I){a:Option Addr}{n k:Nat}{ws:List ByteArray}(hS:Sl I 1 jd a n ws)(hl:n≤100){F:cR}(hm:q.c7 b s∈F):cU P 108 #[.pointer (some ⟨b,0,none⟩),.slice a n k] I F (kj (.int .i64 (q.c.any ws s)) F):=by
 have hn:=hS.1
 refine gE.vc (fun x i m I' F'=>F'=F∧0≤i∧i≤n∧m=(n-i).toNat∧q.c.any ws s=q.c.iz s (ws.drop i.toNat) i) ?_
 unfold gE.V
 refine⟨⟨_,rfl,by omega,by omega,rfl,rfl⟩,fun x i m1 I1 F1 l1 ⟨gF,g0,g1,gm,ge⟩=>⟨fun hlt=>?_,fun hlt=>⟨?_,gF⟩⟩⟩
 ·subst gF
  have hlt:=of_decide_eq_true hlt
  obtain⟨ad,w,ha,hw,hr⟩:=(hS.mono l1).at g0 hlt
  obtain⟨hk,rfl⟩:=List.getElem?_eq_some_iff.1 hw
  rw[List.drop_eq_getElem_cons hk,PC.iz] at ge
  refine⟨⟨g0,hlt⟩,ad,ha,_,hr _,cU.ret (nh (hq.mono l1) _ hm) fun I2 l2=>⟨_,rfl,F1,.refl _,fun h=>⟨?_,rfl⟩,fun h=>⟨(n-(i+1)).toNat,by omega,rfl, ?_⟩⟩⟩
  ·rw[ge,if_pos h]
  ·rw[gS (n:=i+1) (by omega)]
   refine⟨by omega,by omega,rfl, ?_⟩
   rw[ge,if_neg (by simp[h]),show (i+1).toNat=i.toNat+1 by omega]
 ·have hlt:=of_decide_eq_false hlt
  rw[ge,List.drop_eq_nil_of_le (by omega),PC.iz]
theorem kh{c:PC}{s:PS}(h:(c.now s).kind≠0):s.next<c.l.length:=by
 unfold PC.now at h
 split at h
 ·exact absurd rfl h
 ·rename_i h1
  simp only[Bool.or_eq_true,decide_eq_true_eq,not_or] at h1
  omega
theorem ew{c:PC}{s:PS}{w:ByteArray}(h:c.dS w s=true):s.next<c.l.length:=by
 refine kh fun hk=>?_
 unfold PC.dS at h
 rw[hk] at h
 simp at h
theorem td{c:PC}{s:PS}:∀{ws:List ByteArray} {i:Int},0≤i→0≤c.iz s ws i→s.next<c.l.length∧i≤c.iz s ws i∧c.iz s ws i<i+ws.length
 | [],i,h0,h=>by rw[PC.iz] at h;omega
 | w::r,i,h0,h=>by
   rw[PC.iz] at h ⊢
   split at h
   ·rename_i hw
    rw[if_pos hw]
    exact⟨ew hw,Int.le_refl _,by rw[List.length_cons];omega⟩
   ·rename_i hw
    rw[if_neg hw]
    have:=td (ws:=r) (i:=i+1) (by omega) h
    rw[List.length_cons];exact⟨this.1,by omega,by omega⟩
theorem dt{c:PC}{s:PS}{ws:List ByteArray}(h:0≤c.any ws s):s.next<c.l.length∧c.any ws s<ws.length:=by
 have:=td (Int.le_refl 0) h
 exact⟨this.1,by have:=this.2.2;unfold PC.any;omega⟩
theorem ec(hq:q.ok I)(w:ByteArray){F F0:cR}(hF:F.Perm (q.c7 b s::F0)):cU P 74 #[.pointer (some ⟨b,0,none⟩),.string w] I F fun e1 I' G=>e1=.returned (.int .i64 (q.c.take w s).1)∧G.Perm (q.c7 b (q.c.take w s).2::F0):=by
 have hm:q.c7 b s∈F:=hF.mem_iff.2 (.head _)
 have hl:=hq.len
 refine fU.vc ?_
 unfold fU.V
 refine cU.ret (nh hq w hm) fun I1 l1=>⟨_,rfl,F,.refl _,fun h=>?_,fun h=>?_⟩
 ·have h:q.c.dS w s=false:=by simpa using h
  refine (fB (hq.mono l1) 130 hF).mono fun e I2 G l2 ⟨he,hG⟩=>?_
  refine⟨he,G,.refl _, ?_⟩
  unfold PC.take
  rw[if_neg (by simp[h])]
  exact⟨rfl,hG⟩
 ·have h:q.c.dS w s=true:=by simpa using h
  have hlt:=ew h
  refine cU.ret (jh (hq.mono l1) hm) fun I2 l2=>⟨_,_,_,_,_,rfl,F,.refl _,_,rfl,_,PQ.rd (k:=3) hm rfl,_,rfl,q.cl s,96,F0,hF,PQ.spot _ _,by rw[PQ.off];exact (by decide:3+1≤7), ?_⟩
  rw[PQ.eD (by omega)]
  unfold PC.take
  rw[if_pos h]
  exact⟨rfl,.refl _⟩
theorem ni(hq:q.ok I){F F0:cR}(hF:F.Perm (q.c7 b s::F0)):cU P 75 #[.pointer (some ⟨b,0,none⟩)] I F fun e1 I' G=>e1=.returned (.string (q.c.name s).1)∧G.Perm (q.c7 b (q.c.name s).2::F0):=by
 have hm:q.c7 b s∈F:=hF.mem_iff.2 (.head _)
 have hl:=hq.len
 refine fV.vc ?_
 unfold fV.V
 refine cU.ret (jh hq hm) fun I1 l1=>⟨_,_,_,_,_,rfl,F,.refl _,fun b_t=>⟨fun h=>?_,fun h=>?_⟩⟩
 ·have h:(q.c.now s).kind≠2:=by simpa using h
  refine (fB (hq.mono l1) 130 (F0:=_::F0) ((List.Perm.cons _ hF).trans (List.Perm.swap _ _ _))).mono fun e I2 G l2 ⟨he,hG⟩=>?_
  refine⟨he,q.c7 b (q.c.c5 130 s)::F0,hG.trans (List.Perm.swap _ _ _), ?_⟩
  unfold PC.name
  rw[if_neg h]
  exact⟨rfl,.refl _⟩
 ·have h:(q.c.now s).kind=2:=by simpa using h
  have hlt:=kh (by rw[h];decide:(q.c.now s).kind≠0)
  refine⟨_,rfl,_,PQ.rd (k:=3) (.tail _ hm) rfl,_,rfl,q.cl s,96,F0,hF,PQ.spot _ _,by rw[PQ.off];exact (by decide:3+1≤7), ?_⟩
  rw[PQ.eD (by omega)]
  unfold PC.name
  rw[if_pos h]
  exact⟨rfl,.refl _⟩
theorem n9(hq:q.ok I)(d:Int)(h0:0≤d)(h1:d≤1000){F F0:cR}(hF:F.Perm (q.c7 b s::F0)):cU P 94 #[.pointer (some ⟨b,0,none⟩),.int .i64 d] I F fun e1 I' G=>e1=.returned (.bool (!(q.c.c9 d s).over))∧G.Perm (q.c7 b (q.c.c9 d s)::F0):=by
 have hm:q.c7 b s∈F:=hF.mem_iff.2 (.head _)
 refine fe.vc ?_
 unfold fe.V
 rw[gS (n:=d+1) (by omega)]
 unfold PC.c9
 refine⟨fun h=>?_,fun h=>?_⟩
 ·have h:=of_decide_eq_true h
  rw[if_pos (by omega)]
  refine (fB hq 132 hF).mono fun e I2 G l2 ⟨he,hG⟩=>⟨he,G,.refl _,cU.ret (lL (hG.mem_iff.2 (.head _))) fun I3 l3=>⟨_,rfl,G,.refl _,rfl,hG⟩⟩
 ·have h:=of_decide_eq_false h
  rw[if_neg (by omega)]
  exact cU.ret (lL hm) fun I3 l3=>⟨_,rfl,F,.refl _,rfl,hF⟩
theorem qO(hq:q.ok I)(n most:Nat){F F0:cR}(hF:F.Perm (q.c7 b s::F0)):cU P 77 #[.pointer (some ⟨b,0,none⟩),.int .i64 n,.int .i64 most] I F fun e1 I' G=>e1=.returned (.bool (!(q.c.many n most s).over))∧G.Perm (q.c7 b (q.c.many n most s)::F0):=by
 have hm:q.c7 b s∈F:=hF.mem_iff.2 (.head _)
 refine fW.vc ?_
 unfold fW.V
 unfold PC.many
 refine⟨fun h=>?_,fun h=>?_⟩
 ·have h:=of_decide_eq_true h
  rw[if_pos (by omega)]
  refine (fB hq 131 hF).mono fun e I2 G l2 ⟨he,hG⟩=>⟨he,G,.refl _,cU.ret (lL (hG.mem_iff.2 (.head _))) fun I3 l3=>⟨_,rfl,G,.refl _,rfl,hG⟩⟩
 ·have h:=of_decide_eq_false h
  rw[if_neg (by omega)]
  exact cU.ret (lL hm) fun I3 l3=>⟨_,rfl,F,.refl _,rfl,hF⟩
theorem Af(hq:q.ok I){F F0:cR}(hF:F.Perm (q.c7 b s::F0)):cU P 49 #[.pointer (some ⟨b,0,none⟩)] I F fun e1 I' G=>e1=.returned (.tuple #[])∧G.Perm (q.c7 b (q.c.end s)::F0):=by
 have hm:q.c7 b s∈F:=hF.mem_iff.2 (.head _)
 refine gG.vc ?_
 unfold gG.V
 unfold PC.end
 refine cU.ret (lL hm) fun I1 l1=>⟨_,rfl,F,.refl _,fun h=>?_,fun h=>⟨_,rfl,_,PQ.rd hm rfl,_,rfl,_,_,_,PQ.rd hm rfl,fun hn=>?_,fun hn=>⟨_,rfl,_,_,_,PQ.rd hm rfl,_,rfl,_,PQ.rd hm rfl, ?_⟩⟩⟩
 ·rw[if_pos h];exact⟨rfl,hF⟩
 ·have hn:=of_decide_eq_true hn
  rw[if_neg (by simp[h]),if_pos (.inl (by omega))]
  exact (fB (hq.mono l1) 130 hF).mono fun e I2 G l2 ⟨he,hG⟩=>⟨he,G,.refl _,rfl,hG⟩
 ·have hn:=of_decide_eq_false hn
  obtain⟨ad,t,ha,ht,hr⟩:=(hq.mono l1).sl.at (i:=(s.next:Int)) (by omega) (by omega)
  have ht:q.c.l[s.next]? = some t:=ht
  have htk:q.c.tok s.next=t:=by unfold PC.tok;rw[ht];rfl
  refine⟨⟨by omega,by omega⟩,ad,ha,t.kind,(hr _).field (o:=0) rfl,fun h2=>?_,fun h2=>?_⟩
  ·rw[if_neg (by simp[h]),if_pos (.inr (by rw[htk];simpa using h2))]
   exact (fB (hq.mono l1) 130 hF).mono fun e I2 G l2 ⟨he,hG⟩=>⟨he,G,.refl _,rfl,hG⟩
  ·rw[if_neg (by simp[h]),if_neg (by rw[htk];simp at h2;omega)]
   exact⟨rfl,hF⟩
end Go.Lx
namespace Go.Lx
open Go.Vc
def Small(l:List Px):Prop:=∀x∈l,x.size≤1048576
theorem nK.C4{α:Type}{I:cS}{G:cR}{z:Nat}{f:α→List Value}{a:Option Addr}{n:Nat}{l:List α}(h:nK I G z f a n l){i:Int}(h0:0≤i)(h1:i<n) :
  ∃ad x,a=some ad∧l[i.toNat]? = some x∧Rd I G (ad.add (Int.toNat i*z)) (f x)∧x∈l:=by
 obtain⟨ad,x,g1,g2,g3⟩:=h.at h0 h1
 exact⟨ad,x,g1,g2,g3,List.mem_of_getElem? g2⟩
theorem nK.nil{α:Type}{I:cS}{G:cR}{z:Nat}{f:α→List Value}{a:Option Addr}:nK I G z f a 0 ([]:List α):=⟨rfl,fun h=>absurd rfl h⟩
theorem eb.leaf{I:cS}{G:cR}{k o ty n f:Int}{s:ByteArray}{a:Option Addr}{c:Nat}{q:Int}:eb I G (.mk k o ty n f s a c [] q):=.mk nK.nil fun k hk=>by cases hk
end Go.Lx
namespace Go.Lx
open Go.Vc Go.Proofs.Tryz
def jJ:List (Nat×List Sh):=[(0,[]),(3,[.one (.int .i64)]),(4,[.one .bool]),(62,[.one .slc]),(64,[.agg [(.int .u8),(.int .u8),(.int .u8),(.int .i64),(.int .u8),.str,.slc,(.int .i64)]]),(76,[.agg [(.int .u8),.str,(.int .u8),(.int .i64),(.int .i64)]]),(208,[.agg [(.int .u8),(.int .u8),(.int .u8),(.int .i64),(.int .u8),.str,.slc,(.int .i64)],.one .bool])]
def fX.V(ah:Nat→Nat×Obj)(nV:Int→Int→Int→Int→Int→Bs→OA→Nat→Nat→Int→Value)(nO:Int→Int→Int→Int→Int→Bs→OA→Nat→Nat→Int→Obj)(vi:Int→Value)(vl:OA→Nat→Nat→Value)(vp:OA→Value)(wr:Int→Int)(p:Addr)(aD aE aF aG aH:Int)(aI:Bs)(aw:OA)(ax ay:Nat)(aJ ap d:Int)(I:cS)(F:cR)(Q:cT)(Inv20:Int→Int→Int→Int→Int→Int→Bs→OA→Nat→Nat→Int→Nat→cS→cR→Prop):Prop:=∀o:Nat,∀b:Nat,dR P 94 (#[vp (some p),vi d]) I ((ah o)::(b,nO 0 0 0 0 0 (⟨#[]⟩:Bs) none 0 0 0)::·) F .bool fun r I1 F1=>(It (!r) (Q (.returned (nV 0 0 0 0 0 (⟨#[]⟩:Bs) none 0 0 0)) I1 F1) (∃ad:Addr,some p=some ad∧∃(m:Int),Rd I1 ((ah o)::(b,nO 0 0 0 0 0 (⟨#[]⟩:Bs) none 0 0 0)::F1) (ad.add 3) [vi m]∧∃y:Addr,some p=some y∧∃(cs:List Value) (el:Nat) (F2:cR),List.Perm F1 (((y.add 3).block,Obj.cells cs.toArray el (0,0))::F2)∧(y.add 3).spot=none∧(y.add 3).off+1≤cs.length∧cU P 74 (#[vp (some p),.string (⟨#[40]⟩:Bs)]) I1 ((ah o)::(b,nO 0 0 0 0 0 (⟨#[]⟩:Bs) none 0 0 0)::(((y.add 3).block,Obj.cells (cY (y.add 3).off [vi (wr (m+1))] cs).toArray el (0,0))::F2)) fun e2 I2 G2=>∃(r1:Int),e2=.returned (vi r1)∧∃F3:cR,List.Perm G2 ((ah o)::(b,nO 0 0 0 0 0 (⟨#[]⟩:Bs) none 0 0 0)::F3)∧(∃m1:Nat,Inv20 0 aD aE aF aG aH aI aw ax ay aJ m1 I2 F3)∧∀(i f g h j k:Int) (l:Bs) (a:OA) (c e:Nat) (n:Int) (m2:Nat) (I3:cS) (F4:cR),cS.le I2 I3→Inv20 i f g h j k l a c e n m2 I3 F4→(Dt (i<ap) (Dt (i>0) (dR P 74 (#[vp (some p),.string (⟨#[44]⟩:Bs)]) I3 ((o,nO f g h j k l a c e n)::(b,nO 0 0 0 0 0 (⟨#[]⟩:Bs) none 0 0 0)::·) F4 vi fun r2 I4 F5=>eM P 48 (#[vp (some p),vi (wr (d+1))]) I4 ((o,nO f g h j k l a c e n)::(b,nO 0 0 0 0 0 (⟨#[]⟩:Bs) none 0 0 0)::·) F5 fun e4 I5 G4=>∃(ai aj ak al am:Int) (an:Bs) (u:OA) (w x:Nat) (ao:Int),e4=.returned (nV ai aj ak al am an u w x ao)∧G4 fun F6=>∀aC:Nat,∀(b1:Nat) (I6:cS),cS.le I5 I6→I6 b1=some (nO ai aj ak al am an u w x ao)→dC P (Builtin.append_ #[62,62] 62 #[vl a c e,vl (some ⟨b1,0,none⟩) 1 1]) I6 ((o,nO f g h j k l a c e n)::(b,nO 0 0 0 0 0 (⟨#[]⟩:Bs) none 0 0 0)::(aC,nO ai aj ak al am an u w x ao)::F6) fun v I7 G5=>∃(az:OA) (aA aB:Nat),v=vl az aA aB∧∃F7:cR,List.Perm G5 ((o,nO f g h j k l a c e n)::(b,nO 0 0 0 0 0 (⟨#[]⟩:Bs) none 0 0 0)::(aC,nO ai aj ak al am an u w x ao)::F7)∧(∃m3:Nat,m3<m2∧Inv20 (wr (i+1)) f g h j k l az aA aB n m3 I7 F7)) (eM P 48 (#[vp (some p),vi (wr (d+1))]) I3 ((o,nO f g h j k l a c e n)::(b,nO 0 0 0 0 0 (⟨#[]⟩:Bs) none 0 0 0)::·) F4 fun e5 I8 G6=>∃(z aa ab ac ae:Int) (af:Bs) (q:OA) (s t:Nat) (ag:Int),e5=.returned (nV z aa ab ac ae af q s t ag)∧G6 fun F8=>∀av:Nat,∀(b2:Nat) (I9:cS),cS.le I8 I9→I9 b2=some (nO z aa ab ac ae af q s t ag)→dC P (Builtin.append_ #[62,62] 62 #[vl a c e,vl (some ⟨b2,0,none⟩) 1 1]) I9 ((o,nO f g h j k l a c e n)::(b,nO 0 0 0 0 0 (⟨#[]⟩:Bs) none 0 0 0)::(av,nO z aa ab ac ae af q s t ag)::F8) fun v1 I10 G7=>∃(aq:OA) (ar au:Nat),v1=vl aq ar au∧∃F9:cR,List.Perm G7 ((o,nO f g h j k l a c e n)::(b,nO 0 0 0 0 0 (⟨#[]⟩:Bs) none 0 0 0)::(av,nO z aa ab ac ae af q s t ag)::F9)∧(∃m4:Nat,m4<m2∧Inv20 (wr (i+1)) f g h j k l aq ar au n m4 I10 F9))) (dR P 74 (#[vp (some p),.string (⟨#[41]⟩:Bs)]) I3 ((o,nO f g h j k l a c e n)::(b,nO 0 0 0 0 0 (⟨#[]⟩:Bs) none 0 0 0)::·) F4 vi fun r3 I11 F10=>Q (.returned (nV f g h j k l a c e n)) I11 F10))))
theorem fX.vc{p:Addr}{j r u v w:Int}{x:Bs}{e:OA}{g i:Nat}{y z d:Int}{I:cS}{F:cR}{Q:cT}(Inv20:Int→Int→Int→Int→Int→Int→Bs→OA→Nat→Nat→Int→Nat→cS→cR→Prop)(h:fX.V (fun b=>(b,Obj.cells #[.int .u8 j,.int .u8 r,.int .u8 u,.int .i64 v,.int .u8 w,.string x,.slice e g i,.int .i64 y] 64 (0,0))) (fun k o t n f s a l c q=>.agg #[.int .u8 k,.int .u8 o,.int .u8 t,.int .i64 n,.int .u8 f,.string s,.slice a l c,.int .i64 q]) (fun k o t n f s a l c q=>.cells #[.int .u8 k,.int .u8 o,.int .u8 t,.int .i64 n,.int .u8 f,.string s,.slice a l c,.int .i64 q] 64 (0,0)) (.int .i64) .slice .pointer (IntKind.wrap .i64) p j r u v w x e g i y z d I F Q Inv20):cU P 160 #[.pointer (some p),.agg #[.int .u8 j,.int .u8 r,.int .u8 u,.int .i64 v,.int .u8 w,.string x,.slice e g i,.int .i64 y],.int .i64 z,.int .i64 d] I F Q :=
 tw (A:=(dv [2001,7002,9001] [] [48,74,94] jJ [(20,⟨[(10,(.int .i64))],[(0,[(.int .u8),(.int .u8),(.int .u8),(.int .i64),(.int .u8),.str,.slc,(.int .i64)])],fun _ _ _ vs m I F=>match vs with | [.int _ y0,.int _ y1,.int _ y2,.int _ y3,.int _ y4,.int _ y5,.string y6,.slice y7 y8 y9,.int _ y10]=>Inv20 y0 y1 y2 y3 y4 y5 y6 y7 y8 y9 y10 m I F | _=>False,[],[]⟩)] [12003] [] [] [] [] [])) [48,74,94] func160 h
def gH.V(ka:Nat→Int→Bs→Int→Int→Int→Nat×Obj)(nV:Int→Int→Int→Int→Int→Bs→OA→Nat→Nat→Int→Value)(nO:Int→Int→Int→Int→Int→Bs→OA→Nat→Nat→Int→Obj)(vb vi:Int→Value)(vs:Bs→Value)(vl:OA→Nat→Nat→Value)(vp:OA→Value)(p:Addr)(d:Int)(I:cS)(F:cR)(Q:cT)  : Prop:=∀b:Nat,eM P 109 (#[vp (some p)]) I ((b,nO 0 0 0 0 0 (⟨#[]⟩:Bs) none 0 0 0)::·) F fun e1 I1 G1=>∃(f g h i j:Int) (k:Bs) (a:OA) (c e:Nat) (l:Int) (r1:Bool),e1=.returned (.tuple #[nV f g h i j k a c e l,.bool r1])∧G1 fun F1=>∀s:Nat,(It r1 (Q (.returned (nV f g h i j k a c e l)) I1 F1) (eM P 95 (#[vp (some p)]) I1 ((b,nO 0 0 0 0 0 (⟨#[]⟩:Bs) none 0 0 0)::(s,nO f g h i j k a c e l)::·) F1 fun e2 I2 G2=>∃(o:Int) (q:Bs) (t u n:Int),e2=.returned (.agg #[vb o,vs q,vb t,vi u,vi n])∧G2 fun F2=>∀v:Nat,(It (o==2) (∃ad:Addr,some p=some ad∧∃(m:Int),Rd I2 ((b,nO 0 0 0 0 0 (⟨#[]⟩:Bs) none 0 0 0)::(s,nO f g h i j k a c e l)::(ka v o q t u n)::F2) (ad.add 3) [vi m]∧∃w:Addr,some p=some w∧∃(cs:List Value) (el:Nat) (F3:cR),List.Perm F2 (((w.add 3).block,Obj.cells cs.toArray el (0,0))::F3)∧(w.add 3).spot=none∧(w.add 3).off+1≤cs.length∧Q (.returned (nV 2 0 0 0 0 q none 0 0 n)) I2 ((((w.add 3).block,Obj.cells (cY (w.add 3).off [vi (IntKind.wrap .i64 (m+1))] cs).toArray el (0,0))::F3))) (∀(b1:Nat) (I3:cS),cS.le I2 I3→I3 b1=some (Obj.cells #[vs (⟨#[98,105,100]⟩:Bs),vs (⟨#[97,115,107]⟩:Bs),vs (⟨#[108,97,115,116]⟩:Bs),vs (⟨#[118,111,108,117,109,101]⟩:Bs),vs (⟨#[110,111,119]⟩:Bs),vs (⟨#[111,112,101,110]⟩:Bs)] 9 (0,0))→dR P 108 (#[vp (some p),vl (some ⟨b1,0,none⟩) 6 6]) I3 ((b,nO 0 0 0 0 0 (⟨#[]⟩:Bs) none 0 0 0)::(s,nO f g h i j k a c e l)::(ka v o q t u n)::·) F2 vi fun r I4 F4=>(Dt (r≥0) (∃aR:Addr,some p=some aR∧∃(m1:Int),Rd I4 ((b,nO 0 0 0 0 0 (⟨#[]⟩:Bs) none 0 0 0)::(s,nO f g h i j k a c e l)::(ka v o q t u n)::F4) (aR.add 3) [vi m1]∧∃x:Addr,some p=some x∧∃(al:List Value) (aO:Nat) (F5:cR),List.Perm F4 (((x.add 3).block,Obj.cells al.toArray aO (0,0))::F5)∧(x.add 3).spot=none∧(x.add 3).off+1≤al.length∧Q (.returned (.agg #[vb 3,vb 0,vb 0,vi 0,vb (IntKind.wrap .u8 (IntKind.wrap .i64 (r+1))),vs (⟨#[]⟩:Bs),vl none 0 0,vi n])) I4 ((((x.add 3).block,Obj.cells (cY (x.add 3).off [vi (IntKind.wrap .i64 (m1+1))] al).toArray aO (0,0))::F5))) (∀(b2:Nat) (I5:cS),cS.le I4 I5→I5 b2=some (Obj.cells #[vs (⟨#[97,98,115]⟩:Bs),vs (⟨#[109,105,110]⟩:Bs),vs (⟨#[109,97,120]⟩:Bs)] 9 (0,0))→dR P 108 (#[vp (some p),vl (some ⟨b2,0,none⟩) 3 3]) I5 ((b,nO 0 0 0 0 0 (⟨#[]⟩:Bs) none 0 0 0)::(s,nO f g h i j k a c e l)::(ka v o q t u n)::·) F4 vi fun r2 I6 F6=>(Dt (r2≥0) (It (r2==0) (eM P 160 (#[vp (some p),.agg #[vb 8,vb (IntKind.wrap .u8 (3+(IntKind.wrap .u8 r2))),vb 0,vi 0,vb 0,vs (⟨#[]⟩:Bs),vl none 0 0,vi n],vi 1,vi d]) I6 ((b,nO 0 0 0 0 0 (⟨#[]⟩:Bs) none 0 0 0)::(s,nO f g h i j k a c e l)::(ka v o q t u n)::·) F6 fun e5 I7 G5=>∃(am an ao ap aq:Int) (aP:Bs) (ai:OA) (aj ak:Nat) (aQ:Int),e5=.returned (nV am an ao ap aq aP ai aj ak aQ)∧G5 fun F7=>Q (.returned (nV am an ao ap aq aP ai aj ak aQ)) I7 F7) (eM P 160 (#[vp (some p),.agg #[vb 8,vb (IntKind.wrap .u8 (3+(IntKind.wrap .u8 r2))),vb 0,vi 0,vb 0,vs (⟨#[]⟩:Bs),vl none 0 0,vi n],vi 2,vi d]) I6 ((b,nO 0 0 0 0 0 (⟨#[]⟩:Bs) none 0 0 0)::(s,nO f g h i j k a c e l)::(ka v o q t u n)::·) F6 fun e6 I8 G6=>∃(ar au av aw ax:Int) (ay:Bs) (y:OA) (z aa:Nat) (az:Int),e6=.returned (nV ar au av aw ax ay y z aa az)∧G6 fun F8=>Q (.returned (nV ar au av aw ax ay y z aa az)) I8 F8)) (∀(b3:Nat) (I9:cS),cS.le I6 I9→I9 b3=some (Obj.cells #[vs (⟨#[105,110,116]⟩:Bs),vs (⟨#[113,116,121]⟩:Bs),vs (⟨#[112,114,105,99,101]⟩:Bs),vs (⟨#[116,105,109,101]⟩:Bs)] 9 (0,0))→dR P 108 (#[vp (some p),vl (some ⟨b3,0,none⟩) 4 4]) I9 ((b,nO 0 0 0 0 0 (⟨#[]⟩:Bs) none 0 0 0)::(s,nO f g h i j k a c e l)::(ka v o q t u n)::·) F6 vi fun r3 I10 F9=>(Dt (r3≥0) (eM P 160 (#[vp (some p),.agg #[vb 9,vb 0,vb (IntKind.wrap .u8 (1+(IntKind.wrap .u8 r3))),vi 0,vb 0,vs (⟨#[]⟩:Bs),vl none 0 0,vi n],vi 1,vi d]) I10 ((b,nO 0 0 0 0 0 (⟨#[]⟩:Bs) none 0 0 0)::(s,nO f g h i j k a c e l)::(ka v o q t u n)::·) F9 fun e8 I11 G8=>∃(aA aB aC aD aE:Int) (aF:Bs) (ab:OA) (ac ae:Nat) (aG:Int),e8=.returned (nV aA aB aC aD aE aF ab ac ae aG)∧G8 fun F10=>Q (.returned (nV aA aB aC aD aE aF ab ac ae aG)) I11 F10) (eM P 161 (#[vp (some p),vi d]) I10 ((b,nO 0 0 0 0 0 (⟨#[]⟩:Bs) none 0 0 0)::(s,nO f g h i j k a c e l)::(ka v o q t u n)::·) F9 fun e9 I12 G9=>∃(aH aI aJ aK aL:Int) (aM:Bs) (af:OA) (ag ah:Nat) (aN:Int),e9=.returned (nV aH aI aJ aK aL aM af ag ah aN)∧G9 fun F11=>Q (.returned (nV aH aI aJ aK aL aM af ag ah aN)) I12 F11))))))))))
theorem gH.vc{p:Addr}{d:Int}{I:cS}{F:cR}{Q:cT}  (h:gH.V (fun W a b c d e=>(W,Obj.cells #[.int .u8 a,.string b,.int .u8 c,.int .i64 d,.int .i64 e] 76 (0,0))) (fun k o t n f s a l c q=>.agg #[.int .u8 k,.int .u8 o,.int .u8 t,.int .i64 n,.int .u8 f,.string s,.slice a l c,.int .i64 q]) (fun k o t n f s a l c q=>.cells #[.int .u8 k,.int .u8 o,.int .u8 t,.int .i64 n,.int .u8 f,.string s,.slice a l c,.int .i64 q] 64 (0,0)) (.int .u8) (.int .i64) .string .slice .pointer p d I F Q):cU P 159 #[.pointer (some p),.int .i64 d] I F Q :=
 tw (A:=(dv [2000,5002,9001,13001,15001,19001] [] [95,108,109,160,161] jJ [] [8001,12001,18001] [] [] [] [] [])) [95,108,109,160,161] func159 h
def fY.V(nV:Int→Int→Int→Int→Int→Bs→OA→Nat→Nat→Int→Value)(nO:Int→Int→Int→Int→Int→Bs→OA→Nat→Nat→Int→Obj)(vb vi:Int→Value)(vs:Bs→Value)(vp:OA→Value)(wr:Int→Int)(p:Addr)(d:Int)(I:cS)(F:cR)(Q:cT)  : Prop:=∀b:Nat,eM P 95 (#[vp (some p)]) I ((b,nO 0 0 0 0 0 (⟨#[]⟩:Bs) none 0 0 0)::·) F fun e1 I1 G1=>∃(aa:Int) (ab:Bs) (ac ae u:Int),e1=.returned (.agg #[vb aa,vs ab,vb ac,vi ae,vi u])∧G1 fun F1=>dR P 76 (#[vp (some p),vs (⟨#[104,97,115]⟩:Bs)]) I1 ((b,nO 0 0 0 0 0 (⟨#[]⟩:Bs) none 0 0 0)::·) F1 .bool fun r I2 F2=>(It r (∃ad:Addr,some p=some ad∧∃(m:Int),Rd I2 ((b,nO 0 0 0 0 0 (⟨#[]⟩:Bs) none 0 0 0)::F2) (ad.add 3) [vi m]∧∃f:Addr,some p=some f∧∃(cs:List Value) (el:Nat) (F3:cR),List.Perm F2 (((f.add 3).block,Obj.cells cs.toArray el (0,0))::F3)∧(f.add 3).spot=none∧(f.add 3).off+1≤cs.length∧∀(b1:Nat) (I3:cS),cS.le I2 I3→I3 b1=some (Obj.cells #[vs (⟨#[98,105,100]⟩:Bs),vs (⟨#[97,115,107]⟩:Bs),vs (⟨#[108,97,115,116]⟩:Bs)] 9 (0,0))→cU P 108 (#[vp (some p),.slice (some ⟨b1,0,none⟩) 3 3]) I3 ((b,nO 0 0 0 0 0 (⟨#[]⟩:Bs) none 0 0 0)::(((f.add 3).block,Obj.cells (cY (f.add 3).off [vi (wr (m+1))] cs).toArray el (0,0))::F3)) fun e3 I4 G3=>∃(r1:Int),e3=.returned (vi r1)∧∃F4:cR,List.Perm G3 ((b,nO 0 0 0 0 0 (⟨#[]⟩:Bs) none 0 0 0)::F4)∧(Dt (r1<0) (eM P 81 (#[vp (some p),vi 130]) I4 ((b,nO 0 0 0 0 0 (⟨#[]⟩:Bs) none 0 0 0)::·) F4 fun e4 I5 G4=>e4=.returned (.tuple #[])∧G4 fun F5=>Q (.returned (nV 0 0 0 0 0 (⟨#[]⟩:Bs) none 0 0 0)) I5 F5) (∃x:Addr,some p=some x∧∃(m1:Int),Rd I4 ((b,nO 0 0 0 0 0 (⟨#[]⟩:Bs) none 0 0 0)::F4) (x.add 3) [vi m1]∧∃g:Addr,some p=some g∧∃(s:List Value) (v:Nat) (F6:cR),List.Perm F4 (((g.add 3).block,Obj.cells s.toArray v (0,0))::F6)∧(g.add 3).spot=none∧(g.add 3).off+1≤s.length∧Q (.returned (.agg #[vb 4,vb 0,vb 0,vi 0,vb (IntKind.wrap .u8 (wr (r1+1))),vs (⟨#[]⟩:Bs),.slice none 0 0,vi u])) I4 ((((g.add 3).block,Obj.cells (cY (g.add 3).off [vi (wr (m1+1))] s).toArray v (0,0))::F6))))) (dR P 76 (#[vp (some p),vs (⟨#[40]⟩:Bs)]) I2 ((b,nO 0 0 0 0 0 (⟨#[]⟩:Bs) none 0 0 0)::·) F2 .bool fun r2 I6 F7=>(It (!r2) (eM P 81 (#[vp (some p),vi 130]) I6 ((b,nO 0 0 0 0 0 (⟨#[]⟩:Bs) none 0 0 0)::·) F7 fun e6 I7 G6=>e6=.returned (.tuple #[])∧G6 fun F8=>Q (.returned (nV 0 0 0 0 0 (⟨#[]⟩:Bs) none 0 0 0)) I7 F8) (dR P 94 (#[vp (some p),vi d]) I6 ((b,nO 0 0 0 0 0 (⟨#[]⟩:Bs) none 0 0 0)::·) F7 .bool fun r3 I8 F9=>(It (!r3) (Q (.returned (nV 0 0 0 0 0 (⟨#[]⟩:Bs) none 0 0 0)) I8 F9) (∃y:Addr,some p=some y∧∃(m2:Int),Rd I8 ((b,nO 0 0 0 0 0 (⟨#[]⟩:Bs) none 0 0 0)::F9) (y.add 3) [vi m2]∧∃h:Addr,some p=some h∧∃(t:List Value) (w:Nat) (F10:cR),List.Perm F9 (((h.add 3).block,Obj.cells t.toArray w (0,0))::F10)∧(h.add 3).spot=none∧(h.add 3).off+1≤t.length∧cU P 48 (#[vp (some p),vi (wr (d+1))]) I8 ((b,nO 0 0 0 0 0 (⟨#[]⟩:Bs) none 0 0 0)::(((h.add 3).block,Obj.cells (cY (h.add 3).off [vi (wr (m2+1))] t).toArray w (0,0))::F10)) fun e8 I9 G8=>∃(i j k l n:Int) (o:Bs) (a:OA) (c e:Nat) (q:Int),e8=.returned (nV i j k l n o a c e q)∧∃F11:cR,List.Perm G8 ((b,nO 0 0 0 0 0 (⟨#[]⟩:Bs) none 0 0 0)::F11)∧∀z:Nat,dR P 74 (#[vp (some p),vs (⟨#[41]⟩:Bs)]) I9 ((b,nO 0 0 0 0 0 (⟨#[]⟩:Bs) none 0 0 0)::(z,nO i j k l n o a c e q)::·) F11 vi fun r4 I10 F12=>Q (.returned (nV i j k l n o a c e q)) I10 F12))))))
theorem fY.vc{p:Addr}{d:Int}{I:cS}{F:cR}{Q:cT}  (h:fY.V (fun k o t n f s a l c q=>.agg #[.int .u8 k,.int .u8 o,.int .u8 t,.int .i64 n,.int .u8 f,.string s,.slice a l c,.int .i64 q]) (fun k o t n f s a l c q=>.cells #[.int .u8 k,.int .u8 o,.int .u8 t,.int .i64 n,.int .u8 f,.string s,.slice a l c,.int .i64 q] 64 (0,0)) (.int .u8) (.int .i64) .string .pointer (IntKind.wrap .i64) p d I F Q):cU P 161 #[.pointer (some p),.int .i64 d] I F Q :=
 tw (A:=(dv [3000,6001,12001,16001] [] [48,74,76,81,94,95,108] jJ [] [5001] [] [] [] [] [])) [48,74,76,81,94,95,108] func161 h
def fC.V(ka:Nat→Int→Int→Int→Int→Int→Bs→OA→Nat→Nat→Int→Nat×Obj)(nV:Int→Int→Int→Int→Int→Bs→OA→Nat→Nat→Int→Value)(nO:Int→Int→Int→Int→Int→Bs→OA→Nat→Nat→Int→Obj)(vb vi:Int→Value)(vs:Bs→Value)(vl:OA→Nat→Nat→Value)(vp:OA→Value)(p:Addr)(d:Int)(I:cS)(F:cR)(Q:cT)  : Prop:=∀b:Nat,∀(b1:Nat) (I1:cS),cS.le I I1→I1 b1=some (Obj.cells #[vs (⟨#[45]⟩:Bs),vs (⟨#[33]⟩:Bs)] 9 (0,0))→dR P 108 (#[vp (some p),vl (some ⟨b1,0,none⟩) 2 2]) I1 ((b,nO 0 0 0 0 0 (⟨#[]⟩:Bs) none 0 0 0)::·) F vi fun r I2 F1=>(Dt (r<0) (eM P 159 (#[vp (some p),vi d]) I2 ((b,nO 0 0 0 0 0 (⟨#[]⟩:Bs) none 0 0 0)::·) F1 fun e2 I3 G2=>∃(w x y z aa:Int) (ab:Bs) (s:OA) (t u:Nat) (ac:Int),e2=.returned (nV w x y z aa ab s t u ac)∧G2 fun F2=>Q (.returned (nV w x y z aa ab s t u ac)) I3 F2) (dR P 94 (#[vp (some p),vi d]) I2 ((b,nO 0 0 0 0 0 (⟨#[]⟩:Bs) none 0 0 0)::·) F1 .bool fun r1 I4 F3=>(It (!r1) (Q (.returned (nV 0 0 0 0 0 (⟨#[]⟩:Bs) none 0 0 0)) I4 F3) (eM P 95 (#[vp (some p)]) I4 ((b,nO 0 0 0 0 0 (⟨#[]⟩:Bs) none 0 0 0)::·) F3 fun e4 I5 G4=>∃(ai:Int) (aj:Bs) (ak al a:Int),e4=.returned (.agg #[vb ai,vs aj,vb ak,vi al,vi a])∧G4 fun F4=>∀q:Nat,∃ad:Addr,some p=some ad∧∃(m:Int),Rd I5 ((b,nO 0 0 0 0 0 (⟨#[]⟩:Bs) none 0 0 0)::(ka q 5 (IntKind.wrap .u8 (1+(IntKind.wrap .u8 r))) 0 0 0 (⟨#[]⟩:Bs) none 0 0 a)::F4) (ad.add 3) [vi m]∧∃g:Addr,some p=some g∧∃(cs:List Value) (el:Nat) (F5:cR),List.Perm F4 (((g.add 3).block,Obj.cells cs.toArray el (0,0))::F5)∧(g.add 3).spot=none∧(g.add 3).off+1≤cs.length∧cU P 157 (#[vp (some p),vi (IntKind.wrap .i64 (d+1))]) I5 ((b,nO 0 0 0 0 0 (⟨#[]⟩:Bs) none 0 0 0)::(ka q 5 (IntKind.wrap .u8 (1+(IntKind.wrap .u8 r))) 0 0 0 (⟨#[]⟩:Bs) none 0 0 a)::(((g.add 3).block,Obj.cells (cY (g.add 3).off [vi (IntKind.wrap .i64 (m+1))] cs).toArray el (0,0))::F5)) fun e5 I6 G5=>∃(h i j k l:Int) (n:Bs) (c:OA) (e f:Nat) (o:Int),e5=.returned (nV h i j k l n c e f o)∧∃F6:cR,List.Perm G5 ((b,nO 0 0 0 0 0 (⟨#[]⟩:Bs) none 0 0 0)::(ka q 5 (IntKind.wrap .u8 (1+(IntKind.wrap .u8 r))) 0 0 0 (⟨#[]⟩:Bs) none 0 0 a)::F6)∧∀ah:Nat,∀(b2:Nat) (I7:cS),cS.le I6 I7→I7 b2=some (nO h i j k l n c e f o)→dC P (Builtin.append_ #[62,62] 62 #[vl none 0 0,vl (some ⟨b2,0,none⟩) 1 1]) I7 ((b,nO 0 0 0 0 0 (⟨#[]⟩:Bs) none 0 0 0)::(ka q 5 (IntKind.wrap .u8 (1+(IntKind.wrap .u8 r))) 0 0 0 (⟨#[]⟩:Bs) none 0 0 a)::(ah,nO h i j k l n c e f o)::F6) fun v I8 G6=>∃(ae:OA) (af ag:Nat),v=vl ae af ag∧∃F7:cR,List.Perm G6 ((b,nO 0 0 0 0 0 (⟨#[]⟩:Bs) none 0 0 0)::(ka q 5 (IntKind.wrap .u8 (1+(IntKind.wrap .u8 r))) 0 0 0 (⟨#[]⟩:Bs) none 0 0 a)::(ah,nO h i j k l n c e f o)::F7)∧Q (.returned (.agg #[vb 5,vb (IntKind.wrap .u8 (1+(IntKind.wrap .u8 r))),vb 0,vi 0,vb 0,vs (⟨#[]⟩:Bs),vl ae af ag,vi a])) I8 F7))))
theorem fC.vc{p:Addr}{d:Int}{I:cS}{F:cR}{Q:cT}  (h:fC.V (fun W a b c d e f g h i j=>(W,Obj.cells #[.int .u8 a,.int .u8 b,.int .u8 c,.int .i64 d,.int .u8 e,.string f,.slice g h i,.int .i64 j] 64 (0,0))) (fun k o t n f s a l c q=>.agg #[.int .u8 k,.int .u8 o,.int .u8 t,.int .i64 n,.int .u8 f,.string s,.slice a l c,.int .i64 q]) (fun k o t n f s a l c q=>.cells #[.int .u8 k,.int .u8 o,.int .u8 t,.int .i64 n,.int .u8 f,.string s,.slice a l c,.int .i64 q] 64 (0,0)) (.int .u8) (.int .i64) .string .slice .pointer p d I F Q):cU P 157 #[.pointer (some p),.int .i64 d] I F Q :=
 tw (A:=(dv [2001,5001] [] [94,95,108,157,159] jJ [] [1001,10003] [] [] [] [] [])) [94,95,108,157,159] func157 h
def eU.V(nV:Int→Int→Int→Int→Int→Bs→OA→Nat→Nat→Int→Value)(nO:Int→Int→Int→Int→Int→Bs→OA→Nat→Nat→Int→Obj)(vi:Int→Value)(vs:Bs→Value)(vp:OA→Value)(p:Addr)(d:Int)(I:cS)(F:cR)(Q:cT)(Inv5:Int→Int→Int→Int→Int→Bs→OA→Nat→Nat→Int→Int→Int→Int→Int→Int→Bs→OA→Nat→Nat→Int→Nat→cS→cR→Prop):Prop:=∀b:Nat,eM P 157 (#[vp (some p),vi d]) I ((b,nO 0 0 0 0 0 (⟨#[]⟩:Bs) none 0 0 0)::·) F fun e1 I1 G1=>∃(aC aD aE aF aG:Int) (aH:Bs) (ap:OA) (aq ar:Nat) (aI:Int),e1=.returned (nV aC aD aE aF aG aH ap aq ar aI)∧G1 fun F1=>∀ac:Nat,(∃m:Nat,Inv5 0 0 0 0 0 (⟨#[]⟩:Bs) none 0 0 0 aC aD aE aF aG aH ap aq ar aI m I1 F1)∧∀(s t u v w:Int) (x:Bs) (n:OA) (o q:Nat) (y f g h i j:Int) (k:Bs) (a:OA) (c e:Nat) (l:Int) (m1:Nat) (I2:cS) (F2:cR),cS.le I1 I2→Inv5 s t u v w x n o q y f g h i j k a c e l m1 I2 F2→∀(b1:Nat) (I3:cS),cS.le I2 I3→I3 b1=some (Obj.cells #[vs (⟨#[42]⟩:Bs),vs (⟨#[47]⟩:Bs),vs (⟨#[37]⟩:Bs)] 9 (0,0))→dR P 108 (#[vp (some p),.slice (some ⟨b1,0,none⟩) 3 3]) I3 ((b,nO s t u v w x n o q y)::(ac,nO f g h i j k a c e l)::·) F2 vi fun r I4 F3=>(Dt (r<0) (Q (.returned (nV f g h i j k a c e l)) I4 F3) (eM P 95 (#[vp (some p)]) I4 ((b,nO s t u v w x n o q y)::(ac,nO f g h i j k a c e l)::·) F3 fun e3 I5 G3=>∃(aK:Int) (aL:Bs) (aM aN au:Int),e3=.returned (.agg #[.int .u8 aK,vs aL,.int .u8 aM,vi aN,vi au])∧G3 fun F4=>∃ad:Addr,some p=some ad∧∃(m2:Int),Rd I5 ((b,nO s t u v w x n o q y)::(ac,nO f g h i j k a c e l)::F4) (ad.add 3) [vi m2]∧∃ae:Addr,some p=some ae∧∃(cs:List Value) (el:Nat) (F5:cR),List.Perm F4 (((ae.add 3).block,Obj.cells cs.toArray el (0,0))::F5)∧(ae.add 3).spot=none∧(ae.add 3).off+1≤cs.length∧cU P 157 (#[vp (some p),vi d]) I5 ((b,nO s t u v w x n o q y)::(ac,nO f g h i j k a c e l)::(((ae.add 3).block,Obj.cells (cY (ae.add 3).off [vi (IntKind.wrap .i64 (m2+1))] cs).toArray el (0,0))::F5)) fun e4 I6 G4=>∃(af ag ah ai aj:Int) (ak:Bs) (z:OA) (aa ab:Nat) (al:Int),e4=.returned (nV af ag ah ai aj ak z aa ab al)∧∃F6:cR,List.Perm G4 ((b,nO s t u v w x n o q y)::(ac,nO f g h i j k a c e l)::F6)∧∀aJ:Nat,eM P 117 (#[.int .u8 (IntKind.wrap .u8 (8+(IntKind.wrap .u8 r))),vi au,nV f g h i j k a c e l,nV af ag ah ai aj ak z aa ab al]) I6 ((b,nO s t u v w x n o q y)::(ac,nO f g h i j k a c e l)::(aJ,nO af ag ah ai aj ak z aa ab al)::·) F6 fun e5 I7 G5=>∃(av aw ax ay az:Int) (aA:Bs) (am:OA) (an ao:Nat) (aB:Int),e5=.returned (nV av aw ax ay az aA am an ao aB)∧G5 fun F7=>(∃m3:Nat,m3<m1∧Inv5 s t u v w x n o q y av aw ax ay az aA am an ao aB m3 I7 F7)))
theorem eU.vc{p:Addr}{d:Int}{I:cS}{F:cR}{Q:cT}(Inv5:Int→Int→Int→Int→Int→Bs→OA→Nat→Nat→Int→Int→Int→Int→Int→Int→Bs→OA→Nat→Nat→Int→Nat→cS→cR→Prop)(h:eU.V (fun k o t n f s a l c q=>.agg #[.int .u8 k,.int .u8 o,.int .u8 t,.int .i64 n,.int .u8 f,.string s,.slice a l c,.int .i64 q]) (fun k o t n f s a l c q=>.cells #[.int .u8 k,.int .u8 o,.int .u8 t,.int .i64 n,.int .u8 f,.string s,.slice a l c,.int .i64 q] 64 (0,0)) (.int .i64) .string .pointer p d I F Q Inv5):cU P 152 #[.pointer (some p),.int .i64 d] I F Q :=
 tw (A:=(dv [3001] [] [95,108,117,157] jJ [(5,⟨[],[(0,[(.int .u8),(.int .u8),(.int .u8),(.int .i64),(.int .u8),.str,.slc,(.int .i64)]),(1,[(.int .u8),(.int .u8),(.int .u8),(.int .i64),(.int .u8),.str,.slc,(.int .i64)])],fun _ _ _ vs m I F=>match vs with | [.int _ y0,.int _ y1,.int _ y2,.int _ y3,.int _ y4,.string y5,.slice y6 y7 y8,.int _ y9,.int _ y10,.int _ y11,.int _ y12,.int _ y13,.int _ y14,.string y15,.slice y16 y17 y18,.int _ y19]=>Inv5 y0 y1 y2 y3 y4 y5 y6 y7 y8 y9 y10 y11 y12 y13 y14 y15 y16 y17 y18 y19 m I F | _=>False,[],[]⟩)] [2001] [] [] [] [] [])) [95,108,117,157] func152 h
def gI.V(nV:Int→Int→Int→Int→Int→Bs→OA→Nat→Nat→Int→Value)(nO:Int→Int→Int→Int→Int→Bs→OA→Nat→Nat→Int→Obj)(vi:Int→Value)(vp:OA→Value)(p:Addr)(d:Int)(I:cS)(F:cR)(Q:cT)(Inv5:Int→Int→Int→Int→Int→Bs→OA→Nat→Nat→Int→Int→Int→Int→Int→Int→Bs→OA→Nat→Nat→Int→Nat→cS→cR→Prop):Prop:=∀b:Nat,eM P 152 (#[vp (some p),vi d]) I ((b,nO 0 0 0 0 0 (⟨#[]⟩:Bs) none 0 0 0)::·) F fun e1 I1 G1=>∃(aC aD aE aF aG:Int) (aH:Bs) (ap:OA) (aq ar:Nat) (aI:Int),e1=.returned (nV aC aD aE aF aG aH ap aq ar aI)∧G1 fun F1=>∀ac:Nat,(∃m:Nat,Inv5 0 0 0 0 0 (⟨#[]⟩:Bs) none 0 0 0 aC aD aE aF aG aH ap aq ar aI m I1 F1)∧∀(s t u v w:Int) (x:Bs) (n:OA) (o q:Nat) (y f g h i j:Int) (k:Bs) (a:OA) (c e:Nat) (l:Int) (m1:Nat) (I2:cS) (F2:cR),cS.le I1 I2→Inv5 s t u v w x n o q y f g h i j k a c e l m1 I2 F2→∀(b1:Nat) (I3:cS),cS.le I2 I3→I3 b1=some (Obj.cells #[.string (⟨#[43]⟩:Bs),.string (⟨#[45]⟩:Bs)] 9 (0,0))→dR P 108 (#[vp (some p),.slice (some ⟨b1,0,none⟩) 2 2]) I3 ((b,nO s t u v w x n o q y)::(ac,nO f g h i j k a c e l)::·) F2 vi fun r I4 F3=>(Dt (r<0) (Q (.returned (nV f g h i j k a c e l)) I4 F3) (eM P 95 (#[vp (some p)]) I4 ((b,nO s t u v w x n o q y)::(ac,nO f g h i j k a c e l)::·) F3 fun e3 I5 G3=>∃(aK:Int) (aL:Bs) (aM aN au:Int),e3=.returned (.agg #[.int .u8 aK,.string aL,.int .u8 aM,vi aN,vi au])∧G3 fun F4=>∃ad:Addr,some p=some ad∧∃(m2:Int),Rd I5 ((b,nO s t u v w x n o q y)::(ac,nO f g h i j k a c e l)::F4) (ad.add 3) [vi m2]∧∃ae:Addr,some p=some ae∧∃(cs:List Value) (el:Nat) (F5:cR),List.Perm F4 (((ae.add 3).block,Obj.cells cs.toArray el (0,0))::F5)∧(ae.add 3).spot=none∧(ae.add 3).off+1≤cs.length∧cU P 152 (#[vp (some p),vi d]) I5 ((b,nO s t u v w x n o q y)::(ac,nO f g h i j k a c e l)::(((ae.add 3).block,Obj.cells (cY (ae.add 3).off [vi (IntKind.wrap .i64 (m2+1))] cs).toArray el (0,0))::F5)) fun e4 I6 G4=>∃(af ag ah ai aj:Int) (ak:Bs) (z:OA) (aa ab:Nat) (al:Int),e4=.returned (nV af ag ah ai aj ak z aa ab al)∧∃F6:cR,List.Perm G4 ((b,nO s t u v w x n o q y)::(ac,nO f g h i j k a c e l)::F6)∧∀aJ:Nat,eM P 117 (#[.int .u8 (IntKind.wrap .u8 (6+(IntKind.wrap .u8 r))),vi au,nV f g h i j k a c e l,nV af ag ah ai aj ak z aa ab al]) I6 ((b,nO s t u v w x n o q y)::(ac,nO f g h i j k a c e l)::(aJ,nO af ag ah ai aj ak z aa ab al)::·) F6 fun e5 I7 G5=>∃(av aw ax ay az:Int) (aA:Bs) (am:OA) (an ao:Nat) (aB:Int),e5=.returned (nV av aw ax ay az aA am an ao aB)∧G5 fun F7=>(∃m3:Nat,m3<m1∧Inv5 s t u v w x n o q y av aw ax ay az aA am an ao aB m3 I7 F7)))
theorem gI.vc{p:Addr}{d:Int}{I:cS}{F:cR}{Q:cT}(Inv5:Int→Int→Int→Int→Int→Bs→OA→Nat→Nat→Int→Int→Int→Int→Int→Int→Bs→OA→Nat→Nat→Int→Nat→cS→cR→Prop)(h:gI.V (fun k o t n f s a l c q=>.agg #[.int .u8 k,.int .u8 o,.int .u8 t,.int .i64 n,.int .u8 f,.string s,.slice a l c,.int .i64 q]) (fun k o t n f s a l c q=>.cells #[.int .u8 k,.int .u8 o,.int .u8 t,.int .i64 n,.int .u8 f,.string s,.slice a l c,.int .i64 q] 64 (0,0)) (.int .i64) .pointer p d I F Q Inv5):cU P 144 #[.pointer (some p),.int .i64 d] I F Q :=
 tw (A:=(dv [3001] [] [95,108,117,152] jJ [(5,⟨[],[(0,[(.int .u8),(.int .u8),(.int .u8),(.int .i64),(.int .u8),.str,.slc,(.int .i64)]),(1,[(.int .u8),(.int .u8),(.int .u8),(.int .i64),(.int .u8),.str,.slc,(.int .i64)])],fun _ _ _ vs m I F=>match vs with | [.int _ y0,.int _ y1,.int _ y2,.int _ y3,.int _ y4,.string y5,.slice y6 y7 y8,.int _ y9,.int _ y10,.int _ y11,.int _ y12,.int _ y13,.int _ y14,.string y15,.slice y16 y17 y18,.int _ y19]=>Inv5 y0 y1 y2 y3 y4 y5 y6 y7 y8 y9 y10 y11 y12 y13 y14 y15 y16 y17 y18 y19 m I F | _=>False,[],[]⟩)] [2001] [] [] [] [] [])) [95,108,117,152] func144 h
def eV.V(nV:Int→Int→Int→Int→Int→Bs→OA→Nat→Nat→Int→Value)(nO:Int→Int→Int→Int→Int→Bs→OA→Nat→Nat→Int→Obj)(vi:Int→Value)(vs:Bs→Value)(vp:OA→Value)(p:Addr)(d:Int)(I:cS)(F:cR)(Q:cT)  : Prop:=∀b:Nat,eM P 144 (#[vp (some p),vi d]) I ((b,nO 0 0 0 0 0 (⟨#[]⟩:Bs) none 0 0 0)::·) F fun e1 I1 G1=>∃(f g h i j:Int) (k:Bs) (a:OA) (c e:Nat) (l:Int),e1=.returned (nV f g h i j k a c e l)∧G1 fun F1=>∀s:Nat,∀(b1:Nat) (I2:cS),cS.le I1 I2→I2 b1=some (Obj.cells #[vs (⟨#[61,61]⟩:Bs),vs (⟨#[33,61]⟩:Bs),vs (⟨#[60]⟩:Bs),vs (⟨#[60,61]⟩:Bs),vs (⟨#[62]⟩:Bs),vs (⟨#[62,61]⟩:Bs)] 9 (0,0))→dR P 108 (#[vp (some p),.slice (some ⟨b1,0,none⟩) 6 6]) I2 ((b,nO 0 0 0 0 0 (⟨#[]⟩:Bs) none 0 0 0)::(s,nO f g h i j k a c e l)::·) F1 vi fun r I3 F2=>(Dt (r<0) (Q (.returned (nV f g h i j k a c e l)) I3 F2) (eM P 95 (#[vp (some p)]) I3 ((b,nO 0 0 0 0 0 (⟨#[]⟩:Bs) none 0 0 0)::(s,nO f g h i j k a c e l)::·) F2 fun e3 I4 G3=>∃(ao:Int) (ap:Bs) (aq ar af:Int),e3=.returned (.agg #[.int .u8 ao,vs ap,.int .u8 aq,vi ar,vi af])∧G3 fun F3=>∃ad:Addr,some p=some ad∧∃(m:Int),Rd I4 ((b,nO 0 0 0 0 0 (⟨#[]⟩:Bs) none 0 0 0)::(s,nO f g h i j k a c e l)::F3) (ad.add 3) [vi m]∧∃t:Addr,some p=some t∧∃(cs:List Value) (el:Nat) (F4:cR),List.Perm F3 (((t.add 3).block,Obj.cells cs.toArray el (0,0))::F4)∧(t.add 3).spot=none∧(t.add 3).off+1≤cs.length∧cU P 144 (#[vp (some p),vi d]) I4 ((b,nO 0 0 0 0 0 (⟨#[]⟩:Bs) none 0 0 0)::(s,nO f g h i j k a c e l)::(((t.add 3).block,Obj.cells (cY (t.add 3).off [vi (IntKind.wrap .i64 (m+1))] cs).toArray el (0,0))::F4)) fun e4 I5 G4=>∃(u v w x y:Int) (z:Bs) (n:OA) (o q:Nat) (aa:Int),e4=.returned (nV u v w x y z n o q aa)∧∃F5:cR,List.Perm G4 ((b,nO 0 0 0 0 0 (⟨#[]⟩:Bs) none 0 0 0)::(s,nO f g h i j k a c e l)::F5)∧∀an:Nat,eM P 117 (#[.int .u8 (IntKind.wrap .u8 (11+(IntKind.wrap .u8 r))),vi af,nV f g h i j k a c e l,nV u v w x y z n o q aa]) I5 ((b,nO 0 0 0 0 0 (⟨#[]⟩:Bs) none 0 0 0)::(s,nO f g h i j k a c e l)::(an,nO u v w x y z n o q aa)::·) F5 fun e5 I6 G5=>∃(ag ah ai aj ak:Int) (al:Bs) (ab:OA) (ac ae:Nat) (am:Int),e5=.returned (nV ag ah ai aj ak al ab ac ae am)∧G5 fun F6=>Q (.returned (nV ag ah ai aj ak al ab ac ae am)) I6 F6))
theorem eV.vc{p:Addr}{d:Int}{I:cS}{F:cR}{Q:cT}  (h:eV.V (fun k o t n f s a l c q=>.agg #[.int .u8 k,.int .u8 o,.int .u8 t,.int .i64 n,.int .u8 f,.string s,.slice a l c,.int .i64 q]) (fun k o t n f s a l c q=>.cells #[.int .u8 k,.int .u8 o,.int .u8 t,.int .i64 n,.int .u8 f,.string s,.slice a l c,.int .i64 q] 64 (0,0)) (.int .i64) .string .pointer p d I F Q):cU P 129 #[.pointer (some p),.int .i64 d] I F Q :=
 tw (A:=(dv [3001] [] [95,108,117,144] jJ [] [2001] [] [] [] [] [])) [95,108,117,144] func129 h
def gJ.V(nV:Int→Int→Int→Int→Int→Bs→OA→Nat→Nat→Int→Value)(nO:Int→Int→Int→Int→Int→Bs→OA→Nat→Nat→Int→Obj)(vi:Int→Value)(vp:OA→Value)(p:Addr)(d:Int)(I:cS)(F:cR)(Q:cT)(Inv5:Int→Int→Int→Int→Int→Bs→OA→Nat→Nat→Int→Int→Int→Int→Int→Int→Bs→OA→Nat→Nat→Int→Nat→cS→cR→Prop):Prop:=∀b:Nat,eM P 129 (#[vp (some p),vi d]) I ((b,nO 0 0 0 0 0 (⟨#[]⟩:Bs) none 0 0 0)::·) F fun e1 I1 G1=>∃(aC aD aE aF aG:Int) (aH:Bs) (ap:OA) (aq ar:Nat) (aI:Int),e1=.returned (nV aC aD aE aF aG aH ap aq ar aI)∧G1 fun F1=>∀ac:Nat,(∃m:Nat,Inv5 0 0 0 0 0 (⟨#[]⟩:Bs) none 0 0 0 aC aD aE aF aG aH ap aq ar aI m I1 F1)∧∀(s t u v w:Int) (x:Bs) (n:OA) (o q:Nat) (y f g h i j:Int) (k:Bs) (a:OA) (c e:Nat) (l:Int) (m1:Nat) (I2:cS) (F2:cR),cS.le I1 I2→Inv5 s t u v w x n o q y f g h i j k a c e l m1 I2 F2→dR P 76 (#[vp (some p),.string (⟨#[38,38]⟩:Bs)]) I2 ((b,nO s t u v w x n o q y)::(ac,nO f g h i j k a c e l)::·) F2 .bool fun r I3 F3=>(It (!r) (Q (.returned (nV f g h i j k a c e l)) I3 F3) (eM P 95 (#[vp (some p)]) I3 ((b,nO s t u v w x n o q y)::(ac,nO f g h i j k a c e l)::·) F3 fun e3 I4 G3=>∃(aK:Int) (aL:Bs) (aM aN au:Int),e3=.returned (.agg #[.int .u8 aK,.string aL,.int .u8 aM,vi aN,vi au])∧G3 fun F4=>∃ad:Addr,some p=some ad∧∃(m2:Int),Rd I4 ((b,nO s t u v w x n o q y)::(ac,nO f g h i j k a c e l)::F4) (ad.add 3) [vi m2]∧∃ae:Addr,some p=some ae∧∃(cs:List Value) (el:Nat) (F5:cR),List.Perm F4 (((ae.add 3).block,Obj.cells cs.toArray el (0,0))::F5)∧(ae.add 3).spot=none∧(ae.add 3).off+1≤cs.length∧cU P 129 (#[vp (some p),vi d]) I4 ((b,nO s t u v w x n o q y)::(ac,nO f g h i j k a c e l)::(((ae.add 3).block,Obj.cells (cY (ae.add 3).off [vi (IntKind.wrap .i64 (m2+1))] cs).toArray el (0,0))::F5)) fun e4 I5 G4=>∃(af ag ah ai aj:Int) (ak:Bs) (z:OA) (aa ab:Nat) (al:Int),e4=.returned (nV af ag ah ai aj ak z aa ab al)∧∃F6:cR,List.Perm G4 ((b,nO s t u v w x n o q y)::(ac,nO f g h i j k a c e l)::F6)∧∀aJ:Nat,eM P 117 #[.int .u8 17,vi au,nV f g h i j k a c e l,nV af ag ah ai aj ak z aa ab al] I5 ((b,nO s t u v w x n o q y)::(ac,nO f g h i j k a c e l)::(aJ,nO af ag ah ai aj ak z aa ab al)::·) F6 fun e5 I6 G5=>∃(av aw ax ay az:Int) (aA:Bs) (am:OA) (an ao:Nat) (aB:Int),e5=.returned (nV av aw ax ay az aA am an ao aB)∧G5 fun F7=>(∃m3:Nat,m3<m1∧Inv5 s t u v w x n o q y av aw ax ay az aA am an ao aB m3 I6 F7)))
theorem gJ.vc{p:Addr}{d:Int}{I:cS}{F:cR}{Q:cT}(Inv5:Int→Int→Int→Int→Int→Bs→OA→Nat→Nat→Int→Int→Int→Int→Int→Int→Bs→OA→Nat→Nat→Int→Nat→cS→cR→Prop)(h:gJ.V (fun k o t n f s a l c q=>.agg #[.int .u8 k,.int .u8 o,.int .u8 t,.int .i64 n,.int .u8 f,.string s,.slice a l c,.int .i64 q]) (fun k o t n f s a l c q=>.cells #[.int .u8 k,.int .u8 o,.int .u8 t,.int .i64 n,.int .u8 f,.string s,.slice a l c,.int .i64 q] 64 (0,0)) (.int .i64) .pointer p d I F Q Inv5):cU P 116 #[.pointer (some p),.int .i64 d] I F Q :=
 tw (A:=(dv [3001] [] [76,95,117,129] jJ [(5,⟨[],[(0,[(.int .u8),(.int .u8),(.int .u8),(.int .i64),(.int .u8),.str,.slc,(.int .i64)]),(1,[(.int .u8),(.int .u8),(.int .u8),(.int .i64),(.int .u8),.str,.slc,(.int .i64)])],fun _ _ _ vs m I F=>match vs with | [.int _ y0,.int _ y1,.int _ y2,.int _ y3,.int _ y4,.string y5,.slice y6 y7 y8,.int _ y9,.int _ y10,.int _ y11,.int _ y12,.int _ y13,.int _ y14,.string y15,.slice y16 y17 y18,.int _ y19]=>Inv5 y0 y1 y2 y3 y4 y5 y6 y7 y8 y9 y10 y11 y12 y13 y14 y15 y16 y17 y18 y19 m I F | _=>False,[],[]⟩)] [] [] [] [] [] [])) [76,95,117,129] func116 h
def hZ.V(nV:Int→Int→Int→Int→Int→Bs→OA→Nat→Nat→Int→Value)(nO:Int→Int→Int→Int→Int→Bs→OA→Nat→Nat→Int→Obj)(vi:Int→Value)(vp:OA→Value)(p:Addr)(d:Int)(I:cS)(F:cR)(Q:cT)(Inv5:Int→Int→Int→Int→Int→Bs→OA→Nat→Nat→Int→Int→Int→Int→Int→Int→Bs→OA→Nat→Nat→Int→Nat→cS→cR→Prop):Prop:=∀b:Nat,eM P 116 (#[vp (some p),vi d]) I ((b,nO 0 0 0 0 0 (⟨#[]⟩:Bs) none 0 0 0)::·) F fun e1 I1 G1=>∃(aC aD aE aF aG:Int) (aH:Bs) (ap:OA) (aq ar:Nat) (aI:Int),e1=.returned (nV aC aD aE aF aG aH ap aq ar aI)∧G1 fun F1=>∀ac:Nat,(∃m:Nat,Inv5 0 0 0 0 0 (⟨#[]⟩:Bs) none 0 0 0 aC aD aE aF aG aH ap aq ar aI m I1 F1)∧∀(s t u v w:Int) (x:Bs) (n:OA) (o q:Nat) (y f g h i j:Int) (k:Bs) (a:OA) (c e:Nat) (l:Int) (m1:Nat) (I2:cS) (F2:cR),cS.le I1 I2→Inv5 s t u v w x n o q y f g h i j k a c e l m1 I2 F2→dR P 76 (#[vp (some p),.string (⟨#[124,124]⟩:Bs)]) I2 ((b,nO s t u v w x n o q y)::(ac,nO f g h i j k a c e l)::·) F2 .bool fun r I3 F3=>(It (!r) (Q (.returned (nV f g h i j k a c e l)) I3 F3) (eM P 95 (#[vp (some p)]) I3 ((b,nO s t u v w x n o q y)::(ac,nO f g h i j k a c e l)::·) F3 fun e3 I4 G3=>∃(aK:Int) (aL:Bs) (aM aN au:Int),e3=.returned (.agg #[.int .u8 aK,.string aL,.int .u8 aM,vi aN,vi au])∧G3 fun F4=>∃ad:Addr,some p=some ad∧∃(m2:Int),Rd I4 ((b,nO s t u v w x n o q y)::(ac,nO f g h i j k a c e l)::F4) (ad.add 3) [vi m2]∧∃ae:Addr,some p=some ae∧∃(cs:List Value) (el:Nat) (F5:cR),List.Perm F4 (((ae.add 3).block,Obj.cells cs.toArray el (0,0))::F5)∧(ae.add 3).spot=none∧(ae.add 3).off+1≤cs.length∧cU P 116 (#[vp (some p),vi d]) I4 ((b,nO s t u v w x n o q y)::(ac,nO f g h i j k a c e l)::(((ae.add 3).block,Obj.cells (cY (ae.add 3).off [vi (IntKind.wrap .i64 (m2+1))] cs).toArray el (0,0))::F5)) fun e4 I5 G4=>∃(af ag ah ai aj:Int) (ak:Bs) (z:OA) (aa ab:Nat) (al:Int),e4=.returned (nV af ag ah ai aj ak z aa ab al)∧∃F6:cR,List.Perm G4 ((b,nO s t u v w x n o q y)::(ac,nO f g h i j k a c e l)::F6)∧∀aJ:Nat,eM P 117 #[.int .u8 18,vi au,nV f g h i j k a c e l,nV af ag ah ai aj ak z aa ab al] I5 ((b,nO s t u v w x n o q y)::(ac,nO f g h i j k a c e l)::(aJ,nO af ag ah ai aj ak z aa ab al)::·) F6 fun e5 I6 G5=>∃(av aw ax ay az:Int) (aA:Bs) (am:OA) (an ao:Nat) (aB:Int),e5=.returned (nV av aw ax ay az aA am an ao aB)∧G5 fun F7=>(∃m3:Nat,m3<m1∧Inv5 s t u v w x n o q y av aw ax ay az aA am an ao aB m3 I6 F7)))
theorem hZ.vc{p:Addr}{d:Int}{I:cS}{F:cR}{Q:cT}(Inv5:Int→Int→Int→Int→Int→Bs→OA→Nat→Nat→Int→Int→Int→Int→Int→Int→Bs→OA→Nat→Nat→Int→Nat→cS→cR→Prop)(h:hZ.V (fun k o t n f s a l c q=>.agg #[.int .u8 k,.int .u8 o,.int .u8 t,.int .i64 n,.int .u8 f,.string s,.slice a l c,.int .i64 q]) (fun k o t n f s a l c q=>.cells #[.int .u8 k,.int .u8 o,.int .u8 t,.int .i64 n,.int .u8 f,.string s,.slice a l c,.int .i64 q] 64 (0,0)) (.int .i64) .pointer p d I F Q Inv5):cU P 93 #[.pointer (some p),.int .i64 d] I F Q :=
 tw (A:=(dv [3001] [] [76,95,116,117] jJ [(5,⟨[],[(0,[(.int .u8),(.int .u8),(.int .u8),(.int .i64),(.int .u8),.str,.slc,(.int .i64)]),(1,[(.int .u8),(.int .u8),(.int .u8),(.int .i64),(.int .u8),.str,.slc,(.int .i64)])],fun _ _ _ vs m I F=>match vs with | [.int _ y0,.int _ y1,.int _ y2,.int _ y3,.int _ y4,.string y5,.slice y6 y7 y8,.int _ y9,.int _ y10,.int _ y11,.int _ y12,.int _ y13,.int _ y14,.string y15,.slice y16 y17 y18,.int _ y19]=>Inv5 y0 y1 y2 y3 y4 y5 y6 y7 y8 y9 y10 y11 y12 y13 y14 y15 y16 y17 y18 y19 m I F | _=>False,[],[]⟩)] [] [] [] [] [] [])) [76,95,116,117] func93 h
def fZ.V(nV:Int→Int→Int→Int→Int→Bs→OA→Nat→Nat→Int→Value)(nO:Int→Int→Int→Int→Int→Bs→OA→Nat→Nat→Int→Obj)(vb vi:Int→Value)(vs:Bs→Value)(vp:OA→Value)(p:Addr)(d:Int)(I:cS)(F:cR)(Q:cT)  : Prop:=∀b:Nat,eM P 93 (#[vp (some p),vi d]) I ((b,nO 0 0 0 0 0 (⟨#[]⟩:Bs) none 0 0 0)::·) F fun e1 I1 G1=>∃(f g h i j:Int) (k:Bs) (a:OA) (c e:Nat) (l:Int),e1=.returned (nV f g h i j k a c e l)∧G1 fun F1=>∀s:Nat,dR P 76 (#[vp (some p),vs (⟨#[63]⟩:Bs)]) I1 ((b,nO 0 0 0 0 0 (⟨#[]⟩:Bs) none 0 0 0)::(s,nO f g h i j k a c e l)::·) F1 .bool fun r I2 F2=>(It (!r) (Q (.returned (nV f g h i j k a c e l)) I2 F2) (dR P 94 (#[vp (some p),vi d]) I2 ((b,nO 0 0 0 0 0 (⟨#[]⟩:Bs) none 0 0 0)::(s,nO f g h i j k a c e l)::·) F2 .bool fun r1 I3 F3=>(It (!r1) (Q (.returned (nV 0 0 0 0 0 (⟨#[]⟩:Bs) none 0 0 0)) I3 F3) (eM P 95 (#[vp (some p)]) I3 ((b,nO 0 0 0 0 0 (⟨#[]⟩:Bs) none 0 0 0)::(s,nO f g h i j k a c e l)::·) F3 fun e4 I4 G4=>∃(ao:Int) (ap:Bs) (aq ar ag:Int),e4=.returned (.agg #[vb ao,vs ap,vb aq,vi ar,vi ag])∧G4 fun F4=>∃ad:Addr,some p=some ad∧∃(m:Int),Rd I4 ((b,nO 0 0 0 0 0 (⟨#[]⟩:Bs) none 0 0 0)::(s,nO f g h i j k a c e l)::F4) (ad.add 3) [vi m]∧∃aa:Addr,some p=some aa∧∃(cs:List Value) (el:Nat) (F5:cR),List.Perm F4 (((aa.add 3).block,Obj.cells cs.toArray el (0,0))::F5)∧(aa.add 3).spot=none∧(aa.add 3).off+1≤cs.length∧cU P 48 (#[vp (some p),vi (IntKind.wrap .i64 (d+1))]) I4 ((b,nO 0 0 0 0 0 (⟨#[]⟩:Bs) none 0 0 0)::(s,nO f g h i j k a c e l)::(((aa.add 3).block,Obj.cells (cY (aa.add 3).off [vi (IntKind.wrap .i64 (m+1))] cs).toArray el (0,0))::F5)) fun e5 I5 G5=>∃(t u v w x:Int) (y:Bs) (n:OA) (o q:Nat) (z:Int),e5=.returned (nV t u v w x y n o q z)∧∃F6:cR,List.Perm G5 ((b,nO 0 0 0 0 0 (⟨#[]⟩:Bs) none 0 0 0)::(s,nO f g h i j k a c e l)::F6)∧∀af:Nat,dR P 74 (#[vp (some p),vs (⟨#[58]⟩:Bs)]) I5 ((b,nO 0 0 0 0 0 (⟨#[]⟩:Bs) none 0 0 0)::(s,nO f g h i j k a c e l)::(af,nO t u v w x y n o q z)::·) F6 vi fun r2 I6 F7=>eM P 48 (#[vp (some p),vi (IntKind.wrap .i64 (d+1))]) I6 ((b,nO 0 0 0 0 0 (⟨#[]⟩:Bs) none 0 0 0)::(s,nO f g h i j k a c e l)::(af,nO t u v w x y n o q z)::·) F7 fun e7 I7 G7=>∃(ah ai aj ak al:Int) (am:Bs) (ab:OA) (ac ae:Nat) (an:Int),e7=.returned (nV ah ai aj ak al am ab ac ae an)∧G7 fun F8=>∀au:Nat,∀(b1:Nat) (I8:cS),cS.le I7 I8→I8 b1=some (Obj.cells #[vb f,vb g,vb h,vi i,vb j,vs k,.slice a c e,vi l,vb t,vb u,vb v,vi w,vb x,vs y,.slice n o q,vi z,vb ah,vb ai,vb aj,vi ak,vb al,vs am,.slice ab ac ae,vi an] 64 (0,0))→Q (.returned (nV 7 0 0 0 0 (⟨#[]⟩:Bs) (some ⟨b1,0,none⟩) 3 3 ag)) I8 F8))))
theorem fZ.vc{p:Addr}{d:Int}{I:cS}{F:cR}{Q:cT}  (h:fZ.V (fun k o t n f s a l c q=>.agg #[.int .u8 k,.int .u8 o,.int .u8 t,.int .i64 n,.int .u8 f,.string s,.slice a l c,.int .i64 q]) (fun k o t n f s a l c q=>.cells #[.int .u8 k,.int .u8 o,.int .u8 t,.int .i64 n,.int .u8 f,.string s,.slice a l c,.int .i64 q] 64 (0,0)) (.int .u8) (.int .i64) .string .pointer p d I F Q):cU P 48 #[.pointer (some p),.int .i64 d] I F Q :=
 tw (A:=(dv [3001,6001] [] [48,74,76,93,94,95] jJ [] [13003] [] [] [] [] [])) [48,74,76,93,94,95] func48 h
def mf.V(vb vi:Int→Value)(o h i j k l m:Int)(n:Bs)(a:OA)(c d:Nat)(p q r s t u:Int)(v:Bs)(e:OA)(f g:Nat)(w:Int)(I:cS)(F:cR)(Q:cT)  : Prop:=∀x:Nat,∀y:Nat,∀b:Nat,∀(b1:Nat) (I1:cS),cS.le I I1→I1 b1=some (Obj.cells #[vb i,vb j,vb k,vi l,vb m,.string n,.slice a c d,vi p,vb q,vb r,vb s,vi t,vb u,.string v,.slice e f g,vi w] 64 (0,0))→Q (.returned (.agg #[vb 6,vb o,vb 0,vi 0,vb 0,.string (⟨#[]⟩:Bs),.slice (some ⟨b1,0,none⟩) 2 2,vi h])) I1 (F)
theorem mf.vc{o g i j k l m:Int}{n:Bs}{a:OA}{b c:Nat}{p q r s t u:Int}{v:Bs}{d:OA}{e f:Nat}{w:Int}{I:cS}{F:cR}{Q:cT}  (h:mf.V (.int .u8) (.int .i64) o g i j k l m n a b c p q r s t u v d e f w I F Q):cU P 117 #[.int .u8 o,.int .i64 g,.agg #[.int .u8 i,.int .u8 j,.int .u8 k,.int .i64 l,.int .u8 m,.string n,.slice a b c,.int .i64 p],.agg #[.int .u8 q,.int .u8 r,.int .u8 s,.int .i64 t,.int .u8 u,.string v,.slice d e f,.int .i64 w]] I F Q :=
 tw (A:=(dv [] [] [] jJ [] [1003] [] [] [] [] [])) [] func117 h
end Go.Lx
namespace Go.Lx
open Go.Vc
section
variable {c:PC} {s:PS}
theorem oc:s.inc.next=s.next+1:=rfl
theorem nj(e:Int):(c.c5 e s).next=s.next:=by
 unfold PC.c5;split
 ·rfl
 ·split<;>rfl
theorem uG(d:Int):(c.c9 d s).next=s.next:=by
 unfold PC.c9;split
 ·exact nj _
 ·rfl
theorem oN(n m:Nat):(c.many n m s).next=s.next:=by
 unfold PC.many;split
 ·exact nj _
 ·rfl
theorem qP{e:Int}(he:e≠0)(hl:s.next<c.l.length):(c.c5 e s).over=true:=by
 unfold PC.c5
 split
 ·assumption
 ·rw[if_neg (by omega)]
  simpa[PS.over] using he
theorem iw{d:Int}(hl:s.next<c.l.length)(h:(c.c9 d s).over=false):d+1≤24∧c.c9 d s=s:=by
 unfold PC.c9 at h ⊢
 split
 ·rename_i hd
  rw[if_pos hd,qP (by decide) hl] at h
  cases h
 ·rename_i hd
  exact⟨by omega,rfl⟩
theorem j8{n m:Nat}(hl:s.next<c.l.length)(h:(c.many n m s).over=false):n<m∧c.many n m s=s:=by
 unfold PC.many at h ⊢
 split
 ·rename_i hd
  rw[if_pos hd,qP (by decide) hl] at h
  cases h
 ·rename_i hd
  exact⟨by omega,rfl⟩
def Up(c:PC)(s s':PS):Prop:=s.next≤s'.next∧(s.next≤c.l.length→s'.next≤c.l.length)
theorem Up.refl:Up c s s:=⟨Nat.le_refl _,fun h=>h⟩
theorem Up.trans{a b d:PS}(h:Up c a b)(h':Up c b d):Up c a d:=⟨Nat.le_trans h.1 h'.1,fun h0=>h'.2 (h.2 h0)⟩
theorem Up.inc(hl:s.next<c.l.length):Up c s s.inc:=⟨Nat.le_succ _,fun _=>hl⟩
theorem Up.of_eq{s':PS}(h:s'.next=s.next):Up c s s':=⟨by omega,fun _=>by omega⟩
theorem Up.c5(e:Int):Up c s (c.c5 e s):=.of_eq (nj e)
theorem Up.c9(d:Int):Up c s (c.c9 d s):=.of_eq (uG d)
theorem Up.many(n m:Nat):Up c s (c.many n m s):=.of_eq (oN n m)
theorem Up.take(w:ByteArray):Up c s (c.take w s).2:=by
 unfold PC.take;split
 ·rename_i h;exact .inc (ew h)
 ·exact .c5 _
theorem Up.name:Up c s (c.name s).2:=by
 unfold PC.name;split
 ·rename_i h;exact .inc (kh (by rw[h];decide))
 ·exact .c5 _
theorem Up.literal:Up c s (c.literal s).2:=by
 unfold PC.literal
 split
 ·rename_i h;exact .inc (kh (by rw[h];decide))
 ·split
  ·rename_i h;exact .inc (kh (by rw[h.1];decide))
  ·split
   ·rename_i h;exact .inc (kh (by rw[h.1];decide))
   ·exact .refl
end
def dT(c:PC){α:Type}(f:PS→α×PS):Prop:=∀s,Up c s (f s).2
section
variable {c:PC} {nx:Lv} (hx:dT c nx.ex) (hu:dT c nx.un)
include hx
theorem Up.kids:∀(n:Nat) (f:Bool) (s:PS),Up c s (c.dW nx n f s).2
 | 0,f,s=>.refl
 | n+1,f,s=>by
   rw[PC.dW]
   refine Up.trans ?_ (Up.kids n false _)
   refine Up.trans ?_ (hx _)
   split
   ·exact .refl
   ·exact .take _
theorem Up.call{d kind oper iS pos:Int}{many:Nat}{s:PS}(hl:s.next<c.l.length):Up c s (c.call nx d kind oper iS pos many s).2:=by
 unfold PC.call
 split
 ·exact .c9 _
 ·rename_i h
  obtain⟨_,he⟩:=iw hl (by simpa using h)
  rw[he]
  exact ((Up.inc hl).trans (.take _)).trans ((Up.kids hx _ _ _).trans (.take _))
theorem Up.rest(d:Int):dT c (c.rest nx d):=fun s=>by
 unfold PC.rest
 split
 ·rename_i h
  have hl:=ew h
  split
  ·exact (Up.inc hl).trans (.c5 _)
  ·rename_i h2
   exact (Up.inc hl).trans (.inc (dt (Int.not_lt.1 h2)).1)
 ·split
  ·rename_i h
   have hl:=ew h
   split
   ·exact .c9 _
   ·rename_i h2
    obtain⟨_,he⟩:=iw hl (by simpa using h2)
    rw[he]
    exact (Up.inc hl).trans ((hx _).trans (.take _))
  ·exact .c5 _
theorem Up.one(d:Int):dT c (c.one nx d):=fun s=>by
 unfold PC.one
 split
 ·exact .literal
 ·split
  ·rename_i h;exact .inc (kh (by rw[h];decide))
  ·split
   ·rename_i h;exact .inc (dt h).1
   ·split
    ·rename_i h;exact .call hx (dt h).1
    ·split
     ·rename_i h;exact .call hx (dt h).1
     ·exact Up.rest hx d s
include hu
theorem Up.unary(d:Int):dT c (c.unary nx d):=fun s=>by
 unfold PC.unary
 split
 ·exact Up.one hx d s
 ·rename_i h
  have hl:=(dt (c:=c) (s:=s) (ws:=j5) (by omega)).1
  split
  ·exact .c9 _
  ·rename_i h2
   obtain⟨_,he⟩:=iw hl (by simpa using h2)
   rw[he]
   exact (Up.inc hl).trans (hu _)
end
theorem Up.fs{c:PC}{ws:List ByteArray}{o:Int}{sub:PS→Px×PS}(h:dT c sub):∀(m:Nat) (n:Px) (s:PS),Up c s (c.fs ws o sub m n s).2
 | 0,n,s=>.refl
 | m+1,n,s=>by
   rw[PC.fs]
   split
   ·exact .refl
   ·rename_i h2
    exact ((Up.inc (dt (Int.not_lt.1 h2)).1).trans (h _)).trans (Up.fs h m _ _)
theorem Up.loop{c:PC}{ws:List ByteArray}{o:Int}{sub:PS→Px×PS}(h:dT c sub):dT c (c.loop ws o sub):=fun s=>(h s).trans (.fs h _ _ _)
section
variable {c:PC} {nx:Lv} (hx:dT c nx.ex) (hu:dT c nx.un) (d:Int)
include hx hu
theorem Up.product:dT c (c.product nx d):=Up.loop (Up.unary hx hu d)
theorem Up.sum:dT c (c.sum nx d):=Up.loop (Up.product hx hu d)
theorem Up.compare:dT c (c.compare nx d):=fun s=>by
 unfold PC.compare
 have h1:=Up.sum hx hu d s
 show Up c s (if c.any lu (c.sum nx d s).2<0 then c.sum nx d s else _).2
 split
 ·exact h1
 ·rename_i h2
  exact (h1.trans (.inc (dt (Int.not_lt.1 h2)).1)).trans (Up.sum hx hu d _)
theorem Up.and:dT c (c.and nx d):=Up.loop (Up.compare hx hu d)
theorem Up.or:dT c (c.or nx d):=Up.loop (Up.and hx hu d)
theorem Up.expr:dT c (c.expr nx d):=fun s=>by
 unfold PC.expr
 have h1:=Up.or hx hu d s
 show Up c s (if c.dS _ (c.or nx d s).2 then _ else _:Px×PS).2
 split
 ·rename_i h2
  have hl:=ew h2
  show Up c s (if (c.c9 d (c.or nx d s).2).over then _ else _:Px×PS).2
  split
  ·exact h1.trans (.c9 _)
  ·rename_i h3
   obtain⟨_,he⟩:=iw hl (by simpa using h3)
   rw[he]
   exact h1.trans ((Up.inc hl).trans ((hx _).trans ((Up.take _).trans (hx _))))
 ·exact h1
end
theorem Up.lvl{c:PC}:∀(k:Nat) (d:Int),dT c (c.lvl k d).ex∧dT c (c.lvl k d).un
 | 0,d=>⟨Up.expr (fun s=>.refl) (fun s=>.refl) d,Up.unary (fun s=>.refl) (fun s=>.refl) d⟩
 | k+1,d=>⟨Up.expr (Up.lvl k (d+1)).1 (Up.lvl k (d+1)).2 d,Up.unary (Up.lvl k (d+1)).1 (Up.lvl k (d+1)).2 d⟩
theorem Up.eJ{c:PC}:dT c c.eJ:=(Up.lvl 24 0).1
def gb(q:PQ)(b:Nat)(F0:cR)(r:Px×PS)(e:Ending)(I:cS)(G:cR):Prop:=∃t:Nd,e=.returned t.v∧t.px=r.1∧eb I [] t∧G.Perm (q.c7 b r.2::F0)
def uH(q:PQ)(b:Nat)(F0:cR)(r:Px×PS)(e:Ending)(I:cS)(G:cR):Prop:=∃(t:Nd) (A:cR),e=.returned t.v∧t.px=r.1∧(Acc 8 Nd.enc 64 t.a t.kids.length t.c t.kids A∨A=[]∧nK I [] 8 Nd.enc t.a t.kids.length t.kids)∧(∀k∈t.kids,eb I [] k)∧G.Perm (q.c7 b r.2::(A++F0))
theorem uH.keep{f:Nat}{args:Array Value}{I:cS}{F F0:cR}{q:PQ}{b:Nat}{r:Px×PS}(h:cU P f args I F (uH q b F0 r)):cU P f args I F (gb q b F0 r):=by
 refine h.keep fun e I' G w hl hs ⟨t,A,he,px,hA,hk,hG⟩=>?_
 rcases hA with hA | ⟨rfl,hA⟩
 ·obtain⟨J,h1,h2,h3⟩:=Acc.keep (z:=8) (f:=Nd.enc) Nd.nM hA (hs.perm (hG.trans (cV fun z=>by simp only[cW,cX];omega):G.Perm (A++(q.c7 b r.2::F0))))
  exact⟨J,_,h1,h2,t,he,px,.mk (h3.zo []) fun k hkm=>(hk k hkm).mono h1 fun _ h=>h,.refl _⟩
 ·exact⟨I',G,cS.le_refl _,hs,t,he,px,.mk hA hk,hG⟩
theorem gb.own{q:PQ}{b:Nat}{F0:cR}{r:Px×PS}{e:Ending}{I:cS}{G:cR}(h:gb q b F0 r e I G):uH q b F0 r e I G:=by
 obtain⟨t,he,px,hok,hG⟩:=h
 exact⟨t,[],he,px,.inr ⟨rfl,hok.sl⟩,hok.Cf,hG⟩
def eE(f:Nat)(q:PQ)(d:Int)(g:PS→Px×PS):Prop:=∀(b:Nat) (s:PS) (I:cS) (F F0:cR),q.ok I→s.next≤q.c.l.length→F.Perm (q.c7 b s::F0)→cU P f #[.pointer (some ⟨b,0,none⟩),.int .i64 d] I F (gb q b F0 (g s))
theorem gb.nil{q:PQ}{b:Nat}{F0:cR}{r:Px×PS}{I:cS}{G:cR}{k o ty n f pos:Int}{s:ByteArray}(h:r.1=.mk k o ty n f s [] pos)(hG:G.Perm (q.c7 b r.2::F0)):gb q b F0 r (.returned (Nd.mk k o ty n f s none 0 [] pos).v) I G :=
 ⟨_,rfl,by rw[h];simp only[Nd.px,Nd.oF],.leaf,hG⟩
theorem eb.uI{I:cS}{b:Nat}{l:List Nd}(hb:I b=some (.cells (l.flatMap Nd.enc).toArray 64 (0,0)))(hk:∀k∈l,eb I [] k)(k o ty n f pos:Int)(s:ByteArray)(c:Nat):eb I [] (.mk k o ty n f s (some ⟨b,0,none⟩) c l pos):=by
 have hS:Sl I 8 Nd.enc (some ⟨b,0,none⟩) l.length l:=Sl.g8 (f:=Nd.enc) (z:=8) Nd.nM hb (by simp)
 exact .mk (hS.zo []) hk
theorem uJ(o pos:Int)(x y:Nd)(I:cS)(F:cR)(hx:eb I [] x)(hy:eb I [] y):cU P 117 #[.int .u8 o,.int .i64 pos,x.v,y.v] I F fun e I' G=>∃t:Nd,e=.returned t.v∧t.px=xH o pos x.px y.px∧eb I' [] t∧G=F:=by
 refine mf.vc ?_
 unfold mf.V
 intro b_a b_b b b1 I1 l1 hb
 refine⟨.mk 6 o 0 0 0 ⟨#[]⟩ (some ⟨b1,0,none⟩) 2 [x,y] pos,rfl,by simp only[Nd.px,Nd.oF];rfl,eb.uI hb (fun k hk=>?_) ..,rfl⟩
 rcases List.mem_cons.1 hk with rfl | hk
 ·exact hx.mono l1 fun _ h=>h
 ·rw[List.mem_singleton] at hk;subst hk;exact hy.mono l1 fun _ h=>h
end Go.Lx
namespace Go.Lx
open Go.Vc
theorem qQ{a:Option Addr}{n c b1:Nat}{ks:List Nd}{A F R:cR}{I:cS}(hA:Acc 8 Nd.enc 64 a n c ks A)(hl:ks.length≤1000000)(t:Nd)(hb:I b1=some (.cells t.enc.toArray 64 (0,0)))(hF:F.Perm (A++R)) :
  dC P (Builtin.append_ #[62,62] 62 #[.slice a n c,.slice (some ⟨b1,0,none⟩) 1 1]) I F fun v I' G=>∃a' n' c' A',v=.slice a' n' c'∧Acc 8 Nd.enc 64 a' n' c' (ks++[t]) A'∧G.Perm (A'++R):=by
 refine dC.perm (dC.mono (jl (f:=Nd.enc) (z:=8) (zv:=fq.v) Nd.nM (by':=72) (by kernel_rfl) (by kernel_rfl) rfl (by decide) hA (xs:=[t]) (fun x hx=>by rw[List.mem_singleton] at hx;subst hx;exact Nd.wK x) (by simp) rfl ?_ (by simp only[List.length_cons,List.length_nil];omega) (F:=R)) fun v I' G _ ⟨a',n',c',A',h1,h2,h3,_⟩=>⟨a',n',c',A',h1,h2,by rw[h3]⟩) hF
 exact⟨rfl,_,_,_,.inl hb,fun j hj=>by simp⟩
section
variable {q:PQ} {b:Nat} {s:PS} {I:cS} {F F0:cR}
theorem su(hq:q.ok I)(hF:F.Perm (q.c7 b s::F0)):cU P 109 #[.pointer (some ⟨b,0,none⟩)] I F fun e1 I' G=>∃t:Nd,e1=.returned (.tuple #[t.v,.bool (q.c.literal s).1.2])∧t.px=(q.c.literal s).1.1∧eb I' [] t∧G.Perm (q.c7 b (q.c.literal s).2::F0):=by
 have hm:q.c7 b s∈F:=hF.mem_iff.2 (.head _)
 have hl:=hq.len
 refine eS.vc (fun x b0 b1 b2 b3 b4 b5 ba bn bc b7 n0 n1 n2 n3 n4 n5 na nn nc n7 I' F'=>F'=F∧na=none∧nn=0∧nc=0∧q.c.literal s=((.mk n0 n1 n2 n3 n4 n5 [] n7,true),s.inc)∧s.next<q.c.l.length) ?_
 unfold eS.V
 intro b1
 refine cU.ret (jh hq (.tail _ hm)) fun I1 l1=>⟨_,_,_,_,_,rfl,F,.refl _,fun b_t b_n=>⟨?_,fun x b0 b1' b2 b3 b4 b5 ba bn bc b7 n0 n1 n2 n3 n4 n5 na nn nc n7 I2 F2 l2 ⟨gF,ga,gn,gc,ge,hlt⟩=>?_⟩⟩
 ·have hk3:(q.c.now s).kind=3→s.next<q.c.l.length:=fun h=>kh (by rw[h];decide)
  have hk1:(q.c.now s).kind=1→s.next<q.c.l.length:=fun h=>kh (by rw[h];decide)
  have hz:∀(I':cS),q.c.literal s=((gA,false),s)→∃t:Nd,Ending.returned (.tuple #[fq.v,.bool false])=.returned (.tuple #[t.v,.bool (q.c.literal s).1.2])∧t.px=(q.c.literal s).1.1∧eb I' [] t∧F.Perm (q.c7 b (q.c.literal s).2::F0):=fun I' h=>by
   rw[h];exact⟨fq,rfl,by simp only[fq,Nd.px,Nd.oF];rfl,.leaf,hF⟩
  unfold PC.literal at hz ⊢
  generalize q.c.now s=t at *
  generalize (⟨#[116,114,117,101]⟩:ByteArray).toList=wt at *
  generalize (⟨#[102,97,108,115,101]⟩:ByteArray).toList=wf at *
  generalize (⟨#[98,117,121]⟩:ByteArray).toList=wb at *
  generalize (⟨#[115,101,108,108]⟩:ByteArray).toList=ws at *
  simp only[beq_iff_eq,beq_eq_false_iff_ne,ne_eq]
  repeat' (first | (with_reducible apply And.intro) | (with_reducible intro h))
  all_goals first
   | rfl
   | (refine hz I1 ?_;simp_all;done)
   | (simp_all [s9];done)
   | (exfalso;simp_all;done)
 ·subst gF ga gn gc
  refine⟨_,rfl,_,PQ.rd (k:=3) (.tail _ (.tail _ (.tail _ hm))) rfl,_,rfl,q.cl s,96,F0,hF,PQ.spot _ _,by rw[PQ.off];exact (by decide:3+1≤7), ?_⟩
  rw[PQ.eD (by omega),ge]
  exact⟨.mk n0 n1 n2 n3 n4 n5 none 0 [] n7,rfl,by simp only[Nd.px,Nd.oF],.leaf,.refl _⟩
end
end Go.Lx
namespace Go.Lx
open Go.Vc
theorem kl{α:Type}{x z:α}{l:List α}:(x::z::l).Perm (z::x::l):=.swap ..
theorem dO{α:Type}{x y z:α}{l:List α}:(x::y::z::l).Perm (z::x::y::l):=((List.Perm.swap z y l).cons x).trans (.swap ..)
theorem sv{α:Type}{x y w z:α}{l:List α}:(x::y::w::z::l).Perm (z::x::y::w::l):=(dO.cons x).trans (.swap ..)
theorem xI{α:Type}{x y w z:α}{A l:List α}:(x::y::w::z::(A++l)).Perm (A++(x::y::w::z::l)):=by
 have h:=List.perm_append_comm_assoc [x,y,w,z] A l
 exact h
theorem uK(l:List Nd)(t:Nd):(l++[t]).map Nd.px=l.map Nd.px++[t.px]:=by rw[List.map_append,List.map_singleton]
theorem Sl.words{I:cS}{b1 e:Nat}{ws:List ByteArray}{cells:Array Value}(hb:I b1=some (.cells cells e (0,0)))(h:cells.toList=ws.flatMap jd):Sl I 1 jd (some ⟨b1,0,none⟩) ws.length ws:=Sl.g8 (f:=jd) (z:=1) (fun _=>rfl) hb h
section
variable {q:PQ} {b:Nat} {s:PS} {I:cS} {F F0:cR} {nx:Lv} {d:Int} (h0:0≤d) (h1:d≤24) (hx:d+1≤24→eE 48 q (d+1) nx.ex) (hmx:dT q.c nx.ex)
include h0 h1 hx hmx
theorem vQ(hq:q.ok I)(kind oper iS pos:Int)(many:Nat)(hmy:many≤2)(hlt:s.next<q.c.l.length)(hF:F.Perm (q.c7 b s::F0)) :
  cU P 160 #[.pointer (some ⟨b,0,none⟩),.agg #[.int .u8 kind,.int .u8 oper,.int .u8 iS,.int .i64 0,.int .u8 0,.string ⟨#[]⟩,.slice none 0 0,.int .i64 pos],.int .i64 many,.int .i64 d] I F (gb q b F0 (q.c.call nx d kind oper iS pos many s)):=by
 have hl:=hq.len
 refine uH.keep ?_
 refine fX.vc (fun i n0 n1 n2 n3 n4 n5 na nn nc n7 m I' F'=>0≤i∧i≤many∧m=(many-i).toNat∧n0=kind∧n1=oper∧n2=iS∧n3=0∧n4=0∧n5=⟨#[]⟩∧n7=pos∧q.ok I'∧∃(ks:List Nd) (A:cR) (s':PS),Acc 8 Nd.enc 64 na nn nc ks A∧(∀k∈ks,eb I' [] k)∧F'.Perm (q.c7 b s'::(A++F0))∧s'.next≤q.c.l.length∧ks.length=i ∧
  q.c.dW nx many true (q.c.take (⟨#[40]⟩:ByteArray) s.inc).2=(ks.map Nd.px++(q.c.dW nx (many-i.toNat) (decide (i=0)) s').1,(q.c.dW nx (many-i.toNat) (decide (i=0)) s').2)) ?_
 unfold fX.V
 intro b_n b2
 refine (n9 hq d h0 (by omega) (((hF.cons _).cons _).trans dO)).mono fun e I1 G l1 ⟨he,hG⟩=>⟨_,he,q.c7 b (q.c.c9 d s)::F0,hG.trans dO.symm,fun h=>?_,fun h=>?_⟩
 ·have h:(q.c.c9 d s).over=true:=by simpa using h
  unfold PC.call
  rw[if_pos h]
  exact⟨fq,[],rfl,by simp only[fq,Nd.px,Nd.oF];rfl,.inl Acc.nil,fun k hk=>(by cases hk),.refl _⟩
 have h:(q.c.c9 d s).over=false:=by simpa using h
 obtain⟨hd,hde⟩:=iw hlt h
 have hcall:q.c.call nx d kind oper iS pos many s=(.mk kind oper iS 0 0 ⟨#[]⟩ (q.c.dW nx many true (q.c.take (⟨#[40]⟩:ByteArray) s.inc).2).1 pos,(q.c.take (⟨#[41]⟩:ByteArray) (q.c.dW nx many true (q.c.take (⟨#[40]⟩:ByteArray) s.inc).2).2).2):=by
  unfold PC.call
  rw[if_neg (by simp[h]),hde]
 rw[hde,hcall]
 have hq1:=hq.mono l1
 refine⟨_,rfl,_,PQ.rd (k:=3) (.tail _ (.tail _ (.head _))) rfl,_,rfl,q.cl s,96,F0,.refl _,PQ.spot _ _,by rw[PQ.off];exact (by decide:3+1≤7), ?_⟩
 rw[PQ.eD (by omega)]
 refine (ec hq1 _ (s:=s.inc) dO).mono fun e I2 G2 l2 ⟨he,hG2⟩=>⟨_,he,q.c7 b (q.c.take (⟨#[40]⟩:ByteArray) s.inc).2::F0,hG2.trans dO.symm,⟨_,by omega,by omega,rfl,rfl,rfl,rfl,rfl,rfl,rfl,rfl,hq1.mono l2,[],[],_,Acc.nil,fun k hk=>(by cases hk),.refl _, ?_,rfl, ?_⟩, ?_⟩
 ·exact (Up.take _).2 hlt
 ·simp
 intro i n0 n1 n2 n3 n4 n5 na nn nc n7 m2 I3 F4 l3 ⟨i0,i1,im,e0,e1,e2,e3,e4,e5,e7,hq3,ks,A,s',hA,hks,hF4,hsn,hkl,hke⟩
 subst e0 e1 e2 e3 e4 e5 e7
 refine⟨fun hi=>?_,fun hi=>?_⟩
 ·have hi:=of_decide_eq_true hi
  have hmi:many-i.toNat=(many-(i+1).toNat)+1:=by omega
  rw[hmi,PC.dW] at hke
  have step:∀(s1:PS) (J:cS) (t:Nd) (e1:Ending) (I5:cS) (G5:cR) (F6:cR),True:=fun _ _ _ _ _ _ _=>trivial
  refine⟨fun hp=>?_,fun hp=>?_⟩
  ·have hp:=of_decide_eq_true hp
   refine (ec hq3 _ (s:=s') (((hF4.cons _).cons _).trans dO)).mono fun e I4 G4 l4 ⟨he,hG4⟩=>⟨_,he,q.c7 b (q.c.take (⟨#[44]⟩:ByteArray) s').2::(A++F0),hG4.trans dO.symm, ?_⟩
   have hq4:=hq3.mono l4
   have hn1:(q.c.take (⟨#[44]⟩:ByteArray) s').2.next≤q.c.l.length:=(Up.take _).2 hsn
   rw[gS (n:=d+1) (by omega)]
   refine (hx hd b _ I4 _ _ hq4 hn1 dO).mono fun e I5 G5 l5 ⟨t,he,px,hok,hG5⟩=>?_
   rw[show decide (i=0)=false from decide_eq_false (by omega)] at hke
   refine⟨_,_,_,_,_,_,_,_,_,_,he,q.c7 b (nx.ex (q.c.take (⟨#[44]⟩:ByteArray) s').2).2::(A++F0),hG5.trans dO.symm,fun b_k b4 I6 l6 hb4=>?_⟩
   refine (qQ hA (by omega) t hb4 xI).mono fun v I7 G7 l7 ⟨a',n',c',A',hv,hA',hG7⟩=>⟨a',n',c',hv,q.c7 b (nx.ex (q.c.take (⟨#[44]⟩:ByteArray) s').2).2::(A'++F0),hG7.trans xI.symm,(many-(i+1)).toNat,by omega, ?_⟩
   rw[gS (n:=i+1) (by omega)]
   refine⟨by omega,by omega,rfl,rfl,rfl,rfl,rfl,rfl,rfl,rfl,(hq4.mono l5).mono (cS.le_trans l6 l7),ks++[t],A',_,hA',fun k hk=>?_,.refl _,(hmx _).2 hn1,by rw[List.length_append,List.length_singleton];omega, ?_⟩
   ·rcases List.mem_append.1 hk with hk | hk
    ·exact (hks k hk).mono (cS.le_trans l4 (cS.le_trans l5 (cS.le_trans l6 l7))) fun _ h=>h
    ·rw[List.mem_singleton] at hk;subst hk;exact hok.mono (cS.le_trans l6 l7) fun _ h=>h
   ·rw[hke,show decide (i+1=0)=false from decide_eq_false (by omega),uK,px,List.append_assoc];rfl
  ·have hp:=of_decide_eq_false hp
   rw[gS (n:=d+1) (by omega)]
   refine (hx hd b s' I3 _ _ hq3 hsn (((hF4.cons _).cons _).trans dO)).mono fun e I5 G5 l5 ⟨t,he,px,hok,hG5⟩=>?_
   rw[show decide (i=0)=true from decide_eq_true (by omega)] at hke
   refine⟨_,_,_,_,_,_,_,_,_,_,he,q.c7 b (nx.ex s').2::(A++F0),hG5.trans dO.symm,fun b_k b4 I6 l6 hb4=>?_⟩
   refine (qQ hA (by omega) t hb4 xI).mono fun v I7 G7 l7 ⟨a',n',c',A',hv,hA',hG7⟩=>⟨a',n',c',hv,q.c7 b (nx.ex s').2::(A'++F0),hG7.trans xI.symm,(many-(i+1)).toNat,by omega, ?_⟩
   rw[gS (n:=i+1) (by omega)]
   refine⟨by omega,by omega,rfl,rfl,rfl,rfl,rfl,rfl,rfl,rfl,(hq3.mono l5).mono (cS.le_trans l6 l7),ks++[t],A',_,hA',fun k hk=>?_,.refl _,(hmx _).2 hsn,by rw[List.length_append,List.length_singleton];omega, ?_⟩
   ·rcases List.mem_append.1 hk with hk | hk
    ·exact (hks k hk).mono (cS.le_trans l5 (cS.le_trans l6 l7)) fun _ h=>h
    ·rw[List.mem_singleton] at hk;subst hk;exact hok.mono (cS.le_trans l6 l7) fun _ h=>h
   ·rw[hke,show decide (i+1=0)=false from decide_eq_false (by omega),uK,px,List.append_assoc];rfl
 ·have hi:=of_decide_eq_false hi
  rw[show many-i.toNat=0 by omega,PC.dW,List.append_nil] at hke
  refine (ec hq3 _ (s:=s') (((hF4.cons _).cons _).trans dO)).mono fun e I4 G4 l4 ⟨he,hG4⟩=>⟨_,he,q.c7 b (q.c.take (⟨#[41]⟩:ByteArray) s').2::(A++F0),hG4.trans dO.symm, ?_⟩
  rw[hke]
  have hn:=hA.1
  subst hn
  exact⟨.mk n0 n1 n2 0 0 ⟨#[]⟩ na nc ks n7,A,rfl,by rw[Nd.px,Nd.pJ],.inl hA,fun k hk=>(hks k hk).mono l4 fun _ h=>h,.refl _⟩
end
end Go.Lx
namespace Go.Lx
open Go.Vc
theorem mG{q:PQ}{s:PS}{ws:List ByteArray}(h:0≤q.c.any ws s)(hl:ws.length≤6):q.c.any ws s≤5:=by have:=(dt h).2;omega
section
variable {q:PQ} {b:Nat} {s:PS} {I:cS} {F F0:cR} {nx:Lv} {d:Int} (h0:0≤d) (h1:d≤24) (hx:d+1≤24→eE 48 q (d+1) nx.ex) (hmx:dT q.c nx.ex)
include h0 h1 hx hmx
theorem AQ(hq:q.ok I)(hsn:s.next≤q.c.l.length)(hF:F.Perm (q.c7 b s::F0)):cU P 161 #[.pointer (some ⟨b,0,none⟩),.int .i64 d] I F (gb q b F0 (q.c.rest nx d s)):=by
 have _:=hmx
 have hl:=hq.len
 have hm:q.c7 b s∈F:=hF.mem_iff.2 (.head _)
 refine fY.vc ?_
 unfold fY.V
 intro b2
 refine cU.ret (jh hq (.tail _ hm)) fun I1 l1=>⟨_,_,_,_,_,rfl,F,.refl _, ?_⟩
 have hq1:=hq.mono l1
 refine cU.ret (nh hq1 _ (.tail _ hm)) fun I2 l2=>⟨_,rfl,F,.refl _,fun hh=>?_,fun hh=>?_⟩
 ·have hlt:=ew hh
  have hq2:=hq1.mono l2
  refine⟨_,rfl,_,PQ.rd (k:=3) (.tail _ hm) rfl,_,rfl,q.cl s,96,F0,hF,PQ.spot _ _,by rw[PQ.off];exact (by decide:3+1≤7),fun b3 I3 l3 hb3=>?_⟩
  rw[PQ.eD (by omega)]
  have hq3:=hq2.mono l3
  refine cU.ret (ln hq3 (Sl.words (ws:=[(⟨#[98,105,100]⟩:ByteArray),(⟨#[97,115,107]⟩:ByteArray),(⟨#[108,97,115,116]⟩:ByteArray)]) hb3 rfl) (by decide) (s:=s.inc) (.tail _ (.head _))) fun I4 l4=>⟨_,rfl,q.c7 b s.inc::F0,.refl _,fun ha=>?_,fun ha=>?_⟩
  ·have ha:=of_decide_eq_true ha
   refine (fB (hq3.mono l4) 130 (s:=s.inc) kl).mono fun e I5 G l5 ⟨he,hG⟩=>⟨he,q.c7 b (q.c.c5 130 s.inc)::F0,hG.trans kl, ?_⟩
   unfold PC.rest
   rw[if_pos hh,if_pos ha]
   exact gb.nil rfl (.refl _)
  ·have ha:=of_decide_eq_false ha
   have hab:=mG (Int.not_lt.1 ha) (by decide)
   have hlt2:=(dt (Int.not_lt.1 ha)).1
   refine⟨_,rfl,_,PQ.rd (k:=3) (.tail _ (.head _)) rfl,_,rfl,q.cl s.inc,96,F0,.refl _,PQ.spot _ _,by rw[PQ.off];exact (by decide:3+1≤7), ?_⟩
   rw[PQ.eD (s:=s.inc) (by omega),gS (n:=q.c.any [(⟨#[98,105,100]⟩:ByteArray),(⟨#[97,115,107]⟩:ByteArray),(⟨#[108,97,115,116]⟩:ByteArray)] s.inc+1) (by omega),w8 (by omega)]
   unfold PC.rest
   rw[if_pos hh,if_neg ha]
   exact gb.nil rfl (.refl _)
 ·have hq2:=hq1.mono l2
  refine cU.ret (nh hq2 _ (.tail _ hm)) fun I3 l3=>⟨_,rfl,F,.refl _,fun hb=>?_,fun hb=>?_⟩
  ·have hb:q.c.dS (⟨#[40]⟩:ByteArray) s=false:=by simpa using hb
   refine (fB (hq2.mono l3) 130 ((hF.cons _).trans kl)).mono fun e I5 G l5 ⟨he,hG⟩=>⟨he,q.c7 b (q.c.c5 130 s)::F0,hG.trans kl, ?_⟩
   unfold PC.rest
   rw[if_neg (by simp[hh]),if_neg (by simp[hb])]
   exact gb.nil rfl (.refl _)
  ·have hb:q.c.dS (⟨#[40]⟩:ByteArray) s=true:=by simpa using hb
   have hlt:=ew hb
   have hq3:=hq2.mono l3
   refine (n9 hq3 d h0 (by omega) ((hF.cons _).trans kl)).mono fun e I4 G l4 ⟨he,hG⟩=>⟨_,he,q.c7 b (q.c.c9 d s)::F0,hG.trans kl,fun h=>?_,fun h=>?_⟩
   ·have h:(q.c.c9 d s).over=true:=by simpa using h
    unfold PC.rest
    rw[if_neg (by simp[hh]),if_pos hb,if_pos h]
    exact gb.nil rfl (.refl _)
   ·have h:(q.c.c9 d s).over=false:=by simpa using h
    obtain⟨hd,hde⟩:=iw hlt h
    have hr:q.c.rest nx d s=((nx.ex s.inc).1,(q.c.take (⟨#[41]⟩:ByteArray) (nx.ex s.inc).2).2):=by
     unfold PC.rest
     rw[if_neg (by simp[hh]),if_pos hb,if_neg (by simp[h]),hde]
    rw[hde,hr]
    refine⟨_,rfl,_,PQ.rd (k:=3) (.tail _ (.head _)) rfl,_,rfl,q.cl s,96,F0,.refl _,PQ.spot _ _,by rw[PQ.off];exact (by decide:3+1≤7), ?_⟩
    rw[PQ.eD (by omega),gS (n:=d+1) (by omega)]
    have hq4:=hq3.mono l4
    refine (hx hd b s.inc I4 _ _ hq4 hlt kl).mono fun e I5 G5 l5 ⟨t,he,px,hok,hG5⟩=>?_
    refine⟨_,_,_,_,_,_,_,_,_,_,he,q.c7 b (nx.ex s.inc).2::F0,hG5.trans kl,fun b_n=>?_⟩
    refine (ec (hq4.mono l5) _ (s:=(nx.ex s.inc).2) dO).mono fun e I6 G6 l6 ⟨he,hG6⟩=>⟨_,he,q.c7 b (q.c.take (⟨#[41]⟩:ByteArray) (nx.ex s.inc).2).2::F0,hG6.trans dO.symm, ?_⟩
    exact⟨t,rfl,px,hok.mono l6 fun _ h=>h,.refl _⟩
theorem BC(hq:q.ok I)(hsn:s.next≤q.c.l.length)(hF:F.Perm (q.c7 b s::F0)):cU P 159 #[.pointer (some ⟨b,0,none⟩),.int .i64 d] I F (gb q b F0 (q.c.one nx d s)):=by
 have hl:=hq.len
 refine gH.vc ?_
 unfold gH.V
 intro b2
 refine (su hq ((hF.cons _).trans kl)).mono fun e I1 G l1 ⟨t,he,px,hok,hG⟩=>?_
 refine⟨_,_,_,_,_,_,_,_,_,_,_,he,q.c7 b (q.c.literal s).2::F0,hG.trans kl,fun b_n=>⟨fun h=>?_,fun h=>?_⟩⟩
 ·unfold PC.one
  rw[if_pos h]
  exact⟨t,rfl,px,hok,.refl _⟩
 have hls:(q.c.literal s).2=s:=by
  unfold PC.literal at h ⊢
  split
  ·rename_i h1;rw[if_pos h1] at h;cases h
  ·rename_i h1
   rw[if_neg h1] at h
   split
   ·rename_i h2;rw[if_pos h2] at h;cases h
   ·rename_i h2
    rw[if_neg h2] at h
    split
    ·rename_i h3;rw[if_pos h3] at h;cases h
    ·rfl
 rw[hls]
 have hq1:=hq.mono l1
 refine cU.ret (jh hq1 (.tail _ (.tail _ (.head _)))) fun I2 l2=>⟨_,_,_,_,_,rfl,q.c7 b s::F0,.refl _,fun b_t=>⟨fun hk=>?_,fun hk=>?_⟩⟩
 ·have hk:(q.c.now s).kind=2:=by simpa using hk
  have hlt:=kh (by rw[hk];decide:(q.c.now s).kind≠0)
  refine⟨_,rfl,_,PQ.rd (k:=3) (.tail _ (.tail _ (.tail _ (.head _)))) rfl,_,rfl,q.cl s,96,F0,.refl _,PQ.spot _ _,by rw[PQ.off];exact (by decide:3+1≤7), ?_⟩
  rw[PQ.eD (by omega)]
  unfold PC.one
  rw[if_neg (by simp[h]),if_pos hk]
  exact gb.nil rfl (.refl _)
 have hk:(q.c.now s).kind≠2:=by simpa using hk
 have hq2:=hq1.mono l2
 intro b3 I3 l3 hb3
 have hq3:=hq2.mono l3
 refine cU.ret (ln hq3 (Sl.words (ws:=je) hb3 rfl) (by decide) (s:=s) (.tail _ (.tail _ (.tail _ (.head _))))) fun I4 l4=>⟨_,rfl,q.c7 b s::F0,.refl _,fun ha=>?_,fun ha=>?_⟩
 ·have ha:=of_decide_eq_true ha
  have hab:=mG ha (by decide)
  have hlt:=(dt ha).1
  refine⟨_,rfl,_,PQ.rd (k:=3) (.tail _ (.tail _ (.tail _ (.head _)))) rfl,_,rfl,q.cl s,96,F0,.refl _,PQ.spot _ _,by rw[PQ.off];exact (by decide:3+1≤7), ?_⟩
  rw[PQ.eD (by omega),gS (n:=q.c.any je s+1) (by omega),w8 (by omega)]
  unfold PC.one
  rw[if_neg (by simp[h]),if_neg hk,if_pos ha]
  exact gb.nil rfl (.refl _)
 have ha:=of_decide_eq_false ha
 have hq4:=hq3.mono l4
 intro b5 I5 l5 hb5
 have hq5:=hq4.mono l5
 refine cU.ret (ln hq5 (Sl.words (ws:=eQ) hb5 rfl) (by decide) (s:=s) (.tail _ (.tail _ (.tail _ (.head _))))) fun I6 l6=>⟨_,rfl,q.c7 b s::F0,.refl _,fun hc=>?_,fun hc=>?_⟩
 ·have hc:=of_decide_eq_true hc
  have hab:=mG hc (by decide)
  have hlt:=(dt hc).1
  have hq6:=hq5.mono l6
  have hone:q.c.one nx d s=q.c.call nx d 8 (3+q.c.any eQ s) 0 (q.c.now s).pos (if q.c.any eQ s=0 then 1 else 2) s:=by
   unfold PC.one
   rw[if_neg (by simp[h]),if_neg hk,if_neg ha,if_pos hc]
  rw[hone,w8 (n:=q.c.any eQ s) (by omega),w8 (n:=3+q.c.any eQ s) (by omega)]
  refine⟨fun hz=>?_,fun hz=>?_⟩
  ·have hz:q.c.any eQ s=0:=by simpa using hz
   rw[if_pos hz]
   refine (vQ h0 h1 hx hmx hq6 8 (3+q.c.any eQ s) 0 (q.c.now s).pos 1 (by decide) hlt sv).mono fun e I7 G7 l7 ⟨t,he,px,hok,hG7⟩=>?_
   exact⟨_,_,_,_,_,_,_,_,_,_,he,_,hG7.trans sv.symm,t,rfl,px,hok,.refl _⟩
  ·have hz:q.c.any eQ s≠0:=by simpa using hz
   rw[if_neg hz]
   refine (vQ h0 h1 hx hmx hq6 8 (3+q.c.any eQ s) 0 (q.c.now s).pos 2 (by decide) hlt sv).mono fun e I7 G7 l7 ⟨t,he,px,hok,hG7⟩=>?_
   exact⟨_,_,_,_,_,_,_,_,_,_,he,_,hG7.trans sv.symm,t,rfl,px,hok,.refl _⟩
 have hc:=of_decide_eq_false hc
 have hq6:=hq5.mono l6
 intro b7 I7 l7 hb7
 have hq7:=hq6.mono l7
 refine cU.ret (ln hq7 (Sl.words (ws:=iK) hb7 rfl) (by decide) (s:=s) (.tail _ (.tail _ (.tail _ (.head _))))) fun I8 l8=>⟨_,rfl,q.c7 b s::F0,.refl _,fun hv=>?_,fun hv=>?_⟩
 ·have hv:=of_decide_eq_true hv
  have hab:=mG hv (by decide)
  have hlt:=(dt hv).1
  have hone:q.c.one nx d s=q.c.call nx d 9 0 (1+q.c.any iK s) (q.c.now s).pos 1 s:=by
   unfold PC.one
   rw[if_neg (by simp[h]),if_neg hk,if_neg ha,if_neg hc,if_pos hv]
  rw[hone,w8 (n:=q.c.any iK s) (by omega),w8 (n:=1+q.c.any iK s) (by omega)]
  refine (vQ h0 h1 hx hmx (hq7.mono l8) 9 0 (1+q.c.any iK s) (q.c.now s).pos 1 (by decide) hlt sv).mono fun e I9 G9 l9 ⟨t,he,px,hok,hG9⟩=>?_
  exact⟨_,_,_,_,_,_,_,_,_,_,he,_,hG9.trans sv.symm,t,rfl,px,hok,.refl _⟩
 have hv:=of_decide_eq_false hv
 have hone:q.c.one nx d s=q.c.rest nx d s:=by
  unfold PC.one
  rw[if_neg (by simp[h]),if_neg hk,if_neg ha,if_neg hc,if_neg hv]
 rw[hone]
 refine (AQ h0 h1 hx hmx (hq7.mono l8) hsn sv).mono fun e I9 G9 l9 ⟨t,he,px,hok,hG9⟩=>?_
 exact⟨_,_,_,_,_,_,_,_,_,_,he,_,hG9.trans sv.symm,t,rfl,px,hok,.refl _⟩
theorem zK(hu:d+1≤24→eE 157 q (d+1) nx.un)(hmu:dT q.c nx.un):eE 157 q d (q.c.unary nx d):=by
 intro b s I F F0 hq hsn hF
 have hl:=hq.len
 refine uH.keep ?_
 refine fC.vc ?_
 unfold fC.V
 intro b2 b3 I1 l1 hb3
 have hq1:=hq.mono l1
 have hm:q.c7 b s∈F:=hF.mem_iff.2 (.head _)
 refine cU.ret (ln hq1 (Sl.words (ws:=j5) hb3 rfl) (by decide) (s:=s) (.tail _ hm)) fun I2 l2=>⟨_,rfl,F,.refl _,fun ha=>?_,fun ha=>?_⟩
 ·have ha:=of_decide_eq_true ha
  refine (BC h0 h1 hx hmx (hq1.mono l2) hsn ((hF.cons _).trans kl)).mono fun e I3 G3 l3 ⟨t,he,px,hok,hG3⟩=>?_
  refine⟨_,_,_,_,_,_,_,_,_,_,he,_,hG3.trans kl,gb.own ?_⟩
  unfold PC.unary
  rw[if_pos ha]
  exact⟨t,rfl,px,hok,.refl _⟩
 have ha:=of_decide_eq_false ha
 have hab:=mG (Int.not_lt.1 ha) (by decide)
 have hlt:=(dt (Int.not_lt.1 ha)).1
 have hq2:=hq1.mono l2
 refine (n9 hq2 d h0 (by omega) ((hF.cons _).trans kl)).mono fun e I4 G l4 ⟨he,hG⟩=>⟨_,he,q.c7 b (q.c.c9 d s)::F0,hG.trans kl,fun h=>?_,fun h=>?_⟩
 ·have h:(q.c.c9 d s).over=true:=by simpa using h
  refine gb.own ?_
  unfold PC.unary
  rw[if_neg ha,if_pos h]
  exact gb.nil rfl (.refl _)
 have h:(q.c.c9 d s).over=false:=by simpa using h
 obtain⟨hd,hde⟩:=iw hlt h
 have hr:q.c.unary nx d s=(.mk 5 (1+q.c.any j5 s) 0 0 0 ⟨#[]⟩ [(nx.un s.inc).1] (q.c.now s).pos,(nx.un s.inc).2):=by
  unfold PC.unary
  rw[if_neg ha,if_neg (by simp[h]),hde]
 rw[hde,hr,w8 (n:=q.c.any j5 s) (by omega),w8 (n:=1+q.c.any j5 s) (by omega)]
 have hq4:=hq2.mono l4
 refine cU.ret (jh hq4 (s:=s) (.tail _ (.head _))) fun I5 l5=>⟨_,_,_,_,_,rfl,q.c7 b s::F0,.refl _,fun b_n=>?_⟩
 refine⟨_,rfl,_,PQ.rd (k:=3) (.tail _ (.tail _ (.head _))) rfl,_,rfl,q.cl s,96,F0,.refl _,PQ.spot _ _,by rw[PQ.off];exact (by decide:3+1≤7), ?_⟩
 rw[PQ.eD (by omega),gS (n:=d+1) (by omega)]
 have hq5:=hq4.mono l5
 refine (hu hd b s.inc I5 _ _ hq5 hlt dO).mono fun e I6 G6 l6 ⟨t,he,px,hok,hG6⟩=>?_
 refine⟨_,_,_,_,_,_,_,_,_,_,he,q.c7 b (nx.un s.inc).2::F0,hG6.trans dO.symm,fun b_k b4 I7 l7 hb4=>?_⟩
 refine (qQ (ks:=[]) (A:=[]) Acc.nil (by decide) t hb4 (.refl _)).mono fun v I8 G8 l8 ⟨a',n',c',A',hv,hA',hG8⟩=>⟨a',n',c',hv,q.c7 b (nx.un s.inc).2::(A'++F0),hG8.trans xI.symm, ?_⟩
 have hn:=hA'.1
 subst hn
 refine⟨.mk 5 (1+q.c.any j5 s) 0 0 0 ⟨#[]⟩ a' c' ([]++[t]) (q.c.now s).pos,A',rfl, ?_,.inl hA',fun k hk=>?_,.refl _⟩
 ·simp only[List.nil_append,Nd.px,Nd.oF,px]
 ·have hk:k∈[t]:=hk
  rw[List.mem_singleton] at hk;subst hk
  exact hok.mono (cS.le_trans l7 l8) fun _ h=>h
end
end Go.Lx
namespace Go.Lx
open Go.Vc
theorem k8{c:PC}{ws:List ByteArray}{o:Int}{sub:PS→Px×PS}{n:Px}{s:PS}(h:c.any ws s<0):∀m,c.fs ws o sub m n s=(n,s)
 | 0=>rfl
 | m+1=>by rw[PC.fs,if_pos h]
theorem pL{c:PC}{w:ByteArray}{s:PS}:c.any [w] s=if c.dS w s then 0 else -1:=rfl
section
variable {q:PQ} {nx:Lv} {d:Int} (h0:0≤d) (h1:d≤24)
include h0 h1
theorem xJ{g:PS→Px×PS}(hg:eE 157 q d g)(hm:dT q.c g):eE 152 q d (q.c.loop qL 8 g):=by
 have _:=h0
 have _:=h1
 intro b s I F F0 hq hsn hF
 have hl:=hq.len
 refine eU.vc (fun x0 x1 x2 x3 x4 x5 xa xn xc x7 n0 n1 n2 n3 n4 n5 na nn nc n7 m I' F'=>q.ok I'∧∃(t:Nd) (s':PS) (k:Nat),t.v=(.agg #[.int .u8 n0,.int .u8 n1,.int .u8 n2,.int .i64 n3,.int .u8 n4,.string n5,.slice na nn nc,.int .i64 n7])∧eb I' [] t∧F'.Perm (q.c7 b s'::F0)∧s'.next≤q.c.l.length∧m=q.c.l.length-s'.next∧q.c.l.length≤s'.next+k∧q.c.loop qL 8 g s=q.c.fs qL 8 g k t.px s') ?_
 unfold eU.V
 intro b2
 refine (hg b s I _ _ hq hsn ((hF.cons _).trans kl)).mono fun e I1 G1 l1 ⟨t,he,px,hok,hG1⟩=>?_
 refine⟨_,_,_,_,_,_,_,_,_,_,he,q.c7 b (g s).2::F0,hG1.trans kl,fun b_n=>⟨⟨_,hq.mono l1,t,(g s).2,q.c.l.length,rfl,hok,.refl _,(hm s).2 hsn,rfl,by omega,by rw[px];rfl⟩, ?_⟩⟩
 intro x0 x1 x2 x3 x4 x5 xa xn xc x7 n0 n1 n2 n3 n4 n5 na nn nc n7 m I2 F2 l2 ⟨hq2,t,s',k,htv,hok,hF2,hsn',hme,hfu,hres⟩
 simp only[Nd.v,Value.agg.injEq,Array.mk.injEq,List.cons.injEq,Value.int.injEq,Value.string.injEq,Value.slice.injEq,true_and,and_true] at htv
 obtain⟨rfl,rfl,rfl,rfl,rfl,rfl,⟨rfl,rfl,rfl⟩,rfl⟩:=htv
 have hm2:q.c7 b s'∈F2:=hF2.mem_iff.2 (.head _)
 intro b3 I3 l3 hb3
 have hq3:=hq2.mono l3
 refine cU.ret (ln hq3 (Sl.words (ws:=qL) hb3 rfl) (by decide) (s:=s') (.tail _ (.tail _ hm2))) fun I4 l4=>⟨_,rfl,F2,.refl _,fun ha=>?_,fun ha=>?_⟩
 ·have ha:=of_decide_eq_true ha
  rw[hres,k8 ha]
  exact⟨t,rfl,rfl,hok.mono (cS.le_trans l3 l4) fun _ h=>h,hF2⟩
 have ha:=of_decide_eq_false ha
 have hab:=mG (Int.not_lt.1 ha) (by decide)
 have hlt:=(dt (Int.not_lt.1 ha)).1
 have l24:=cS.le_trans l3 l4
 have hna:=ha
 rw[w8 (n:=q.c.any qL s') (by omega),w8 (n:=8+q.c.any qL s') (by omega)]
 have hq4:=hq2.mono l24
 refine cU.ret (jh hq4 (s:=s') (.tail _ (.tail _ hm2))) fun I5 l5=>⟨_,_,_,_,_,rfl,F2,.refl _, ?_⟩
 refine⟨_,rfl,_,PQ.rd (k:=3) (.tail _ (.tail _ hm2)) rfl,_,rfl,q.cl s',96,F0,hF2,PQ.spot _ _,by rw[PQ.off];exact (by decide:3+1≤7), ?_⟩
 rw[PQ.eD (by omega)]
 have hq5:=hq4.mono l5
 refine (hg b s'.inc I5 _ _ hq5 hlt dO).mono fun e I6 G6 l6 ⟨t2,he,px2,hok2,hG6⟩=>?_
 refine⟨_,_,_,_,_,_,_,_,_,_,he,q.c7 b (g s'.inc).2::F0,hG6.trans dO.symm,fun b_k=>?_⟩
 refine (uJ (8+q.c.any qL s') (q.c.now s').pos t t2 I6 _ (hok.mono (cS.le_trans l24 (cS.le_trans l5 l6)) fun _ h=>h) hok2).mono fun e I7 G7 l7 ⟨t3,he,px3,hok3,hG7⟩=>?_
 subst hG7
 have hup:=hm s'.inc
 have hup1:=hup.1
 rw[oc] at hup1
 have hup2:=hup.2 hlt
 obtain⟨k',rfl⟩:∃k',k=k'+1:=⟨k-1,by omega⟩
 refine⟨_,_,_,_,_,_,_,_,_,_,he,q.c7 b (g s'.inc).2::F0,.refl _,q.c.l.length-(g s'.inc).2.next,by omega,(hq5.mono l6).mono l7,t3,(g s'.inc).2,k',rfl,hok3,.refl _,hup2,rfl,by omega, ?_⟩
 rw[hres,PC.fs,if_neg hna,px3,px2]
theorem BD{g:PS→Px×PS}(hg:eE 152 q d g)(hm:dT q.c g):eE 144 q d (q.c.loop rF 6 g):=by
 have _:=h0
 have _:=h1
 intro b s I F F0 hq hsn hF
 have hl:=hq.len
 refine gI.vc (fun x0 x1 x2 x3 x4 x5 xa xn xc x7 n0 n1 n2 n3 n4 n5 na nn nc n7 m I' F'=>q.ok I'∧∃(t:Nd) (s':PS) (k:Nat),t.v=(.agg #[.int .u8 n0,.int .u8 n1,.int .u8 n2,.int .i64 n3,.int .u8 n4,.string n5,.slice na nn nc,.int .i64 n7])∧eb I' [] t∧F'.Perm (q.c7 b s'::F0)∧s'.next≤q.c.l.length∧m=q.c.l.length-s'.next∧q.c.l.length≤s'.next+k∧q.c.loop rF 6 g s=q.c.fs rF 6 g k t.px s') ?_
 unfold gI.V
 intro b2
 refine (hg b s I _ _ hq hsn ((hF.cons _).trans kl)).mono fun e I1 G1 l1 ⟨t,he,px,hok,hG1⟩=>?_
 refine⟨_,_,_,_,_,_,_,_,_,_,he,q.c7 b (g s).2::F0,hG1.trans kl,fun b_n=>⟨⟨_,hq.mono l1,t,(g s).2,q.c.l.length,rfl,hok,.refl _,(hm s).2 hsn,rfl,by omega,by rw[px];rfl⟩, ?_⟩⟩
 intro x0 x1 x2 x3 x4 x5 xa xn xc x7 n0 n1 n2 n3 n4 n5 na nn nc n7 m I2 F2 l2 ⟨hq2,t,s',k,htv,hok,hF2,hsn',hme,hfu,hres⟩
 simp only[Nd.v,Value.agg.injEq,Array.mk.injEq,List.cons.injEq,Value.int.injEq,Value.string.injEq,Value.slice.injEq,true_and,and_true] at htv
 obtain⟨rfl,rfl,rfl,rfl,rfl,rfl,⟨rfl,rfl,rfl⟩,rfl⟩:=htv
 have hm2:q.c7 b s'∈F2:=hF2.mem_iff.2 (.head _)
 intro b3 I3 l3 hb3
 have hq3:=hq2.mono l3
 refine cU.ret (ln hq3 (Sl.words (ws:=rF) hb3 rfl) (by decide) (s:=s') (.tail _ (.tail _ hm2))) fun I4 l4=>⟨_,rfl,F2,.refl _,fun ha=>?_,fun ha=>?_⟩
 ·have ha:=of_decide_eq_true ha
  rw[hres,k8 ha]
  exact⟨t,rfl,rfl,hok.mono (cS.le_trans l3 l4) fun _ h=>h,hF2⟩
 have ha:=of_decide_eq_false ha
 have hab:=mG (Int.not_lt.1 ha) (by decide)
 have hlt:=(dt (Int.not_lt.1 ha)).1
 have l24:=cS.le_trans l3 l4
 have hna:=ha
 rw[w8 (n:=q.c.any rF s') (by omega),w8 (n:=6+q.c.any rF s') (by omega)]
 have hq4:=hq2.mono l24
 refine cU.ret (jh hq4 (s:=s') (.tail _ (.tail _ hm2))) fun I5 l5=>⟨_,_,_,_,_,rfl,F2,.refl _, ?_⟩
 refine⟨_,rfl,_,PQ.rd (k:=3) (.tail _ (.tail _ hm2)) rfl,_,rfl,q.cl s',96,F0,hF2,PQ.spot _ _,by rw[PQ.off];exact (by decide:3+1≤7), ?_⟩
 rw[PQ.eD (by omega)]
 have hq5:=hq4.mono l5
 refine (hg b s'.inc I5 _ _ hq5 hlt dO).mono fun e I6 G6 l6 ⟨t2,he,px2,hok2,hG6⟩=>?_
 refine⟨_,_,_,_,_,_,_,_,_,_,he,q.c7 b (g s'.inc).2::F0,hG6.trans dO.symm,fun b_k=>?_⟩
 refine (uJ (6+q.c.any rF s') (q.c.now s').pos t t2 I6 _ (hok.mono (cS.le_trans l24 (cS.le_trans l5 l6)) fun _ h=>h) hok2).mono fun e I7 G7 l7 ⟨t3,he,px3,hok3,hG7⟩=>?_
 subst hG7
 have hup:=hm s'.inc
 have hup1:=hup.1
 rw[oc] at hup1
 have hup2:=hup.2 hlt
 obtain⟨k',rfl⟩:∃k',k=k'+1:=⟨k-1,by omega⟩
 refine⟨_,_,_,_,_,_,_,_,_,_,he,q.c7 b (g s'.inc).2::F0,.refl _,q.c.l.length-(g s'.inc).2.next,by omega,(hq5.mono l6).mono l7,t3,(g s'.inc).2,k',rfl,hok3,.refl _,hup2,rfl,by omega, ?_⟩
 rw[hres,PC.fs,if_neg hna,px3,px2]
theorem BE{g:PS→Px×PS}(hg:eE 129 q d g)(hm:dT q.c g):eE 116 q d (q.c.loop rG 17 g):=by
 have _:=h0
 have _:=h1
 intro b s I F F0 hq hsn hF
 have hl:=hq.len
 refine gJ.vc (fun x0 x1 x2 x3 x4 x5 xa xn xc x7 n0 n1 n2 n3 n4 n5 na nn nc n7 m I' F'=>q.ok I'∧∃(t:Nd) (s':PS) (k:Nat),t.v=(.agg #[.int .u8 n0,.int .u8 n1,.int .u8 n2,.int .i64 n3,.int .u8 n4,.string n5,.slice na nn nc,.int .i64 n7])∧eb I' [] t∧F'.Perm (q.c7 b s'::F0)∧s'.next≤q.c.l.length∧m=q.c.l.length-s'.next∧q.c.l.length≤s'.next+k∧q.c.loop rG 17 g s=q.c.fs rG 17 g k t.px s') ?_
 unfold gJ.V
 intro b2
 refine (hg b s I _ _ hq hsn ((hF.cons _).trans kl)).mono fun e I1 G1 l1 ⟨t,he,px,hok,hG1⟩=>?_
 refine⟨_,_,_,_,_,_,_,_,_,_,he,q.c7 b (g s).2::F0,hG1.trans kl,fun b_n=>⟨⟨_,hq.mono l1,t,(g s).2,q.c.l.length,rfl,hok,.refl _,(hm s).2 hsn,rfl,by omega,by rw[px];rfl⟩, ?_⟩⟩
 intro x0 x1 x2 x3 x4 x5 xa xn xc x7 n0 n1 n2 n3 n4 n5 na nn nc n7 m I2 F2 l2 ⟨hq2,t,s',k,htv,hok,hF2,hsn',hme,hfu,hres⟩
 simp only[Nd.v,Value.agg.injEq,Array.mk.injEq,List.cons.injEq,Value.int.injEq,Value.string.injEq,Value.slice.injEq,true_and,and_true] at htv
 obtain⟨rfl,rfl,rfl,rfl,rfl,rfl,⟨rfl,rfl,rfl⟩,rfl⟩:=htv
 have hm2:q.c7 b s'∈F2:=hF2.mem_iff.2 (.head _)
 refine cU.ret (nh hq2 _ (s:=s') (.tail _ (.tail _ hm2))) fun I4 l24=>⟨_,rfl,F2,.refl _,fun ha=>?_,fun ha=>?_⟩
 ·have ha:q.c.dS (⟨#[38,38]⟩:ByteArray) s'=false:=by simpa using ha
  rw[hres,k8 (by unfold rG;rw[pL,if_neg (by simp[ha])];decide)]
  exact⟨t,rfl,rfl,hok.mono l24 fun _ h=>h,hF2⟩
 have ha:q.c.dS (⟨#[38,38]⟩:ByteArray) s'=true:=by simpa using ha
 have hlt:=ew ha
 have hz:q.c.any rG s'=0:=by unfold rG;rw[pL,if_pos ha]
 have hna:¬q.c.any rG s'<0:=by omega
 have hq4:=hq2.mono l24
 refine cU.ret (jh hq4 (s:=s') (.tail _ (.tail _ hm2))) fun I5 l5=>⟨_,_,_,_,_,rfl,F2,.refl _, ?_⟩
 refine⟨_,rfl,_,PQ.rd (k:=3) (.tail _ (.tail _ hm2)) rfl,_,rfl,q.cl s',96,F0,hF2,PQ.spot _ _,by rw[PQ.off];exact (by decide:3+1≤7), ?_⟩
 rw[PQ.eD (by omega)]
 have hq5:=hq4.mono l5
 refine (hg b s'.inc I5 _ _ hq5 hlt dO).mono fun e I6 G6 l6 ⟨t2,he,px2,hok2,hG6⟩=>?_
 refine⟨_,_,_,_,_,_,_,_,_,_,he,q.c7 b (g s'.inc).2::F0,hG6.trans dO.symm,fun b_k=>?_⟩
 refine (uJ (17) (q.c.now s').pos t t2 I6 _ (hok.mono (cS.le_trans l24 (cS.le_trans l5 l6)) fun _ h=>h) hok2).mono fun e I7 G7 l7 ⟨t3,he,px3,hok3,hG7⟩=>?_
 subst hG7
 have hup:=hm s'.inc
 have hup1:=hup.1
 rw[oc] at hup1
 have hup2:=hup.2 hlt
 obtain⟨k',rfl⟩:∃k',k=k'+1:=⟨k-1,by omega⟩
 refine⟨_,_,_,_,_,_,_,_,_,_,he,q.c7 b (g s'.inc).2::F0,.refl _,q.c.l.length-(g s'.inc).2.next,by omega,(hq5.mono l6).mono l7,t3,(g s'.inc).2,k',rfl,hok3,.refl _,hup2,rfl,by omega, ?_⟩
 rw[hres,PC.fs,if_neg hna,px3,px2,hz]
 try rfl
theorem Cr{g:PS→Px×PS}(hg:eE 116 q d g)(hm:dT q.c g):eE 93 q d (q.c.loop zp 18 g):=by
 have _:=h0
 have _:=h1
 intro b s I F F0 hq hsn hF
 have hl:=hq.len
 refine hZ.vc (fun x0 x1 x2 x3 x4 x5 xa xn xc x7 n0 n1 n2 n3 n4 n5 na nn nc n7 m I' F'=>q.ok I'∧∃(t:Nd) (s':PS) (k:Nat),t.v=(.agg #[.int .u8 n0,.int .u8 n1,.int .u8 n2,.int .i64 n3,.int .u8 n4,.string n5,.slice na nn nc,.int .i64 n7])∧eb I' [] t∧F'.Perm (q.c7 b s'::F0)∧s'.next≤q.c.l.length∧m=q.c.l.length-s'.next∧q.c.l.length≤s'.next+k∧q.c.loop zp 18 g s=q.c.fs zp 18 g k t.px s') ?_
 unfold hZ.V
 intro b2
 refine (hg b s I _ _ hq hsn ((hF.cons _).trans kl)).mono fun e I1 G1 l1 ⟨t,he,px,hok,hG1⟩=>?_
 refine⟨_,_,_,_,_,_,_,_,_,_,he,q.c7 b (g s).2::F0,hG1.trans kl,fun b_n=>⟨⟨_,hq.mono l1,t,(g s).2,q.c.l.length,rfl,hok,.refl _,(hm s).2 hsn,rfl,by omega,by rw[px];rfl⟩, ?_⟩⟩
 intro x0 x1 x2 x3 x4 x5 xa xn xc x7 n0 n1 n2 n3 n4 n5 na nn nc n7 m I2 F2 l2 ⟨hq2,t,s',k,htv,hok,hF2,hsn',hme,hfu,hres⟩
 simp only[Nd.v,Value.agg.injEq,Array.mk.injEq,List.cons.injEq,Value.int.injEq,Value.string.injEq,Value.slice.injEq,true_and,and_true] at htv
 obtain⟨rfl,rfl,rfl,rfl,rfl,rfl,⟨rfl,rfl,rfl⟩,rfl⟩:=htv
 have hm2:q.c7 b s'∈F2:=hF2.mem_iff.2 (.head _)
 refine cU.ret (nh hq2 _ (s:=s') (.tail _ (.tail _ hm2))) fun I4 l24=>⟨_,rfl,F2,.refl _,fun ha=>?_,fun ha=>?_⟩
 ·have ha:q.c.dS (⟨#[124,124]⟩:ByteArray) s'=false:=by simpa using ha
  rw[hres,k8 (by unfold zp;rw[pL,if_neg (by simp[ha])];decide)]
  exact⟨t,rfl,rfl,hok.mono l24 fun _ h=>h,hF2⟩
 have ha:q.c.dS (⟨#[124,124]⟩:ByteArray) s'=true:=by simpa using ha
 have hlt:=ew ha
 have hz:q.c.any zp s'=0:=by unfold zp;rw[pL,if_pos ha]
 have hna:¬q.c.any zp s'<0:=by omega
 have hq4:=hq2.mono l24
 refine cU.ret (jh hq4 (s:=s') (.tail _ (.tail _ hm2))) fun I5 l5=>⟨_,_,_,_,_,rfl,F2,.refl _, ?_⟩
 refine⟨_,rfl,_,PQ.rd (k:=3) (.tail _ (.tail _ hm2)) rfl,_,rfl,q.cl s',96,F0,hF2,PQ.spot _ _,by rw[PQ.off];exact (by decide:3+1≤7), ?_⟩
 rw[PQ.eD (by omega)]
 have hq5:=hq4.mono l5
 refine (hg b s'.inc I5 _ _ hq5 hlt dO).mono fun e I6 G6 l6 ⟨t2,he,px2,hok2,hG6⟩=>?_
 refine⟨_,_,_,_,_,_,_,_,_,_,he,q.c7 b (g s'.inc).2::F0,hG6.trans dO.symm,fun b_k=>?_⟩
 refine (uJ (18) (q.c.now s').pos t t2 I6 _ (hok.mono (cS.le_trans l24 (cS.le_trans l5 l6)) fun _ h=>h) hok2).mono fun e I7 G7 l7 ⟨t3,he,px3,hok3,hG7⟩=>?_
 subst hG7
 have hup:=hm s'.inc
 have hup1:=hup.1
 rw[oc] at hup1
 have hup2:=hup.2 hlt
 obtain⟨k',rfl⟩:∃k',k=k'+1:=⟨k-1,by omega⟩
 refine⟨_,_,_,_,_,_,_,_,_,_,he,q.c7 b (g s'.inc).2::F0,.refl _,q.c.l.length-(g s'.inc).2.next,by omega,(hq5.mono l6).mono l7,t3,(g s'.inc).2,k',rfl,hok3,.refl _,hup2,rfl,by omega, ?_⟩
 rw[hres,PC.fs,if_neg hna,px3,px2,hz]
 try rfl
end
end Go.Lx
namespace Go.Lx
open Go.Vc
section
variable {q:PQ} {nx:Lv} {d:Int} (h0:0≤d) (h1:d≤24)
include h0 h1
theorem xK(hg:eE 144 q d (q.c.sum nx d))(hm:dT q.c (q.c.sum nx d)):eE 129 q d (q.c.compare nx d):=by
 have _:=h0
 have _:=h1
 intro b s I F F0 hq hsn hF
 have hl:=hq.len
 refine eV.vc ?_
 unfold eV.V
 intro b2
 refine (hg b s I _ _ hq hsn ((hF.cons _).trans kl)).mono fun e I1 G1 l1 ⟨t,he,px,hok,hG1⟩=>?_
 unfold PC.compare
 have hs2:=(hm s).2 hsn
 generalize hgs:q.c.sum nx d s=n at px hG1 hs2 ⊢
 refine⟨_,_,_,_,_,_,_,_,_,_,he,q.c7 b n.2::F0,hG1.trans kl,fun b_n b3 I2 l2 hb3=>?_⟩
 have hq2:=(hq.mono l1).mono l2
 refine cU.ret (ln hq2 (Sl.words (ws:=lu) hb3 rfl) (by decide) (s:=n.2) (.tail _ (.tail _ (.head _)))) fun I3 l3=>⟨_,rfl,q.c7 b n.2::F0,.refl _,fun ha=>?_,fun ha=>?_⟩
 ·have ha:=of_decide_eq_true ha
  show gb q b F0 (if q.c.any lu n.2<0 then n else _) _ _ _
  rw[if_pos ha]
  exact⟨t,rfl,px,hok.mono (cS.le_trans l2 l3) fun _ h=>h,.refl _⟩
 have ha:=of_decide_eq_false ha
 have hab:=mG (Int.not_lt.1 ha) (by decide)
 have hlt:=(dt (Int.not_lt.1 ha)).1
 have hq3:=hq2.mono l3
 rw[w8 (n:=q.c.any lu n.2) (by omega),w8 (n:=11+q.c.any lu n.2) (by omega)]
 refine cU.ret (jh hq3 (s:=n.2) (.tail _ (.tail _ (.head _)))) fun I4 l4=>⟨_,_,_,_,_,rfl,q.c7 b n.2::F0,.refl _, ?_⟩
 refine⟨_,rfl,_,PQ.rd (k:=3) (.tail _ (.tail _ (.head _))) rfl,_,rfl,q.cl n.2,96,F0,.refl _,PQ.spot _ _,by rw[PQ.off];exact (by decide:3+1≤7), ?_⟩
 rw[PQ.eD (by omega)]
 have hq4:=hq3.mono l4
 refine (hg b n.2.inc I4 _ _ hq4 hlt dO).mono fun e I5 G5 l5 ⟨t2,he,px2,hok2,hG5⟩=>?_
 refine⟨_,_,_,_,_,_,_,_,_,_,he,q.c7 b (q.c.sum nx d n.2.inc).2::F0,hG5.trans dO.symm,fun b_k=>?_⟩
 refine (uJ (11+q.c.any lu n.2) (q.c.now n.2).pos t t2 I5 _ (hok.mono (cS.le_trans l2 (cS.le_trans l3 (cS.le_trans l4 l5))) fun _ h=>h) hok2).mono fun e I6 G6 l6 ⟨t3,he,px3,hok3,hG⟩=>?_
 subst hG
 refine⟨_,_,_,_,_,_,_,_,_,_,he,q.c7 b (q.c.sum nx d n.2.inc).2::F0,.refl _, ?_⟩
 show gb q b F0 (if q.c.any lu n.2<0 then n else _) _ _ _
 rw[if_neg ha]
 exact⟨t3,rfl,by rw[px3,px,px2],hok3,.refl _⟩
theorem AR(hg:eE 93 q d (q.c.or nx d))(hm:dT q.c (q.c.or nx d))(hx:d+1≤24→eE 48 q (d+1) nx.ex)(hmx:dT q.c nx.ex):eE 48 q d (q.c.expr nx d):=by
 intro b s I F F0 hq hsn hF
 have hl:=hq.len
 refine fZ.vc ?_
 unfold fZ.V
 intro b2
 refine (hg b s I _ _ hq hsn ((hF.cons _).trans kl)).mono fun e I1 G1 l1 ⟨t,he,px,hok,hG1⟩=>?_
 unfold PC.expr
 have hs2:=(hm s).2 hsn
 generalize hgs:q.c.or nx d s=n at px hG1 hs2 ⊢
 refine⟨_,_,_,_,_,_,_,_,_,_,he,q.c7 b n.2::F0,hG1.trans kl,fun b_n=>?_⟩
 have hq1:=hq.mono l1
 refine cU.ret (nh hq1 _ (s:=n.2) (.tail _ (.tail _ (.head _)))) fun I2 l2=>⟨_,rfl,q.c7 b n.2::F0,.refl _,fun ha=>?_,fun ha=>?_⟩
 ·have ha:q.c.dS (⟨#[63]⟩:ByteArray) n.2=false:=by simpa using ha
  show gb q b F0 (if q.c.dS (⟨#[63]⟩:ByteArray) n.2 then _ else n) _ _ _
  rw[if_neg (by simp[ha])]
  exact⟨t,rfl,px,hok.mono l2 fun _ h=>h,.refl _⟩
 have ha:q.c.dS (⟨#[63]⟩:ByteArray) n.2=true:=by simpa using ha
 have hlt:=ew ha
 have hq2:=hq1.mono l2
 refine (n9 hq2 d h0 (by omega) (s:=n.2) dO).mono fun e I3 G l3 ⟨he,hG⟩=>⟨_,he,q.c7 b (q.c.c9 d n.2)::F0,hG.trans dO.symm,fun h=>?_,fun h=>?_⟩
 ·have h:(q.c.c9 d n.2).over=true:=by simpa using h
  show gb q b F0 (if q.c.dS (⟨#[63]⟩:ByteArray) n.2 then (if (q.c.c9 d n.2).over then (gA,q.c.c9 d n.2) else _) else n) _ _ _
  rw[if_pos ha,if_pos h]
  exact gb.nil rfl (.refl _)
 have h:(q.c.c9 d n.2).over=false:=by simpa using h
 obtain⟨hd,hde⟩:=iw hlt h
 rw[hde]
 have hq3:=hq2.mono l3
 refine cU.ret (jh hq3 (s:=n.2) (.tail _ (.tail _ (.head _)))) fun I4 l4=>⟨_,_,_,_,_,rfl,q.c7 b n.2::F0,.refl _, ?_⟩
 refine⟨_,rfl,_,PQ.rd (k:=3) (.tail _ (.tail _ (.head _))) rfl,_,rfl,q.cl n.2,96,F0,.refl _,PQ.spot _ _,by rw[PQ.off];exact (by decide:3+1≤7), ?_⟩
 rw[PQ.eD (by omega),gS (n:=d+1) (by omega)]
 have hq4:=hq3.mono l4
 refine (hx hd b n.2.inc I4 _ _ hq4 hlt dO).mono fun e I5 G5 l5 ⟨t2,he,px2,hok2,hG5⟩=>?_
 refine⟨_,_,_,_,_,_,_,_,_,_,he,q.c7 b (nx.ex n.2.inc).2::F0,hG5.trans dO.symm,fun b_a=>?_⟩
 have hq5:=hq4.mono l5
 have hn5:=(hmx n.2.inc).2 hlt
 refine (ec hq5 _ (s:=(nx.ex n.2.inc).2) sv).mono fun e I6 G6 l6 ⟨he,hG6⟩=>⟨_,he,q.c7 b (q.c.take (⟨#[58]⟩:ByteArray) (nx.ex n.2.inc).2).2::F0,hG6.trans sv.symm, ?_⟩
 have hq6:=hq5.mono l6
 have hn6:=(Up.take (c:=q.c) (s:=(nx.ex n.2.inc).2) (⟨#[58]⟩:ByteArray)).2 hn5
 refine (hx hd b (q.c.take (⟨#[58]⟩:ByteArray) (nx.ex n.2.inc).2).2 I6 _ _ hq6 hn6 sv).mono fun e I7 G7 l7 ⟨t3,he,px3,hok3,hG7⟩=>?_
 refine⟨_,_,_,_,_,_,_,_,_,_,he,q.c7 b (nx.ex (q.c.take (⟨#[58]⟩:ByteArray) (nx.ex n.2.inc).2).2).2::F0,hG7.trans sv.symm,fun b_b b4 I8 l8 hb4=>?_⟩
 show gb q b F0 (if q.c.dS (⟨#[63]⟩:ByteArray) n.2 then (if (q.c.c9 d n.2).over then _ else _) else n) _ _ _
 rw[if_pos ha,if_neg (by simp[h])]
 refine⟨.mk 7 0 0 0 0 ⟨#[]⟩ (some ⟨b4,0,none⟩) 3 [t,t2,t3] (q.c.now n.2).pos,rfl, ?_,eb.uI hb4 (fun k hk=>?_) .., ?_⟩
 ·simp only[Nd.px,Nd.oF,px,px2,px3]
  rw[hde]
 ·simp only[List.mem_cons,List.not_mem_nil,or_false] at hk
  rcases hk with rfl | rfl | rfl
  ·exact hok.mono (cS.le_trans l2 (cS.le_trans l3 (cS.le_trans l4 (cS.le_trans l5 (cS.le_trans l6 (cS.le_trans l7 l8)))))) fun _ h=>h
  ·exact hok2.mono (cS.le_trans l6 (cS.le_trans l7 l8)) fun _ h=>h
  ·exact hok3.mono l8 fun _ h=>h
 ·rw[hde]
theorem wO(hx:d+1≤24→eE 48 q (d+1) nx.ex)(hmx:dT q.c nx.ex)(hu:d+1≤24→eE 157 q (d+1) nx.un)(hmu:dT q.c nx.un) :
  eE 48 q d (q.c.expr nx d)∧eE 157 q d (q.c.unary nx d):=by
 have e1:=zK h0 h1 hx hmx hu hmu
 have e2:=xJ h0 h1 e1 (Up.unary hmx hmu d)
 have e3:=BD h0 h1 e2 (Up.product hmx hmu d)
 have e4:=xK h0 h1 e3 (Up.sum hmx hmu d)
 have e5:=BE h0 h1 e4 (Up.compare hmx hmu d)
 have e6:=Cr h0 h1 e5 (Up.and hmx hmu d)
 exact⟨AR h0 h1 e6 (Up.or hmx hmu d) hx hmx,e1⟩
end
theorem yR{q:PQ}:∀(k:Nat) (d:Int),0≤d→d≤24→24≤d+k→eE 48 q d (q.c.lvl k d).ex∧eE 157 q d (q.c.lvl k d).un
 | 0,d,h0,h1,h2=>wO h0 h1 (fun h=>by omega) (fun s=>.refl) (fun h=>by omega) (fun s=>.refl)
 | k+1,d,h0,h1,h2=>wO h0 h1 (fun h=>(yR k (d+1) (by omega) h (by omega)).1) (Up.lvl k (d+1)).1 (fun h=>(yR k (d+1) (by omega) h (by omega)).2) (Up.lvl k (d+1)).2
theorem qR{q:PQ}:eE 48 q 0 q.c.eJ:=(yR 24 0 (by decide) (by decide) (by decide)).1
end Go.Lx
namespace Go.Lx
open Go.Vc Go.Proofs.Tryz
def lM:List (Nat×List Sh):=[(0,[]),(3,[.one (.int .i64)]),(4,[.one .bool]),(9,[.one .str]),(39,[.one .slc]),(40,[.one .slc]),(41,[.one .slc]),(43,[.agg [.str,.slc,.slc,.slc]]),(50,[.agg [(.int .i64),(.int .i64),.bool]]),(64,[.agg [(.int .u8),(.int .u8),(.int .u8),(.int .i64),(.int .u8),.str,.slc,(.int .i64)]]),(76,[.agg [(.int .u8),.str,(.int .u8),(.int .i64),(.int .i64)]]),(86,[.one .slc]),(88,[.agg [.str,.slc,(.int .i64)]]),(93,[.one .ptr]),(104,[.agg [.str,(.int .u8),(.int .u8),(.int .u8),(.int .u8),(.int .i64),(.int .u8),.str,.slc,(.int .i64),(.int .i64)]]),(108,[.one .slc]),(110,[.agg [(.int .u8),(.int .u8),(.int .u8),(.int .i64),(.int .u8),.str,.slc,(.int .i64),.slc,(.int .i64)]]),(112,[.one (.int .u8)]),(114,[.agg [(.int .u8),(.int .u8),.str,(.int .u8),(.int .u8),(.int .u8),(.int .i64),(.int .u8),.str,.slc,(.int .i64),(.int .u8),(.int .u8),(.int .u8),(.int .i64),(.int .u8),.str,.slc,(.int .i64),(.int .u8),(.int .u8),(.int .u8),(.int .i64),(.int .u8),.str,.slc,(.int .i64),(.int .u8),(.int .u8),(.int .u8),(.int .i64),(.int .u8),.str,.slc,(.int .i64),(.int .i64)]]),(208,[.agg [(.int .u8),(.int .u8),(.int .u8),(.int .i64),(.int .u8),.str,.slc,(.int .i64)],.one .bool])]
def gK.V(ka:Nat→Bs→Int→Int→Int→Int→Int→Int→Bs→OA→Nat→Nat→Int→Int→Nat×Obj)(nO:Int→Int→Int→Int→Int→Bs→OA→Nat→Nat→Int→Obj)(vb vi:Int→Value)(vs:Bs→Value)(vl:OA→Nat→Nat→Value)(vp:OA→Value)(p:Addr)(I:cS)(F:cR)(Q:cT)(Inv28:Bs→Int→Int→Int→Int→Int→Int→Bs→OA→Nat→Nat→Int→Int→cS→cR→Prop)(Inv46:cS→cR→Prop):Prop:=∀b:Nat,dR P 74 (#[vp (some p),vs (⟨#[114,101,103]⟩:Bs)]) I ((ka b (⟨#[]⟩:Bs) 0 0 0 0 0 0 (⟨#[]⟩:Bs) none 0 0 0 0)::·) F vi fun r I1 F1=>∀a:Nat,dR P 75 (#[vp (some p)]) I1 ((ka b (⟨#[]⟩:Bs) 0 0 0 0 0 0 (⟨#[]⟩:Bs) none 0 0 0 0)::(ka a (⟨#[]⟩:Bs) 0 0 0 0 0 0 (⟨#[]⟩:Bs) none 0 0 0 r)::·) F1 vs fun r1 I2 F2=>∀(b1:Nat) (I3:cS),cS.le I2 I3→I3 b1=some (Obj.cells #[vs (⟨#[105,110,116]⟩:Bs),vs (⟨#[113,116,121]⟩:Bs),vs (⟨#[112,114,105,99,101]⟩:Bs),vs (⟨#[116,105,109,101]⟩:Bs),vs (⟨#[98,111,111,108]⟩:Bs),vs (⟨#[115,105,100,101]⟩:Bs)] 9 (0,0))→dR P 108 (#[vp (some p),vl (some ⟨b1,0,none⟩) 6 6]) I3 ((ka b (⟨#[]⟩:Bs) 0 0 0 0 0 0 (⟨#[]⟩:Bs) none 0 0 0 0)::(ka a r1 0 0 0 0 0 0 (⟨#[]⟩:Bs) none 0 0 0 r)::·) F2 vi fun r2 I4 F3=>(Dt (r2<0) (eM P 81 (#[vp (some p),vi 130]) I4 ((ka b (⟨#[]⟩:Bs) 0 0 0 0 0 0 (⟨#[]⟩:Bs) none 0 0 0 0)::(ka a r1 0 0 0 0 0 0 (⟨#[]⟩:Bs) none 0 0 0 r)::·) F3 fun e4 I5 G4=>e4=.returned (.tuple #[])∧G4 fun F4=>Q (.returned (.agg #[vs r1,vb 0,vb 0,vb 0,vb 0,vi 0,vb 0,vs (⟨#[]⟩:Bs),vl none 0 0,vi 0,vi r])) I5 F4) (∃ad:Addr,some p=some ad∧∃(m:Int),Rd I4 ((ka b (⟨#[]⟩:Bs) 0 0 0 0 0 0 (⟨#[]⟩:Bs) none 0 0 0 0)::(ka a r1 0 0 0 0 0 0 (⟨#[]⟩:Bs) none 0 0 0 r)::F3) (ad.add 3) [vi m]∧∃ac:Addr,some p=some ac∧∃(cs:List Value) (el:Nat) (F5:cR),List.Perm F3 (((ac.add 3).block,Obj.cells cs.toArray el (0,0))::F5)∧(ac.add 3).spot=none∧(ac.add 3).off+1≤cs.length∧cU P 74 (#[vp (some p),vs (⟨#[61]⟩:Bs)]) I4 ((ka b (⟨#[]⟩:Bs) 0 0 0 0 0 0 (⟨#[]⟩:Bs) none 0 0 0 0)::(ka a r1 (IntKind.wrap .u8 (1+(IntKind.wrap .u8 r2))) 0 0 0 0 0 (⟨#[]⟩:Bs) none 0 0 0 r)::(((ac.add 3).block,Obj.cells (cY (ac.add 3).off [vi (IntKind.wrap .i64 (m+1))] cs).toArray el (0,0))::F5)) fun e5 I6 G5=>∃(r3:Int),e5=.returned (vi r3)∧∃F6:cR,List.Perm G5 ((ka b (⟨#[]⟩:Bs) 0 0 0 0 0 0 (⟨#[]⟩:Bs) none 0 0 0 0)::(ka a r1 (IntKind.wrap .u8 (1+(IntKind.wrap .u8 r2))) 0 0 0 0 0 (⟨#[]⟩:Bs) none 0 0 0 r)::F6)∧eM P 95 (#[vp (some p)]) I6 ((ka b (⟨#[]⟩:Bs) 0 0 0 0 0 0 (⟨#[]⟩:Bs) none 0 0 0 0)::(ka a r1 (IntKind.wrap .u8 (1+(IntKind.wrap .u8 r2))) 0 0 0 0 0 (⟨#[]⟩:Bs) none 0 0 0 r)::·) F6 fun e6 I7 G6=>∃(aq:Int) (ar:Bs) (au av ah:Int),e6=.returned (.agg #[vb aq,vs ar,vb au,vi av,vi ah])∧G6 fun F7=>dR P 76 (#[vp (some p),vs (⟨#[45]⟩:Bs)]) I7 ((ka b (⟨#[]⟩:Bs) 0 0 0 0 0 0 (⟨#[]⟩:Bs) none 0 0 0 0)::(ka a r1 (IntKind.wrap .u8 (1+(IntKind.wrap .u8 r2))) 0 0 0 0 0 (⟨#[]⟩:Bs) none 0 0 0 r)::·) F7 .bool fun r4 I8 F8=>((It r4 (∃al:Addr,some p=some al∧∃(m1:Int),Rd I8 ((ka b (⟨#[]⟩:Bs) 0 0 0 0 0 0 (⟨#[]⟩:Bs) none 0 0 0 0)::(ka a r1 (IntKind.wrap .u8 (1+(IntKind.wrap .u8 r2))) 0 0 0 0 0 (⟨#[]⟩:Bs) none 0 0 0 r)::F8) (al.add 3) [vi m1]∧∃ae:Addr,some p=some ae∧∃(ai:List Value) (ak:Nat) (F9:cR),List.Perm F8 (((ae.add 3).block,Obj.cells ai.toArray ak (0,0))::F9)∧(ae.add 3).spot=none∧(ae.add 3).off+1≤ai.length∧cU P 95 (#[vp (some p)]) I8 ((ka b (⟨#[]⟩:Bs) 0 0 0 0 0 0 (⟨#[]⟩:Bs) none 0 0 0 0)::(ka a r1 (IntKind.wrap .u8 (1+(IntKind.wrap .u8 r2))) 0 0 0 0 0 (⟨#[]⟩:Bs) none 0 0 0 r)::(((ae.add 3).block,Obj.cells (cY (ae.add 3).off [vi (IntKind.wrap .i64 (m1+1))] ai).toArray ak (0,0))::F9)) fun e8 I9 G8=>∃(ag:Int) (am:Bs) (an ao ap:Int),e8=.returned (.agg #[vb ag,vs am,vb an,vi ao,vi ap])∧∃F10:cR,List.Perm G8 ((ka b (⟨#[]⟩:Bs) 0 0 0 0 0 0 (⟨#[]⟩:Bs) none 0 0 0 0)::(ka a r1 (IntKind.wrap .u8 (1+(IntKind.wrap .u8 r2))) 0 0 0 0 0 (⟨#[]⟩:Bs) none 0 0 0 r)::F10)∧(It (ag != 3) (eM P 81 (#[vp (some p),vi 130]) I9 ((ka b (⟨#[]⟩:Bs) 0 0 0 0 0 0 (⟨#[]⟩:Bs) none 0 0 0 0)::(ka a r1 (IntKind.wrap .u8 (1+(IntKind.wrap .u8 r2))) 0 0 0 0 0 (⟨#[]⟩:Bs) none 0 0 0 r)::·) F10 fun e9 I10 G9=>e9=.returned (.tuple #[])∧G9 fun F11=>Q (.returned (.agg #[vs r1,vb (IntKind.wrap .u8 (1+(IntKind.wrap .u8 r2))),vb 0,vb 0,vb 0,vi 0,vb 0,vs (⟨#[]⟩:Bs),vl none 0 0,vi 0,vi r])) I10 F11) (Inv28 (⟨#[]⟩:Bs) 0 0 0 0 0 0 (⟨#[]⟩:Bs) none 0 0 0 0 I9 F10))) (Inv28 (⟨#[]⟩:Bs) 0 0 0 0 0 0 (⟨#[]⟩:Bs) none 0 0 0 0 I8 F8)))∧∀(t:Bs) (u v w x y z:Int) (aa:Bs) (f:OA) (g h:Nat) (ab s:Int) (I11:cS) (F12:cR),cS.le I8 I11→Inv28 t u v w x y z aa f g h ab s I11 F12→eM P 109 (#[vp (some p)]) I11 ((ka b t u v w x y z aa f g h ab s)::(ka a r1 (IntKind.wrap .u8 (1+(IntKind.wrap .u8 r2))) 0 0 0 0 0 (⟨#[]⟩:Bs) none 0 0 0 r)::·) F12 fun aw I12 G10=>∃(i j k l n:Int) (o:Bs) (c:OA) (d e:Nat) (q:Int) (aj:Bool),aw=.returned (.tuple #[.agg #[vb i,vb j,vb k,vi l,vb n,vs o,vl c d e,vi q],.bool aj])∧G10 fun F13=>∀af:Nat,((It (!aj) (eM P 81 (#[vp (some p),vi 130]) I12 ((ka b t u v w x y z aa f g h ab s)::(ka a r1 (IntKind.wrap .u8 (1+(IntKind.wrap .u8 r2))) 0 0 0 0 0 (⟨#[]⟩:Bs) none 0 0 0 r)::(af,nO i j k l n o c d e q)::·) F13 fun ax I13 G11=>ax=.returned (.tuple #[])∧G11 fun F14=>Inv46 I13 F14) (Inv46 I12 F13)))∧∀(I14:cS) (F15:cR),cS.le I12 I14→Inv46 I14 F15→(It r4 (∀(b2:Nat) (I15:cS),cS.le I14 I15→I15 b2=some (nO i j k l n o c d e q)→dR P 74 (#[vp (some p),vs (⟨#[59]⟩:Bs)]) I15 ((ka b t u v w x y z aa f g h ab s)::(ka a r1 (IntKind.wrap .u8 (1+(IntKind.wrap .u8 r2))) 5 1 0 0 0 (⟨#[]⟩:Bs) (some ⟨b2,0,none⟩) 1 1 ah r)::(af,nO i j k l n o c d e q)::·) F15 vi fun r5 I16 F16=>Q (.returned (.agg #[vs r1,vb (IntKind.wrap .u8 (1+(IntKind.wrap .u8 r2))),vb 5,vb 1,vb 0,vi 0,vb 0,vs (⟨#[]⟩:Bs),vl (some ⟨b2,0,none⟩) 1 1,vi ah,vi r])) I16 F16) (dR P 74 (#[vp (some p),vs (⟨#[59]⟩:Bs)]) I14 ((ka b t u v w x y z aa f g h ab s)::(ka a r1 (IntKind.wrap .u8 (1+(IntKind.wrap .u8 r2))) i j k l n o c d e q r)::(af,nO i j k l n o c d e q)::·) F15 vi fun r6 I17 F17=>Q (.returned (.agg #[vs r1,vb (IntKind.wrap .u8 (1+(IntKind.wrap .u8 r2))),vb i,vb j,vb k,vi l,vb n,vs o,vl c d e,vi q,vi r])) I17 F17))))
theorem gK.vc{p:Addr}{I:cS}{F:cR}{Q:cT}(Inv28:Bs→Int→Int→Int→Int→Int→Int→Bs→OA→Nat→Nat→Int→Int→cS→cR→Prop)(Inv46:cS→cR→Prop)(h:gK.V (fun W a b c d e f g h i j k l m=>(W,Obj.cells #[.string a,.int .u8 b,.int .u8 c,.int .u8 d,.int .u8 e,.int .i64 f,.int .u8 g,.string h,.slice i j k,.int .i64 l,.int .i64 m] 104 (0,0))) (fun k o t n f s a l c q=>.cells #[.int .u8 k,.int .u8 o,.int .u8 t,.int .i64 n,.int .u8 f,.string s,.slice a l c,.int .i64 q] 64 (0,0)) (.int .u8) (.int .i64) .string .slice .pointer p I F Q Inv28 Inv46):cU P 78 #[.pointer (some p)] I F Q :=
 tw (A:=(dv [4001,12000,14003,18001,21000] [] [74,75,76,81,95,108,109] lM [(28,⟨[],[(0,[.str,(.int .u8),(.int .u8),(.int .u8),(.int .u8),(.int .i64),(.int .u8),.str,.slc,(.int .i64),(.int .i64)])],fun _ _ _ vs m I F=>match vs with | [.string y0,.int _ y1,.int _ y2,.int _ y3,.int _ y4,.int _ y5,.int _ y6,.string y7,.slice y8 y9 y10,.int _ y11,.int _ y12]=>Inv28 y0 y1 y2 y3 y4 y5 y6 y7 y8 y9 y10 y11 y12 I F | _=>False,[],[]⟩),(46,⟨[],[],fun _ _ _ vs m I F=>match vs with | []=>Inv46  I F | _=>False,[],[]⟩)] [3001,22001] [] [] [] [] [])) [74,75,76,81,95,108,109] func78 h
def fg.V(ka:Nat→Int→Int→Bs→Int→Int→Int→Int→Int→Bs→OA→Nat→Nat→Int→Int→Int→Int→Int→Int→Bs→OA→Nat→Nat→Int→Int→Int→Int→Int→Int→Bs→OA→Nat→Nat→Int→Int→Int→Int→Int→Int→Bs→OA→Nat→Nat→Int→Int→Nat×Obj)(kb:Int→Int→Bs→Int→Int→Int→Int→Int→Bs→OA→Nat→Nat→Int→Int→Int→Int→Int→Int→Bs→OA→Nat→Nat→Int→Int→Int→Int→Int→Int→Bs→OA→Nat→Nat→Int→Int→Int→Int→Int→Int→Bs→OA→Nat→Nat→Int→Int→Value)(nV:Int→Int→Int→Int→Int→Bs→OA→Nat→Nat→Int→Value)(vb vi:Int→Value)(vs:Bs→Value)(vl:OA→Nat→Nat→Value)(vp:OA→Value)(wr:Int→Int)(p:Addr)(I:cS)(F:cR)(Q:cT)  : Prop:=∀b:Nat,dR P 74 (#[vp (some p),vs (⟨#[115,117,98,109,105,116]⟩:Bs)]) I ((ka b 0 0 (⟨#[]⟩:Bs) 0 0 0 0 0 (⟨#[]⟩:Bs) none 0 0 0 0 0 0 0 0 (⟨#[]⟩:Bs) none 0 0 0 0 0 0 0 0 (⟨#[]⟩:Bs) none 0 0 0 0 0 0 0 0 (⟨#[]⟩:Bs) none 0 0 0 0)::·) F vi fun r I1 F1=>∀ab:Nat,eM P 48 (#[vp (some p),vi 0]) I1 ((ka b 0 0 (⟨#[]⟩:Bs) 0 0 0 0 0 (⟨#[]⟩:Bs) none 0 0 0 0 0 0 0 0 (⟨#[]⟩:Bs) none 0 0 0 0 0 0 0 0 (⟨#[]⟩:Bs) none 0 0 0 0 0 0 0 0 (⟨#[]⟩:Bs) none 0 0 0 0)::(ka ab 1 0 (⟨#[]⟩:Bs) 0 0 0 0 0 (⟨#[]⟩:Bs) none 0 0 0 0 0 0 0 0 (⟨#[]⟩:Bs) none 0 0 0 0 0 0 0 0 (⟨#[]⟩:Bs) none 0 0 0 0 0 0 0 0 (⟨#[]⟩:Bs) none 0 0 0 r)::·) F1 fun e2 I2 G2=>∃(q s t u v:Int) (w:Bs) (e:OA) (f g:Nat) (x:Int),e2=.returned (nV q s t u v w e f g x)∧G2 fun F2=>dR P 74 (#[vp (some p),vs (⟨#[111,102]⟩:Bs)]) I2 ((ka b 0 0 (⟨#[]⟩:Bs) 0 0 0 0 0 (⟨#[]⟩:Bs) none 0 0 0 0 0 0 0 0 (⟨#[]⟩:Bs) none 0 0 0 0 0 0 0 0 (⟨#[]⟩:Bs) none 0 0 0 0 0 0 0 0 (⟨#[]⟩:Bs) none 0 0 0 0)::(ka ab 1 0 (⟨#[]⟩:Bs) q s t u v w e f g x 0 0 0 0 0 (⟨#[]⟩:Bs) none 0 0 0 0 0 0 0 0 (⟨#[]⟩:Bs) none 0 0 0 0 0 0 0 0 (⟨#[]⟩:Bs) none 0 0 0 r)::·) F2 vi fun r1 I3 F3=>eM P 48 (#[vp (some p),vi 0]) I3 ((ka b 0 0 (⟨#[]⟩:Bs) 0 0 0 0 0 (⟨#[]⟩:Bs) none 0 0 0 0 0 0 0 0 (⟨#[]⟩:Bs) none 0 0 0 0 0 0 0 0 (⟨#[]⟩:Bs) none 0 0 0 0 0 0 0 0 (⟨#[]⟩:Bs) none 0 0 0 0)::(ka ab 1 0 (⟨#[]⟩:Bs) q s t u v w e f g x 0 0 0 0 0 (⟨#[]⟩:Bs) none 0 0 0 0 0 0 0 0 (⟨#[]⟩:Bs) none 0 0 0 0 0 0 0 0 (⟨#[]⟩:Bs) none 0 0 0 r)::·) F3 fun e4 I4 G4=>∃(h i j k l:Int) (n:Bs) (a:OA) (c d:Nat) (o:Int),e4=.returned (nV h i j k l n a c d o)∧G4 fun F4=>∀(b1:Nat) (I5:cS),cS.le I4 I5→I5 b1=some (Obj.cells #[vs (⟨#[109,97,114,107,101,116]⟩:Bs),vs (⟨#[97,116]⟩:Bs)] 9 (0,0))→dR P 108 (#[vp (some p),vl (some ⟨b1,0,none⟩) 2 2]) I5 ((ka b 0 0 (⟨#[]⟩:Bs) 0 0 0 0 0 (⟨#[]⟩:Bs) none 0 0 0 0 0 0 0 0 (⟨#[]⟩:Bs) none 0 0 0 0 0 0 0 0 (⟨#[]⟩:Bs) none 0 0 0 0 0 0 0 0 (⟨#[]⟩:Bs) none 0 0 0 0)::(ka ab 1 0 (⟨#[]⟩:Bs) q s t u v w e f g x h i j k l n a c d o 0 0 0 0 0 (⟨#[]⟩:Bs) none 0 0 0 0 0 0 0 0 (⟨#[]⟩:Bs) none 0 0 0 r)::·) F4 vi fun r2 I6 F5=>(Dt (r2<0) (eM P 81 (#[vp (some p),vi 130]) I6 ((ka b 0 0 (⟨#[]⟩:Bs) 0 0 0 0 0 (⟨#[]⟩:Bs) none 0 0 0 0 0 0 0 0 (⟨#[]⟩:Bs) none 0 0 0 0 0 0 0 0 (⟨#[]⟩:Bs) none 0 0 0 0 0 0 0 0 (⟨#[]⟩:Bs) none 0 0 0 0)::(ka ab 1 0 (⟨#[]⟩:Bs) q s t u v w e f g x h i j k l n a c d o 0 0 0 0 0 (⟨#[]⟩:Bs) none 0 0 0 0 0 0 0 0 (⟨#[]⟩:Bs) none 0 0 0 r)::·) F5 fun e6 I7 G6=>e6=.returned (.tuple #[])∧G6 fun F6=>Q (.returned ((kb 1 0 (⟨#[]⟩:Bs) q s t u v w e f g x h i j k l n a c d o 0 0 0 0 0 (⟨#[]⟩:Bs) none 0 0 0 0 0 0 0 0 (⟨#[]⟩:Bs) none 0 0 0 r))) I7 F6) (∃ad:Addr,some p=some ad∧∃(m:Int),Rd I6 ((ka b 0 0 (⟨#[]⟩:Bs) 0 0 0 0 0 (⟨#[]⟩:Bs) none 0 0 0 0 0 0 0 0 (⟨#[]⟩:Bs) none 0 0 0 0 0 0 0 0 (⟨#[]⟩:Bs) none 0 0 0 0 0 0 0 0 (⟨#[]⟩:Bs) none 0 0 0 0)::(ka ab 1 0 (⟨#[]⟩:Bs) q s t u v w e f g x h i j k l n a c d o 0 0 0 0 0 (⟨#[]⟩:Bs) none 0 0 0 0 0 0 0 0 (⟨#[]⟩:Bs) none 0 0 0 r)::F5) (ad.add 3) [vi m]∧∃ak:Addr,some p=some ak∧∃(cs:List Value) (el:Nat) (F7:cR),List.Perm F5 (((ak.add 3).block,Obj.cells cs.toArray el (0,0))::F7)∧(ak.add 3).spot=none∧(ak.add 3).off+1≤cs.length∧(It (r2==1) (cU P 48 (#[vp (some p),vi 0]) I6 ((ka b 0 0 (⟨#[]⟩:Bs) 0 0 0 0 0 (⟨#[]⟩:Bs) none 0 0 0 0 0 0 0 0 (⟨#[]⟩:Bs) none 0 0 0 0 0 0 0 0 (⟨#[]⟩:Bs) none 0 0 0 0 0 0 0 0 (⟨#[]⟩:Bs) none 0 0 0 0)::(ka ab 1 2 (⟨#[]⟩:Bs) q s t u v w e f g x h i j k l n a c d o 0 0 0 0 0 (⟨#[]⟩:Bs) none 0 0 0 0 0 0 0 0 (⟨#[]⟩:Bs) none 0 0 0 r)::(((ak.add 3).block,Obj.cells (cY (ak.add 3).off [vi (wr (m+1))] cs).toArray el (0,0))::F7)) fun e7 I8 G7=>∃(ac ae af ag ah:Int) (ai:Bs) (y:OA) (z aa:Nat) (aj:Int),e7=.returned (nV ac ae af ag ah ai y z aa aj)∧∃F8:cR,List.Perm G7 ((ka b 0 0 (⟨#[]⟩:Bs) 0 0 0 0 0 (⟨#[]⟩:Bs) none 0 0 0 0 0 0 0 0 (⟨#[]⟩:Bs) none 0 0 0 0 0 0 0 0 (⟨#[]⟩:Bs) none 0 0 0 0 0 0 0 0 (⟨#[]⟩:Bs) none 0 0 0 0)::(ka ab 1 2 (⟨#[]⟩:Bs) q s t u v w e f g x h i j k l n a c d o 0 0 0 0 0 (⟨#[]⟩:Bs) none 0 0 0 0 0 0 0 0 (⟨#[]⟩:Bs) none 0 0 0 r)::F8)∧∀(b2:Nat) (I9:cS),cS.le I8 I9→I9 b2=some (Obj.cells #[vs (⟨#[108,105,109,105,116]⟩:Bs),vs (⟨#[105,111,99]⟩:Bs),vs (⟨#[102,111,107]⟩:Bs),vs (⟨#[112,111,115,116]⟩:Bs)] 9 (0,0))→dR P 108 (#[vp (some p),vl (some ⟨b2,0,none⟩) 4 4]) I9 ((ka b 0 0 (⟨#[]⟩:Bs) 0 0 0 0 0 (⟨#[]⟩:Bs) none 0 0 0 0 0 0 0 0 (⟨#[]⟩:Bs) none 0 0 0 0 0 0 0 0 (⟨#[]⟩:Bs) none 0 0 0 0 0 0 0 0 (⟨#[]⟩:Bs) none 0 0 0 0)::(ka ab 1 2 (⟨#[]⟩:Bs) q s t u v w e f g x h i j k l n a c d o ac ae af ag ah ai y z aa aj 0 0 0 0 0 (⟨#[]⟩:Bs) none 0 0 0 r)::·) F8 vi fun r3 I10 F9=>(Dt (r3<0) (eM P 81 (#[vp (some p),vi 130]) I10 ((ka b 0 0 (⟨#[]⟩:Bs) 0 0 0 0 0 (⟨#[]⟩:Bs) none 0 0 0 0 0 0 0 0 (⟨#[]⟩:Bs) none 0 0 0 0 0 0 0 0 (⟨#[]⟩:Bs) none 0 0 0 0 0 0 0 0 (⟨#[]⟩:Bs) none 0 0 0 0)::(ka ab 1 2 (⟨#[]⟩:Bs) q s t u v w e f g x h i j k l n a c d o ac ae af ag ah ai y z aa aj 0 0 0 0 0 (⟨#[]⟩:Bs) none 0 0 0 r)::·) F9 fun e9 I11 G9=>e9=.returned (.tuple #[])∧G9 fun F10=>Q (.returned ((kb 1 2 (⟨#[]⟩:Bs) q s t u v w e f g x h i j k l n a c d o ac ae af ag ah ai y z aa aj 0 0 0 0 0 (⟨#[]⟩:Bs) none 0 0 0 r))) I11 F10) (∃aw:Addr,some p=some aw∧∃(m1:Int),Rd I10 ((ka b 0 0 (⟨#[]⟩:Bs) 0 0 0 0 0 (⟨#[]⟩:Bs) none 0 0 0 0 0 0 0 0 (⟨#[]⟩:Bs) none 0 0 0 0 0 0 0 0 (⟨#[]⟩:Bs) none 0 0 0 0 0 0 0 0 (⟨#[]⟩:Bs) none 0 0 0 0)::(ka ab 1 2 (⟨#[]⟩:Bs) q s t u v w e f g x h i j k l n a c d o ac ae af ag ah ai y z aa aj 0 0 0 0 0 (⟨#[]⟩:Bs) none 0 0 0 r)::F9) (aw.add 3) [vi m1]∧∃al:Addr,some p=some al∧∃(ao:List Value) (ap:Nat) (F11:cR),List.Perm F9 (((al.add 3).block,Obj.cells ao.toArray ap (0,0))::F11)∧(al.add 3).spot=none∧(al.add 3).off+1≤ao.length∧∀(b3:Nat) (I12:cS),cS.le I10 I12→I12 b3=some (Obj.cells #[vb 1,vb 3,vb 4,vb 5] 112 (0,0))→((0≤r3∧r3<(4:Int))∧∃ax:Addr,some ⟨b3,0,none⟩=some ax∧∃(m2:Int),Rd I12 ((ka b 0 0 (⟨#[]⟩:Bs) 0 0 0 0 0 (⟨#[]⟩:Bs) none 0 0 0 0 0 0 0 0 (⟨#[]⟩:Bs) none 0 0 0 0 0 0 0 0 (⟨#[]⟩:Bs) none 0 0 0 0 0 0 0 0 (⟨#[]⟩:Bs) none 0 0 0 0)::(ka ab 1 2 (⟨#[]⟩:Bs) q s t u v w e f g x h i j k l n a c d o ac ae af ag ah ai y z aa aj 0 0 0 0 0 (⟨#[]⟩:Bs) none 0 0 0 r)::(((al.add 3).block,Obj.cells (cY (al.add 3).off [vi (wr (m1+1))] ao).toArray ap (0,0))::F11)) (ax.add (Int.toNat r3*1)) [vb m2]∧cU P 76 (#[vp (some p),vs (⟨#[97,115]⟩:Bs)]) I12 ((ka b 0 0 (⟨#[]⟩:Bs) 0 0 0 0 0 (⟨#[]⟩:Bs) none 0 0 0 0 0 0 0 0 (⟨#[]⟩:Bs) none 0 0 0 0 0 0 0 0 (⟨#[]⟩:Bs) none 0 0 0 0 0 0 0 0 (⟨#[]⟩:Bs) none 0 0 0 0)::(ka ab 1 m2 (⟨#[]⟩:Bs) q s t u v w e f g x h i j k l n a c d o ac ae af ag ah ai y z aa aj 0 0 0 0 0 (⟨#[]⟩:Bs) none 0 0 0 r)::(((al.add 3).block,Obj.cells (cY (al.add 3).off [vi (wr (m1+1))] ao).toArray ap (0,0))::F11)) fun aA I13 G10=>∃(r4:Bool),aA=.returned (.bool r4)∧∃F12:cR,List.Perm G10 ((ka b 0 0 (⟨#[]⟩:Bs) 0 0 0 0 0 (⟨#[]⟩:Bs) none 0 0 0 0 0 0 0 0 (⟨#[]⟩:Bs) none 0 0 0 0 0 0 0 0 (⟨#[]⟩:Bs) none 0 0 0 0 0 0 0 0 (⟨#[]⟩:Bs) none 0 0 0 0)::(ka ab 1 m2 (⟨#[]⟩:Bs) q s t u v w e f g x h i j k l n a c d o ac ae af ag ah ai y z aa aj 0 0 0 0 0 (⟨#[]⟩:Bs) none 0 0 0 r)::F12)∧(It r4 (∃ay:Addr,some p=some ay∧∃(m3:Int),Rd I13 ((ka b 0 0 (⟨#[]⟩:Bs) 0 0 0 0 0 (⟨#[]⟩:Bs) none 0 0 0 0 0 0 0 0 (⟨#[]⟩:Bs) none 0 0 0 0 0 0 0 0 (⟨#[]⟩:Bs) none 0 0 0 0 0 0 0 0 (⟨#[]⟩:Bs) none 0 0 0 0)::(ka ab 1 m2 (⟨#[]⟩:Bs) q s t u v w e f g x h i j k l n a c d o ac ae af ag ah ai y z aa aj 0 0 0 0 0 (⟨#[]⟩:Bs) none 0 0 0 r)::F12) (ay.add 3) [vi m3]∧∃am:Addr,some p=some am∧∃(aq:List Value) (au:Nat) (F13:cR),List.Perm F12 (((am.add 3).block,Obj.cells aq.toArray au (0,0))::F13)∧(am.add 3).spot=none∧(am.add 3).off+1≤aq.length∧cU P 75 (#[vp (some p)]) I13 ((ka b 0 0 (⟨#[]⟩:Bs) 0 0 0 0 0 (⟨#[]⟩:Bs) none 0 0 0 0 0 0 0 0 (⟨#[]⟩:Bs) none 0 0 0 0 0 0 0 0 (⟨#[]⟩:Bs) none 0 0 0 0 0 0 0 0 (⟨#[]⟩:Bs) none 0 0 0 0)::(ka ab 1 m2 (⟨#[]⟩:Bs) q s t u v w e f g x h i j k l n a c d o ac ae af ag ah ai y z aa aj 0 0 0 0 0 (⟨#[]⟩:Bs) none 0 0 0 r)::(((am.add 3).block,Obj.cells (cY (am.add 3).off [vi (wr (m3+1))] aq).toArray au (0,0))::F13)) fun aB I14 G11=>∃(r5:Bs),aB=.returned (vs r5)∧∃F14:cR,List.Perm G11 ((ka b 0 0 (⟨#[]⟩:Bs) 0 0 0 0 0 (⟨#[]⟩:Bs) none 0 0 0 0 0 0 0 0 (⟨#[]⟩:Bs) none 0 0 0 0 0 0 0 0 (⟨#[]⟩:Bs) none 0 0 0 0 0 0 0 0 (⟨#[]⟩:Bs) none 0 0 0 0)::(ka ab 1 m2 (⟨#[]⟩:Bs) q s t u v w e f g x h i j k l n a c d o ac ae af ag ah ai y z aa aj 0 0 0 0 0 (⟨#[]⟩:Bs) none 0 0 0 r)::F14)∧Q (.returned ((kb 1 m2 r5 q s t u v w e f g x h i j k l n a c d o ac ae af ag ah ai y z aa aj 0 0 0 0 0 (⟨#[]⟩:Bs) none 0 0 0 r))) I14 F14) (Q (.returned ((kb 1 m2 (⟨#[]⟩:Bs) q s t u v w e f g x h i j k l n a c d o ac ae af ag ah ai y z aa aj 0 0 0 0 0 (⟨#[]⟩:Bs) none 0 0 0 r))) I13 F12)))))) (cU P 76 (#[vp (some p),vs (⟨#[97,115]⟩:Bs)]) I6 ((ka b 0 0 (⟨#[]⟩:Bs) 0 0 0 0 0 (⟨#[]⟩:Bs) none 0 0 0 0 0 0 0 0 (⟨#[]⟩:Bs) none 0 0 0 0 0 0 0 0 (⟨#[]⟩:Bs) none 0 0 0 0 0 0 0 0 (⟨#[]⟩:Bs) none 0 0 0 0)::(ka ab 1 2 (⟨#[]⟩:Bs) q s t u v w e f g x h i j k l n a c d o 0 0 0 0 0 (⟨#[]⟩:Bs) none 0 0 0 0 0 0 0 0 (⟨#[]⟩:Bs) none 0 0 0 r)::(((ak.add 3).block,Obj.cells (cY (ak.add 3).off [vi (wr (m+1))] cs).toArray el (0,0))::F7)) fun aC I15 G12=>∃(r6:Bool),aC=.returned (.bool r6)∧∃F15:cR,List.Perm G12 ((ka b 0 0 (⟨#[]⟩:Bs) 0 0 0 0 0 (⟨#[]⟩:Bs) none 0 0 0 0 0 0 0 0 (⟨#[]⟩:Bs) none 0 0 0 0 0 0 0 0 (⟨#[]⟩:Bs) none 0 0 0 0 0 0 0 0 (⟨#[]⟩:Bs) none 0 0 0 0)::(ka ab 1 2 (⟨#[]⟩:Bs) q s t u v w e f g x h i j k l n a c d o 0 0 0 0 0 (⟨#[]⟩:Bs) none 0 0 0 0 0 0 0 0 (⟨#[]⟩:Bs) none 0 0 0 r)::F15)∧(It r6 (∃az:Addr,some p=some az∧∃(m4:Int),Rd I15 ((ka b 0 0 (⟨#[]⟩:Bs) 0 0 0 0 0 (⟨#[]⟩:Bs) none 0 0 0 0 0 0 0 0 (⟨#[]⟩:Bs) none 0 0 0 0 0 0 0 0 (⟨#[]⟩:Bs) none 0 0 0 0 0 0 0 0 (⟨#[]⟩:Bs) none 0 0 0 0)::(ka ab 1 2 (⟨#[]⟩:Bs) q s t u v w e f g x h i j k l n a c d o 0 0 0 0 0 (⟨#[]⟩:Bs) none 0 0 0 0 0 0 0 0 (⟨#[]⟩:Bs) none 0 0 0 r)::F15) (az.add 3) [vi m4]∧∃an:Addr,some p=some an∧∃(ar:List Value) (av:Nat) (F16:cR),List.Perm F15 (((an.add 3).block,Obj.cells ar.toArray av (0,0))::F16)∧(an.add 3).spot=none∧(an.add 3).off+1≤ar.length∧cU P 75 (#[vp (some p)]) I15 ((ka b 0 0 (⟨#[]⟩:Bs) 0 0 0 0 0 (⟨#[]⟩:Bs) none 0 0 0 0 0 0 0 0 (⟨#[]⟩:Bs) none 0 0 0 0 0 0 0 0 (⟨#[]⟩:Bs) none 0 0 0 0 0 0 0 0 (⟨#[]⟩:Bs) none 0 0 0 0)::(ka ab 1 2 (⟨#[]⟩:Bs) q s t u v w e f g x h i j k l n a c d o 0 0 0 0 0 (⟨#[]⟩:Bs) none 0 0 0 0 0 0 0 0 (⟨#[]⟩:Bs) none 0 0 0 r)::(((an.add 3).block,Obj.cells (cY (an.add 3).off [vi (wr (m4+1))] ar).toArray av (0,0))::F16)) fun aD I16 G13=>∃(r7:Bs),aD=.returned (vs r7)∧∃F17:cR,List.Perm G13 ((ka b 0 0 (⟨#[]⟩:Bs) 0 0 0 0 0 (⟨#[]⟩:Bs) none 0 0 0 0 0 0 0 0 (⟨#[]⟩:Bs) none 0 0 0 0 0 0 0 0 (⟨#[]⟩:Bs) none 0 0 0 0 0 0 0 0 (⟨#[]⟩:Bs) none 0 0 0 0)::(ka ab 1 2 (⟨#[]⟩:Bs) q s t u v w e f g x h i j k l n a c d o 0 0 0 0 0 (⟨#[]⟩:Bs) none 0 0 0 0 0 0 0 0 (⟨#[]⟩:Bs) none 0 0 0 r)::F17)∧Q (.returned ((kb 1 2 r7 q s t u v w e f g x h i j k l n a c d o 0 0 0 0 0 (⟨#[]⟩:Bs) none 0 0 0 0 0 0 0 0 (⟨#[]⟩:Bs) none 0 0 0 r))) I16 F17) (Q (.returned ((kb 1 2 (⟨#[]⟩:Bs) q s t u v w e f g x h i j k l n a c d o 0 0 0 0 0 (⟨#[]⟩:Bs) none 0 0 0 0 0 0 0 0 (⟨#[]⟩:Bs) none 0 0 0 r))) I15 F15))))))
theorem fg.vc{p:Addr}{I:cS}{F:cR}{Q:cT}  (h:fg.V (fun W a b c d e f g h i j k l m n o p q r s t u v w x y z aa ab ac ad ae af ag ah ai aj ak al am an ao ap aq ar=>(W,Obj.cells #[.int .u8 a,.int .u8 b,.string c,.int .u8 d,.int .u8 e,.int .u8 f,.int .i64 g,.int .u8 h,.string i,.slice j k l,.int .i64 m,.int .u8 n,.int .u8 o,.int .u8 p,.int .i64 q,.int .u8 r,.string s,.slice t u v,.int .i64 w,.int .u8 x,.int .u8 y,.int .u8 z,.int .i64 aa,.int .u8 ab,.string ac,.slice ad ae af,.int .i64 ag,.int .u8 ah,.int .u8 ai,.int .u8 aj,.int .i64 ak,.int .u8 al,.string am,.slice an ao ap,.int .i64 aq,.int .i64 ar] 114 (0,0))) (fun a b c d e f g h i j k l m n o p q r s t u v w x y z aa ab ac ad ae af ag ah ai aj ak al am an ao ap aq ar=>.agg #[.int .u8 a,.int .u8 b,.string c,.int .u8 d,.int .u8 e,.int .u8 f,.int .i64 g,.int .u8 h,.string i,.slice j k l,.int .i64 m,.int .u8 n,.int .u8 o,.int .u8 p,.int .i64 q,.int .u8 r,.string s,.slice t u v,.int .i64 w,.int .u8 x,.int .u8 y,.int .u8 z,.int .i64 aa,.int .u8 ab,.string ac,.slice ad ae af,.int .i64 ag,.int .u8 ah,.int .u8 ai,.int .u8 aj,.int .i64 ak,.int .u8 al,.string am,.slice an ao ap,.int .i64 aq,.int .i64 ar]) (fun k o t n f s a l c q=>.agg #[.int .u8 k,.int .u8 o,.int .u8 t,.int .i64 n,.int .u8 f,.string s,.slice a l c,.int .i64 q]) (.int .u8) (.int .i64) .string .slice .pointer (IntKind.wrap .i64) p I F Q):cU P 142 #[.pointer (some p)] I F Q :=
 tw (A:=(dv [6001,11001,14001,20000] [] [48,74,75,76,81,108] lM [] [5001,13001,18000] [] [] [] [] [])) [48,74,75,76,81,108] func142 h
def ia.V(ka:Nat→Int→Int→Bs→Int→Int→Int→Int→Int→Bs→OA→Nat→Nat→Int→Int→Int→Int→Int→Int→Bs→OA→Nat→Nat→Int→Int→Int→Int→Int→Int→Bs→OA→Nat→Nat→Int→Int→Int→Int→Int→Int→Bs→OA→Nat→Nat→Int→Int→Nat×Obj)(kb:Int→Int→Bs→Int→Int→Int→Int→Int→Bs→OA→Nat→Nat→Int→Int→Int→Int→Int→Int→Bs→OA→Nat→Nat→Int→Int→Int→Int→Int→Int→Bs→OA→Nat→Nat→Int→Int→Int→Int→Int→Int→Bs→OA→Nat→Nat→Int→Int→Value)(nV:Int→Int→Int→Int→Int→Bs→OA→Nat→Nat→Int→Value)(vb vi:Int→Value)(vs:Bs→Value)(vl:OA→Nat→Nat→Value)(vp:OA→Value)(wr:Int→Int)(p:Addr)(I:cS)(F:cR)(Q:cT)  : Prop:=∀b:Nat,eM P 95 (#[vp (some p)]) I ((ka b 0 0 (⟨#[]⟩:Bs) 0 0 0 0 0 (⟨#[]⟩:Bs) none 0 0 0 0 0 0 0 0 (⟨#[]⟩:Bs) none 0 0 0 0 0 0 0 0 (⟨#[]⟩:Bs) none 0 0 0 0 0 0 0 0 (⟨#[]⟩:Bs) none 0 0 0 0)::·) F fun e1 I1 G1=>∃(bV:Int) (bW:Bs) (bX bY a:Int),e1=.returned (.agg #[vb bV,vs bW,vb bX,vi bY,vi a])∧G1 fun F1=>∀(b1:Nat) (I2:cS),cS.le I1 I2→I2 b1=some (Obj.cells #[vs (⟨#[115,117,98,109,105,116]⟩:Bs),vs (⟨#[97,109,101,110,100]⟩:Bs),vs (⟨#[99,97,110,99,101,108]⟩:Bs),vs (⟨#[115,101,116]⟩:Bs),vs (⟨#[103,111,116,111]⟩:Bs),vs (⟨#[104,97,108,116]⟩:Bs)] 9 (0,0))→dR P 108 (#[vp (some p),vl (some ⟨b1,0,none⟩) 6 6]) I2 ((ka b 0 0 (⟨#[]⟩:Bs) 0 0 0 0 0 (⟨#[]⟩:Bs) none 0 0 0 0 0 0 0 0 (⟨#[]⟩:Bs) none 0 0 0 0 0 0 0 0 (⟨#[]⟩:Bs) none 0 0 0 0 0 0 0 0 (⟨#[]⟩:Bs) none 0 0 0 0)::·) F1 vi fun r I3 F2=>(Dt (r<0) (eM P 81 (#[vp (some p),vi 130]) I3 ((ka b 0 0 (⟨#[]⟩:Bs) 0 0 0 0 0 (⟨#[]⟩:Bs) none 0 0 0 0 0 0 0 0 (⟨#[]⟩:Bs) none 0 0 0 0 0 0 0 0 (⟨#[]⟩:Bs) none 0 0 0 0 0 0 0 0 (⟨#[]⟩:Bs) none 0 0 0 0)::·) F2 fun e3 I4 G3=>e3=.returned (.tuple #[])∧G3 fun F3=>Q (.returned ((kb 0 0 (⟨#[]⟩:Bs) 0 0 0 0 0 (⟨#[]⟩:Bs) none 0 0 0 0 0 0 0 0 (⟨#[]⟩:Bs) none 0 0 0 0 0 0 0 0 (⟨#[]⟩:Bs) none 0 0 0 0 0 0 0 0 (⟨#[]⟩:Bs) none 0 0 0 0))) I4 F3) (It (r==0) (eM P 142 (#[vp (some p)]) I3 ((ka b 0 0 (⟨#[]⟩:Bs) 0 0 0 0 0 (⟨#[]⟩:Bs) none 0 0 0 0 0 0 0 0 (⟨#[]⟩:Bs) none 0 0 0 0 0 0 0 0 (⟨#[]⟩:Bs) none 0 0 0 0 0 0 0 0 (⟨#[]⟩:Bs) none 0 0 0 0)::·) F2 fun e4 I5 G4=>∃(a9 ba:Int) (bb:Bs) (bc bd bR bS bT:Int) (bU:Bs) (aT:OA) (aU aV:Nat) (be aW bf bg bh bi:Int) (bj:Bs) (ay:OA) (az aA:Nat) (bk bl bm aX bn bo:Int) (bp:Bs) (aB:OA) (aC aD:Nat) (bq br bs bt bu aY:Int) (bv:Bs) (aE:OA) (aF aG:Nat) (bw bx:Int),e4=.returned ((kb a9 ba bb bc bd bR bS bT bU aT aU aV be aW bf bg bh bi bj ay az aA bk bl bm aX bn bo bp aB aC aD bq br bs bt bu aY bv aE aF aG bw bx))∧G4 fun F4=>Q (.returned ((kb a9 ba bb bc bd bR bS bT bU aT aU aV be aW bf bg bh bi bj ay az aA bk bl bm aX bn bo bp aB aC aD bq br bs bt bu aY bv aE aF aG bw bx))) I5 F4) (∃ad:Addr,some p=some ad∧∃(m:Int),Rd I3 ((ka b 0 0 (⟨#[]⟩:Bs) 0 0 0 0 0 (⟨#[]⟩:Bs) none 0 0 0 0 0 0 0 0 (⟨#[]⟩:Bs) none 0 0 0 0 0 0 0 0 (⟨#[]⟩:Bs) none 0 0 0 0 0 0 0 0 (⟨#[]⟩:Bs) none 0 0 0 0)::F2) (ad.add 3) [vi m]∧∃am:Addr,some p=some am∧∃(cs:List Value) (el:Nat) (F5:cR),List.Perm F2 (((am.add 3).block,Obj.cells cs.toArray el (0,0))::F5)∧(am.add 3).spot=none∧(am.add 3).off+1≤cs.length∧∀c:Nat,(It ((IntKind.wrap .u8 (1+(IntKind.wrap .u8 r)))!=6) (cU P 75 (#[vp (some p)]) I3 ((ka b 0 0 (⟨#[]⟩:Bs) 0 0 0 0 0 (⟨#[]⟩:Bs) none 0 0 0 0 0 0 0 0 (⟨#[]⟩:Bs) none 0 0 0 0 0 0 0 0 (⟨#[]⟩:Bs) none 0 0 0 0 0 0 0 0 (⟨#[]⟩:Bs) none 0 0 0 0)::(ka c (IntKind.wrap .u8 (1+(IntKind.wrap .u8 r))) 0 (⟨#[]⟩:Bs) 0 0 0 0 0 (⟨#[]⟩:Bs) none 0 0 0 0 0 0 0 0 (⟨#[]⟩:Bs) none 0 0 0 0 0 0 0 0 (⟨#[]⟩:Bs) none 0 0 0 0 0 0 0 0 (⟨#[]⟩:Bs) none 0 0 0 a)::(((am.add 3).block,Obj.cells (cY (am.add 3).off [vi (wr (m+1))] cs).toArray el (0,0))::F5)) fun e5 I6 G5=>∃(r1:Bs),e5=.returned (vs r1)∧∃F6:cR,List.Perm G5 ((ka b 0 0 (⟨#[]⟩:Bs) 0 0 0 0 0 (⟨#[]⟩:Bs) none 0 0 0 0 0 0 0 0 (⟨#[]⟩:Bs) none 0 0 0 0 0 0 0 0 (⟨#[]⟩:Bs) none 0 0 0 0 0 0 0 0 (⟨#[]⟩:Bs) none 0 0 0 0)::(ka c (IntKind.wrap .u8 (1+(IntKind.wrap .u8 r))) 0 (⟨#[]⟩:Bs) 0 0 0 0 0 (⟨#[]⟩:Bs) none 0 0 0 0 0 0 0 0 (⟨#[]⟩:Bs) none 0 0 0 0 0 0 0 0 (⟨#[]⟩:Bs) none 0 0 0 0 0 0 0 0 (⟨#[]⟩:Bs) none 0 0 0 a)::F6)∧(It ((IntKind.wrap .u8 (1+(IntKind.wrap .u8 r)))==2) (dR P 74 (#[vp (some p),vs (⟨#[116,111]⟩:Bs)]) I6 ((ka b 0 0 (⟨#[]⟩:Bs) 0 0 0 0 0 (⟨#[]⟩:Bs) none 0 0 0 0 0 0 0 0 (⟨#[]⟩:Bs) none 0 0 0 0 0 0 0 0 (⟨#[]⟩:Bs) none 0 0 0 0 0 0 0 0 (⟨#[]⟩:Bs) none 0 0 0 0)::(ka c (IntKind.wrap .u8 (1+(IntKind.wrap .u8 r))) 0 r1 0 0 0 0 0 (⟨#[]⟩:Bs) none 0 0 0 0 0 0 0 0 (⟨#[]⟩:Bs) none 0 0 0 0 0 0 0 0 (⟨#[]⟩:Bs) none 0 0 0 0 0 0 0 0 (⟨#[]⟩:Bs) none 0 0 0 a)::·) F6 vi fun r2 I7 F7=>eM P 48 (#[vp (some p),vi 0]) I7 ((ka b 0 0 (⟨#[]⟩:Bs) 0 0 0 0 0 (⟨#[]⟩:Bs) none 0 0 0 0 0 0 0 0 (⟨#[]⟩:Bs) none 0 0 0 0 0 0 0 0 (⟨#[]⟩:Bs) none 0 0 0 0 0 0 0 0 (⟨#[]⟩:Bs) none 0 0 0 0)::(ka c (IntKind.wrap .u8 (1+(IntKind.wrap .u8 r))) 0 r1 0 0 0 0 0 (⟨#[]⟩:Bs) none 0 0 0 0 0 0 0 0 (⟨#[]⟩:Bs) none 0 0 0 0 0 0 0 0 (⟨#[]⟩:Bs) none 0 0 0 0 0 0 0 0 (⟨#[]⟩:Bs) none 0 0 0 a)::·) F7 fun e7 I8 G7=>∃(l n o q s:Int) (t:Bs) (g:OA) (h i:Nat) (u:Int),e7=.returned (nV l n o q s t g h i u)∧G7 fun F8=>dR P 74 (#[vp (some p),vs (⟨#[97,116]⟩:Bs)]) I8 ((ka b 0 0 (⟨#[]⟩:Bs) 0 0 0 0 0 (⟨#[]⟩:Bs) none 0 0 0 0 0 0 0 0 (⟨#[]⟩:Bs) none 0 0 0 0 0 0 0 0 (⟨#[]⟩:Bs) none 0 0 0 0 0 0 0 0 (⟨#[]⟩:Bs) none 0 0 0 0)::(ka c (IntKind.wrap .u8 (1+(IntKind.wrap .u8 r))) 0 r1 0 0 0 0 0 (⟨#[]⟩:Bs) none 0 0 0 l n o q s t g h i u 0 0 0 0 0 (⟨#[]⟩:Bs) none 0 0 0 0 0 0 0 0 (⟨#[]⟩:Bs) none 0 0 0 a)::·) F8 vi fun r3 I9 F9=>eM P 48 (#[vp (some p),vi 0]) I9 ((ka b 0 0 (⟨#[]⟩:Bs) 0 0 0 0 0 (⟨#[]⟩:Bs) none 0 0 0 0 0 0 0 0 (⟨#[]⟩:Bs) none 0 0 0 0 0 0 0 0 (⟨#[]⟩:Bs) none 0 0 0 0 0 0 0 0 (⟨#[]⟩:Bs) none 0 0 0 0)::(ka c (IntKind.wrap .u8 (1+(IntKind.wrap .u8 r))) 0 r1 0 0 0 0 0 (⟨#[]⟩:Bs) none 0 0 0 l n o q s t g h i u 0 0 0 0 0 (⟨#[]⟩:Bs) none 0 0 0 0 0 0 0 0 (⟨#[]⟩:Bs) none 0 0 0 a)::·) F9 fun e9 I10 G9=>∃(an ah ai ao ap:Int) (aq:Bs) (v:OA) (w x:Nat) (ar:Int),e9=.returned (nV an ah ai ao ap aq v w x ar)∧G9 fun F10=>(It ((IntKind.wrap .u8 (1+(IntKind.wrap .u8 r)))==4) (dR P 74 (#[vp (some p),vs (⟨#[61]⟩:Bs)]) I10 ((ka b 0 0 (⟨#[]⟩:Bs) 0 0 0 0 0 (⟨#[]⟩:Bs) none 0 0 0 0 0 0 0 0 (⟨#[]⟩:Bs) none 0 0 0 0 0 0 0 0 (⟨#[]⟩:Bs) none 0 0 0 0 0 0 0 0 (⟨#[]⟩:Bs) none 0 0 0 0)::(ka c (IntKind.wrap .u8 (1+(IntKind.wrap .u8 r))) 0 r1 0 0 0 0 0 (⟨#[]⟩:Bs) none 0 0 0 l n o q s t g h i u an ah ai ao ap aq v w x ar 0 0 0 0 0 (⟨#[]⟩:Bs) none 0 0 0 a)::·) F10 vi fun r4 I11 F11=>eM P 48 (#[vp (some p),vi 0]) I11 ((ka b 0 0 (⟨#[]⟩:Bs) 0 0 0 0 0 (⟨#[]⟩:Bs) none 0 0 0 0 0 0 0 0 (⟨#[]⟩:Bs) none 0 0 0 0 0 0 0 0 (⟨#[]⟩:Bs) none 0 0 0 0 0 0 0 0 (⟨#[]⟩:Bs) none 0 0 0 0)::(ka c (IntKind.wrap .u8 (1+(IntKind.wrap .u8 r))) 0 r1 0 0 0 0 0 (⟨#[]⟩:Bs) none 0 0 0 l n o q s t g h i u an ah ai ao ap aq v w x ar 0 0 0 0 0 (⟨#[]⟩:Bs) none 0 0 0 a)::·) F11 fun b0 I12 G11=>∃(bz aZ a0 bA bB:Int) (bC:Bs) (aH:OA) (aI aJ:Nat) (bD:Int),b0=.returned (nV bz aZ a0 bA bB bC aH aI aJ bD)∧G11 fun F12=>Q (.returned ((kb (IntKind.wrap .u8 (1+(IntKind.wrap .u8 r))) 0 r1 0 0 0 0 0 (⟨#[]⟩:Bs) none 0 0 0 l n o q s t g h i u an ah ai ao ap aq v w x ar bz aZ a0 bA bB bC aH aI aJ bD a))) I12 F12) (Q (.returned ((kb (IntKind.wrap .u8 (1+(IntKind.wrap .u8 r))) 0 r1 0 0 0 0 0 (⟨#[]⟩:Bs) none 0 0 0 l n o q s t g h i u an ah ai ao ap aq v w x ar 0 0 0 0 0 (⟨#[]⟩:Bs) none 0 0 0 a))) I10 F10))) (It ((IntKind.wrap .u8 (1+(IntKind.wrap .u8 r)))==4) (dR P 74 (#[vp (some p),vs (⟨#[61]⟩:Bs)]) I6 ((ka b 0 0 (⟨#[]⟩:Bs) 0 0 0 0 0 (⟨#[]⟩:Bs) none 0 0 0 0 0 0 0 0 (⟨#[]⟩:Bs) none 0 0 0 0 0 0 0 0 (⟨#[]⟩:Bs) none 0 0 0 0 0 0 0 0 (⟨#[]⟩:Bs) none 0 0 0 0)::(ka c (IntKind.wrap .u8 (1+(IntKind.wrap .u8 r))) 0 r1 0 0 0 0 0 (⟨#[]⟩:Bs) none 0 0 0 0 0 0 0 0 (⟨#[]⟩:Bs) none 0 0 0 0 0 0 0 0 (⟨#[]⟩:Bs) none 0 0 0 0 0 0 0 0 (⟨#[]⟩:Bs) none 0 0 0 a)::·) F6 vi fun r5 I13 F13=>eM P 48 (#[vp (some p),vi 0]) I13 ((ka b 0 0 (⟨#[]⟩:Bs) 0 0 0 0 0 (⟨#[]⟩:Bs) none 0 0 0 0 0 0 0 0 (⟨#[]⟩:Bs) none 0 0 0 0 0 0 0 0 (⟨#[]⟩:Bs) none 0 0 0 0 0 0 0 0 (⟨#[]⟩:Bs) none 0 0 0 0)::(ka c (IntKind.wrap .u8 (1+(IntKind.wrap .u8 r))) 0 r1 0 0 0 0 0 (⟨#[]⟩:Bs) none 0 0 0 0 0 0 0 0 (⟨#[]⟩:Bs) none 0 0 0 0 0 0 0 0 (⟨#[]⟩:Bs) none 0 0 0 0 0 0 0 0 (⟨#[]⟩:Bs) none 0 0 0 a)::·) F13 fun b3 I14 G13=>∃(bE a1 a2 bF bG:Int) (bH:Bs) (aK:OA) (aL aM:Nat) (bI:Int),b3=.returned (nV bE a1 a2 bF bG bH aK aL aM bI)∧G13 fun F14=>Q (.returned ((kb (IntKind.wrap .u8 (1+(IntKind.wrap .u8 r))) 0 r1 0 0 0 0 0 (⟨#[]⟩:Bs) none 0 0 0 0 0 0 0 0 (⟨#[]⟩:Bs) none 0 0 0 0 0 0 0 0 (⟨#[]⟩:Bs) none 0 0 0 bE a1 a2 bF bG bH aK aL aM bI a))) I14 F14) (Q (.returned ((kb (IntKind.wrap .u8 (1+(IntKind.wrap .u8 r))) 0 r1 0 0 0 0 0 (⟨#[]⟩:Bs) none 0 0 0 0 0 0 0 0 (⟨#[]⟩:Bs) none 0 0 0 0 0 0 0 0 (⟨#[]⟩:Bs) none 0 0 0 0 0 0 0 0 (⟨#[]⟩:Bs) none 0 0 0 a))) I6 F6)))) (It ((IntKind.wrap .u8 (1+(IntKind.wrap .u8 r)))==2) (cU P 74 (#[vp (some p),vs (⟨#[116,111]⟩:Bs)]) I3 ((ka b 0 0 (⟨#[]⟩:Bs) 0 0 0 0 0 (⟨#[]⟩:Bs) none 0 0 0 0 0 0 0 0 (⟨#[]⟩:Bs) none 0 0 0 0 0 0 0 0 (⟨#[]⟩:Bs) none 0 0 0 0 0 0 0 0 (⟨#[]⟩:Bs) none 0 0 0 0)::(ka c (IntKind.wrap .u8 (1+(IntKind.wrap .u8 r))) 0 (⟨#[]⟩:Bs) 0 0 0 0 0 (⟨#[]⟩:Bs) none 0 0 0 0 0 0 0 0 (⟨#[]⟩:Bs) none 0 0 0 0 0 0 0 0 (⟨#[]⟩:Bs) none 0 0 0 0 0 0 0 0 (⟨#[]⟩:Bs) none 0 0 0 a)::(((am.add 3).block,Obj.cells (cY (am.add 3).off [vi (wr (m+1))] cs).toArray el (0,0))::F5)) fun b4 I15 G14=>∃(r6:Int),b4=.returned (vi r6)∧∃F15:cR,List.Perm G14 ((ka b 0 0 (⟨#[]⟩:Bs) 0 0 0 0 0 (⟨#[]⟩:Bs) none 0 0 0 0 0 0 0 0 (⟨#[]⟩:Bs) none 0 0 0 0 0 0 0 0 (⟨#[]⟩:Bs) none 0 0 0 0 0 0 0 0 (⟨#[]⟩:Bs) none 0 0 0 0)::(ka c (IntKind.wrap .u8 (1+(IntKind.wrap .u8 r))) 0 (⟨#[]⟩:Bs) 0 0 0 0 0 (⟨#[]⟩:Bs) none 0 0 0 0 0 0 0 0 (⟨#[]⟩:Bs) none 0 0 0 0 0 0 0 0 (⟨#[]⟩:Bs) none 0 0 0 0 0 0 0 0 (⟨#[]⟩:Bs) none 0 0 0 a)::F15)∧eM P 48 (#[vp (some p),vi 0]) I15 ((ka b 0 0 (⟨#[]⟩:Bs) 0 0 0 0 0 (⟨#[]⟩:Bs) none 0 0 0 0 0 0 0 0 (⟨#[]⟩:Bs) none 0 0 0 0 0 0 0 0 (⟨#[]⟩:Bs) none 0 0 0 0 0 0 0 0 (⟨#[]⟩:Bs) none 0 0 0 0)::(ka c (IntKind.wrap .u8 (1+(IntKind.wrap .u8 r))) 0 (⟨#[]⟩:Bs) 0 0 0 0 0 (⟨#[]⟩:Bs) none 0 0 0 0 0 0 0 0 (⟨#[]⟩:Bs) none 0 0 0 0 0 0 0 0 (⟨#[]⟩:Bs) none 0 0 0 0 0 0 0 0 (⟨#[]⟩:Bs) none 0 0 0 a)::·) F15 fun b5 I16 G15=>∃(y j k z aa:Int) (ab:Bs) (d:OA) (e f:Nat) (ac:Int),b5=.returned (nV y j k z aa ab d e f ac)∧G15 fun F16=>dR P 74 (#[vp (some p),vs (⟨#[97,116]⟩:Bs)]) I16 ((ka b 0 0 (⟨#[]⟩:Bs) 0 0 0 0 0 (⟨#[]⟩:Bs) none 0 0 0 0 0 0 0 0 (⟨#[]⟩:Bs) none 0 0 0 0 0 0 0 0 (⟨#[]⟩:Bs) none 0 0 0 0 0 0 0 0 (⟨#[]⟩:Bs) none 0 0 0 0)::(ka c (IntKind.wrap .u8 (1+(IntKind.wrap .u8 r))) 0 (⟨#[]⟩:Bs) 0 0 0 0 0 (⟨#[]⟩:Bs) none 0 0 0 y j k z aa ab d e f ac 0 0 0 0 0 (⟨#[]⟩:Bs) none 0 0 0 0 0 0 0 0 (⟨#[]⟩:Bs) none 0 0 0 a)::·) F16 vi fun r7 I17 F17=>eM P 48 (#[vp (some p),vi 0]) I17 ((ka b 0 0 (⟨#[]⟩:Bs) 0 0 0 0 0 (⟨#[]⟩:Bs) none 0 0 0 0 0 0 0 0 (⟨#[]⟩:Bs) none 0 0 0 0 0 0 0 0 (⟨#[]⟩:Bs) none 0 0 0 0 0 0 0 0 (⟨#[]⟩:Bs) none 0 0 0 0)::(ka c (IntKind.wrap .u8 (1+(IntKind.wrap .u8 r))) 0 (⟨#[]⟩:Bs) 0 0 0 0 0 (⟨#[]⟩:Bs) none 0 0 0 y j k z aa ab d e f ac 0 0 0 0 0 (⟨#[]⟩:Bs) none 0 0 0 0 0 0 0 0 (⟨#[]⟩:Bs) none 0 0 0 a)::·) F17 fun b7 I18 G17=>∃(au aj ak al av:Int) (aw:Bs) (ae:OA) (af ag:Nat) (ax:Int),b7=.returned (nV au aj ak al av aw ae af ag ax)∧G17 fun F18=>(It ((IntKind.wrap .u8 (1+(IntKind.wrap .u8 r)))==4) (dR P 74 (#[vp (some p),vs (⟨#[61]⟩:Bs)]) I18 ((ka b 0 0 (⟨#[]⟩:Bs) 0 0 0 0 0 (⟨#[]⟩:Bs) none 0 0 0 0 0 0 0 0 (⟨#[]⟩:Bs) none 0 0 0 0 0 0 0 0 (⟨#[]⟩:Bs) none 0 0 0 0 0 0 0 0 (⟨#[]⟩:Bs) none 0 0 0 0)::(ka c (IntKind.wrap .u8 (1+(IntKind.wrap .u8 r))) 0 (⟨#[]⟩:Bs) 0 0 0 0 0 (⟨#[]⟩:Bs) none 0 0 0 y j k z aa ab d e f ac au aj ak al av aw ae af ag ax 0 0 0 0 0 (⟨#[]⟩:Bs) none 0 0 0 a)::·) F18 vi fun r8 I19 F19=>eM P 48 (#[vp (some p),vi 0]) I19 ((ka b 0 0 (⟨#[]⟩:Bs) 0 0 0 0 0 (⟨#[]⟩:Bs) none 0 0 0 0 0 0 0 0 (⟨#[]⟩:Bs) none 0 0 0 0 0 0 0 0 (⟨#[]⟩:Bs) none 0 0 0 0 0 0 0 0 (⟨#[]⟩:Bs) none 0 0 0 0)::(ka c (IntKind.wrap .u8 (1+(IntKind.wrap .u8 r))) 0 (⟨#[]⟩:Bs) 0 0 0 0 0 (⟨#[]⟩:Bs) none 0 0 0 y j k z aa ab d e f ac au aj ak al av aw ae af ag ax 0 0 0 0 0 (⟨#[]⟩:Bs) none 0 0 0 a)::·) F19 fun b9 I20 G19=>∃(bJ a3 a4 a5 bK:Int) (bL:Bs) (aN:OA) (aO aP:Nat) (bM:Int),b9=.returned (nV bJ a3 a4 a5 bK bL aN aO aP bM)∧G19 fun F20=>Q (.returned ((kb (IntKind.wrap .u8 (1+(IntKind.wrap .u8 r))) 0 (⟨#[]⟩:Bs) 0 0 0 0 0 (⟨#[]⟩:Bs) none 0 0 0 y j k z aa ab d e f ac au aj ak al av aw ae af ag ax bJ a3 a4 a5 bK bL aN aO aP bM a))) I20 F20) (Q (.returned ((kb (IntKind.wrap .u8 (1+(IntKind.wrap .u8 r))) 0 (⟨#[]⟩:Bs) 0 0 0 0 0 (⟨#[]⟩:Bs) none 0 0 0 y j k z aa ab d e f ac au aj ak al av aw ae af ag ax 0 0 0 0 0 (⟨#[]⟩:Bs) none 0 0 0 a))) I18 F18))) (It ((IntKind.wrap .u8 (1+(IntKind.wrap .u8 r)))==4) (cU P 74 (#[vp (some p),vs (⟨#[61]⟩:Bs)]) I3 ((ka b 0 0 (⟨#[]⟩:Bs) 0 0 0 0 0 (⟨#[]⟩:Bs) none 0 0 0 0 0 0 0 0 (⟨#[]⟩:Bs) none 0 0 0 0 0 0 0 0 (⟨#[]⟩:Bs) none 0 0 0 0 0 0 0 0 (⟨#[]⟩:Bs) none 0 0 0 0)::(ka c (IntKind.wrap .u8 (1+(IntKind.wrap .u8 r))) 0 (⟨#[]⟩:Bs) 0 0 0 0 0 (⟨#[]⟩:Bs) none 0 0 0 0 0 0 0 0 (⟨#[]⟩:Bs) none 0 0 0 0 0 0 0 0 (⟨#[]⟩:Bs) none 0 0 0 0 0 0 0 0 (⟨#[]⟩:Bs) none 0 0 0 a)::(((am.add 3).block,Obj.cells (cY (am.add 3).off [vi (wr (m+1))] cs).toArray el (0,0))::F5)) fun ca I21 G20=>∃(r9:Int),ca=.returned (vi r9)∧∃F21:cR,List.Perm G20 ((ka b 0 0 (⟨#[]⟩:Bs) 0 0 0 0 0 (⟨#[]⟩:Bs) none 0 0 0 0 0 0 0 0 (⟨#[]⟩:Bs) none 0 0 0 0 0 0 0 0 (⟨#[]⟩:Bs) none 0 0 0 0 0 0 0 0 (⟨#[]⟩:Bs) none 0 0 0 0)::(ka c (IntKind.wrap .u8 (1+(IntKind.wrap .u8 r))) 0 (⟨#[]⟩:Bs) 0 0 0 0 0 (⟨#[]⟩:Bs) none 0 0 0 0 0 0 0 0 (⟨#[]⟩:Bs) none 0 0 0 0 0 0 0 0 (⟨#[]⟩:Bs) none 0 0 0 0 0 0 0 0 (⟨#[]⟩:Bs) none 0 0 0 a)::F21)∧eM P 48 (#[vp (some p),vi 0]) I21 ((ka b 0 0 (⟨#[]⟩:Bs) 0 0 0 0 0 (⟨#[]⟩:Bs) none 0 0 0 0 0 0 0 0 (⟨#[]⟩:Bs) none 0 0 0 0 0 0 0 0 (⟨#[]⟩:Bs) none 0 0 0 0 0 0 0 0 (⟨#[]⟩:Bs) none 0 0 0 0)::(ka c (IntKind.wrap .u8 (1+(IntKind.wrap .u8 r))) 0 (⟨#[]⟩:Bs) 0 0 0 0 0 (⟨#[]⟩:Bs) none 0 0 0 0 0 0 0 0 (⟨#[]⟩:Bs) none 0 0 0 0 0 0 0 0 (⟨#[]⟩:Bs) none 0 0 0 0 0 0 0 0 (⟨#[]⟩:Bs) none 0 0 0 a)::·) F21 fun cb I22 G21=>∃(bN a6 a7 a8 bO:Int) (bP:Bs) (aQ:OA) (aR aS:Nat) (bQ:Int),cb=.returned (nV bN a6 a7 a8 bO bP aQ aR aS bQ)∧G21 fun F22=>Q (.returned ((kb (IntKind.wrap .u8 (1+(IntKind.wrap .u8 r))) 0 (⟨#[]⟩:Bs) 0 0 0 0 0 (⟨#[]⟩:Bs) none 0 0 0 0 0 0 0 0 (⟨#[]⟩:Bs) none 0 0 0 0 0 0 0 0 (⟨#[]⟩:Bs) none 0 0 0 bN a6 a7 a8 bO bP aQ aR aS bQ a))) I22 F22) (Q (.returned ((kb (IntKind.wrap .u8 (1+(IntKind.wrap .u8 r))) 0 (⟨#[]⟩:Bs) 0 0 0 0 0 (⟨#[]⟩:Bs) none 0 0 0 0 0 0 0 0 (⟨#[]⟩:Bs) none 0 0 0 0 0 0 0 0 (⟨#[]⟩:Bs) none 0 0 0 0 0 0 0 0 (⟨#[]⟩:Bs) none 0 0 0 a))) I3 ((((am.add 3).block,Obj.cells (cY (am.add 3).off [vi (wr (m+1))] cs).toArray el (0,0))::F5)))))))))
theorem ia.vc{p:Addr}{I:cS}{F:cR}{Q:cT}  (h:ia.V (fun W a b c d e f g h i j k l m n o p q r s t u v w x y z aa ab ac ad ae af ag ah ai aj ak al am an ao ap aq ar=>(W,Obj.cells #[.int .u8 a,.int .u8 b,.string c,.int .u8 d,.int .u8 e,.int .u8 f,.int .i64 g,.int .u8 h,.string i,.slice j k l,.int .i64 m,.int .u8 n,.int .u8 o,.int .u8 p,.int .i64 q,.int .u8 r,.string s,.slice t u v,.int .i64 w,.int .u8 x,.int .u8 y,.int .u8 z,.int .i64 aa,.int .u8 ab,.string ac,.slice ad ae af,.int .i64 ag,.int .u8 ah,.int .u8 ai,.int .u8 aj,.int .i64 ak,.int .u8 al,.string am,.slice an ao ap,.int .i64 aq,.int .i64 ar] 114 (0,0))) (fun a b c d e f g h i j k l m n o p q r s t u v w x y z aa ab ac ad ae af ag ah ai aj ak al am an ao ap aq ar=>.agg #[.int .u8 a,.int .u8 b,.string c,.int .u8 d,.int .u8 e,.int .u8 f,.int .i64 g,.int .u8 h,.string i,.slice j k l,.int .i64 m,.int .u8 n,.int .u8 o,.int .u8 p,.int .i64 q,.int .u8 r,.string s,.slice t u v,.int .i64 w,.int .u8 x,.int .u8 y,.int .u8 z,.int .i64 aa,.int .u8 ab,.string ac,.slice ad ae af,.int .i64 ag,.int .u8 ah,.int .u8 ai,.int .u8 aj,.int .i64 ak,.int .u8 al,.string am,.slice an ao ap,.int .i64 aq,.int .i64 ar]) (fun k o t n f s a l c q=>.agg #[.int .u8 k,.int .u8 o,.int .u8 t,.int .i64 n,.int .u8 f,.string s,.slice a l c,.int .i64 q]) (.int .u8) (.int .i64) .string .slice .pointer (IntKind.wrap .i64) p I F Q):cU P 127 #[.pointer (some p)] I F Q :=
 tw (A:=(dv [3001,6001,10002,12002,17002] [] [48,74,75,81,95,108,142] lM [] [2001] [] [] [] [] [])) [48,74,75,81,95,108,142] func127 h
def gg.V(ka:Nat→Int→Int→Int→Int→Int→Bs→OA→Nat→Nat→Int→OA→Nat→Nat→Int→Nat×Obj)(kb:Nat→Int→Int→Bs→Int→Int→Int→Int→Int→Bs→OA→Nat→Nat→Int→Int→Int→Int→Int→Int→Bs→OA→Nat→Nat→Int→Int→Int→Int→Int→Int→Bs→OA→Nat→Nat→Int→Int→Int→Int→Int→Int→Bs→OA→Nat→Nat→Int→Int→Nat×Obj)(vb vi:Int→Value)(vs:Bs→Value)(vl:OA→Nat→Nat→Value)(vp:OA→Value)(p:Addr)(I:cS)(F:cR)(Q:cT)(Inv8:Int→Int→Int→Int→Int→Bs→OA→Nat→Nat→Int→OA→Nat→Nat→Int→cS→cR→Prop)(Inv10:Int→Int→Int→Int→Int→Bs→OA→Nat→Nat→Int→OA→Nat→Nat→Int→Nat→cS→cR→Prop):Prop:=∀b:Nat,dR P 74 (#[vp (some p),vs (⟨#[119,104,101,110]⟩:Bs)]) I ((ka b 0 0 0 0 0 (⟨#[]⟩:Bs) none 0 0 0 none 0 0 0)::·) F vi fun r I1 F1=>∀aj:Nat,eM P 48 (#[vp (some p),vi 0]) I1 ((ka b 0 0 0 0 0 (⟨#[]⟩:Bs) none 0 0 0 none 0 0 0)::(ka aj 0 0 0 0 0 (⟨#[]⟩:Bs) none 0 0 0 none 0 0 r)::·) F1 fun e2 I2 G2=>∃(bb bc bd be bf:Int) (bg:Bs) (a6:OA) (a7 a8:Nat) (bh:Int),e2=.returned (.agg #[vb bb,vb bc,vb bd,vi be,vb bf,vs bg,vl a6 a7 a8,vi bh])∧G2 fun F2=>dR P 74 (#[vp (some p),vs (⟨#[100,111]⟩:Bs)]) I2 ((ka b 0 0 0 0 0 (⟨#[]⟩:Bs) none 0 0 0 none 0 0 0)::(ka aj bb bc bd be bf bg a6 a7 a8 bh none 0 0 r)::·) F2 vi fun r1 I3 F3=>((∃m:Nat,Inv10 bb bc bd be bf bg a6 a7 a8 bh none 0 0 r m I3 F3)∧∀(e f g h i:Int) (j:Bs) (a:OA) (c d:Nat) (k:Int) (ag:OA) (ah ai:Nat) (l:Int) (m1:Nat) (I4:cS) (F4:cR),cS.le I3 I4→Inv10 e f g h i j a c d k ag ah ai l m1 I4 F4→eM P 127 (#[vp (some p)]) I4 ((ka b 0 0 0 0 0 (⟨#[]⟩:Bs) none 0 0 0 none 0 0 0)::(ka aj e f g h i j a c d k ag ah ai l)::·) F4 fun e4 I5 G4=>∃(ak al:Int) (am:Bs) (an ao ap aU aq:Int) (aV:Bs) (z:OA) (aa ab:Nat) (ar ac au av aw ax:Int) (ay:Bs) (n:OA) (o q:Nat) (az aA aB ae aC aD:Int) (aE:Bs) (s:OA) (t u:Nat) (aF aG aH aI aJ af:Int) (aK:Bs) (w:OA) (x y:Nat) (aL aM:Int),e4=.returned (.agg #[vb ak,vb al,vs am,vb an,vb ao,vb ap,vi aU,vb aq,vs aV,vl z aa ab,vi ar,vb ac,vb au,vb av,vi aw,vb ax,vs ay,vl n o q,vi az,vb aA,vb aB,vb ae,vi aC,vb aD,vs aE,vl s t u,vi aF,vb aG,vb aH,vb aI,vi aJ,vb af,vs aK,vl w x y,vi aL,vi aM])∧G4 fun F5=>∀a9:Nat,∀(b1:Nat) (I6:cS),cS.le I5 I6→I6 b1=some (Obj.cells #[vb ak,vb al,vs am,vb an,vb ao,vb ap,vi aU,vb aq,vs aV,vl z aa ab,vi ar,vb ac,vb au,vb av,vi aw,vb ax,vs ay,vl n o q,vi az,vb aA,vb aB,vb ae,vi aC,vb aD,vs aE,vl s t u,vi aF,vb aG,vb aH,vb aI,vi aJ,vb af,vs aK,vl w x y,vi aL,vi aM] 114 (0,0))→dC P (Builtin.append_ #[108,108] 108 #[vl ag ah ai,vl (some ⟨b1,0,none⟩) 1 1]) I6 ((ka b 0 0 0 0 0 (⟨#[]⟩:Bs) none 0 0 0 none 0 0 0)::(ka aj e f g h i j a c d k ag ah ai l)::(kb a9 ak al am an ao ap aU aq aV z aa ab ar ac au av aw ax ay n o q az aA aB ae aC aD aE s t u aF aG aH aI aJ af aK w x y aL aM)::F5) fun v I7 G5=>∃(aW:OA) (aT aX:Nat),v=vl aW aT aX∧∃F6:cR,List.Perm G5 ((ka b 0 0 0 0 0 (⟨#[]⟩:Bs) none 0 0 0 none 0 0 0)::(ka aj e f g h i j a c d k ag ah ai l)::(kb a9 ak al am an ao ap aU aq aV z aa ab ar ac au av aw ax ay n o q az aA aB ae aC aD aE s t u aF aG aH aI aJ af aK w x y aL aM)::F6)∧dR P 76 (#[vp (some p),vs (⟨#[44]⟩:Bs)]) I7 ((ka b 0 0 0 0 0 (⟨#[]⟩:Bs) none 0 0 0 none 0 0 0)::(ka aj e f g h i j a c d k aW aT aX l)::(kb a9 ak al am an ao ap aU aq aV z aa ab ar ac au av aw ax ay n o q az aA aB ae aC aD aE s t u aF aG aH aI aJ af aK w x y aL aM)::·) F6 .bool fun r2 I8 F7=>(It (!r2) (Inv8 e f g h i j a c d k aW aT aX l I8 F7) (dR P 77 (#[vp (some p),vi (aT:Int),vi 8]) I8 ((ka b 0 0 0 0 0 (⟨#[]⟩:Bs) none 0 0 0 none 0 0 0)::(ka aj e f g h i j a c d k aW aT aX l)::(kb a9 ak al am an ao ap aU aq aV z aa ab ar ac au av aw ax ay n o q az aA aB ae aC aD aE s t u aF aG aH aI aJ af aK w x y aL aM)::·) F7 .bool fun r3 I9 F8=>(It (!r3) (Inv8 e f g h i j a c d k aW aT aX l I9 F8) (∃ad:Addr,some p=some ad∧∃(m2:Int),Rd I9 ((ka b 0 0 0 0 0 (⟨#[]⟩:Bs) none 0 0 0 none 0 0 0)::(ka aj e f g h i j a c d k aW aT aX l)::(kb a9 ak al am an ao ap aU aq aV z aa ab ar ac au av aw ax ay n o q az aA aB ae aC aD aE s t u aF aG aH aI aJ af aK w x y aL aM)::F8) (ad.add 3) [vi m2]∧∃ba:Addr,some p=some ba∧∃(cs:List Value) (el:Nat) (F9:cR),List.Perm F8 (((ba.add 3).block,Obj.cells cs.toArray el (0,0))::F9)∧(ba.add 3).spot=none∧(ba.add 3).off+1≤cs.length∧(∃m3:Nat,m3<m1∧Inv10 e f g h i j a c d k aW aT aX l m3 I9 (((ba.add 3).block,Obj.cells (cY (ba.add 3).off [vi (IntKind.wrap .i64 (m2+1))] cs).toArray el (0,0))::F9)))))))∧∀(aY aZ a0 a1 a2:Int) (a3:Bs) (aN:OA) (aO aP:Nat) (a4:Int) (aQ:OA) (aR aS:Nat) (a5:Int) (I10:cS) (F10:cR),cS.le I3 I10→Inv8 aY aZ a0 a1 a2 a3 aN aO aP a4 aQ aR aS a5 I10 F10→dR P 74 (#[vp (some p),vs (⟨#[59]⟩:Bs)]) I10 ((ka b 0 0 0 0 0 (⟨#[]⟩:Bs) none 0 0 0 none 0 0 0)::(ka aj aY aZ a0 a1 a2 a3 aN aO aP a4 aQ aR aS a5)::·) F10 vi fun r4 I11 F11=>Q (.returned (.agg #[vb aY,vb aZ,vb a0,vi a1,vb a2,vs a3,vl aN aO aP,vi a4,vl aQ aR aS,vi a5])) I11 (F11)
theorem gg.vc{p:Addr}{I:cS}{F:cR}{Q:cT}(Inv8:Int→Int→Int→Int→Int→Bs→OA→Nat→Nat→Int→OA→Nat→Nat→Int→cS→cR→Prop)(Inv10:Int→Int→Int→Int→Int→Bs→OA→Nat→Nat→Int→OA→Nat→Nat→Int→Nat→cS→cR→Prop)(h:gg.V (fun W a b c d e f g h i j k l m n=>(W,Obj.cells #[.int .u8 a,.int .u8 b,.int .u8 c,.int .i64 d,.int .u8 e,.string f,.slice g h i,.int .i64 j,.slice k l m,.int .i64 n] 110 (0,0))) (fun W a b c d e f g h i j k l m n o p q r s t u v w x y z aa ab ac ad ae af ag ah ai aj ak al am an ao ap aq ar=>(W,Obj.cells #[.int .u8 a,.int .u8 b,.string c,.int .u8 d,.int .u8 e,.int .u8 f,.int .i64 g,.int .u8 h,.string i,.slice j k l,.int .i64 m,.int .u8 n,.int .u8 o,.int .u8 p,.int .i64 q,.int .u8 r,.string s,.slice t u v,.int .i64 w,.int .u8 x,.int .u8 y,.int .u8 z,.int .i64 aa,.int .u8 ab,.string ac,.slice ad ae af,.int .i64 ag,.int .u8 ah,.int .u8 ai,.int .u8 aj,.int .i64 ak,.int .u8 al,.string am,.slice an ao ap,.int .i64 aq,.int .i64 ar] 114 (0,0))) (.int .u8) (.int .i64) .string .slice .pointer p I F Q Inv8 Inv10):cU P 110 #[.pointer (some p)] I F Q :=
 tw (A:=(dv [7001,9001] [] [48,74,76,77,127] lM [(8,⟨[],[(1,[(.int .u8),(.int .u8),(.int .u8),(.int .i64),(.int .u8),.str,.slc,(.int .i64),.slc,(.int .i64)])],fun _ _ _ vs m I F=>match vs with | [.int _ y0,.int _ y1,.int _ y2,.int _ y3,.int _ y4,.string y5,.slice y6 y7 y8,.int _ y9,.slice y10 y11 y12,.int _ y13]=>Inv8 y0 y1 y2 y3 y4 y5 y6 y7 y8 y9 y10 y11 y12 y13 I F | _=>False,[],[]⟩),(10,⟨[],[(1,[(.int .u8),(.int .u8),(.int .u8),(.int .i64),(.int .u8),.str,.slc,(.int .i64),.slc,(.int .i64)])],fun _ _ _ vs m I F=>match vs with | [.int _ y0,.int _ y1,.int _ y2,.int _ y3,.int _ y4,.string y5,.slice y6 y7 y8,.int _ y9,.slice y10 y11 y12,.int _ y13]=>Inv10 y0 y1 y2 y3 y4 y5 y6 y7 y8 y9 y10 y11 y12 y13 m I F | _=>False,[],[]⟩)] [5003] [] [] [] [] [])) [48,74,76,77,127] func110 h
def fD.V(ka:Nat→Bs→OA→Nat→Nat→Int→Nat×Obj)(vb vi:Int→Value)(vs:Bs→Value)(vl:OA→Nat→Nat→Value)(vp:OA→Value)(p:Addr)(I:cS)(F:cR)(Q:cT)(Inv8:Bs→OA→Nat→Nat→Int→cS→cR→Prop)(Inv10:Bs→OA→Nat→Nat→Int→Nat→cS→cR→Prop):Prop:=∀b:Nat,dR P 74 (#[vp (some p),vs (⟨#[115,116,97,116,101]⟩:Bs)]) I ((ka b (⟨#[]⟩:Bs) none 0 0 0)::·) F vi fun r I1 F1=>∀g:Nat,dR P 75 (#[vp (some p)]) I1 ((ka b (⟨#[]⟩:Bs) none 0 0 0)::(ka g (⟨#[]⟩:Bs) none 0 0 r)::·) F1 vs fun r1 I2 F2=>dR P 74 (#[vp (some p),vs (⟨#[123]⟩:Bs)]) I2 ((ka b (⟨#[]⟩:Bs) none 0 0 0)::(ka g r1 none 0 0 r)::·) F2 vi fun r2 I3 F3=>((∃m:Nat,Inv10 r1 none 0 0 r m I3 F3)∧∀(e:Bs) (c:OA) (a d:Nat) (f:Int) (m1:Nat) (I4:cS) (F4:cR),cS.le I3 I4→Inv10 e c a d f m1 I4 F4→dR P 76 (#[vp (some p),vs (⟨#[119,104,101,110]⟩:Bs)]) I4 ((ka b (⟨#[]⟩:Bs) none 0 0 0)::(ka g e c a d f)::·) F4 .bool fun r3 I5 F5=>(It (!r3) (Inv8 e c a d f I5 F5) (dR P 77 (#[vp (some p),vi (a:Int),vi 12]) I5 ((ka b (⟨#[]⟩:Bs) none 0 0 0)::(ka g e c a d f)::·) F5 .bool fun r4 I6 F6=>(It (!r4) (Inv8 e c a d f I6 F6) (eM P 110 (#[vp (some p)]) I6 ((ka b (⟨#[]⟩:Bs) none 0 0 0)::(ka g e c a d f)::·) F6 fun e6 I7 G6=>∃(w x y z aa:Int) (ab:Bs) (n:OA) (o q:Nat) (ac:Int) (s:OA) (t u:Nat) (ad:Int),e6=.returned (.agg #[vb w,vb x,vb y,vi z,vb aa,vs ab,vl n o q,vi ac,vl s t u,vi ad])∧G6 fun F7=>∀ah:Nat,∀(b1:Nat) (I8:cS),cS.le I7 I8→I8 b1=some (Obj.cells #[vb w,vb x,vb y,vi z,vb aa,vs ab,vl n o q,vi ac,vl s t u,vi ad] 110 (0,0))→dC P (Builtin.append_ #[86,86] 86 #[vl c a d,vl (some ⟨b1,0,none⟩) 1 1]) I8 ((ka b (⟨#[]⟩:Bs) none 0 0 0)::(ka g e c a d f)::(ah,Obj.cells #[vb w,vb x,vb y,vi z,vb aa,vs ab,vl n o q,vi ac,vl s t u,vi ad] 110 (0,0))::F7) fun v I9 G7=>∃(ae:OA) (af ag:Nat),v=vl ae af ag∧∃F8:cR,List.Perm G7 ((ka b (⟨#[]⟩:Bs) none 0 0 0)::(ka g e c a d f)::(ah,Obj.cells #[vb w,vb x,vb y,vi z,vb aa,vs ab,vl n o q,vi ac,vl s t u,vi ad] 110 (0,0))::F8)∧(∃m2:Nat,m2<m1∧Inv10 e ae af ag f m2 I9 F8))))))∧∀(k:Bs) (h:OA) (i j:Nat) (l:Int) (I10:cS) (F9:cR),cS.le I3 I10→Inv8 k h i j l I10 F9→dR P 74 (#[vp (some p),vs (⟨#[125]⟩:Bs)]) I10 ((ka b (⟨#[]⟩:Bs) none 0 0 0)::(ka g k h i j l)::·) F9 vi fun r5 I11 F10=>Q (.returned (.agg #[vs k,vl h i j,vi l])) I11 (F10)
theorem fD.vc{p:Addr}{I:cS}{F:cR}{Q:cT}(Inv8:Bs→OA→Nat→Nat→Int→cS→cR→Prop)(Inv10:Bs→OA→Nat→Nat→Int→Nat→cS→cR→Prop)(h:fD.V (fun W a b c d e=>(W,Obj.cells #[.string a,.slice b c d,.int .i64 e] 88 (0,0))) (.int .u8) (.int .i64) .string .slice .pointer p I F Q Inv8 Inv10):cU P 80 #[.pointer (some p)] I F Q :=
 tw (A:=(dv [5001,7001] [] [74,75,76,77,110] lM [(8,⟨[],[(1,[.str,.slc,(.int .i64)])],fun _ _ _ vs m I F=>match vs with | [.string y0,.slice y1 y2 y3,.int _ y4]=>Inv8 y0 y1 y2 y3 y4 I F | _=>False,[],[]⟩),(10,⟨[],[(1,[.str,.slc,(.int .i64)])],fun _ _ _ vs m I F=>match vs with | [.string y0,.slice y1 y2 y3,.int _ y4]=>Inv10 y0 y1 y2 y3 y4 m I F | _=>False,[],[]⟩)] [9003] [] [] [] [] [])) [74,75,76,77,110] func80 h
def fE.V(ka:Nat→Bs→Int→Nat×Obj)(vi:Int→Value)(vs:Bs→Value)(vl:OA→Nat→Nat→Value)(vp:OA→Value)(p:Addr)(I:cS)(F:cR)(Q:cT)(Inv5:OA→Nat→Nat→OA→Nat→Nat→Nat→cS→cR→Prop):Prop:=(∃m:Nat,Inv5 none 0 0 none 0 0 m I F)∧∀(f:OA) (g h:Nat) (d:OA) (c e m1:Nat) (I1:cS) (F1:cR),cS.le I I1→Inv5 f g h d c e m1 I1 F1→dR P 76 (#[vp (some p),vs (⟨#[115,108,111,116]⟩:Bs)]) I1 (·) F1 .bool fun r I2 F2=>(It (!r) (Q (.returned (vl d c e)) I2 F2) (dR P 77 (#[vp (some p),vi (c:Int),vi 4]) I2 (·) F2 .bool fun r1 I3 F3=>(It (!r1) (Q (.returned (vl d c e)) I3 F3) (dR P 74 (#[vp (some p),vs (⟨#[115,108,111,116]⟩:Bs)]) I3 (·) F3 vi fun r2 I4 F4=>∀a:Nat,dR P 75 (#[vp (some p)]) I4 ((ka a (⟨#[]⟩:Bs) r2)::·) F4 vs fun r3 I5 F5=>dR P 74 (#[vp (some p),vs (⟨#[59]⟩:Bs)]) I5 ((ka a r3 r2)::·) F5 vi fun r4 I6 F6=>∀(b:Nat) (I7:cS),cS.le I6 I7→I7 b=some (Obj.cells #[vs r3,vi r2] 106 (0,0))→dC P (Builtin.append_ #[40,40] 40 #[vl d c e,vl (some ⟨b,0,none⟩) 1 1]) I7 ((ka a r3 r2)::F6) fun v I8 G6=>∃(i:OA) (j k:Nat),v=vl i j k∧∃F7:cR,List.Perm G6 ((ka a r3 r2)::F7)∧(∃m2:Nat,m2<m1∧Inv5 f g h i j k m2 I8 F7)))))
theorem fE.vc{p:Addr}{I:cS}{F:cR}{Q:cT}(Inv5:OA→Nat→Nat→OA→Nat→Nat→Nat→cS→cR→Prop)(h:fE.V (fun W a b=>(W,Obj.cells #[.string a,.int .i64 b] 106 (0,0))) (.int .i64) .string .slice .pointer p I F Q Inv5):cU P 79 #[.pointer (some p)] I F Q :=
 tw (A:=(dv [3001,6001] [] [74,75,76,77] lM [(5,⟨[(2,.slc),(3,.slc)],[],fun _ _ _ vs m I F=>match vs with | [.slice y0 y1 y2,.slice y3 y4 y5]=>Inv5 y0 y1 y2 y3 y4 y5 m I F | _=>False,[],[]⟩)] [11002] [] [] [] [] [])) [74,75,76,77] func79 h
def fF.V(ka:Nat→Bs→OA→Nat→Nat→OA→Nat→Nat→OA→Nat→Nat→Nat×Obj)(vb vi:Int→Value)(vs:Bs→Value)(vl:OA→Nat→Nat→Value)(vt:Bool→Value)(vp:OA→Value)(p:Addr)(I:cS)(F:cR)(Q:cT)(Inv10:Bs→OA→Nat→Nat→OA→Nat→Nat→OA→Nat→Nat→cS→cR→Prop)(Inv12:Bs→OA→Nat→Nat→OA→Nat→Nat→OA→Nat→Nat→Nat→cS→cR→Prop)(Inv35:Bs→OA→Nat→Nat→OA→Nat→Nat→OA→Nat→Nat→cS→cR→Prop)(Inv37:Bs→OA→Nat→Nat→OA→Nat→Nat→OA→Nat→Nat→Nat→cS→cR→Prop):Prop:=∀b:Nat,∀l:Nat,dR P 74 (#[vp (some p),vs (⟨#[115,116,114,97,116,101,103,121]⟩:Bs)]) I ((ka b (⟨#[]⟩:Bs) none 0 0 none 0 0 none 0 0)::(ka l (⟨#[]⟩:Bs) none 0 0 none 0 0 none 0 0)::·) F vi fun r I1 F1=>dR P 75 (#[vp (some p)]) I1 ((ka b (⟨#[]⟩:Bs) none 0 0 none 0 0 none 0 0)::(ka l (⟨#[]⟩:Bs) none 0 0 none 0 0 none 0 0)::·) F1 vs fun r1 I2 F2=>dR P 74 (#[vp (some p),vs (⟨#[123]⟩:Bs)]) I2 ((ka b (⟨#[]⟩:Bs) none 0 0 none 0 0 none 0 0)::(ka l r1 none 0 0 none 0 0 none 0 0)::·) F2 vi fun r2 I3 F3=>((∃m:Nat,Inv12 r1 none 0 0 none 0 0 none 0 0 m I3 F3)∧∀(aj:Bs) (z:OA) (y aa:Nat) (ab:OA) (ac ad:Nat) (ae:OA) (af ag m1:Nat) (I4:cS) (F4:cR),cS.le I3 I4→Inv12 aj z y aa ab ac ad ae af ag m1 I4 F4→dR P 76 (#[vp (some p),vs (⟨#[114,101,103]⟩:Bs)]) I4 ((ka b (⟨#[]⟩:Bs) none 0 0 none 0 0 none 0 0)::(ka l aj z y aa ab ac ad ae af ag)::·) F4 vt fun r3 I5 F5=>(It (!r3) (Inv10 aj z y aa ab ac ad ae af ag I5 F5) (dR P 77 (#[vp (some p),vi (y:Int),vi 12]) I5 ((ka b (⟨#[]⟩:Bs) none 0 0 none 0 0 none 0 0)::(ka l aj z y aa ab ac ad ae af ag)::·) F5 vt fun r4 I6 F6=>(It (!r4) (Inv10 aj z y aa ab ac ad ae af ag I6 F6) (eM P 78 (#[vp (some p)]) I6 ((ka b (⟨#[]⟩:Bs) none 0 0 none 0 0 none 0 0)::(ka l aj z y aa ab ac ad ae af ag)::·) F6 fun e6 I7 G6=>∃(aF:Bs) (aG aH aI aJ aK aL:Int) (aM:Bs) (aw:OA) (ax ay:Nat) (aN aC:Int),e6=.returned (.agg #[vs aF,vb aG,vb aH,vb aI,vb aJ,vi aK,vb aL,vs aM,vl aw ax ay,vi aN,vi aC])∧G6 fun F7=>∀aX:Nat,∀(b1:Nat) (I8:cS),cS.le I7 I8→I8 b1=some (Obj.cells #[vs aF,vb aG,vb aH,vb aI,vb aJ,vi aK,vb aL,vs aM,vl aw ax ay,vi aN,vi aC] 104 (0,0))→dC P (Builtin.append_ #[39,39] 39 #[vl z y aa,vl (some ⟨b1,0,none⟩) 1 1]) I8 ((ka b (⟨#[]⟩:Bs) none 0 0 none 0 0 none 0 0)::(ka l aj z y aa ab ac ad ae af ag)::(aX,Obj.cells #[vs aF,vb aG,vb aH,vb aI,vb aJ,vi aK,vb aL,vs aM,vl aw ax ay,vi aN,vi aC] 104 (0,0))::F7) fun v I9 G7=>∃(aU:OA) (aV aW:Nat),v=vl aU aV aW∧∃F8:cR,List.Perm G7 ((ka b (⟨#[]⟩:Bs) none 0 0 none 0 0 none 0 0)::(ka l aj z y aa ab ac ad ae af ag)::(aX,Obj.cells #[vs aF,vb aG,vb aH,vb aI,vb aJ,vi aK,vb aL,vs aM,vl aw ax ay,vi aN,vi aC] 104 (0,0))::F8)∧(∃m2:Nat,m2<m1∧Inv12 aj aU aV aW ab ac ad ae af ag m2 I9 F8))))))∧∀(av:Bs) (ak:OA) (al am:Nat) (aq:OA) (ar au:Nat) (an:OA) (ao ap:Nat) (I10:cS) (F9:cR),cS.le I3 I10→Inv10 av ak al am aq ar au an ao ap I10 F9→eM P 79 (#[vp (some p)]) I10 ((ka b (⟨#[]⟩:Bs) none 0 0 none 0 0 none 0 0)::(ka l av ak al am aq ar au an ao ap)::·) F9 fun e7 I11 G8=>∃(aO:OA) (aP aQ:Nat),e7=.returned (vl aO aP aQ)∧G8 fun F10=>((∃m3:Nat,Inv37 av ak al am aO aP aQ an ao ap m3 I11 F10)∧∀(ai:Bs) (n:OA) (o q:Nat) (s:OA) (t u:Nat) (w:OA) (c x m4:Nat) (I12:cS) (F11:cR),cS.le I11 I12→Inv37 ai n o q s t u w c x m4 I12 F11→dR P 76 (#[vp (some p),vs (⟨#[115,116,97,116,101]⟩:Bs)]) I12 ((ka b (⟨#[]⟩:Bs) none 0 0 none 0 0 none 0 0)::(ka l ai n o q s t u w c x)::·) F11 vt fun r5 I13 F12=>(It (!r5) (Inv35 ai n o q s t u w c x I13 F12) (dR P 77 (#[vp (some p),vi (c:Int),vi 12]) I13 ((ka b (⟨#[]⟩:Bs) none 0 0 none 0 0 none 0 0)::(ka l ai n o q s t u w c x)::·) F12 vt fun r6 I14 F13=>(It (!r6) (Inv35 ai n o q s t u w c x I14 F13) (eM P 80 (#[vp (some p)]) I14 ((ka b (⟨#[]⟩:Bs) none 0 0 none 0 0 none 0 0)::(ka l ai n o q s t u w c x)::·) F13 fun aZ I15 G11=>∃(aD:Bs) (az:OA) (aA aB:Nat) (aE:Int),aZ=.returned (.agg #[vs aD,vl az aA aB,vi aE])∧G11 fun F14=>∀aY:Nat,∀(b2:Nat) (I16:cS),cS.le I15 I16→I16 b2=some (Obj.cells #[vs aD,vl az aA aB,vi aE] 88 (0,0))→dC P (Builtin.append_ #[41,41] 41 #[vl w c x,vl (some ⟨b2,0,none⟩) 1 1]) I16 ((ka b (⟨#[]⟩:Bs) none 0 0 none 0 0 none 0 0)::(ka l ai n o q s t u w c x)::(aY,Obj.cells #[vs aD,vl az aA aB,vi aE] 88 (0,0))::F14) fun v1 I17 G12=>∃(aR:OA) (aS aT:Nat),v1=vl aR aS aT∧∃F15:cR,List.Perm G12 ((ka b (⟨#[]⟩:Bs) none 0 0 none 0 0 none 0 0)::(ka l ai n o q s t u w c x)::(aY,Obj.cells #[vs aD,vl az aA aB,vi aE] 88 (0,0))::F15)∧(∃m5:Nat,m5<m4∧Inv37 ai n o q s t u aR aS aT m5 I17 F15))))))∧∀(ah:Bs) (d:OA) (e f:Nat) (g:OA) (h i:Nat) (j:OA) (a k:Nat) (I18:cS) (F16:cR),cS.le I11 I18→Inv35 ah d e f g h i j a k I18 F16→(It ((a:Int)==0) (eM P 81 (#[vp (some p),vi 130]) I18 ((ka b (⟨#[]⟩:Bs) none 0 0 none 0 0 none 0 0)::(ka l ah d e f g h i j a k)::·) F16 fun a0 I19 G13=>a0=.returned (.tuple #[])∧G13 fun F17=>dR P 74 (#[vp (some p),vs (⟨#[125]⟩:Bs)]) I19 ((ka b (⟨#[]⟩:Bs) none 0 0 none 0 0 none 0 0)::(ka l ah d e f g h i j a k)::·) F17 vi fun r7 I20 F18=>eM P 49 (#[vp (some p)]) I20 ((ka b (⟨#[]⟩:Bs) none 0 0 none 0 0 none 0 0)::(ka l ah d e f g h i j a k)::·) F18 fun a2 I21 G15=>a2=.returned (.tuple #[])∧G15 fun F19=>Q (.returned (.agg #[vs ah,vl d e f,vl g h i,vl j a k])) I21 F19) (dR P 74 (#[vp (some p),vs (⟨#[125]⟩:Bs)]) I18 ((ka b (⟨#[]⟩:Bs) none 0 0 none 0 0 none 0 0)::(ka l ah d e f g h i j a k)::·) F16 vi fun r8 I22 F20=>eM P 49 (#[vp (some p)]) I22 ((ka b (⟨#[]⟩:Bs) none 0 0 none 0 0 none 0 0)::(ka l ah d e f g h i j a k)::·) F20 fun a4 I23 G17=>a4=.returned (.tuple #[])∧G17 fun F21=>Q (.returned (.agg #[vs ah,vl d e f,vl g h i,vl j a k])) I23 F21))
theorem fF.vc{p:Addr}{I:cS}{F:cR}{Q:cT}(Inv10:Bs→OA→Nat→Nat→OA→Nat→Nat→OA→Nat→Nat→cS→cR→Prop)(Inv12:Bs→OA→Nat→Nat→OA→Nat→Nat→OA→Nat→Nat→Nat→cS→cR→Prop)(Inv35:Bs→OA→Nat→Nat→OA→Nat→Nat→OA→Nat→Nat→cS→cR→Prop)(Inv37:Bs→OA→Nat→Nat→OA→Nat→Nat→OA→Nat→Nat→Nat→cS→cR→Prop)(h:fF.V (fun W a b c d e f g h i j=>(W,Obj.cells #[.string a,.slice b c d,.slice e f g,.slice h i j] 43 (0,0))) (.int .u8) (.int .i64) .string .slice .bool .pointer p I F Q Inv10 Inv12 Inv35 Inv37):cU P 29 #[.pointer (some p)] I F Q :=
 tw (A:=(dv [6001,8001,13001,15001,18003] [] [49,74,75,76,77,78,79,80,81] lM [(10,⟨[],[(1,[.str,.slc,.slc,.slc])],fun _ _ _ vs m I F=>match vs with | [.string y0,.slice y1 y2 y3,.slice y4 y5 y6,.slice y7 y8 y9]=>Inv10 y0 y1 y2 y3 y4 y5 y6 y7 y8 y9 I F | _=>False,[],[]⟩),(12,⟨[],[(1,[.str,.slc,.slc,.slc])],fun _ _ _ vs m I F=>match vs with | [.string y0,.slice y1 y2 y3,.slice y4 y5 y6,.slice y7 y8 y9]=>Inv12 y0 y1 y2 y3 y4 y5 y6 y7 y8 y9 m I F | _=>False,[],[]⟩),(35,⟨[],[(1,[.str,.slc,.slc,.slc])],fun _ _ _ vs m I F=>match vs with | [.string y0,.slice y1 y2 y3,.slice y4 y5 y6,.slice y7 y8 y9]=>Inv35 y0 y1 y2 y3 y4 y5 y6 y7 y8 y9 I F | _=>False,[],[]⟩),(37,⟨[],[(1,[.str,.slc,.slc,.slc])],fun _ _ _ vs m I F=>match vs with | [.string y0,.slice y1 y2 y3,.slice y4 y5 y6,.slice y7 y8 y9]=>Inv37 y0 y1 y2 y3 y4 y5 y6 y7 y8 y9 m I F | _=>False,[],[]⟩)] [10003,17003] [] [] [] [] [])) [49,74,75,76,77,78,79,80,81] func29 h
def iE.V(ka:Nat→Bs→OA→Nat→Nat→OA→Nat→Nat→OA→Nat→Nat→Nat×Obj)(kb:Nat→Int→Int→Bool→Nat×Obj)(vi:Int→Value)(vs:Bs→Value)(vl:OA→Nat→Nat→Value)(vt:Bool→Value)(s:Bs)(I:cS)(F:cR)(Q:cT)  : Prop:=∀b:Nat,∀b1:Nat,dR P 28 #[vs s] I ((ka b (⟨#[]⟩:Bs) none 0 0 none 0 0 none 0 0)::(kb b1 0 0 false)::·) F .pointer fun r I1 F1=>eM P 29 #[.pointer r] I1 ((ka b (⟨#[]⟩:Bs) none 0 0 none 0 0 none 0 0)::(kb b1 0 0 false)::·) F1 fun e2 I2 G2=>∃(k:Bs) (a:OA) (c d:Nat) (e:OA) (f g:Nat) (h:OA) (i j:Nat),e2=.returned (.agg #[vs k,vl a c d,vl e f g,vl h i j])∧G2 fun F2=>∀o:Nat,dR P 30 #[.pointer r] I2 ((ka b (⟨#[]⟩:Bs) none 0 0 none 0 0 none 0 0)::(kb b1 0 0 false)::(ka o k a c d e f g h i j)::·) F2 vt fun r1 I3 F3=>(It r1 (∃ad:Addr,r=some ad∧∃(l m:Int) (n:Bool),Rd I3 F3 (ad.add 4) [vi l,vi m,vt n]∧Q (.returned (.tuple #[.agg #[vs (⟨#[]⟩:Bs),vl none 0 0,vl none 0 0,vl none 0 0],.agg #[vi l,vi m,vt n]])) I3 F3) (Q (.returned (.tuple #[.agg #[vs k,vl a c d,vl e f g,vl h i j],.agg #[vi 0,vi 0,vt false]])) I3 F3))
theorem iE.vc{s:Bs}{I:cS}{F:cR}{Q:cT}  (h:iE.V (fun W a b c d e f g h i j=>(W,Obj.cells #[.string a,.slice b c d,.slice e f g,.slice h i j] 43 (0,0))) (fun W a b c=>(W,Obj.cells #[.int .i64 a,.int .i64 b,.bool c] 50 (0,0))) (.int .i64) .string .slice .bool s I F Q):cU P 11 #[.string s] I F Q :=
 tw (A:=(dv [3001] [] [28,29,30] lM [] [] [] [(4,5,[0])] [] [] [(4,6)])) [28,29,30] func11 h
end Go.Lx
namespace Go.Lx
open Go.Vc
def Cs{N Pl:Type}(v:N→Value)(p:N→Pl)(ok:cS→N→Prop)(q:PQ)(b:Nat)(F0:cR)(r:Pl×PS)(e:Ending)(I:cS)(G:cR):Prop:=∃x:N,e=.returned (v x)∧p x=r.1∧ok I x∧G.Perm (q.c7 b r.2::F0)
def sw{N Pl:Type}(f:Nat)(v:N→Value)(p:N→Pl)(ok:cS→N→Prop)(q:PQ)(g:PS→Pl×PS):Prop:=∀(b:Nat) (s:PS) (I:cS) (F F0:cR),q.ok I→s.next≤q.c.l.length→F.Perm (q.c7 b s::F0)→cU P f #[.pointer (some ⟨b,0,none⟩)] I F (Cs v p ok q b F0 (g s))
def od(I:cS)(r:dH):Prop:=r.Ok I []
def uL(I:cS)(r:fO):Prop:=r.Ok I []
def oO(I:cS)(r:dm):Prop:=r.Ok I []
def k9(I:cS)(r:da):Prop:=r.Ok I []
def BF(I:cS)(r:fN):Prop:=r.Ok I []
section
variable {c:PC}
theorem Up.oL{nm:ByteArray}{t pos pos2:Int}{minus:Bool}{n:Px}:dT c (c.oL nm t pos pos2 minus n):=fun s=>Up.take _
theorem Up.kY{nm:ByteArray}{t pos pos2:Int}{minus:Bool}:dT c (c.kY nm t pos pos2 minus):=fun s=>by
 unfold PC.kY
 split
 ·exact .c5 _
 ·refine Up.trans ?_ (Up.oL _)
  split
  ·exact .literal
  ·exact Up.literal.trans (.c5 _)
theorem Up.nY{nm:ByteArray}{t pos:Int}:dT c (c.nY nm t pos):=fun s=>by
 unfold PC.nY
 refine Up.trans ?_ (Up.kY _)
 split
 ·rename_i h;exact .inc (ew h)
 ·exact .refl
theorem Up.nZ{nm:ByteArray}{pos:Int}:dT c (c.nZ nm pos):=fun s=>by
 unfold PC.nZ
 split
 ·exact .c5 _
 ·rename_i ha
  exact (Up.inc (dt (Int.not_lt.1 ha)).1).trans ((Up.take _).trans (Up.nY _))
theorem Up.lx:dT c c.lx:=fun s=>(Up.take _).trans (Up.name.trans (Up.nZ _))
theorem Up.iQ:dT c c.iQ:=fun s=>by
 unfold PC.iQ
 split
 ·rename_i h;exact (Up.inc (ew h)).trans .name
 ·exact .refl
theorem Up.mq{x y z:Px}{pos o:Int}:dT c (c.mq x y pos z o):=fun s=>Up.iQ s
theorem Up.oM{x y z:Px}{pos:Int}:dT c (c.oM x y pos z):=fun s=>by
 unfold PC.oM
 split
 ·exact .c5 _
 ·rename_i ha
  exact (Up.inc (dt (Int.not_lt.1 ha)).1).trans (Up.mq _)
theorem Up.n6{x y:Px}{pos:Int}:dT c (c.n6 x y pos):=fun s=>by
 unfold PC.n6
 split
 ·exact .c5 _
 ·rename_i ha
  have h1:=Up.inc (c:=c) (dt (Int.not_lt.1 ha)).1
  split
  ·exact h1.trans ((Up.eJ _).trans (Up.oM _))
  ·exact h1.trans (Up.mq _)
theorem Up.kZ:dT c c.kZ:=fun s=>(Up.take _).trans ((Up.eJ _).trans ((Up.take _).trans ((Up.eJ _).trans (Up.n6 _))))
theorem Up.uF{k:Int}{nm:ByteArray}{pos:Int}:dT c (c.uF k nm pos):=fun s=>by
 unfold PC.uF
 split
 ·exact (Up.take _).trans ((Up.eJ _).trans ((Up.take _).trans (Up.eJ _)))
 ·split
  ·exact (Up.take _).trans (Up.eJ _)
  ·exact .refl
theorem Up.do:dT c c.do:=fun s=>by
 unfold PC.do
 split
 ·exact .c5 _
 ·rename_i ha
  have h1:=Up.inc (c:=c) (dt (Int.not_lt.1 ha)).1
  split
  ·exact Up.kZ s
  ·split
   ·exact h1.trans (Up.uF _)
   ·exact h1.trans (Up.name.trans (Up.uF _))
end
theorem BG{q:PQ}:sw 78 dH.v dH.p od q q.c.lx:=by
 intro b s I F F0 hq hsn hF
 have hl:=hq.len
 unfold PC.lx
 have ht:=(Up.take (c:=q.c) (s:=s) (⟨#[114,101,103]⟩:ByteArray)).2 hsn
 generalize hta:q.c.take (⟨#[114,101,103]⟩:ByteArray) s=ta at ht ⊢
 have hn:=(Up.name (c:=q.c) (s:=ta.2)).2 ht
 generalize hbb:q.c.name ta.2=bb at hn ⊢
 obtain⟨s4,hs4e⟩:∃s4,s4=(if q.c.dS (⟨#[45]⟩:ByteArray) (q.c.take (⟨#[61]⟩:ByteArray) bb.2.inc).2 then (q.c.take (⟨#[61]⟩:ByteArray) bb.2.inc).2.inc else (q.c.take (⟨#[61]⟩:ByteArray) bb.2.inc).2):=⟨_,rfl⟩
 obtain⟨s5,hs5e⟩:∃s5,s5=(if (q.c.literal s4).1.2 then (q.c.literal s4).2 else q.c.c5 130 (q.c.literal s4).2):=⟨_,rfl⟩
 refine gK.vc (fun x0 x1 x2 x3 x4 x5 x6 x7 xa xn xc x9 x10 I' F'=>q.ok I'∧F'.Perm (q.c7 b s4::F0)∧¬(q.c.dS (⟨#[45]⟩:ByteArray) (q.c.take (⟨#[61]⟩:ByteArray) bb.2.inc).2=true∧(q.c.now s4).kind≠3))
  (fun I' F'=>q.ok I'∧F'.Perm (q.c7 b s5::F0)) ?_
 unfold gK.V
 intro b2
 refine (ec hq _ ((hF.cons _).trans kl)).mono fun e I1 G l1 ⟨he,hG⟩=>⟨_,he,q.c7 b ta.2::F0,by rw[hta] at hG;exact hG.trans kl,fun b_r=>?_⟩
 rw[hta]
 have hq1:=hq.mono l1
 refine (ni hq1 (s:=ta.2) dO).mono fun e I2 G l2 ⟨he,hG⟩=>⟨_,he,q.c7 b bb.2::F0,by rw[hbb] at hG;exact hG.trans dO.symm,fun b3 I3 l3 hb3=>?_⟩
 rw[hbb]
 have hq3:=(hq1.mono l2).mono l3
 refine cU.ret (ln hq3 (Sl.words (ws:=fS) hb3 rfl) (by decide) (s:=bb.2) (.tail _ (.tail _ (.head _)))) fun I4 l4=>⟨_,rfl,q.c7 b bb.2::F0,.refl _,fun ha=>?_,fun ha=>?_⟩
 ·have ha:=of_decide_eq_true ha
  refine (fB (hq3.mono l4) 130 (s:=bb.2) dO).mono fun e I5 G l5 ⟨he,hG⟩=>⟨he,q.c7 b (q.c.c5 130 bb.2)::F0,hG.trans dO.symm, ?_⟩
  unfold PC.nZ
  rw[if_pos ha]
  exact⟨⟨bb.1,0,fq,ta.1⟩,rfl,by simp only[dH.p,fq,Nd.px,Nd.oF];rfl,eb.leaf,.refl _⟩
 have ha:=of_decide_eq_false ha
 have hab:=mG (Int.not_lt.1 ha) (by decide)
 have hlt:=(dt (Int.not_lt.1 ha)).1
 have hq4:=hq3.mono l4
 unfold PC.nZ
 rw[if_neg ha]
 refine⟨_,rfl,_,PQ.rd (k:=3) (.tail _ (.tail _ (.head _))) rfl,_,rfl,q.cl bb.2,96,F0,.refl _,PQ.spot _ _,by rw[PQ.off];exact (by decide:3+1≤7), ?_⟩
 rw[PQ.eD (by omega),w8 (n:=q.c.any fS bb.2) (by omega),w8 (n:=1+q.c.any fS bb.2) (by omega)]
 have h5:=(Up.take (c:=q.c) (s:=bb.2.inc) (⟨#[61]⟩:ByteArray)).2 hlt
 refine (ec hq4 _ (s:=bb.2.inc) dO).mono fun e I5 G l5 ⟨he,hG⟩=>⟨_,he,q.c7 b (q.c.take (⟨#[61]⟩:ByteArray) bb.2.inc).2::F0,hG.trans dO.symm, ?_⟩
 generalize hs3:(q.c.take (⟨#[61]⟩:ByteArray) bb.2.inc).2=s3 at h5 hs4e ⊢
 unfold PC.nY
 rw[←hs4e]
 have hq5:=hq4.mono l5
 refine cU.ret (jh hq5 (s:=s3) (.tail _ (.tail _ (.head _)))) fun I6 l6=>⟨_,_,_,_,_,rfl,q.c7 b s3::F0,.refl _, ?_⟩
 have hq6:=hq5.mono l6
 refine cU.ret (nh hq6 _ (s:=s3) (.tail _ (.tail _ (.head _)))) fun I7 l7=>⟨_,rfl,q.c7 b s3::F0,.refl _,⟨fun hm=>?_,fun hm=>?_⟩, ?_⟩
 ·have hlt3:=ew hm
  rw[if_pos hm] at hs4e
  refine⟨_,rfl,_,PQ.rd (k:=3) (.tail _ (.tail _ (.head _))) rfl,_,rfl,q.cl s3,96,F0,.refl _,PQ.spot _ _,by rw[PQ.off];exact (by decide:3+1≤7), ?_⟩
  rw[PQ.eD (by omega),←hs4e]
  have hq7:=hq6.mono l7
  refine cU.ret (jh hq7 (s:=s4) (.tail _ (.tail _ (.head _)))) fun I8 l8=>⟨_,_,_,_,_,rfl,q.c7 b s4::F0,.refl _,fun h3=>?_,fun h3=>?_⟩
  ·have h3:(q.c.now s4).kind≠3:=by simpa using h3
   refine (fB (hq7.mono l8) 130 (s:=s4) dO).mono fun e I9 G l9 ⟨he,hG⟩=>⟨he,q.c7 b (q.c.c5 130 s4)::F0,hG.trans dO.symm, ?_⟩
   unfold PC.kY
   rw[if_pos ⟨hm,h3⟩]
   exact⟨⟨bb.1,1+q.c.any fS bb.2,fq,ta.1⟩,rfl,by simp only[dH.p,fq,Nd.px,Nd.oF];rfl,eb.leaf,.refl _⟩
  ·have h3:(q.c.now s4).kind=3:=by simpa using h3
   exact⟨hq7.mono l8,.refl _,fun h=>h.2 h3⟩
 ·rw[if_neg (by simp[hm])] at hs4e
  rw[hs4e]
  exact⟨hq6.mono l7,.refl _,fun h=>by rw[hm] at h;cases h.1⟩
 have hs4:s4.next≤q.c.l.length:=by
  rw[hs4e]
  split
  ·rename_i h;exact ew h
  ·exact h5
 intro x0 x1 x2 x3 x4 x5 x6 x7 xa xn xc x9 x10 I8 F8 l8 ⟨hq8,hF8,hnm⟩
 unfold PC.kY
 rw[if_neg hnm,←hs5e]
 refine (su hq8 ((((hF8.cons _).cons _)).trans dO)).mono fun e I9 G l9 ⟨t,he,px,hok,hG⟩=>?_
 refine⟨_,_,_,_,_,_,_,_,_,_,_,he,q.c7 b (q.c.literal s4).2::F0,hG.trans dO.symm,fun b_n=>⟨⟨fun hw=>?_,fun hw=>?_⟩, ?_⟩⟩
 ·have hw:(q.c.literal s4).1.2=false:=by simpa using hw
  rw[if_neg (by simp[hw])] at hs5e
  refine (fB (hq8.mono l9) 130 (s:=(q.c.literal s4).2) sv).mono fun e I10 G l10 ⟨he,hG⟩=>⟨he,q.c7 b (q.c.c5 130 (q.c.literal s4).2)::F0,hG.trans sv.symm,(hq8.mono l9).mono l10, ?_⟩
  rw[hs5e]
 ·have hw:(q.c.literal s4).1.2=true:=by simpa using hw
  rw[if_pos hw] at hs5e
  refine⟨hq8.mono l9, ?_⟩
  rw[hs5e]
 intro I10 F10 l10 ⟨hq10,hF10⟩
 unfold PC.oL
 refine⟨fun hm=>?_,fun hm=>?_⟩
 ·intro b5 I11 l11 hb5
  refine (ec (hq10.mono l11) _ ((((hF10.cons _).cons _).cons _).trans sv)).mono fun e I12 G l12 ⟨he,hG⟩=>⟨_,he,q.c7 b (q.c.take (⟨#[59]⟩:ByteArray) s5).2::F0,hG.trans sv.symm, ?_⟩
  rw[if_pos hm]
  refine⟨⟨bb.1,1+q.c.any fS bb.2,.mk 5 1 0 0 0 ⟨#[]⟩ (some ⟨b5,0,none⟩) 1 [t] (q.c.now s3).pos,ta.1⟩,rfl, ?_,eb.mono (eb.uI (l:=[t]) hb5 (fun k hk=>?_) ..) l12 fun _ h=>h,.refl _⟩
  ·simp only[dH.p,Nd.px,Nd.oF,px]
  ·rw[List.mem_singleton] at hk;subst hk
   exact hok.mono (cS.le_trans l10 l11) fun _ h=>h
 ·refine (ec hq10 _ ((((hF10.cons _).cons _).cons _).trans sv)).mono fun e I12 G l12 ⟨he,hG⟩=>⟨_,he,q.c7 b (q.c.take (⟨#[59]⟩:ByteArray) s5).2::F0,hG.trans sv.symm, ?_⟩
  rw[if_neg (by simp[hm])]
  exact⟨⟨bb.1,1+q.c.any fS bb.2,t,ta.1⟩,rfl,by simp only[dH.p,px],hok.mono (cS.le_trans l10 l12) fun _ h=>h,.refl _⟩
end Go.Lx
