import Derived.Test.YtdhcodphiofhjaaGreatDoorParseExprsB2
set_option linter.unusedVariables false
set_option linter.unusedSimpArgs false
set_option linter.unusedSectionVars false
set_option maxRecDepth 100000
namespace Go.Lx
open Go.Vc
theorem rz{rs:List Row}{ls:List (List (Ck 5))}{H F:cR}{la:Option Addr}{ln lc:Nat}{I:cS}(hS:Sl I 1 Row.enc la ln rs)(hH:dI 5 76 rs ls H)(hb:Bd ls)(hrs:rs.length≤1000000000):cU P 33 #[.slice la ln lc] I (H++F) fun e I' G=>e=.returned (.bool true)∧G=F :=
 gu (zv:=.agg #[.int .u8 0,.string (⟨#[]⟩:ByteArray),.int .u8 0,.int .i64 0,.int .i64 0]) (B:=48) pV.vc (by decide) (fun _=>rfl) (fun _=>rfl) (fun v u hu=>List.all_eq_true.1 (rfl:List.all [Value.int .u8 0,Value.string (⟨#[]⟩:ByteArray),Value.int .u8 0,Value.int .i64 0,Value.int .i64 v] (fun u=>u.oneCell')=true) u hu) (by kernel_rfl) (by kernel_rfl) rfl (by decide) (by decide) (by kernel_rfl) (by kernel_rfl) hS hH hb hrs
theorem sF{rs:List Row}{ls:List (List (Ck 8))}{H F:cR}{la:Option Addr}{ln lc:Nat}{I:cS}(hS:Sl I 1 Row.enc la ln rs)(hH:dI 8 64 rs ls H)(hb:Bd ls)(hrs:rs.length≤1000000000):cU P 34 #[.slice la ln lc] I (H++F) fun e I' G=>e=.returned (.bool true)∧G=F :=
 gu (zv:=.agg #[.int .u8 0,.int .u8 0,.int .u8 0,.int .i64 0,.int .u8 0,.string (⟨#[]⟩:ByteArray),.slice none 0 0,.int .i64 0]) (B:=72) ru.vc (by decide) (fun _=>rfl) (fun _=>rfl) (fun v u hu=>List.all_eq_true.1 (rfl:List.all [Value.int .u8 0,Value.int .u8 0,Value.int .u8 0,Value.int .i64 0,Value.int .u8 0,Value.string (⟨#[]⟩:ByteArray),Value.slice none 0 0,Value.int .i64 v] (fun u=>u.oneCell')=true) u hu) (by kernel_rfl) (by kernel_rfl) rfl (by decide) (by decide) (by kernel_rfl) (by kernel_rfl) hS hH hb hrs
theorem ue{rs:List Row}{ls:List (List (Ck 11))}{H F:cR}{la:Option Addr}{ln lc:Nat}{I:cS}(hS:Sl I 1 Row.enc la ln rs)(hH:dI 11 104 rs ls H)(hb:Bd ls)(hrs:rs.length≤1000000000):cU P 35 #[.slice la ln lc] I (H++F) fun e I' G=>e=.returned (.bool true)∧G=F :=
 gu (zv:=.agg #[.string (⟨#[]⟩:ByteArray),.int .u8 0,.int .u8 0,.int .u8 0,.int .u8 0,.int .i64 0,.int .u8 0,.string (⟨#[]⟩:ByteArray),.slice none 0 0,.int .i64 0,.int .i64 0]) (B:=104) sD.vc (by decide) (fun _=>rfl) (fun _=>rfl) (fun v u hu=>List.all_eq_true.1 (rfl:List.all [Value.string (⟨#[]⟩:ByteArray),Value.int .u8 0,Value.int .u8 0,Value.int .u8 0,Value.int .u8 0,Value.int .i64 0,Value.int .u8 0,Value.string (⟨#[]⟩:ByteArray),Value.slice none 0 0,Value.int .i64 0,Value.int .i64 v] (fun u=>u.oneCell')=true) u hu) (by kernel_rfl) (by kernel_rfl) rfl (by decide) (by decide) (by kernel_rfl) (by kernel_rfl) hS hH hb hrs
theorem sG{rs:List Row}{ls:List (List (Ck 2))}{H F:cR}{la:Option Addr}{ln lc:Nat}{I:cS}(hS:Sl I 1 Row.enc la ln rs)(hH:dI 2 106 rs ls H)(hb:Bd ls)(hrs:rs.length≤1000000000):cU P 36 #[.slice la ln lc] I (H++F) fun e I' G=>e=.returned (.bool true)∧G=F :=
 gu (zv:=.agg #[.string (⟨#[]⟩:ByteArray),.int .i64 0]) (B:=24) rv.vc (by decide) (fun _=>rfl) (fun _=>rfl) (fun v u hu=>List.all_eq_true.1 (rfl:List.all [Value.string (⟨#[]⟩:ByteArray),Value.int .i64 v] (fun u=>u.oneCell')=true) u hu) (by kernel_rfl) (by kernel_rfl) rfl (by decide) (by decide) (by kernel_rfl) (by kernel_rfl) hS hH hb hrs
theorem vJ{rs:List Row}{ls:List (List (Ck 36))}{H F:cR}{la:Option Addr}{ln lc:Nat}{I:cS}(hS:Sl I 1 Row.enc la ln rs)(hH:dI 36 114 rs ls H)(hb:Bd ls)(hrs:rs.length≤1000000000):cU P 37 #[.slice la ln lc] I (H++F) fun e I' G=>e=.returned (.bool true)∧G=F :=
 gu (zv:=.agg #[.int .u8 0,.int .u8 0,.string (⟨#[]⟩:ByteArray),.int .u8 0,.int .u8 0,.int .u8 0,.int .i64 0,.int .u8 0,.string (⟨#[]⟩:ByteArray),.slice none 0 0,.int .i64 0,.int .u8 0,.int .u8 0,.int .u8 0,.int .i64 0,.int .u8 0,.string (⟨#[]⟩:ByteArray),.slice none 0 0,.int .i64 0,.int .u8 0,.int .u8 0,.int .u8 0,.int .i64 0,.int .u8 0,.string (⟨#[]⟩:ByteArray),.slice none 0 0,.int .i64 0,.int .u8 0,.int .u8 0,.int .u8 0,.int .i64 0,.int .u8 0,.string (⟨#[]⟩:ByteArray),.slice none 0 0,.int .i64 0,.int .i64 0]) (B:=320) ud.vc (by decide) (fun _=>rfl) (fun _=>rfl) (fun v u hu=>List.all_eq_true.1 (rfl:List.all [Value.int .u8 0,Value.int .u8 0,Value.string (⟨#[]⟩:ByteArray),Value.int .u8 0,Value.int .u8 0,Value.int .u8 0,Value.int .i64 0,Value.int .u8 0,Value.string (⟨#[]⟩:ByteArray),Value.slice none 0 0,Value.int .i64 0,Value.int .u8 0,Value.int .u8 0,Value.int .u8 0,Value.int .i64 0,Value.int .u8 0,Value.string (⟨#[]⟩:ByteArray),Value.slice none 0 0,Value.int .i64 0,Value.int .u8 0,Value.int .u8 0,Value.int .u8 0,Value.int .i64 0,Value.int .u8 0,Value.string (⟨#[]⟩:ByteArray),Value.slice none 0 0,Value.int .i64 0,Value.int .u8 0,Value.int .u8 0,Value.int .u8 0,Value.int .i64 0,Value.int .u8 0,Value.string (⟨#[]⟩:ByteArray),Value.slice none 0 0,Value.int .i64 0,Value.int .i64 v] (fun u=>u.oneCell')=true) u hu) (by kernel_rfl) (by kernel_rfl) rfl (by decide) (by decide) (by kernel_rfl) (by kernel_rfl) hS hH hb hrs
theorem sH{rs:List Row}{ls:List (List (Ck 10))}{H F:cR}{la:Option Addr}{ln lc:Nat}{I:cS}(hS:Sl I 1 Row.enc la ln rs)(hH:dI 10 110 rs ls H)(hb:Bd ls)(hrs:rs.length≤1000000000):cU P 38 #[.slice la ln lc] I (H++F) fun e I' G=>e=.returned (.bool true)∧G=F :=
 gu (zv:=.agg #[.int .u8 0,.int .u8 0,.int .u8 0,.int .i64 0,.int .u8 0,.string (⟨#[]⟩:ByteArray),.slice none 0 0,.int .i64 0,.slice none 0 0,.int .i64 0]) (B:=104) ry.vc (by decide) (fun _=>rfl) (fun _=>rfl) (fun v u hu=>List.all_eq_true.1 (rfl:List.all [Value.int .u8 0,Value.int .u8 0,Value.int .u8 0,Value.int .i64 0,Value.int .u8 0,Value.string (⟨#[]⟩:ByteArray),Value.slice none 0 0,Value.int .i64 0,Value.slice none 0 0,Value.int .i64 v] (fun u=>u.oneCell')=true) u hu) (by kernel_rfl) (by kernel_rfl) rfl (by decide) (by decide) (by kernel_rfl) (by kernel_rfl) hS hH hb hrs
theorem rA{rs:List Row}{ls:List (List (Ck 3))}{H F:cR}{la:Option Addr}{ln lc:Nat}{I:cS}(hS:Sl I 1 Row.enc la ln rs)(hH:dI 3 88 rs ls H)(hb:Bd ls)(hrs:rs.length≤1000000000):cU P 39 #[.slice la ln lc] I (H++F) fun e I' G=>e=.returned (.bool true)∧G=F :=
 gu (zv:=.agg #[.string (⟨#[]⟩:ByteArray),.slice none 0 0,.int .i64 0]) (B:=48) pW.vc (by decide) (fun _=>rfl) (fun _=>rfl) (fun v u hu=>List.all_eq_true.1 (rfl:List.all [Value.string (⟨#[]⟩:ByteArray),Value.slice none 0 0,Value.int .i64 v] (fun u=>u.oneCell')=true) u hu) (by kernel_rfl) (by kernel_rfl) rfl (by decide) (by decide) (by kernel_rfl) (by kernel_rfl) hS hH hb hrs
theorem rB{rs:List Row}{ls:List (List (Ck 2))}{H F:cR}{la:Option Addr}{ln lc:Nat}{I:cS}(hS:Sl I 1 Row.enc la ln rs)(hH:dI 2 174 rs ls H)(hb:Bd ls)(hrs:rs.length≤1000000000):cU P 40 #[.slice la ln lc] I (H++F) fun e I' G=>e=.returned (.bool true)∧G=F :=
 gu (zv:=.agg #[.int .u8 0,.int .i64 0]) (B:=16) pY.vc (by decide) (fun _=>rfl) (fun _=>rfl) (fun v u hu=>List.all_eq_true.1 (rfl:List.all [Value.int .u8 0,Value.int .i64 v] (fun u=>u.oneCell')=true) u hu) (by kernel_rfl) (by kernel_rfl) rfl (by decide) (by decide) (by kernel_rfl) (by kernel_rfl) hS hH hb hrs
theorem uf{rs:List Row}{ls:List (List (Ck 11))}{H F:cR}{la:Option Addr}{ln lc:Nat}{I:cS}(hS:Sl I 1 Row.enc la ln rs)(hH:dI 11 179 rs ls H)(hb:Bd ls)(hrs:rs.length≤1000000000):cU P 41 #[.slice la ln lc] I (H++F) fun e I' G=>e=.returned (.bool true)∧G=F :=
 gu (zv:=.agg #[.int .u8 0,.int .u8 0,.int .i64 0,.int .i64 0,.int .i64 0,.int .i64 0,.int .i64 0,.int .i64 0,.int .i64 0,.int .i64 0,.int .i64 0]) (B:=80) sE.vc (by decide) (fun _=>rfl) (fun _=>rfl) (fun v u hu=>List.all_eq_true.1 (rfl:List.all [Value.int .u8 0,Value.int .u8 0,Value.int .i64 v,Value.int .i64 0,Value.int .i64 0,Value.int .i64 0,Value.int .i64 0,Value.int .i64 0,Value.int .i64 0,Value.int .i64 0,Value.int .i64 0] (fun u=>u.oneCell')=true) u hu) (by kernel_rfl) (by kernel_rfl) rfl (by decide) (by decide) (by kernel_rfl) (by kernel_rfl) hS hH hb hrs
theorem rC{rs:List Row}{ls:List (List (Ck 5))}{H F:cR}{la:Option Addr}{ln lc:Nat}{I:cS}(hS:Sl I 1 Row.enc la ln rs)(hH:dI 5 184 rs ls H)(hb:Bd ls)(hrs:rs.length≤1000000000) :
  cU P 42 #[.slice la ln lc] I (H++F) fun e I' G=>e=.returned (.bool true)∧G=F:=by
 refine qc.keep ?_
 have hln:=hS.1
 refine gX.vc
  (fun i m I0 F0 I' F'=>0≤i∧i≤ln∧m=(ln-i).toNat∧∃ls H,dI 5 184 rs ls H∧F'.Perm (H++F)∧Bd ls∧∀(j:Nat) l,(j:Int)<i→ls[j]? = some l→gR 0 oS j l)
  (fun i k m I0 F0 I' F'=>0≤i∧0≤k∧∃r,rs[i.toNat]? = some r∧k≤r.n∧m=(r.n-k).toNat∧∃ls H,dI 5 184 rs ls H∧F'.Perm (H++F)∧Bd ls∧(∀(j:Nat) l,(j:Int)<i→ls[j]? = some l→gR 0 oS j l) ∧
    ∀l,ls[i.toNat]? = some l→z0 0 oS i k l)
  (fun a n c i m I0 F0 I' F'=>0≤i∧i≤ln∧m=(ln-i).toNat∧∃ls H xs Al,dI 5 184 (rs.drop i.toNat) (ls.drop i.toNat) H∧Acc 1 Row.enc 180 a n c xs Al∧F'.Perm (Al++(H++F))∧(xs.length:Int)=i∧Bd ls ∧
    (∀(j:Nat) l,ls[j]? = some l→gR 0 oS j l)∧∀(j:Nat) r x,(j:Int)<i→rs[j]? = some r→xs[j]? = some x→o1 (z:=5) 0 8 oS wZ I' j r x)
  (fun a n c i xa xn xc k m I0 F0 I' F'=>0≤i∧i<ln∧0≤k∧k≤8∧m=(8-k).toNat∧∃(ls:List (List (Ck 5))) (H:cR) (xs:List Row) (Al:cR) (r:Row) (l t:List (Ck 5)) (A:cR),rs[i.toNat]? = some r∧dI 5 184 (rs.drop (i.toNat+1)) (ls.drop (i.toNat+1)) H∧Acc 1 Row.enc 180 a n c xs Al ∧
    Acc 5 cv 184 xa xn xc (l++t) A∧F'.Perm (A++(Al++(H++F)))∧(xs.length:Int)=i∧Bd ls∧(∀(j:Nat) l,ls[j]? = some l→gR 0 oS j l)∧gR 0 oS i l∧(t.length:Int)=k∧gR 0 wZ i t∧r.n=l.length∧l.length≤1000000000 ∧
    (xa=r.a∨Sl I' 5 cv r.a r.n l)∧∀(j:Nat) r x,(j:Int)<i→rs[j]? = some r→xs[j]? = some x→o1 (z:=5) 0 8 oS wZ I' j r x)
  (fun a n c x i m I0 F0 I' F'=>0≤i∧i≤ln∧m=(ln-i).toNat∧(∃A,F'.Perm (A++F))∧∃xs,mX I' F' 1 Row.enc a n xs∧xs.length=ln∧∀(j:Nat) r x,rs[j]? = some r→xs[j]? = some x→o1 (z:=5) 0 8 oS wZ I' j r x)
  (fun a n c i nn x k m I0 F0 I' F'=>0≤i∧i<ln∧0≤k∧(∃r,rs[i.toNat]? = some r∧nn=r.n∧r.n≤1000000000∧k≤r.n∧m=(r.n-k).toNat)∧(∃A,F'.Perm (A++F))∧∃xs,mX I' F' 1 Row.enc a n xs∧xs.length=ln∧∀(j:Nat) r x,rs[j]? = some r→xs[j]? = some x→o1 (z:=5) 0 8 oS wZ I' j r x)
  (fun a n c i nn x k m I0 F0 I' F'=>0≤i∧i<ln∧0≤k∧k≤8∧m=(8-k).toNat∧(∃r,rs[i.toNat]? = some r∧nn=r.n∧r.n≤1000000000)∧(∃A,F'.Perm (A++F))∧∃xs,mX I' F' 1 Row.enc a n xs∧xs.length=ln∧∀(j:Nat) r x,rs[j]? = some r→xs[j]? = some x→o1 (z:=5) 0 8 oS wZ I' j r x) ?_
 unfold gX.V
 refine⟨⟨_,by omega,by omega,rfl,ls,H,hH,.refl _,hb,fun j l hj=>by omega⟩, ?_⟩
 intro i m1 I1 F1 hI1 ⟨i0,i1,im,ls1,H1,hH1,hp1,hb1,hm1⟩
 have hS1:=hS.mono hI1
 refine⟨fun hlt=>?_,fun hlt=>?_⟩
 ·-- the marks of row i
  have hlt:=of_decide_eq_true hlt
  obtain⟨ad,r,had,hr,hrd⟩:=hS1.at (i:=i) i0 (by omega)
  refine⟨⟨_,i0,by omega,r,hr,by omega,rfl,ls1,H1,hH1,hp1,hb1,hm1,fun l _ q x _ hq=>by omega⟩, ?_⟩
  intro k m3 I2 F2 hI2 ⟨_,k0,r',hr',k1,km,ls2,H2,hH2,hp2,hb2,hm2,hmk⟩
  obtain rfl:r=r':=by rw[hr] at hr';exact Option.some.inj hr'
  have hrd2:=fun G=>(hrd G).mono hI2
  refine⟨⟨i0,by omega⟩,ad,had,_,_,_,hrd2 _,fun hk=>?_,fun hk=>?_⟩
  ·have hk:=of_decide_eq_true hk
   refine⟨⟨i0,by omega⟩,ad,had,_,_,_,hrd2 _,j4 i k,(mr i k I2 _).mono fun e I' G _ ⟨h1,h2⟩=>⟨h1,by rw[h2]⟩,⟨k0,by omega⟩, ?_⟩
   obtain⟨l,A,R,hl,hA,hpA,hset⟩:=hH2.focus hr
   obtain⟨b,cs,ha,hAe,hlen,hA'⟩:=hA.put (k:=k.toNat) (o:=0) (by omega) (by decide) (oS i k)
   obtain⟨H3,hH3,hp3⟩:=hset _ _ hA'
   subst hAe
   refine⟨⟨b,0,none⟩,ha,cs,184,R++F, ?_, ?_, ?_,m3-1,by omega, ?_⟩
   ·rw[ou];exact hp2.trans (List.Perm.append_right F hpA)
   ·rw[ou]
   ·rw[ou];exact hlen
   ·rw[ou,ef (by have:=hb2 _ _ hl;have:=hA.1;omega)]
    refine⟨i0,by omega,r,hr,by omega,by omega,_,H3,hH3, ?_,hb2.set hl _,te hm2 _ i0,fun l' hl'=>?_⟩
    ·exact (List.Perm.append_right F hp3).symm
    ·have hlt2:i.toNat<ls2.length:=(List.getElem?_eq_some_iff.1 hl).1
     rw[List.getElem?_set_self hlt2] at hl'
     obtain rfl:l.modify k.toNat (yR 0 (oS i k))=l':=Option.some.inj hl'
     exact (hmk l hl).step (by decide) k0
  ·have hk:=of_decide_eq_false hk
   rw[ef (by omega)]
   refine⟨_, ?_,by omega,by omega,rfl,ls2,H2,hH2,hp2,hb2,fun j l hj hl=>?_⟩
   ·omega
   ·rcases Int.lt_or_eq_of_le (Int.lt_add_one_iff.1 hj) with h | h
    ·exact hm2 j l h hl
    ·have hji:j=i.toNat:=by omega
     subst hji
     have hmk':=hmk l hl
     obtain⟨l',A,R,hl',hA,_⟩:=hH2.focus hr
     obtain rfl:l'=l:=by rw[hl'] at hl;exact Option.some.inj hl
     intro q x hx
     have hq:=(List.getElem?_eq_some_iff.1 hx).1
     rw[h]
     exact hmk' q x hx (by have:=hA.1;omega)
 ·-- the rows grow
  have hlt:=of_decide_eq_false hlt
  have hall:∀(j:Nat) l,ls1[j]? = some l→gR 0 oS j l:=fun j l hl=>hm1 j l (by have:=hH1.len;have:=(List.getElem?_eq_some_iff.1 hl).1;omega) hl
  refine⟨⟨_,by omega,by omega,rfl,ls1,H1,[],[],hH1,Acc.nil,hp1,rfl,hb1,hall,fun j r x hj=>by omega⟩, ?_⟩
  intro a n c i m7 I4 F4 hI4 ⟨i0,i1,im,ls4,H4,xs,Al,hH4,hAl,hp4,hxl,hb4,hm4,hd4⟩
  have hS4:=hS1.mono hI4
  refine⟨fun hlt=>?_,fun hlt=>?_⟩
  ·have hlt:=of_decide_eq_true hlt
   obtain⟨ad,r,had,hr,hrd⟩:=hS4.at (i:=i) i0 (by omega)
   obtain⟨l,A,H5,hl,hHe,hA,hH5⟩:=hH4.drop hr
   subst hHe
   refine⟨⟨i0,by omega⟩,ad,had,_,_,_,hrd _,⟨_,i0,by omega,by omega,by omega,rfl,ls4,H5,xs,Al,r,l,[],A,hr,hH5,hAl,by rw[List.append_nil];exact hA, ?_,hxl,hb4,hm4,by have:=hm4 _ _ hl;rwa [Int.toNat_of_nonneg i0] at this,rfl,fun q x hx=>by simp at hx,hA.1,hb4 _ _ hl,.inl rfl,hd4⟩, ?_⟩
   ·refine hp4.trans ?_
    rw[List.append_assoc A H5 F,←List.append_assoc Al A,←List.append_assoc A Al]
    exact List.Perm.append_right _ List.perm_append_comm
   intro xa xn xc k m9 I5 F5 hI5 ⟨_,_,k0,k1,km,ls5,H5',xs5,Al5,r5,l5,t5,A5,hr5,hH5',hAl5,hA5,hp5,hxl5,hb5,hm5,hml5,ht5,hmt5,hrn5,hl5,hor5,hd5⟩
   obtain rfl:r=r5:=by rw[hr] at hr5;exact Option.some.inj hr5
   refine⟨fun hk=>?_,fun hk=>?_⟩
   ·have hk:=of_decide_eq_true hk
    refine cU.ret (j7 i k I5 _) fun I6 hI6=>⟨_,rfl,F5,.refl _, ?_⟩
    intro b I7 hI7 hb7
    let y:Ck 5:=⟨[wZ i k,.int .i64 0,.int .u16 0,.int .u16 0,.slice none 0 0],rfl⟩
    refine dm.perm (dm.mono (eJ (f:=cv) (z:=5) (zv:=.agg #[.int .i64 0,.int .i64 0,.int .u16 0,.int .u16 0,.slice none 0 0]) nA (by':=48) (by kernel_rfl) (by kernel_rfl) rfl (by decide) hA5 (xs:=[y]) ?_ (by simp) rfl ?_ ?_ (F:=Al5++(H5'++F)))
     fun v I8 G3 hI8 ⟨a',n',c',A',hv,hA',hG,hor⟩=>?_) hp5
    ·intro x hx u hu
     rw[List.mem_singleton] at hx;subst hx
     exact List.all_eq_true.1 (show (cv y).all (fun u=>u.oneCell')=true from rfl) u hu
    ·exact⟨rfl,_,_,_,.inl hb7,fun j hj=>by simp[y,cv,wZ]⟩
    ·rw[List.length_append];simp only[List.length_cons,List.length_nil];omega
    subst hG
    have hle8:cS.le I5 I8:=cS.le_trans hI6 (cS.le_trans hI7 hI8)
    refine⟨_,_,_,hv,_,.refl _,m9-1,by omega,i0,by omega,by rw[ef (by omega)];omega,by rw[ef (by omega)];omega,by rw[ef (by omega)];omega,
     ls5,H5',xs5,Al5,r,l5,t5++[y],A',hr,hH5',hAl5,by rw[←List.append_assoc];exact hA',.refl _,hxl5,hb5,hm5,hml5, ?_, ?_,hrn5,hl5, ?_,fun j r x hj hr hx=>(hd5 j r x hj hr hx).mono hle8⟩
    ·rw[ef (by omega),List.length_append,List.length_singleton];omega
    ·refine hmt5.snoc ?_
     show some (wZ i k)=_
     rw[ht5]
    ·rcases hor5 with h | h
     ·rcases hor with h' | h'
      ·exact .inl (h'.trans h)
      ·right
       rw[←h,hrn5]
       exact Sl.prefix h'
     ·exact .inr (h.mono hle8)
   ·have hk:=of_decide_eq_false hk
    intro b1 I9 hI9 hb9
    refine dm.pre fun w hw=>?_
    obtain⟨J,hJ,hsJ,hSx⟩:=hA5.keep nA (hw.perm hp5)
    have hle9:cS.le I5 J:=cS.le_trans hI9 hJ
    refine⟨J,_,hJ,hsJ, ?_⟩
    refine dm.mono (eJ (f:=Row.enc) (z:=1) (zv:=.slice none 0 0) (fun _=>rfl) (by':=24) (by kernel_rfl) (by kernel_rfl) rfl (by decide) hAl5 (xs:=[⟨xa,xn,xc⟩]) (fun x _=>rp x) (by simp) rfl ?_ ?_ (F:=H5'++F))
     fun v I10 G4 hI10 ⟨a',n',c',A',hv,hA',hG,hor⟩=>?_
    ·exact⟨rfl,_,_,_,.inl (hJ.at hb9),fun j hj=>by simp[Row.enc]⟩
    ·simp only[List.length_cons,List.length_nil];omega
    subst hG
    have hle10:cS.le I5 I10:=cS.le_trans hle9 hI10
    refine⟨_,_,_,hv,_,.refl _,m7-1,by omega,by rw[ef (by omega)];omega,by rw[ef (by omega)];omega,by rw[ef (by omega)];omega,ls5,H5',xs5++[⟨xa,xn,xc⟩],A', ?_,hA',.refl _, ?_,hb5,hm5, ?_⟩
    ·rw[ef (by omega),show (i+1).toNat=i.toNat+1 by omega];exact hH5'
    ·rw[ef (by omega),List.length_append,List.length_singleton];omega
    ·intro j r' x' hj hr' hx'
     rw[ef (by omega)] at hj
     rcases Int.lt_or_eq_of_le (Int.lt_add_one_iff.1 hj) with h | h
     ·rw[List.getElem?_append_left (by omega)] at hx'
      exact (hd5 j r' x' h hr' hx').mono hle10
     ·have hji:j=i.toNat:=by omega
      subst hji
      obtain rfl:r=r':=by rw[hr] at hr';exact Option.some.inj hr'
      have hx2:x'=⟨xa,xn,xc⟩:=by
       have:i.toNat=xs5.length:=by omega
       rw[this,List.getElem?_append_right (Nat.le_refl _),Nat.sub_self] at hx'
       simpa using hx'.symm
      subst hx2
      rw[h]
      refine⟨l5,t5, ?_,hml5,hSx.mono hI10,by omega,hmt5⟩
      rcases hor5 with h' | h'
      ·rw[←h',hrn5];exact (Sl.prefix hSx).mono hI10
      ·exact h'.mono hle10
  ·-- the look at all of them
   have hlt:=of_decide_eq_false hlt
   have hxs:xs.length=ln:=by omega
   refine⟨⟨_,by omega,by omega,rfl,⟨Al++H4,by rw[List.append_assoc];exact hp4⟩,xs,(Acc.Ca (z:=1) (f:=Row.enc) (fun _=>rfl) hAl I4 (G:=F4) fun x hx=>hp4.mem_iff.2 (List.mem_append_left _ hx)),hxs,
    fun j r x hr hx=>hd4 j r x (by have:=(List.getElem?_eq_some_iff.1 hx).1;omega) hr hx⟩, ?_⟩
   intro x i m13 I11 F9 hI11 ⟨i0,i1,im,⟨A9,hp9⟩,xs,hsl,hxs,hd⟩
   have hS11:=hS4.mono hI11
   refine⟨fun hlt=>?_,fun hlt=>⟨rfl,A9,hp9⟩⟩
   have hlt:=of_decide_eq_true hlt
   obtain⟨ad,r,had,hr,hrd⟩:=hS11.at (i:=i) i0 (by omega)
   obtain⟨adx,xr,hadx,hxr,hrdx⟩:=hsl.at (i:=i) i0 (by have:=hsl.1;omega)
   have hrn:r.n≤1000000000:=by
    obtain⟨l,A,R,hl,hA,_⟩:=hH.focus hr
    have:=hb _ _ hl
    have:=hA.1
    omega
   refine⟨⟨i0,by omega⟩,ad,had,_,_,_,hrd _,⟨_,i0,by omega,by omega,⟨r,hr,rfl,hrn,by omega,rfl⟩,⟨A9,hp9⟩,xs,hsl,hxs,hd⟩, ?_⟩
   intro x1 k m15 I12 F10 hI12 ⟨_,_,k0,⟨r',hr',hnn,_,k1,km⟩,⟨A10,hp10⟩,xs2,hsl2,hxs2,hd2⟩
   obtain rfl:r=r':=by rw[hr] at hr';exact Option.some.inj hr'
   obtain⟨adx2,xr2,hadx2,hxr2,hrdx2⟩:=hsl2.at (i:=i) i0 (by have:=hsl2.1;omega)
   obtain⟨l,t,hSl,hml,hSx,htl,hmt⟩:=hd2 _ _ _ hr hxr2
   have hrl:=hSl.1
   have hxl:=hSx.1
   rw[List.length_append] at hxl
   have hrd2:=fun G=>(hrd G).mono hI12
   have hii:((i.toNat:Nat):Int)=i:=Int.toNat_of_nonneg i0
   rw[hii] at hml hmt
   refine⟨fun hk=>?_,fun hk=>?_⟩
   ·have hk:=of_decide_eq_true hk
    obtain⟨ad6,y,ha6,hy,hrd6⟩:=hSl.at (i:=k) k0 (by omega)
    have hyv:=hml _ _ hy
    have hkk:((k.toNat:Nat):Int)=k:=Int.toNat_of_nonneg k0
    rw[hkk] at hyv
    obtain⟨ad8,y',ha8,hy',hrd8⟩:=hSx.at (i:=k) k0 (by omega)
    obtain rfl:y=y':=by
     rw[List.getElem?_append_left (by omega),hy] at hy';exact Option.some.inj hy'
    have hsp:∀X:cR,cU P 87 #[.int .i64 i,.int .i64 k] I12 X fun e I' G=>e=.returned (.int .i64 (j4 i k))∧G.Perm X:=fun X=>(mr i k I12 X).mono fun e I' G _ ⟨h1,h2⟩=>⟨h1,by rw[h2]⟩
    refine⟨⟨i0,by omega⟩,ad,had,_,_,_,hrd2 _,⟨k0,by omega⟩,ad6,ha6,j4 i k,(hrd6 _).du (p:=0) (q:=0) hyv,j4 i k,hsp _,fun h=>by simp at h,fun _=>⟨⟨i0,by have:=hsl2.1;omega⟩,adx2,hadx2,_,_,_,hrdx2,⟨k0,by omega⟩,ad8,ha8,j4 i k,(hrd8 _).du (p:=0) (q:=0) hyv,j4 i k,hsp _,fun h=>by simp at h,fun _=>?_⟩⟩
    rw[ef (by omega)]
    exact⟨_,by omega,i0,by omega,by omega,⟨r,hr,hnn,hrn,by omega,rfl⟩,⟨A10,hp10⟩,xs2,hsl2,hxs2,hd2⟩
   ·have hk:=of_decide_eq_false hk
    refine⟨⟨_,i0,by omega,by omega,by omega,rfl,⟨r,hr,rfl,hrn⟩,⟨A10,hp10⟩,xs2,hsl2,hxs2,hd2⟩, ?_⟩
    intro x2 k3 m20 I15 F11 hI15 ⟨_,_,k0',k1',km',⟨r',hr',hnn',_⟩,⟨A11,hp11⟩,xs3,hsl3,hxs3,hd3⟩
    refine⟨fun hk=>?_,fun hk=>?_⟩
    ·have hk:=of_decide_eq_true hk
     obtain⟨adx3,xr3,hadx3,hxr3,hrdx3⟩:=hsl3.at (i:=i) i0 (by have:=hsl3.1;omega)
     obtain⟨l3,t3,hSl3,hml3,hSx3,htl3,hmt3⟩:=hd3 _ _ _ hr hxr3
     have hrl3:=hSl3.1
     have hxl3:=hSx3.1
     rw[List.length_append] at hxl3
     rw[hii] at hmt3
     rw[ef (by omega)]
     obtain⟨ad10,y,ha10,hy,hrd10⟩:=hSx3.at (i:=((r.n:Nat):Int)+k3) (by omega) (by omega)
     rw[List.getElem?_append_right (by omega),show (((r.n:Nat):Int)+k3).toNat-l3.length=k3.toNat by omega] at hy
     have hyv:=hmt3 _ _ hy
     have hkk:((k3.toNat:Nat):Int)=k3:=Int.toNat_of_nonneg k0'
     rw[hkk] at hyv
     refine⟨⟨i0,by have:=hsl3.1;omega⟩,adx3,hadx3,_,_,_,hrdx3,⟨by omega,by omega⟩,ad10,ha10,j5 i k3,(hrd10 _).du (p:=0) (q:=0) hyv,j5 i k3,(j7 i k3 I15 _).mono fun e I' G _ ⟨h1,h2⟩=>⟨h1,by rw[h2]⟩,fun h=>by simp at h,fun _=>?_⟩
     rw[ef (by omega)]
     exact⟨_,by omega,i0,by omega,by omega,by omega,rfl,⟨r,hr,rfl,hrn⟩,⟨A11,hp11⟩,xs3,hsl3,hxs3,hd3⟩
    ·rw[ef (by omega)]
     exact⟨_,by omega,by omega,by omega,rfl,⟨A11,hp11⟩,xs3,hsl3,hxs3,hd3⟩
end Go.Lx
namespace Go.Lx
open Go.Vc Go.Proofs.Tryz
def w7:List (Nat×List Sh):=[(2,[.one (.int .i64)]),(3,[.one (.int .i64)]),(4,[.one .bool]),(24,[.one .slc]),(25,[.one .slc]),(26,[.one .slc]),(27,[.one .slc]),(28,[.one .slc]),(29,[.one .slc]),(30,[.one .slc]),(31,[.one .slc]),(32,[.one .slc]),(33,[.one .slc]),(34,[.one .slc]),(35,[.one .slc]),(180,[.one .slc]),(185,[.one .slc])]
def iC.V(vi:Int→Value)(vl:OA→Nat→Nat→Value)(vt:Bool→Value)(wr:Int→Int)(g:OA)(f a1:Nat)(I:cS)(F:cR)(Q:cT)(Inv8:Int→Nat→cS→cR→cS→cR→Prop)(Inv20:Int→Int→Nat→cS→cR→cS→cR→Prop)(Inv36:OA→Nat→Nat→Int→Nat→cS→cR→cS→cR→Prop)(Inv51:OA→Nat→Nat→Int→OA→Nat→Nat→Int→Nat→cS→cR→cS→cR→Prop)(Inv68:OA→Nat→Nat→Bool→Int→Nat→cS→cR→cS→cR→Prop)(Inv83:OA→Nat→Nat→Int→Int→Bool→Int→Nat→cS→cR→cS→cR→Prop)(Inv103:OA→Nat→Nat→Int→Int→Bool→Int→Nat→cS→cR→cS→cR→Prop):Prop:=(∃m:Nat,Inv8 0 m I F I F)∧∀(i:Int) (m1:Nat) (I1:cS) (F1:cR),cS.le I I1→Inv8 i m1 I F I1 F1→(Dt (i<(f:Int)) ((∃m2:Nat,Inv20 i 0 m2 I1 F1 I1 F1)∧∀(k:Int) (m3:Nat) (I2:cS) (F2:cR),cS.le I1 I2→Inv20 i k m3 I1 F1 I2 F2→((0≤i∧i<(f:Int))∧∃ad:Addr,g=some ad∧∃(aW:OA) (h aX:Nat),Rd I2 F2 (ad.add (Int.toNat i*1)) [vl aW h aX]∧(Dt (k<(h:Int)) ((0≤i∧i<(f:Int))∧∃ay:Addr,g=some ay∧∃(aL:OA) (aM aN:Nat),Rd I2 F2 (ay.add (Int.toNat i*1)) [vl aL aM aN]∧∃(r:Int),(cU P 87 #[vi i,vi k] I2 F2 fun e1 I3 G1=>e1=.returned (vi r)∧List.Perm G1 F2)∧False) (∃m4:Nat,m4<m1∧Inv8 (wr (i+1)) m4 I F I2 F2)))) ((∃m5:Nat,Inv36 none 0 0 0 m5 I1 F1 I1 F1)∧∀(a:OA) (c d:Nat) (i1:Int) (m6:Nat) (I4:cS) (F3:cR),cS.le I1 I4→Inv36 a c d i1 m6 I1 F1 I4 F3→(Dt (i1<(f:Int)) ((0≤i1∧i1<(f:Int))∧∃az:Addr,g=some az∧∃(j:OA) (l n:Nat),Rd I4 F3 (az.add (Int.toNat i1*1)) [vl j l n]∧(∃m7:Nat,Inv51 a c d i1 j l n 0 m7 I4 F3 I4 F3)∧∀(o:OA) (p q:Nat) (k1:Int) (m8:Nat) (I5:cS) (F4:cR),cS.le I4 I5→Inv51 a c d i1 o p q k1 m8 I4 F3 I5 F4→(Dt (k1<8) (eZ P 88 #[vi i1,vi k1] I5 (·) F4 vi fun r1 I6 F5=>∀(b:Nat) (I7:cS),cS.le I6 I7→I7 b=some (Obj.cells #[vi r1,vi 0,.int .u16 0,.int .u16 0,vl none 0 0] 184 (0,0))→∀(b1:Nat) (I8:cS),cS.le I7 I8→I8 b1=some (Obj.cells #[vl (some ⟨b,0,none⟩) 1 1] 180 (0,0))→dm P (Builtin.append_ #[32,32] 32 #[vl o p q,vl (some ⟨b1,0,none⟩) 1 1]) I8 F5 fun v I9 G3=>∃(aq:OA) (ar au:Nat),v=vl aq ar au∧∃F6:cR,List.Perm G3 F6∧(∃m9:Nat,m9<m8∧Inv51 a c d i1 aq ar au (wr (k1+1)) m9 I4 F3 I9 F6)) (∀(b2:Nat) (I10:cS),cS.le I5 I10→I10 b2=some (Obj.cells #[vl o p q] 32 (0,0))→dm P (Builtin.append_ #[34,34] 34 #[vl a c d,vl (some ⟨b2,0,none⟩) 1 1]) I10 F4 fun v1 I11 G4=>∃(s:OA) (t u:Nat),v1=vl s t u∧∃F7:cR,List.Perm G4 F7∧(∃aA:Nat,aA<m6∧Inv36 s t u (wr (i1+1)) aA I1 F1 I11 F7)))) ((∃aY:Nat,Inv68 a c d false 0 aY I4 F3 I4 F3)∧∀(x:Bool) (i2:Int) (av:Nat) (I12:cS) (F8:cR),cS.le I4 I12→Inv68 a c d x i2 av I4 F3 I12 F8→(Dt (i2<(f:Int)) ((0≤i2∧i2<(f:Int))∧∃aB:Addr,g=some aB∧∃(aO:OA) (e aP:Nat),Rd I12 F8 (aB.add (Int.toNat i2*1)) [vl aO e aP]∧(∃aZ:Nat,Inv83 a c d i2 (e:Int) x 0 aZ I12 F8 I12 F8)∧∀(x1:Bool) (k2:Int) (aw:Nat) (I13:cS) (F9:cR),cS.le I12 I13→Inv83 a c d i2 (e:Int) x1 k2 aw I12 F8 I13 F9→(Dt (k2<(e:Int)) ((0≤i2∧i2<(f:Int))∧∃aC:Addr,g=some aC∧∃(w:OA) (y aQ:Nat),Rd I13 F9 (aC.add (Int.toNat i2*1)) [vl w y aQ]∧((0≤k2∧k2<(y:Int))∧∃aD:Addr,w=some aD∧∃(z:OA) (aa aR:Nat),Rd I13 F9 (aD.add (Int.toNat k2*1)) [vl z aa aR]∧((0≤(0:Int)∧(0:Int)<(aa:Int))∧∃aE:Addr,z=some aE∧∃(ab:Int),Rd I13 F9 (((aE.add (Int.toNat 0*5)).add 0).add 0) [vi ab]∧∃(r2:Int),(cU P 87 #[vi i2,vi k2] I13 F9 fun e3 I14 G5=>e3=.returned (vi r2)∧List.Perm G5 F9)∧(It (ab != r2) (Q (.returned (vt false)) I13 F9) ((0≤i2∧i2<(c:Int))∧∃aF:Addr,a=some aF∧∃(ac:OA) (ae aS:Nat),Rd I13 F9 (aF.add (Int.toNat i2*1)) [vl ac ae aS]∧((0≤k2∧k2<(ae:Int))∧∃aG:Addr,ac=some aG∧∃(af:OA) (ag aT:Nat),Rd I13 F9 (aG.add (Int.toNat k2*1)) [vl af ag aT]∧((0≤(0:Int)∧(0:Int)<(ag:Int))∧∃aH:Addr,af=some aH∧∃(ah:Int),Rd I13 F9 (((aH.add (Int.toNat 0*5)).add 0).add 0) [vi ah]∧∃(r3:Int),(cU P 87 #[vi i2,vi k2] I13 F9 fun e4 I15 G6=>e4=.returned (vi r3)∧List.Perm G6 F9)∧(It (ah != r3) (Q (.returned (vt false)) I13 F9) (∃aI:Nat,aI<aw∧Inv83 a c d i2 (e:Int) x1 (wr (k2+1)) aI I12 F8 I13 F9))))))))) ((∃a0:Nat,Inv103 a c d i2 (e:Int) x1 0 a0 I13 F9 I13 F9)∧∀(x2:Bool) (k3:Int) (ax:Nat) (I16:cS) (F10:cR),cS.le I13 I16→Inv103 a c d i2 (e:Int) x2 k3 ax I13 F9 I16 F10→(Dt (k3<8) ((0≤i2∧i2<(c:Int))∧∃an:Addr,a=some an∧∃(ai:OA) (aj aU:Nat),Rd I16 F10 (an.add (Int.toNat i2*1)) [vl ai aj aU]∧((0≤(wr ((e:Int)+k3))∧(wr ((e:Int)+k3))<(aj:Int))∧∃ao:Addr,ai=some ao∧∃(ak:OA) (al aV:Nat),Rd I16 F10 (ao.add (Int.toNat (wr ((e:Int)+k3))*1)) [vl ak al aV]∧((0≤(0:Int)∧(0:Int)<(al:Int))∧∃ap:Addr,ak=some ap∧∃(am:Int),Rd I16 F10 (((ap.add (Int.toNat 0*5)).add 0).add 0) [vi am]∧∃(r4:Int),(cU P 88 #[vi i2,vi k3] I16 F10 fun e5 I17 G7=>e5=.returned (vi r4)∧List.Perm G7 F10)∧(It (am != r4) (Q (.returned (vt false)) I16 F10) (∃aJ:Nat,aJ<ax∧Inv103 a c d i2 (e:Int) x2 (wr (k3+1)) aJ I13 F9 I16 F10))))) (∃aK:Nat,aK<av∧Inv68 a c d x2 (wr (i2+1)) aK I4 F3 I16 F10))))) (Q (.returned (vt true)) I12 F8))))))
theorem iC.vc{a:OA}{b c:Nat}{I:cS}{F:cR}{Q:cT}(Inv8:Int→Nat→cS→cR→cS→cR→Prop)(Inv20:Int→Int→Nat→cS→cR→cS→cR→Prop)(Inv36:OA→Nat→Nat→Int→Nat→cS→cR→cS→cR→Prop)(Inv51:OA→Nat→Nat→Int→OA→Nat→Nat→Int→Nat→cS→cR→cS→cR→Prop)(Inv68:OA→Nat→Nat→Bool→Int→Nat→cS→cR→cS→cR→Prop)(Inv83:OA→Nat→Nat→Int→Int→Bool→Int→Nat→cS→cR→cS→cR→Prop)(Inv103:OA→Nat→Nat→Int→Int→Bool→Int→Nat→cS→cR→cS→cR→Prop)(h:iC.V (.int .i64) .slice .bool (IntKind.wrap .i64) a b c I F Q Inv8 Inv20 Inv36 Inv51 Inv68 Inv83 Inv103):cU P 43 #[.slice a b c] I F Q :=
 tw (A:=(dr [3003,6006,10003,14001,19003,23002,25014,25030,28001,30016] [] [87,88] w7 [(8,⟨[(4,(.int .i64))],[],fun fs I0 F0 vs m I F=>match fs,vs with | [],[.int _ y0]=>Inv8 y0 m I0 F0 I F | _,_=>False,[],[]⟩),(20,⟨[(5,(.int .i64))],[],fun fs I0 F0 vs m I F=>match fs,vs with | [.int _ y0],[.int _ y1]=>Inv20 y0 y1 m I0 F0 I F | _,_=>False,[4],[]⟩),(36,⟨[(3,.slc),(6,(.int .i64))],[],fun fs I0 F0 vs m I F=>match fs,vs with | [],[.slice y0 y1 y2,.int _ y3]=>Inv36 y0 y1 y2 y3 m I0 F0 I F | _,_=>False,[],[]⟩),(51,⟨[(7,.slc),(8,(.int .i64))],[],fun fs I0 F0 vs m I F=>match fs,vs with | [.slice y0 y1 y2,.int _ y3],[.slice y4 y5 y6,.int _ y7]=>Inv51 y0 y1 y2 y3 y4 y5 y6 y7 m I0 F0 I F | _,_=>False,[3,6],[]⟩),(68,⟨[(2,.bool),(9,(.int .i64))],[],fun fs I0 F0 vs m I F=>match fs,vs with | [.slice y0 y1 y2],[.bool y3,.int _ y4]=>Inv68 y0 y1 y2 y3 y4 m I0 F0 I F | _,_=>False,[3],[]⟩),(83,⟨[(2,.bool),(11,(.int .i64))],[],fun fs I0 F0 vs m I F=>match fs,vs with | [.slice y0 y1 y2,.int _ y3,.int _ y4],[.bool y5,.int _ y6]=>Inv83 y0 y1 y2 y3 y4 y5 y6 m I0 F0 I F | _,_=>False,[3,9,10],[]⟩),(103,⟨[(2,.bool),(12,(.int .i64))],[],fun fs I0 F0 vs m I F=>match fs,vs with | [.slice y0 y1 y2,.int _ y3,.int _ y4],[.bool y5,.int _ y6]=>Inv103 y0 y1 y2 y3 y4 y5 y6 m I0 F0 I F | _,_=>False,[3,9,10],[]⟩)] [16006,16007,17002] [] [] [] [] [])) [87,88] func43 h
def iD.V(vi:Int→Value)(vl:OA→Nat→Nat→Value)(vt:Bool→Value)(wr:Int→Int)(g:OA)(c aQ:Nat)(I:cS)(F:cR)(Q:cT)(Inv6:Int→Nat→cS→cR→cS→cR→Prop)(Inv18:Int→Nat→cS→cR→cS→cR→Prop)(Inv36:OA→Nat→Nat→Int→Nat→cS→cR→cS→cR→Prop)(Inv51:Int→Int→OA→Nat→Nat→Int→Nat→cS→cR→cS→cR→Prop)(Inv68:Int→Bool→Int→Nat→cS→cR→cS→cR→Prop)(Inv83:Int→Int→Int→Bool→Int→Nat→cS→cR→cS→cR→Prop)(Inv103:Int→Int→Int→Bool→Int→Nat→cS→cR→cS→cR→Prop):Prop:=(∃m:Nat,Inv6 0 m I F I F)∧∀(i:Int) (m1:Nat) (I1:cS) (F1:cR),cS.le I I1→Inv6 i m1 I F I1 F1→(Dt (i<(c:Int)) ((∃m2:Nat,Inv18 0 m2 I1 F1 I1 F1)∧∀(k:Int) (m3:Nat) (I2:cS) (F2:cR),cS.le I1 I2→Inv18 k m3 I1 F1 I2 F2→((0≤i∧i<(c:Int))∧∃ad:Addr,g=some ad∧∃(aL:OA) (j aM:Nat),Rd I2 F2 (ad.add (Int.toNat i*1)) [vl aL j aM]∧(Dt (k<(j:Int)) ((0≤i∧i<(c:Int))∧∃aq:Addr,g=some aq∧∃(l:OA) (n aF:Nat),Rd I2 F2 (aq.add (Int.toNat i*1)) [vl l n aF]∧((0≤k∧k<(n:Int))∧∃f:Addr,l=some f∧∃(cs:List Value) (el:Nat) (F3:cR),List.Perm F2 (((f.add (Int.toNat k*1)).block,Obj.cells cs.toArray el (0,0))::F3)∧(f.add (Int.toNat k*1)).spot=none∧(f.add (Int.toNat k*1)).off+1≤cs.length∧(∃m4:Nat,m4<m3∧Inv18 (wr (k+1)) m4 I1 F1 I2 (((f.add (Int.toNat k*1)).block,Obj.cells (c6 (f.add (Int.toNat k*1)).off [vi (wr ((wr (i*1000))+k))] cs).toArray el (0,0))::F3)))) (∃m5:Nat,m5<m1∧Inv6 (wr (i+1)) m5 I F I2 F2)))) ((∃m6:Nat,Inv36 none 0 0 0 m6 I1 F1 I1 F1)∧∀(d:OA) (e h:Nat) (i1:Int) (m7:Nat) (I3:cS) (F4:cR),cS.le I1 I3→Inv36 d e h i1 m7 I1 F1 I3 F4→(Dt (i1<(c:Int)) ((0≤i1∧i1<(c:Int))∧∃ar:Addr,g=some ar∧∃(o:OA) (p q:Nat),Rd I3 F4 (ar.add (Int.toNat i1*1)) [vl o p q]∧(∃m8:Nat,Inv51 i i1 o p q 0 m8 I3 F4 I3 F4)∧∀(r:OA) (s t:Nat) (k1:Int) (m9:Nat) (I4:cS) (F5:cR),cS.le I3 I4→Inv51 i i1 r s t k1 m9 I3 F4 I4 F5→(Dt (k1<16) (∀(b:Nat) (I5:cS),cS.le I4 I5→I5 b=some (Obj.cells #[vi (wr ((wr ((wr ((-1)-i1))*1000))-k1))] 2 (0,0))→dm P (Builtin.append_ #[185,185] 185 #[vl r s t,vl (some ⟨b,0,none⟩) 1 1]) I5 F5 fun v I6 G1=>∃(ak:OA) (al am:Nat),v=vl ak al am∧∃F6:cR,List.Perm G1 F6∧(∃au:Nat,au<m9∧Inv51 i i1 ak al am (wr (k1+1)) au I3 F4 I6 F6)) (∀(b1:Nat) (I7:cS),cS.le I4 I7→I7 b1=some (Obj.cells #[vl r s t] 185 (0,0))→dm P (Builtin.append_ #[35,35] 35 #[vl d e h,vl (some ⟨b1,0,none⟩) 1 1]) I7 F5 fun v1 I8 G2=>∃(u:OA) (w y:Nat),v1=vl u w y∧∃F7:cR,List.Perm G2 F7∧(∃av:Nat,av<m7∧Inv36 u w y (wr (i1+1)) av I1 F1 I8 F7)))) ((∃aN:Nat,Inv68 i false 0 aN I3 F4 I3 F4)∧∀(x:Bool) (i2:Int) (an:Nat) (I9:cS) (F8:cR),cS.le I3 I9→Inv68 i x i2 an I3 F4 I9 F8→(Dt (i2<(c:Int)) ((0≤i2∧i2<(c:Int))∧∃aw:Addr,g=some aw∧∃(aG:OA) (a aH:Nat),Rd I9 F8 (aw.add (Int.toNat i2*1)) [vl aG a aH]∧(∃aO:Nat,Inv83 i i2 (a:Int) x 0 aO I9 F8 I9 F8)∧∀(x1:Bool) (k2:Int) (ao:Nat) (I10:cS) (F9:cR),cS.le I9 I10→Inv83 i i2 (a:Int) x1 k2 ao I9 F8 I10 F9→(Dt (k2<(a:Int)) ((0≤i2∧i2<(c:Int))∧∃ax:Addr,g=some ax∧∃(z:OA) (aa aI:Nat),Rd I10 F9 (ax.add (Int.toNat i2*1)) [vl z aa aI]∧((0≤k2∧k2<(aa:Int))∧∃ay:Addr,z=some ay∧∃(ab:Int),Rd I10 F9 (ay.add (Int.toNat k2*1)) [vi ab]∧(It (ab != (wr ((wr (i2*1000))+k2))) (Q (.returned (vt false)) I10 F9) ((0≤i2∧i2<(e:Int))∧∃az:Addr,d=some az∧∃(ac:OA) (ae aJ:Nat),Rd I10 F9 (az.add (Int.toNat i2*1)) [vl ac ae aJ]∧((0≤k2∧k2<(ae:Int))∧∃aA:Addr,ac=some aA∧∃(af:Int),Rd I10 F9 (aA.add (Int.toNat k2*1)) [vi af]∧(It (af != (wr ((wr (i2*1000))+k2))) (Q (.returned (vt false)) I10 F9) (∃aB:Nat,aB<ao∧Inv83 i i2 (a:Int) x1 (wr (k2+1)) aB I9 F8 I10 F9))))))) ((∃aP:Nat,Inv103 i i2 (a:Int) x1 0 aP I10 F9 I10 F9)∧∀(x2:Bool) (k3:Int) (ap:Nat) (I11:cS) (F10:cR),cS.le I10 I11→Inv103 i i2 (a:Int) x2 k3 ap I10 F9 I11 F10→(Dt (k3<16) ((0≤i2∧i2<(e:Int))∧∃aC:Addr,d=some aC∧∃(ag:OA) (ah aK:Nat),Rd I11 F10 (aC.add (Int.toNat i2*1)) [vl ag ah aK]∧((0≤(wr ((a:Int)+k3))∧(wr ((a:Int)+k3))<(ah:Int))∧∃aj:Addr,ag=some aj∧∃(ai:Int),Rd I11 F10 (aj.add (Int.toNat (wr ((a:Int)+k3))*1)) [vi ai]∧(It (ai != (wr ((wr ((wr ((-1)-i2))*1000))-k3))) (Q (.returned (vt false)) I11 F10) (∃aD:Nat,aD<ap∧Inv103 i i2 (a:Int) x2 (wr (k3+1)) aD I10 F9 I11 F10)))) (∃aE:Nat,aE<an∧Inv68 i x2 (wr (i2+1)) aE I3 F4 I11 F10))))) (Q (.returned (vt true)) I9 F8))))))
theorem iD.vc{a:OA}{b c:Nat}{I:cS}{F:cR}{Q:cT}(Inv6:Int→Nat→cS→cR→cS→cR→Prop)(Inv18:Int→Nat→cS→cR→cS→cR→Prop)(Inv36:OA→Nat→Nat→Int→Nat→cS→cR→cS→cR→Prop)(Inv51:Int→Int→OA→Nat→Nat→Int→Nat→cS→cR→cS→cR→Prop)(Inv68:Int→Bool→Int→Nat→cS→cR→cS→cR→Prop)(Inv83:Int→Int→Int→Bool→Int→Nat→cS→cR→cS→cR→Prop)(Inv103:Int→Int→Int→Bool→Int→Nat→cS→cR→cS→cR→Prop)(h:iD.V (.int .i64) .slice .bool (IntKind.wrap .i64) a b c I F Q Inv6 Inv18 Inv36 Inv51 Inv68 Inv83 Inv103):cU P 44 #[.slice a b c] I F Q :=
 tw (A:=(dr [2003,5006,10003,14001,19003,23002,25011,25024,28001,30014] [] [] w7 [(6,⟨[(3,(.int .i64))],[],fun fs I0 F0 vs m I F=>match fs,vs with | [],[.int _ y0]=>Inv6 y0 m I0 F0 I F | _,_=>False,[],[]⟩),(18,⟨[(4,(.int .i64))],[],fun fs I0 F0 vs m I F=>match fs,vs with | [],[.int _ y0]=>Inv18 y0 m I0 F0 I F | _,_=>False,[],[]⟩),(36,⟨[(5,.slc),(6,(.int .i64))],[],fun fs I0 F0 vs m I F=>match fs,vs with | [],[.slice y0 y1 y2,.int _ y3]=>Inv36 y0 y1 y2 y3 m I0 F0 I F | _,_=>False,[],[]⟩),(51,⟨[(7,.slc),(8,(.int .i64))],[],fun fs I0 F0 vs m I F=>match fs,vs with | [.int _ y0,.int _ y1],[.slice y2 y3 y4,.int _ y5]=>Inv51 y0 y1 y2 y3 y4 y5 m I0 F0 I F | _,_=>False,[3,6],[]⟩),(68,⟨[(2,.bool),(9,(.int .i64))],[],fun fs I0 F0 vs m I F=>match fs,vs with | [.int _ y0],[.bool y1,.int _ y2]=>Inv68 y0 y1 y2 m I0 F0 I F | _,_=>False,[3],[]⟩),(83,⟨[(2,.bool),(11,(.int .i64))],[],fun fs I0 F0 vs m I F=>match fs,vs with | [.int _ y0,.int _ y1,.int _ y2],[.bool y3,.int _ y4]=>Inv83 y0 y1 y2 y3 y4 m I0 F0 I F | _,_=>False,[3,9,10],[]⟩),(103,⟨[(2,.bool),(12,(.int .i64))],[],fun fs I0 F0 vs m I F=>match fs,vs with | [.int _ y0,.int _ y1,.int _ y2],[.bool y3,.int _ y4]=>Inv103 y0 y1 y2 y3 y4 m I0 F0 I F | _,_=>False,[3,9,10],[]⟩)] [16006,17002] [] [] [] [] [])) [] func44 h
def gY.V(vl:OA→Nat→Nat→Value)(vt:Bool→Value)(b:OA)(I:cS)(F:cR)(Q:cT)  : Prop:=∃ad:Addr,b=some ad∧∃(an:OA) (ao ap:Nat),Rd I F (ad.add 0) [vl an ao ap]∧eZ P 33 #[vl an ao ap] I (·) F vt fun r I1 F1=>∃ar:Addr,b=some ar∧∃(h:OA) (i j:Nat),Rd I1 F1 (ar.add 1) [vl h i j]∧eZ P 34 #[vl h i j] I1 (·) F1 vt fun r1 I2 F2=>∃au:Addr,b=some au∧∃(k:OA) (l m:Nat),Rd I2 F2 (au.add 2) [vl k l m]∧eZ P 35 #[vl k l m] I2 (·) F2 vt fun r2 I3 F3=>∃av:Addr,b=some av∧∃(n:OA) (o p:Nat),Rd I3 F3 (av.add 3) [vl n o p]∧eZ P 36 #[vl n o p] I3 (·) F3 vt fun r3 I4 F4=>∃aw:Addr,b=some aw∧∃(q:OA) (s t:Nat),Rd I4 F4 (aw.add 6) [vl q s t]∧eZ P 37 #[vl q s t] I4 (·) F4 vt fun r4 I5 F5=>∃ax:Addr,b=some ax∧∃(u:OA) (v w:Nat),Rd I5 F5 (ax.add 5) [vl u v w]∧eZ P 38 #[vl u v w] I5 (·) F5 vt fun r5 I6 F6=>∃ay:Addr,b=some ay∧∃(x:OA) (y z:Nat),Rd I6 F6 (ay.add 4) [vl x y z]∧eZ P 39 #[vl x y z] I6 (·) F6 vt fun r6 I7 F7=>∃az:Addr,b=some az∧∃(aa:OA) (ab ac:Nat),Rd I7 F7 (az.add 7) [vl aa ab ac]∧eZ P 40 #[vl aa ab ac] I7 (·) F7 vt fun r7 I8 F8=>∃aA:Addr,b=some aA∧∃(ae:OA) (af ag:Nat),Rd I8 F8 (aA.add 9) [vl ae af ag]∧eZ P 41 #[vl ae af ag] I8 (·) F8 vt fun r8 I9 F9=>∃aB:Addr,b=some aB∧∃(ah:OA) (ai aj:Nat),Rd I9 F9 (aB.add 8) [vl ah ai aj]∧eZ P 42 #[vl ah ai aj] I9 (·) F9 vt fun r9 I10 F10=>∃al:Addr,b=some al∧∃(a:OA) (c d:Nat),Rd I10 F10 (al.add 10) [vl a c d]∧eZ P 43 #[vl a c d] I10 (·) F10 vt fun ak I11 F11=>∃am:Addr,b=some am∧∃(e:OA) (f g:Nat),Rd I11 F11 (am.add 11) [vl e f g]∧eZ P 44 #[vl e f g] I11 (·) F11 vt fun aq I12 F12=>(It r (It r1 (It r2 (It r3 (It r4 (It r5 (It r6 (It r7 (It r8 (It r9 (It ak (Q (.returned (vt aq)) I12 F12) (Q (.returned (vt false)) I12 F12)) (Q (.returned (vt false)) I12 F12)) (Q (.returned (vt false)) I12 F12)) (Q (.returned (vt false)) I12 F12)) (Q (.returned (vt false)) I12 F12)) (Q (.returned (vt false)) I12 F12)) (Q (.returned (vt false)) I12 F12)) (Q (.returned (vt false)) I12 F12)) (Q (.returned (vt false)) I12 F12)) (Q (.returned (vt false)) I12 F12)) (Q (.returned (vt false)) I12 F12))
theorem gY.vc{b:OA}{I:cS}{F:cR}{Q:cT}  (h:gY.V .slice .bool b I F Q):cU P 15 #[.pointer b] I F Q :=
 tw (A:=(an [13000,13002,13005,13008,13011,13014,13017,13020,13023,13026,13029] [33,34,35,36,37,38,39,40,41,42,43,44] w7)) [33,34,35,36,37,38,39,40,41,42,43,44] func15 h
end Go.Lx
namespace Go.Lx
open Go.Vc
theorem cU.pre{P:Program}{f:FuncId}{args:Array Value}{I:cS}{F:cR}{Q:Ending→cS→cR→Prop}(h:∀w,Sat I F w→∃J G,cS.le I J∧Sat J G w∧cU P f args J G Q):cU P f args I F Q:=fun w hw =>
 let ⟨J,G,hl,hs,ht⟩:=h w hw
 (ht w hs).mono fun e w' ⟨I',F',h1,h2,h3⟩=>⟨I',F',cS.le_trans hl h1,h2,h3⟩
def _root_.Go.Vc.Row.v(r:Row):Value:=.slice r.a r.n r.c
def eN(f:Nat)(r:Row)(H:cR):Prop:=∀(I:cS) (F:cR),cU P f #[r.v] I (H++F) fun e I' G=>e=.returned (.bool true)∧G=F
theorem kH{f z e S:Nat}(spec:∀{rs:List Row} {ls:List (List (Ck z))} {H F:cR} {la:Option Addr} {ln lc:Nat} {I:cS},Sl I 1 Row.enc la ln rs→dI z e rs ls H→Bd ls→rs.length≤1000000000 →
   cU P f #[.slice la ln lc] I (H++F) fun e I' G=>e=.returned (.bool true)∧G=F)
  {r:Row} {rs:List Row} {ls:List (List (Ck z))} {Al H:cR} (hA:Acc 1 Row.enc S r.a r.n r.c rs Al) (hH:dI z e rs ls H) (hb:Bd ls) (hl:rs.length≤1000000000):eN f r (Al++H):=by
 intro I F
 refine cU.pre fun w hw=>?_
 rw[List.append_assoc] at hw
 obtain⟨J,hJ,hs,hS⟩:=Acc.keep (z:=1) (f:=Row.enc) (fun _=>rfl) hA hw
 exact⟨J,_,hJ,hs,spec hS hH hb hl⟩
theorem qf{f z e:Nat}(spec:∀{rs:List Row} {ls:List (List (Ck z))} {H F:cR} {la:Option Addr} {ln lc:Nat} {I:cS},Sl I 1 Row.enc la ln rs→dI z e rs ls H→Bd ls→rs.length≤1000000000 →
   cU P f #[.slice la ln lc] I (H++F) fun e I' G=>e=.returned (.bool true)∧G=F):eN f ⟨none,0,0⟩ []:=fun I F =>
 spec (rs:=[]) (ls:=[]) (H:=[]) ⟨rfl,fun h=>absurd rfl h⟩ rfl (fun j l h=>by simp at h) (by decide)
theorem ug:eN 44 ⟨none,0,0⟩ []:=by
 intro I F
 refine iD.vc (fun i m I0 F0 I' F'=>i=0∧F'=F) (fun k m I0 F0 I' F'=>False) (fun a n c i m I0 F0 I' F'=>i=0∧F'=F) (fun _ _ _ _ _ _ _ _ _ _ _=>False)
  (fun _ x i m I0 F0 I' F'=>i=0∧F'=F) (fun _ _ _ _ _ _ _ _ _ _=>False) (fun _ _ _ _ _ _ _ _ _ _=>False) ?_
 unfold iD.V
 refine⟨⟨0,rfl,rfl⟩,fun i m1 I1 F1 _ ⟨hi,hF⟩=>?_⟩
 subst hi hF
 refine⟨fun h=>absurd h (by decide),fun _=>⟨⟨0,rfl,rfl⟩,fun a n c i m7 I4 F4 _ ⟨hi,hF⟩=>?_⟩⟩
 subst hi hF
 refine⟨fun h=>absurd h (by decide),fun _=>⟨⟨0,rfl,rfl⟩,fun x i m I11 F9 _ ⟨hi,hF⟩=>?_⟩⟩
 subst hi hF
 exact⟨fun h=>absurd h (by decide),fun _=>⟨rfl,rfl⟩⟩
def eH(rw:Nat→Row):Array Value:=#[(rw 0).v,(rw 1).v,(rw 2).v,(rw 3).v,(rw 4).v,(rw 5).v,(rw 6).v,(rw 7).v,(rw 8).v,(rw 9).v,(rw 10).v,(rw 11).v]
theorem gx{I:cS}{G:cR}{b:Nat}{cells:Array Value}(h:(b,Obj.cells cells 37 (0,0))∈G){k:Nat}{v:Value}(hv:cells[k]? = some v):Rd I G ((⟨b,0,none⟩:Addr).add k) [v]:=by
 rw[dv]
 refine⟨rfl,_,_,_,.inr h,fun j hj=>?_⟩
 have:j=0:=by simpa using hj
 subst this
 simpa using hv
theorem fF{f:Nat}{r:Row}{H R:cR}{I:cS}{b:Nat×Obj}{Q:Ending→cS→cR→Prop}(h:eN f r H)(k:∀I',cS.le I I'→Q (.returned (.bool true)) I' (b::R)):cU P f #[r.v] I (b::(H++R)) Q :=
 cU.perm ((h I (b::R)).mono fun e I' G hl ⟨he,hG⟩=>by subst he;subst hG;exact k I' hl) List.perm_middle.symm
theorem sI{rw:Nat→Row}{Hs:Nat→cR}{b:Nat}{I:cS}{F:cR}(h0:eN 33 (rw 0) (Hs 0))(h1:eN 34 (rw 1) (Hs 1))(h2:eN 35 (rw 2) (Hs 2))(h3:eN 36 (rw 3) (Hs 3))
  (h6:eN 37 (rw 6) (Hs 6)) (h5:eN 38 (rw 5) (Hs 5)) (h4:eN 39 (rw 4) (Hs 4)) (h7:eN 40 (rw 7) (Hs 7)) (h9:eN 41 (rw 9) (Hs 9)) (h8:eN 42 (rw 8) (Hs 8)) (h10:eN 43 (rw 10) (Hs 10)) (h11:eN 44 (rw 11) (Hs 11)) :
  cU P 15 #[.pointer (some ⟨b,0,none⟩)] I ((b,Obj.cells (eH rw) 37 (0,0))::(Hs 0++(Hs 1++(Hs 2++(Hs 3++(Hs 6++(Hs 5++(Hs 4++(Hs 7++(Hs 9++(Hs 8++(Hs 10++(Hs 11++F)))))))))))))
   fun e I' G=>e=.returned (.bool true)∧G=F:=by
 refine cU.keep (Q:=fun e I' G=>e=.returned (.bool true)∧G=(b,Obj.cells (eH rw) 37 (0,0))::F) ?_ fun e I' G w hl hs ⟨he,hG⟩=>⟨I',F,cS.le_refl _,by subst hG;exact hs.sub (List.sublist_cons_self _ _),he,rfl⟩
 refine gY.vc ?_
 unfold gY.V
 refine⟨_,rfl,_,_,_,gx (List.mem_cons_self ..) rfl,fF h0 fun I1 g1=>⟨_,rfl,_,.refl _, ?_⟩⟩
 refine⟨_,rfl,_,_,_,gx (List.mem_cons_self ..) rfl,fF h1 fun I1 g1=>⟨_,rfl,_,.refl _, ?_⟩⟩
 refine⟨_,rfl,_,_,_,gx (List.mem_cons_self ..) rfl,fF h2 fun I1 g1=>⟨_,rfl,_,.refl _, ?_⟩⟩
 refine⟨_,rfl,_,_,_,gx (List.mem_cons_self ..) rfl,fF h3 fun I1 g1=>⟨_,rfl,_,.refl _, ?_⟩⟩
 refine⟨_,rfl,_,_,_,gx (List.mem_cons_self ..) rfl,fF h6 fun I1 g1=>⟨_,rfl,_,.refl _, ?_⟩⟩
 refine⟨_,rfl,_,_,_,gx (List.mem_cons_self ..) rfl,fF h5 fun I1 g1=>⟨_,rfl,_,.refl _, ?_⟩⟩
 refine⟨_,rfl,_,_,_,gx (List.mem_cons_self ..) rfl,fF h4 fun I1 g1=>⟨_,rfl,_,.refl _, ?_⟩⟩
 refine⟨_,rfl,_,_,_,gx (List.mem_cons_self ..) rfl,fF h7 fun I1 g1=>⟨_,rfl,_,.refl _, ?_⟩⟩
 refine⟨_,rfl,_,_,_,gx (List.mem_cons_self ..) rfl,fF h9 fun I1 g1=>⟨_,rfl,_,.refl _, ?_⟩⟩
 refine⟨_,rfl,_,_,_,gx (List.mem_cons_self ..) rfl,fF h8 fun I1 g1=>⟨_,rfl,_,.refl _, ?_⟩⟩
 refine⟨_,rfl,_,_,_,gx (List.mem_cons_self ..) rfl,fF h10 fun I1 g1=>⟨_,rfl,_,.refl _, ?_⟩⟩
 refine⟨_,rfl,_,_,_,gx (List.mem_cons_self ..) rfl,fF h11 fun I1 g1=>⟨_,rfl,_,.refl _, ?_⟩⟩
 repeat (refine⟨fun _=>?_,fun h=>by (cases h)⟩)
 exact⟨rfl,rfl⟩
theorem uh:eN 43 ⟨none,0,0⟩ []:=by
 intro I F
 refine iC.vc (fun i m I0 F0 I' F'=>i=0∧F'=F) (fun _ k m I0 F0 I' F'=>False) (fun a n c i m I0 F0 I' F'=>i=0∧F'=F) (fun _ _ _ _ _ _ _ _ _ _ _ _ _=>False)
  (fun _ _ _ x i m I0 F0 I' F'=>i=0∧F'=F) (fun _ _ _ _ _ _ _ _ _ _ _ _=>False) (fun _ _ _ _ _ _ _ _ _ _ _ _=>False) ?_
 unfold iC.V
 refine⟨⟨0,rfl,rfl⟩,fun i m1 I1 F1 _ ⟨hi,hF⟩=>?_⟩
 subst hi hF
 refine⟨fun h=>absurd h (by decide),fun _=>⟨⟨0,rfl,rfl⟩,fun a n c i m7 I4 F4 _ ⟨hi,hF⟩=>?_⟩⟩
 subst hi hF
 refine⟨fun h=>absurd h (by decide),fun _=>⟨⟨0,rfl,rfl⟩,fun x i m I11 F9 _ ⟨hi,hF⟩=>?_⟩⟩
 subst hi hF
 exact⟨fun h=>absurd h (by decide),fun _=>⟨rfl,rfl⟩⟩
theorem o8:∀(l m:List Nd),Nd.iq (l++m)=Nd.iq l++Nd.iq m
 | [],m=>rfl
 | x::l,m=>by rw[List.cons_append,Nd.iq,Nd.iq,o8 l m,List.append_assoc]
theorem rD{l:List Nd}{i:Nat}{x:Nd}(h:l[i]? = some x):Nd.iq (l.take (i+1))=Nd.iq (l.take i)++x.rows:=by
 obtain⟨hk,rfl⟩:=List.getElem?_eq_some_iff.1 h
 rw[List.take_succ_eq_append_getElem hk,o8,Nd.iq,Nd.iq,List.append_nil]
def zA(rw:Nat→Row)(j:Nat)(r:Row):Nat→Row:=fun k=>if k=j then r else rw k
theorem A8(rw:Nat→Row)(j:Nat)(r r':Row):zA (zA rw j r) j r'=zA rw j r':=by
 funext k;unfold zA;split<;>rfl
theorem vK(rw:Nat→Row)(j:Nat)(r:Row):zA rw j r j=r:=if_pos rfl
theorem rE:∀(t:Nd),t.px.size≤1048576→∀{rw:Nat→Row} {b:Nat} {rs:List Row} {Al R:cR},Acc 1 Row.enc 62 (rw 1).a (rw 1).n (rw 1).c rs Al→(rs.length:Int)+t.px.size≤1000000000→∀(I:cS),dP I R t →
  cU P 19 #[.pointer (some ⟨b,0,none⟩),t.v] I ((b,Obj.cells (eH rw) 37 (0,0))::(Al++R)) fun e I' G=>e=.returned (.tuple #[]) ∧
   ∃r' Al',Acc 1 Row.enc 62 r'.a r'.n r'.c (rs++t.rows) Al'∧G.Perm ((b,Obj.cells (eH (zA rw 1 r')) 37 (0,0))::(Al'++R)):=by
 refine Nd.ind fun t ih hs rw b rs Al R hA hl I ht=>?_
 have hln:=Ab hs
 have hsz:t.px.size=1+Px.dT (t.kids.map Nd.px):=by rw[Px.size_eq,Nd.iW]
 have hrl:∀i,(Nd.iq (t.kids.take i)).length+(0:Int)≤Px.dT (t.kids.map Nd.px):=by
  have h1:∀l:List Nd,((Nd.iq l).length:Int)=Px.dT (l.map Nd.px):=by
   intro l
   induction l with
   | nil=>rfl
   | cons x r ihl=>rw[Nd.iq,List.map_cons,Px.dT,List.length_append,←ihl,←rq];omega
  have h2:∀l m:List Nd,Px.dT ((l++m).map Nd.px)=Px.dT (l.map Nd.px)+Px.dT (m.map Nd.px):=by
   intro l m
   rw[←h1,←h1,←h1,o8,List.length_append];omega
  intro i
  have h3:=h2 (t.kids.take i) (t.kids.drop i)
  rw[List.take_append_drop] at h3
  have h4:=Px.jo ((t.kids.drop i).map Nd.px)
  rw[h1];omega
 refine gq.vc (fun i m I' F'=>0≤i∧i≤t.kids.length∧m=(t.kids.length-i).toNat∧∃r' Al',Acc 1 Row.enc 62 r'.a r'.n r'.c (rs++(⟨t.a,t.kids.length,t.c⟩::Nd.iq (t.kids.take i.toNat))) Al' ∧
  F'.Perm ((b,Obj.cells (eH (zA rw 1 r')) 37 (0,0))::(Al'++R))) ?_
 unfold gq.V
 intro b_x
 refine⟨_,rfl,_,_,_,gx (List.mem_cons_of_mem _ (List.mem_cons_self ..)) rfl, ?_⟩
 intro b1 I1 hI1 hb1
 refine dm.perm (dm.mono (eJ (f:=Row.enc) (z:=1) (zv:=.slice none 0 0) (fun _=>rfl) (by':=24) (by kernel_rfl) (by kernel_rfl) rfl (by decide) hA (xs:=[⟨t.a,t.kids.length,t.c⟩]) (fun x _=>rp x) (by simp) rfl ?_ ?_
  (F:=(b_x,.cells #[.int .u8 t.kind,.int .u8 t.oper,.int .u8 t.fL,.int .i64 t.n,.int .u8 t.field,.string t.name,.slice t.a t.kids.length t.c,.int .i64 t.pos] 64 (0,0))::(b,Obj.cells (eH rw) 37 (0,0))::R)) fun v I2 G hI2 ⟨a',n',c',A',hv,hA',hG',_⟩=>?_) (cV fun x=>by simp only[cX,cW];omega)
 ·exact⟨rfl,_,_,_,.inl hb1,fun j hj=>by simp[Row.enc]⟩
 ·have:=Px.size_pos t.px;simp only[List.length_cons,List.length_nil];omega
 subst hG'
 refine⟨_,_,_,hv,(b,Obj.cells (eH rw) 37 (0,0))::(A'++R),cV fun x=>by simp only[cX,cW];omega,_,rfl,(eH rw).toList,37,A'++R, ?_, ?_, ?_,⟨_,by omega,by omega,rfl,⟨a',n',c'⟩,A', ?_, ?_⟩, ?_⟩
 ·exact .refl _
 ·rw[dv]
 ·rw[dv];exact (by decide:1+1≤12)
 ·exact hA'
 ·rw[dv];exact .refl _
 intro i m I3 F3 hI3 ⟨g0,g1,gm,r',Al',hAc,hF⟩
 refine⟨fun hlt=>?_,fun hlt=>⟨rfl,r',Al', ?_,hF⟩⟩
 ·have hlt:=of_decide_eq_true hlt
  have hle:=cS.le_trans hI1 (cS.le_trans hI2 hI3)
  have ht3:dP I3 F3 t:=ht.mono hle fun x hx=>hF.mem_iff.2 (List.mem_cons_of_mem _ (List.mem_append_right _ hx))
  obtain⟨ad,x,had,hx,hrd,hxo,hxm⟩:=(ht3.cons (x:=(b_x,.cells t.enc.toArray 64 (0,0)))).kids.at g0 hlt
  have hlen:=hrl (i.toNat+1)
  rw[rD hx,List.length_append] at hlen
  have hxr:=rq x
  refine⟨⟨g0,hlt⟩,ad,had,_,_,_,_,_,_,_,_,_,_,hrd,cU.perm ((ih x hxm (Aa hxm hs) (rw:=zA rw 1 r') (b:=b) (rs:=rs++(⟨t.a,t.kids.length,t.c⟩::Nd.iq (t.kids.take i.toNat))) (Al:=Al') (R:=(b_x,.cells #[.int .u8 t.kind,.int .u8 t.oper,.int .u8 t.fL,.int .i64 t.n,.int .u8 t.field,.string t.name,.slice t.a t.kids.length t.c,.int .i64 t.pos] 64 (0,0))::R)
   (by rw[vK];exact hAc) ?_ I3 ((ht.mono hle fun _ h=>h).cons.A4 x hxm)).mono fun e I4 G hI4 ⟨he,r2,Al2,hA2,hG⟩=>?_) ?_⟩
  ·rw[List.length_append,List.length_cons];omega
  ·subst he
   rw[A8] at hG
   refine⟨rfl,(b,Obj.cells (eH (zA rw 1 r2)) 37 (0,0))::(Al2++R),hG.trans (cV fun x=>by simp only[cX,cW];omega),(t.kids.length-(i+1)).toNat,by omega, ?_⟩
   rw[ef (n:=i+1) (by omega)]
   refine⟨by omega,by omega,rfl,r2,Al2, ?_,.refl _⟩
   rw[show (i+1).toNat=i.toNat+1 by omega,rD hx,←List.cons_append,←List.append_assoc];exact hA2
  ·exact cV fun x=>by have:=gW hF x;simp only[cX,cW] at this ⊢;omega
 ·have hlt:=of_decide_eq_false hlt
  rw[Nd.uc]
  rw[List.take_of_length_le (l:=t.kids) (i:=i.toNat) (by omega)] at hAc
  exact hAc
end Go.Lx
namespace Go.Vc
end Go.Vc
namespace Go.Lx
open Go.Vc
end Go.Lx
namespace Go.Vc
def lI:FrameMode→Value→FrameMode→Prop
 | .returning,v,u=>v=.nilIface∧u=.returning
 | .panicking ({ v:=x,recovered:=false,goexit:=false }::older),v,u=>v=x∧u=.panicking ({ v:=x,recovered:=true }::older)
 | _,_,_=>False
theorem th:lI .returning .nilIface .returning:=⟨rfl,rfl⟩
theorem tj(v:Value):lI (.panicking [{ v:=v,recovered:=false }]) v (.panicking [{ v:=v,recovered:=true }]):=⟨rfl,rfl⟩
def Cf(o:Oper):Bool:=match o.op,o.guard with
 | .call { callee:=.builtin .recover,args:=_,argTypes:=_ },none=>true
 | _,_=>false
theorem lI.at{c:Frame}{cs:List Frame}{u u1:FrameMode}{v:Value}(hu:c.mode=u)(h:lI u v u1) :
  recoverD (c::cs)=some (v,{ c with mode:=u1 }::cs)∨(recoverD (c::cs)=none∧v=.nilIface∧{ c with mode:=u1 }::cs=c::cs):=by
 subst hu
 unfold lI at h
 split at h
 ·rename_i hm
  obtain⟨h1,h2⟩:=h
  refine .inr ⟨by simp[recoverD,hm],h1, ?_⟩
  subst h2
  rw[←hm]
 ·rename_i hm
  obtain⟨h1,h2⟩:=h
  subst h1 h2
  exact .inl (by simp[recoverD,hm])
 ·exact h.elim
theorem yZ{P:Program}{id:Nat}{ops:Array Oper}{o:Oper}{r:List Oper}{Q:Exit→Act→List Frame→World→Prop}{a:Act}{cs cs':List Frame}{w:World}{v:Value}(hl:ops.toList=o::r)(ho:Cf o=true)
  (hrec:recoverD cs=some (v,cs')∨(recoverD cs=none∧v=.nilIface∧cs'=cs)) (h:wpListIn Fence.wide 0 P ops (fun e a' w'=>Q e a' cs' w') r (a.put o.dst v) w) :
  (Code.region id ops false).wpSIn Fence.wide 0 P Q a cs w:=by
 intro b k hb hr hF hroom
 have hsz:ops.size=r.length+1:=by rw[←Array.length_toList,hl];rfl
 have h0:ops[0]? = some o:=by rw[←Array.getElem?_toList,hl];rfl
 have hrest:∀j,r[j]? = ops[1+j]?:=fun j=>by rw[←Array.getElem?_toList,hl,Nat.add_comm];rfl
 rw[←wpOpsIn_eq_wpListIn r 1 hrest] at h
 have hex:∀ci,o.op=.call ci→True:=fun _ _=>trivial
 have hop:∃ci,o.op=.call ci∧ci.callee=.builtin .recover∧o.guard=none:=by
  unfold Cf at ho
  split at ho
  ·rename_i h1 h2;exact⟨_,h1,rfl,h2⟩
  ·cases ho
 obtain⟨ci,hci,hcal,hgd⟩:=hop
 have hw:Region.wanted o (yielded ops a.tmps)=true:=by unfold Region.wanted;rw[hgd]
 have hrun:(execOp a.eval o).run P w=.ok .recover w:=by
  obtain⟨cal,args,tys⟩:=ci
  simp only at hcal
  subst hcal
  simp only[execOp,hci]
  rfl
 have hlen:cs'.length=cs.length:=by
  rcases hrec with hrec | ⟨_,_,rfl⟩
  ·exact recoverD_length hrec
  ·rfl
 obtain⟨e,a',w',q,harr⟩:=wp_opsIn _ _ _ h b k cs' (hr.trans rfl) hF (hlen▸hroom)
 refine⟨e,a',cs',w',hlen,q,.of_steps (.one (fenced_calm hF hroom rfl) stepR_region) ?_⟩
 rw[List.range_eq_range',hsz,List.range'_succ]
 have hg:=stepGR_op (P:=P) (b:=b) (k:=k) (cs:=cs) (w:=w) (rest:=List.range' (0+1) r.length) h0 hw
 rw[hr,Oper.semAt_none] at hg
 have hfin:∀v,(b.atR a (.inRegion ops (0::List.range' (0+1) r.length)::k)).finish v=b.atR (a.put o.dst v) (.inRegion ops (List.range' (0+1) r.length)::k):=by
  intro v;rw[Frame.finish_atR,h0];rfl
 have hk:(b.atR a (.inRegion ops (0::List.range' (0+1) r.length)::k)).kind=.deferred:=hb
 have htr:=tryRecover_deferred hk cs
 refine .of_steps (.one (fenced_oper hF hroom h0 fun f _=>trivial) (step_lone_go ?_)) harr
 rw[hg,←hfin]
 simp only[Frame.atR,hr] at htr ⊢
 rcases hrec with hrec | ⟨hrec,rfl,rfl⟩
 ·simp[stepG.apply,hrun,htr,hrec]
 ·simp[stepG.apply,hrun,htr,hrec]
def vL(P:Program)(rs:List ResultVar)(keep:List Nat)(Q:Ending→cS→cR→Prop)(u:Option (List PanicEntry))(σ:S)(I:cS)(F:cR):Prop:=match σ.df with
 | []=>match u with
   | none=>(match nz P σ rs with
     | some vs=>Q (.returned (wS vs)) I (db (pick σ.own keep)++F)
     | none=>False)
   | some ch=>Q (.panicked ch) I (db (pick σ.own keep)++F)
 | _=>False
def w9(P:Program)(rs:List ResultVar)(keep:List Nat)(Q:Ending→cS→cR→Prop):Kt
 | .normal,σ,I,F=>vL P rs keep Q none σ I F
 | .ret,σ,I,F=>vL P rs keep Q none σ I F
 | .panic ch,σ,I,F=>vL P rs keep Q (some ch) σ I F
 | _,_,_,_=>False
def Cg(P:Program)(A:mM)(v:Value)(rs:List ResultVar)(keep:List Nat)(Q:Ending→cS→cR→Prop)(σ:S)(I:cS)(F:cR):Code→Prop
 | .seq (.region id ops false) rest=>match ops.toList with
   | o::r=>cond (Cf o) (tK P A id ops r 1 (σ.put o.dst (some (.a (.v v)))) I F (W P A none rest 2 (w9 P rs keep Q)) (fun ch=>w9 P rs keep Q (.panic ch))) False
   | []=>False
 | _=>False
section
variable {P:Program} {A:mM}
theorem C7{fn:Func}{keep:List Nat}(hk:AO 0 keep=true){Q:Ending→cS→cR→Prop}{c0:Frame}{cs:List Frame}{u1:FrameMode}{R:Ending→FrameMode→World→Prop}{I0:cS}
  (hR:∀e I' F' w',cS.le I0 I'→Sat I' F' w'→Q e I' F'→R e u1 w') {e:Exit} {σ:S} {I:cS} {F:cR} {a:Act} {w:World} (hr:Rel σ I F a w) (hl:cS.le I0 I)
  (h:w9 P fn.results.toList keep Q e σ I F):bodyPostS P fn c0 cs R e a ({ c0 with mode:=u1 }::cs) w:=by
 have hsub:Sat I (db (pick σ.own keep)++F) w:=by
  have h5:=qY keep 0 σ.own hk
  rw[List.drop_zero] at h5
  exact hr.sat.sub ((h5.map _).append (List.Sublist.refl F))
 have key:∀u,vL P fn.results.toList keep Q u σ I F→a.defers=[]∧match u with
   | none=>∃v,(results fn a.tmps).run P w=.ok v w∧Q (.returned v) I (db (pick σ.own keep)++F)
   | some ch=>Q (.panicked ch) I (db (pick σ.own keep)++F):=by
  intro u h
  unfold vL at h
  split at h
  ·rename_i hd
   refine⟨by rw[hr.defers,hd];rfl, ?_⟩
   cases u with
   | none =>
     simp only at h ⊢
     split at h
     ·rename_i vs hvs;exact⟨_,pJ hr hvs,h⟩
     ·exact h.elim
   | some ch=>exact h
  ·exact h.elim
 cases e with
 | normal=>obtain⟨h1,v,h2,h3⟩:=key none h;exact⟨h1,u1,rfl,v,h2,hR _ _ _ _ hl hsub h3⟩
 | ret=>obtain⟨h1,v,h2,h3⟩:=key none h;exact⟨h1,u1,rfl,v,h2,hR _ _ _ _ hl hsub h3⟩
 | panic ch=>obtain⟨h1,h2⟩:=key (some ch) h;exact⟨h1,u1,rfl,hR _ _ _ _ hl hsub h2⟩
 | exit id=>exact h.elim
 | goto l=>exact h.elim
 | outgrown=>exact h.elim
theorem za(hP:∀f,A.good f=true→dn P f){f:FuncId}{fn:Func}{c:Code}(hf:P.funcs[f]? = some fn)(hb:fn.body=some c){args:List AV}{own:List dD}
  {I:cS} {F:cR} {keep:List Nat} {Q:Ending→cS→cR→Prop} (hk:AO 0 keep=true) (hwa:∀x∈args,AV.wf own x) (hwo:∀b∈own,∀x∈b.cells,AV.wf own x) {u u1:FrameMode} {v:Value} (hrec:lI u v u1)
  (h:Cg P A v fn.results.toList keep Q ⟨jY args fn.ntmps,own,[]⟩ I F c) {vs:List Value} (hv:vs=args.map AV.g):gN P f vs u I (db own++F) fun e u' I' G=>u'=u1∧Q e I' G:=by
 subst hv
 intro w hw
 unfold Cg at h
 split at h
 ·rename_i id ops rest
  split at h
  ·rename_i o r hl
   obtain⟨ho,h⟩:=c9 h
   refine callsDIn_of_wpSIn hf hb trivial fun c0 cs hu=>?_
   refine wpSIn_seq (yZ hl ho (lI.at hu hrec) ?_)
   have hrel:Rel ⟨jY args fn.ntmps,own,[]⟩ I F { tmps:=(args.map AV.g).toArray++Array.replicate (fn.ntmps-(args.map AV.g).toArray.size) undef,defers:=[] } w:=by
    refine⟨by simp[jY], ?_,rfl, ?_, ?_,hw⟩
    ·intro t av ht
     simp only[jY,List.getElem?_append] at ht
     split at ht
     ·rename_i hlt
      simp only[List.getElem?_map] at ht
      cases ha:args[t]? with
      | none=>rw[ha] at ht;simp at ht
      | some x =>
        rw[ha] at ht
        simp only[Option.map_some,Option.some.injEq] at ht
        subst ht
        simp at hlt
        rw[Array.getElem?_append_left (by simpa using hlt)]
        simp[ha]
     ·rw[List.getElem?_replicate] at ht;split at ht<;>cases ht
    ·intro t av ht
     simp only[jY,List.getElem?_append] at ht
     split at ht
     ·simp only[List.getElem?_map] at ht
      cases ha:args[t]? with
      | none=>rw[ha] at ht;simp at ht
      | some x =>
        rw[ha] at ht
        simp only[Option.map_some,Option.some.injEq] at ht
        subst ht
        exact hwa _ (List.mem_of_getElem? ha)
     ·rw[List.getElem?_replicate] at ht;split at ht<;>cases ht
    ·exact fun i b hb' x hx=>hwo b (List.mem_of_getElem? hb') x hx
   have hrel2:=hrel.put o.dst (av:=.a (.v v)) (v:=v) rfl trivial
   refine jG (ro:=none) hP r 1 _ I F _ w (.inl rfl) h hrel2 ?_ ?_
   ·intro σ' I' F' a' w' h1 h2 h3 _
    refine wpSIn_of_wpIn rfl (wpIn_mono (xZ hP rest 2 _ none none σ' I' F' a' w' rfl h3 h1) ?_)
    intro e a2 w2 ⟨σ2,I2,F2,g1,g2,g3,_⟩
    exact C7 (fn:=fn) hk (fun e I3 F3 w3 hl3 hs3 hq3=>⟨I3,F3,hl3,hs3,rfl,hq3⟩) g1 (cS.le_trans h2 g2) g3
   ·intro ch σ' I' F' a' w' h1 h2 h3 _
    show bodyPostS P fn c0 cs (fun e u' w'=>∃I' F',I.le I'∧Sat I' F' w'∧u'=u1∧Q e I' F') (.panic ch) a' _ w'
    exact C7 (fn:=fn) hk (e:=.panic ch) (fun e I3 F3 w3 hl3 hs3 hq3=>⟨I3,F3,hl3,hs3,rfl,hq3⟩) h1 h2 h3
  ·exact h.elim
 ·exact h.elim
theorem mu{f:FuncId}{fn:Func}{args:List AV}{own:List dD}{I:cS}{F:cR}{keep:List Nat}{Q:cT}{V:Prop}{u u1:FrameMode}{v:Value}(gd:List Nat)(hf:P.funcs[f]? = some fn)(hrec:lI u v u1)(h:V)
  (e:Cg P A v fn.results.toList keep Q ⟨jY args fn.ntmps,own,[]⟩ I F (fn.body.getD .skip)=V) (hg:A.good=oo gd) (hG:gd.all (qZ P)=true) (hb:fn.body=some (fn.body.getD .skip)) (hk:AO 0 keep=true)
  (hwa:∀x∈args,AV.wf own x) (hwo:∀b∈own,∀x∈b.cells,AV.wf own x) {vs:List Value} (hv:vs=args.map AV.g):gN P f vs u I (db own++F) fun e u' I' G=>u'=u1∧Q e I' G :=
 za (fun f hf'=>pK gd hG f (by rw[←hg];exact hf')) hf hb hk hwa hwo hrec (by rw[←e] at h;exact h) hv
end
end Go.Vc
namespace Go.Lx
open Go.Vc
end Go.Lx
namespace Go.Vc
theorem gN.mono{P:Program}{f:FuncId}{args:List Value}{u:FrameMode}{I:cS}{F:cR}{Q Q':Ending→FrameMode→cS→cR→Prop}(h:gN P f args u I F Q)(k:∀e u' I' G,cS.le I I'→Q e u' I' G→Q' e u' I' G):gN P f args u I F Q' :=
 fun w hw=>(h w hw).mono fun e u' w' ⟨I',F',h1,h2,h3⟩=>⟨I',F',h1,h2,k _ _ _ _ h1 h3⟩
end Go.Vc
namespace Go.Lx
open Go.Vc
end Go.Lx
namespace Go.Vc
open Go.MapKept
section
variable {P:Program} {κ β:Type} {d:TypeDesc} {key:κ→Value} {val:β→Value} {g:κ→Option β} {es:Array MapEntry} {clock:Nat} {t kt et:TypeId} {I:cS} {F:cR} {r:Nat} {k:κ} {z:Value}
variable [DecidableEq κ]
end
end Go.Vc
namespace Go.Vc
end Go.Vc
namespace Go.Lx
open Go.Vc
structure iE where
 name:ByteArray
 fL:Int
 init:Px
 pos:Int
structure eg where
 name:ByteArray
 pos:Int
structure mv where
 kind:Int
 order:Int
 name:ByteArray
 side:Px
 qty:Px
 price:Px
 value:Px
 pos:Int
structure iK where
 when:Px
 dos:List mv
 pos:Int
structure gg where
 name:ByteArray
 rules:List iK
 pos:Int
structure iv where
 name:ByteArray
 regs:List iE
 slots:List eg
 states:List gg
structure gS where
 name:ByteArray
 fL:Int
 init:Nd
 pos:Int
structure kq where
 kind:Int
 order:Int
 name:ByteArray
 side:Nd
 qty:Nd
 price:Nd
 value:Nd
 pos:Int
structure eh where
 when:Nd
 a:Option Addr
 c:Nat
 dos:List kq
 pos:Int
structure dw where
 name:ByteArray
 a:Option Addr
 c:Nat
 rules:List eh
 pos:Int
structure jg where
 name:ByteArray
 ra:Option Addr
 rc:Nat
 regs:List gS
 sa:Option Addr
 sc:Nat
 slots:List eg
 ta:Option Addr
 tc:Nat
 states:List dw
def gS.p(r:gS):iE:=⟨r.name,r.fL,r.init.px,r.pos⟩
def kq.p(d:kq):mv:=⟨d.kind,d.order,d.name,d.side.px,d.qty.px,d.price.px,d.value.px,d.pos⟩
def eh.p(r:eh):iK:=⟨r.when.px,r.dos.map kq.p,r.pos⟩
def dw.p(s:dw):gg:=⟨s.name,s.rules.map eh.p,s.pos⟩
def jg.p(s:jg):iv:=⟨s.name,s.regs.map gS.p,s.slots,s.states.map dw.p⟩
abbrev gS.enc(r:gS):List Value:=[.string r.name,.int .u8 r.fL,.int .u8 r.init.kind,.int .u8 r.init.oper,.int .u8 r.init.fL,.int .i64 r.init.n,.int .u8 r.init.field,.string r.init.name,.slice r.init.a r.init.kids.length r.init.c,.int .i64 r.init.pos,.int .i64 r.pos]
abbrev eg.enc(r:eg):List Value:=[.string r.name,.int .i64 r.pos]
abbrev kq.enc(d:kq):List Value:=[.int .u8 d.kind,.int .u8 d.order,.string d.name,.int .u8 d.side.kind,.int .u8 d.side.oper,.int .u8 d.side.fL,.int .i64 d.side.n,.int .u8 d.side.field,.string d.side.name,.slice d.side.a d.side.kids.length d.side.c,.int .i64 d.side.pos,.int .u8 d.qty.kind,.int .u8 d.qty.oper,.int .u8 d.qty.fL,.int .i64 d.qty.n,.int .u8 d.qty.field,.string d.qty.name,.slice d.qty.a d.qty.kids.length d.qty.c,.int .i64 d.qty.pos,.int .u8 d.price.kind,.int .u8 d.price.oper,.int .u8 d.price.fL,.int .i64 d.price.n,.int .u8 d.price.field,.string d.price.name,.slice d.price.a d.price.kids.length d.price.c,.int .i64 d.price.pos,.int .u8 d.value.kind,.int .u8 d.value.oper,.int .u8 d.value.fL,.int .i64 d.value.n,.int .u8 d.value.field,.string d.value.name,.slice d.value.a d.value.kids.length d.value.c,.int .i64 d.value.pos,.int .i64 d.pos]
abbrev eh.enc(r:eh):List Value:=[.int .u8 r.when.kind,.int .u8 r.when.oper,.int .u8 r.when.fL,.int .i64 r.when.n,.int .u8 r.when.field,.string r.when.name,.slice r.when.a r.when.kids.length r.when.c,.int .i64 r.when.pos,.slice r.a r.dos.length r.c,.int .i64 r.pos]
abbrev dw.enc(s:dw):List Value:=[.string s.name,.slice s.a s.rules.length s.c,.int .i64 s.pos]
abbrev gS.v(r:gS):Value:=.agg #[.string r.name,.int .u8 r.fL,.int .u8 r.init.kind,.int .u8 r.init.oper,.int .u8 r.init.fL,.int .i64 r.init.n,.int .u8 r.init.field,.string r.init.name,.slice r.init.a r.init.kids.length r.init.c,.int .i64 r.init.pos,.int .i64 r.pos]
abbrev eg.v(r:eg):Value:=.agg #[.string r.name,.int .i64 r.pos]
abbrev kq.v(d:kq):Value:=.agg #[.int .u8 d.kind,.int .u8 d.order,.string d.name,.int .u8 d.side.kind,.int .u8 d.side.oper,.int .u8 d.side.fL,.int .i64 d.side.n,.int .u8 d.side.field,.string d.side.name,.slice d.side.a d.side.kids.length d.side.c,.int .i64 d.side.pos,.int .u8 d.qty.kind,.int .u8 d.qty.oper,.int .u8 d.qty.fL,.int .i64 d.qty.n,.int .u8 d.qty.field,.string d.qty.name,.slice d.qty.a d.qty.kids.length d.qty.c,.int .i64 d.qty.pos,.int .u8 d.price.kind,.int .u8 d.price.oper,.int .u8 d.price.fL,.int .i64 d.price.n,.int .u8 d.price.field,.string d.price.name,.slice d.price.a d.price.kids.length d.price.c,.int .i64 d.price.pos,.int .u8 d.value.kind,.int .u8 d.value.oper,.int .u8 d.value.fL,.int .i64 d.value.n,.int .u8 d.value.field,.string d.value.name,.slice d.value.a d.value.kids.length d.value.c,.int .i64 d.value.pos,.int .i64 d.pos]
abbrev eh.v(r:eh):Value:=.agg #[.int .u8 r.when.kind,.int .u8 r.when.oper,.int .u8 r.when.fL,.int .i64 r.when.n,.int .u8 r.when.field,.string r.when.name,.slice r.when.a r.when.kids.length r.when.c,.int .i64 r.when.pos,.slice r.a r.dos.length r.c,.int .i64 r.pos]
abbrev dw.v(s:dw):Value:=.agg #[.string s.name,.slice s.a s.rules.length s.c,.int .i64 s.pos]
abbrev jg.enc(s:jg):List Value:=[.string s.name,.slice s.ra s.regs.length s.rc,.slice s.sa s.slots.length s.sc,.slice s.ta s.states.length s.tc]
abbrev jg.v(s:jg):Value:=.agg #[.string s.name,.slice s.ra s.regs.length s.rc,.slice s.sa s.slots.length s.sc,.slice s.ta s.states.length s.tc]
def gS.Ok(I:cS)(G:cR)(r:gS):Prop:=dP I G r.init
def kq.Ok(I:cS)(G:cR)(d:kq):Prop:=dP I G d.side∧dP I G d.qty∧dP I G d.price∧dP I G d.value
def eh.Ok(I:cS)(G:cR)(r:eh):Prop:=dP I G r.when∧mX I G 36 kq.enc r.a r.dos.length r.dos∧∀d∈r.dos,d.Ok I G
def dw.Ok(I:cS)(G:cR)(s:dw):Prop:=mX I G 10 eh.enc s.a s.rules.length s.rules∧∀r∈s.rules,r.Ok I G
structure jg.Ok (I:cS) (G:cR) (s:jg):Prop where
 regs:mX I G 11 gS.enc s.ra s.regs.length s.regs
 uq:∀r∈s.regs,r.Ok I G
 slots:mX I G 2 eg.enc s.sa s.slots.length s.slots
 states:mX I G 3 dw.enc s.ta s.states.length s.states
 state:∀x∈s.states,x.Ok I G
section
variable {I J:cS} {G H:cR}
end
def mv.C8(d:mv):List Px:=[d.side,d.qty,d.price,d.value]
def iK.C8(r:iK):List Px:=r.when::r.dos.flatMap mv.C8
def iv.C8(s:iv):List Px:=s.regs.map iE.init++s.states.flatMap fun x=>x.rules.flatMap iK.C8
end Go.Lx
namespace Go.Lx
open Go.Vc
end Go.Lx
namespace Go.Lx
open Go.Vc Go.Proofs.Tryz
def lW:List (Nat×List Sh):=[(3,[.one (.int .i64)]),(4,[.one .bool]),(5,[.one (.int .u8)]),(79,[.one .slc]),(80,[.one .slc]),(134,[.agg [(.int .u8),.str,(.int .u8),(.int .i64),(.int .i64)],.one (.int .i64)])]
def nI.V(c:Int)(I:cS)(F:cR)(Q:cT)  : Prop:=Q (.returned (.bool (c != 10))) I (F)
theorem nI.vc{c:Int}{I:cS}{F:cR}{Q:cT}  (h:nI.V c I F Q):cU P 149 #[.int .u8 c] I F Q :=
 tw (A:=(an [] [] lW)) [] func149 h
def qg.V(s:Bs)(d:Int)(on:Nat)(b c:Array Value)(I:cS)(F:cR)(Q:cT)(Inv4:Int→Nat→cS→cR→Prop):Prop:=(∃m:Nat,Inv4 d m I F)∧∀(a:Int) (m1:Nat) (I1:cS) (F1:cR),cS.le I I1→Inv4 a m1 I1 F1→((decide (a<(s.size:Int))=true→((0≤a∧a<(s.size:Int))∧dn P on∧cU P on (b++#[.int .u8 (bt s a)]++c) I1 F1 fun e1 I2 G1=>∃(r:Bool),e1=.returned (.bool r)∧∃F2:cR,List.Perm G1 F2∧((r=true→(∃m2:Nat,m2<m1∧Inv4 (IntKind.wrap .i64 (a+1)) m2 I2 F2))∧(r=false→Q (.returned (.int .i64 a)) I2 F2))))∧(decide (a<(s.size:Int))=false→Q (.returned (.int .i64 a)) I1 F1))
theorem qg.vc{s:Bs}{c:Int}{on:Nat}{a b:Array Value}{I:cS}{F:cR}{Q:cT}(Inv4:Int→Nat→cS→cR→Prop)(h:qg.V s c on a b I F Q Inv4):cU P 138 #[.string s,.int .i64 c,.func (.func on) a b] I F Q :=
 tw (A:=(dr [1003,1009] [] [] lW [(4,⟨[(1,(.int .i64))],[],fun _ _ _ vs m I F=>match vs with | [.int _ y0]=>Inv4 y0 m I F | _=>False,[],[]⟩)] [] [] [] [] [] [])) [] func138 h
def oz.V(vi:Int→Value)(wr:Int→Int)(s:Bs)(b:Int)(I:cS)(F:cR)(Q:cT)(Inv7:Int→Nat→cS→cR→Prop):Prop:=(∃m:Nat,Inv7 b m I F)∧∀(a:Int) (m1:Nat) (I1:cS) (F1:cR),cS.le I I1→Inv7 a m1 I1 F1→((decide (a<(s.size:Int))=true→((0≤a∧a<(s.size:Int))∧((((bt s a)==32)=true→(∃m2:Nat,m2<m1∧Inv7 (wr (a+1)) m2 I1 F1))∧(((bt s a)==32)=false→((((bt s a)==9)=true→(∃m3:Nat,m3<m1∧Inv7 (wr (a+1)) m3 I1 F1))∧(((bt s a)==9)=false→((((bt s a)==10)=true→(∃m4:Nat,m4<m1∧Inv7 (wr (a+1)) m4 I1 F1))∧(((bt s a)==10)=false→((((bt s a)==13)=true→(∃m5:Nat,m5<m1∧Inv7 (wr (a+1)) m5 I1 F1))∧(((bt s a)==13)=false→((((bt s a)==35)=true→cU P 138 (#[.string s,vi a,.func (.func 149) #[] #[]]) I1 F1 fun e1 I2 G1=>∃(r:Int),e1=.returned (vi r)∧∃F2:cR,List.Perm G1 F2∧(∃m6:Nat,m6<m1∧Inv7 r m6 I2 F2))∧(((bt s a)==35)=false→Q (.returned (vi a)) I1 F1))))))))))))∧(decide (a<(s.size:Int))=false→Q (.returned (vi a)) I1 F1))
theorem oz.vc{s:Bs}{a:Int}{I:cS}{F:cR}{Q:cT}(Inv7:Int→Nat→cS→cR→Prop)(h:oz.V (.int .i64) (IntKind.wrap .i64) s a I F Q Inv7):cU P 134 #[.string s,.int .i64 a] I F Q :=
 tw (A:=(dr [1003,3000,4000,5000,6000,8000] [] [138] lW [(7,⟨[(1,(.int .i64))],[],fun _ _ _ vs m I F=>match vs with | [.int _ y0]=>Inv7 y0 m I F | _=>False,[],[]⟩)] [] [] [] [] [] [])) [138] func134 h
def lh.V(vb vi:Int→Value)(vs:Bs→Value)(wr:Int→Int)(s:Bs)(c:Int)(I:cS)(F:cR)(Q:cT)(Inv10:Int→Int→Int→Bs→Int→Int→Int→Int→Bs→Int→Int→Int→Nat→cS→cR→Prop)(Inv33:Int→Int→Bs→Int→Int→Int→cS→cR→Prop)(Inv43:Int→cS→cR→Prop)(Inv51:Int→Int→Int→Bs→Int→Int→Int→cS→cR→Prop):Prop:=∀b:Nat,cU P 138 (#[vs s,vi c,.func (.func 135) #[] #[]]) I ((b,Obj.cells #[vb 0,vs (⟨#[]⟩:Bs),vb 0,vi 0,vi 0] 76 (0,0))::F) fun e1 I1 G1=>∃(r:Int),e1=.returned (vi r)∧∃F1:cR,List.Perm G1 ((b,Obj.cells #[vb 0,vs (⟨#[]⟩:Bs),vb 0,vi 0,vi 0] 76 (0,0))::F1)∧∀y:Nat,((0≤c∧c≤r∧r≤(s.size:Int))∧dm P (Go.convert 9 79 (vs (s.extract (Int.toNat c) (Int.toNat r)))) I1 ((b,Obj.cells #[vb 0,vs (⟨#[]⟩:Bs),vb 0,vi 0,vi 0] 76 (0,0))::(y,Obj.cells #[vb 3,vs (⟨#[]⟩:Bs),vb 1,vi 0,vi c] 76 (0,0))::F1) fun v I2 G2=>∃(ag:OA) (af ai:Nat),v=.slice ag af ai∧∃F2:cR,List.Perm G2 ((b,Obj.cells #[vb 0,vs (⟨#[]⟩:Bs),vb 0,vi 0,vi 0] 76 (0,0))::(y,Obj.cells #[vb 3,vs (⟨#[]⟩:Bs),vb 1,vi 0,vi c] 76 (0,0))::F2)∧(∃m:Nat,Inv10 0 0 0 (⟨#[]⟩:Bs) 0 0 0 3 (⟨#[]⟩:Bs) 1 0 c m I2 F2)∧∀(x x1 p:Int) (q:Bs) (t u w i:Int) (j:Bs) (n d k:Int) (m1:Nat) (I3:cS) (F3:cR),cS.le I2 I3→Inv10 x x1 p q t u w i j n d k m1 I3 F3→((decide (x1<(af:Int))=true→((0≤x1∧x1<(af:Int))∧∃ad:Addr,ag=some ad∧∃(m2:Int),Rd I3 ((b,Obj.cells #[vb p,vs q,vb t,vi u,vi w] 76 (0,0))::(y,Obj.cells #[vb i,vs j,vb n,vi d,vi k] 76 (0,0))::F3) (ad.add (Int.toNat x1*1)) [vb m2]∧((decide (d>(wr (Int.tdiv (wr (9223372036854775807-(wr (IntKind.wrap .u8 (m2-48))))) 10)))=true→Q (.returned (.tuple #[.agg #[vb 0,vs (⟨#[]⟩:Bs),vb 0,vi 0,vi 0],vi 113])) I3 F3)∧(decide (d>(wr (Int.tdiv (wr (9223372036854775807-(wr (IntKind.wrap .u8 (m2-48))))) 10)))=false→(∃m3:Nat,m3<m1∧Inv10 x (wr (x1+1)) p q t u w i j n (wr ((wr (10*d))+(wr (IntKind.wrap .u8 (m2-48))))) k m3 I3 F3)))))∧(decide (x1<(af:Int))=false→(((decide ((wr (r-c))>1)=true→((0≤c∧c<(s.size:Int))∧((((bt s c)==48)=true→Q (.returned (.tuple #[.agg #[vb 0,vs (⟨#[]⟩:Bs),vb 0,vi 0,vi 0],vi 113])) I3 F3)∧(((bt s c)==48)=false→Inv33 x p q t u w I3 F3))))∧(decide ((wr (r-c))>1)=false→Inv33 x p q t u w I3 F3)))∧∀(x2 z:Int) (aa:Bs) (ab ac ae:Int) (I4:cS) (F4:cR),cS.le I3 I4→Inv33 x2 z aa ab ac ae I4 F4→(((decide (r<(s.size:Int))=true→((0≤r∧r<(s.size:Int))∧Inv43 (bt s r) I4 F4))∧(decide (r<(s.size:Int))=false→Inv43 0 I4 F4)))∧∀(l:Int) (I5:cS) (F5:cR),cS.le I4 I5→Inv43 l I5 F5→((((l==116)=true→Inv51 (wr (r+1)) (wr ((wr ((wr ((-1)+1))+1))+1)) i j (IntKind.wrap .u8 (2+(IntKind.wrap .u8 (wr ((wr ((wr ((-1)+1))+1))+1))))) d k I5 F5)∧((l==116)=false→(((l==112)=true→Inv51 (wr (r+1)) (wr ((wr ((-1)+1))+1)) i j (IntKind.wrap .u8 (2+(IntKind.wrap .u8 (wr ((wr ((-1)+1))+1))))) d k I5 F5)∧((l==112)=false→(((l==113)=true→Inv51 (wr (r+1)) (wr ((-1)+1)) i j (IntKind.wrap .u8 (2+(IntKind.wrap .u8 (wr ((-1)+1))))) d k I5 F5)∧((l==113)=false→Inv51 r (-1) i j n d k I5 F5)))))))∧∀(a ah e:Int) (o:Bs) (f g h:Int) (I6:cS) (F6:cR),cS.le I5 I6→Inv51 a ah e o f g h I6 F6→((decide (a<(s.size:Int))=true→((0≤a∧a<(s.size:Int))∧cU P 139 (#[vb (bt s a)]) I6 ((b,Obj.cells #[vb z,vs aa,vb ab,vi ac,vi ae] 76 (0,0))::(y,Obj.cells #[vb e,vs o,vb f,vi g,vi h] 76 (0,0))::F6) fun e2 I7 G3=>∃(r1:Bool),e2=.returned (.bool r1)∧∃F7:cR,List.Perm G3 ((b,Obj.cells #[vb z,vs aa,vb ab,vi ac,vi ae] 76 (0,0))::(y,Obj.cells #[vb e,vs o,vb f,vi g,vi h] 76 (0,0))::F7)∧((r1=true→Q (.returned (.tuple #[.agg #[vb 0,vs (⟨#[]⟩:Bs),vb 0,vi 0,vi 0],vi 113])) I7 F7)∧(r1=false→((0≤a∧a<(s.size:Int))∧((decide (65≤(bt s a))=true→((0≤a∧a<(s.size:Int))∧((decide ((bt s a)≤90)=true→Q (.returned (.tuple #[.agg #[vb 0,vs (⟨#[]⟩:Bs),vb 0,vi 0,vi 0],vi 113])) I7 F7)∧(decide ((bt s a)≤90)=false→((0≤c∧c≤a∧a≤(s.size:Int))∧Q (.returned (.tuple #[.agg #[vb e,vs (s.extract (Int.toNat c) (Int.toNat a)),vb f,vi g,vi h],vi 0])) I7 F7)))))∧(decide (65≤(bt s a))=false→((0≤c∧c≤a∧a≤(s.size:Int))∧Q (.returned (.tuple #[.agg #[vb e,vs (s.extract (Int.toNat c) (Int.toNat a)),vb f,vi g,vi h],vi 0])) I7 F7))))))))∧(decide (a<(s.size:Int))=false→((0≤c∧c≤a∧a≤(s.size:Int))∧Q (.returned (.tuple #[.agg #[vb e,vs (s.extract (Int.toNat c) (Int.toNat a)),vb f,vi g,vi h],vi 0])) I6 F6))))))
theorem lh.vc{s:Bs}{a:Int}{I:cS}{F:cR}{Q:cT}(Inv10:Int→Int→Int→Bs→Int→Int→Int→Int→Bs→Int→Int→Int→Nat→cS→cR→Prop)(Inv33:Int→Int→Bs→Int→Int→Int→cS→cR→Prop)(Inv43:Int→cS→cR→Prop)(Inv51:Int→Int→Int→Bs→Int→Int→Int→cS→cR→Prop)(h:lh.V (.int .u8) (.int .i64) .string (IntKind.wrap .i64) s a I F Q Inv10 Inv33 Inv43 Inv51):cU P 136 #[.string s,.int .i64 a] I F Q :=
 tw (A:=(dr [4000,7005,11003,11008,14003,18000,19000,20000,26003,26008,26013,26018] [] [138,139] lW [(10,⟨[(5,(.int .i64)),(24,(.int .i64))],[(0,[(.int .u8),.str,(.int .u8),(.int .i64),(.int .i64)]),(1,[(.int .u8),.str,(.int .u8),(.int .i64),(.int .i64)])],fun _ _ _ vs m I F=>match vs with | [.int _ y0,.int _ y1,.int _ y2,.string y3,.int _ y4,.int _ y5,.int _ y6,.int _ y7,.string y8,.int _ y9,.int _ y10,.int _ y11]=>Inv10 y0 y1 y2 y3 y4 y5 y6 y7 y8 y9 y10 y11 m I F | _=>False,[],[]⟩),(33,⟨[(5,(.int .i64))],[(0,[(.int .u8),.str,(.int .u8),(.int .i64),(.int .i64)])],fun _ _ _ vs m I F=>match vs with | [.int _ y0,.int _ y1,.string y2,.int _ y3,.int _ y4,.int _ y5]=>Inv33 y0 y1 y2 y3 y4 y5 I F | _=>False,[],[]⟩),(43,⟨[(11,(.int .u8))],[],fun _ _ _ vs m I F=>match vs with | [.int _ y0]=>Inv43 y0 I F | _=>False,[],[]⟩),(51,⟨[(6,(.int .i64)),(12,(.int .i64))],[(1,[(.int .u8),.str,(.int .u8),(.int .i64),(.int .i64)])],fun _ _ _ vs m I F=>match vs with | [.int _ y0,.int _ y1,.int _ y2,.string y3,.int _ y4,.int _ y5,.int _ y6]=>Inv51 y0 y1 y2 y3 y4 y5 y6 I F | _=>False,[],[]⟩)] [] [] [] [] [] [])) [138,139] func136 h
def oA.V(vi:Int→Value)(wr:Int→Int)(s:Bs)(a:Int)(I:cS)(F:cR)(Q:cT)  : Prop:=((decide ((wr (a+1))<(s.size:Int))=true→((0≤(wr (a+1))∧(wr (a+1))<(s.size:Int))∧((0≤a∧a<(s.size:Int))∧((((bt s a)==123)=true→Q (.returned (vi 1)) I F)∧(((bt s a)==123)=false→((((bt s a)==125)=true→Q (.returned (vi 1)) I F)∧(((bt s a)==125)=false→((((bt s a)==40)=true→Q (.returned (vi 1)) I F)∧(((bt s a)==40)=false→((((bt s a)==41)=true→Q (.returned (vi 1)) I F)∧(((bt s a)==41)=false→((((bt s a)==44)=true→Q (.returned (vi 1)) I F)∧(((bt s a)==44)=false→((((bt s a)==59)=true→Q (.returned (vi 1)) I F)∧(((bt s a)==59)=false→((((bt s a)==63)=true→Q (.returned (vi 1)) I F)∧(((bt s a)==63)=false→((((bt s a)==58)=true→Q (.returned (vi 1)) I F)∧(((bt s a)==58)=false→((((bt s a)==43)=true→Q (.returned (vi 1)) I F)∧(((bt s a)==43)=false→((((bt s a)==45)=true→Q (.returned (vi 1)) I F)∧(((bt s a)==45)=false→((((bt s a)==42)=true→Q (.returned (vi 1)) I F)∧(((bt s a)==42)=false→((((bt s a)==47)=true→Q (.returned (vi 1)) I F)∧(((bt s a)==47)=false→((((bt s a)==37)=true→Q (.returned (vi 1)) I F)∧(((bt s a)==37)=false→((((bt s a)==38)=true→((((bt s (wr (a+1)))==(bt s a))=true→Q (.returned (vi 2)) I F)∧(((bt s (wr (a+1)))==(bt s a))=false→Q (.returned (vi 0)) I F)))∧(((bt s a)==38)=false→((((bt s a)==124)=true→((((bt s (wr (a+1)))==(bt s a))=true→Q (.returned (vi 2)) I F)∧(((bt s (wr (a+1)))==(bt s a))=false→Q (.returned (vi 0)) I F)))∧(((bt s a)==124)=false→((((bt s a)==61)=true→((((bt s (wr (a+1)))==61)=true→Q (.returned (vi 2)) I F)∧(((bt s (wr (a+1)))==61)=false→Q (.returned (vi 1)) I F)))∧(((bt s a)==61)=false→((((bt s a)==33)=true→((((bt s (wr (a+1)))==61)=true→Q (.returned (vi 2)) I F)∧(((bt s (wr (a+1)))==61)=false→Q (.returned (vi 1)) I F)))∧(((bt s a)==33)=false→((((bt s a)==60)=true→((((bt s (wr (a+1)))==61)=true→Q (.returned (vi 2)) I F)∧(((bt s (wr (a+1)))==61)=false→Q (.returned (vi 1)) I F)))∧(((bt s a)==60)=false→((((bt s a)==62)=true→((((bt s (wr (a+1)))==61)=true→Q (.returned (vi 2)) I F)∧(((bt s (wr (a+1)))==61)=false→Q (.returned (vi 1)) I F)))∧(((bt s a)==62)=false→Q (.returned (vi 0)) I F)))))))))))))))))))))))))))))))))))))))))∧(decide ((wr (a+1))<(s.size:Int))=false→((0≤a∧a<(s.size:Int))∧((((bt s a)==123)=true→Q (.returned (vi 1)) I F)∧(((bt s a)==123)=false→((((bt s a)==125)=true→Q (.returned (vi 1)) I F)∧(((bt s a)==125)=false→((((bt s a)==40)=true→Q (.returned (vi 1)) I F)∧(((bt s a)==40)=false→((((bt s a)==41)=true→Q (.returned (vi 1)) I F)∧(((bt s a)==41)=false→((((bt s a)==44)=true→Q (.returned (vi 1)) I F)∧(((bt s a)==44)=false→((((bt s a)==59)=true→Q (.returned (vi 1)) I F)∧(((bt s a)==59)=false→((((bt s a)==63)=true→Q (.returned (vi 1)) I F)∧(((bt s a)==63)=false→((((bt s a)==58)=true→Q (.returned (vi 1)) I F)∧(((bt s a)==58)=false→((((bt s a)==43)=true→Q (.returned (vi 1)) I F)∧(((bt s a)==43)=false→((((bt s a)==45)=true→Q (.returned (vi 1)) I F)∧(((bt s a)==45)=false→((((bt s a)==42)=true→Q (.returned (vi 1)) I F)∧(((bt s a)==42)=false→((((bt s a)==47)=true→Q (.returned (vi 1)) I F)∧(((bt s a)==47)=false→((((bt s a)==37)=true→Q (.returned (vi 1)) I F)∧(((bt s a)==37)=false→((((bt s a)==38)=true→(((0==(bt s a))=true→Q (.returned (vi 2)) I F)∧((0==(bt s a))=false→Q (.returned (vi 0)) I F)))∧(((bt s a)==38)=false→((((bt s a)==124)=true→(((0==(bt s a))=true→Q (.returned (vi 2)) I F)∧((0==(bt s a))=false→Q (.returned (vi 0)) I F)))∧(((bt s a)==124)=false→((((bt s a)==61)=true→((false=true→Q (.returned (vi 2)) I F)∧(false=false→Q (.returned (vi 1)) I F)))∧(((bt s a)==61)=false→((((bt s a)==33)=true→((false=true→Q (.returned (vi 2)) I F)∧(false=false→Q (.returned (vi 1)) I F)))∧(((bt s a)==33)=false→((((bt s a)==60)=true→((false=true→Q (.returned (vi 2)) I F)∧(false=false→Q (.returned (vi 1)) I F)))∧(((bt s a)==60)=false→((((bt s a)==62)=true→((false=true→Q (.returned (vi 2)) I F)∧(false=false→Q (.returned (vi 1)) I F)))∧(((bt s a)==62)=false→Q (.returned (vi 0)) I F)))))))))))))))))))))))))))))))))))))))))
theorem oA.vc{s:Bs}{a:Int}{I:cS}{F:cR}{Q:cT}  (h:oA.V (.int .i64) (IntKind.wrap .i64) s a I F Q):cU P 141 #[.string s,.int .i64 a] I F Q :=
 tw (A:=(an [2004,6000,7000,8000,9000,10000,11000,12000,13000,14000,15000,16000,17000,18000,20000,21000,22002,24000,25000,26000,27000,28001] [] lW)) [] func141 h
def mw.V(vb vi:Int→Value)(vs:Bs→Value)(wr:Int→Int)(s:Bs)(i:Int)(I:cS)(F:cR)(Q:cT)  : Prop:=∀b:Nat,cU P 134 #[vs s,vi i] I ((b,Obj.cells #[vb 0,vs (⟨#[]⟩:Bs),vb 0,vi 0,vi 0] 76 (0,0))::F) fun e1 I1 G1=>∃(r:Int),e1=.returned (vi r)∧∃F1:cR,List.Perm G1 ((b,Obj.cells #[vb 0,vs (⟨#[]⟩:Bs),vb 0,vi 0,vi 0] 76 (0,0))::F1)∧(((r==(s.size:Int))=true→Q (.returned (.tuple #[.agg #[vb 0,vs (⟨#[]⟩:Bs),vb 0,vi 0,vi r],vi 0])) I1 F1)∧((r==(s.size:Int))=false→((0≤r∧r<(s.size:Int))∧cU P 135 (#[vb (bt s r)]) I1 ((b,Obj.cells #[vb 0,vs (⟨#[]⟩:Bs),vb 0,vi 0,vi 0] 76 (0,0))::F1) fun e2 I2 G2=>∃(r1:Bool),e2=.returned (.bool r1)∧∃F2:cR,List.Perm G2 ((b,Obj.cells #[vb 0,vs (⟨#[]⟩:Bs),vb 0,vi 0,vi 0] 76 (0,0))::F2)∧((r1=true→cU P 136 #[vs s,vi r] I2 ((b,Obj.cells #[vb 0,vs (⟨#[]⟩:Bs),vb 0,vi 0,vi 0] 76 (0,0))::F2) fun e3 I3 G3=>∃(a:Int) (c:Bs) (d e h g:Int),e3=.returned (.tuple #[.agg #[vb a,vs c,vb d,vi e,vi h],vi g])∧∃F3:cR,List.Perm G3 ((b,Obj.cells #[vb 0,vs (⟨#[]⟩:Bs),vb 0,vi 0,vi 0] 76 (0,0))::F3)∧∀j:Nat,Q (.returned (.tuple #[.agg #[vb a,vs c,vb d,vi e,vi r],vi g])) I3 F3)∧(r1=false→cU P 137 (#[vb (bt s r)]) I2 ((b,Obj.cells #[vb 0,vs (⟨#[]⟩:Bs),vb 0,vi 0,vi 0] 76 (0,0))::F2) fun e4 I4 G4=>∃(r2:Bool),e4=.returned (.bool r2)∧∃F4:cR,List.Perm G4 ((b,Obj.cells #[vb 0,vs (⟨#[]⟩:Bs),vb 0,vi 0,vi 0] 76 (0,0))::F4)∧((r2=true→cU P 138 (#[vs s,vi r,.func (.func 139) #[] #[]]) I4 ((b,Obj.cells #[vb 0,vs (⟨#[]⟩:Bs),vb 0,vi 0,vi 0] 76 (0,0))::F4) fun e5 I5 G5=>∃(r3:Int),e5=.returned (vi r3)∧∃F5:cR,List.Perm G5 ((b,Obj.cells #[vb 0,vs (⟨#[]⟩:Bs),vb 0,vi 0,vi 0] 76 (0,0))::F5)∧((decide ((wr (r3-r))>16)=true→Q (.returned (.tuple #[.agg #[vb 0,vs (⟨#[]⟩:Bs),vb 0,vi 0,vi r],vi 112])) I5 F5)∧(decide ((wr (r3-r))>16)=false→((0≤r∧r≤r3∧r3≤(s.size:Int))∧∀f:Nat,cU P 140 (#[vs (s.extract (Int.toNat r) (Int.toNat r3))]) I5 ((b,Obj.cells #[vb 0,vs (⟨#[]⟩:Bs),vb 0,vi 0,vi 0] 76 (0,0))::(f,Obj.cells #[vb 2,vs (s.extract (Int.toNat r) (Int.toNat r3)),vb 0,vi 0,vi r] 76 (0,0))::F5) fun e6 I6 G6=>∃(r4:Bool),e6=.returned (.bool r4)∧∃F6:cR,List.Perm G6 ((b,Obj.cells #[vb 0,vs (⟨#[]⟩:Bs),vb 0,vi 0,vi 0] 76 (0,0))::(f,Obj.cells #[vb 2,vs (s.extract (Int.toNat r) (Int.toNat r3)),vb 0,vi 0,vi r] 76 (0,0))::F6)∧((r4=true→Q (.returned (.tuple #[.agg #[vb 1,vs (s.extract (Int.toNat r) (Int.toNat r3)),vb 0,vi 0,vi r],vi 0])) I6 F6)∧(r4=false→Q (.returned (.tuple #[.agg #[vb 2,vs (s.extract (Int.toNat r) (Int.toNat r3)),vb 0,vi 0,vi r],vi 0])) I6 F6))))))∧(r2=false→cU P 141 #[vs s,vi r] I4 ((b,Obj.cells #[vb 0,vs (⟨#[]⟩:Bs),vb 0,vi 0,vi 0] 76 (0,0))::F4) fun e7 I7 G7=>∃(r5:Int),e7=.returned (vi r5)∧∃F7:cR,List.Perm G7 ((b,Obj.cells #[vb 0,vs (⟨#[]⟩:Bs),vb 0,vi 0,vi 0] 76 (0,0))::F7)∧(((r5==0)=true→Q (.returned (.tuple #[.agg #[vb 0,vs (⟨#[]⟩:Bs),vb 0,vi 0,vi r],vi 111])) I7 F7)∧((r5==0)=false→((0≤r∧r≤(wr (r+r5))∧(wr (r+r5))≤(s.size:Int))∧Q (.returned (.tuple #[.agg #[vb 4,vs (s.extract (Int.toNat r) (Int.toNat ((wr (r+r5))))),vb 0,vi 0,vi r],vi 0])) I7 F7))))))))))
theorem mw.vc{s:Bs}{a:Int}{I:cS}{F:cR}{Q:cT}  (h:mw.V (.int .u8) (.int .i64) .string (IntKind.wrap .i64) s a I F Q):cU P 123 #[.string s,.int .i64 a] I F Q :=
 tw (A:=(an [2003,5001,9001,11003,14002,18001] [134,135,136,137,138,140,141] lW)) [134,135,136,137,138,140,141] func123 h
def lj.V(vb vi:Int→Value)(vs:Bs→Value)(vl:OA→Nat→Nat→Value)(s:Bs)(I:cS)(F:cR)(Q:cT)(Inv15:OA→Nat→Nat→Int→Int→OA→Nat→Nat→Int→Nat→cS→cR→Prop):Prop:=((decide ((s.size:Int)>4096)=true→Q (.returned (.tuple #[vl none 0 0,vi 110,vi 0])) I F)∧(decide ((s.size:Int)>4096)=false→(∃m:Nat,Inv15 none 0 0 0 0 none 0 0 0 m I F)∧∀(j:OA) (k l:Nat) (x x1:Int) (n:OA) (o p:Nat) (q:Int) (m1:Nat) (I1:cS) (F1:cR),cS.le I I1→Inv15 j k l x x1 n o p q m1 I1 F1→cU P 123 #[vs s,vi q] I1 F1 fun e1 I2 G1=>∃(a:Int) (d:Bs) (e f c r1:Int),e1=.returned (.tuple #[.agg #[vb a,vs d,vb e,vi f,vi c],vi r1])∧∃F2:cR,List.Perm G1 F2∧∀r:Nat,(((r1 != 0)=true→Q (.returned (.tuple #[vl none 0 0,vi r1,vi c])) I2 F2)∧((r1 != 0)=false→∀(b:Nat) (I3:cS),cS.le I2 I3→I3 b=some (Obj.cells #[vb a,vs d,vb e,vi f,vi c] 76 (0,0))→dm P (Builtin.append_ #[80,80] 80 #[vl n o p,vl (some ⟨b,0,none⟩) 1 1]) I3 ((r,Obj.cells #[vb a,vs d,vb e,vi f,vi c] 76 (0,0))::F2) fun v I4 G2=>∃(g:OA) (h i:Nat),v=vl g h i∧∃F3:cR,List.Perm G2 ((r,Obj.cells #[vb a,vs d,vb e,vi f,vi c] 76 (0,0))::F3)∧(((a==0)=true→Q (.returned (.tuple #[vl g h i,vi 0,vi 0])) I4 F3)∧((a==0)=false→(∃m2:Nat,m2<m1∧Inv15 j k l x x1 g h i (IntKind.wrap .i64 (c+(d.size:Int))) m2 I4 F3)))))))
theorem lj.vc{s:Bs}{I:cS}{F:cR}{Q:cT}(Inv15:OA→Nat→Nat→Int→Int→OA→Nat→Nat→Int→Nat→cS→cR→Prop)(h:lj.V (.int .u8) (.int .i64) .string .slice s I F Q Inv15):cU P 124 #[.string s] I F Q :=
 tw (A:=(dr [1002,6001,9002] [] [123] lW [(15,⟨[(2,.slc),(3,(.int .i64)),(4,(.int .i64)),(5,.slc),(6,(.int .i64))],[],fun _ _ _ vs m I F=>match vs with | [.slice y0 y1 y2,.int _ y3,.int _ y4,.slice y5 y6 y7,.int _ y8]=>Inv15 y0 y1 y2 y3 y4 y5 y6 y7 y8 m I F | _=>False,[],[]⟩)] [8002] [] [] [] [] [])) [123] func124 h
def oB.V(vb vi:Int→Value)(vs:Bs→Value)(s:Bs)(a:Int)(I:cS)(F:cR)(Q:cT)  : Prop:=∀b:Nat,((decide ((s.size:Int)>4096)=true→Q (.returned (.tuple #[.agg #[vb 0,vs (⟨#[]⟩:Bs),vb 0,vi 0,vi 0],vi 0,vi 110])) I F)∧(decide ((s.size:Int)>4096)=false→((decide (a<0)=true→Q (.returned (.tuple #[.agg #[vb 0,vs (⟨#[]⟩:Bs),vb 0,vi 0,vi 0],vi 0,vi 1])) I F)∧(decide (a<0)=false→((decide (a>(s.size:Int))=true→Q (.returned (.tuple #[.agg #[vb 0,vs (⟨#[]⟩:Bs),vb 0,vi 0,vi 0],vi 0,vi 1])) I F)∧(decide (a>(s.size:Int))=false→cU P 123 #[vs s,vi a] I ((b,Obj.cells #[vb 0,vs (⟨#[]⟩:Bs),vb 0,vi 0,vi 0] 76 (0,0))::F) fun e1 I1 G1=>∃(e:Int) (c:Bs) (f g d r1:Int),e1=.returned (.tuple #[.agg #[vb e,vs c,vb f,vi g,vi d],vi r1])∧∃F1:cR,List.Perm G1 ((b,Obj.cells #[vb 0,vs (⟨#[]⟩:Bs),vb 0,vi 0,vi 0] 76 (0,0))::F1)∧∀h:Nat,(((r1 != 0)=true→Q (.returned (.tuple #[.agg #[vb 0,vs (⟨#[]⟩:Bs),vb 0,vi 0,vi 0],vi 0,vi r1])) I1 F1)∧((r1 != 0)=false→Q (.returned (.tuple #[.agg #[vb e,vs c,vb f,vi g,vi d],vi (IntKind.wrap .i64 (d+(c.size:Int))),vi 0])) I1 F1))))))))
theorem oB.vc{s:Bs}{a:Int}{I:cS}{F:cR}{Q:cT}  (h:oB.V (.int .u8) (.int .i64) .string s a I F Q):cU P 102 #[.string s,.int .i64 a] I F Q :=
 tw (A:=(dr [1002,3001,3006,6001] [] [123] lW [] [] [] [(8,7,[0])] [] [] [])) [123] func102 h
end Go.Lx
namespace Go.Lx
open Go.Vc
theorem zb(c:Int)(I:cS)(F:cR):cU P 149 #[.int .u8 c] I F (jS (.bool (o2 c)) F) :=
 nI.vc ⟨rfl,rfl⟩
theorem rF{s:ByteArray}(hs:dt s){i:Int}(h0:0≤i)(h1:i≤s.size){p:Int→Bool}{on:Nat}(hp:∀c I F,cU P on #[.int .u8 c] I F (jS (.bool (p c)) F))(hen:dn P on)(I:cS)(F:cR) :
  cU P 138 #[.string s,.int .i64 i,.func (.func on) #[] #[]] I F (jS (.int .i64 (dx p s i)) F):=by
 unfold dt at hs
 refine qg.vc (fun j m I' F'=>0≤j∧j≤s.size∧m=(s.size-j).toNat∧dx p s j=dx p s i∧F'=F) ?_
 unfold qg.V
 refine⟨⟨_,h0,h1,rfl,rfl,rfl⟩,fun j m I1 F1 hI ⟨g0,g1,gm,gr,gF⟩=>⟨fun hlt=>?_,fun hlt=>?_⟩⟩
 ·have hlt:j<(s.size:Int):=by simpa using hlt
  refine⟨⟨g0,hlt⟩,hen, ?_⟩
  subst gF
  have:=hp (bt s j) I1 F1
  refine cU.ret (by simpa using this) fun I2 h2=>⟨_,rfl,F1,.refl _,fun hc=>?_,fun hc=>⟨?_,rfl⟩⟩
  ·refine⟨m-1,by omega, ?_⟩
   rw[ef (by omega)]
   rw[dy hlt,if_pos hc] at gr
   exact⟨by omega,by omega,by omega,gr,rfl⟩
  ·rw[dy hlt,if_neg (by simpa using hc)] at gr
   rw[gr]
 ·have hlt:¬j<(s.size:Int):=by simpa using hlt
  refine⟨?_,gF⟩
  rw[jz (by omega)] at gr
  rw[gr]
theorem Ac:dn P 135:=iy (by kernel_rfl)
theorem Ad:dn P 139:=iy (by kernel_rfl)
theorem Ae:dn P 149:=iy (by kernel_rfl)
theorem xb{s:ByteArray}(hs:dt s){i:Int}(h0:0≤i)(h1:i≤s.size)(I:cS)(F:cR) :
  cU P 134 #[.string s,.int .i64 i] I F (jS (.int .i64 (dj s i)) F):=by
 have hs':=hs
 unfold dt at hs'
 refine oz.vc (fun j m I' F'=>0≤j∧j≤s.size∧m=(s.size-j).toNat∧dj s j=dj s i∧F'=F) ?_
 unfold oz.V
 refine⟨⟨_,h0,h1,rfl,rfl,rfl⟩,fun j m I1 F1 hI ⟨g0,g1,gm,gr,gF⟩=>⟨fun hlt=>?_,fun hlt=>?_⟩⟩
 ·have hlt:j<(s.size:Int):=by simpa using hlt
  subst gF
  have dg:blank (bt s j)=true→∃m':Nat,m'<m∧0≤IntKind.wrap .i64 (j+1)∧IntKind.wrap .i64 (j+1)≤s.size∧m'=(s.size-IntKind.wrap .i64 (j+1)).toNat ∧
    dj s (IntKind.wrap .i64 (j+1))=dj s i∧F1=F1:=by
   intro hb
   rw[ef (by omega)]
   exact⟨_,by omega,by omega,by omega,rfl,by rw[←gr,tW hlt hb],rfl⟩
  refine⟨⟨g0,hlt⟩,fun h=>dg ?_,fun h32=>⟨fun h=>dg ?_,fun h9=>⟨fun h=>dg ?_,fun h10=>⟨fun h=>dg ?_,fun h13=>⟨fun h=>?_,fun h35=>?_⟩⟩⟩⟩⟩
  ·simp[blank,h]
  ·simp[blank,h]
  ·simp[blank,h]
  ·simp[blank,h]
  ·have h35:bt s j=35:=by simpa using h
   refine cU.ret (rF hs g0 g1 zb Ae I1 F1) fun I2 h2=>⟨_,rfl,F1,.refl _, ?_⟩
   have hr:=dy (p:=o2) hlt
   rw[show o2 (bt s j)=true by simp[o2,h35],if_pos rfl] at hr
   have:=eM (p:=o2) (s:=s) (i:=j+1) (by omega)
   exact⟨_,by omega,by omega,by omega,rfl,by rw[←gr,sC hlt h35],rfl⟩
  ·refine⟨?_,rfl⟩
   have:dj s j=j:=tX hlt (by simp only[blank,h32,h9,h10,h13];rfl) (by simpa using h35)
   rw[this] at gr
   rw[gr]
 ·have hlt:¬j<(s.size:Int):=by simpa using hlt
  refine⟨?_,gF⟩
  have:dj s j=j:=jA (by omega)
  rw[this] at gr
  rw[gr]
theorem zc{s:ByteArray}(hs:dt s){i:Int}(h0:0≤i)(h1:i<s.size)(I:cS)(F:cR):cU P 141 #[.string s,.int .i64 i] I F (jS (.int .i64 (fj s i)) F):=by
 unfold dt at hs
 refine oA.vc ?_
 unfold oA.V
 rw[ef (by omega)]
 refine⟨fun hn=>⟨⟨by omega,by simpa using hn⟩,⟨h0,h1⟩, ?_⟩,fun hn=>⟨⟨h0,h1⟩, ?_⟩⟩
 ·have hd:c5 s (i+1)=bt s (i+1):=by unfold c5;rw[if_pos (by simpa using hn)]
  have e:fj s i=if single (bt s i) then 1 else if bt s i=38∨bt s i=124 then (if bt s (i+1)=bt s i then 2 else 0) else
   if bt s i=61∨bt s i=33∨bt s i=60∨bt s i=62 then (if bt s (i+1)=61 then 2 else 1) else 0:=by unfold fj;rw[hd]
  rw[e]
  generalize bt s i=c
  generalize bt s (i+1)=d
  clear e hd hn
  repeat' (first | (with_reducible apply And.intro) | (with_reducible intro h))
  all_goals (refine⟨?_,rfl⟩;simp_all [single])
 ·have hd:c5 s (i+1)=0:=by unfold c5;rw[if_neg (by simpa using hn)]
  have e:fj s i=if single (bt s i) then 1 else if bt s i=38∨bt s i=124 then (if 0=bt s i then 2 else 0) else
   if bt s i=61∨bt s i=33∨bt s i=60∨bt s i=62 then 1 else 0:=by unfold fj;rw[hd];simp
  rw[e]
  generalize bt s i=c
  clear e hd hn
  repeat' (first | (with_reducible apply And.intro) | (with_reducible intro h))
  all_goals (refine⟨?_,rfl⟩;simp_all [single])
theorem j8(s:ByteArray)(i:Int):0≤fj s i∧fj s i≤2:=by
 unfold fj;simp only;repeat' split
 all_goals decide
theorem oC{s:ByteArray}{i:Int}(h:i<(s.size:Int)):i+fj s i≤s.size:=by
 have hb:c5 s (i+1)≠0→i+1<(s.size:Int):=fun hne=>by
  unfold c5 at hne;split at hne
  ·assumption
  ·exact absurd rfl hne
 unfold fj;simp only
 split
 ·omega
 ·split
  ·rename_i hc;split
   ·rename_i hd;have:=hb (by omega);omega
   ·omega
  ·split
   ·split
    ·rename_i hd;have:=hb (by omega);omega
    ·omega
   ·omega
def Ba(c:Int):List Value:=[.int .u8 c]
def bytesOf(s:ByteArray):List Int:=s.data.toList.map fun b=>(b.toNat:Int)
theorem vM{s:ByteArray}{k:Nat}(h:k<s.size):(bytesOf s)[k]? = some (bt s k):=by
 have h':k<s.data.size:=h
 have h2:s[k]? = some s[k]:=by simp[h]
 have h3:s.data.toList[k]? = some s[k]:=by
  have:s.data.toList[k]? = some s.data[k]:=by simp[h']
  rw[this];rfl
 unfold bytesOf bt
 rw[List.getElem?_map,Int.toNat_natCast,h2,h3]
 rfl
theorem gT{s:ByteArray}{i j:Int}(h0:0≤i)(h1:i≤j)(h2:j≤s.size):((cut s i j).size:Int)=j-i:=by
 unfold cut;rw[ByteArray.size_extract];omega
theorem lY{s:ByteArray}{i j k:Int}(h0:0≤i)(hk:0≤k)(h1:i+k<j)(h2:j≤s.size):bt (cut s i j) k=bt s (i+k):=by
 have hsz:=gT (s:=s) (i:=i) (j:=j) h0 (by omega) h2
 unfold bt
 have e1:(cut s i j)[k.toNat]? = s[(i+k).toNat]?:=by
  have hk':k.toNat<(s.extract i.toNat j.toNat).size:=by unfold cut at hsz;omega
  have hi':(i+k).toNat<s.size:=by omega
  have a1:(s.extract i.toNat j.toNat)[k.toNat]? = some (s.extract i.toNat j.toNat)[k.toNat]:=by simp[hk']
  have a2:s[(i+k).toNat]? = some s[(i+k).toNat]:=by simp[hi']
  show (s.extract i.toNat j.toNat)[k.toNat]? = _
  rw[a1,a2,ByteArray.getElem_extract]
  congr 2
  omega
 rw[e1]
theorem zd(t:ByteArray)(I:cS)(F:cR):dm P (Go.convert 9 79 (.string t)) I F fun v I' G =>
  ∃(b c:Nat),v=.slice (some ⟨b,0,none⟩) t.size c∧Sl I' 1 Ba (some ⟨b,0,none⟩) t.size (bytesOf t)∧G=F:=by
 intro w hw
 have hrun:=Lib.run_convert_string_bytes (P:=P) w 9 79 5 t (u:=.string) (by kernel_rfl) (by kernel_rfl) (by kernel_rfl)
 have hheap:(Lib.bytesWorld w 5 t).heap=w.heap.push (.cells (Lib.bytesCells w 5 t) 5 ((Lib.bytesCells w 5 t).size,(Lib.bytesCells w 5 t).size+1)):=by
  apply Array.ext_getElem?
  intro j
  rw[Array.getElem?_push]
  rcases Nat.lt_trichotomy j w.heap.size with h | h | h
  ·rw[if_neg (by omega),Lib.bytesWorld_at_old w 5 t j h]
  ·subst h;rw[if_pos rfl,Lib.bytesWorld_at_new]
  ·rw[if_neg (by omega),Array.getElem?_eq_none (by rw[Lib.bytesWorld_size];omega),Array.getElem?_eq_none (by omega)]
 obtain⟨hle,hsat⟩:=((hw.alloc (.cells (Lib.bytesCells w 5 t) 5 ((Lib.bytesCells w 5 t).size,(Lib.bytesCells w 5 t).size+1))).jT)
 refine⟨_,_,_,F,hrun,hle,hsat.of_heap hheap ⟨rfl,rfl⟩,w.heap.size,_,rfl, ?_,rfl⟩
 have hl:t.size=(bytesOf t).length:=by unfold bytesOf;simp
 rw[hl]
 refine Sl.oq (z:=1) (f:=Ba) (fun _=>rfl) (cS.nU _ _ _) fun k hk=>?_
 have hfl:(bytesOf t).flatMap Ba=(bytesOf t).map fun c=>Value.int .u8 c:=by
  induction bytesOf t with
  | nil=>rfl
  | cons x l ih=>simp[Ba,ih]
 rw[hfl] at hk ⊢
 have hk':k<t.data.size:=by simpa[bytesOf] using hk
 have hk2:k<t.size:=hk'
 simp[Lib.bytesCells,Array.getElem?_append,hk',hk2,bytesOf,Function.comp_def]
theorem tdiv_le{a d:Int}(hd:0≤d)(ha:d≤9):IntKind.wrap .i64 (Int.tdiv (IntKind.wrap .i64 (9223372036854775807-d)) 10)=(9223372036854775807-d) / 10:=by
 rw[ef (n:=9223372036854775807-d) (by omega),Int.tdiv_eq_ediv_of_nonneg (by omega),ef (by omega)]
theorem Af{c:Int}(h:de c=true):IntKind.wrap .i64 (IntKind.wrap .u8 (c-48))=c-48∧48≤c∧c≤57:=by
 simp only[de,Bool.and_eq_true,decide_eq_true_eq] at h
 rw[w8 (by omega),ef (by omega)]
 exact⟨rfl,h⟩
theorem vN{p:Int→Bool}{s:ByteArray}{i k:Int}(h1:i≤k)(h2:k<dx p s i)(h3:i≤(s.size:Int)):p (bt s k)=true∧dx p s k=dx p s i:=by
 obtain⟨n,hn⟩:∃n:Nat,n=(k-i).toNat:=⟨_,rfl⟩
 have hle:=eM (p:=p) (s:=s) h3
 induction n generalizing i with
 | zero =>
   have:i=k:=by omega
   subst this
   rw[dy (by omega)] at h2
   split at h2
   ·rename_i hp;exact⟨hp,rfl⟩
   ·omega
 | succ n ih =>
   have hr:=dy (p:=p) (s:=s) (i:=i) (by omega)
   split at hr
   ·rw[hr] at h2 ⊢
    exact ih (by omega) h2 (by omega) (by omega) (eM (by omega))
   ·omega
def TR.v2:TR→Value
 | .ok t=>.tuple #[t.v,.int .i64 0]
 | .bad e p=>.tuple #[(jn 0).v,.int .i64 e]
def TR.ED:TR→Value
 | .ok t=>.tuple #[t.v,.int .i64 0]
 | .bad e p=>.tuple #[(jn p).v,.int .i64 e]
theorem vO{s:ByteArray}(hs:dt s){i:Int}(h0:0≤i)(h1:i<s.size)(I:cS)(F:cR):cU P 136 #[.string s,.int .i64 i] I F (jS (jf s i).v2 F):=by
 have hs':=hs
 unfold dt at hs'
 have hE:=eM (p:=de) (s:=s) (i:=i) (by omega)
 have hstop:=jZ (p:=de) (s:=s) (i:=i) (by omega)
 have hcs:=gT (s:=s) h0 hE.1 hE.2
 generalize hEd:dx de s i=E at hE hstop hcs
 have hEnd:∀n,dR s E n=n:=fun n=>by
  rcases Int.lt_or_le E s.size with h | h
  ·rw[gb h,hstop h];rfl
  ·exact mn h
 let e2:Int:=if dS (c5 s E)=1 then E else E+1
 have hbad:(dR s i 0>9223372036854775807∨(E-i>1∧bt s i=48)∨(e2<s.size∧(dC (bt s e2)=true∨(65≤bt s e2∧bt s e2≤90)))) →
   (jf s i).v2=.tuple #[(jn 0).v,.int .i64 113]:=fun h=>by
  unfold jf;simp only[hEd];rw[if_pos h];rfl
 have hok:¬(dR s i 0>9223372036854775807∨(E-i>1∧bt s i=48)∨(e2<s.size∧(dC (bt s e2)=true∨(65≤bt s e2∧bt s e2≤90)))) →
   (jf s i).v2=.tuple #[(⟨3,cut s i e2,dS (c5 s E),dR s i 0,i⟩:Tok).v,.int .i64 0]:=fun h=>by
  unfold jf;simp only[hEd];rw[if_neg h];rfl
 have he2r:e2≤s.size∧E≤e2∧e2≤E+1:=by
  show (if dS (c5 s E)=1 then E else E+1)≤_∧_≤(if dS (c5 s E)=1 then E else E+1)∧(if dS (c5 s E)=1 then E else E+1)≤_
  split
  ·omega
  ·rename_i hne
   have:E<s.size:=by
    rcases Int.lt_or_le E s.size with h | h
    ·exact h
    ·rw[show c5 s E=0 by unfold c5;rw[if_neg (by omega)]] at hne
     exact absurd rfl hne
   omega
 refine lh.vc (fun x k b0 b1 b2 b3 b4 t0 t1 t2 t3 t4 m I' F'=>0≤k∧k≤E-i∧m=(E-i-k).toNat∧t0=3∧t2=1∧0≤t3∧t3≤9223372036854775807∧t4=i∧dR s (i+k) t3=dR s i 0∧F'=F)
  (fun x b0 b1 b2 b3 b4 I' F'=>¬(E-i>1∧bt s i=48)∧F'=F) (fun c I' F'=>c=c5 s E∧F'=F)
  (fun en st t0 t1 t2 t3 t4 I' F'=>en=e2∧t0=3∧t2=dS (c5 s E)∧t3=dR s i 0∧t4=i∧F'=F) ?_
 unfold lh.V
 intro b
 refine cU.ret (rF hs h0 (by omega) nD Ac I _) fun I1 hI1=>⟨_,rfl,F,.refl _, ?_⟩
 intro b_t
 rw[hEd]
 refine⟨⟨h0,hE⟩, ?_⟩
 refine (zd (cut s i E) I1 _).mono fun v I2 G2 hI2 ⟨bb,cc,hv,hSl,hG⟩=>?_
 subst hG
 refine⟨_,_,_,hv,F,.refl _,⟨_,by omega,by omega,rfl,rfl,rfl,by omega,by omega,rfl,by rw[Int.add_zero],rfl⟩, ?_⟩
 intro x k b0 b1 b2 b3 b4 t0 t1 t2 t3 t4 m I3 F3 hI3 ⟨g0,g1,gm,gt0,gt2,gn0,gn1,gt4,gv,gF⟩
 subst gt0 gt2 gF
 obtain rfl:i=t4:=gt4.symm
 refine⟨fun hk=>?_,fun hk=>?_⟩
 ·have hk:k<E-i:=by have:=of_decide_eq_true hk;omega
  refine⟨⟨g0,by omega⟩, ?_⟩
  obtain⟨ad,c,had,hc,hrd⟩:=(hSl.mono hI3).at (i:=k) g0 (by omega)
  have hbtc:c=bt s (i+k):=by
   rw[vM (by omega)] at hc
   have:=lY (s:=s) (i:=i) (j:=E) (k:=k) h0 g0 (by omega) hE.2
   rw[Int.toNat_of_nonneg g0] at hc
   rw[this] at hc
   exact (Option.some.inj hc).symm
  obtain⟨hd,_⟩:=vN (p:=de) (s:=s) (i:=i) (k:=i+k) (by omega) (by omega) (by omega)
  rw[←hbtc] at hd
  obtain⟨hw,hc0,hc1⟩:=Af hd
  have hvs:=gb (s:=s) (i:=i+k) (v:=t3) (by omega)
  rw[←hbtc,if_pos hd] at hvs
  refine⟨ad,had,c,hrd _, ?_⟩
  rw[hw,tdiv_le (a:=0) (by omega) (by omega)]
  refine⟨fun hgt=>⟨?_,rfl⟩,fun hgt=>?_⟩
  ·refine (congrArg Ending.returned (hbad (.inl ?_)).symm)
   have hgt:=of_decide_eq_true hgt
   have:=rb (s:=s) (i:=i+k+1) (v:=10*t3+(c-48)) (by omega)
   omega
  ·have hgt:=of_decide_eq_false hgt
   refine⟨_, ?_, ?_, ?_,rfl,rfl,rfl, ?_, ?_,rfl, ?_,rfl⟩
   ·rw[ef (by omega)];omega
   ·rw[ef (by omega)];omega
   ·rw[ef (by omega)];omega
   ·rw[ef (n:=10*t3) (by omega),ef (by omega)];omega
   ·rw[ef (n:=10*t3) (by omega),ef (by omega)];omega
   ·rw[ef (n:=10*t3) (by omega),ef (n:=k+1) (by omega),ef (n:=10*t3+(c-48)) (by omega),←gv,hvs]
    congr 1;omega
 ·have hk:¬k<E-i:=by have:=of_decide_eq_false hk;omega
  have hkE:i+k=E:=by omega
  rw[hkE,hEnd] at gv
  rw[ef (n:=E-i) (by omega)]
  refine⟨⟨fun hl=>⟨⟨h0,h1⟩,fun h48=>⟨?_,rfl⟩,fun h48=>⟨?_,rfl⟩⟩,fun hl=>⟨?_,rfl⟩⟩, ?_⟩
  ·exact congrArg Ending.returned (hbad (.inr (.inl ⟨of_decide_eq_true hl,by simpa using h48⟩))).symm
  ·intro hc;rw[hc.2] at h48;simp at h48
  ·intro hc;exact absurd hc.1 (of_decide_eq_false hl)
  intro x2 c0 c1 c2 c3 c4 I4 F4 hI4 ⟨hz,hF4⟩
  subst hF4
  refine⟨⟨fun hl=>⟨⟨by omega,of_decide_eq_true hl⟩, ?_,rfl⟩,fun hl=>⟨?_,rfl⟩⟩, ?_⟩
  ·unfold c5;rw[if_pos (of_decide_eq_true hl)]
  ·unfold c5;rw[if_neg (of_decide_eq_false hl)]
  intro more I5 F5 hI5 ⟨hmore,hF5⟩
  subst hF5
  refine⟨?_, ?_⟩
  ·rw[show IntKind.wrap .i64 (IntKind.wrap .i64 (IntKind.wrap .i64 (-1+1)+1)+1)=2 by decide,show IntKind.wrap .i64 (IntKind.wrap .i64 (-1+1)+1)=1 by decide,
    show IntKind.wrap .i64 (-1+1)=0 by decide,ef (n:=E+1) (by omega)]
   refine⟨fun h=>?_,fun h=>⟨fun h'=>?_,fun h'=>⟨fun h''=>?_,fun h''=>?_⟩⟩⟩
   ·have:more=116:=by simpa using h
    have ht:dS (c5 s E)=4:=by rw[←hmore,this];rfl
    refine⟨?_,rfl,by rw[ht];decide,gv,rfl,rfl⟩
    show _=if dS (c5 s E)=1 then E else E+1
    rw[ht];rfl
   ·have:more=112:=by simpa using h'
    have ht:dS (c5 s E)=3:=by rw[←hmore,this];rfl
    refine⟨?_,rfl,by rw[ht];decide,gv,rfl,rfl⟩
    show _=if dS (c5 s E)=1 then E else E+1
    rw[ht];rfl
   ·have:more=113:=by simpa using h''
    have ht:dS (c5 s E)=2:=by rw[←hmore,this];rfl
    refine⟨?_,rfl,by rw[ht];decide,gv,rfl,rfl⟩
    show _=if dS (c5 s E)=1 then E else E+1
    rw[ht];rfl
   ·have ht:dS (c5 s E)=1:=by
     rw[←hmore];unfold dS
     rw[if_neg (by simpa using h),if_neg (by simpa using h'),if_neg (by simpa using h'')]
    refine⟨?_,rfl,ht.symm,gv,rfl,rfl⟩
    show _=if dS (c5 s E)=1 then E else E+1
    rw[ht];rfl
  intro en st u0 u1 u2 u3 u4 I6 F6 hI6 ⟨hen,hu0,hu2,hu3,hu4,hF6⟩
  subst hu0 hu2 hF6 hen
  obtain rfl:i=u4:=hu4.symm
  have nov:¬dR s i 0>9223372036854775807:=by omega
  have okk:¬(e2<s.size∧(dC (bt s e2)=true∨(65≤bt s e2∧bt s e2≤90))) →
    (0≤i∧i≤e2∧e2≤(s.size:Int))∧∀(J:cS),jS (jf s i).v2 F6 (.returned (Value.tuple #[Value.agg #[Value.int .u8 3,Value.string (s.extract (Int.toNat (i)) (Int.toNat (e2))),Value.int .u8 (dS (c5 s E)),Value.int .i64 u3,Value.int .i64 i],Value.int .i64 0])) J F6:=fun h=>by
   refine⟨by omega,fun J=>⟨?_,rfl⟩⟩
   rw[hok (fun h'=>h'.elim nov fun h'=>h'.elim hz h),hu3]
   rfl
  refine⟨fun hl=>⟨⟨by omega,of_decide_eq_true hl⟩, ?_⟩,fun hl=>?_⟩
  ·have hl:=of_decide_eq_true hl
   refine cU.ret (rh (bt s e2) I6 _) fun I7 hI7=>⟨_,rfl,F6,.refl _,fun hi=>⟨?_,rfl⟩,fun hi=>⟨⟨by omega,hl⟩,fun h65=>⟨⟨by omega,hl⟩,fun h90=>⟨?_,rfl⟩,fun h90=>?_⟩,fun h65=>?_⟩⟩
   ·exact congrArg Ending.returned (hbad (.inr (.inr ⟨hl,.inl hi⟩))).symm
   ·exact congrArg Ending.returned (hbad (.inr (.inr ⟨hl,.inr ⟨of_decide_eq_true h65,of_decide_eq_true h90⟩⟩))).symm
   ·obtain⟨a1,a2⟩:=okk (fun h=>h.2.elim (fun h=>by rw[hi] at h;cases h) fun h=>of_decide_eq_false h90 h.2)
    exact⟨a1,a2 _⟩
   ·obtain⟨a1,a2⟩:=okk (fun h=>h.2.elim (fun h=>by rw[hi] at h;cases h) fun h=>of_decide_eq_false h65 h.1)
    exact⟨a1,a2 _⟩
  ·obtain⟨a1,a2⟩:=okk (fun h=>of_decide_eq_false hl h.1)
   exact⟨a1,a2 _⟩
theorem Ch{α:Type}{C:Prop}[d:Decidable C]{x y z:α}(h:z=if C then x else y):∃C':Prop,(C'∧z=x)∨(¬C'∧z=y) :=
 ⟨C,(Classical.em C).imp (fun c=>⟨c,by rw[h,if_pos c]⟩) fun c=>⟨c,by rw[h,if_neg c]⟩⟩
theorem yf(s:ByteArray)(i:Int):∃C:Prop,(C∧jf s i=.bad 113 i)∨(¬C∧jf s i =
  .ok ⟨3,cut s i (if dS (c5 s (dx de s i))=1 then dx de s i else dx de s i+1),dS (c5 s (dx de s i)),dR s i 0,i⟩):=by
 exact Ch rfl
theorem rG(s:ByteArray)(i:Int):(∃t,jf s i=.ok t∧t.pos=i)∨jf s i=.bad 113 i:=by
 obtain⟨C,⟨_,h⟩ | ⟨_,h⟩⟩:=yf s i
 ·exact .inr h
 ·exact .inl ⟨_,h,rfl⟩
theorem rH{s:ByteArray}(hs:dt s){f:Int}(h0:0≤f)(h1:f≤s.size)(I:cS)(F:cR):cU P 123 #[.string s,.int .i64 f] I F (jS (gK s f).ED F):=by
 have hs':=hs
 unfold dt at hs'
 refine mw.vc ?_
 unfold mw.V
 intro b
 have ho:=il (s:=s) h1
 refine cU.ret (xb hs h0 h1 I _) fun I1 hI1=>⟨_,rfl,F,.refl _, ?_⟩
 unfold gK
 simp only
 generalize dj s f=r at ho ⊢
 refine⟨fun h=>⟨?_,rfl⟩,fun h=>⟨?_, ?_⟩⟩
 ·rw[if_pos (by simpa using h)];rfl
 ·have:r≠s.size:=by simpa using h
  omega
 ·have hlt:r<s.size:=by have:r≠s.size:=by simpa using h
                        omega
  rw[if_neg (by omega)]
  refine cU.ret (nD (bt s r) I1 _) fun I2 hI2=>⟨_,rfl,F,.refl _,fun hd=>?_,fun hd=>?_⟩
  ·rw[if_pos hd]
   refine cU.ret (vO hs (by omega) hlt I2 _) fun I3 hI3=>?_
   rcases rG s r with ⟨t,ht,hp⟩ | ht
   ·rw[ht];exact⟨_,_,_,_,_,_,rfl,F,.refl _,fun b_t=>⟨by rw[←hp];rfl,rfl⟩⟩
   ·rw[ht];exact⟨_,_,_,_,_,_,rfl,F,.refl _,fun b_t=>⟨rfl,rfl⟩⟩
  ·rw[if_neg (by rw[hd];exact Bool.false_ne_true)]
   refine cU.ret (re (bt s r) I2 _) fun I3 hI3=>⟨_,rfl,F,.refl _,fun hm=>?_,fun hm=>?_⟩
   ·rw[if_pos hm]
    have hn:=eM (p:=dC) (s:=s) (i:=r) (by omega)
    refine cU.ret (rF hs (by omega) (by omega) rh Ad I3 _) fun I4 hI4=>⟨_,rfl,F,.refl _, ?_⟩
    unfold j2
    simp only
    generalize dx dC s r=e at hn ⊢
    rw[ef (by omega)]
    refine⟨fun h=>⟨?_,rfl⟩,fun h=>⟨⟨by omega,hn⟩,fun b_t=>?_⟩⟩
    ·rw[if_pos (of_decide_eq_true h)];rfl
    ·rw[if_neg (of_decide_eq_false h)]
     refine cU.ret (yW (cut s r e) I4 _) fun I5 hI5=>⟨_,rfl,F,.refl _,fun hw=>⟨?_,rfl⟩,fun hw=>⟨?_,rfl⟩⟩
     ·rw[if_pos hw];rfl
     ·rw[if_neg (by rw[hw];exact Bool.false_ne_true)];rfl
   ·rw[if_neg (by rw[hm];exact Bool.false_ne_true)]
    refine cU.ret (zc hs (by omega) hlt I3 _) fun I4 hI4=>⟨_,rfl,F,.refl _, ?_⟩
    have hr:=j8 s r
    have hl:=oC hlt
    unfold j3
    generalize fj s r=k at hr hl ⊢
    rw[ef (by omega)]
    refine⟨fun h=>⟨?_,rfl⟩,fun h=>⟨by omega, ?_,rfl⟩⟩
    ·rw[if_pos (by simpa using h)];rfl
    ·rw[if_neg (by simpa using h)];rfl
def tq(s:ByteArray)(f:Int):Value :=
 if (s.size:Int)>4096 then .tuple #[(jn 0).v,.int .i64 0,.int .i64 110]
 else if f<0∨f>s.size then .tuple #[(jn 0).v,.int .i64 0,.int .i64 1]
 else match gK s f with
  | .ok t=>.tuple #[t.v,.int .i64 (t.pos+t.text.size),.int .i64 0]
  | .bad e p=>.tuple #[(jn 0).v,.int .i64 0,.int .i64 e]
def tr(s:ByteArray)(i:Int)(t:Tok):Prop :=
 t.pos=i∧t.pos+t.text.size≤s.size∧t.text=cut s t.pos (t.pos+t.text.size)∧((t.kind=0∧i=s.size∧t=jn s.size)∨(0<t.kind∧t.kind≤4∧0<t.text.size))
theorem tr.mk'{s:ByteArray}{i e k y n:Int}(h0:0≤i)(h:i<e)(h1:e≤s.size)(hk:0<k∧k≤4):tr s i ⟨k,cut s i e,y,n,i⟩:=by
 have hc:=gT h0 (by omega:i≤e) h1
 refine⟨rfl, ?_, ?_,.inr ⟨hk.1,hk.2, ?_⟩⟩
 ·show i+((cut s i e).size:Int)≤_;omega
 ·show cut s i e=cut s i (i+(cut s i e).size);rw[hc];congr 1;omega
 ·show 0<(cut s i e).size;omega
theorem Ag(s:ByteArray)(i:Int):cut s i i=⟨#[]⟩:=by
 unfold cut
 have:(s.extract i.toNat i.toNat).size=0:=by rw[ByteArray.size_extract];omega
 exact ByteArray.size_eq_zero_iff.1 this
theorem gh{s:ByteArray}{f:Int}(h0:0≤f)(h1:f≤s.size) :
  (∃t,gK s f=.ok t∧tr s (dj s f) t)∨(∃e,gK s f=.bad e (dj s f)∧(e=111∨e=112∨e=113)):=by
 have ho:=il (s:=s) h1
 unfold gK
 simp only
 generalize dj s f=i at ho ⊢
 by_cases hi:i=s.size
 ·rw[if_pos hi]
  refine .inl ⟨_,rfl,rfl, ?_, ?_,.inl ⟨rfl,hi,by rw[hi]⟩⟩
  ·show i+((0:Nat):Int)≤_;omega
  ·show (⟨#[]⟩:ByteArray)=cut s i (i+((0:Nat):Int))
   rw[show i+((0:Nat):Int)=i by omega,Ag]
 ·have hlt:i<s.size:=by omega
  rw[if_neg hi]
  by_cases hd:de (bt s i)=true
  ·rw[if_pos hd]
   obtain⟨C,⟨_,h⟩ | ⟨_,h⟩⟩:=yf s i
   ·exact .inr ⟨_,h,by simp⟩
   ·refine .inl ⟨_,h, ?_⟩
    have hr:=dy (p:=de) hlt
    rw[if_pos hd] at hr
    have:=eM (p:=de) (s:=s) (i:=i+1) (by omega)
    refine tr.mk' (by omega) ?_ ?_ (by decide)
    ·split<;>omega
    ·split
     ·omega
     ·rename_i hne
      have:dx de s i<s.size:=by
       rcases Int.lt_or_le (dx de s i) s.size with h | h
       ·exact h
       ·rw[show c5 s (dx de s i)=0 by unfold c5;rw[if_neg (by omega)]] at hne
        exact absurd rfl hne
      omega
  ·rw[if_neg hd]
   by_cases hm:fZ (bt s i)=true
   ·rw[if_pos hm]
    have hr:=dy (p:=dC) hlt
    rw[if_pos (by simp[dC,hm])] at hr
    have:=eM (p:=dC) (s:=s) (i:=i+1) (by omega)
    unfold j2
    simp only
    split
    ·exact .inr ⟨_,rfl,by simp⟩
    ·exact .inl ⟨_,rfl,tr.mk' (by omega) (by omega) (by omega) (by split<;>decide)⟩
   ·rw[if_neg hm]
    have hr:=j8 s i
    have hl:=oC hlt
    unfold j3
    split
    ·exact .inr ⟨_,rfl,by simp⟩
    ·exact .inl ⟨_,rfl,tr.mk' (by omega) (by omega) (by omega) (by decide)⟩
theorem my{s:ByteArray}(hs:dt s){f:Int}(I:cS)(F:cR):cU P 102 #[.string s,.int .i64 f] I F (jS (tq s f) F):=by
 refine oB.vc ?_
 unfold oB.V
 intro b
 unfold tq
 refine⟨fun h=>⟨by rw[if_pos (of_decide_eq_true h)];rfl,rfl⟩,fun h=>?_⟩
 rw[if_neg (of_decide_eq_false h)]
 refine⟨fun h=>⟨by rw[if_pos (.inl (of_decide_eq_true h))];rfl,rfl⟩,fun h=>⟨fun h=>⟨by rw[if_pos (.inr (of_decide_eq_true h))];rfl,rfl⟩,fun h'=>?_⟩⟩
 have h:=of_decide_eq_false h
 have h':=of_decide_eq_false h'
 unfold dt at hs
 rw[if_neg (by omega)]
 refine cU.ret (rH hs (by omega) (by omega) I _) fun I1 hI1=>?_
 rcases gh (s:=s) (f:=f) (by omega) (by omega) with ⟨t,ht,hp,hl,_⟩ | ⟨e,ht,he⟩
 ·rw[ht]
  refine⟨_,_,_,_,_,_,rfl,F,.refl _,fun b_t=>⟨fun h=>absurd h (by decide),fun _=>⟨?_,rfl⟩⟩⟩
  have:=il (s:=s) (i:=f) (by omega)
  rw[ef (n:=t.pos+t.text.size) (by omega)];rfl
 ·rw[ht]
  refine⟨_,_,_,_,_,_,rfl,F,.refl _,fun b_t=>⟨fun h=>⟨rfl,rfl⟩,fun h=>?_⟩⟩
  rcases he with rfl | rfl | rfl<;>exact absurd h (by decide)
end Go.Lx
namespace Go.Lx
open Go.Vc Go.Proofs.Tryz
def o9:List (Nat×List Sh):=[(3,[.one (.int .i64)]),(4,[.one .bool]),(9,[.one .str]),(77,[.agg [(.int .u8),.str,(.int .u8),(.int .i64),(.int .i64)],.one (.int .i64),.one (.int .i64)]),(80,[.one .slc]),(81,[.one .slc,.one (.int .i64),.one (.int .i64)]),(134,[.agg [(.int .u8),.str,(.int .u8),(.int .i64),(.int .i64)],.one (.int .i64)])]
def ll.V(vi:Int→Value)(wr:Int→Int)(s:Bs)(p:Int)(I:cS)(F:cR)(Q:cT)(Inv8:Int→Bool→Int→Nat→cS→cR→Prop):Prop:=(∃m:Nat,Inv8 0 false p m I F)∧∀(x:Int) (a:Bool) (i:Int) (m1:Nat) (I1:cS) (F1:cR),cS.le I I1→Inv8 x a i m1 I1 F1→(Dt (i<(s.size:Int)) ((0≤i∧i<(s.size:Int))∧(It ((bt s i)==10) (It ((bt s i)==35) (It false (It ((bt s i)!=32) (It ((bt s i)!=9) (It ((bt s i)!=10) (It ((bt s i)!=13) (Q (.returned (vi i)) I1 F1) (∃m2:Nat,m2<m1∧Inv8 x true (wr (i+1)) m2 I1 F1)) (∃m3:Nat,m3<m1∧Inv8 x true (wr (i+1)) m3 I1 F1)) (∃m4:Nat,m4<m1∧Inv8 x true (wr (i+1)) m4 I1 F1)) (∃m5:Nat,m5<m1∧Inv8 x true (wr (i+1)) m5 I1 F1)) (∃m6:Nat,m6<m1∧Inv8 x true (wr (i+1)) m6 I1 F1)) (It true (It ((bt s i)!=32) (It ((bt s i)!=9) (It ((bt s i)!=10) (It ((bt s i)!=13) (Q (.returned (vi i)) I1 F1) (∃m7:Nat,m7<m1∧Inv8 x false (wr (i+1)) m7 I1 F1)) (∃m8:Nat,m8<m1∧Inv8 x false (wr (i+1)) m8 I1 F1)) (∃m9:Nat,m9<m1∧Inv8 x false (wr (i+1)) m9 I1 F1)) (∃b:Nat,b<m1∧Inv8 x false (wr (i+1)) b I1 F1)) (∃c:Nat,c<m1∧Inv8 x false (wr (i+1)) c I1 F1))) (It ((bt s i)==35) (It false (It ((bt s i)!=32) (It ((bt s i)!=9) (It ((bt s i)!=10) (It ((bt s i)!=13) (Q (.returned (vi i)) I1 F1) (∃d:Nat,d<m1∧Inv8 x true (wr (i+1)) d I1 F1)) (∃e:Nat,e<m1∧Inv8 x true (wr (i+1)) e I1 F1)) (∃f:Nat,f<m1∧Inv8 x true (wr (i+1)) f I1 F1)) (∃g:Nat,g<m1∧Inv8 x true (wr (i+1)) g I1 F1)) (∃h:Nat,h<m1∧Inv8 x true (wr (i+1)) h I1 F1)) (It (!a) (It ((bt s i)!=32) (It ((bt s i)!=9) (It ((bt s i)!=10) (It ((bt s i)!=13) (Q (.returned (vi i)) I1 F1) (∃j:Nat,j<m1∧Inv8 x a (wr (i+1)) j I1 F1)) (∃k:Nat,k<m1∧Inv8 x a (wr (i+1)) k I1 F1)) (∃l:Nat,l<m1∧Inv8 x a (wr (i+1)) l I1 F1)) (∃n:Nat,n<m1∧Inv8 x a (wr (i+1)) n I1 F1)) (∃o:Nat,o<m1∧Inv8 x a (wr (i+1)) o I1 F1))))) (Q (.returned (vi (s.size:Int))) I1 F1))
theorem ll.vc{s:Bs}{a:Int}{I:cS}{F:cR}{Q:cT}(Inv8:Int→Bool→Int→Nat→cS→cR→Prop)(h:ll.V (.int .i64) (IntKind.wrap .i64) s a I F Q Inv8):cU P 53 #[.string s,.int .i64 a] I F Q :=
 tw (A:=(dr [3003,6001,8001,10001,10004,10008,10012,10016] [] [] o9 [(8,⟨[(4,(.int .i64)),(5,.bool),(6,(.int .i64))],[],fun _ _ _ vs m I F=>match vs with | [.int _ y0,.bool y1,.int _ y2]=>Inv8 y0 y1 y2 m I F | _=>False,[],[]⟩)] [] [] [] [] [] [])) [] func53 h
def j9.V(ka:Nat→Int→Bs→Int→Int→Int→Nat×Obj)(vb vi:Int→Value)(vs:Bs→Value)(wr:Int→Int)(s:Bs)(c:Int)(I:cS)(F:cR)(Q:cT)(Inv6:Int→Nat→cS→cR→Prop):Prop:=∀b:Nat,(∃m:Nat,Inv6 c m I F)∧∀(a:Int) (m1:Nat) (I1:cS) (F1:cR),cS.le I I1→Inv6 a m1 I1 F1→(Dt (a<(s.size:Int)) ((0≤a∧a<(s.size:Int))∧eZ P 97 (#[vb (bt s a)]) I1 ((ka b 0 (⟨#[]⟩:Bs) 0 0 0)::·) F1 .bool fun r I2 F2=>(It r (∃m2:Nat,m2<m1∧Inv6 (wr (a+1)) m2 I2 F2) ((0≤c∧c≤a∧a≤(s.size:Int))∧∀e:Nat,(Dt ((wr (a-c))>16) (Q (.returned (.tuple #[.agg #[vb 0,vs (⟨#[]⟩:Bs),vb 0,vi 0,vi 0],vi 112])) I2 F2) (eZ P 96 (#[vs (s.extract (Int.toNat c) (Int.toNat a))]) I2 ((ka b 0 (⟨#[]⟩:Bs) 0 0 0)::(ka e 2 (s.extract (Int.toNat c) (Int.toNat a)) 0 0 c)::·) F2 .bool fun r1 I3 F3=>(It r1 (Q (.returned (.tuple #[.agg #[vb 1,vs (s.extract (Int.toNat c) (Int.toNat a)),vb 0,vi 0,vi c],vi 0])) I3 F3) (Q (.returned (.tuple #[.agg #[vb 2,vs (s.extract (Int.toNat c) (Int.toNat a)),vb 0,vi 0,vi c],vi 0])) I3 F3))))))) ((0≤c∧c≤a∧a≤(s.size:Int))∧∀d:Nat,(Dt ((wr (a-c))>16) (Q (.returned (.tuple #[.agg #[vb 0,vs (⟨#[]⟩:Bs),vb 0,vi 0,vi 0],vi 112])) I1 F1) (eZ P 96 (#[vs (s.extract (Int.toNat c) (Int.toNat a))]) I1 ((ka b 0 (⟨#[]⟩:Bs) 0 0 0)::(ka d 2 (s.extract (Int.toNat c) (Int.toNat a)) 0 0 c)::·) F1 .bool fun r2 I4 F4=>(It r2 (Q (.returned (.tuple #[.agg #[vb 1,vs (s.extract (Int.toNat c) (Int.toNat a)),vb 0,vi 0,vi c],vi 0])) I4 F4) (Q (.returned (.tuple #[.agg #[vb 2,vs (s.extract (Int.toNat c) (Int.toNat a)),vb 0,vi 0,vi c],vi 0])) I4 F4))))))
theorem j9.vc{s:Bs}{f:Int}{I:cS}{F:cR}{Q:cT}(Inv6:Int→Nat→cS→cR→Prop)(h:j9.V (fun W a b c d e=>(W,Obj.cells #[.int .u8 a,.string b,.int .u8 c,.int .i64 d,.int .i64 e] 76 (0,0))) (.int .u8) (.int .i64) .string (IntKind.wrap .i64) s f I F Q Inv6):cU P 55 #[.string s,.int .i64 f] I F Q :=
 tw (A:=(dr [2003,2008,5003,8000] [] [96,97] o9 [(6,⟨[(6,(.int .i64))],[],fun _ _ _ vs m I F=>match vs with | [.int _ y0]=>Inv6 y0 m I F | _=>False,[],[]⟩)] [] [] [] [] [] [])) [96,97] func55 h
def jr.V(ka:Nat→Int→Bs→Int→Int→Int→Nat×Obj)(kb:Int→Bs→Int→Int→Int→Value)(vb vi:Int→Value)(vs:Bs→Value)(wr:Int→Int)(s:Bs)(d:Int)(I:cS)(F:cR)(Q:cT)(Inv8:Int→Int→Int→Int→Bs→Int→Int→Int→cS→cR→Prop)(Inv10:Int→Int→Int→Int→Bs→Int→Int→Int→Nat→cS→cR→Prop)(Inv29:Int→Int→Bs→Int→Int→Int→cS→cR→Prop)(Inv39:Int→Bs→Int→Int→Int→cS→cR→Prop)(Inv45:Int→Bs→Int→Int→Int→cS→cR→Prop)(Inv51:Int→Bs→Int→Int→Int→cS→cR→Prop)(Inv57:Int→cS→cR→Prop):Prop:=∀b:Nat,∀ao:Nat,((∃m:Nat,Inv10 0 d 0 0 (⟨#[]⟩:Bs) 0 0 0 m I F)∧∀(x f n y:Int) (z:Bs) (aa ab ac:Int) (m1:Nat) (I1:cS) (F1:cR),cS.le I I1→Inv10 x f n y z aa ab ac m1 I1 F1→(Dt (f<(s.size:Int)) ((0≤f∧f<(s.size:Int))∧eZ P 56 (#[vb (bt s f)]) I1 ((ka b y z aa ab ac)::(ka ao 3 (⟨#[]⟩:Bs) 1 0 d)::·) F1 .bool fun r I2 F2=>(It r (Dt (n>922337203685477580) (Q (.returned (.tuple #[(kb 0 (⟨#[]⟩:Bs) 0 0 0),vi 113])) I2 F2) ((0≤f∧f<(s.size:Int))∧(∃m2:Nat,m2<m1∧Inv10 x (wr (f+1)) (IntKind.wrap .u64 ((IntKind.wrap .u64 (10*n))+(IntKind.wrap .u64 (IntKind.wrap .u8 ((bt s f)-48))))) y z aa ab ac m2 I2 F2))) (Inv8 x f n y z aa ab ac I2 F2))) (Inv8 x f n y z aa ab ac I1 F1)))∧∀(x1 a n1 ae:Int) (af:Bs) (ag ah ai:Int) (I3:cS) (F3:cR),cS.le I I3→Inv8 x1 a n1 ae af ag ah ai I3 F3→((Dt (n1>9223372036854775807) (Q (.returned (.tuple #[(kb 0 (⟨#[]⟩:Bs) 0 0 0),vi 113])) I3 F3) (Dt ((wr (a-d))>1) ((0≤d∧d<(s.size:Int))∧(It ((bt s d)==48) (Q (.returned (.tuple #[(kb 0 (⟨#[]⟩:Bs) 0 0 0),vi 113])) I3 F3) (Inv29 x1 ae af ag ah ai I3 F3))) (Inv29 x1 ae af ag ah ai I3 F3))))∧∀(x2 aj:Int) (ak:Bs) (al am an:Int) (I4:cS) (F4:cR),cS.le I3 I4→Inv29 x2 aj ak al am an I4 F4→((Dt (a<(s.size:Int)) ((0≤a∧a<(s.size:Int))∧(It ((bt s a)==113) (Inv39 3 (⟨#[]⟩:Bs) 2 (wr n1) d I4 F4) (Inv39 3 (⟨#[]⟩:Bs) 1 (wr n1) d I4 F4))) (Inv39 3 (⟨#[]⟩:Bs) 1 (wr n1) d I4 F4)))∧∀(p:Int) (q:Bs) (ad t u:Int) (I5:cS) (F5:cR),cS.le I4 I5→Inv39 p q ad t u I5 F5→((Dt (a<(s.size:Int)) ((0≤a∧a<(s.size:Int))∧(It ((bt s a)==112) (Inv45 p q 3 t u I5 F5) (Inv45 p q ad t u I5 F5))) (Inv45 p q ad t u I5 F5)))∧∀(j:Int) (k:Bs) (v l o:Int) (I6:cS) (F6:cR),cS.le I5 I6→Inv45 j k v l o I6 F6→((Dt (a<(s.size:Int)) ((0≤a∧a<(s.size:Int))∧(It ((bt s a)==116) (Inv51 j k 4 l o I6 F6) (Inv51 j k v l o I6 F6))) (Inv51 j k v l o I6 F6)))∧∀(g:Int) (w:Bs) (e h i:Int) (I7:cS) (F7:cR),cS.le I6 I7→Inv51 g w e h i I7 F7→((It (e != 1) (Inv57 (wr (a+1)) I7 F7) (Inv57 a I7 F7)))∧∀(c:Int) (I8:cS) (F8:cR),cS.le I7 I8→Inv57 c I8 F8→(Dt (c<(s.size:Int)) ((0≤c∧c<(s.size:Int))∧eZ P 97 (#[vb (bt s c)]) I8 ((ka b aj ak al am an)::(ka ao g w e h i)::·) F8 .bool fun r1 I9 F9=>(It r1 (Q (.returned (.tuple #[(kb 0 (⟨#[]⟩:Bs) 0 0 0),vi 113])) I9 F9) ((0≤c∧c<(s.size:Int))∧(Dt ((bt s c)≥65) ((0≤c∧c<(s.size:Int))∧(Dt ((bt s c)≤90) (Q (.returned (.tuple #[(kb 0 (⟨#[]⟩:Bs) 0 0 0),vi 113])) I9 F9) ((0≤d∧d≤c∧c≤(s.size:Int))∧Q (.returned (.tuple #[(kb g (s.extract (Int.toNat d) (Int.toNat c)) e h i),vi 0])) I9 F9))) ((0≤d∧d≤c∧c≤(s.size:Int))∧Q (.returned (.tuple #[(kb g (s.extract (Int.toNat d) (Int.toNat c)) e h i),vi 0])) I9 F9))))) ((0≤d∧d≤c∧c≤(s.size:Int))∧Q (.returned (.tuple #[(kb g (s.extract (Int.toNat d) (Int.toNat c)) e h i),vi 0])) I8 F8))
theorem jr.vc{s:Bs}{f:Int}{I:cS}{F:cR}{Q:cT}(Inv8:Int→Int→Int→Int→Bs→Int→Int→Int→cS→cR→Prop)(Inv10:Int→Int→Int→Int→Bs→Int→Int→Int→Nat→cS→cR→Prop)(Inv29:Int→Int→Bs→Int→Int→Int→cS→cR→Prop)(Inv39:Int→Bs→Int→Int→Int→cS→cR→Prop)(Inv45:Int→Bs→Int→Int→Int→cS→cR→Prop)(Inv51:Int→Bs→Int→Int→Int→cS→cR→Prop)(Inv57:Int→cS→cR→Prop)(h:jr.V (fun W a b c d e=>(W,Obj.cells #[.int .u8 a,.string b,.int .u8 c,.int .i64 d,.int .i64 e] 76 (0,0))) (fun a b c d e=>.agg #[.int .u8 a,.string b,.int .u8 c,.int .i64 d,.int .i64 e]) (.int .u8) (.int .i64) .string (IntKind.wrap .i64) s f I F Q Inv8 Inv10 Inv29 Inv39 Inv45 Inv51 Inv57):cU P 57 #[.string s,.int .i64 f] I F Q :=
 tw (A:=(dr [4003,4008,5001,9001,9006,9011,12003,12008,14003,14008,16003,16008,18002,20003,20008,20013,20018] [] [56,97] o9 [(8,⟨[(5,(.int .i64)),(7,(.int .i64)),(8,(.int .u64))],[(0,[(.int .u8),.str,(.int .u8),(.int .i64),(.int .i64)])],fun _ _ _ vs m I F=>match vs with | [.int _ y0,.int _ y1,.int _ y2,.int _ y3,.string y4,.int _ y5,.int _ y6,.int _ y7]=>Inv8 y0 y1 y2 y3 y4 y5 y6 y7 I F | _=>False,[],[]⟩),(10,⟨[(5,(.int .i64)),(7,(.int .i64)),(8,(.int .u64))],[(0,[(.int .u8),.str,(.int .u8),(.int .i64),(.int .i64)])],fun _ _ _ vs m I F=>match vs with | [.int _ y0,.int _ y1,.int _ y2,.int _ y3,.string y4,.int _ y5,.int _ y6,.int _ y7]=>Inv10 y0 y1 y2 y3 y4 y5 y6 y7 m I F | _=>False,[],[]⟩),(29,⟨[(5,(.int .i64))],[(0,[(.int .u8),.str,(.int .u8),(.int .i64),(.int .i64)])],fun _ _ _ vs m I F=>match vs with | [.int _ y0,.int _ y1,.string y2,.int _ y3,.int _ y4,.int _ y5]=>Inv29 y0 y1 y2 y3 y4 y5 I F | _=>False,[],[]⟩),(39,⟨[],[(1,[(.int .u8),.str,(.int .u8),(.int .i64),(.int .i64)])],fun _ _ _ vs m I F=>match vs with | [.int _ y0,.string y1,.int _ y2,.int _ y3,.int _ y4]=>Inv39 y0 y1 y2 y3 y4 I F | _=>False,[],[]⟩),(45,⟨[],[(1,[(.int .u8),.str,(.int .u8),(.int .i64),(.int .i64)])],fun _ _ _ vs m I F=>match vs with | [.int _ y0,.string y1,.int _ y2,.int _ y3,.int _ y4]=>Inv45 y0 y1 y2 y3 y4 I F | _=>False,[],[]⟩),(51,⟨[],[(1,[(.int .u8),.str,(.int .u8),(.int .i64),(.int .i64)])],fun _ _ _ vs m I F=>match vs with | [.int _ y0,.string y1,.int _ y2,.int _ y3,.int _ y4]=>Inv51 y0 y1 y2 y3 y4 I F | _=>False,[],[]⟩),(57,⟨[(7,(.int .i64))],[],fun _ _ _ vs m I F=>match vs with | [.int _ y0]=>Inv57 y0 I F | _=>False,[],[]⟩)] [] [] [] [] [] [])) [56,97] func57 h
def lp.V(vb vi:Int→Value)(vs:Bs→Value)(wr:Int→Int)(s:Bs)(a:Int)(I:cS)(F:cR)(Q:cT)(Inv8:Int→Int→Int→Bs→Int→Int→Int→Nat→cS→cR→Prop):Prop:=∀b:Nat,∀(b1:Nat) (I1:cS),cS.le I I1→I1 b1=some (Obj.cells #[vs (⟨#[61,61]⟩:Bs),vs (⟨#[33,61]⟩:Bs),vs (⟨#[60,61]⟩:Bs),vs (⟨#[62,61]⟩:Bs),vs (⟨#[38,38]⟩:Bs),vs (⟨#[124,124]⟩:Bs),vs (⟨#[123]⟩:Bs),vs (⟨#[125]⟩:Bs),vs (⟨#[40]⟩:Bs),vs (⟨#[41]⟩:Bs),vs (⟨#[44]⟩:Bs),vs (⟨#[59]⟩:Bs),vs (⟨#[63]⟩:Bs),vs (⟨#[58]⟩:Bs),vs (⟨#[61]⟩:Bs),vs (⟨#[33]⟩:Bs),vs (⟨#[60]⟩:Bs),vs (⟨#[62]⟩:Bs),vs (⟨#[43]⟩:Bs),vs (⟨#[45]⟩:Bs),vs (⟨#[42]⟩:Bs),vs (⟨#[47]⟩:Bs),vs (⟨#[37]⟩:Bs)] 9 (0,0))→(∃m:Nat,Inv8 0 0 0 (⟨#[]⟩:Bs) 0 0 0 m I1 F)∧∀(x i c:Int) (d:Bs) (e f g:Int) (m1:Nat) (I2:cS) (F1:cR),cS.le I1 I2→Inv8 x i c d e f g m1 I2 F1→(Dt (i<(23:Int)) ((0≤i∧i<(23:Int))∧∃ad:Addr,some ⟨b1,0,none⟩=some ad∧∃(m2:Bs),Rd I2 ((b,Obj.cells #[vb c,vs d,vb e,vi f,vi g] 76 (0,0))::F1) (ad.add (Int.toNat i*1)) [vs m2]∧(Dt ((wr (a+(m2.size:Int)))≤(s.size:Int)) ((0≤a∧a≤(wr (a+(m2.size:Int)))∧(wr (a+(m2.size:Int)))≤(s.size:Int))∧((0≤i∧i<(23:Int))∧∃h:Addr,some ⟨b1,0,none⟩=some h∧∃(m3:Bs),Rd I2 ((b,Obj.cells #[vb c,vs d,vb e,vi f,vi g] 76 (0,0))::F1) (h.add (Int.toNat i*1)) [vs m3]∧(It ((s.extract (Int.toNat a) (Int.toNat ((wr (a+(m2.size:Int)))))).toList==m3.toList) ((0≤i∧i<(23:Int))∧∃j:Addr,some ⟨b1,0,none⟩=some j∧∃(m4:Bs),Rd I2 ((b,Obj.cells #[vb c,vs d,vb e,vi f,vi g] 76 (0,0))::F1) (j.add (Int.toNat i*1)) [vs m4]∧Q (.returned (.tuple #[.agg #[vb 4,vs m4,vb 0,vi 0,vi a],vi 0])) I2 F1) (∃m5:Nat,m5<m1∧Inv8 x (wr (i+1)) c d e f g m5 I2 F1)))) (∃m6:Nat,m6<m1∧Inv8 x (wr (i+1)) c d e f g m6 I2 F1))) (Q (.returned (.tuple #[.agg #[vb 0,vs (⟨#[]⟩:Bs),vb 0,vi 0,vi 0],vi 111])) I2 F1))
theorem lp.vc{s:Bs}{a:Int}{I:cS}{F:cR}{Q:cT}(Inv8:Int→Int→Int→Bs→Int→Int→Int→Nat→cS→cR→Prop)(h:lp.V (.int .u8) (.int .i64) .string (IntKind.wrap .i64) s a I F Q Inv8):cU P 58 #[.string s,.int .i64 a] I F Q :=
 tw (A:=(dr [3003,6005,6017] [] [] o9 [(8,⟨[(5,(.int .i64)),(7,(.int .i64))],[(0,[(.int .u8),.str,(.int .u8),(.int .i64),(.int .i64)])],fun _ _ _ vs m I F=>match vs with | [.int _ y0,.int _ y1,.int _ y2,.string y3,.int _ y4,.int _ y5,.int _ y6]=>Inv8 y0 y1 y2 y3 y4 y5 y6 m I F | _=>False,[],[]⟩)] [1000] [] [] [] [] [])) [] func58 h
def mz.V(ka:Nat→Int→Bs→Int→Int→Int→Nat×Obj)(kb:Int→Bs→Int→Int→Int→Value)(vb vi:Int→Value)(vs:Bs→Value)(s:Bs)(w:Int)(I:cS)(F:cR)(Q:cT)  : Prop:=∀b:Nat,eZ P 53 #[vs s,vi w] I ((ka b 0 (⟨#[]⟩:Bs) 0 0 0)::·) F vi fun r I1 F1=>(It (r==(s.size:Int)) (Q (.returned (.tuple #[(kb 0 (⟨#[]⟩:Bs) 0 0 r),vi 0,vi 0])) I1 F1) (∀a:Nat,((0≤r∧r<(s.size:Int))∧eZ P 54 (#[vb (bt s r)]) I1 ((ka b 0 (⟨#[]⟩:Bs) 0 0 0)::(ka a 0 (⟨#[]⟩:Bs) 0 0 0)::·) F1 .bool fun r1 I2 F2=>(It r1 (gO P 55 #[vs s,vi r] I2 ((ka b 0 (⟨#[]⟩:Bs) 0 0 0)::(ka a 0 (⟨#[]⟩:Bs) 0 0 0)::·) F2 fun e3 I3 G3=>∃(p:Int) (q:Bs) (t u v m:Int),e3=.returned (.tuple #[(kb p q t u v),vi m])∧G3 fun F3=>(It (m != 0) (Q (.returned (.tuple #[(kb p q t u v),vi m,vi r])) I3 F3) (Q (.returned (.tuple #[(kb p q t u v),vi m,vi 0])) I3 F3))) ((0≤r∧r<(s.size:Int))∧eZ P 56 (#[vb (bt s r)]) I2 ((ka b 0 (⟨#[]⟩:Bs) 0 0 0)::(ka a 0 (⟨#[]⟩:Bs) 0 0 0)::·) F2 .bool fun r2 I4 F4=>(It r2 (gO P 57 #[vs s,vi r] I4 ((ka b 0 (⟨#[]⟩:Bs) 0 0 0)::(ka a 0 (⟨#[]⟩:Bs) 0 0 0)::·) F4 fun e5 I5 G5=>∃(c:Int) (d:Bs) (e f g n:Int),e5=.returned (.tuple #[(kb c d e f g),vi n])∧G5 fun F5=>(It (n != 0) (Q (.returned (.tuple #[(kb c d e f g),vi n,vi r])) I5 F5) (Q (.returned (.tuple #[(kb c d e f g),vi n,vi 0])) I5 F5))) (gO P 58 #[vs s,vi r] I4 ((ka b 0 (⟨#[]⟩:Bs) 0 0 0)::(ka a 0 (⟨#[]⟩:Bs) 0 0 0)::·) F4 fun e6 I6 G6=>∃(h:Int) (i:Bs) (j k l o:Int),e6=.returned (.tuple #[(kb h i j k l),vi o])∧G6 fun F6=>(It (o != 0) (Q (.returned (.tuple #[(kb h i j k l),vi o,vi r])) I6 F6) (Q (.returned (.tuple #[(kb h i j k l),vi o,vi 0])) I6 F6)))))))))
theorem mz.vc{s:Bs}{f:Int}{I:cS}{F:cR}{Q:cT}  (h:mz.V (fun W a b c d e=>(W,Obj.cells #[.int .u8 a,.string b,.int .u8 c,.int .i64 d,.int .i64 e] 76 (0,0))) (fun a b c d e=>.agg #[.int .u8 a,.string b,.int .u8 c,.int .i64 d,.int .i64 e]) (.int .u8) (.int .i64) .string s f I F Q):cU P 22 #[.string s,.int .i64 f] I F Q :=
 tw (A:=(an [2003,7003,9003,11001] [53,54,55,56,57,58] o9)) [53,54,55,56,57,58] func22 h
def kc.V(vb vi:Int→Value)(vs:Bs→Value)(vl:OA→Nat→Nat→Value)(s:Bs)(I:cS)(F:cR)(Q:cT)(Inv7:OA→Nat→Nat→Int→Int→OA→Nat→Nat→Int→Nat→cS→cR→Prop):Prop:=(∃m:Nat,Inv7 none 0 0 0 0 none 0 0 0 m I F)∧∀(n:OA) (o p:Nat) (x x1:Int) (g:OA) (h i:Nat) (q:Int) (m1:Nat) (I1:cS) (F1:cR),cS.le I I1→Inv7 n o p x x1 g h i q m1 I1 F1→gO P 22 #[vs s,vi q] I1 (·) F1 fun e1 I2 G1=>∃(a:Int) (c:Bs) (e f d r1 r2:Int),e1=.returned (.tuple #[.agg #[vb a,vs c,vb e,vi f,vi d],vi r1,vi r2])∧G1 fun F2=>∀r:Nat,(It (r1 != 0) (Q (.returned (.tuple #[vl g h i,vi r1,vi r2])) I2 F2) (∀(b:Nat) (I3:cS),cS.le I2 I3→I3 b=some (Obj.cells #[vb a,vs c,vb e,vi f,vi d] 76 (0,0))→dm P (Builtin.append_ #[80,80] 80 #[vl g h i,vl (some ⟨b,0,none⟩) 1 1]) I3 ((r,Obj.cells #[vb a,vs c,vb e,vi f,vi d] 76 (0,0))::F2) fun v I4 G2=>∃(j:OA) (k l:Nat),v=vl j k l∧∃F3:cR,List.Perm G2 ((r,Obj.cells #[vb a,vs c,vb e,vi f,vi d] 76 (0,0))::F3)∧(It (a==0) (Q (.returned (.tuple #[vl j k l,vi 0,vi 0])) I4 F3) (∃m2:Nat,m2<m1∧Inv7 n o p x x1 j k l (IntKind.wrap .i64 (d+(c.size:Int))) m2 I4 F3))))
theorem kc.vc{s:Bs}{I:cS}{F:cR}{Q:cT}(Inv7:OA→Nat→Nat→Int→Int→OA→Nat→Nat→Int→Nat→cS→cR→Prop)(h:kc.V (.int .u8) (.int .i64) .string .slice s I F Q Inv7):cU P 59 #[.string s] I F Q :=
 tw (A:=(dr [4001,7002] [] [22] o9 [(7,⟨[(2,.slc),(3,(.int .i64)),(4,(.int .i64)),(5,.slc),(6,(.int .i64))],[],fun _ _ _ vs m I F=>match vs with | [.slice y0 y1 y2,.int _ y3,.int _ y4,.slice y5 y6 y7,.int _ y8]=>Inv7 y0 y1 y2 y3 y4 y5 y6 y7 y8 m I F | _=>False,[],[]⟩)] [6002] [] [] [] [] [])) [22] func59 h
end Go.Lx
namespace Go.Lx
open Go.Vc
theorem xd{s:ByteArray}(hs:dt s){i:Int}(h0:0≤i)(h1:i≤s.size)(I:cS)(F:cR) :
  cU P 53 #[.string s,.int .i64 i] I F (jS (.int .i64 (dj s i)) F):=by
 have hs':=hs
 unfold dt at hs'
 refine ll.vc (fun x r j m I' F'=>0≤j∧j≤s.size∧m=(s.size-j).toNat∧lH s r j=dj s i∧F'=F) ?_
 unfold ll.V
 refine⟨⟨_,h0,h1,rfl,rfl,rfl⟩,fun x r j m I1 F1 hI ⟨g0,g1,gm,gr,gF⟩=>⟨fun hlt=>?_,fun hlt=>?_⟩⟩
 ·have hlt:j<(s.size:Int):=by simpa using hlt
  subst gF
  have step:=fq (r:=r) hlt
  have stop:∀J:cS,nC (bt s j) r=false→blank (bt s j)=false→jS (.int .i64 (dj s i)) F1 (.returned (.int .i64 j)) J F1:=fun J a b=>by
   rw[a,b,gr] at step
   exact⟨by rw[step];rfl,rfl⟩
  have cont:∀r',nC (bt s j) r=r'→(r'=true∨blank (bt s j)=true)→∃m2:Nat,m2<m∧(0≤IntKind.wrap .i64 (j+1)∧IntKind.wrap .i64 (j+1)≤s.size∧m2=(s.size-IntKind.wrap .i64 (j+1)).toNat ∧
    lH s r' (IntKind.wrap .i64 (j+1))=dj s i∧F1=F1):=fun r' a b=>by
   rw[ef (by omega)]
   refine⟨_,by omega,by omega,by omega,rfl, ?_,rfl⟩
   rw[a,gr] at step
   rw[step,if_neg]
   rcases b with b | b<;>simp[b]
  refine⟨⟨g0,hlt⟩, ?_⟩
  clear step gr
  repeat' (first | (with_reducible apply And.intro) | (with_reducible intro h))
  all_goals first
   | (refine stop I1 ?_ ?_<;>simp_all [nC,blank];done)
   | (refine cont _ ?_ ?_<;>simp_all [nC,blank];done)
   | (exfalso;simp_all;done)
 ·have hlt:¬j<(s.size:Int):=by simpa using hlt
  refine⟨?_,gF⟩
  rw[jA (by omega)] at gr
  rw[←gr]
  have:j=s.size:=by omega
  rw[this]
theorem vP{s:ByteArray}(hs:dt s){i:Int}(h0:0≤i)(h1:i<s.size)(I:cS)(F:cR):cU P 55 #[.string s,.int .i64 i] I F (jS (j2 s i).v2 F):=by
 have hs':=hs
 unfold dt at hs'
 have hE:=eM (p:=dC) (s:=s) (i:=i) (by omega)
 refine j9.vc (fun j m I' F'=>i≤j∧j≤s.size∧m=(s.size-j).toNat∧dx dC s j=dx dC s i∧F'=F) ?_
 unfold j9.V
 intro b
 refine⟨⟨_,by omega,by omega,rfl,rfl,rfl⟩,fun j m I1 F1 hI ⟨g0,g1,gm,gr,gF⟩=>⟨fun hlt=>?_,fun hlt=>?_⟩⟩
 ·have hlt:j<(s.size:Int):=of_decide_eq_true hlt
  subst gF
  refine⟨⟨by omega,hlt⟩, ?_⟩
  refine cU.ret (rj (bt s j) I1 _) fun I2 hI2=>⟨_,rfl,F1,.refl _,fun hc=>?_,fun hc=>⟨⟨h0,g0,g1⟩,fun b_t=>?_⟩⟩
  ·refine⟨m-1,by omega, ?_⟩
   rw[ef (by omega)]
   rw[dy hlt,if_pos hc] at gr
   exact⟨by omega,by omega,by omega,gr,rfl⟩
  ·rw[dy hlt,if_neg (by rw[hc];exact Bool.false_ne_true)] at gr
   unfold j2
   simp only[←gr]
   rw[ef (by omega)]
   refine⟨fun h=>⟨?_,rfl⟩,fun h=>?_⟩
   ·rw[if_pos (of_decide_eq_true h)];rfl
   ·rw[if_neg (of_decide_eq_false h)]
    refine cU.ret (rm (cut s i j) I2 _) fun I3 hI3=>⟨_,rfl,F1,.refl _,fun hw=>⟨?_,rfl⟩,fun hw=>⟨?_,rfl⟩⟩
    ·rw[if_pos hw];rfl
    ·rw[if_neg (by rw[hw];exact Bool.false_ne_true)];rfl
 ·have hlt:¬j<(s.size:Int):=of_decide_eq_false hlt
  subst gF
  refine⟨⟨h0,g0,g1⟩,fun b_t=>?_⟩
  rw[jz (by omega)] at gr
  unfold j2
  simp only[←gr]
  rw[ef (by omega)]
  refine⟨fun h=>⟨?_,rfl⟩,fun h=>?_⟩
  ·rw[if_pos (of_decide_eq_true h)];rfl
  ·rw[if_neg (of_decide_eq_false h)]
   refine cU.ret (rm (cut s i j) I1 _) fun I3 hI3=>⟨_,rfl,F1,.refl _,fun hw=>⟨?_,rfl⟩,fun hw=>⟨?_,rfl⟩⟩
   ·rw[if_pos hw];rfl
   ·rw[if_neg (by rw[hw];exact Bool.false_ne_true)];rfl
theorem ze{c:Int}(h:de c=true):IntKind.wrap .u64 (IntKind.wrap .u8 (c-48))=c-48∧48≤c∧c≤57:=by
 simp only[de,Bool.and_eq_true,decide_eq_true_eq] at h
 rw[w8 (by omega),A6 (by omega)]
 exact⟨rfl,h⟩
theorem ui{s:ByteArray}(hs:dt s){i:Int}(h0:0≤i)(h1:i<s.size)(I:cS)(F:cR):cU P 57 #[.string s,.int .i64 i] I F (jS (jf s i).v2 F):=by
 have hs':=hs
 unfold dt at hs'
 have hE:=eM (p:=de) (s:=s) (i:=i) (by omega)
 generalize hEd:dx de s i=E at hE
 let e2:Int:=if dS (c5 s E)=1 then E else E+1
 have hbad:(dR s i 0>9223372036854775807∨(E-i>1∧bt s i=48)∨(e2<s.size∧(dC (bt s e2)=true∨(65≤bt s e2∧bt s e2≤90)))) →
   (jf s i).v2=.tuple #[(jn 0).v,.int .i64 113]:=fun h=>by
  unfold jf;simp only[hEd];rw[if_pos h];rfl
 have hok:¬(dR s i 0>9223372036854775807∨(E-i>1∧bt s i=48)∨(e2<s.size∧(dC (bt s e2)=true∨(65≤bt s e2∧bt s e2≤90)))) →
   (jf s i).v2=.tuple #[(⟨3,cut s i e2,dS (c5 s E),dR s i 0,i⟩:Tok).v,.int .i64 0]:=fun h=>by
  unfold jf;simp only[hEd];rw[if_neg h];rfl
 have he2r:e2≤s.size∧E≤e2∧e2≤E+1:=by
  show (if dS (c5 s E)=1 then E else E+1)≤_∧_≤(if dS (c5 s E)=1 then E else E+1)∧(if dS (c5 s E)=1 then E else E+1)≤_
  split
  ·omega
  ·rename_i hne
   have:E<s.size:=by
    rcases Int.lt_or_le E s.size with h | h
    ·exact h
    ·rw[show c5 s E=0 by unfold c5;rw[if_neg (by omega)]] at hne
     exact absurd rfl hne
   omega
 refine jr.vc (fun x en n b0 b1 b2 b3 b4 I' F'=>en=E∧n=dR s i 0∧F'=F)
  (fun x j n b0 b1 b2 b3 b4 m I' F'=>i≤j∧j≤E∧m=(E-j).toNat∧0≤n∧n≤18446744073709551615∧dx de s j=E∧dR s j n=dR s i 0∧F'=F)
  (fun x b0 b1 b2 b3 b4 I' F'=>¬(E-i>1∧bt s i=48)∧¬dR s i 0>9223372036854775807∧F'=F)
  (fun t0 t1 t2 t3 t4 I' F'=>t0=3∧t2=(if c5 s E=113 then 2 else 1)∧t3=dR s i 0∧t4=i∧F'=F)
  (fun t0 t1 t2 t3 t4 I' F'=>t0=3∧t2=(if c5 s E=112 then 3 else if c5 s E=113 then 2 else 1)∧t3=dR s i 0∧t4=i∧F'=F)
  (fun t0 t1 t2 t3 t4 I' F'=>t0=3∧t2=dS (c5 s E)∧t3=dR s i 0∧t4=i∧F'=F)
  (fun en I' F'=>en=e2∧F'=F) ?_
 unfold jr.V
 intro b b_t
 refine⟨⟨⟨_,by omega,by omega,rfl,by omega,by omega,hEd,rfl,rfl⟩, ?_⟩, ?_⟩
 ·intro x j n b0 b1 b2 b3 b4 m I1 F1 hI1 ⟨g0,g1,gm,gn0,gn1,gr,gv,gF⟩
  subst gF
  refine⟨fun hlt=>?_,fun hlt=>?_⟩
  ·have hlt:j<s.size:=of_decide_eq_true hlt
   refine⟨⟨by omega,hlt⟩, ?_⟩
   refine cU.ret (lV (bt s j) I1 _) fun I2 hI2=>⟨_,rfl,F1,.refl _,fun hd=>?_,fun hd=>?_⟩
   ·obtain⟨hw,hc0,hc1⟩:=ze hd
    rw[dy hlt,if_pos hd] at gr
    rw[gb hlt,if_pos hd] at gv
    have hr2:=eM (p:=de) (s:=s) (i:=j+1) (by omega)
    refine⟨fun hgt=>⟨?_,rfl⟩,fun hgt=>⟨⟨by omega,hlt⟩, ?_⟩⟩
    ·refine (congrArg Ending.returned (hbad (.inl ?_)).symm)
     have hgt:=of_decide_eq_true hgt
     have:=rb (s:=s) (i:=j+1) (v:=10*n+(bt s j-48)) (by omega)
     omega
    ·have hgt:=of_decide_eq_false hgt
     rw[hw,A6 (n:=10*n) (by omega),A6 (n:=10*n+_) (by omega),ef (by omega)]
     exact⟨_,by omega,by omega,by omega,rfl,by omega,by omega,gr,gv,rfl⟩
   ·rw[dy hlt,if_neg (by rw[hd];exact Bool.false_ne_true)] at gr
    rw[gb hlt,if_neg (by rw[hd];exact Bool.false_ne_true)] at gv
    exact⟨gr,gv,rfl⟩
  ·have hlt:¬j<s.size:=of_decide_eq_false hlt
   rw[jz (by omega)] at gr
   rw[mn (by omega)] at gv
   exact⟨gr,gv,rfl⟩
 intro x en n b0 b1 b2 b3 b4 I3 F3 hI3 ⟨hen,hn,hF3⟩
 subst hen hF3
 rw[ef (n:=en-i) (by omega)]
 refine⟨⟨fun h=>⟨?_,rfl⟩,fun h=>⟨fun hl=>⟨⟨h0,h1⟩,fun h48=>⟨?_,rfl⟩,fun h48=>⟨?_, ?_,rfl⟩⟩,fun hl=>⟨?_, ?_,rfl⟩⟩⟩, ?_⟩
 ·exact congrArg Ending.returned (hbad (.inl (by have:=of_decide_eq_true h;omega))).symm
 ·exact congrArg Ending.returned (hbad (.inr (.inl ⟨of_decide_eq_true hl,by simpa using h48⟩))).symm
 ·intro hc;rw[hc.2] at h48;simp at h48
 ·have:=of_decide_eq_false h;omega
 ·intro hc;exact absurd hc.1 (of_decide_eq_false hl)
 ·have:=of_decide_eq_false h;omega
 intro x2 c0 c1 c2 c3 c4 I4 F4 hI4 ⟨hz,nov,hF4⟩
 subst hF4
 have hv0:=rb (s:=s) (i:=i) (v:=0) (by omega)
 rw[ef (n:=n) (by omega)]
 have hpos:en<s.size→c5 s en=bt s en:=fun h=>by unfold c5;rw[if_pos h]
 have hneg:¬en<s.size→c5 s en=0:=fun h=>by unfold c5;rw[if_neg h]
 refine⟨⟨fun hl=>⟨⟨by omega,of_decide_eq_true hl⟩,fun h=>⟨rfl, ?_,hn,rfl,rfl⟩,fun h=>⟨rfl, ?_,hn,rfl,rfl⟩⟩,fun hl=>⟨rfl, ?_,hn,rfl,rfl⟩⟩, ?_⟩
 ·rw[hpos (of_decide_eq_true hl),if_pos (by simpa using h)]
 ·rw[hpos (of_decide_eq_true hl),if_neg (by simpa using h)]
 ·rw[hneg (of_decide_eq_false hl)];rfl
 intro t0 t1 t2 t3 t4 I5 F5 hI5 ⟨ht0,ht2,ht3,ht4,hF5⟩
 subst hF5
 refine⟨⟨fun hl=>⟨⟨by omega,of_decide_eq_true hl⟩,fun h=>⟨ht0, ?_,ht3,ht4,rfl⟩,fun h=>⟨ht0, ?_,ht3,ht4,rfl⟩⟩,fun hl=>⟨ht0, ?_,ht3,ht4,rfl⟩⟩, ?_⟩
 ·rw[hpos (of_decide_eq_true hl),if_pos (by simpa using h)]
 ·rw[ht2,hpos (of_decide_eq_true hl),if_neg (c:=bt s en=112) (by simpa using h)]
 ·rw[ht2,hneg (of_decide_eq_false hl)];rfl
 clear ht0 ht2 ht3 ht4
 intro t0 t1 t2 t3 t4 I6 F6 hI6 ⟨ht0,ht2,ht3,ht4,hF6⟩
 subst hF6
 refine⟨⟨fun hl=>⟨⟨by omega,of_decide_eq_true hl⟩,fun h=>⟨ht0, ?_,ht3,ht4,rfl⟩,fun h=>⟨ht0, ?_,ht3,ht4,rfl⟩⟩,fun hl=>⟨ht0, ?_,ht3,ht4,rfl⟩⟩, ?_⟩
 ·unfold dS;rw[hpos (of_decide_eq_true hl),if_pos (by simpa using h)]
 ·unfold dS;rw[ht2,hpos (of_decide_eq_true hl),if_neg (c:=bt s en=116) (by simpa using h)]
 ·unfold dS;rw[ht2,hneg (of_decide_eq_false hl)];rfl
 clear ht0 ht2 ht3 ht4
 intro u0 u1 u2 u3 u4 I7 F7 hI7 ⟨hu0,hu2,hu3,hu4,hF7⟩
 subst hu0 hu2 hF7
 obtain rfl:i=u4:=hu4.symm
 refine⟨⟨fun h=>⟨?_,rfl⟩,fun h=>⟨?_,rfl⟩⟩, ?_⟩
 ·show _=if dS (c5 s en)=1 then en else en+1
  rw[if_neg (by simpa using h),ef (by omega)]
 ·show _=if dS (c5 s en)=1 then en else en+1
  rw[if_pos (by simpa using h)]
 intro e3 I8 F8 hI8 ⟨he3,hF8⟩
 subst he3 hF8
 have okk:¬(e2<s.size∧(dC (bt s e2)=true∨(65≤bt s e2∧bt s e2≤90))) →
   (0≤i∧i≤e2∧e2≤(s.size:Int))∧∀(J:cS),jS (jf s i).v2 F8 (.returned (Value.tuple #[Value.agg #[Value.int .u8 3,Value.string (s.extract (Int.toNat (i)) (Int.toNat (e2))),Value.int .u8 (dS (c5 s en)),Value.int .i64 u3,Value.int .i64 i],Value.int .i64 0])) J F8:=fun h=>by
  refine⟨by omega,fun J=>⟨?_,rfl⟩⟩
  rw[hok (fun h'=>h'.elim nov fun h'=>h'.elim hz h),hu3]
  rfl
 refine⟨fun hl=>⟨⟨by omega,of_decide_eq_true hl⟩, ?_⟩,fun hl=>?_⟩
 ·have hl:=of_decide_eq_true hl
  refine cU.ret (rj (bt s e2) I8 _) fun I9 hI9=>⟨_,rfl,F8,.refl _,fun hi=>⟨?_,rfl⟩,fun hi=>⟨⟨by omega,hl⟩,fun h65=>⟨⟨by omega,hl⟩,fun h90=>⟨?_,rfl⟩,fun h90=>?_⟩,fun h65=>?_⟩⟩
  ·exact congrArg Ending.returned (hbad (.inr (.inr ⟨hl,.inl hi⟩))).symm
  ·exact congrArg Ending.returned (hbad (.inr (.inr ⟨hl,.inr ⟨of_decide_eq_true h65,of_decide_eq_true h90⟩⟩))).symm
  ·obtain⟨a1,a2⟩:=okk (fun h=>h.2.elim (fun h=>by rw[hi] at h;cases h) fun h=>of_decide_eq_false h90 h.2)
   exact⟨a1,a2 _⟩
  ·obtain⟨a1,a2⟩:=okk (fun h=>h.2.elim (fun h=>by rw[hi] at h;cases h) fun h=>of_decide_eq_false h65 h.1)
   exact⟨a1,a2 _⟩
 ·obtain⟨a1,a2⟩:=okk (fun h=>of_decide_eq_false hl h.1)
  exact⟨a1,a2 _⟩
def iU:List ByteArray:=[⟨#[61,61]⟩,⟨#[33,61]⟩,⟨#[60,61]⟩,⟨#[62,61]⟩,⟨#[38,38]⟩,⟨#[124,124]⟩,⟨#[123]⟩,⟨#[125]⟩,⟨#[40]⟩,⟨#[41]⟩,⟨#[44]⟩,⟨#[59]⟩,⟨#[63]⟩,⟨#[58]⟩,⟨#[61]⟩,⟨#[33]⟩,⟨#[60]⟩,⟨#[62]⟩,⟨#[43]⟩,⟨#[45]⟩,⟨#[42]⟩,⟨#[47]⟩,⟨#[37]⟩]
def lZ(s:ByteArray)(i:Int)(m:ByteArray):Bool:=decide (i+(m.size:Int)≤s.size)&&((cut s i (i+(m.size:Int))).toList==m.toList)
theorem BK{a b:ByteArray}(h:a.toList=b.toList):a=b:=by
 rw[Lib.toList_data,Lib.toList_data] at h
 have:a.data=b.data:=Array.toList_inj.1 h
 cases a;cases b;simp_all
theorem Ah{a:ByteArray}{k:Nat}(h:k<a.size):bt a k=(a.data[k].toNat:Int):=by
 have h2:a[k]? = some a[k]:=by simp[h]
 unfold bt
 rw[Int.toNat_natCast,h2]
 rfl
theorem xe{a b:ByteArray}(hs:a.size=b.size)(h:∀k:Nat,k<a.size→bt a k=bt b k):a=b:=by
 have:a.data=b.data:=by
  refine Array.ext hs fun k h1 h2=>?_
  have:=h k h1
  rw[Ah h1,Ah h2] at this
  exact UInt8.toNat_inj.1 (by omega)
 cases a;cases b;simp_all
theorem uj{s:ByteArray}{i:Int}(h0:0≤i)(m:ByteArray):lZ s i m=true↔i+m.size≤s.size∧∀k:Nat,k<m.size→bt s (i+k)=bt m k:=by
 unfold lZ
 simp only[Bool.and_eq_true,decide_eq_true_eq,beq_iff_eq]
 refine⟨fun ⟨h1,h2⟩=>⟨h1,fun k hk=>?_⟩,fun ⟨h1,h2⟩=>⟨h1, ?_⟩⟩
 ·have:=BK h2
  rw[←lY (j:=i+m.size) h0 (by omega) (by omega) h1,this]
 ·have hc:=gT (s:=s) h0 (by omega:i≤i+m.size) h1
  have:cut s i (i+m.size)=m:=xe (by omega) fun k hk=>by
   rw[lY h0 (by omega) (by omega) h1]
   exact h2 k (by omega)
  rw[this]
theorem D2{s:ByteArray}{i:Int}(h0:0≤i)(h:i<s.size)(c:UInt8):lZ s i ⟨#[c]⟩=(bt s i==(c.toNat:Int)):=by
 rw[Bool.eq_iff_iff,uj h0,beq_iff_eq]
 refine⟨fun ⟨_,h⟩=>by have:=h 0 (Nat.lt_succ_self 0);rwa [Int.natCast_zero,Int.add_zero] at this,fun hc=>⟨by show i+((1:Nat):Int)≤_;omega,fun k hk=>?_⟩⟩
 have:k=0:=by have:k<1:=hk;omega
 subst this
 rw[Int.natCast_zero,Int.add_zero,hc];rfl
theorem Ci{s:ByteArray}{i:Int}(h0:0≤i)(c d:UInt8)(hd:d.toNat≠0):lZ s i ⟨#[c,d]⟩=(bt s i==(c.toNat:Int)&&c5 s (i+1)==(d.toNat:Int)):=by
 rw[Bool.eq_iff_iff,uj h0]
 simp only[Bool.and_eq_true,beq_iff_eq]
 refine⟨fun ⟨h1,h⟩=>⟨?_, ?_⟩,fun ⟨hc,hd'⟩=>?_⟩
 ·have:=h 0 (show 0<2 by decide);rwa [Int.natCast_zero,Int.add_zero] at this
 ·have h1:i+((2:Nat):Int)≤s.size:=h1
  unfold c5
  rw[if_pos (by omega)]
  exact h 1 (show 1<2 by decide)
 ·have hl:i+1<s.size:=by
   rcases Int.lt_or_le (i+1) s.size with h | h
   ·exact h
   ·unfold c5 at hd';rw[if_neg (by omega)] at hd';omega
  unfold c5 at hd'
  rw[if_pos hl] at hd'
  refine⟨by show i+((2:Nat):Int)≤_;omega,fun k hk=>?_⟩
  have hk:k<2:=hk
  rcases (by omega:k=0∨k=1) with rfl | rfl
  ·rw[Int.natCast_zero,Int.add_zero,hc];rfl
  ·exact hd'
theorem zf{s:ByteArray}{i:Int}(h0:0≤i)(h:i<s.size) :
  (iU.find? (lZ s i)=none∧fj s i=0)∨(∃m,iU.find? (lZ s i)=some m∧(m.size:Int)=fj s i∧0<fj s i∧cut s i (i+fj s i)=m):=by
 have key:(iU.find? (lZ s i)=none∧fj s i=0)∨(∃m,iU.find? (lZ s i)=some m∧(m.size:Int)=fj s i∧0<fj s i):=by
  unfold iU
  simp only[List.find?_cons,List.find?_nil,D2 h0 h,Ci h0 _ 61 (by decide),Ci h0 _ 38 (by decide),Ci h0 _ 124 (by decide)]
  unfold fj
  generalize bt s i=c
  generalize c5 s (i+1)=d
  clear h h0
  repeat' split
  all_goals first | (simp_all [single];done) | (simp_all [single];rfl) | (simp_all [single];omega)
 rcases key with hk | ⟨m,hm,hs,hp⟩
 ·exact .inl hk
 ·refine .inr ⟨m,hm,hs,hp, ?_⟩
  have:=List.find?_some hm
  rw[uj h0] at this
  rw[←hs]
  have hc:=gT (s:=s) h0 (by omega:i≤i+m.size) this.1
  refine xe (by omega) fun k hk=>?_
  rw[lY h0 (by omega) (by omega) this.1]
  exact this.2 k (by omega)
theorem vQ{k:Nat}{m:ByteArray}(h:iU[k]? = some m):m.size≤2:=by
 have:=List.mem_of_getElem? h
 simp only[iU,List.mem_cons,List.not_mem_nil,or_false] at this
 rcases this with h | h | h | h | h | h | h | h | h | h | h | h | h | h | h | h | h | h | h | h | h | h | h<;>(subst h;decide)
theorem xf{s:ByteArray}(hs:dt s){i:Int}(h0:0≤i)(h1:i<s.size)(I:cS)(F:cR):cU P 58 #[.string s,.int .i64 i] I F (jS (j3 s i).v2 F):=by
 unfold dt at hs
 have hm:=zf h0 h1
 refine lp.vc (fun x k b0 b1 b2 b3 b4 m I' F'=>0≤k∧k≤23∧m=(23-k).toNat∧iU.find? (lZ s i)=(iU.drop k.toNat).find? (lZ s i)∧F'=F) ?_
 unfold lp.V
 intro b b1 I1 hI1 hb1
 have hS:Sl I1 1 iS (some ⟨b1,0,none⟩) 23 iU:=Sl.gQ (f:=iS) (z:=1) (l:=iU) (fun _=>rfl) hb1 (by kernel_rfl)
 refine⟨⟨_,by omega,by omega,rfl,rfl,rfl⟩,fun x k c0 c1 c2 c3 c4 m I2 F2 hI2 ⟨g0,g1,gm,gf,gF⟩=>⟨fun hlt=>?_,fun hlt=>?_⟩⟩
 ·have hlt:k<23:=of_decide_eq_true hlt
  obtain⟨ad,w,ha,hw,hrd⟩:=(hS.mono hI2).at (i:=k) g0 hlt
  have hwz:=vQ hw
  subst gF
  rw[yX hw] at gf
  have cont:lZ s i w=false→∃m6,m6<m∧(0≤IntKind.wrap .i64 (k+1)∧IntKind.wrap .i64 (k+1)≤23∧m6=(23-IntKind.wrap .i64 (k+1)).toNat ∧
    iU.find? (lZ s i)=(iU.drop (IntKind.wrap .i64 (k+1)).toNat).find? (lZ s i)∧F2=F2):=fun h=>by
   rw[ef (by omega)]
   refine⟨(23-(k+1)).toNat,by omega,by omega,by omega,rfl, ?_,rfl⟩
   rw[gf,h,show (k+1).toNat=k.toNat+1 by omega];rfl
  refine⟨⟨g0,hlt⟩,ad,ha,w,hrd _, ?_⟩
  rw[ef (n:=i+w.size) (by omega)]
  refine⟨fun hle=>⟨⟨h0,by omega,of_decide_eq_true hle⟩,⟨g0,hlt⟩,ad,ha,w,hrd _,fun he=>⟨⟨g0,hlt⟩,ad,ha,w,hrd _, ?_,rfl⟩,fun he=>cont ?_⟩,fun hle=>cont ?_⟩
  ·have hhit:lZ s i w=true:=by
    unfold lZ;rw[hle,Bool.true_and];exact he
   rw[hhit,if_pos rfl] at gf
   rcases hm with ⟨h,_⟩ | ⟨w',h,hsz,hp,hcut⟩
   ·rw[h] at gf;cases gf
   ·rw[h] at gf;cases gf
    unfold j3
    rw[if_neg (by omega),hcut];rfl
  ·unfold lZ;rw[hle,Bool.true_and];exact he
  ·unfold lZ;rw[hle];rfl
 ·have hlt:¬k<23:=of_decide_eq_false hlt
  refine⟨?_,gF⟩
  rw[List.drop_eq_nil_of_le (by show 23≤_;omega)] at gf
  rcases hm with ⟨h,hz⟩ | ⟨w',h,_⟩
  ·unfold j3
   rw[if_pos hz];rfl
  ·rw[h] at gf;cases gf
def TR.v3:TR→Value
 | .ok t=>.tuple #[t.v,.int .i64 0,.int .i64 0]
 | .bad e p=>.tuple #[(jn 0).v,.int .i64 e,.int .i64 p]
theorem Ai(s:ByteArray)(i:Int):(∃t,jf s i=.ok t)∨∃e,jf s i=.bad e i∧(e != 0)=true:=by
 rcases rG s i with ⟨t,h,_⟩ | h
 ·exact .inl ⟨t,h⟩
 ·exact .inr ⟨_,h,rfl⟩
theorem zg(s:ByteArray)(i:Int):(∃t,j2 s i=.ok t)∨∃e,j2 s i=.bad e i∧(e != 0)=true:=by
 unfold j2;simp only;split
 ·exact .inr ⟨_,rfl,rfl⟩
 ·exact .inl ⟨_,rfl⟩
theorem zh(s:ByteArray)(i:Int):(∃t,j3 s i=.ok t)∨∃e,j3 s i=.bad e i∧(e != 0)=true:=by
 unfold j3;split
 ·exact .inr ⟨_,rfl,rfl⟩
 ·exact .inl ⟨_,rfl⟩
theorem Aj{c:Int}(h:fZ c=true):de c=false:=by
 simp only[fZ,de,Bool.and_eq_true,decide_eq_true_eq,Bool.and_eq_false_iff,decide_eq_false_iff_not] at h ⊢
 omega
theorem Ak{s:ByteArray}(hs:dt s){f:Int}(h0:0≤f)(h1:f≤s.size)(I:cS)(F:cR):cU P 22 #[.string s,.int .i64 f] I F (jS (gK s f).v3 F):=by
 have hs':=hs
 unfold dt at hs'
 refine mz.vc ?_
 unfold mz.V
 intro b
 have ho:=il (s:=s) h1
 refine cU.ret (xd hs h0 h1 I _) fun I1 hI1=>⟨_,rfl,F,.refl _, ?_⟩
 unfold gK
 simp only
 generalize dj s f=r at ho ⊢
 refine⟨fun h=>⟨?_,rfl⟩,fun h b_t=>?_⟩
 ·rw[if_pos (by simpa using h)];rfl
 ·have hne:r≠s.size:=by simpa using h
  have hlt:r<s.size:=by omega
  rw[if_neg hne]
  refine⟨⟨by omega,hlt⟩, ?_⟩
  refine cU.ret (oy (bt s r) I1 _) fun I2 hI2=>⟨_,rfl,F,.refl _,fun hm=>?_,fun hm=>⟨⟨by omega,hlt⟩, ?_⟩⟩
  ·rw[if_neg (by rw[Aj hm];exact Bool.false_ne_true),if_pos hm]
   refine cU.ret (vP hs (by omega) hlt I2 _) fun I3 hI3=>?_
   rcases zg s r with ⟨t,ht⟩ | ⟨e,ht,he⟩
   ·rw[ht];exact⟨_,_,_,_,_,_,rfl,F,.refl _,fun h=>absurd h (by decide),fun _=>⟨rfl,rfl⟩⟩
   ·rw[ht];exact⟨_,_,_,_,_,_,rfl,F,.refl _,fun h=>⟨rfl,rfl⟩,fun h=>by rw[he] at h;cases h⟩
  ·rw[if_neg (c:=fZ (bt s r)=true) (by rw[hm];exact Bool.false_ne_true)]
   refine cU.ret (lV (bt s r) I2 _) fun I3 hI3=>⟨_,rfl,F,.refl _,fun hd=>?_,fun hd=>?_⟩
   ·rw[if_pos hd]
    refine cU.ret (ui hs (by omega) hlt I3 _) fun I4 hI4=>?_
    rcases Ai s r with ⟨t,ht⟩ | ⟨e,ht,he⟩
    ·rw[ht];exact⟨_,_,_,_,_,_,rfl,F,.refl _,fun h=>absurd h (by decide),fun _=>⟨rfl,rfl⟩⟩
    ·rw[ht];exact⟨_,_,_,_,_,_,rfl,F,.refl _,fun h=>⟨rfl,rfl⟩,fun h=>by rw[he] at h;cases h⟩
   ·rw[if_neg (by rw[hd];exact Bool.false_ne_true)]
    refine cU.ret (xf hs (by omega) hlt I3 _) fun I4 hI4=>?_
    rcases zh s r with ⟨t,ht⟩ | ⟨e,ht,he⟩
    ·rw[ht];exact⟨_,_,_,_,_,_,rfl,F,.refl _,fun h=>absurd h (by decide),fun _=>⟨rfl,rfl⟩⟩
    ·rw[ht];exact⟨_,_,_,_,_,_,rfl,F,.refl _,fun h=>⟨rfl,rfl⟩,fun h=>by rw[he] at h;cases h⟩
def iL(s:ByteArray):Nat→Int→List Tok×Option (Int×Int)
 | 0,_=>([],none)
 | n+1,f=>match gK s f with
   | .bad e p=>([],some (e,p))
   | .ok t=>if t.kind=0 then ([t],none) else (t::(iL s n (t.pos+t.text.size)).1,(iL s n (t.pos+t.text.size)).2)
def kr(s:ByteArray)(f:Int):List Tok×Option (Int×Int):=iL s (s.size-f+1).toNat f
theorem kI{s:ByteArray}{f:Int}(h0:0≤f)(h1:f≤s.size){t:Tok}(ht:gK s f=.ok t):t.pos+t.text.size≤s.size∧f≤t.pos∧(t.kind≠0→f+1≤t.pos+t.text.size):=by
 have ho:=il (s:=s) h1
 rcases gh h0 h1 with ⟨t',ht',hp,hl,_,hk⟩ | ⟨e,ht',_⟩
 ·rw[ht] at ht';cases ht'
  refine⟨hl,by omega,fun hne=>?_⟩
  rcases hk with ⟨h,_⟩ | ⟨_,_,h⟩
  ·exact absurd h hne
  ·omega
 ·rw[ht] at ht';cases ht'
theorem rI(s:ByteArray):∀(n n':Nat) (f:Int),0≤f→f≤s.size→(s.size-f+1).toNat≤n→(s.size-f+1).toNat≤n'→iL s n f=iL s n' f
 | 0,n',f,h0,h1,hn,hn'=>by omega
 | n+1,0,f,h0,h1,hn,hn'=>by omega
 | n+1,n'+1,f,h0,h1,hn,hn'=>by
   unfold iL
   cases ht:gK s f with
   | bad e p=>rfl
   | ok t =>
     have:=kI h0 h1 ht
     by_cases hk:t.kind=0
     ·simp[hk]
     ·have:=this.2.2 hk
      simp only[hk,if_false]
      rw[rI s n n' _ (by omega) (by omega) (by omega) (by omega)]
theorem pb{s:ByteArray}{f:Int}(h0:0≤f)(h1:f≤s.size):kr s f=match gK s f with
  | .bad e p=>([],some (e,p))
  | .ok t=>if t.kind=0 then ([t],none) else (t::(kr s (t.pos+t.text.size)).1,(kr s (t.pos+t.text.size)).2):=by
 unfold kr
 obtain⟨n,hn⟩:∃n,(s.size-f+1).toNat=n+1:=⟨(s.size-f+1).toNat-1,by omega⟩
 rw[hn]
 show (match gK s f with
  | .bad e p=>([],some (e,p))
  | .ok t=>if t.kind=0 then ([t],none) else (t::(iL s n (t.pos+t.text.size)).1,(iL s n (t.pos+t.text.size)).2))=_
 cases ht:gK s f with
 | bad e p=>rfl
 | ok t =>
   have:=kI h0 h1 ht
   by_cases hk:t.kind=0
   ·simp[hk]
   ·have:=this.2.2 hk
    simp only[hk,if_false]
    rw[rI s n _ _ (by omega) (by omega) (by omega) (Nat.le_refl _)]
def oD(s:ByteArray):Except (Int×Int) (List Tok) :=
 if (s.size:Int)>4096 then .error (110,0) else match kr s 0 with
  | (l,none)=>.ok l
  | (_,some ep)=>.error ep
def Tok.enc(t:Tok):List Value:=[.int .u8 t.kind,.string t.text,.int .u8 t.fL,.int .i64 t.n,.int .i64 t.pos]
def yg(r:Except (Int×Int) (List Tok))(F:cR)(e:Ending)(I:cS)(G:cR):Prop :=
 G=F∧match r with
  | .ok l=>∃a n c,e=.returned (.tuple #[.slice a n c,.int .i64 0,.int .i64 0])∧Sl I 5 Tok.enc a n l
  | .error (e',p)=>e=.returned (.tuple #[.slice none 0 0,.int .i64 e',.int .i64 p])
def oE(r:Except (Int×Int) (List Tok))(F:cR)(e:Ending)(I:cS)(G:cR):Prop :=
 match r with
  | .ok l=>∃a n c A,e=.returned (.tuple #[.slice a n c,.int .i64 0,.int .i64 0])∧Acc 5 Tok.enc 76 a n c l A∧G=A++F
  | .error (e',p)=>∃A,e=.returned (.tuple #[.slice none 0 0,.int .i64 e',.int .i64 p])∧G=A++F
theorem oE.keep{f:Nat}{args:Array Value}{I:cS}{F:cR}{r:Except (Int×Int) (List Tok)}(h:cU P f args I F (oE r F)):cU P f args I F (yg r F):=by
 refine h.keep fun e I' G w hl hs hq=>?_
 unfold oE at hq
 split at hq
 ·obtain⟨a,n,c,A,he,hA,hG⟩:=hq
  subst hG
  obtain⟨J,h1,h2,h3⟩:=Acc.keep (z:=5) (f:=Tok.enc) (fun _=>rfl) hA hs
  exact⟨J,F,h1,h2,rfl,a,n,c,he,h3⟩
 ·obtain⟨A,he,hG⟩:=hq
  subst hG
  exact⟨I',F,cS.le_refl _,hs.drop,rfl,he⟩
theorem Bb:∀(t:Tok),∀u∈t.enc,u.oneCell'=true:=by
 intro t u hu
 simp only[Tok.enc,List.mem_cons,List.not_mem_nil,or_false] at hu
 rcases hu with h | h | h | h | h<;>(subst h;rfl)
theorem rJ{a:Option Addr}{n c:Nat}{l:List Tok}{A F:cR}(hA:Acc 5 Tok.enc 76 a n c l A)(hl:l.length≤1000000000)(t:Tok){b:Nat}{I:cS}(hb:I b=some (.cells t.enc.toArray 76 (0,0))) :
  dm P (Builtin.append_ #[80,80] 80 #[.slice a n c,.slice (some ⟨b,0,none⟩) 1 1]) I (A++F) fun v I' G=>∃a' n' c' A',v=.slice a' n' c'∧Acc 5 Tok.enc 76 a' n' c' (l++[t]) A'∧G=A'++F:=by
 refine (eJ (f:=Tok.enc) (zv:=(jn 0).v) (fun _=>rfl) (by':=48) (by kernel_rfl) (by kernel_rfl) rfl (by decide) hA (xs:=[t]) (fun x _=>Bb x) (by simp) rfl ?_ (by simp only[List.length_cons,List.length_nil];omega)).mono
  fun v I' G _ ⟨a',n',c',A',h1,h2,h3,_⟩=>⟨a',n',c',A',h1,h2,h3⟩
 exact⟨rfl,_,_,_,.inl hb,fun j hj=>by simp⟩
theorem xg{s:ByteArray}(hs:dt s)(I:cS)(F:cR):cU P 124 #[.string s] I F (oE (oD s) F):=by
 refine lj.vc (fun x_a x_n x_c x x1 a n c f m I' F'=>0≤f∧f≤s.size∧m=(s.size-f).toNat∧∃l A,Acc 5 Tok.enc 76 a n c l A∧F'=A++F∧l.length≤f ∧
  kr s 0=(l++(kr s f).1,(kr s f).2)) ?_
 unfold lj.V
 unfold oD
 refine⟨fun h=>?_,fun h=>?_⟩
 ·rw[if_pos (of_decide_eq_true h)]
  exact⟨[],rfl,rfl⟩
 have h:=of_decide_eq_false h
 rw[if_neg h]
 refine⟨⟨_,by omega,by omega,rfl,[],[],Acc.nil,rfl,by decide,rfl⟩, ?_⟩
 intro x_a x_n x_c x x1 a n c f m I1 F1 hI1 ⟨h0,h1,gm,l,A,hA,hF,hl,ht⟩
 subst hF
 rw[pb h0 h1] at ht
 refine cU.ret (rH hs h0 h1 I1 _) fun I2 hI2=>?_
 rcases gh h0 h1 with ⟨t,htok,htat⟩ | ⟨e,htok,he⟩
 ·rw[htok] at ht ⊢
  have hnx:=kI h0 h1 htok
  refine⟨_,_,_,_,_,_,rfl,_,.refl _,fun b_t=>⟨fun h=>absurd h (by decide),fun _=>?_⟩⟩
  intro b I3 hI3 hb
  refine dm.perm ((rJ hA (by omega) t hb (F:=(b_t,_)::F)).mono fun v I4 G2 hI4 ⟨a',n',c',A',hv,hA',hG⟩=>?_) List.perm_middle.symm
  subst hG
  refine⟨_,_,_,hv,A'++F,List.perm_middle,fun hk=>?_,fun hk=>?_⟩
  ·have hk:t.kind=0:=by simpa using hk
   simp only[hk,if_true] at ht
   rw[ht]
   exact⟨_,_,_,_,rfl,hA',rfl⟩
  ·have hk:t.kind≠0:=by simpa using hk
   have:=hnx.2.2 hk
   simp only[hk,if_false] at ht
   rw[ef (by omega)]
   refine⟨_, ?_,by omega,by omega,rfl,_,_,hA',rfl, ?_, ?_⟩
   ·omega
   ·rw[List.length_append,List.length_singleton];omega
   ·rw[ht,List.append_assoc];rfl
 ·rw[htok] at ht ⊢
  refine⟨_,_,_,_,_,_,rfl,_,.refl _,fun b_t=>⟨fun _=>?_,fun h=>?_⟩⟩
  ·rw[ht]
   exact⟨A,rfl,rfl⟩
  ·rcases he with rfl | rfl | rfl<;>exact absurd h (by decide)
theorem vR{s:ByteArray}(hs:dt s)(I:cS)(F:cR):cU P 124 #[.string s] I F (yg (oD s) F):=oE.keep (xg hs I F)
def Am(r:List Tok×Option (Int×Int))(F:cR)(e:Ending)(I:cS)(G:cR):Prop :=
 ∃a n c A,e=.returned (.tuple #[.slice a n c,.int .i64 ((r.2.map Prod.fst).getD 0),.int .i64 ((r.2.map Prod.snd).getD 0)])∧Acc 5 Tok.enc 76 a n c r.1 A∧G=A++F
theorem xh{s:ByteArray}(hs:dt s)(hs2:(s.size:Int)≤1000000000)(I:cS)(F:cR):cU P 59 #[.string s] I F (Am (kr s 0) F):=by
 refine kc.vc (fun x_a x_n x_c x x1 a n c f m I' F'=>0≤f∧f≤s.size∧m=(s.size-f).toNat∧∃l A,Acc 5 Tok.enc 76 a n c l A∧F'=A++F∧l.length≤f ∧
  kr s 0=(l++(kr s f).1,(kr s f).2)) ?_
 unfold kc.V
 have h:True:=trivial
 refine⟨⟨_,by omega,by omega,rfl,[],[],Acc.nil,rfl,by decide,rfl⟩, ?_⟩
 intro x_a x_n x_c x x1 a n c f m I1 F1 hI1 ⟨h0,h1,gm,l,A,hA,hF,hl,ht⟩
 subst hF
 rw[pb h0 h1] at ht
 refine cU.ret (Ak hs h0 h1 I1 _) fun I2 hI2=>?_
 rcases gh h0 h1 with ⟨t,htok,htat⟩ | ⟨e,htok,he⟩
 ·rw[htok] at ht ⊢
  have hnx:=kI h0 h1 htok
  refine⟨_,_,_,_,_,_,_,rfl,_,.refl _,fun b_t=>⟨fun h=>absurd h (by decide),fun _=>?_⟩⟩
  intro b I3 hI3 hb
  refine dm.perm ((rJ hA (by omega) t hb (F:=(b_t,_)::F)).mono fun v I4 G2 hI4 ⟨a',n',c',A',hv,hA',hG⟩=>?_) List.perm_middle.symm
  subst hG
  refine⟨_,_,_,hv,A'++F,List.perm_middle,fun hk=>?_,fun hk=>?_⟩
  ·have hk:t.kind=0:=by simpa using hk
   simp only[hk,if_true] at ht
   rw[ht]
   exact⟨_,_,_,_,rfl,hA',rfl⟩
  ·have hk:t.kind≠0:=by simpa using hk
   have:=hnx.2.2 hk
   simp only[hk,if_false] at ht
   rw[ef (by omega)]
   refine⟨_, ?_,by omega,by omega,rfl,_,_,hA',rfl, ?_, ?_⟩
   ·omega
   ·rw[List.length_append,List.length_singleton];omega
   ·rw[ht,List.append_assoc];rfl
 ·rw[htok] at ht ⊢
  refine⟨_,_,_,_,_,_,_,rfl,_,.refl _,fun b_t=>⟨fun _=>?_,fun h=>?_⟩⟩
  ·rw[ht]
   exact⟨_,_,_,A,rfl,by simpa using hA,rfl⟩
  ·rcases he with rfl | rfl | rfl<;>exact absurd h (by decide)
structure PF where
 e:Int
 pos:Int
 tok:Bool
structure PS where
 next:Nat
 f:PF
structure PC where
 l:List Tok
 bad:Int
 pos:Int
def fG:Px:=.mk 0 0 0 0 0 ⟨#[]⟩ [] 0
def PS.over(s:PS):Bool:=s.f.e != 0
def PS.inc(s:PS):PS:=⟨s.next+1,s.f⟩
section
variable (c:PC)
def PC.tok(i:Nat):Tok:=(c.l[i]?).getD (jn 0)
def PC.now(s:PS):Tok:=if s.over||decide (c.l.length≤s.next) then jn 0 else c.tok s.next
def PC.c8(e:Int)(s:PS):PS:=if s.over then s else if c.l.length≤s.next then ⟨s.next,⟨c.bad,c.pos,true⟩⟩ else ⟨s.next,⟨e,(c.tok s.next).pos,false⟩⟩
def PC.eC(w:ByteArray)(s:PS):Bool:=(c.now s).text.toList==w.toList&&((c.now s).kind==1||(c.now s).kind==4)
def PC.iw(s:PS):List ByteArray→Int→Int
 | [],_=>-1
 | w::r,i=>if c.eC w s then i else PC.iw s r (i+1)
def PC.any(ws:List ByteArray)(s:PS):Int:=c.iw s ws 0
def PC.take(w:ByteArray)(s:PS):Int×PS:=if c.eC w s then ((c.now s).pos,s.inc) else (0,c.c8 130 s)
def PC.name(s:PS):ByteArray×PS:=if (c.now s).kind=2 then ((c.now s).text,s.inc) else (⟨#[]⟩,c.c8 130 s)
def PC.cY(d:Int)(s:PS):PS:=if 24<d+1 then c.c8 132 s else s
def rK(fL n pos:Int):Px:=.mk 1 0 fL n 0 ⟨#[]⟩ [] pos
def PC.literal(s:PS):(Px×Bool)×PS :=
 if (c.now s).kind=3 then ((rK (c.now s).fL (c.now s).n (c.now s).pos,true),s.inc)
 else if (c.now s).kind=1∧((c.now s).text.toList=(⟨#[116,114,117,101]⟩:ByteArray).toList∨(c.now s).text.toList=(⟨#[102,97,108,115,101]⟩:ByteArray).toList) then ((rK 5 (if (c.now s).text.toList=(⟨#[116,114,117,101]⟩:ByteArray).toList then 1 else 0) (c.now s).pos,true),s.inc)
 else if (c.now s).kind=1∧((c.now s).text.toList=(⟨#[98,117,121]⟩:ByteArray).toList∨(c.now s).text.toList=(⟨#[115,101,108,108]⟩:ByteArray).toList) then ((rK 6 (if (c.now s).text.toList=(⟨#[115,101,108,108]⟩:ByteArray).toList then 2 else 1) (c.now s).pos,true),s.inc)
 else ((fG,false),s)
structure Lv where
 ex:PS→Px×PS
 un:PS→Px×PS
def PC.dA(nx:Lv):Nat→Bool→PS→List Px×PS
 | 0,_,s=>([],s)
 | n+1,first,s =>
   let r:=nx.ex (if first then s else (c.take (⟨#[44]⟩:ByteArray) s).2)
   let q:=PC.dA nx n false r.2
   (r.1::q.1,q.2)
def PC.call(nx:Lv)(d:Int)(kind oper fL pos:Int)(many:Nat)(s:PS):Px×PS :=
 if (c.cY d s).over then (fG,c.cY d s)
 else
  let q:=c.dA nx many true (c.take (⟨#[40]⟩:ByteArray) (c.cY d s).inc).2
  (.mk kind oper fL 0 0 ⟨#[]⟩ q.1 pos,(c.take (⟨#[41]⟩:ByteArray) q.2).2)
def PC.rest(nx:Lv)(d:Int)(s:PS):Px×PS :=
 if c.eC (⟨#[104,97,115]⟩:ByteArray) s then
  if c.any [(⟨#[98,105,100]⟩:ByteArray),(⟨#[97,115,107]⟩:ByteArray),(⟨#[108,97,115,116]⟩:ByteArray)] s.inc<0 then (fG,c.c8 130 s.inc) else (.mk 4 0 0 0 (c.any [(⟨#[98,105,100]⟩:ByteArray),(⟨#[97,115,107]⟩:ByteArray),(⟨#[108,97,115,116]⟩:ByteArray)] s.inc+1) ⟨#[]⟩ [] (c.now s).pos,s.inc.inc)
 else if c.eC (⟨#[40]⟩:ByteArray) s then
  if (c.cY d s).over then (fG,c.cY d s)
  else
   let r:=nx.ex (c.cY d s).inc
   (r.1,(c.take (⟨#[41]⟩:ByteArray) r.2).2)
 else (fG,c.c8 130 s)
def jh:List ByteArray:=[(⟨#[98,105,100]⟩:ByteArray),(⟨#[97,115,107]⟩:ByteArray),(⟨#[108,97,115,116]⟩:ByteArray),(⟨#[118,111,108,117,109,101]⟩:ByteArray),(⟨#[110,111,119]⟩:ByteArray),(⟨#[111,112,101,110]⟩:ByteArray)]
def eO:List ByteArray:=[(⟨#[97,98,115]⟩:ByteArray),(⟨#[109,105,110]⟩:ByteArray),(⟨#[109,97,120]⟩:ByteArray)]
def iM:List ByteArray:=[(⟨#[105,110,116]⟩:ByteArray),(⟨#[113,116,121]⟩:ByteArray),(⟨#[112,114,105,99,101]⟩:ByteArray),(⟨#[116,105,109,101]⟩:ByteArray)]
def PC.one(nx:Lv)(d:Int)(s:PS):Px×PS :=
 if (c.literal s).1.2 then ((c.literal s).1.1,(c.literal s).2)
 else if (c.now s).kind=2 then (.mk 2 0 0 0 0 (c.now s).text [] (c.now s).pos,s.inc)
 else if 0≤c.any jh s then (.mk 3 0 0 0 (c.any jh s+1) ⟨#[]⟩ [] (c.now s).pos,s.inc)
 else if 0≤c.any eO s then c.call nx d 8 (3+c.any eO s) 0 (c.now s).pos (if c.any eO s=0 then 1 else 2) s
 else if 0≤c.any iM s then c.call nx d 9 0 (1+c.any iM s) (c.now s).pos 1 s
 else c.rest nx d s
def ke:List ByteArray:=[(⟨#[45]⟩:ByteArray),(⟨#[33]⟩:ByteArray)]
def PC.unary(nx:Lv)(d:Int)(s:PS):Px×PS :=
 if c.any ke s<0 then c.one nx d s
 else if (c.cY d s).over then (fG,c.cY d s)
 else
  let r:=nx.un (c.cY d s).inc
  (.mk 5 (1+c.any ke s) 0 0 0 ⟨#[]⟩ [r.1] (c.now (c.cY d s)).pos,r.2)
def uk(o pos:Int)(a b:Px):Px:=.mk 6 o 0 0 0 ⟨#[]⟩ [a,b] pos
def PC.eF(ws:List ByteArray)(o:Int)(sub:PS→Px×PS):Nat→Px→PS→Px×PS
 | 0,n,s=>(n,s)
 | m+1,n,s=>if c.any ws s<0 then (n,s) else
   let k:=sub s.inc
   PC.eF ws o sub m (uk (o+c.any ws s) (c.now s).pos n k.1) k.2
def PC.loop(ws:List ByteArray)(o:Int)(sub:PS→Px×PS)(s:PS):Px×PS:=c.eF ws o sub c.l.length (sub s).1 (sub s).2
def rL:List ByteArray:=[(⟨#[42]⟩:ByteArray),(⟨#[47]⟩:ByteArray),(⟨#[37]⟩:ByteArray)]
def sJ:List ByteArray:=[(⟨#[43]⟩:ByteArray),(⟨#[45]⟩:ByteArray)]
def ku:List ByteArray:=[(⟨#[61,61]⟩:ByteArray),(⟨#[33,61]⟩:ByteArray),(⟨#[60]⟩:ByteArray),(⟨#[60,61]⟩:ByteArray),(⟨#[62]⟩:ByteArray),(⟨#[62,61]⟩:ByteArray)]
def sK:List ByteArray:=[(⟨#[38,38]⟩:ByteArray)]
def AP:List ByteArray:=[(⟨#[124,124]⟩:ByteArray)]
def PC.product(nx:Lv)(d:Int)(s:PS):Px×PS:=c.loop rL 8 (c.unary nx d) s
def PC.sum(nx:Lv)(d:Int)(s:PS):Px×PS:=c.loop sJ 6 (c.product nx d) s
def PC.compare(nx:Lv)(d:Int)(s:PS):Px×PS :=
 let n:=c.sum nx d s
 if c.any ku n.2<0 then n else
  let k:=c.sum nx d n.2.inc
  (uk (11+c.any ku n.2) (c.now n.2).pos n.1 k.1,k.2)
def PC.and(nx:Lv)(d:Int)(s:PS):Px×PS:=c.loop sK 17 (c.compare nx d) s
def PC.or(nx:Lv)(d:Int)(s:PS):Px×PS:=c.loop AP 18 (c.and nx d) s
def PC.expr(nx:Lv)(d:Int)(s:PS):Px×PS :=
 let n:=c.or nx d s
 if c.eC (⟨#[63]⟩:ByteArray) n.2 then
  if (c.cY d n.2).over then (fG,c.cY d n.2)
  else
   let a:=nx.ex (c.cY d n.2).inc
   let b:=nx.ex (c.take (⟨#[58]⟩:ByteArray) a.2).2
   (.mk 7 0 0 0 0 ⟨#[]⟩ [n.1,a.1,b.1] (c.now (c.cY d n.2)).pos,b.2)
 else n
def PC.lv(nx:Lv)(d:Int):Lv:=⟨c.expr nx d,c.unary nx d⟩
def PC.lvl:Nat→Int→Lv
 | 0,d=>c.lv ⟨fun s=>(fG,s),fun s=>(fG,s)⟩ d
 | k+1,d=>c.lv (PC.lvl k (d+1)) d
def PC.eY(s:PS):Px×PS:=(c.lvl 24 0).ex s
def iN:List ByteArray:=[(⟨#[105,110,116]⟩:ByteArray),(⟨#[113,116,121]⟩:ByteArray),(⟨#[112,114,105,99,101]⟩:ByteArray),(⟨#[116,105,109,101]⟩:ByteArray),(⟨#[98,111,111,108]⟩:ByteArray),(⟨#[115,105,100,101]⟩:ByteArray)]
def PC.um(nm:ByteArray)(t pos pos2:Int)(minus:Bool)(n:Px)(s:PS):iE×PS:=(⟨nm,t,if minus then .mk 5 1 0 0 0 ⟨#[]⟩ [n] pos2 else n,pos⟩,(c.take (⟨#[59]⟩:ByteArray) s).2)
def PC.pc(nm:ByteArray)(t pos pos2:Int)(minus:Bool)(s:PS):iE×PS :=
 if minus=true∧(c.now s).kind≠3 then (⟨nm,t,fG,pos⟩,c.c8 130 s) else c.um nm t pos pos2 minus (c.literal s).1.1 (if (c.literal s).1.2 then (c.literal s).2 else c.c8 130 (c.literal s).2)
def PC.uo(nm:ByteArray)(t pos:Int)(s:PS):iE×PS:=c.pc nm t pos (c.now s).pos (c.eC (⟨#[45]⟩:ByteArray) s) (if c.eC (⟨#[45]⟩:ByteArray) s then s.inc else s)
def PC.vS(nm:ByteArray)(pos:Int)(s:PS):iE×PS:=if c.any iN s<0 then (⟨nm,0,fG,pos⟩,c.c8 130 s) else c.uo nm (1+c.any iN s) pos (c.take (⟨#[61]⟩:ByteArray) s.inc).2
def PC.uq(s:PS):iE×PS:=c.vS (c.name (c.take (⟨#[114,101,103]⟩:ByteArray) s).2).1 (c.take (⟨#[114,101,103]⟩:ByteArray) s).1 (c.name (c.take (⟨#[114,101,103]⟩:ByteArray) s).2).2
def fH:List ByteArray:=[(⟨#[108,105,109,105,116]⟩:ByteArray),(⟨#[105,111,99]⟩:ByteArray),(⟨#[102,111,107]⟩:ByteArray),(⟨#[112,111,115,116]⟩:ByteArray)]
def PC.nJ(s:PS):ByteArray×PS:=if c.eC (⟨#[97,115]⟩:ByteArray) s then c.name s.inc else (⟨#[]⟩,s)
def PC.sL(x y:Px)(pos:Int)(z:Px)(o:Int)(s:PS):mv×PS:=(⟨1,o,(c.nJ s).1,x,y,z,fG,pos⟩,(c.nJ s).2)
def PC.vT(x y:Px)(pos:Int)(z:Px)(s:PS):mv×PS:=if c.any fH s<0 then (⟨1,2,⟨#[]⟩,x,y,z,fG,pos⟩,c.c8 130 s) else c.sL x y pos z (if c.any fH s=0 then 1 else 2+c.any fH s) s.inc
def xi:List ByteArray:=[(⟨#[109,97,114,107,101,116]⟩:ByteArray),(⟨#[97,116]⟩:ByteArray)]
def PC.ur(x y:Px)(pos:Int)(s:PS):mv×PS:=if c.any xi s<0 then (⟨1,0,⟨#[]⟩,x,y,fG,fG,pos⟩,c.c8 130 s)
 else if c.any xi s=1 then c.vT x y pos (c.eY s.inc).1 (c.eY s.inc).2 else c.sL x y pos fG 2 s.inc
def PC.vU(x:Px)(pos:Int)(s:PS):mv×PS:=c.ur x (c.eY (c.take (⟨#[111,102]⟩:ByteArray) s).2).1 pos (c.eY (c.take (⟨#[111,102]⟩:ByteArray) s).2).2
def PC.xj(s:PS):mv×PS:=c.vU (c.eY (c.take (⟨#[115,117,98,109,105,116]⟩:ByteArray) s).2).1 (c.take (⟨#[115,117,98,109,105,116]⟩:ByteArray) s).1 (c.eY (c.take (⟨#[115,117,98,109,105,116]⟩:ByteArray) s).2).2
def vV:List ByteArray:=[(⟨#[115,117,98,109,105,116]⟩:ByteArray),(⟨#[97,109,101,110,100]⟩:ByteArray),(⟨#[99,97,110,99,101,108]⟩:ByteArray),(⟨#[115,101,116]⟩:ByteArray),(⟨#[103,111,116,111]⟩:ByteArray),(⟨#[104,97,108,116]⟩:ByteArray)]
def Ey:mv:=⟨0,0,⟨#[]⟩,fG,fG,fG,fG,0⟩
def PC.Bc(nm:ByteArray)(pos:Int)(x:Px)(s:PS):mv×PS:=(⟨2,0,nm,fG,x,(c.eY (c.take (⟨#[97,116]⟩:ByteArray) s).2).1,fG,pos⟩,(c.eY (c.take (⟨#[97,116]⟩:ByteArray) s).2).2)
def PC.DP(nm:ByteArray)(pos:Int)(s:PS):mv×PS:=(⟨4,0,nm,fG,fG,fG,(c.eY (c.take (⟨#[61]⟩:ByteArray) s).2).1,pos⟩,(c.eY (c.take (⟨#[61]⟩:ByteArray) s).2).2)
def PC.AQ(k:Int)(nm:ByteArray)(pos:Int)(s:PS):mv×PS:=if k=2 then c.Bc nm pos (c.eY (c.take (⟨#[116,111]⟩:ByteArray) s).2).1 (c.eY (c.take (⟨#[116,111]⟩:ByteArray) s).2).2 else if k=4 then c.DP nm pos s else (⟨k,0,nm,fG,fG,fG,fG,pos⟩,s)
def PC.do(s:PS):mv×PS :=
 if c.any vV s<0 then (Ey,c.c8 130 s)
 else if c.any vV s=0 then c.xj s
 else if c.any vV s=5 then c.AQ 6 ⟨#[]⟩ (c.now s).pos s.inc
 else c.AQ (1+c.any vV s) (c.name s.inc).1 (c.now s).pos (c.name s.inc).2
def PC.many(n most:Nat)(s:PS):PS:=if most≤n then c.c8 131 s else s
def PC.mO:Nat→List mv→PS→List mv×PS
 | 0,l,s=>(l,s)
 | m+1,l,s =>
   if c.eC (⟨#[44]⟩:ByteArray) (c.do s).2 then
    if (c.many (l.length+1) 8 (c.do s).2).over then (l++[(c.do s).1],c.many (l.length+1) 8 (c.do s).2) else PC.mO m (l++[(c.do s).1]) (c.many (l.length+1) 8 (c.do s).2).inc
   else (l++[(c.do s).1],(c.do s).2)
def PC.ma(w:Px)(pos:Int)(s:PS):iK×PS:=(⟨w,(c.mO 8 [] s).1,pos⟩,(c.take (⟨#[59]⟩:ByteArray) (c.mO 8 [] s).2).2)
def PC.lq(s:PS):iK×PS:=c.ma (c.eY (c.take (⟨#[119,104,101,110]⟩:ByteArray) s).2).1 (c.take (⟨#[119,104,101,110]⟩:ByteArray) s).1 (c.take (⟨#[100,111]⟩:ByteArray) (c.eY (c.take (⟨#[119,104,101,110]⟩:ByteArray) s).2).2).2
def PC.lJ{α:Type}(w:ByteArray)(most:Nat)(one:PS→α×PS):Nat→List α→PS→List α×PS
 | 0,l,s=>(l,if c.eC w s then c.many l.length most s else s)
 | m+1,l,s=>if c.eC w s then
    if (c.many l.length most s).over then (l,c.many l.length most s) else PC.lJ w most one m (l++[(one (c.many l.length most s)).1]) (one (c.many l.length most s)).2
   else (l,s)
def PC.list{α:Type}(w:ByteArray)(most:Nat)(one:PS→α×PS)(s:PS):List α×PS:=c.lJ w most one most [] s
def PC.mb(nm:ByteArray)(pos:Int)(s:PS):gg×PS:=(⟨nm,(c.list (⟨#[119,104,101,110]⟩:ByteArray) 12 c.lq s).1,pos⟩,(c.take (⟨#[125]⟩:ByteArray) (c.list (⟨#[119,104,101,110]⟩:ByteArray) 12 c.lq s).2).2)
def PC.state(s:PS):gg×PS:=c.mb (c.name (c.take (⟨#[115,116,97,116,101]⟩:ByteArray) s).2).1 (c.take (⟨#[115,116,97,116,101]⟩:ByteArray) s).1 (c.take (⟨#[123]⟩:ByteArray) (c.name (c.take (⟨#[115,116,97,116,101]⟩:ByteArray) s).2).2).2
def PC.slot(s:PS):eg×PS:=(⟨(c.name (c.take (⟨#[115,108,111,116]⟩:ByteArray) s).2).1,(c.take (⟨#[115,108,111,116]⟩:ByteArray) s).1⟩,(c.take (⟨#[59]⟩:ByteArray) (c.name (c.take (⟨#[115,108,111,116]⟩:ByteArray) s).2).2).2)
def PC.end(s:PS):PS:=if s.over then s else if c.l.length≤s.next∨(c.tok s.next).kind≠0 then c.c8 130 s else s
def PC.Cj(nm:ByteArray)(rs:List iE)(ss:List eg)(ts:List gg)(s:PS):iv×PS:=(⟨nm,rs,ss,ts⟩,c.end (c.take (⟨#[125]⟩:ByteArray) (if ts.length=0 then c.c8 130 s else s)).2)
def PC.Cl(nm:ByteArray)(rs:List iE)(ss:List eg)(s:PS):iv×PS:=c.Cj nm rs ss (c.list (⟨#[115,116,97,116,101]⟩:ByteArray) 12 c.state s).1 (c.list (⟨#[115,116,97,116,101]⟩:ByteArray) 12 c.state s).2
def PC.Cm(nm:ByteArray)(rs:List iE)(s:PS):iv×PS:=c.Cl nm rs (c.list (⟨#[115,108,111,116]⟩:ByteArray) 4 c.slot s).1 (c.list (⟨#[115,108,111,116]⟩:ByteArray) 4 c.slot s).2
def PC.Cn(nm:ByteArray)(s:PS):iv×PS:=c.Cm nm (c.list (⟨#[114,101,103]⟩:ByteArray) 12 c.uq s).1 (c.list (⟨#[114,101,103]⟩:ByteArray) 12 c.uq s).2
def PC.whole(s:PS):iv×PS:=c.Cn (c.name (c.take (⟨#[115,116,114,97,116,101,103,121]⟩:ByteArray) s).2).1 (c.take (⟨#[123]⟩:ByteArray) (c.name (c.take (⟨#[115,116,114,97,116,101,103,121]⟩:ByteArray) s).2).2).2
end
def dp(t:ByteArray):PC:=if 4096<(t.size:Int) then ⟨[],0,0⟩ else ⟨(kr t 0).1,((kr t 0).2.map Prod.fst).getD 0,((kr t 0).2.map Prod.snd).getD 0⟩
def dL(t:ByteArray):PS:=⟨0,if 4096<(t.size:Int) then ⟨110,0,true⟩ else ⟨0,0,false⟩⟩
def zF:PF:=⟨0,0,false⟩
def nK(t:ByteArray):iv×PF :=
 let r:=(dp t).whole (dL t)
 if r.2.over then (⟨⟨#[]⟩,[],[],[]⟩,r.2.f) else (r.1,zF)
def ew(t:ByteArray):Px×PF :=
 let n:=(dp t).eY (dL t)
 let s:=(dp t).end n.2
 if s.over then (fG,s.f) else (n.1,zF)
end Go.Lx
namespace Go.Lx
open Go.Vc Go.Proofs.Tryz
def kv:List (Nat×List Sh):=[(0,[]),(3,[.one (.int .i64)]),(4,[.one .bool]),(9,[.one .str]),(48,[.one (.int .i64)]),(74,[.one (.int .u8)]),(76,[.agg [(.int .u8),.str,(.int .u8),(.int .i64),(.int .i64)]]),(80,[.one .slc]),(81,[.one .slc,.one (.int .i64),.one (.int .i64)])]
def fM.V(p:Addr)(I:cS)(F:cR)(Q:cT)  : Prop:=∃ad:Addr,some p=some ad∧∃(m:Int),Rd I F ((ad.add 4).add 0) [.int .i64 m]∧Q (.returned (.bool (m != 0))) I (F)
theorem fM.vc{p:Addr}{I:cS}{F:cR}{Q:cT}  (h:fM.V p I F Q):cU P 30 #[.pointer (some p)] I F Q :=
 tw (A:=(an [] [] kv)) [] func30 h
def gy.V(ka:Nat→Int→Bs→Int→Int→Int→Nat×Obj)(vb vi:Int→Value)(vs:Bs→Value)(p:Addr)(I:cS)(F:cR)(Q:cT)  : Prop:=∀b:Nat,∃(r:Bool),(cU P 30 (#[.pointer (some p)]) I ((ka b 0 (⟨#[]⟩:Bs) 0 0 0)::F) fun e1 I1 G1=>e1=.returned (.bool r)∧List.Perm G1 ((ka b 0 (⟨#[]⟩:Bs) 0 0 0)::F))∧(It r (Q (.returned (.agg #[vb 0,vs (⟨#[]⟩:Bs),vb 0,vi 0,vi 0])) I F) (∃ad:Addr,some p=some ad∧∃(m:Int),Rd I ((ka b 0 (⟨#[]⟩:Bs) 0 0 0)::F) (ad.add 3) [vi m]∧∃j:Addr,some p=some j∧∃(q:OA) (a s:Nat),Rd I ((ka b 0 (⟨#[]⟩:Bs) 0 0 0)::F) (j.add 0) [.slice q a s]∧(Dt (m≥(a:Int)) (Q (.returned (.agg #[vb 0,vs (⟨#[]⟩:Bs),vb 0,vi 0,vi 0])) I F) (∃k:Addr,some p=some k∧∃(c:OA) (d o:Nat),Rd I ((ka b 0 (⟨#[]⟩:Bs) 0 0 0)::F) (k.add 0) [.slice c d o]∧∃l:Addr,some p=some l∧∃(m1:Int),Rd I ((ka b 0 (⟨#[]⟩:Bs) 0 0 0)::F) (l.add 3) [vi m1]∧((0≤m1∧m1<(d:Int))∧∃n:Addr,c=some n∧∃(e:Int) (f:Bs) (g h i:Int),Rd I ((ka b 0 (⟨#[]⟩:Bs) 0 0 0)::F) (n.add (Int.toNat m1*5)) [vb e,vs f,vb g,vi h,vi i]∧Q (.returned (.agg #[vb e,vs f,vb g,vi h,vi i])) I F)))))
theorem gy.vc{p:Addr}{I:cS}{F:cR}{Q:cT}  (h:gy.V (fun W a b c d e=>(W,Obj.cells #[.int .u8 a,.string b,.int .u8 c,.int .i64 d,.int .i64 e] 76 (0,0))) (.int .u8) (.int .i64) .string p I F Q):cU P 95 #[.pointer (some p)] I F Q :=
 tw (A:=(dr [1001,1012] [] [30] kv [] [] [] [(3,10,[0])] [] [] [])) [30] func95 h
def ft.V(vi:Int→Value)(p:Addr)(e1:Int)(I:cS)(F:cR)(Q:cT)  : Prop:=eZ P 30 (#[.pointer (some p)]) I (·) F .bool fun r I1 F1=>(It r (Q (.returned (.tuple #[])) I1 F1) (∃ad:Addr,some p=some ad∧∃(m:Int),Rd I1 F1 (ad.add 3) [vi m]∧∃h:Addr,some p=some h∧∃(q:OA) (c s:Nat),Rd I1 F1 (h.add 0) [.slice q c s]∧(Dt (m≥(c:Int)) (∃i:Addr,some p=some i∧∃(m1:Int),Rd I1 F1 (i.add 1) [vi m1]∧∃j:Addr,some p=some j∧∃(m2:Int),Rd I1 F1 (j.add 2) [vi m2]∧∃a:Addr,some p=some a∧∃(cs:List Value) (el:Nat) (F2:cR),List.Perm F1 (((a.add 4).block,Obj.cells cs.toArray el (0,0))::F2)∧(a.add 4).spot=none∧(a.add 4).off+3≤cs.length∧Q (.returned (.tuple #[])) I1 ((((a.add 4).block,Obj.cells (c6 (a.add 4).off [vi m1,vi m2,.bool true] cs).toArray el (0,0))::F2))) (∃k:Addr,some p=some k∧∃(d:OA) (e o:Nat),Rd I1 F1 (k.add 0) [.slice d e o]∧∃l:Addr,some p=some l∧∃(m3:Int),Rd I1 F1 (l.add 3) [vi m3]∧((0≤m3∧m3<(e:Int))∧∃n:Addr,d=some n∧∃(m4:Int),Rd I1 F1 ((n.add (Int.toNat m3*5)).add 4) [vi m4]∧∃b:Addr,some p=some b∧∃(f:List Value) (g:Nat) (F3:cR),List.Perm F1 (((b.add 4).block,Obj.cells f.toArray g (0,0))::F3)∧(b.add 4).spot=none∧(b.add 4).off+3≤f.length∧Q (.returned (.tuple #[])) I1 ((((b.add 4).block,Obj.cells (c6 (b.add 4).off [vi e1,vi m4,.bool false] f).toArray g (0,0))::F3)))))))
theorem ft.vc{p:Addr}{e1:Int}{I:cS}{F:cR}{Q:cT}  (h:ft.V (.int .i64) p e1 I F Q):cU P 81 #[.pointer (some p),.int .i64 e1] I F Q :=
 tw (A:=(dr [1,1009] [] [30] kv [] [] [] [(2,12,[]),(3,16,[])] [] [] [])) [30] func81 h
def gZ.V(p:Addr)(s:Bs)(I:cS)(F:cR)(Q:cT)  : Prop:=gO P 95 (#[.pointer (some p)]) I (·) F fun e1 I1 G1=>∃(a:Int) (b:Bs) (c d e:Int),e1=.returned (.agg #[.int .u8 a,.string b,.int .u8 c,.int .i64 d,.int .i64 e])∧G1 fun F1=>∀f:Nat,(It (b.toList==s.toList) (It (a==1) (Q (.returned (.bool true)) I1 F1) (Q (.returned (.bool (a==4))) I1 F1)) (Q (.returned (.bool false)) I1 F1))
theorem gZ.vc{p:Addr}{s:Bs}{I:cS}{F:cR}{Q:cT}  (h:gZ.V p s I F Q):cU P 76 #[.pointer (some p),.string s] I F Q :=
 tw (A:=(an [2003,2007] [95] kv)) [95] func76 h
def gz.V(p:Addr)(b:OA)(a c:Nat)(I:cS)(F:cR)(Q:cT)(Inv6:Int→Int→Nat→cS→cR→Prop):Prop:=(∃m:Nat,Inv6 0 0 m I F)∧∀(x i:Int) (m1:Nat) (I1:cS) (F1:cR),cS.le I I1→Inv6 x i m1 I1 F1→(Dt (i<(a:Int)) ((0≤i∧i<(a:Int))∧∃ad:Addr,b=some ad∧∃(m2:Bs),Rd I1 F1 (ad.add (Int.toNat i*1)) [.string m2]∧eZ P 76 (#[.pointer (some p),.string m2]) I1 (·) F1 .bool fun r I2 F2=>(It r (Q (.returned (.int .i64 i)) I2 F2) (∃m3:Nat,m3<m1∧Inv6 x (IntKind.wrap .i64 (i+1)) m3 I2 F2))) (Q (.returned (.int .i64 (-1))) I1 F1))
theorem gz.vc{p:Addr}{a:OA}{b c:Nat}{I:cS}{F:cR}{Q:cT}(Inv6:Int→Int→Nat→cS→cR→Prop)(h:gz.V p a b c I F Q Inv6):cU P 108 #[.pointer (some p),.slice a b c] I F Q :=
 tw (A:=(dr [2003,5000] [] [76] kv [(6,⟨[(4,(.int .i64)),(5,(.int .i64))],[],fun _ _ _ vs m I F=>match vs with | [.int _ y0,.int _ y1]=>Inv6 y0 y1 m I F | _=>False,[],[]⟩)] [] [] [] [] [] [])) [76] func108 h
def fN.V(vi:Int→Value)(p:Addr)(s:Bs)(I:cS)(F:cR)(Q:cT)  : Prop:=eZ P 76 (#[.pointer (some p),.string s]) I (·) F .bool fun r I1 F1=>(It (!r) (gO P 81 (#[.pointer (some p),vi 130]) I1 (·) F1 fun e2 I2 G2=>e2=.returned (.tuple #[])∧G2 fun F2=>Q (.returned (vi 0)) I2 F2) (gO P 95 (#[.pointer (some p)]) I1 (·) F1 fun e3 I3 G3=>∃(c:Int) (d:Bs) (e f b:Int),e3=.returned (.agg #[.int .u8 c,.string d,.int .u8 e,vi f,vi b])∧G3 fun F3=>∃ad:Addr,some p=some ad∧∃(m:Int),Rd I3 F3 (ad.add 3) [vi m]∧∃a:Addr,some p=some a∧∃(cs:List Value) (el:Nat) (F4:cR),List.Perm F3 (((a.add 3).block,Obj.cells cs.toArray el (0,0))::F4)∧(a.add 3).spot=none∧(a.add 3).off+1≤cs.length∧Q (.returned (vi b)) I3 ((((a.add 3).block,Obj.cells (c6 (a.add 3).off [vi (IntKind.wrap .i64 (m+1))] cs).toArray el (0,0))::F4))))
theorem fN.vc{p:Addr}{s:Bs}{I:cS}{F:cR}{Q:cT}  (h:fN.V (.int .i64) p s I F Q):cU P 74 #[.pointer (some p),.string s] I F Q :=
 tw (A:=(an [2001] [76,81,95] kv)) [76,81,95] func74 h
def fc.V(vt:Bool→Value)(p:Addr)(d:Int)(I:cS)(F:cR)(Q:cT)  : Prop:=(Dt ((IntKind.wrap .i64 (d+1))>24) (gO P 81 (#[.pointer (some p),.int .i64 132]) I (·) F fun e1 I1 G1=>e1=.returned (.tuple #[])∧G1 fun F1=>eZ P 30 (#[.pointer (some p)]) I1 (·) F1 vt fun r I2 F2=>Q (.returned (vt (!r))) I2 F2) (eZ P 30 (#[.pointer (some p)]) I (·) F vt fun r1 I3 F3=>Q (.returned (vt (!r1))) I3 F3))
theorem fc.vc{p:Addr}{d:Int}{I:cS}{F:cR}{Q:cT}  (h:fc.V .bool p d I F Q):cU P 94 #[.pointer (some p),.int .i64 d] I F Q :=
 tw (A:=(an [1002] [30,81] kv)) [30,81] func94 h
def eP.V(nV:Int→Int→Int→Int→Int→Bs→OA→Nat→Nat→Int→Value)(nO:Int→Int→Int→Int→Int→Bs→OA→Nat→Nat→Int→Obj)(vb vi:Int→Value)(vt:Bool→Value)(p:Addr)(I:cS)(F:cR)(Q:cT)(Inv6:Bool→Int→Int→Int→Int→Int→Bs→OA→Nat→Nat→Int→Int→Int→Int→Int→Int→Bs→OA→Nat→Nat→Int→cS→cR→Prop):Prop:=∀b:Nat,gO P 95 (#[.pointer (some p)]) I ((b,nO 0 0 0 0 0 (⟨#[]⟩:Bs) none 0 0 0)::·) F fun e1 I1 G1=>∃(d:Int) (a:Bs) (u v c:Int),e1=.returned (.agg #[vb d,.string a,vb u,vi v,vi c])∧G1 fun F1=>∀af:Nat,∀ag:Nat,((It (d==3) (Inv6 false 0 0 0 0 0 (⟨#[]⟩:Bs) none 0 0 0 1 0 u v 0 (⟨#[]⟩:Bs) none 0 0 c I1 F1) (It (d==1) (It (a.toList==(⟨#[116,114,117,101]⟩:Bs).toList) (It (a.toList==(⟨#[116,114,117,101]⟩:Bs).toList) (Inv6 false 0 0 0 0 0 (⟨#[]⟩:Bs) none 0 0 0 1 0 5 1 0 (⟨#[]⟩:Bs) none 0 0 c I1 F1) (Inv6 false 0 0 0 0 0 (⟨#[]⟩:Bs) none 0 0 0 1 0 5 0 0 (⟨#[]⟩:Bs) none 0 0 c I1 F1)) (It (a.toList==(⟨#[102,97,108,115,101]⟩:Bs).toList) (It (a.toList==(⟨#[116,114,117,101]⟩:Bs).toList) (Inv6 false 0 0 0 0 0 (⟨#[]⟩:Bs) none 0 0 0 1 0 5 1 0 (⟨#[]⟩:Bs) none 0 0 c I1 F1) (Inv6 false 0 0 0 0 0 (⟨#[]⟩:Bs) none 0 0 0 1 0 5 0 0 (⟨#[]⟩:Bs) none 0 0 c I1 F1)) (It (d==1) (It (a.toList==(⟨#[98,117,121]⟩:Bs).toList) (It (a.toList==(⟨#[115,101,108,108]⟩:Bs).toList) (Inv6 false 0 0 0 0 0 (⟨#[]⟩:Bs) none 0 0 0 1 0 6 2 0 (⟨#[]⟩:Bs) none 0 0 c I1 F1) (Inv6 false 0 0 0 0 0 (⟨#[]⟩:Bs) none 0 0 0 1 0 6 1 0 (⟨#[]⟩:Bs) none 0 0 c I1 F1)) (It (a.toList==(⟨#[115,101,108,108]⟩:Bs).toList) (It (a.toList==(⟨#[115,101,108,108]⟩:Bs).toList) (Inv6 false 0 0 0 0 0 (⟨#[]⟩:Bs) none 0 0 0 1 0 6 2 0 (⟨#[]⟩:Bs) none 0 0 c I1 F1) (Inv6 false 0 0 0 0 0 (⟨#[]⟩:Bs) none 0 0 0 1 0 6 1 0 (⟨#[]⟩:Bs) none 0 0 c I1 F1)) (Q (.returned (.tuple #[nV 0 0 0 0 0 (⟨#[]⟩:Bs) none 0 0 0,vt false])) I1 F1))) (Q (.returned (.tuple #[nV 0 0 0 0 0 (⟨#[]⟩:Bs) none 0 0 0,vt false])) I1 F1)))) (It (d==1) (It (a.toList==(⟨#[98,117,121]⟩:Bs).toList) (It (a.toList==(⟨#[115,101,108,108]⟩:Bs).toList) (Inv6 false 0 0 0 0 0 (⟨#[]⟩:Bs) none 0 0 0 1 0 6 2 0 (⟨#[]⟩:Bs) none 0 0 c I1 F1) (Inv6 false 0 0 0 0 0 (⟨#[]⟩:Bs) none 0 0 0 1 0 6 1 0 (⟨#[]⟩:Bs) none 0 0 c I1 F1)) (It (a.toList==(⟨#[115,101,108,108]⟩:Bs).toList) (It (a.toList==(⟨#[115,101,108,108]⟩:Bs).toList) (Inv6 false 0 0 0 0 0 (⟨#[]⟩:Bs) none 0 0 0 1 0 6 2 0 (⟨#[]⟩:Bs) none 0 0 c I1 F1) (Inv6 false 0 0 0 0 0 (⟨#[]⟩:Bs) none 0 0 0 1 0 6 1 0 (⟨#[]⟩:Bs) none 0 0 c I1 F1)) (Q (.returned (.tuple #[nV 0 0 0 0 0 (⟨#[]⟩:Bs) none 0 0 0,vt false])) I1 F1))) (Q (.returned (.tuple #[nV 0 0 0 0 0 (⟨#[]⟩:Bs) none 0 0 0,vt false])) I1 F1)))))∧∀(x:Bool) (w y z aa ab:Int) (ac:Bs) (r:OA) (s t:Nat) (ae i j k l n:Int) (o:Bs) (e:OA) (f g:Nat) (q:Int) (I2:cS) (F2:cR),cS.le I1 I2→Inv6 x w y z aa ab ac r s t ae i j k l n o e f g q I2 F2→∃ad:Addr,some p=some ad∧∃(m:Int),Rd I2 ((b,nO w y z aa ab ac r s t ae)::(af,Obj.cells #[vb d,.string a,vb u,vi v,vi c] 76 (0,0))::(ag,nO i j k l n o e f g q)::F2) (ad.add 3) [vi m]∧∃h:Addr,some p=some h∧∃(cs:List Value) (el:Nat) (F3:cR),List.Perm F2 (((h.add 3).block,Obj.cells cs.toArray el (0,0))::F3)∧(h.add 3).spot=none∧(h.add 3).off+1≤cs.length∧Q (.returned (.tuple #[nV i j k l n o e f g q,vt true])) I2 ((((h.add 3).block,Obj.cells (c6 (h.add 3).off [vi (IntKind.wrap .i64 (m+1))] cs).toArray el (0,0))::F3))
theorem eP.vc{p:Addr}{I:cS}{F:cR}{Q:cT}(Inv6:Bool→Int→Int→Int→Int→Int→Bs→OA→Nat→Nat→Int→Int→Int→Int→Int→Int→Bs→OA→Nat→Nat→Int→cS→cR→Prop)(h:eP.V (fun k o t n f s a l c q=>.agg #[.int .u8 k,.int .u8 o,.int .u8 t,.int .i64 n,.int .u8 f,.string s,.slice a l c,.int .i64 q]) (fun k o t n f s a l c q=>.cells #[.int .u8 k,.int .u8 o,.int .u8 t,.int .i64 n,.int .u8 f,.string s,.slice a l c,.int .i64 q] 64 (0,0)) (.int .u8) (.int .i64) .bool p I F Q Inv6):cU P 109 #[.pointer (some p)] I F Q :=
 tw (A:=(dr [4002,7002,7006,7010,9002,11002,11006,11010,14002] [] [95] kv [(6,⟨[(3,.bool)],[(0,[(.int .u8),(.int .u8),(.int .u8),(.int .i64),(.int .u8),.str,.slc,(.int .i64)]),(2,[(.int .u8),(.int .u8),(.int .u8),(.int .i64),(.int .u8),.str,.slc,(.int .i64)])],fun _ _ _ vs m I F=>match vs with | [.bool y0,.int _ y1,.int _ y2,.int _ y3,.int _ y4,.int _ y5,.string y6,.slice y7 y8 y9,.int _ y10,.int _ y11,.int _ y12,.int _ y13,.int _ y14,.int _ y15,.string y16,.slice y17 y18 y19,.int _ y20]=>Inv6 y0 y1 y2 y3 y4 y5 y6 y7 y8 y9 y10 y11 y12 y13 y14 y15 y16 y17 y18 y19 y20 I F | _=>False,[],[]⟩)] [] [] [] [] [] [])) [95] func109 h
def gA.V(vi:Int→Value)(p:Addr)(I:cS)(F:cR)(Q:cT)  : Prop:=eZ P 30 (#[.pointer (some p)]) I (·) F .bool fun r I1 F1=>(It r (Q (.returned (.tuple #[])) I1 F1) (∃ad:Addr,some p=some ad∧∃(m:Int),Rd I1 F1 (ad.add 3) [vi m]∧∃d:Addr,some p=some d∧∃(i:OA) (a j:Nat),Rd I1 F1 (d.add 0) [.slice i a j]∧(Dt (m≥(a:Int)) (gO P 81 (#[.pointer (some p),vi 130]) I1 (·) F1 fun e2 I2 G2=>e2=.returned (.tuple #[])∧G2 fun F2=>Q (.returned (.tuple #[])) I2 F2) (∃e:Addr,some p=some e∧∃(b:OA) (c h:Nat),Rd I1 F1 (e.add 0) [.slice b c h]∧∃f:Addr,some p=some f∧∃(m1:Int),Rd I1 F1 (f.add 3) [vi m1]∧((0≤m1∧m1<(c:Int))∧∃g:Addr,b=some g∧∃(m2:Int),Rd I1 F1 ((g.add (Int.toNat m1*5)).add 0) [.int .u8 m2]∧(It (m2 != 0) (gO P 81 (#[.pointer (some p),vi 130]) I1 (·) F1 fun e3 I3 G3=>e3=.returned (.tuple #[])∧G3 fun F3=>Q (.returned (.tuple #[])) I3 F3) (Q (.returned (.tuple #[])) I1 F1)))))))
theorem gA.vc{p:Addr}{I:cS}{F:cR}{Q:cT}  (h:gA.V (.int .i64) p I F Q):cU P 49 #[.pointer (some p)] I F Q :=
 tw (A:=(an [1,1009,1022] [30,81] kv)) [30,81] func49 h
def kf.V(vi:Int→Value)(s:Bs)(I:cS)(F:cR)(Q:cT)  : Prop:=(Dt ((s.size:Int)>4096) (∀b:Nat,Q (.returned (.pointer (some (⟨b,0,none⟩:Addr)))) I (((b,Obj.cells #[.slice none 0 0,vi 0,vi 0,vi 0,vi 110,vi 0,.bool true] 96 (0,0))::F))) (gO P 59 #[.string s] I (·) F fun e1 I1 G1=>∃(a:OA) (c d:Nat) (r1 r2:Int),e1=.returned (.tuple #[.slice a c d,vi r1,vi r2])∧G1 fun F1=>∀b1:Nat,Q (.returned (.pointer (some (⟨b1,0,none⟩:Addr)))) I1 (((b1,Obj.cells #[.slice a c d,vi r1,vi r2,vi 0,vi 0,vi 0,.bool false] 96 (0,0))::F1))))
theorem kf.vc{s:Bs}{I:cS}{F:cR}{Q:cT}  (h:kf.V (.int .i64) s I F Q):cU P 28 #[.string s] I F Q :=
 tw (A:=(dr [1002] [] [59] kv [] [] [2002,4004] [] [] [] [])) [59] func28 h
end Go.Lx
namespace Go.Lx
open Go.Vc
structure PQ where
 c:PC
 a:Option Addr
 cap:Nat
def PQ.cl(q:PQ)(s:PS):List Value:=[.slice q.a q.c.l.length q.cap,.int .i64 q.c.bad,.int .i64 q.c.pos,.int .i64 s.next,.int .i64 s.f.e,.int .i64 s.f.pos,.bool s.f.tok]
def PQ.dg(q:PQ)(b:Nat)(s:PS):Nat×Obj:=(b,.cells (q.cl s).toArray 96 (0,0))
structure PQ.ok (q:PQ) (I:cS):Prop where
 sl:Sl I 5 Tok.enc q.a q.c.l.length q.c.l
 len:q.c.l.length≤1000000
theorem PQ.ok.mono{q:PQ}{I J:cS}(h:q.ok I)(hl:cS.le I J):q.ok J:=⟨h.sl.mono hl,h.len⟩
theorem PQ.rd{q:PQ}{b:Nat}{s:PS}{I:cS}{G:cR}(h:q.dg b s∈G){k:Nat}{v:Value}(hv:(q.cl s)[k]? = some v):Rd I G ((⟨b,0,none⟩:Addr).add k) [v]:=by
 rw[dv]
 refine⟨rfl,_,_,_,.inr h,fun j hj=>?_⟩
 have:j=0:=by simpa using hj
 subst this
 simpa using hv
theorem PQ.ia{q:PQ}{b:Nat}{s:PS}(hn:s.next≤2000000) :
  (((⟨b,0,none⟩:Addr).add 3).block,Obj.cells (c6 ((⟨b,0,none⟩:Addr).add 3).off [.int .i64 (IntKind.wrap .i64 ((s.next:Int)+1))] (q.cl s)).toArray 96 (0,0))=q.dg b s.inc:=by
 rw[dv,ef (by omega)]
 rfl
theorem PQ.C9{q:PQ}{b:Nat}{s:PS}{e p:Int}{t:Bool} :
  (((⟨b,0,none⟩:Addr).add 4).block,Obj.cells (c6 ((⟨b,0,none⟩:Addr).add 4).off [.int .i64 e,.int .i64 p,.bool t] (q.cl s)).toArray 96 (0,0))=q.dg b ⟨s.next,⟨e,p,t⟩⟩:=by
 rw[dv]
 rfl
theorem PQ.spot(b k:Nat):((⟨b,0,none⟩:Addr).add k).spot=none:=by rw[dv]
theorem PQ.off(b k:Nat):((⟨b,0,none⟩:Addr).add k).off=k:=by rw[dv]
variable {q:PQ} {b:Nat} {s:PS} {I:cS}
theorem pd{F:cR}(hm:q.dg b s∈F):cU P 30 #[.pointer (some ⟨b,0,none⟩)] I F (jS (.bool s.over) F):=by
 refine fM.vc ?_
 unfold fM.V
 exact⟨_,rfl,_,(PQ.rd hm (k:=4) rfl).field (o:=0) rfl,rfl,rfl⟩
theorem lK(hq:q.ok I){F:cR}(hm:q.dg b s∈F):cU P 95 #[.pointer (some ⟨b,0,none⟩)] I F (jS (q.c.now s).v F):=by
 refine gy.vc ?_
 unfold gy.V
 intro b1
 refine⟨s.over,cU.ret (pd (.tail _ hm)) fun I1 l1=>⟨rfl,.refl _⟩,fun h=>⟨?_,rfl⟩,fun h=>⟨_,rfl,_,PQ.rd (.tail _ hm) rfl,_,rfl,_,_,_,PQ.rd (.tail _ hm) rfl,fun hn=>⟨?_,rfl⟩,fun hn=>⟨_,rfl,_,_,_,PQ.rd (.tail _ hm) rfl,_,rfl,_,PQ.rd (.tail _ hm) rfl, ?_⟩⟩⟩
 ·unfold PC.now;rw[h];rfl
 ·have hn:=of_decide_eq_true hn
  unfold PC.now;rw[h,if_pos (by simp;omega)];rfl
 ·have hn:=of_decide_eq_false hn
  obtain⟨ad,t,ha,ht,hr⟩:=hq.sl.at (i:=(s.next:Int)) (by omega) (by omega)
  refine⟨⟨by omega,by omega⟩,ad,ha,_,_,_,_,_,hr _, ?_,rfl⟩
  have ht:q.c.l[s.next]? = some t:=ht
  unfold PC.now PC.tok;rw[h,if_neg (by simp;omega),ht];rfl
theorem mB(hq:q.ok I)(e:Int){F F0:cR}(hF:F.Perm (q.dg b s::F0)):cU P 81 #[.pointer (some ⟨b,0,none⟩),.int .i64 e] I F fun e1 I' G=>e1=.returned (.tuple #[])∧G.Perm (q.dg b (q.c.c8 e s)::F0):=by
 have hm:q.dg b s∈F:=hF.mem_iff.2 (.head _)
 refine ft.vc ?_
 unfold ft.V
 refine cU.ret (pd hm) fun I1 l1=>⟨_,rfl,F,.refl _,fun h=>⟨rfl, ?_⟩,fun h=>⟨_,rfl,_,PQ.rd hm rfl,_,rfl,_,_,_,PQ.rd hm rfl,fun hn=>⟨_,rfl,_,PQ.rd hm rfl,_,rfl,_,PQ.rd hm rfl,_,rfl,q.cl s,96,F0,hF,PQ.spot _ _,by rw[PQ.off];exact (by decide:4+3≤7),rfl, ?_⟩,
  fun hn=>⟨_,rfl,_,_,_,PQ.rd hm rfl,_,rfl,_,PQ.rd hm rfl, ?_⟩⟩⟩
 ·unfold PC.c8;rw[if_pos h];exact hF
 ·have hn:=of_decide_eq_true hn
  unfold PC.c8;rw[if_neg (by simp[h]),if_pos (by omega),PQ.C9]
 ·have hn:=of_decide_eq_false hn
  obtain⟨ad,t,ha,ht,hr⟩:=(hq.mono l1).sl.at (i:=(s.next:Int)) (by omega) (by omega)
  refine⟨⟨by omega,by omega⟩,ad,ha,t.pos,(hr _).field (o:=4) rfl,_,rfl,q.cl s,96,F0,hF,PQ.spot _ _,by rw[PQ.off];exact (by decide:4+3≤7),rfl, ?_⟩
  have ht:q.c.l[s.next]? = some t:=ht
  unfold PC.c8 PC.tok;rw[if_neg (by simp[h]),if_neg (by omega),ht,PQ.C9];exact .refl _
theorem xk(hq:q.ok I)(w:ByteArray){F:cR}(hm:q.dg b s∈F):cU P 76 #[.pointer (some ⟨b,0,none⟩),.string w] I F (jS (.bool (q.c.eC w s)) F):=by
 refine gZ.vc ?_
 unfold gZ.V
 refine cU.ret (lK hq hm) fun I1 l1=>⟨_,_,_,_,_,rfl,F,.refl _,fun b_t=>⟨fun h=>⟨fun h1=>⟨?_,rfl⟩,fun h1=>⟨?_,rfl⟩⟩,fun h=>⟨?_,rfl⟩⟩⟩<;>unfold PC.eC<;>simp_all
theorem pL(hq:q.ok I){a:Option Addr}{n k:Nat}{ws:List ByteArray}(hS:Sl I 1 iS a n ws)(hl:n≤100){F:cR}(hm:q.dg b s∈F):cU P 108 #[.pointer (some ⟨b,0,none⟩),.slice a n k] I F (jS (.int .i64 (q.c.any ws s)) F):=by
 have hn:=hS.1
 refine gz.vc (fun x i m I' F'=>F'=F∧0≤i∧i≤n∧m=(n-i).toNat∧q.c.any ws s=q.c.iw s (ws.drop i.toNat) i) ?_
 unfold gz.V
 refine⟨⟨_,rfl,by omega,by omega,rfl,rfl⟩,fun x i m1 I1 F1 l1 ⟨gF,g0,g1,gm,ge⟩=>⟨fun hlt=>?_,fun hlt=>⟨?_,gF⟩⟩⟩
 ·subst gF
  have hlt:=of_decide_eq_true hlt
  obtain⟨ad,w,ha,hw,hr⟩:=(hS.mono l1).at g0 hlt
  obtain⟨hk,rfl⟩:=List.getElem?_eq_some_iff.1 hw
  rw[List.drop_eq_getElem_cons hk,PC.iw] at ge
  refine⟨⟨g0,hlt⟩,ad,ha,_,hr _,cU.ret (xk (hq.mono l1) _ hm) fun I2 l2=>⟨_,rfl,F1,.refl _,fun h=>⟨?_,rfl⟩,fun h=>⟨(n-(i+1)).toNat,by omega,rfl, ?_⟩⟩⟩
  ·rw[ge,if_pos h]
  ·rw[ef (n:=i+1) (by omega)]
   refine⟨by omega,by omega,rfl, ?_⟩
   rw[ge,if_neg (by simp[h]),show (i+1).toNat=i.toNat+1 by omega]
 ·have hlt:=of_decide_eq_false hlt
  rw[ge,List.drop_eq_nil_of_le (by omega),PC.iw]
theorem lr{c:PC}{s:PS}(h:(c.now s).kind≠0):s.next<c.l.length:=by
 unfold PC.now at h
 split at h
 ·exact absurd rfl h
 ·rename_i h1
  simp only[Bool.or_eq_true,decide_eq_true_eq,not_or] at h1
  omega
theorem jJ{c:PC}{s:PS}{w:ByteArray}(h:c.eC w s=true):s.next<c.l.length:=by
 refine lr fun hk=>?_
 unfold PC.eC at h
 rw[hk] at h
 simp at h
theorem uu{c:PC}{s:PS}:∀{ws:List ByteArray} {i:Int},0≤i→0≤c.iw s ws i→s.next<c.l.length∧i≤c.iw s ws i∧c.iw s ws i<i+ws.length
 | [],i,h0,h=>by rw[PC.iw] at h;omega
 | w::r,i,h0,h=>by
   rw[PC.iw] at h ⊢
   split at h
   ·rename_i hw
    rw[if_pos hw]
    exact⟨jJ hw,Int.le_refl _,by rw[List.length_cons];omega⟩
   ·rename_i hw
    rw[if_neg hw]
    have:=uu (ws:=r) (i:=i+1) (by omega) h
    rw[List.length_cons];exact⟨this.1,by omega,by omega⟩
theorem dX{c:PC}{s:PS}{ws:List ByteArray}(h:0≤c.any ws s):s.next<c.l.length∧c.any ws s<ws.length:=by
 have:=uu (Int.le_refl 0) h
 exact⟨this.1,by have:=this.2.2;unfold PC.any;omega⟩
theorem rM(hq:q.ok I)(w:ByteArray){F F0:cR}(hF:F.Perm (q.dg b s::F0)):cU P 74 #[.pointer (some ⟨b,0,none⟩),.string w] I F fun e1 I' G=>e1=.returned (.int .i64 (q.c.take w s).1)∧G.Perm (q.dg b (q.c.take w s).2::F0):=by
 have hm:q.dg b s∈F:=hF.mem_iff.2 (.head _)
 have hl:=hq.len
 refine fN.vc ?_
 unfold fN.V
 refine cU.ret (xk hq w hm) fun I1 l1=>⟨_,rfl,F,.refl _,fun h=>?_,fun h=>?_⟩
 ·have h:q.c.eC w s=false:=by simpa using h
  refine (mB (hq.mono l1) 130 hF).mono fun e I2 G l2 ⟨he,hG⟩=>?_
  refine⟨he,G,.refl _, ?_⟩
  unfold PC.take
  rw[if_neg (by simp[h])]
  exact⟨rfl,hG⟩
 ·have h:q.c.eC w s=true:=by simpa using h
  have hlt:=jJ h
  refine cU.ret (lK (hq.mono l1) hm) fun I2 l2=>⟨_,_,_,_,_,rfl,F,.refl _,_,rfl,_,PQ.rd (k:=3) hm rfl,_,rfl,q.cl s,96,F0,hF,PQ.spot _ _,by rw[PQ.off];exact (by decide:3+1≤7), ?_⟩
  rw[PQ.ia (by omega)]
  unfold PC.take
  rw[if_pos h]
  exact⟨rfl,.refl _⟩
theorem oF(hq:q.ok I)(d:Int)(h0:0≤d)(h1:d≤1000){F F0:cR}(hF:F.Perm (q.dg b s::F0)):cU P 94 #[.pointer (some ⟨b,0,none⟩),.int .i64 d] I F fun e1 I' G=>e1=.returned (.bool (!(q.c.cY d s).over))∧G.Perm (q.dg b (q.c.cY d s)::F0):=by
 have hm:q.dg b s∈F:=hF.mem_iff.2 (.head _)
 refine fc.vc ?_
 unfold fc.V
 rw[ef (n:=d+1) (by omega)]
 unfold PC.cY
 refine⟨fun h=>?_,fun h=>?_⟩
 ·have h:=of_decide_eq_true h
  rw[if_pos (by omega)]
  refine (mB hq 132 hF).mono fun e I2 G l2 ⟨he,hG⟩=>⟨he,G,.refl _,cU.ret (pd (hG.mem_iff.2 (.head _))) fun I3 l3=>⟨_,rfl,G,.refl _,rfl,hG⟩⟩
 ·have h:=of_decide_eq_false h
  rw[if_neg (by omega)]
  exact cU.ret (pd hm) fun I3 l3=>⟨_,rfl,F,.refl _,rfl,hF⟩
theorem Da(hq:q.ok I){F F0:cR}(hF:F.Perm (q.dg b s::F0)):cU P 49 #[.pointer (some ⟨b,0,none⟩)] I F fun e1 I' G=>e1=.returned (.tuple #[])∧G.Perm (q.dg b (q.c.end s)::F0):=by
 have hm:q.dg b s∈F:=hF.mem_iff.2 (.head _)
 refine gA.vc ?_
 unfold gA.V
 unfold PC.end
 refine cU.ret (pd hm) fun I1 l1=>⟨_,rfl,F,.refl _,fun h=>?_,fun h=>⟨_,rfl,_,PQ.rd hm rfl,_,rfl,_,_,_,PQ.rd hm rfl,fun hn=>?_,fun hn=>⟨_,rfl,_,_,_,PQ.rd hm rfl,_,rfl,_,PQ.rd hm rfl, ?_⟩⟩⟩
 ·rw[if_pos h];exact⟨rfl,hF⟩
 ·have hn:=of_decide_eq_true hn
  rw[if_neg (by simp[h]),if_pos (.inl (by omega))]
  exact (mB (hq.mono l1) 130 hF).mono fun e I2 G l2 ⟨he,hG⟩=>⟨he,G,.refl _,rfl,hG⟩
 ·have hn:=of_decide_eq_false hn
  obtain⟨ad,t,ha,ht,hr⟩:=(hq.mono l1).sl.at (i:=(s.next:Int)) (by omega) (by omega)
  have ht:q.c.l[s.next]? = some t:=ht
  have htk:q.c.tok s.next=t:=by unfold PC.tok;rw[ht];rfl
  refine⟨⟨by omega,by omega⟩,ad,ha,t.kind,(hr _).field (o:=0) rfl,fun h2=>?_,fun h2=>?_⟩
  ·rw[if_neg (by simp[h]),if_pos (.inr (by rw[htk];simpa using h2))]
   exact (mB (hq.mono l1) 130 hF).mono fun e I2 G l2 ⟨he,hG⟩=>⟨he,G,.refl _,rfl,hG⟩
  ·rw[if_neg (by simp[h]),if_neg (by rw[htk];simp at h2;omega)]
   exact⟨rfl,hF⟩
end Go.Lx
namespace Go.Lx
open Go.Vc
def Small(l:List Px):Prop:=∀x∈l,x.size≤1048576
theorem mX.EE{α:Type}{I:cS}{G:cR}{z:Nat}{f:α→List Value}{a:Option Addr}{n:Nat}{l:List α}(h:mX I G z f a n l){i:Int}(h0:0≤i)(h1:i<n) :
  ∃ad x,a=some ad∧l[i.toNat]? = some x∧Rd I G (ad.add (Int.toNat i*z)) (f x)∧x∈l:=by
 obtain⟨ad,x,g1,g2,g3⟩:=h.at h0 h1
 exact⟨ad,x,g1,g2,g3,List.mem_of_getElem? g2⟩
theorem mX.nil{α:Type}{I:cS}{G:cR}{z:Nat}{f:α→List Value}{a:Option Addr}:mX I G z f a 0 ([]:List α):=⟨rfl,fun h=>absurd rfl h⟩
theorem dP.leaf{I:cS}{G:cR}{k o ty n f:Int}{s:ByteArray}{a:Option Addr}{c:Nat}{q:Int}:dP I G (.mk k o ty n f s a c [] q):=.mk mX.nil fun k hk=>by cases hk
end Go.Lx
namespace Go.Lx
open Go.Vc Go.Proofs.Tryz
def jK:List (Nat×List Sh):=[(0,[]),(3,[.one (.int .i64)]),(4,[.one .bool]),(62,[.one .slc]),(64,[.agg [(.int .u8),(.int .u8),(.int .u8),(.int .i64),(.int .u8),.str,.slc,(.int .i64)]]),(76,[.agg [(.int .u8),.str,(.int .u8),(.int .i64),(.int .i64)]]),(208,[.agg [(.int .u8),(.int .u8),(.int .u8),(.int .i64),(.int .u8),.str,.slc,(.int .i64)],.one .bool])]
def fO.V(ah:Nat→Nat×Obj)(nV:Int→Int→Int→Int→Int→Bs→OA→Nat→Nat→Int→Value)(nO:Int→Int→Int→Int→Int→Bs→OA→Nat→Nat→Int→Obj)(vi:Int→Value)(vl:OA→Nat→Nat→Value)(vp:OA→Value)(wr:Int→Int)(p:Addr)(aD aE aF aG aH:Int)(aI:Bs)(aw:OA)(ax ay:Nat)(aJ ap d:Int)(I:cS)(F:cR)(Q:cT)(Inv20:Int→Int→Int→Int→Int→Int→Bs→OA→Nat→Nat→Int→Nat→cS→cR→Prop):Prop:=∀o:Nat,∀b:Nat,eZ P 94 (#[vp (some p),vi d]) I ((ah o)::(b,nO 0 0 0 0 0 (⟨#[]⟩:Bs) none 0 0 0)::·) F .bool fun r I1 F1=>(It (!r) (Q (.returned (nV 0 0 0 0 0 (⟨#[]⟩:Bs) none 0 0 0)) I1 F1) (∃ad:Addr,some p=some ad∧∃(m:Int),Rd I1 ((ah o)::(b,nO 0 0 0 0 0 (⟨#[]⟩:Bs) none 0 0 0)::F1) (ad.add 3) [vi m]∧∃y:Addr,some p=some y∧∃(cs:List Value) (el:Nat) (F2:cR),List.Perm F1 (((y.add 3).block,Obj.cells cs.toArray el (0,0))::F2)∧(y.add 3).spot=none∧(y.add 3).off+1≤cs.length∧cU P 74 (#[vp (some p),.string (⟨#[40]⟩:Bs)]) I1 ((ah o)::(b,nO 0 0 0 0 0 (⟨#[]⟩:Bs) none 0 0 0)::(((y.add 3).block,Obj.cells (c6 (y.add 3).off [vi (wr (m+1))] cs).toArray el (0,0))::F2)) fun e2 I2 G2=>∃(r1:Int),e2=.returned (vi r1)∧∃F3:cR,List.Perm G2 ((ah o)::(b,nO 0 0 0 0 0 (⟨#[]⟩:Bs) none 0 0 0)::F3)∧(∃m1:Nat,Inv20 0 aD aE aF aG aH aI aw ax ay aJ m1 I2 F3)∧∀(i f g h j k:Int) (l:Bs) (a:OA) (c e:Nat) (n:Int) (m2:Nat) (I3:cS) (F4:cR),cS.le I2 I3→Inv20 i f g h j k l a c e n m2 I3 F4→(Dt (i<ap) (Dt (i>0) (eZ P 74 (#[vp (some p),.string (⟨#[44]⟩:Bs)]) I3 ((o,nO f g h j k l a c e n)::(b,nO 0 0 0 0 0 (⟨#[]⟩:Bs) none 0 0 0)::·) F4 vi fun r2 I4 F5=>gO P 48 (#[vp (some p),vi (wr (d+1))]) I4 ((o,nO f g h j k l a c e n)::(b,nO 0 0 0 0 0 (⟨#[]⟩:Bs) none 0 0 0)::·) F5 fun e4 I5 G4=>∃(ai aj ak al am:Int) (an:Bs) (u:OA) (w x:Nat) (ao:Int),e4=.returned (nV ai aj ak al am an u w x ao)∧G4 fun F6=>∀aC:Nat,∀(b1:Nat) (I6:cS),cS.le I5 I6→I6 b1=some (nO ai aj ak al am an u w x ao)→dm P (Builtin.append_ #[62,62] 62 #[vl a c e,vl (some ⟨b1,0,none⟩) 1 1]) I6 ((o,nO f g h j k l a c e n)::(b,nO 0 0 0 0 0 (⟨#[]⟩:Bs) none 0 0 0)::(aC,nO ai aj ak al am an u w x ao)::F6) fun v I7 G5=>∃(az:OA) (aA aB:Nat),v=vl az aA aB∧∃F7:cR,List.Perm G5 ((o,nO f g h j k l a c e n)::(b,nO 0 0 0 0 0 (⟨#[]⟩:Bs) none 0 0 0)::(aC,nO ai aj ak al am an u w x ao)::F7)∧(∃m3:Nat,m3<m2∧Inv20 (wr (i+1)) f g h j k l az aA aB n m3 I7 F7)) (gO P 48 (#[vp (some p),vi (wr (d+1))]) I3 ((o,nO f g h j k l a c e n)::(b,nO 0 0 0 0 0 (⟨#[]⟩:Bs) none 0 0 0)::·) F4 fun e5 I8 G6=>∃(z aa ab ac ae:Int) (af:Bs) (q:OA) (s t:Nat) (ag:Int),e5=.returned (nV z aa ab ac ae af q s t ag)∧G6 fun F8=>∀av:Nat,∀(b2:Nat) (I9:cS),cS.le I8 I9→I9 b2=some (nO z aa ab ac ae af q s t ag)→dm P (Builtin.append_ #[62,62] 62 #[vl a c e,vl (some ⟨b2,0,none⟩) 1 1]) I9 ((o,nO f g h j k l a c e n)::(b,nO 0 0 0 0 0 (⟨#[]⟩:Bs) none 0 0 0)::(av,nO z aa ab ac ae af q s t ag)::F8) fun v1 I10 G7=>∃(aq:OA) (ar au:Nat),v1=vl aq ar au∧∃F9:cR,List.Perm G7 ((o,nO f g h j k l a c e n)::(b,nO 0 0 0 0 0 (⟨#[]⟩:Bs) none 0 0 0)::(av,nO z aa ab ac ae af q s t ag)::F9)∧(∃m4:Nat,m4<m2∧Inv20 (wr (i+1)) f g h j k l aq ar au n m4 I10 F9))) (eZ P 74 (#[vp (some p),.string (⟨#[41]⟩:Bs)]) I3 ((o,nO f g h j k l a c e n)::(b,nO 0 0 0 0 0 (⟨#[]⟩:Bs) none 0 0 0)::·) F4 vi fun r3 I11 F10=>Q (.returned (nV f g h j k l a c e n)) I11 F10))))
theorem fO.vc{p:Addr}{j r u v w:Int}{x:Bs}{e:OA}{g i:Nat}{y z d:Int}{I:cS}{F:cR}{Q:cT}(Inv20:Int→Int→Int→Int→Int→Int→Bs→OA→Nat→Nat→Int→Nat→cS→cR→Prop)(h:fO.V (fun b=>(b,Obj.cells #[.int .u8 j,.int .u8 r,.int .u8 u,.int .i64 v,.int .u8 w,.string x,.slice e g i,.int .i64 y] 64 (0,0))) (fun k o t n f s a l c q=>.agg #[.int .u8 k,.int .u8 o,.int .u8 t,.int .i64 n,.int .u8 f,.string s,.slice a l c,.int .i64 q]) (fun k o t n f s a l c q=>.cells #[.int .u8 k,.int .u8 o,.int .u8 t,.int .i64 n,.int .u8 f,.string s,.slice a l c,.int .i64 q] 64 (0,0)) (.int .i64) .slice .pointer (IntKind.wrap .i64) p j r u v w x e g i y z d I F Q Inv20):cU P 160 #[.pointer (some p),.agg #[.int .u8 j,.int .u8 r,.int .u8 u,.int .i64 v,.int .u8 w,.string x,.slice e g i,.int .i64 y],.int .i64 z,.int .i64 d] I F Q :=
 tw (A:=(dr [2001,7002,9001] [] [48,74,94] jK [(20,⟨[(10,(.int .i64))],[(0,[(.int .u8),(.int .u8),(.int .u8),(.int .i64),(.int .u8),.str,.slc,(.int .i64)])],fun _ _ _ vs m I F=>match vs with | [.int _ y0,.int _ y1,.int _ y2,.int _ y3,.int _ y4,.int _ y5,.string y6,.slice y7 y8 y9,.int _ y10]=>Inv20 y0 y1 y2 y3 y4 y5 y6 y7 y8 y9 y10 m I F | _=>False,[],[]⟩)] [12003] [] [] [] [] [])) [48,74,94] func160 h
def gB.V(ka:Nat→Int→Bs→Int→Int→Int→Nat×Obj)(nV:Int→Int→Int→Int→Int→Bs→OA→Nat→Nat→Int→Value)(nO:Int→Int→Int→Int→Int→Bs→OA→Nat→Nat→Int→Obj)(vb vi:Int→Value)(vs:Bs→Value)(vl:OA→Nat→Nat→Value)(vp:OA→Value)(p:Addr)(d:Int)(I:cS)(F:cR)(Q:cT)  : Prop:=∀b:Nat,gO P 109 (#[vp (some p)]) I ((b,nO 0 0 0 0 0 (⟨#[]⟩:Bs) none 0 0 0)::·) F fun e1 I1 G1=>∃(f g h i j:Int) (k:Bs) (a:OA) (c e:Nat) (l:Int) (r1:Bool),e1=.returned (.tuple #[nV f g h i j k a c e l,.bool r1])∧G1 fun F1=>∀s:Nat,(It r1 (Q (.returned (nV f g h i j k a c e l)) I1 F1) (gO P 95 (#[vp (some p)]) I1 ((b,nO 0 0 0 0 0 (⟨#[]⟩:Bs) none 0 0 0)::(s,nO f g h i j k a c e l)::·) F1 fun e2 I2 G2=>∃(o:Int) (q:Bs) (t u n:Int),e2=.returned (.agg #[vb o,vs q,vb t,vi u,vi n])∧G2 fun F2=>∀v:Nat,(It (o==2) (∃ad:Addr,some p=some ad∧∃(m:Int),Rd I2 ((b,nO 0 0 0 0 0 (⟨#[]⟩:Bs) none 0 0 0)::(s,nO f g h i j k a c e l)::(ka v o q t u n)::F2) (ad.add 3) [vi m]∧∃w:Addr,some p=some w∧∃(cs:List Value) (el:Nat) (F3:cR),List.Perm F2 (((w.add 3).block,Obj.cells cs.toArray el (0,0))::F3)∧(w.add 3).spot=none∧(w.add 3).off+1≤cs.length∧Q (.returned (nV 2 0 0 0 0 q none 0 0 n)) I2 ((((w.add 3).block,Obj.cells (c6 (w.add 3).off [vi (IntKind.wrap .i64 (m+1))] cs).toArray el (0,0))::F3))) (∀(b1:Nat) (I3:cS),cS.le I2 I3→I3 b1=some (Obj.cells #[vs (⟨#[98,105,100]⟩:Bs),vs (⟨#[97,115,107]⟩:Bs),vs (⟨#[108,97,115,116]⟩:Bs),vs (⟨#[118,111,108,117,109,101]⟩:Bs),vs (⟨#[110,111,119]⟩:Bs),vs (⟨#[111,112,101,110]⟩:Bs)] 9 (0,0))→eZ P 108 (#[vp (some p),vl (some ⟨b1,0,none⟩) 6 6]) I3 ((b,nO 0 0 0 0 0 (⟨#[]⟩:Bs) none 0 0 0)::(s,nO f g h i j k a c e l)::(ka v o q t u n)::·) F2 vi fun r I4 F4=>(Dt (r≥0) (∃aR:Addr,some p=some aR∧∃(m1:Int),Rd I4 ((b,nO 0 0 0 0 0 (⟨#[]⟩:Bs) none 0 0 0)::(s,nO f g h i j k a c e l)::(ka v o q t u n)::F4) (aR.add 3) [vi m1]∧∃x:Addr,some p=some x∧∃(al:List Value) (aO:Nat) (F5:cR),List.Perm F4 (((x.add 3).block,Obj.cells al.toArray aO (0,0))::F5)∧(x.add 3).spot=none∧(x.add 3).off+1≤al.length∧Q (.returned (.agg #[vb 3,vb 0,vb 0,vi 0,vb (IntKind.wrap .u8 (IntKind.wrap .i64 (r+1))),vs (⟨#[]⟩:Bs),vl none 0 0,vi n])) I4 ((((x.add 3).block,Obj.cells (c6 (x.add 3).off [vi (IntKind.wrap .i64 (m1+1))] al).toArray aO (0,0))::F5))) (∀(b2:Nat) (I5:cS),cS.le I4 I5→I5 b2=some (Obj.cells #[vs (⟨#[97,98,115]⟩:Bs),vs (⟨#[109,105,110]⟩:Bs),vs (⟨#[109,97,120]⟩:Bs)] 9 (0,0))→eZ P 108 (#[vp (some p),vl (some ⟨b2,0,none⟩) 3 3]) I5 ((b,nO 0 0 0 0 0 (⟨#[]⟩:Bs) none 0 0 0)::(s,nO f g h i j k a c e l)::(ka v o q t u n)::·) F4 vi fun r2 I6 F6=>(Dt (r2≥0) (It (r2==0) (gO P 160 (#[vp (some p),.agg #[vb 8,vb (IntKind.wrap .u8 (3+(IntKind.wrap .u8 r2))),vb 0,vi 0,vb 0,vs (⟨#[]⟩:Bs),vl none 0 0,vi n],vi 1,vi d]) I6 ((b,nO 0 0 0 0 0 (⟨#[]⟩:Bs) none 0 0 0)::(s,nO f g h i j k a c e l)::(ka v o q t u n)::·) F6 fun e5 I7 G5=>∃(am an ao ap aq:Int) (aP:Bs) (ai:OA) (aj ak:Nat) (aQ:Int),e5=.returned (nV am an ao ap aq aP ai aj ak aQ)∧G5 fun F7=>Q (.returned (nV am an ao ap aq aP ai aj ak aQ)) I7 F7) (gO P 160 (#[vp (some p),.agg #[vb 8,vb (IntKind.wrap .u8 (3+(IntKind.wrap .u8 r2))),vb 0,vi 0,vb 0,vs (⟨#[]⟩:Bs),vl none 0 0,vi n],vi 2,vi d]) I6 ((b,nO 0 0 0 0 0 (⟨#[]⟩:Bs) none 0 0 0)::(s,nO f g h i j k a c e l)::(ka v o q t u n)::·) F6 fun e6 I8 G6=>∃(ar au av aw ax:Int) (ay:Bs) (y:OA) (z aa:Nat) (az:Int),e6=.returned (nV ar au av aw ax ay y z aa az)∧G6 fun F8=>Q (.returned (nV ar au av aw ax ay y z aa az)) I8 F8)) (∀(b3:Nat) (I9:cS),cS.le I6 I9→I9 b3=some (Obj.cells #[vs (⟨#[105,110,116]⟩:Bs),vs (⟨#[113,116,121]⟩:Bs),vs (⟨#[112,114,105,99,101]⟩:Bs),vs (⟨#[116,105,109,101]⟩:Bs)] 9 (0,0))→eZ P 108 (#[vp (some p),vl (some ⟨b3,0,none⟩) 4 4]) I9 ((b,nO 0 0 0 0 0 (⟨#[]⟩:Bs) none 0 0 0)::(s,nO f g h i j k a c e l)::(ka v o q t u n)::·) F6 vi fun r3 I10 F9=>(Dt (r3≥0) (gO P 160 (#[vp (some p),.agg #[vb 9,vb 0,vb (IntKind.wrap .u8 (1+(IntKind.wrap .u8 r3))),vi 0,vb 0,vs (⟨#[]⟩:Bs),vl none 0 0,vi n],vi 1,vi d]) I10 ((b,nO 0 0 0 0 0 (⟨#[]⟩:Bs) none 0 0 0)::(s,nO f g h i j k a c e l)::(ka v o q t u n)::·) F9 fun e8 I11 G8=>∃(aA aB aC aD aE:Int) (aF:Bs) (ab:OA) (ac ae:Nat) (aG:Int),e8=.returned (nV aA aB aC aD aE aF ab ac ae aG)∧G8 fun F10=>Q (.returned (nV aA aB aC aD aE aF ab ac ae aG)) I11 F10) (gO P 161 (#[vp (some p),vi d]) I10 ((b,nO 0 0 0 0 0 (⟨#[]⟩:Bs) none 0 0 0)::(s,nO f g h i j k a c e l)::(ka v o q t u n)::·) F9 fun e9 I12 G9=>∃(aH aI aJ aK aL:Int) (aM:Bs) (af:OA) (ag ah:Nat) (aN:Int),e9=.returned (nV aH aI aJ aK aL aM af ag ah aN)∧G9 fun F11=>Q (.returned (nV aH aI aJ aK aL aM af ag ah aN)) I12 F11))))))))))
theorem gB.vc{p:Addr}{d:Int}{I:cS}{F:cR}{Q:cT}  (h:gB.V (fun W a b c d e=>(W,Obj.cells #[.int .u8 a,.string b,.int .u8 c,.int .i64 d,.int .i64 e] 76 (0,0))) (fun k o t n f s a l c q=>.agg #[.int .u8 k,.int .u8 o,.int .u8 t,.int .i64 n,.int .u8 f,.string s,.slice a l c,.int .i64 q]) (fun k o t n f s a l c q=>.cells #[.int .u8 k,.int .u8 o,.int .u8 t,.int .i64 n,.int .u8 f,.string s,.slice a l c,.int .i64 q] 64 (0,0)) (.int .u8) (.int .i64) .string .slice .pointer p d I F Q):cU P 159 #[.pointer (some p),.int .i64 d] I F Q :=
 tw (A:=(dr [2000,5002,9001,13001,15001,19001] [] [95,108,109,160,161] jK [] [8001,12001,18001] [] [] [] [] [])) [95,108,109,160,161] func159 h
def fP.V(nV:Int→Int→Int→Int→Int→Bs→OA→Nat→Nat→Int→Value)(nO:Int→Int→Int→Int→Int→Bs→OA→Nat→Nat→Int→Obj)(vb vi:Int→Value)(vs:Bs→Value)(vp:OA→Value)(wr:Int→Int)(p:Addr)(d:Int)(I:cS)(F:cR)(Q:cT)  : Prop:=∀b:Nat,gO P 95 (#[vp (some p)]) I ((b,nO 0 0 0 0 0 (⟨#[]⟩:Bs) none 0 0 0)::·) F fun e1 I1 G1=>∃(aa:Int) (ab:Bs) (ac ae u:Int),e1=.returned (.agg #[vb aa,vs ab,vb ac,vi ae,vi u])∧G1 fun F1=>eZ P 76 (#[vp (some p),vs (⟨#[104,97,115]⟩:Bs)]) I1 ((b,nO 0 0 0 0 0 (⟨#[]⟩:Bs) none 0 0 0)::·) F1 .bool fun r I2 F2=>(It r (∃ad:Addr,some p=some ad∧∃(m:Int),Rd I2 ((b,nO 0 0 0 0 0 (⟨#[]⟩:Bs) none 0 0 0)::F2) (ad.add 3) [vi m]∧∃f:Addr,some p=some f∧∃(cs:List Value) (el:Nat) (F3:cR),List.Perm F2 (((f.add 3).block,Obj.cells cs.toArray el (0,0))::F3)∧(f.add 3).spot=none∧(f.add 3).off+1≤cs.length∧∀(b1:Nat) (I3:cS),cS.le I2 I3→I3 b1=some (Obj.cells #[vs (⟨#[98,105,100]⟩:Bs),vs (⟨#[97,115,107]⟩:Bs),vs (⟨#[108,97,115,116]⟩:Bs)] 9 (0,0))→cU P 108 (#[vp (some p),.slice (some ⟨b1,0,none⟩) 3 3]) I3 ((b,nO 0 0 0 0 0 (⟨#[]⟩:Bs) none 0 0 0)::(((f.add 3).block,Obj.cells (c6 (f.add 3).off [vi (wr (m+1))] cs).toArray el (0,0))::F3)) fun e3 I4 G3=>∃(r1:Int),e3=.returned (vi r1)∧∃F4:cR,List.Perm G3 ((b,nO 0 0 0 0 0 (⟨#[]⟩:Bs) none 0 0 0)::F4)∧(Dt (r1<0) (gO P 81 (#[vp (some p),vi 130]) I4 ((b,nO 0 0 0 0 0 (⟨#[]⟩:Bs) none 0 0 0)::·) F4 fun e4 I5 G4=>e4=.returned (.tuple #[])∧G4 fun F5=>Q (.returned (nV 0 0 0 0 0 (⟨#[]⟩:Bs) none 0 0 0)) I5 F5) (∃x:Addr,some p=some x∧∃(m1:Int),Rd I4 ((b,nO 0 0 0 0 0 (⟨#[]⟩:Bs) none 0 0 0)::F4) (x.add 3) [vi m1]∧∃g:Addr,some p=some g∧∃(s:List Value) (v:Nat) (F6:cR),List.Perm F4 (((g.add 3).block,Obj.cells s.toArray v (0,0))::F6)∧(g.add 3).spot=none∧(g.add 3).off+1≤s.length∧Q (.returned (.agg #[vb 4,vb 0,vb 0,vi 0,vb (IntKind.wrap .u8 (wr (r1+1))),vs (⟨#[]⟩:Bs),.slice none 0 0,vi u])) I4 ((((g.add 3).block,Obj.cells (c6 (g.add 3).off [vi (wr (m1+1))] s).toArray v (0,0))::F6))))) (eZ P 76 (#[vp (some p),vs (⟨#[40]⟩:Bs)]) I2 ((b,nO 0 0 0 0 0 (⟨#[]⟩:Bs) none 0 0 0)::·) F2 .bool fun r2 I6 F7=>(It (!r2) (gO P 81 (#[vp (some p),vi 130]) I6 ((b,nO 0 0 0 0 0 (⟨#[]⟩:Bs) none 0 0 0)::·) F7 fun e6 I7 G6=>e6=.returned (.tuple #[])∧G6 fun F8=>Q (.returned (nV 0 0 0 0 0 (⟨#[]⟩:Bs) none 0 0 0)) I7 F8) (eZ P 94 (#[vp (some p),vi d]) I6 ((b,nO 0 0 0 0 0 (⟨#[]⟩:Bs) none 0 0 0)::·) F7 .bool fun r3 I8 F9=>(It (!r3) (Q (.returned (nV 0 0 0 0 0 (⟨#[]⟩:Bs) none 0 0 0)) I8 F9) (∃y:Addr,some p=some y∧∃(m2:Int),Rd I8 ((b,nO 0 0 0 0 0 (⟨#[]⟩:Bs) none 0 0 0)::F9) (y.add 3) [vi m2]∧∃h:Addr,some p=some h∧∃(t:List Value) (w:Nat) (F10:cR),List.Perm F9 (((h.add 3).block,Obj.cells t.toArray w (0,0))::F10)∧(h.add 3).spot=none∧(h.add 3).off+1≤t.length∧cU P 48 (#[vp (some p),vi (wr (d+1))]) I8 ((b,nO 0 0 0 0 0 (⟨#[]⟩:Bs) none 0 0 0)::(((h.add 3).block,Obj.cells (c6 (h.add 3).off [vi (wr (m2+1))] t).toArray w (0,0))::F10)) fun e8 I9 G8=>∃(i j k l n:Int) (o:Bs) (a:OA) (c e:Nat) (q:Int),e8=.returned (nV i j k l n o a c e q)∧∃F11:cR,List.Perm G8 ((b,nO 0 0 0 0 0 (⟨#[]⟩:Bs) none 0 0 0)::F11)∧∀z:Nat,eZ P 74 (#[vp (some p),vs (⟨#[41]⟩:Bs)]) I9 ((b,nO 0 0 0 0 0 (⟨#[]⟩:Bs) none 0 0 0)::(z,nO i j k l n o a c e q)::·) F11 vi fun r4 I10 F12=>Q (.returned (nV i j k l n o a c e q)) I10 F12))))))
theorem fP.vc{p:Addr}{d:Int}{I:cS}{F:cR}{Q:cT}  (h:fP.V (fun k o t n f s a l c q=>.agg #[.int .u8 k,.int .u8 o,.int .u8 t,.int .i64 n,.int .u8 f,.string s,.slice a l c,.int .i64 q]) (fun k o t n f s a l c q=>.cells #[.int .u8 k,.int .u8 o,.int .u8 t,.int .i64 n,.int .u8 f,.string s,.slice a l c,.int .i64 q] 64 (0,0)) (.int .u8) (.int .i64) .string .pointer (IntKind.wrap .i64) p d I F Q):cU P 161 #[.pointer (some p),.int .i64 d] I F Q :=
 tw (A:=(dr [3000,6001,12001,16001] [] [48,74,76,81,94,95,108] jK [] [5001] [] [] [] [] [])) [48,74,76,81,94,95,108] func161 h
def fu.V(ka:Nat→Int→Int→Int→Int→Int→Bs→OA→Nat→Nat→Int→Nat×Obj)(nV:Int→Int→Int→Int→Int→Bs→OA→Nat→Nat→Int→Value)(nO:Int→Int→Int→Int→Int→Bs→OA→Nat→Nat→Int→Obj)(vb vi:Int→Value)(vs:Bs→Value)(vl:OA→Nat→Nat→Value)(vp:OA→Value)(p:Addr)(d:Int)(I:cS)(F:cR)(Q:cT)  : Prop:=∀b:Nat,∀(b1:Nat) (I1:cS),cS.le I I1→I1 b1=some (Obj.cells #[vs (⟨#[45]⟩:Bs),vs (⟨#[33]⟩:Bs)] 9 (0,0))→eZ P 108 (#[vp (some p),vl (some ⟨b1,0,none⟩) 2 2]) I1 ((b,nO 0 0 0 0 0 (⟨#[]⟩:Bs) none 0 0 0)::·) F vi fun r I2 F1=>(Dt (r<0) (gO P 159 (#[vp (some p),vi d]) I2 ((b,nO 0 0 0 0 0 (⟨#[]⟩:Bs) none 0 0 0)::·) F1 fun e2 I3 G2=>∃(w x y z aa:Int) (ab:Bs) (s:OA) (t u:Nat) (ac:Int),e2=.returned (nV w x y z aa ab s t u ac)∧G2 fun F2=>Q (.returned (nV w x y z aa ab s t u ac)) I3 F2) (eZ P 94 (#[vp (some p),vi d]) I2 ((b,nO 0 0 0 0 0 (⟨#[]⟩:Bs) none 0 0 0)::·) F1 .bool fun r1 I4 F3=>(It (!r1) (Q (.returned (nV 0 0 0 0 0 (⟨#[]⟩:Bs) none 0 0 0)) I4 F3) (gO P 95 (#[vp (some p)]) I4 ((b,nO 0 0 0 0 0 (⟨#[]⟩:Bs) none 0 0 0)::·) F3 fun e4 I5 G4=>∃(ai:Int) (aj:Bs) (ak al a:Int),e4=.returned (.agg #[vb ai,vs aj,vb ak,vi al,vi a])∧G4 fun F4=>∀q:Nat,∃ad:Addr,some p=some ad∧∃(m:Int),Rd I5 ((b,nO 0 0 0 0 0 (⟨#[]⟩:Bs) none 0 0 0)::(ka q 5 (IntKind.wrap .u8 (1+(IntKind.wrap .u8 r))) 0 0 0 (⟨#[]⟩:Bs) none 0 0 a)::F4) (ad.add 3) [vi m]∧∃g:Addr,some p=some g∧∃(cs:List Value) (el:Nat) (F5:cR),List.Perm F4 (((g.add 3).block,Obj.cells cs.toArray el (0,0))::F5)∧(g.add 3).spot=none∧(g.add 3).off+1≤cs.length∧cU P 157 (#[vp (some p),vi (IntKind.wrap .i64 (d+1))]) I5 ((b,nO 0 0 0 0 0 (⟨#[]⟩:Bs) none 0 0 0)::(ka q 5 (IntKind.wrap .u8 (1+(IntKind.wrap .u8 r))) 0 0 0 (⟨#[]⟩:Bs) none 0 0 a)::(((g.add 3).block,Obj.cells (c6 (g.add 3).off [vi (IntKind.wrap .i64 (m+1))] cs).toArray el (0,0))::F5)) fun e5 I6 G5=>∃(h i j k l:Int) (n:Bs) (c:OA) (e f:Nat) (o:Int),e5=.returned (nV h i j k l n c e f o)∧∃F6:cR,List.Perm G5 ((b,nO 0 0 0 0 0 (⟨#[]⟩:Bs) none 0 0 0)::(ka q 5 (IntKind.wrap .u8 (1+(IntKind.wrap .u8 r))) 0 0 0 (⟨#[]⟩:Bs) none 0 0 a)::F6)∧∀ah:Nat,∀(b2:Nat) (I7:cS),cS.le I6 I7→I7 b2=some (nO h i j k l n c e f o)→dm P (Builtin.append_ #[62,62] 62 #[vl none 0 0,vl (some ⟨b2,0,none⟩) 1 1]) I7 ((b,nO 0 0 0 0 0 (⟨#[]⟩:Bs) none 0 0 0)::(ka q 5 (IntKind.wrap .u8 (1+(IntKind.wrap .u8 r))) 0 0 0 (⟨#[]⟩:Bs) none 0 0 a)::(ah,nO h i j k l n c e f o)::F6) fun v I8 G6=>∃(ae:OA) (af ag:Nat),v=vl ae af ag∧∃F7:cR,List.Perm G6 ((b,nO 0 0 0 0 0 (⟨#[]⟩:Bs) none 0 0 0)::(ka q 5 (IntKind.wrap .u8 (1+(IntKind.wrap .u8 r))) 0 0 0 (⟨#[]⟩:Bs) none 0 0 a)::(ah,nO h i j k l n c e f o)::F7)∧Q (.returned (.agg #[vb 5,vb (IntKind.wrap .u8 (1+(IntKind.wrap .u8 r))),vb 0,vi 0,vb 0,vs (⟨#[]⟩:Bs),vl ae af ag,vi a])) I8 F7))))
theorem fu.vc{p:Addr}{d:Int}{I:cS}{F:cR}{Q:cT}  (h:fu.V (fun W a b c d e f g h i j=>(W,Obj.cells #[.int .u8 a,.int .u8 b,.int .u8 c,.int .i64 d,.int .u8 e,.string f,.slice g h i,.int .i64 j] 64 (0,0))) (fun k o t n f s a l c q=>.agg #[.int .u8 k,.int .u8 o,.int .u8 t,.int .i64 n,.int .u8 f,.string s,.slice a l c,.int .i64 q]) (fun k o t n f s a l c q=>.cells #[.int .u8 k,.int .u8 o,.int .u8 t,.int .i64 n,.int .u8 f,.string s,.slice a l c,.int .i64 q] 64 (0,0)) (.int .u8) (.int .i64) .string .slice .pointer p d I F Q):cU P 157 #[.pointer (some p),.int .i64 d] I F Q :=
 tw (A:=(dr [2001,5001] [] [94,95,108,157,159] jK [] [1001,10003] [] [] [] [] [])) [94,95,108,157,159] func157 h
def eQ.V(nV:Int→Int→Int→Int→Int→Bs→OA→Nat→Nat→Int→Value)(nO:Int→Int→Int→Int→Int→Bs→OA→Nat→Nat→Int→Obj)(vi:Int→Value)(vs:Bs→Value)(vp:OA→Value)(p:Addr)(d:Int)(I:cS)(F:cR)(Q:cT)(Inv5:Int→Int→Int→Int→Int→Bs→OA→Nat→Nat→Int→Int→Int→Int→Int→Int→Bs→OA→Nat→Nat→Int→Nat→cS→cR→Prop):Prop:=∀b:Nat,gO P 157 (#[vp (some p),vi d]) I ((b,nO 0 0 0 0 0 (⟨#[]⟩:Bs) none 0 0 0)::·) F fun e1 I1 G1=>∃(aC aD aE aF aG:Int) (aH:Bs) (ap:OA) (aq ar:Nat) (aI:Int),e1=.returned (nV aC aD aE aF aG aH ap aq ar aI)∧G1 fun F1=>∀ac:Nat,(∃m:Nat,Inv5 0 0 0 0 0 (⟨#[]⟩:Bs) none 0 0 0 aC aD aE aF aG aH ap aq ar aI m I1 F1)∧∀(s t u v w:Int) (x:Bs) (n:OA) (o q:Nat) (y f g h i j:Int) (k:Bs) (a:OA) (c e:Nat) (l:Int) (m1:Nat) (I2:cS) (F2:cR),cS.le I1 I2→Inv5 s t u v w x n o q y f g h i j k a c e l m1 I2 F2→∀(b1:Nat) (I3:cS),cS.le I2 I3→I3 b1=some (Obj.cells #[vs (⟨#[42]⟩:Bs),vs (⟨#[47]⟩:Bs),vs (⟨#[37]⟩:Bs)] 9 (0,0))→eZ P 108 (#[vp (some p),.slice (some ⟨b1,0,none⟩) 3 3]) I3 ((b,nO s t u v w x n o q y)::(ac,nO f g h i j k a c e l)::·) F2 vi fun r I4 F3=>(Dt (r<0) (Q (.returned (nV f g h i j k a c e l)) I4 F3) (gO P 95 (#[vp (some p)]) I4 ((b,nO s t u v w x n o q y)::(ac,nO f g h i j k a c e l)::·) F3 fun e3 I5 G3=>∃(aK:Int) (aL:Bs) (aM aN au:Int),e3=.returned (.agg #[.int .u8 aK,vs aL,.int .u8 aM,vi aN,vi au])∧G3 fun F4=>∃ad:Addr,some p=some ad∧∃(m2:Int),Rd I5 ((b,nO s t u v w x n o q y)::(ac,nO f g h i j k a c e l)::F4) (ad.add 3) [vi m2]∧∃ae:Addr,some p=some ae∧∃(cs:List Value) (el:Nat) (F5:cR),List.Perm F4 (((ae.add 3).block,Obj.cells cs.toArray el (0,0))::F5)∧(ae.add 3).spot=none∧(ae.add 3).off+1≤cs.length∧cU P 157 (#[vp (some p),vi d]) I5 ((b,nO s t u v w x n o q y)::(ac,nO f g h i j k a c e l)::(((ae.add 3).block,Obj.cells (c6 (ae.add 3).off [vi (IntKind.wrap .i64 (m2+1))] cs).toArray el (0,0))::F5)) fun e4 I6 G4=>∃(af ag ah ai aj:Int) (ak:Bs) (z:OA) (aa ab:Nat) (al:Int),e4=.returned (nV af ag ah ai aj ak z aa ab al)∧∃F6:cR,List.Perm G4 ((b,nO s t u v w x n o q y)::(ac,nO f g h i j k a c e l)::F6)∧∀aJ:Nat,gO P 117 (#[.int .u8 (IntKind.wrap .u8 (8+(IntKind.wrap .u8 r))),vi au,nV f g h i j k a c e l,nV af ag ah ai aj ak z aa ab al]) I6 ((b,nO s t u v w x n o q y)::(ac,nO f g h i j k a c e l)::(aJ,nO af ag ah ai aj ak z aa ab al)::·) F6 fun e5 I7 G5=>∃(av aw ax ay az:Int) (aA:Bs) (am:OA) (an ao:Nat) (aB:Int),e5=.returned (nV av aw ax ay az aA am an ao aB)∧G5 fun F7=>(∃m3:Nat,m3<m1∧Inv5 s t u v w x n o q y av aw ax ay az aA am an ao aB m3 I7 F7)))
theorem eQ.vc{p:Addr}{d:Int}{I:cS}{F:cR}{Q:cT}(Inv5:Int→Int→Int→Int→Int→Bs→OA→Nat→Nat→Int→Int→Int→Int→Int→Int→Bs→OA→Nat→Nat→Int→Nat→cS→cR→Prop)(h:eQ.V (fun k o t n f s a l c q=>.agg #[.int .u8 k,.int .u8 o,.int .u8 t,.int .i64 n,.int .u8 f,.string s,.slice a l c,.int .i64 q]) (fun k o t n f s a l c q=>.cells #[.int .u8 k,.int .u8 o,.int .u8 t,.int .i64 n,.int .u8 f,.string s,.slice a l c,.int .i64 q] 64 (0,0)) (.int .i64) .string .pointer p d I F Q Inv5):cU P 152 #[.pointer (some p),.int .i64 d] I F Q :=
 tw (A:=(dr [3001] [] [95,108,117,157] jK [(5,⟨[],[(0,[(.int .u8),(.int .u8),(.int .u8),(.int .i64),(.int .u8),.str,.slc,(.int .i64)]),(1,[(.int .u8),(.int .u8),(.int .u8),(.int .i64),(.int .u8),.str,.slc,(.int .i64)])],fun _ _ _ vs m I F=>match vs with | [.int _ y0,.int _ y1,.int _ y2,.int _ y3,.int _ y4,.string y5,.slice y6 y7 y8,.int _ y9,.int _ y10,.int _ y11,.int _ y12,.int _ y13,.int _ y14,.string y15,.slice y16 y17 y18,.int _ y19]=>Inv5 y0 y1 y2 y3 y4 y5 y6 y7 y8 y9 y10 y11 y12 y13 y14 y15 y16 y17 y18 y19 m I F | _=>False,[],[]⟩)] [2001] [] [] [] [] [])) [95,108,117,157] func152 h
def gC.V(nV:Int→Int→Int→Int→Int→Bs→OA→Nat→Nat→Int→Value)(nO:Int→Int→Int→Int→Int→Bs→OA→Nat→Nat→Int→Obj)(vi:Int→Value)(vp:OA→Value)(p:Addr)(d:Int)(I:cS)(F:cR)(Q:cT)(Inv5:Int→Int→Int→Int→Int→Bs→OA→Nat→Nat→Int→Int→Int→Int→Int→Int→Bs→OA→Nat→Nat→Int→Nat→cS→cR→Prop):Prop:=∀b:Nat,gO P 152 (#[vp (some p),vi d]) I ((b,nO 0 0 0 0 0 (⟨#[]⟩:Bs) none 0 0 0)::·) F fun e1 I1 G1=>∃(aC aD aE aF aG:Int) (aH:Bs) (ap:OA) (aq ar:Nat) (aI:Int),e1=.returned (nV aC aD aE aF aG aH ap aq ar aI)∧G1 fun F1=>∀ac:Nat,(∃m:Nat,Inv5 0 0 0 0 0 (⟨#[]⟩:Bs) none 0 0 0 aC aD aE aF aG aH ap aq ar aI m I1 F1)∧∀(s t u v w:Int) (x:Bs) (n:OA) (o q:Nat) (y f g h i j:Int) (k:Bs) (a:OA) (c e:Nat) (l:Int) (m1:Nat) (I2:cS) (F2:cR),cS.le I1 I2→Inv5 s t u v w x n o q y f g h i j k a c e l m1 I2 F2→∀(b1:Nat) (I3:cS),cS.le I2 I3→I3 b1=some (Obj.cells #[.string (⟨#[43]⟩:Bs),.string (⟨#[45]⟩:Bs)] 9 (0,0))→eZ P 108 (#[vp (some p),.slice (some ⟨b1,0,none⟩) 2 2]) I3 ((b,nO s t u v w x n o q y)::(ac,nO f g h i j k a c e l)::·) F2 vi fun r I4 F3=>(Dt (r<0) (Q (.returned (nV f g h i j k a c e l)) I4 F3) (gO P 95 (#[vp (some p)]) I4 ((b,nO s t u v w x n o q y)::(ac,nO f g h i j k a c e l)::·) F3 fun e3 I5 G3=>∃(aK:Int) (aL:Bs) (aM aN au:Int),e3=.returned (.agg #[.int .u8 aK,.string aL,.int .u8 aM,vi aN,vi au])∧G3 fun F4=>∃ad:Addr,some p=some ad∧∃(m2:Int),Rd I5 ((b,nO s t u v w x n o q y)::(ac,nO f g h i j k a c e l)::F4) (ad.add 3) [vi m2]∧∃ae:Addr,some p=some ae∧∃(cs:List Value) (el:Nat) (F5:cR),List.Perm F4 (((ae.add 3).block,Obj.cells cs.toArray el (0,0))::F5)∧(ae.add 3).spot=none∧(ae.add 3).off+1≤cs.length∧cU P 152 (#[vp (some p),vi d]) I5 ((b,nO s t u v w x n o q y)::(ac,nO f g h i j k a c e l)::(((ae.add 3).block,Obj.cells (c6 (ae.add 3).off [vi (IntKind.wrap .i64 (m2+1))] cs).toArray el (0,0))::F5)) fun e4 I6 G4=>∃(af ag ah ai aj:Int) (ak:Bs) (z:OA) (aa ab:Nat) (al:Int),e4=.returned (nV af ag ah ai aj ak z aa ab al)∧∃F6:cR,List.Perm G4 ((b,nO s t u v w x n o q y)::(ac,nO f g h i j k a c e l)::F6)∧∀aJ:Nat,gO P 117 (#[.int .u8 (IntKind.wrap .u8 (6+(IntKind.wrap .u8 r))),vi au,nV f g h i j k a c e l,nV af ag ah ai aj ak z aa ab al]) I6 ((b,nO s t u v w x n o q y)::(ac,nO f g h i j k a c e l)::(aJ,nO af ag ah ai aj ak z aa ab al)::·) F6 fun e5 I7 G5=>∃(av aw ax ay az:Int) (aA:Bs) (am:OA) (an ao:Nat) (aB:Int),e5=.returned (nV av aw ax ay az aA am an ao aB)∧G5 fun F7=>(∃m3:Nat,m3<m1∧Inv5 s t u v w x n o q y av aw ax ay az aA am an ao aB m3 I7 F7)))
theorem gC.vc{p:Addr}{d:Int}{I:cS}{F:cR}{Q:cT}(Inv5:Int→Int→Int→Int→Int→Bs→OA→Nat→Nat→Int→Int→Int→Int→Int→Int→Bs→OA→Nat→Nat→Int→Nat→cS→cR→Prop)(h:gC.V (fun k o t n f s a l c q=>.agg #[.int .u8 k,.int .u8 o,.int .u8 t,.int .i64 n,.int .u8 f,.string s,.slice a l c,.int .i64 q]) (fun k o t n f s a l c q=>.cells #[.int .u8 k,.int .u8 o,.int .u8 t,.int .i64 n,.int .u8 f,.string s,.slice a l c,.int .i64 q] 64 (0,0)) (.int .i64) .pointer p d I F Q Inv5):cU P 144 #[.pointer (some p),.int .i64 d] I F Q :=
 tw (A:=(dr [3001] [] [95,108,117,152] jK [(5,⟨[],[(0,[(.int .u8),(.int .u8),(.int .u8),(.int .i64),(.int .u8),.str,.slc,(.int .i64)]),(1,[(.int .u8),(.int .u8),(.int .u8),(.int .i64),(.int .u8),.str,.slc,(.int .i64)])],fun _ _ _ vs m I F=>match vs with | [.int _ y0,.int _ y1,.int _ y2,.int _ y3,.int _ y4,.string y5,.slice y6 y7 y8,.int _ y9,.int _ y10,.int _ y11,.int _ y12,.int _ y13,.int _ y14,.string y15,.slice y16 y17 y18,.int _ y19]=>Inv5 y0 y1 y2 y3 y4 y5 y6 y7 y8 y9 y10 y11 y12 y13 y14 y15 y16 y17 y18 y19 m I F | _=>False,[],[]⟩)] [2001] [] [] [] [] [])) [95,108,117,152] func144 h
def eR.V(nV:Int→Int→Int→Int→Int→Bs→OA→Nat→Nat→Int→Value)(nO:Int→Int→Int→Int→Int→Bs→OA→Nat→Nat→Int→Obj)(vi:Int→Value)(vs:Bs→Value)(vp:OA→Value)(p:Addr)(d:Int)(I:cS)(F:cR)(Q:cT)  : Prop:=∀b:Nat,gO P 144 (#[vp (some p),vi d]) I ((b,nO 0 0 0 0 0 (⟨#[]⟩:Bs) none 0 0 0)::·) F fun e1 I1 G1=>∃(f g h i j:Int) (k:Bs) (a:OA) (c e:Nat) (l:Int),e1=.returned (nV f g h i j k a c e l)∧G1 fun F1=>∀s:Nat,∀(b1:Nat) (I2:cS),cS.le I1 I2→I2 b1=some (Obj.cells #[vs (⟨#[61,61]⟩:Bs),vs (⟨#[33,61]⟩:Bs),vs (⟨#[60]⟩:Bs),vs (⟨#[60,61]⟩:Bs),vs (⟨#[62]⟩:Bs),vs (⟨#[62,61]⟩:Bs)] 9 (0,0))→eZ P 108 (#[vp (some p),.slice (some ⟨b1,0,none⟩) 6 6]) I2 ((b,nO 0 0 0 0 0 (⟨#[]⟩:Bs) none 0 0 0)::(s,nO f g h i j k a c e l)::·) F1 vi fun r I3 F2=>(Dt (r<0) (Q (.returned (nV f g h i j k a c e l)) I3 F2) (gO P 95 (#[vp (some p)]) I3 ((b,nO 0 0 0 0 0 (⟨#[]⟩:Bs) none 0 0 0)::(s,nO f g h i j k a c e l)::·) F2 fun e3 I4 G3=>∃(ao:Int) (ap:Bs) (aq ar af:Int),e3=.returned (.agg #[.int .u8 ao,vs ap,.int .u8 aq,vi ar,vi af])∧G3 fun F3=>∃ad:Addr,some p=some ad∧∃(m:Int),Rd I4 ((b,nO 0 0 0 0 0 (⟨#[]⟩:Bs) none 0 0 0)::(s,nO f g h i j k a c e l)::F3) (ad.add 3) [vi m]∧∃t:Addr,some p=some t∧∃(cs:List Value) (el:Nat) (F4:cR),List.Perm F3 (((t.add 3).block,Obj.cells cs.toArray el (0,0))::F4)∧(t.add 3).spot=none∧(t.add 3).off+1≤cs.length∧cU P 144 (#[vp (some p),vi d]) I4 ((b,nO 0 0 0 0 0 (⟨#[]⟩:Bs) none 0 0 0)::(s,nO f g h i j k a c e l)::(((t.add 3).block,Obj.cells (c6 (t.add 3).off [vi (IntKind.wrap .i64 (m+1))] cs).toArray el (0,0))::F4)) fun e4 I5 G4=>∃(u v w x y:Int) (z:Bs) (n:OA) (o q:Nat) (aa:Int),e4=.returned (nV u v w x y z n o q aa)∧∃F5:cR,List.Perm G4 ((b,nO 0 0 0 0 0 (⟨#[]⟩:Bs) none 0 0 0)::(s,nO f g h i j k a c e l)::F5)∧∀an:Nat,gO P 117 (#[.int .u8 (IntKind.wrap .u8 (11+(IntKind.wrap .u8 r))),vi af,nV f g h i j k a c e l,nV u v w x y z n o q aa]) I5 ((b,nO 0 0 0 0 0 (⟨#[]⟩:Bs) none 0 0 0)::(s,nO f g h i j k a c e l)::(an,nO u v w x y z n o q aa)::·) F5 fun e5 I6 G5=>∃(ag ah ai aj ak:Int) (al:Bs) (ab:OA) (ac ae:Nat) (am:Int),e5=.returned (nV ag ah ai aj ak al ab ac ae am)∧G5 fun F6=>Q (.returned (nV ag ah ai aj ak al ab ac ae am)) I6 F6))
theorem eR.vc{p:Addr}{d:Int}{I:cS}{F:cR}{Q:cT}  (h:eR.V (fun k o t n f s a l c q=>.agg #[.int .u8 k,.int .u8 o,.int .u8 t,.int .i64 n,.int .u8 f,.string s,.slice a l c,.int .i64 q]) (fun k o t n f s a l c q=>.cells #[.int .u8 k,.int .u8 o,.int .u8 t,.int .i64 n,.int .u8 f,.string s,.slice a l c,.int .i64 q] 64 (0,0)) (.int .i64) .string .pointer p d I F Q):cU P 129 #[.pointer (some p),.int .i64 d] I F Q :=
 tw (A:=(dr [3001] [] [95,108,117,144] jK [] [2001] [] [] [] [] [])) [95,108,117,144] func129 h
def gD.V(nV:Int→Int→Int→Int→Int→Bs→OA→Nat→Nat→Int→Value)(nO:Int→Int→Int→Int→Int→Bs→OA→Nat→Nat→Int→Obj)(vi:Int→Value)(vp:OA→Value)(p:Addr)(d:Int)(I:cS)(F:cR)(Q:cT)(Inv5:Int→Int→Int→Int→Int→Bs→OA→Nat→Nat→Int→Int→Int→Int→Int→Int→Bs→OA→Nat→Nat→Int→Nat→cS→cR→Prop):Prop:=∀b:Nat,gO P 129 (#[vp (some p),vi d]) I ((b,nO 0 0 0 0 0 (⟨#[]⟩:Bs) none 0 0 0)::·) F fun e1 I1 G1=>∃(aC aD aE aF aG:Int) (aH:Bs) (ap:OA) (aq ar:Nat) (aI:Int),e1=.returned (nV aC aD aE aF aG aH ap aq ar aI)∧G1 fun F1=>∀ac:Nat,(∃m:Nat,Inv5 0 0 0 0 0 (⟨#[]⟩:Bs) none 0 0 0 aC aD aE aF aG aH ap aq ar aI m I1 F1)∧∀(s t u v w:Int) (x:Bs) (n:OA) (o q:Nat) (y f g h i j:Int) (k:Bs) (a:OA) (c e:Nat) (l:Int) (m1:Nat) (I2:cS) (F2:cR),cS.le I1 I2→Inv5 s t u v w x n o q y f g h i j k a c e l m1 I2 F2→eZ P 76 (#[vp (some p),.string (⟨#[38,38]⟩:Bs)]) I2 ((b,nO s t u v w x n o q y)::(ac,nO f g h i j k a c e l)::·) F2 .bool fun r I3 F3=>(It (!r) (Q (.returned (nV f g h i j k a c e l)) I3 F3) (gO P 95 (#[vp (some p)]) I3 ((b,nO s t u v w x n o q y)::(ac,nO f g h i j k a c e l)::·) F3 fun e3 I4 G3=>∃(aK:Int) (aL:Bs) (aM aN au:Int),e3=.returned (.agg #[.int .u8 aK,.string aL,.int .u8 aM,vi aN,vi au])∧G3 fun F4=>∃ad:Addr,some p=some ad∧∃(m2:Int),Rd I4 ((b,nO s t u v w x n o q y)::(ac,nO f g h i j k a c e l)::F4) (ad.add 3) [vi m2]∧∃ae:Addr,some p=some ae∧∃(cs:List Value) (el:Nat) (F5:cR),List.Perm F4 (((ae.add 3).block,Obj.cells cs.toArray el (0,0))::F5)∧(ae.add 3).spot=none∧(ae.add 3).off+1≤cs.length∧cU P 129 (#[vp (some p),vi d]) I4 ((b,nO s t u v w x n o q y)::(ac,nO f g h i j k a c e l)::(((ae.add 3).block,Obj.cells (c6 (ae.add 3).off [vi (IntKind.wrap .i64 (m2+1))] cs).toArray el (0,0))::F5)) fun e4 I5 G4=>∃(af ag ah ai aj:Int) (ak:Bs) (z:OA) (aa ab:Nat) (al:Int),e4=.returned (nV af ag ah ai aj ak z aa ab al)∧∃F6:cR,List.Perm G4 ((b,nO s t u v w x n o q y)::(ac,nO f g h i j k a c e l)::F6)∧∀aJ:Nat,gO P 117 #[.int .u8 17,vi au,nV f g h i j k a c e l,nV af ag ah ai aj ak z aa ab al] I5 ((b,nO s t u v w x n o q y)::(ac,nO f g h i j k a c e l)::(aJ,nO af ag ah ai aj ak z aa ab al)::·) F6 fun e5 I6 G5=>∃(av aw ax ay az:Int) (aA:Bs) (am:OA) (an ao:Nat) (aB:Int),e5=.returned (nV av aw ax ay az aA am an ao aB)∧G5 fun F7=>(∃m3:Nat,m3<m1∧Inv5 s t u v w x n o q y av aw ax ay az aA am an ao aB m3 I6 F7)))
theorem gD.vc{p:Addr}{d:Int}{I:cS}{F:cR}{Q:cT}(Inv5:Int→Int→Int→Int→Int→Bs→OA→Nat→Nat→Int→Int→Int→Int→Int→Int→Bs→OA→Nat→Nat→Int→Nat→cS→cR→Prop)(h:gD.V (fun k o t n f s a l c q=>.agg #[.int .u8 k,.int .u8 o,.int .u8 t,.int .i64 n,.int .u8 f,.string s,.slice a l c,.int .i64 q]) (fun k o t n f s a l c q=>.cells #[.int .u8 k,.int .u8 o,.int .u8 t,.int .i64 n,.int .u8 f,.string s,.slice a l c,.int .i64 q] 64 (0,0)) (.int .i64) .pointer p d I F Q Inv5):cU P 116 #[.pointer (some p),.int .i64 d] I F Q :=
 tw (A:=(dr [3001] [] [76,95,117,129] jK [(5,⟨[],[(0,[(.int .u8),(.int .u8),(.int .u8),(.int .i64),(.int .u8),.str,.slc,(.int .i64)]),(1,[(.int .u8),(.int .u8),(.int .u8),(.int .i64),(.int .u8),.str,.slc,(.int .i64)])],fun _ _ _ vs m I F=>match vs with | [.int _ y0,.int _ y1,.int _ y2,.int _ y3,.int _ y4,.string y5,.slice y6 y7 y8,.int _ y9,.int _ y10,.int _ y11,.int _ y12,.int _ y13,.int _ y14,.string y15,.slice y16 y17 y18,.int _ y19]=>Inv5 y0 y1 y2 y3 y4 y5 y6 y7 y8 y9 y10 y11 y12 y13 y14 y15 y16 y17 y18 y19 m I F | _=>False,[],[]⟩)] [] [] [] [] [] [])) [76,95,117,129] func116 h
def g8.V(nV:Int→Int→Int→Int→Int→Bs→OA→Nat→Nat→Int→Value)(nO:Int→Int→Int→Int→Int→Bs→OA→Nat→Nat→Int→Obj)(vi:Int→Value)(vp:OA→Value)(p:Addr)(d:Int)(I:cS)(F:cR)(Q:cT)(Inv5:Int→Int→Int→Int→Int→Bs→OA→Nat→Nat→Int→Int→Int→Int→Int→Int→Bs→OA→Nat→Nat→Int→Nat→cS→cR→Prop):Prop:=∀b:Nat,gO P 116 (#[vp (some p),vi d]) I ((b,nO 0 0 0 0 0 (⟨#[]⟩:Bs) none 0 0 0)::·) F fun e1 I1 G1=>∃(aC aD aE aF aG:Int) (aH:Bs) (ap:OA) (aq ar:Nat) (aI:Int),e1=.returned (nV aC aD aE aF aG aH ap aq ar aI)∧G1 fun F1=>∀ac:Nat,(∃m:Nat,Inv5 0 0 0 0 0 (⟨#[]⟩:Bs) none 0 0 0 aC aD aE aF aG aH ap aq ar aI m I1 F1)∧∀(s t u v w:Int) (x:Bs) (n:OA) (o q:Nat) (y f g h i j:Int) (k:Bs) (a:OA) (c e:Nat) (l:Int) (m1:Nat) (I2:cS) (F2:cR),cS.le I1 I2→Inv5 s t u v w x n o q y f g h i j k a c e l m1 I2 F2→eZ P 76 (#[vp (some p),.string (⟨#[124,124]⟩:Bs)]) I2 ((b,nO s t u v w x n o q y)::(ac,nO f g h i j k a c e l)::·) F2 .bool fun r I3 F3=>(It (!r) (Q (.returned (nV f g h i j k a c e l)) I3 F3) (gO P 95 (#[vp (some p)]) I3 ((b,nO s t u v w x n o q y)::(ac,nO f g h i j k a c e l)::·) F3 fun e3 I4 G3=>∃(aK:Int) (aL:Bs) (aM aN au:Int),e3=.returned (.agg #[.int .u8 aK,.string aL,.int .u8 aM,vi aN,vi au])∧G3 fun F4=>∃ad:Addr,some p=some ad∧∃(m2:Int),Rd I4 ((b,nO s t u v w x n o q y)::(ac,nO f g h i j k a c e l)::F4) (ad.add 3) [vi m2]∧∃ae:Addr,some p=some ae∧∃(cs:List Value) (el:Nat) (F5:cR),List.Perm F4 (((ae.add 3).block,Obj.cells cs.toArray el (0,0))::F5)∧(ae.add 3).spot=none∧(ae.add 3).off+1≤cs.length∧cU P 116 (#[vp (some p),vi d]) I4 ((b,nO s t u v w x n o q y)::(ac,nO f g h i j k a c e l)::(((ae.add 3).block,Obj.cells (c6 (ae.add 3).off [vi (IntKind.wrap .i64 (m2+1))] cs).toArray el (0,0))::F5)) fun e4 I5 G4=>∃(af ag ah ai aj:Int) (ak:Bs) (z:OA) (aa ab:Nat) (al:Int),e4=.returned (nV af ag ah ai aj ak z aa ab al)∧∃F6:cR,List.Perm G4 ((b,nO s t u v w x n o q y)::(ac,nO f g h i j k a c e l)::F6)∧∀aJ:Nat,gO P 117 #[.int .u8 18,vi au,nV f g h i j k a c e l,nV af ag ah ai aj ak z aa ab al] I5 ((b,nO s t u v w x n o q y)::(ac,nO f g h i j k a c e l)::(aJ,nO af ag ah ai aj ak z aa ab al)::·) F6 fun e5 I6 G5=>∃(av aw ax ay az:Int) (aA:Bs) (am:OA) (an ao:Nat) (aB:Int),e5=.returned (nV av aw ax ay az aA am an ao aB)∧G5 fun F7=>(∃m3:Nat,m3<m1∧Inv5 s t u v w x n o q y av aw ax ay az aA am an ao aB m3 I6 F7)))
theorem g8.vc{p:Addr}{d:Int}{I:cS}{F:cR}{Q:cT}(Inv5:Int→Int→Int→Int→Int→Bs→OA→Nat→Nat→Int→Int→Int→Int→Int→Int→Bs→OA→Nat→Nat→Int→Nat→cS→cR→Prop)(h:g8.V (fun k o t n f s a l c q=>.agg #[.int .u8 k,.int .u8 o,.int .u8 t,.int .i64 n,.int .u8 f,.string s,.slice a l c,.int .i64 q]) (fun k o t n f s a l c q=>.cells #[.int .u8 k,.int .u8 o,.int .u8 t,.int .i64 n,.int .u8 f,.string s,.slice a l c,.int .i64 q] 64 (0,0)) (.int .i64) .pointer p d I F Q Inv5):cU P 93 #[.pointer (some p),.int .i64 d] I F Q :=
 tw (A:=(dr [3001] [] [76,95,116,117] jK [(5,⟨[],[(0,[(.int .u8),(.int .u8),(.int .u8),(.int .i64),(.int .u8),.str,.slc,(.int .i64)]),(1,[(.int .u8),(.int .u8),(.int .u8),(.int .i64),(.int .u8),.str,.slc,(.int .i64)])],fun _ _ _ vs m I F=>match vs with | [.int _ y0,.int _ y1,.int _ y2,.int _ y3,.int _ y4,.string y5,.slice y6 y7 y8,.int _ y9,.int _ y10,.int _ y11,.int _ y12,.int _ y13,.int _ y14,.string y15,.slice y16 y17 y18,.int _ y19]=>Inv5 y0 y1 y2 y3 y4 y5 y6 y7 y8 y9 y10 y11 y12 y13 y14 y15 y16 y17 y18 y19 m I F | _=>False,[],[]⟩)] [] [] [] [] [] [])) [76,95,116,117] func93 h
def fQ.V(nV:Int→Int→Int→Int→Int→Bs→OA→Nat→Nat→Int→Value)(nO:Int→Int→Int→Int→Int→Bs→OA→Nat→Nat→Int→Obj)(vb vi:Int→Value)(vs:Bs→Value)(vp:OA→Value)(p:Addr)(d:Int)(I:cS)(F:cR)(Q:cT)  : Prop:=∀b:Nat,gO P 93 (#[vp (some p),vi d]) I ((b,nO 0 0 0 0 0 (⟨#[]⟩:Bs) none 0 0 0)::·) F fun e1 I1 G1=>∃(f g h i j:Int) (k:Bs) (a:OA) (c e:Nat) (l:Int),e1=.returned (nV f g h i j k a c e l)∧G1 fun F1=>∀s:Nat,eZ P 76 (#[vp (some p),vs (⟨#[63]⟩:Bs)]) I1 ((b,nO 0 0 0 0 0 (⟨#[]⟩:Bs) none 0 0 0)::(s,nO f g h i j k a c e l)::·) F1 .bool fun r I2 F2=>(It (!r) (Q (.returned (nV f g h i j k a c e l)) I2 F2) (eZ P 94 (#[vp (some p),vi d]) I2 ((b,nO 0 0 0 0 0 (⟨#[]⟩:Bs) none 0 0 0)::(s,nO f g h i j k a c e l)::·) F2 .bool fun r1 I3 F3=>(It (!r1) (Q (.returned (nV 0 0 0 0 0 (⟨#[]⟩:Bs) none 0 0 0)) I3 F3) (gO P 95 (#[vp (some p)]) I3 ((b,nO 0 0 0 0 0 (⟨#[]⟩:Bs) none 0 0 0)::(s,nO f g h i j k a c e l)::·) F3 fun e4 I4 G4=>∃(ao:Int) (ap:Bs) (aq ar ag:Int),e4=.returned (.agg #[vb ao,vs ap,vb aq,vi ar,vi ag])∧G4 fun F4=>∃ad:Addr,some p=some ad∧∃(m:Int),Rd I4 ((b,nO 0 0 0 0 0 (⟨#[]⟩:Bs) none 0 0 0)::(s,nO f g h i j k a c e l)::F4) (ad.add 3) [vi m]∧∃aa:Addr,some p=some aa∧∃(cs:List Value) (el:Nat) (F5:cR),List.Perm F4 (((aa.add 3).block,Obj.cells cs.toArray el (0,0))::F5)∧(aa.add 3).spot=none∧(aa.add 3).off+1≤cs.length∧cU P 48 (#[vp (some p),vi (IntKind.wrap .i64 (d+1))]) I4 ((b,nO 0 0 0 0 0 (⟨#[]⟩:Bs) none 0 0 0)::(s,nO f g h i j k a c e l)::(((aa.add 3).block,Obj.cells (c6 (aa.add 3).off [vi (IntKind.wrap .i64 (m+1))] cs).toArray el (0,0))::F5)) fun e5 I5 G5=>∃(t u v w x:Int) (y:Bs) (n:OA) (o q:Nat) (z:Int),e5=.returned (nV t u v w x y n o q z)∧∃F6:cR,List.Perm G5 ((b,nO 0 0 0 0 0 (⟨#[]⟩:Bs) none 0 0 0)::(s,nO f g h i j k a c e l)::F6)∧∀af:Nat,eZ P 74 (#[vp (some p),vs (⟨#[58]⟩:Bs)]) I5 ((b,nO 0 0 0 0 0 (⟨#[]⟩:Bs) none 0 0 0)::(s,nO f g h i j k a c e l)::(af,nO t u v w x y n o q z)::·) F6 vi fun r2 I6 F7=>gO P 48 (#[vp (some p),vi (IntKind.wrap .i64 (d+1))]) I6 ((b,nO 0 0 0 0 0 (⟨#[]⟩:Bs) none 0 0 0)::(s,nO f g h i j k a c e l)::(af,nO t u v w x y n o q z)::·) F7 fun e7 I7 G7=>∃(ah ai aj ak al:Int) (am:Bs) (ab:OA) (ac ae:Nat) (an:Int),e7=.returned (nV ah ai aj ak al am ab ac ae an)∧G7 fun F8=>∀au:Nat,∀(b1:Nat) (I8:cS),cS.le I7 I8→I8 b1=some (Obj.cells #[vb f,vb g,vb h,vi i,vb j,vs k,.slice a c e,vi l,vb t,vb u,vb v,vi w,vb x,vs y,.slice n o q,vi z,vb ah,vb ai,vb aj,vi ak,vb al,vs am,.slice ab ac ae,vi an] 64 (0,0))→Q (.returned (nV 7 0 0 0 0 (⟨#[]⟩:Bs) (some ⟨b1,0,none⟩) 3 3 ag)) I8 F8))))
theorem fQ.vc{p:Addr}{d:Int}{I:cS}{F:cR}{Q:cT}  (h:fQ.V (fun k o t n f s a l c q=>.agg #[.int .u8 k,.int .u8 o,.int .u8 t,.int .i64 n,.int .u8 f,.string s,.slice a l c,.int .i64 q]) (fun k o t n f s a l c q=>.cells #[.int .u8 k,.int .u8 o,.int .u8 t,.int .i64 n,.int .u8 f,.string s,.slice a l c,.int .i64 q] 64 (0,0)) (.int .u8) (.int .i64) .string .pointer p d I F Q):cU P 48 #[.pointer (some p),.int .i64 d] I F Q :=
 tw (A:=(dr [3001,6001] [] [48,74,76,93,94,95] jK [] [13003] [] [] [] [] [])) [48,74,76,93,94,95] func48 h
def mC.V(vb vi:Int→Value)(o h i j k l m:Int)(n:Bs)(a:OA)(c d:Nat)(p q r s t u:Int)(v:Bs)(e:OA)(f g:Nat)(w:Int)(I:cS)(F:cR)(Q:cT)  : Prop:=∀x:Nat,∀y:Nat,∀b:Nat,∀(b1:Nat) (I1:cS),cS.le I I1→I1 b1=some (Obj.cells #[vb i,vb j,vb k,vi l,vb m,.string n,.slice a c d,vi p,vb q,vb r,vb s,vi t,vb u,.string v,.slice e f g,vi w] 64 (0,0))→Q (.returned (.agg #[vb 6,vb o,vb 0,vi 0,vb 0,.string (⟨#[]⟩:Bs),.slice (some ⟨b1,0,none⟩) 2 2,vi h])) I1 (F)
theorem mC.vc{o g i j k l m:Int}{n:Bs}{a:OA}{b c:Nat}{p q r s t u:Int}{v:Bs}{d:OA}{e f:Nat}{w:Int}{I:cS}{F:cR}{Q:cT}  (h:mC.V (.int .u8) (.int .i64) o g i j k l m n a b c p q r s t u v d e f w I F Q):cU P 117 #[.int .u8 o,.int .i64 g,.agg #[.int .u8 i,.int .u8 j,.int .u8 k,.int .i64 l,.int .u8 m,.string n,.slice a b c,.int .i64 p],.agg #[.int .u8 q,.int .u8 r,.int .u8 s,.int .i64 t,.int .u8 u,.string v,.slice d e f,.int .i64 w]] I F Q :=
 tw (A:=(dr [] [] [] jK [] [1003] [] [] [] [] [])) [] func117 h
end Go.Lx
namespace Go.Lx
open Go.Vc
section
variable {c:PC} {s:PS}
theorem gi:s.inc.next=s.next+1:=rfl
theorem lu(e:Int):(c.c8 e s).next=s.next:=by
 unfold PC.c8;split
 ·rfl
 ·split<;>rfl
theorem eS(d:Int):(c.cY d s).next=s.next:=by
 unfold PC.cY;split
 ·exact lu _
 ·rfl
theorem xl{e:Int}(he:e≠0)(hl:s.next<c.l.length):(c.c8 e s).over=true:=by
 unfold PC.c8
 split
 ·assumption
 ·rw[if_neg (by omega)]
  simpa[PS.over] using he
theorem ir{d:Int}(hl:s.next<c.l.length)(h:(c.cY d s).over=false):d+1≤24∧c.cY d s=s:=by
 unfold PC.cY at h ⊢
 split
 ·rename_i hd
  rw[if_pos hd,xl (by decide) hl] at h
  cases h
 ·rename_i hd
  exact⟨by omega,rfl⟩
def Up(c:PC)(s s':PS):Prop:=s.next≤s'.next∧(s.next≤c.l.length→s'.next≤c.l.length)
theorem Up.refl:Up c s s:=⟨Nat.le_refl _,fun h=>h⟩
theorem Up.trans{a b d:PS}(h:Up c a b)(h':Up c b d):Up c a d:=⟨Nat.le_trans h.1 h'.1,fun h0=>h'.2 (h.2 h0)⟩
theorem Up.inc(hl:s.next<c.l.length):Up c s s.inc:=⟨Nat.le_succ _,fun _=>hl⟩
theorem Up.of_eq{s':PS}(h:s'.next=s.next):Up c s s':=⟨by omega,fun _=>by omega⟩
theorem Up.c8(e:Int):Up c s (c.c8 e s):=.of_eq (lu e)
theorem Up.cY(d:Int):Up c s (c.cY d s):=.of_eq (eS d)
theorem Up.take(w:ByteArray):Up c s (c.take w s).2:=by
 unfold PC.take;split
 ·rename_i h;exact .inc (jJ h)
 ·exact .c8 _
theorem Up.name:Up c s (c.name s).2:=by
 unfold PC.name;split
 ·rename_i h;exact .inc (lr (by rw[h];decide))
 ·exact .c8 _
theorem Up.literal:Up c s (c.literal s).2:=by
 unfold PC.literal
 split
 ·rename_i h;exact .inc (lr (by rw[h];decide))
 ·split
  ·rename_i h;exact .inc (lr (by rw[h.1];decide))
  ·split
   ·rename_i h;exact .inc (lr (by rw[h.1];decide))
   ·exact .refl
end
def fX(c:PC){α:Type}(f:PS→α×PS):Prop:=∀s,Up c s (f s).2
section
variable {c:PC} {nx:Lv} (hx:fX c nx.ex) (hu:fX c nx.un)
include hx
theorem Up.kids:∀(n:Nat) (f:Bool) (s:PS),Up c s (c.dA nx n f s).2
 | 0,f,s=>.refl
 | n+1,f,s=>by
   rw[PC.dA]
   refine Up.trans ?_ (Up.kids n false _)
   refine Up.trans ?_ (hx _)
   split
   ·exact .refl
   ·exact .take _
theorem Up.call{d kind oper fL pos:Int}{many:Nat}{s:PS}(hl:s.next<c.l.length):Up c s (c.call nx d kind oper fL pos many s).2:=by
 unfold PC.call
 split
 ·exact .cY _
 ·rename_i h
  obtain⟨_,he⟩:=ir hl (by simpa using h)
  rw[he]
  exact ((Up.inc hl).trans (.take _)).trans ((Up.kids hx _ _ _).trans (.take _))
theorem Up.rest(d:Int):fX c (c.rest nx d):=fun s=>by
 unfold PC.rest
 split
 ·rename_i h
  have hl:=jJ h
  split
  ·exact (Up.inc hl).trans (.c8 _)
  ·rename_i h2
   exact (Up.inc hl).trans (.inc (dX (Int.not_lt.1 h2)).1)
 ·split
  ·rename_i h
   have hl:=jJ h
   split
   ·exact .cY _
   ·rename_i h2
    obtain⟨_,he⟩:=ir hl (by simpa using h2)
    rw[he]
    exact (Up.inc hl).trans ((hx _).trans (.take _))
  ·exact .c8 _
theorem Up.one(d:Int):fX c (c.one nx d):=fun s=>by
 unfold PC.one
 split
 ·exact .literal
 ·split
  ·rename_i h;exact .inc (lr (by rw[h];decide))
  ·split
   ·rename_i h;exact .inc (dX h).1
   ·split
    ·rename_i h;exact .call hx (dX h).1
    ·split
     ·rename_i h;exact .call hx (dX h).1
     ·exact Up.rest hx d s
include hu
theorem Up.unary(d:Int):fX c (c.unary nx d):=fun s=>by
 unfold PC.unary
 split
 ·exact Up.one hx d s
 ·rename_i h
  have hl:=(dX (c:=c) (s:=s) (ws:=ke) (by omega)).1
  split
  ·exact .cY _
  ·rename_i h2
   obtain⟨_,he⟩:=ir hl (by simpa using h2)
   rw[he]
   exact (Up.inc hl).trans (hu _)
end
theorem Up.eF{c:PC}{ws:List ByteArray}{o:Int}{sub:PS→Px×PS}(h:fX c sub):∀(m:Nat) (n:Px) (s:PS),Up c s (c.eF ws o sub m n s).2
 | 0,n,s=>.refl
 | m+1,n,s=>by
   rw[PC.eF]
   split
   ·exact .refl
   ·rename_i h2
    exact ((Up.inc (dX (Int.not_lt.1 h2)).1).trans (h _)).trans (Up.eF h m _ _)
theorem Up.loop{c:PC}{ws:List ByteArray}{o:Int}{sub:PS→Px×PS}(h:fX c sub):fX c (c.loop ws o sub):=fun s=>(h s).trans (.eF h _ _ _)
section
variable {c:PC} {nx:Lv} (hx:fX c nx.ex) (hu:fX c nx.un) (d:Int)
include hx hu
theorem Up.product:fX c (c.product nx d):=Up.loop (Up.unary hx hu d)
theorem Up.sum:fX c (c.sum nx d):=Up.loop (Up.product hx hu d)
theorem Up.compare:fX c (c.compare nx d):=fun s=>by
 unfold PC.compare
 have h1:=Up.sum hx hu d s
 show Up c s (if c.any ku (c.sum nx d s).2<0 then c.sum nx d s else _).2
 split
 ·exact h1
 ·rename_i h2
  exact (h1.trans (.inc (dX (Int.not_lt.1 h2)).1)).trans (Up.sum hx hu d _)
theorem Up.and:fX c (c.and nx d):=Up.loop (Up.compare hx hu d)
theorem Up.or:fX c (c.or nx d):=Up.loop (Up.and hx hu d)
theorem Up.expr:fX c (c.expr nx d):=fun s=>by
 unfold PC.expr
 have h1:=Up.or hx hu d s
 show Up c s (if c.eC _ (c.or nx d s).2 then _ else _:Px×PS).2
 split
 ·rename_i h2
  have hl:=jJ h2
  show Up c s (if (c.cY d (c.or nx d s).2).over then _ else _:Px×PS).2
  split
  ·exact h1.trans (.cY _)
  ·rename_i h3
   obtain⟨_,he⟩:=ir hl (by simpa using h3)
   rw[he]
   exact h1.trans ((Up.inc hl).trans ((hx _).trans ((Up.take _).trans (hx _))))
 ·exact h1
end
theorem Up.lvl{c:PC}:∀(k:Nat) (d:Int),fX c (c.lvl k d).ex∧fX c (c.lvl k d).un
 | 0,d=>⟨Up.expr (fun s=>.refl) (fun s=>.refl) d,Up.unary (fun s=>.refl) (fun s=>.refl) d⟩
 | k+1,d=>⟨Up.expr (Up.lvl k (d+1)).1 (Up.lvl k (d+1)).2 d,Up.unary (Up.lvl k (d+1)).1 (Up.lvl k (d+1)).2 d⟩
theorem Up.eY{c:PC}:fX c c.eY:=(Up.lvl 24 0).1
def fR(q:PQ)(b:Nat)(F0:cR)(r:Px×PS)(e:Ending)(I:cS)(G:cR):Prop:=∃t:Nd,e=.returned t.v∧t.px=r.1∧dP I [] t∧G.Perm (q.dg b r.2::F0)
def vW(q:PQ)(b:Nat)(F0:cR)(r:Px×PS)(e:Ending)(I:cS)(G:cR):Prop:=∃(t:Nd) (A:cR),e=.returned t.v∧t.px=r.1∧(Acc 8 Nd.enc 64 t.a t.kids.length t.c t.kids A∨A=[]∧mX I [] 8 Nd.enc t.a t.kids.length t.kids)∧(∀k∈t.kids,dP I [] k)∧G.Perm (q.dg b r.2::(A++F0))
theorem vW.keep{f:Nat}{args:Array Value}{I:cS}{F F0:cR}{q:PQ}{b:Nat}{r:Px×PS}(h:cU P f args I F (vW q b F0 r)):cU P f args I F (fR q b F0 r):=by
 refine h.keep fun e I' G w hl hs ⟨t,A,he,px,hA,hk,hG⟩=>?_
 rcases hA with hA | ⟨rfl,hA⟩
 ·obtain⟨J,h1,h2,h3⟩:=Acc.keep (z:=8) (f:=Nd.enc) Nd.ov hA (hs.perm (hG.trans (cV fun z=>by simp only[cW,cX];omega):G.Perm (A++(q.dg b r.2::F0))))
  exact⟨J,_,h1,h2,t,he,px,.mk (h3.Ca []) fun k hkm=>(hk k hkm).mono h1 fun _ h=>h,.refl _⟩
 ·exact⟨I',G,cS.le_refl _,hs,t,he,px,.mk hA hk,hG⟩
theorem fR.own{q:PQ}{b:Nat}{F0:cR}{r:Px×PS}{e:Ending}{I:cS}{G:cR}(h:fR q b F0 r e I G):vW q b F0 r e I G:=by
 obtain⟨t,he,px,hok,hG⟩:=h
 exact⟨t,[],he,px,.inr ⟨rfl,hok.sl⟩,hok.A4,hG⟩
def eA(f:Nat)(q:PQ)(d:Int)(g:PS→Px×PS):Prop:=∀(b:Nat) (s:PS) (I:cS) (F F0:cR),q.ok I→s.next≤q.c.l.length→F.Perm (q.dg b s::F0)→cU P f #[.pointer (some ⟨b,0,none⟩),.int .i64 d] I F (fR q b F0 (g s))
theorem fR.nil{q:PQ}{b:Nat}{F0:cR}{r:Px×PS}{I:cS}{G:cR}{k o ty n f pos:Int}{s:ByteArray}(h:r.1=.mk k o ty n f s [] pos)(hG:G.Perm (q.dg b r.2::F0)):fR q b F0 r (.returned (Nd.mk k o ty n f s none 0 [] pos).v) I G :=
 ⟨_,rfl,by rw[h];simp only[Nd.px,Nd.qd],.leaf,hG⟩
theorem dP.yh{I:cS}{b:Nat}{l:List Nd}(hb:I b=some (.cells (l.flatMap Nd.enc).toArray 64 (0,0)))(hk:∀k∈l,dP I [] k)(k o ty n f pos:Int)(s:ByteArray)(c:Nat):dP I [] (.mk k o ty n f s (some ⟨b,0,none⟩) c l pos):=by
 have hS:Sl I 8 Nd.enc (some ⟨b,0,none⟩) l.length l:=Sl.gQ (f:=Nd.enc) (z:=8) Nd.ov hb (by simp)
 exact .mk (hS.Ca []) hk
theorem vX(o pos:Int)(x y:Nd)(I:cS)(F:cR)(hx:dP I [] x)(hy:dP I [] y):cU P 117 #[.int .u8 o,.int .i64 pos,x.v,y.v] I F fun e I' G=>∃t:Nd,e=.returned t.v∧t.px=uk o pos x.px y.px∧dP I' [] t∧G=F:=by
 refine mC.vc ?_
 unfold mC.V
 intro b_a b_b b b1 I1 l1 hb
 refine⟨.mk 6 o 0 0 0 ⟨#[]⟩ (some ⟨b1,0,none⟩) 2 [x,y] pos,rfl,by simp only[Nd.px,Nd.qd];rfl,dP.yh hb (fun k hk=>?_) ..,rfl⟩
 rcases List.mem_cons.1 hk with rfl | hk
 ·exact hx.mono l1 fun _ h=>h
 ·rw[List.mem_singleton] at hk;subst hk;exact hy.mono l1 fun _ h=>h
end Go.Lx
namespace Go.Lx
open Go.Vc
theorem rN{a:Option Addr}{n c b1:Nat}{ks:List Nd}{A F R:cR}{I:cS}(hA:Acc 8 Nd.enc 64 a n c ks A)(hl:ks.length≤1000000)(t:Nd)(hb:I b1=some (.cells t.enc.toArray 64 (0,0)))(hF:F.Perm (A++R)) :
  dm P (Builtin.append_ #[62,62] 62 #[.slice a n c,.slice (some ⟨b1,0,none⟩) 1 1]) I F fun v I' G=>∃a' n' c' A',v=.slice a' n' c'∧Acc 8 Nd.enc 64 a' n' c' (ks++[t]) A'∧G.Perm (A'++R):=by
 refine dm.perm (dm.mono (eJ (f:=Nd.enc) (z:=8) (zv:=jR.v) Nd.ov (by':=72) (by kernel_rfl) (by kernel_rfl) rfl (by decide) hA (xs:=[t]) (fun x hx=>by rw[List.mem_singleton] at hx;subst hx;exact Nd.yc x) (by simp) rfl ?_ (by simp only[List.length_cons,List.length_nil];omega) (F:=R)) fun v I' G _ ⟨a',n',c',A',h1,h2,h3,_⟩=>⟨a',n',c',A',h1,h2,by rw[h3]⟩) hF
 exact⟨rfl,_,_,_,.inl hb,fun j hj=>by simp⟩
section
variable {q:PQ} {b:Nat} {s:PS} {I:cS} {F F0:cR}
theorem zi(hq:q.ok I)(hF:F.Perm (q.dg b s::F0)):cU P 109 #[.pointer (some ⟨b,0,none⟩)] I F fun e1 I' G=>∃t:Nd,e1=.returned (.tuple #[t.v,.bool (q.c.literal s).1.2])∧t.px=(q.c.literal s).1.1∧dP I' [] t∧G.Perm (q.dg b (q.c.literal s).2::F0):=by
 have hm:q.dg b s∈F:=hF.mem_iff.2 (.head _)
 have hl:=hq.len
 refine eP.vc (fun x b0 b1 b2 b3 b4 b5 ba bn bc b7 n0 n1 n2 n3 n4 n5 na nn nc n7 I' F'=>F'=F∧na=none∧nn=0∧nc=0∧q.c.literal s=((.mk n0 n1 n2 n3 n4 n5 [] n7,true),s.inc)∧s.next<q.c.l.length) ?_
 unfold eP.V
 intro b1
 refine cU.ret (lK hq (.tail _ hm)) fun I1 l1=>⟨_,_,_,_,_,rfl,F,.refl _,fun b_t b_n=>⟨?_,fun x b0 b1' b2 b3 b4 b5 ba bn bc b7 n0 n1 n2 n3 n4 n5 na nn nc n7 I2 F2 l2 ⟨gF,ga,gn,gc,ge,hlt⟩=>?_⟩⟩
 ·have hk3:(q.c.now s).kind=3→s.next<q.c.l.length:=fun h=>lr (by rw[h];decide)
  have hk1:(q.c.now s).kind=1→s.next<q.c.l.length:=fun h=>lr (by rw[h];decide)
  have hz:∀(I':cS),q.c.literal s=((fG,false),s)→∃t:Nd,Ending.returned (.tuple #[jR.v,.bool false])=.returned (.tuple #[t.v,.bool (q.c.literal s).1.2])∧t.px=(q.c.literal s).1.1∧dP I' [] t∧F.Perm (q.dg b (q.c.literal s).2::F0):=fun I' h=>by
   rw[h];exact⟨jR,rfl,by simp only[jR,Nd.px,Nd.qd];rfl,.leaf,hF⟩
  unfold PC.literal at hz ⊢
  generalize q.c.now s=t at *
  generalize (⟨#[116,114,117,101]⟩:ByteArray).toList=wt at *
  generalize (⟨#[102,97,108,115,101]⟩:ByteArray).toList=wf at *
  generalize (⟨#[98,117,121]⟩:ByteArray).toList=wb at *
  generalize (⟨#[115,101,108,108]⟩:ByteArray).toList=ws at *
  simp only[beq_iff_eq,beq_eq_false_iff_ne,ne_eq]
  repeat' (first | (with_reducible apply And.intro) | (with_reducible intro h))
  all_goals first
   | rfl
   | (refine hz I1 ?_;simp_all;done)
   | (simp_all [rK];done)
   | (exfalso;simp_all;done)
 ·subst gF ga gn gc
  refine⟨_,rfl,_,PQ.rd (k:=3) (.tail _ (.tail _ (.tail _ hm))) rfl,_,rfl,q.cl s,96,F0,hF,PQ.spot _ _,by rw[PQ.off];exact (by decide:3+1≤7), ?_⟩
  rw[PQ.ia (by omega),ge]
  exact⟨.mk n0 n1 n2 n3 n4 n5 none 0 [] n7,rfl,by simp only[Nd.px,Nd.qd],.leaf,.refl _⟩
end
end Go.Lx
