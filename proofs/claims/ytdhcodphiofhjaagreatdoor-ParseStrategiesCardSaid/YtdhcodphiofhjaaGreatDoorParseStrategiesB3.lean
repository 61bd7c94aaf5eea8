import Derived.Test.YtdhcodphiofhjaaGreatDoorParseStrategiesB2
set_option linter.unusedVariables false
set_option linter.unusedSimpArgs false
set_option linter.unusedSectionVars false
set_option maxRecDepth 100000
namespace Go.Lx
open Go.Vc
theorem tF{rs:List Row}{ls:List (List (Ck 5))}{H F:cR}{la:Option Addr}{ln lc:Nat}{I:cS}(hS:Sl I 1 Row.enc la ln rs)(hH:dX 5 76 rs ls H)(hb:Bd ls)(hrs:rs.length≤1000000000):cU P 33 #[.slice la ln lc] I (H++F) fun e I' G=>e=.returned (.bool true)∧G=F :=
 ir (zv:=.agg #[.int .u8 0,.string (⟨#[]⟩:ByteArray),.int .u8 0,.int .i64 0,.int .i64 0]) (B:=48) rM.vc (by decide) (fun _=>rfl) (fun _=>rfl) (fun v u hu=>List.all_eq_true.1 (rfl:List.all [Value.int .u8 0,Value.string (⟨#[]⟩:ByteArray),Value.int .u8 0,Value.int .i64 0,Value.int .i64 v] (fun u=>u.oneCell')=true) u hu) (by kernel_rfl) (by kernel_rfl) rfl (by decide) (by decide) (by kernel_rfl) (by kernel_rfl) hS hH hb hrs
theorem uN{rs:List Row}{ls:List (List (Ck 8))}{H F:cR}{la:Option Addr}{ln lc:Nat}{I:cS}(hS:Sl I 1 Row.enc la ln rs)(hH:dX 8 64 rs ls H)(hb:Bd ls)(hrs:rs.length≤1000000000):cU P 34 #[.slice la ln lc] I (H++F) fun e I' G=>e=.returned (.bool true)∧G=F :=
 ir (zv:=.agg #[.int .u8 0,.int .u8 0,.int .u8 0,.int .i64 0,.int .u8 0,.string (⟨#[]⟩:ByteArray),.slice none 0 0,.int .i64 0]) (B:=72) tC.vc (by decide) (fun _=>rfl) (fun _=>rfl) (fun v u hu=>List.all_eq_true.1 (rfl:List.all [Value.int .u8 0,Value.int .u8 0,Value.int .u8 0,Value.int .i64 0,Value.int .u8 0,Value.string (⟨#[]⟩:ByteArray),Value.slice none 0 0,Value.int .i64 v] (fun u=>u.oneCell')=true) u hu) (by kernel_rfl) (by kernel_rfl) rfl (by decide) (by decide) (by kernel_rfl) (by kernel_rfl) hS hH hb hrs
theorem wo{rs:List Row}{ls:List (List (Ck 11))}{H F:cR}{la:Option Addr}{ln lc:Nat}{I:cS}(hS:Sl I 1 Row.enc la ln rs)(hH:dX 11 104 rs ls H)(hb:Bd ls)(hrs:rs.length≤1000000000):cU P 35 #[.slice la ln lc] I (H++F) fun e I' G=>e=.returned (.bool true)∧G=F :=
 ir (zv:=.agg #[.string (⟨#[]⟩:ByteArray),.int .u8 0,.int .u8 0,.int .u8 0,.int .u8 0,.int .i64 0,.int .u8 0,.string (⟨#[]⟩:ByteArray),.slice none 0 0,.int .i64 0,.int .i64 0]) (B:=104) uL.vc (by decide) (fun _=>rfl) (fun _=>rfl) (fun v u hu=>List.all_eq_true.1 (rfl:List.all [Value.string (⟨#[]⟩:ByteArray),Value.int .u8 0,Value.int .u8 0,Value.int .u8 0,Value.int .u8 0,Value.int .i64 0,Value.int .u8 0,Value.string (⟨#[]⟩:ByteArray),Value.slice none 0 0,Value.int .i64 0,Value.int .i64 v] (fun u=>u.oneCell')=true) u hu) (by kernel_rfl) (by kernel_rfl) rfl (by decide) (by decide) (by kernel_rfl) (by kernel_rfl) hS hH hb hrs
theorem uO{rs:List Row}{ls:List (List (Ck 2))}{H F:cR}{la:Option Addr}{ln lc:Nat}{I:cS}(hS:Sl I 1 Row.enc la ln rs)(hH:dX 2 106 rs ls H)(hb:Bd ls)(hrs:rs.length≤1000000000):cU P 36 #[.slice la ln lc] I (H++F) fun e I' G=>e=.returned (.bool true)∧G=F :=
 ir (zv:=.agg #[.string (⟨#[]⟩:ByteArray),.int .i64 0]) (B:=24) tD.vc (by decide) (fun _=>rfl) (fun _=>rfl) (fun v u hu=>List.all_eq_true.1 (rfl:List.all [Value.string (⟨#[]⟩:ByteArray),Value.int .i64 v] (fun u=>u.oneCell')=true) u hu) (by kernel_rfl) (by kernel_rfl) rfl (by decide) (by decide) (by kernel_rfl) (by kernel_rfl) hS hH hb hrs
theorem xX{rs:List Row}{ls:List (List (Ck 36))}{H F:cR}{la:Option Addr}{ln lc:Nat}{I:cS}(hS:Sl I 1 Row.enc la ln rs)(hH:dX 36 114 rs ls H)(hb:Bd ls)(hrs:rs.length≤1000000000):cU P 37 #[.slice la ln lc] I (H++F) fun e I' G=>e=.returned (.bool true)∧G=F :=
 ir (zv:=.agg #[.int .u8 0,.int .u8 0,.string (⟨#[]⟩:ByteArray),.int .u8 0,.int .u8 0,.int .u8 0,.int .i64 0,.int .u8 0,.string (⟨#[]⟩:ByteArray),.slice none 0 0,.int .i64 0,.int .u8 0,.int .u8 0,.int .u8 0,.int .i64 0,.int .u8 0,.string (⟨#[]⟩:ByteArray),.slice none 0 0,.int .i64 0,.int .u8 0,.int .u8 0,.int .u8 0,.int .i64 0,.int .u8 0,.string (⟨#[]⟩:ByteArray),.slice none 0 0,.int .i64 0,.int .u8 0,.int .u8 0,.int .u8 0,.int .i64 0,.int .u8 0,.string (⟨#[]⟩:ByteArray),.slice none 0 0,.int .i64 0,.int .i64 0]) (B:=320) wm.vc (by decide) (fun _=>rfl) (fun _=>rfl) (fun v u hu=>List.all_eq_true.1 (rfl:List.all [Value.int .u8 0,Value.int .u8 0,Value.string (⟨#[]⟩:ByteArray),Value.int .u8 0,Value.int .u8 0,Value.int .u8 0,Value.int .i64 0,Value.int .u8 0,Value.string (⟨#[]⟩:ByteArray),Value.slice none 0 0,Value.int .i64 0,Value.int .u8 0,Value.int .u8 0,Value.int .u8 0,Value.int .i64 0,Value.int .u8 0,Value.string (⟨#[]⟩:ByteArray),Value.slice none 0 0,Value.int .i64 0,Value.int .u8 0,Value.int .u8 0,Value.int .u8 0,Value.int .i64 0,Value.int .u8 0,Value.string (⟨#[]⟩:ByteArray),Value.slice none 0 0,Value.int .i64 0,Value.int .u8 0,Value.int .u8 0,Value.int .u8 0,Value.int .i64 0,Value.int .u8 0,Value.string (⟨#[]⟩:ByteArray),Value.slice none 0 0,Value.int .i64 0,Value.int .i64 v] (fun u=>u.oneCell')=true) u hu) (by kernel_rfl) (by kernel_rfl) rfl (by decide) (by decide) (by kernel_rfl) (by kernel_rfl) hS hH hb hrs
theorem uP{rs:List Row}{ls:List (List (Ck 10))}{H F:cR}{la:Option Addr}{ln lc:Nat}{I:cS}(hS:Sl I 1 Row.enc la ln rs)(hH:dX 10 110 rs ls H)(hb:Bd ls)(hrs:rs.length≤1000000000):cU P 38 #[.slice la ln lc] I (H++F) fun e I' G=>e=.returned (.bool true)∧G=F :=
 ir (zv:=.agg #[.int .u8 0,.int .u8 0,.int .u8 0,.int .i64 0,.int .u8 0,.string (⟨#[]⟩:ByteArray),.slice none 0 0,.int .i64 0,.slice none 0 0,.int .i64 0]) (B:=104) tE.vc (by decide) (fun _=>rfl) (fun _=>rfl) (fun v u hu=>List.all_eq_true.1 (rfl:List.all [Value.int .u8 0,Value.int .u8 0,Value.int .u8 0,Value.int .i64 0,Value.int .u8 0,Value.string (⟨#[]⟩:ByteArray),Value.slice none 0 0,Value.int .i64 0,Value.slice none 0 0,Value.int .i64 v] (fun u=>u.oneCell')=true) u hu) (by kernel_rfl) (by kernel_rfl) rfl (by decide) (by decide) (by kernel_rfl) (by kernel_rfl) hS hH hb hrs
theorem tG{rs:List Row}{ls:List (List (Ck 3))}{H F:cR}{la:Option Addr}{ln lc:Nat}{I:cS}(hS:Sl I 1 Row.enc la ln rs)(hH:dX 3 88 rs ls H)(hb:Bd ls)(hrs:rs.length≤1000000000):cU P 39 #[.slice la ln lc] I (H++F) fun e I' G=>e=.returned (.bool true)∧G=F :=
 ir (zv:=.agg #[.string (⟨#[]⟩:ByteArray),.slice none 0 0,.int .i64 0]) (B:=48) rN.vc (by decide) (fun _=>rfl) (fun _=>rfl) (fun v u hu=>List.all_eq_true.1 (rfl:List.all [Value.string (⟨#[]⟩:ByteArray),Value.slice none 0 0,Value.int .i64 v] (fun u=>u.oneCell')=true) u hu) (by kernel_rfl) (by kernel_rfl) rfl (by decide) (by decide) (by kernel_rfl) (by kernel_rfl) hS hH hb hrs
theorem tH{rs:List Row}{ls:List (List (Ck 2))}{H F:cR}{la:Option Addr}{ln lc:Nat}{I:cS}(hS:Sl I 1 Row.enc la ln rs)(hH:dX 2 174 rs ls H)(hb:Bd ls)(hrs:rs.length≤1000000000):cU P 40 #[.slice la ln lc] I (H++F) fun e I' G=>e=.returned (.bool true)∧G=F :=
 ir (zv:=.agg #[.int .u8 0,.int .i64 0]) (B:=16) rO.vc (by decide) (fun _=>rfl) (fun _=>rfl) (fun v u hu=>List.all_eq_true.1 (rfl:List.all [Value.int .u8 0,Value.int .i64 v] (fun u=>u.oneCell')=true) u hu) (by kernel_rfl) (by kernel_rfl) rfl (by decide) (by decide) (by kernel_rfl) (by kernel_rfl) hS hH hb hrs
theorem wq{rs:List Row}{ls:List (List (Ck 11))}{H F:cR}{la:Option Addr}{ln lc:Nat}{I:cS}(hS:Sl I 1 Row.enc la ln rs)(hH:dX 11 179 rs ls H)(hb:Bd ls)(hrs:rs.length≤1000000000):cU P 41 #[.slice la ln lc] I (H++F) fun e I' G=>e=.returned (.bool true)∧G=F :=
 ir (zv:=.agg #[.int .u8 0,.int .u8 0,.int .i64 0,.int .i64 0,.int .i64 0,.int .i64 0,.int .i64 0,.int .i64 0,.int .i64 0,.int .i64 0,.int .i64 0]) (B:=80) uM.vc (by decide) (fun _=>rfl) (fun _=>rfl) (fun v u hu=>List.all_eq_true.1 (rfl:List.all [Value.int .u8 0,Value.int .u8 0,Value.int .i64 v,Value.int .i64 0,Value.int .i64 0,Value.int .i64 0,Value.int .i64 0,Value.int .i64 0,Value.int .i64 0,Value.int .i64 0,Value.int .i64 0] (fun u=>u.oneCell')=true) u hu) (by kernel_rfl) (by kernel_rfl) rfl (by decide) (by decide) (by kernel_rfl) (by kernel_rfl) hS hH hb hrs
theorem tI{rs:List Row}{ls:List (List (Ck 5))}{H F:cR}{la:Option Addr}{ln lc:Nat}{I:cS}(hS:Sl I 1 Row.enc la ln rs)(hH:dX 5 184 rs ls H)(hb:Bd ls)(hrs:rs.length≤1000000000) :
  cU P 42 #[.slice la ln lc] I (H++F) fun e I' G=>e=.returned (.bool true)∧G=F:=by
 refine rV.keep ?_
 have hln:=hS.1
 refine iS.vc
  (fun i m I0 F0 I' F'=>0≤i∧i≤ln∧m=(ln-i).toNat∧∃ls H,dX 5 184 rs ls H∧F'.Perm (H++F)∧Bd ls∧∀(j:Nat) l,(j:Int)<i→ls[j]? = some l→iM 0 qB j l)
  (fun i k m I0 F0 I' F'=>0≤i∧0≤k∧∃r,rs[i.toNat]? = some r∧k≤r.n∧m=(r.n-k).toNat∧∃ls H,dX 5 184 rs ls H∧F'.Perm (H++F)∧Bd ls∧(∀(j:Nat) l,(j:Int)<i→ls[j]? = some l→iM 0 qB j l) ∧
    ∀l,ls[i.toNat]? = some l→Cq 0 qB i k l)
  (fun a n c i m I0 F0 I' F'=>0≤i∧i≤ln∧m=(ln-i).toNat∧∃ls H xs Al,dX 5 184 (rs.drop i.toNat) (ls.drop i.toNat) H∧Acc 1 Row.enc 180 a n c xs Al∧F'.Perm (Al++(H++F))∧(xs.length:Int)=i∧Bd ls ∧
    (∀(j:Nat) l,ls[j]? = some l→iM 0 qB j l)∧∀(j:Nat) r x,(j:Int)<i→rs[j]? = some r→xs[j]? = some x→qM (z:=5) 0 8 qB zm I' j r x)
  (fun a n c i xa xn xc k m I0 F0 I' F'=>0≤i∧i<ln∧0≤k∧k≤8∧m=(8-k).toNat∧∃(ls:List (List (Ck 5))) (H:cR) (xs:List Row) (Al:cR) (r:Row) (l t:List (Ck 5)) (A:cR),rs[i.toNat]? = some r∧dX 5 184 (rs.drop (i.toNat+1)) (ls.drop (i.toNat+1)) H∧Acc 1 Row.enc 180 a n c xs Al ∧
    Acc 5 cv 184 xa xn xc (l++t) A∧F'.Perm (A++(Al++(H++F)))∧(xs.length:Int)=i∧Bd ls∧(∀(j:Nat) l,ls[j]? = some l→iM 0 qB j l)∧iM 0 qB i l∧(t.length:Int)=k∧iM 0 zm i t∧r.n=l.length∧l.length≤1000000000 ∧
    (xa=r.a∨Sl I' 5 cv r.a r.n l)∧∀(j:Nat) r x,(j:Int)<i→rs[j]? = some r→xs[j]? = some x→qM (z:=5) 0 8 qB zm I' j r x)
  (fun a n c x i m I0 F0 I' F'=>0≤i∧i≤ln∧m=(ln-i).toNat∧(∃A,F'.Perm (A++F))∧∃xs,kq I' F' 1 Row.enc a n xs∧xs.length=ln∧∀(j:Nat) r x,rs[j]? = some r→xs[j]? = some x→qM (z:=5) 0 8 qB zm I' j r x)
  (fun a n c i nn x k m I0 F0 I' F'=>0≤i∧i<ln∧0≤k∧(∃r,rs[i.toNat]? = some r∧nn=r.n∧r.n≤1000000000∧k≤r.n∧m=(r.n-k).toNat)∧(∃A,F'.Perm (A++F))∧∃xs,kq I' F' 1 Row.enc a n xs∧xs.length=ln∧∀(j:Nat) r x,rs[j]? = some r→xs[j]? = some x→qM (z:=5) 0 8 qB zm I' j r x)
  (fun a n c i nn x k m I0 F0 I' F'=>0≤i∧i<ln∧0≤k∧k≤8∧m=(8-k).toNat∧(∃r,rs[i.toNat]? = some r∧nn=r.n∧r.n≤1000000000)∧(∃A,F'.Perm (A++F))∧∃xs,kq I' F' 1 Row.enc a n xs∧xs.length=ln∧∀(j:Nat) r x,rs[j]? = some r→xs[j]? = some x→qM (z:=5) 0 8 qB zm I' j r x) ?_
 unfold iS.V
 refine⟨⟨_,by omega,by omega,rfl,ls,H,hH,.refl _,hb,fun j l hj=>by omega⟩, ?_⟩
 intro i m1 I1 F1 hI1 ⟨i0,i1,im,ls1,H1,hH1,hp1,hb1,hm1⟩
 have hS1:=hS.mono hI1
 refine⟨fun hlt=>?_,fun hlt=>?_⟩
 ·-- the marks of row i
  have hlt:=of_decide_eq_true hlt
  obtain⟨ad,r,had,hr,hrd⟩:=hS1.at (i:=i) i0 (by omega)
  refine⟨⟨_,i0,by omega,r,hr,by omega,rfl,ls1,H1,hH1,hp1,hb1,hm1,fun l _ q x _ hq=>by omega⟩, ?_⟩
  intro k m3 I2 F2 hI2 ⟨_,k0,r',hr',k1,km,ls2,H2,hH2,hp2,hb2,hm2,hmk⟩
  obtain rfl:r=r':=by rw[hr] at hr';exact Option.some.inj hr'
  have hrd2:=fun G=>(hrd G).mono hI2
  refine⟨⟨i0,by omega⟩,ad,had,_,_,_,hrd2 _,fun hk=>?_,fun hk=>?_⟩
  ·have hk:=of_decide_eq_true hk
   refine⟨⟨i0,by omega⟩,ad,had,_,_,_,hrd2 _,lC i k,(ox i k I2 _).mono fun e I' G _ ⟨h1,h2⟩=>⟨h1,by rw[h2]⟩,⟨k0,by omega⟩, ?_⟩
   obtain⟨l,A,R,hl,hA,hpA,hset⟩:=hH2.focus hr
   obtain⟨b,cs,ha,hAe,hlen,hA'⟩:=hA.put (k:=k.toNat) (o:=0) (by omega) (by decide) (qB i k)
   obtain⟨H3,hH3,hp3⟩:=hset _ _ hA'
   subst hAe
   refine⟨⟨b,0,none⟩,ha,cs,184,R++F, ?_, ?_, ?_,m3-1,by omega, ?_⟩
   ·rw[p9];exact hp2.trans (List.Perm.append_right F hpA)
   ·rw[p9]
   ·rw[p9];exact hlen
   ·rw[p9,ew (by have:=hb2 _ _ hl;have:=hA.1;omega)]
    refine⟨i0,by omega,r,hr,by omega,by omega,_,H3,hH3, ?_,hb2.set hl _,vo hm2 _ i0,fun l' hl'=>?_⟩
    ·exact (List.Perm.append_right F hp3).symm
    ·have hlt2:i.toNat<ls2.length:=(List.getElem?_eq_some_iff.1 hl).1
     rw[List.getElem?_set_self hlt2] at hl'
     obtain rfl:l.modify k.toNat (Bj 0 (qB i k))=l':=Option.some.inj hl'
     exact (hmk l hl).step (by decide) k0
  ·have hk:=of_decide_eq_false hk
   rw[ew (by omega)]
   refine⟨_, ?_,by omega,by omega,rfl,ls2,H2,hH2,hp2,hb2,fun j l hj hl=>?_⟩
   ·omega
   ·rcases Int.lt_or_eq_of_le (Int.lt_add_one_iff.1 hj) with h | h
    ·exact hm2 j l h hl
    ·have hji:j=i.toNat:=by omega
     subst hji
     have hmk':=hmk l hl
     obtain⟨l',A,R,hl',hA,_⟩:=hH2.focus hr
     obtain rfl:l'=l:=by rw[hl'] at hl;exact Option.some.inj hl
     intro q x hx
     have hq:=(List.getElem?_eq_some_iff.1 hx).1
     rw[h]
     exact hmk' q x hx (by have:=hA.1;omega)
 ·-- the rows grow
  have hlt:=of_decide_eq_false hlt
  have hall:∀(j:Nat) l,ls1[j]? = some l→iM 0 qB j l:=fun j l hl=>hm1 j l (by have:=hH1.len;have:=(List.getElem?_eq_some_iff.1 hl).1;omega) hl
  refine⟨⟨_,by omega,by omega,rfl,ls1,H1,[],[],hH1,Acc.nil,hp1,rfl,hb1,hall,fun j r x hj=>by omega⟩, ?_⟩
  intro a n c i m7 I4 F4 hI4 ⟨i0,i1,im,ls4,H4,xs,Al,hH4,hAl,hp4,hxl,hb4,hm4,hd4⟩
  have hS4:=hS1.mono hI4
  refine⟨fun hlt=>?_,fun hlt=>?_⟩
  ·have hlt:=of_decide_eq_true hlt
   obtain⟨ad,r,had,hr,hrd⟩:=hS4.at (i:=i) i0 (by omega)
   obtain⟨l,A,H5,hl,hHe,hA,hH5⟩:=hH4.drop hr
   subst hHe
   refine⟨⟨i0,by omega⟩,ad,had,_,_,_,hrd _,⟨_,i0,by omega,by omega,by omega,rfl,ls4,H5,xs,Al,r,l,[],A,hr,hH5,hAl,by rw[List.append_nil];exact hA, ?_,hxl,hb4,hm4,by have:=hm4 _ _ hl;rwa [Int.toNat_of_nonneg i0] at this,rfl,fun q x hx=>by simp at hx,hA.1,hb4 _ _ hl,.inl rfl,hd4⟩, ?_⟩
   ·refine hp4.trans ?_
    rw[List.append_assoc A H5 F,←List.append_assoc Al A,←List.append_assoc A Al]
    exact List.Perm.append_right _ List.perm_append_comm
   intro xa xn xc k m9 I5 F5 hI5 ⟨_,_,k0,k1,km,ls5,H5',xs5,Al5,r5,l5,t5,A5,hr5,hH5',hAl5,hA5,hp5,hxl5,hb5,hm5,hml5,ht5,hmt5,hrn5,hl5,hor5,hd5⟩
   obtain rfl:r=r5:=by rw[hr] at hr5;exact Option.some.inj hr5
   refine⟨fun hk=>?_,fun hk=>?_⟩
   ·have hk:=of_decide_eq_true hk
    refine cU.ret (lE i k I5 _) fun I6 hI6=>⟨_,rfl,F5,.refl _, ?_⟩
    intro b I7 hI7 hb7
    let y:Ck 5:=⟨[zm i k,.int .i64 0,.int .u16 0,.int .u16 0,.slice none 0 0],rfl⟩
    refine dk.perm (dk.mono (eG (f:=cv) (z:=5) (zv:=.agg #[.int .i64 0,.int .i64 0,.int .u16 0,.int .u16 0,.slice none 0 0]) pk (by':=48) (by kernel_rfl) (by kernel_rfl) rfl (by decide) hA5 (xs:=[y]) ?_ (by simp) rfl ?_ ?_ (F:=Al5++(H5'++F)))
     fun v I8 G3 hI8 ⟨a',n',c',A',hv,hA',hG,hor⟩=>?_) hp5
    ·intro x hx u hu
     rw[List.mem_singleton] at hx;subst hx
     exact List.all_eq_true.1 (show (cv y).all (fun u=>u.oneCell')=true from rfl) u hu
    ·exact⟨rfl,_,_,_,.inl hb7,fun j hj=>by simp[y,cv,zm]⟩
    ·rw[List.length_append];simp only[List.length_cons,List.length_nil];omega
    subst hG
    have hle8:cS.le I5 I8:=cS.le_trans hI6 (cS.le_trans hI7 hI8)
    refine⟨_,_,_,hv,_,.refl _,m9-1,by omega,i0,by omega,by rw[ew (by omega)];omega,by rw[ew (by omega)];omega,by rw[ew (by omega)];omega,
     ls5,H5',xs5,Al5,r,l5,t5++[y],A',hr,hH5',hAl5,by rw[←List.append_assoc];exact hA',.refl _,hxl5,hb5,hm5,hml5, ?_, ?_,hrn5,hl5, ?_,fun j r x hj hr hx=>(hd5 j r x hj hr hx).mono hle8⟩
    ·rw[ew (by omega),List.length_append,List.length_singleton];omega
    ·refine hmt5.snoc ?_
     show some (zm i k)=_
     rw[ht5]
    ·rcases hor5 with h | h
     ·rcases hor with h' | h'
      ·exact .inl (h'.trans h)
      ·right
       rw[←h,hrn5]
       exact Sl.prefix h'
     ·exact .inr (h.mono hle8)
   ·have hk:=of_decide_eq_false hk
    intro b1 I9 hI9 hb9
    refine dk.pre fun w hw=>?_
    obtain⟨J,hJ,hsJ,hSx⟩:=hA5.keep pk (hw.perm hp5)
    have hle9:cS.le I5 J:=cS.le_trans hI9 hJ
    refine⟨J,_,hJ,hsJ, ?_⟩
    refine dk.mono (eG (f:=Row.enc) (z:=1) (zv:=.slice none 0 0) (fun _=>rfl) (by':=24) (by kernel_rfl) (by kernel_rfl) rfl (by decide) hAl5 (xs:=[⟨xa,xn,xc⟩]) (fun x _=>qf x) (by simp) rfl ?_ ?_ (F:=H5'++F))
     fun v I10 G4 hI10 ⟨a',n',c',A',hv,hA',hG,hor⟩=>?_
    ·exact⟨rfl,_,_,_,.inl (hJ.at hb9),fun j hj=>by simp[Row.enc]⟩
    ·simp only[List.length_cons,List.length_nil];omega
    subst hG
    have hle10:cS.le I5 I10:=cS.le_trans hle9 hI10
    refine⟨_,_,_,hv,_,.refl _,m7-1,by omega,by rw[ew (by omega)];omega,by rw[ew (by omega)];omega,by rw[ew (by omega)];omega,ls5,H5',xs5++[⟨xa,xn,xc⟩],A', ?_,hA',.refl _, ?_,hb5,hm5, ?_⟩
    ·rw[ew (by omega),show (i+1).toNat=i.toNat+1 by omega];exact hH5'
    ·rw[ew (by omega),List.length_append,List.length_singleton];omega
    ·intro j r' x' hj hr' hx'
     rw[ew (by omega)] at hj
     rcases Int.lt_or_eq_of_le (Int.lt_add_one_iff.1 hj) with h | h
     ·rw[List.getElem?_append_left (by omega)] at hx'
      exact (hd5 j r' x' h hr' hx').mono hle10
     ·have hji:j=i.toNat:=by omega
      subst hji
      obtain rfl:r=r':=by rw[hr] at hr';exact Option.some.inj hr'
      have hx2:x'=⟨xa,xn,xc⟩:=by
       have:i.toNat=xs5.length:=by omega
       rw[this,List.getElem?_append_right (Nat.le_refl _),Nat.sub_self] at hx'
       simpa using hx'.symm
      subst hx2
      rw[h]
      refine⟨l5,t5, ?_,hml5,hSx.mono hI10,by omega,hmt5⟩
      rcases hor5 with h' | h'
      ·rw[←h',hrn5];exact (Sl.prefix hSx).mono hI10
      ·exact h'.mono hle10
  ·-- the look at all of them
   have hlt:=of_decide_eq_false hlt
   have hxs:xs.length=ln:=by omega
   refine⟨⟨_,by omega,by omega,rfl,⟨Al++H4,by rw[List.append_assoc];exact hp4⟩,xs,(Acc.B0 (z:=1) (f:=Row.enc) (fun _=>rfl) hAl I4 (G:=F4) fun x hx=>hp4.mem_iff.2 (List.mem_append_left _ hx)),hxs,
    fun j r x hr hx=>hd4 j r x (by have:=(List.getElem?_eq_some_iff.1 hx).1;omega) hr hx⟩, ?_⟩
   intro x i m13 I11 F9 hI11 ⟨i0,i1,im,⟨A9,hp9⟩,xs,hsl,hxs,hd⟩
   have hS11:=hS4.mono hI11
   refine⟨fun hlt=>?_,fun hlt=>⟨rfl,A9,hp9⟩⟩
   have hlt:=of_decide_eq_true hlt
   obtain⟨ad,r,had,hr,hrd⟩:=hS11.at (i:=i) i0 (by omega)
   obtain⟨adx,xr,hadx,hxr,hrdx⟩:=hsl.at (i:=i) i0 (by have:=hsl.1;omega)
   have hrn:r.n≤1000000000:=by
    obtain⟨l,A,R,hl,hA,_⟩:=hH.focus hr
    have:=hb _ _ hl
    have:=hA.1
    omega
   refine⟨⟨i0,by omega⟩,ad,had,_,_,_,hrd _,⟨_,i0,by omega,by omega,⟨r,hr,rfl,hrn,by omega,rfl⟩,⟨A9,hp9⟩,xs,hsl,hxs,hd⟩, ?_⟩
   intro x1 k m15 I12 F10 hI12 ⟨_,_,k0,⟨r',hr',hnn,_,k1,km⟩,⟨A10,hp10⟩,xs2,hsl2,hxs2,hd2⟩
   obtain rfl:r=r':=by rw[hr] at hr';exact Option.some.inj hr'
   obtain⟨adx2,xr2,hadx2,hxr2,hrdx2⟩:=hsl2.at (i:=i) i0 (by have:=hsl2.1;omega)
   obtain⟨l,t,hSl,hml,hSx,htl,hmt⟩:=hd2 _ _ _ hr hxr2
   have hrl:=hSl.1
   have hxl:=hSx.1
   rw[List.length_append] at hxl
   have hrd2:=fun G=>(hrd G).mono hI12
   have hii:((i.toNat:Nat):Int)=i:=Int.toNat_of_nonneg i0
   rw[hii] at hml hmt
   refine⟨fun hk=>?_,fun hk=>?_⟩
   ·have hk:=of_decide_eq_true hk
    obtain⟨ad6,y,ha6,hy,hrd6⟩:=hSl.at (i:=k) k0 (by omega)
    have hyv:=hml _ _ hy
    have hkk:((k.toNat:Nat):Int)=k:=Int.toNat_of_nonneg k0
    rw[hkk] at hyv
    obtain⟨ad8,y',ha8,hy',hrd8⟩:=hSx.at (i:=k) k0 (by omega)
    obtain rfl:y=y':=by
     rw[List.getElem?_append_left (by omega),hy] at hy';exact Option.some.inj hy'
    have hsp:∀X:cR,cU P 87 #[.int .i64 i,.int .i64 k] I12 X fun e I' G=>e=.returned (.int .i64 (lC i k))∧G.Perm X:=fun X=>(ox i k I12 X).mono fun e I' G _ ⟨h1,h2⟩=>⟨h1,by rw[h2]⟩
    refine⟨⟨i0,by omega⟩,ad,had,_,_,_,hrd2 _,⟨k0,by omega⟩,ad6,ha6,lC i k,(hrd6 _).dE (p:=0) (q:=0) hyv,lC i k,hsp _,fun h=>by simp at h,fun _=>⟨⟨i0,by have:=hsl2.1;omega⟩,adx2,hadx2,_,_,_,hrdx2,⟨k0,by omega⟩,ad8,ha8,lC i k,(hrd8 _).dE (p:=0) (q:=0) hyv,lC i k,hsp _,fun h=>by simp at h,fun _=>?_⟩⟩
    rw[ew (by omega)]
    exact⟨_,by omega,i0,by omega,by omega,⟨r,hr,hnn,hrn,by omega,rfl⟩,⟨A10,hp10⟩,xs2,hsl2,hxs2,hd2⟩
   ·have hk:=of_decide_eq_false hk
    refine⟨⟨_,i0,by omega,by omega,by omega,rfl,⟨r,hr,rfl,hrn⟩,⟨A10,hp10⟩,xs2,hsl2,hxs2,hd2⟩, ?_⟩
    intro x2 k3 m20 I15 F11 hI15 ⟨_,_,k0',k1',km',⟨r',hr',hnn',_⟩,⟨A11,hp11⟩,xs3,hsl3,hxs3,hd3⟩
    refine⟨fun hk=>?_,fun hk=>?_⟩
    ·have hk:=of_decide_eq_true hk
     obtain⟨adx3,xr3,hadx3,hxr3,hrdx3⟩:=hsl3.at (i:=i) i0 (by have:=hsl3.1;omega)
     obtain⟨l3,t3,hSl3,hml3,hSx3,htl3,hmt3⟩:=hd3 _ _ _ hr hxr3
     have hrl3:=hSl3.1
     have hxl3:=hSx3.1
     rw[List.length_append] at hxl3
     rw[hii] at hmt3
     rw[ew (by omega)]
     obtain⟨ad10,y,ha10,hy,hrd10⟩:=hSx3.at (i:=((r.n:Nat):Int)+k3) (by omega) (by omega)
     rw[List.getElem?_append_right (by omega),show (((r.n:Nat):Int)+k3).toNat-l3.length=k3.toNat by omega] at hy
     have hyv:=hmt3 _ _ hy
     have hkk:((k3.toNat:Nat):Int)=k3:=Int.toNat_of_nonneg k0'
     rw[hkk] at hyv
     refine⟨⟨i0,by have:=hsl3.1;omega⟩,adx3,hadx3,_,_,_,hrdx3,⟨by omega,by omega⟩,ad10,ha10,lD i k3,(hrd10 _).dE (p:=0) (q:=0) hyv,lD i k3,(lE i k3 I15 _).mono fun e I' G _ ⟨h1,h2⟩=>⟨h1,by rw[h2]⟩,fun h=>by simp at h,fun _=>?_⟩
     rw[ew (by omega)]
     exact⟨_,by omega,i0,by omega,by omega,by omega,rfl,⟨r,hr,rfl,hrn⟩,⟨A11,hp11⟩,xs3,hsl3,hxs3,hd3⟩
    ·rw[ew (by omega)]
     exact⟨_,by omega,by omega,by omega,rfl,⟨A11,hp11⟩,xs3,hsl3,hxs3,hd3⟩
end Go.Lx
namespace Go.Lx
open Go.Vc Go.Proofs.Tryz
def zn:List (Nat×List Sh):=[(2,[.one (.int .i64)]),(3,[.one (.int .i64)]),(4,[.one .bool]),(24,[.one .slc]),(25,[.one .slc]),(26,[.one .slc]),(27,[.one .slc]),(28,[.one .slc]),(29,[.one .slc]),(30,[.one .slc]),(31,[.one .slc]),(32,[.one .slc]),(33,[.one .slc]),(34,[.one .slc]),(35,[.one .slc]),(180,[.one .slc]),(185,[.one .slc])]
def jC.V(vi:Int→Value)(vl:OA→Nat→Nat→Value)(vt:Bool→Value)(wr:Int→Int)(g:OA)(f a1:Nat)(I:cS)(F:cR)(Q:cT)(Inv8:Int→Nat→cS→cR→cS→cR→Prop)(Inv20:Int→Int→Nat→cS→cR→cS→cR→Prop)(Inv36:OA→Nat→Nat→Int→Nat→cS→cR→cS→cR→Prop)(Inv51:OA→Nat→Nat→Int→OA→Nat→Nat→Int→Nat→cS→cR→cS→cR→Prop)(Inv68:OA→Nat→Nat→Bool→Int→Nat→cS→cR→cS→cR→Prop)(Inv83:OA→Nat→Nat→Int→Int→Bool→Int→Nat→cS→cR→cS→cR→Prop)(Inv103:OA→Nat→Nat→Int→Int→Bool→Int→Nat→cS→cR→cS→cR→Prop):Prop:=(∃m:Nat,Inv8 0 m I F I F)∧∀(i:Int) (m1:Nat) (I1:cS) (F1:cR),cS.le I I1→Inv8 i m1 I F I1 F1→(Dt (i<(f:Int)) ((∃m2:Nat,Inv20 i 0 m2 I1 F1 I1 F1)∧∀(k:Int) (m3:Nat) (I2:cS) (F2:cR),cS.le I1 I2→Inv20 i k m3 I1 F1 I2 F2→((0≤i∧i<(f:Int))∧∃ad:Addr,g=some ad∧∃(aW:OA) (h aX:Nat),Rd I2 F2 (ad.add (Int.toNat i*1)) [vl aW h aX]∧(Dt (k<(h:Int)) ((0≤i∧i<(f:Int))∧∃ay:Addr,g=some ay∧∃(aL:OA) (aM aN:Nat),Rd I2 F2 (ay.add (Int.toNat i*1)) [vl aL aM aN]∧∃(r:Int),(cU P 87 #[vi i,vi k] I2 F2 fun e1 I3 G1=>e1=.returned (vi r)∧List.Perm G1 F2)∧False) (∃m4:Nat,m4<m1∧Inv8 (wr (i+1)) m4 I F I2 F2)))) ((∃m5:Nat,Inv36 none 0 0 0 m5 I1 F1 I1 F1)∧∀(a:OA) (c d:Nat) (i1:Int) (m6:Nat) (I4:cS) (F3:cR),cS.le I1 I4→Inv36 a c d i1 m6 I1 F1 I4 F3→(Dt (i1<(f:Int)) ((0≤i1∧i1<(f:Int))∧∃az:Addr,g=some az∧∃(j:OA) (l n:Nat),Rd I4 F3 (az.add (Int.toNat i1*1)) [vl j l n]∧(∃m7:Nat,Inv51 a c d i1 j l n 0 m7 I4 F3 I4 F3)∧∀(o:OA) (p q:Nat) (k1:Int) (m8:Nat) (I5:cS) (F4:cR),cS.le I4 I5→Inv51 a c d i1 o p q k1 m8 I4 F3 I5 F4→(Dt (k1<8) (dt P 88 #[vi i1,vi k1] I5 (·) F4 vi fun r1 I6 F5=>∀(b:Nat) (I7:cS),cS.le I6 I7→I7 b=some (Obj.cells #[vi r1,vi 0,.int .u16 0,.int .u16 0,vl none 0 0] 184 (0,0))→∀(b1:Nat) (I8:cS),cS.le I7 I8→I8 b1=some (Obj.cells #[vl (some ⟨b,0,none⟩) 1 1] 180 (0,0))→dk P (Builtin.append_ #[32,32] 32 #[vl o p q,vl (some ⟨b1,0,none⟩) 1 1]) I8 F5 fun v I9 G3=>∃(aq:OA) (ar au:Nat),v=vl aq ar au∧∃F6:cR,List.Perm G3 F6∧(∃m9:Nat,m9<m8∧Inv51 a c d i1 aq ar au (wr (k1+1)) m9 I4 F3 I9 F6)) (∀(b2:Nat) (I10:cS),cS.le I5 I10→I10 b2=some (Obj.cells #[vl o p q] 32 (0,0))→dk P (Builtin.append_ #[34,34] 34 #[vl a c d,vl (some ⟨b2,0,none⟩) 1 1]) I10 F4 fun v1 I11 G4=>∃(s:OA) (t u:Nat),v1=vl s t u∧∃F7:cR,List.Perm G4 F7∧(∃aA:Nat,aA<m6∧Inv36 s t u (wr (i1+1)) aA I1 F1 I11 F7)))) ((∃aY:Nat,Inv68 a c d false 0 aY I4 F3 I4 F3)∧∀(x:Bool) (i2:Int) (av:Nat) (I12:cS) (F8:cR),cS.le I4 I12→Inv68 a c d x i2 av I4 F3 I12 F8→(Dt (i2<(f:Int)) ((0≤i2∧i2<(f:Int))∧∃aB:Addr,g=some aB∧∃(aO:OA) (e aP:Nat),Rd I12 F8 (aB.add (Int.toNat i2*1)) [vl aO e aP]∧(∃aZ:Nat,Inv83 a c d i2 (e:Int) x 0 aZ I12 F8 I12 F8)∧∀(x1:Bool) (k2:Int) (aw:Nat) (I13:cS) (F9:cR),cS.le I12 I13→Inv83 a c d i2 (e:Int) x1 k2 aw I12 F8 I13 F9→(Dt (k2<(e:Int)) ((0≤i2∧i2<(f:Int))∧∃aC:Addr,g=some aC∧∃(w:OA) (y aQ:Nat),Rd I13 F9 (aC.add (Int.toNat i2*1)) [vl w y aQ]∧((0≤k2∧k2<(y:Int))∧∃aD:Addr,w=some aD∧∃(z:OA) (aa aR:Nat),Rd I13 F9 (aD.add (Int.toNat k2*1)) [vl z aa aR]∧((0≤(0:Int)∧(0:Int)<(aa:Int))∧∃aE:Addr,z=some aE∧∃(ab:Int),Rd I13 F9 (((aE.add (Int.toNat 0*5)).add 0).add 0) [vi ab]∧∃(r2:Int),(cU P 87 #[vi i2,vi k2] I13 F9 fun e3 I14 G5=>e3=.returned (vi r2)∧List.Perm G5 F9)∧(It (ab != r2) (Q (.returned (vt false)) I13 F9) ((0≤i2∧i2<(c:Int))∧∃aF:Addr,a=some aF∧∃(ac:OA) (ae aS:Nat),Rd I13 F9 (aF.add (Int.toNat i2*1)) [vl ac ae aS]∧((0≤k2∧k2<(ae:Int))∧∃aG:Addr,ac=some aG∧∃(af:OA) (ag aT:Nat),Rd I13 F9 (aG.add (Int.toNat k2*1)) [vl af ag aT]∧((0≤(0:Int)∧(0:Int)<(ag:Int))∧∃aH:Addr,af=some aH∧∃(ah:Int),Rd I13 F9 (((aH.add (Int.toNat 0*5)).add 0).add 0) [vi ah]∧∃(r3:Int),(cU P 87 #[vi i2,vi k2] I13 F9 fun e4 I15 G6=>e4=.returned (vi r3)∧List.Perm G6 F9)∧(It (ah != r3) (Q (.returned (vt false)) I13 F9) (∃aI:Nat,aI<aw∧Inv83 a c d i2 (e:Int) x1 (wr (k2+1)) aI I12 F8 I13 F9))))))))) ((∃a0:Nat,Inv103 a c d i2 (e:Int) x1 0 a0 I13 F9 I13 F9)∧∀(x2:Bool) (k3:Int) (ax:Nat) (I16:cS) (F10:cR),cS.le I13 I16→Inv103 a c d i2 (e:Int) x2 k3 ax I13 F9 I16 F10→(Dt (k3<8) ((0≤i2∧i2<(c:Int))∧∃an:Addr,a=some an∧∃(ai:OA) (aj aU:Nat),Rd I16 F10 (an.add (Int.toNat i2*1)) [vl ai aj aU]∧((0≤(wr ((e:Int)+k3))∧(wr ((e:Int)+k3))<(aj:Int))∧∃ao:Addr,ai=some ao∧∃(ak:OA) (al aV:Nat),Rd I16 F10 (ao.add (Int.toNat (wr ((e:Int)+k3))*1)) [vl ak al aV]∧((0≤(0:Int)∧(0:Int)<(al:Int))∧∃ap:Addr,ak=some ap∧∃(am:Int),Rd I16 F10 (((ap.add (Int.toNat 0*5)).add 0).add 0) [vi am]∧∃(r4:Int),(cU P 88 #[vi i2,vi k3] I16 F10 fun e5 I17 G7=>e5=.returned (vi r4)∧List.Perm G7 F10)∧(It (am != r4) (Q (.returned (vt false)) I16 F10) (∃aJ:Nat,aJ<ax∧Inv103 a c d i2 (e:Int) x2 (wr (k3+1)) aJ I13 F9 I16 F10))))) (∃aK:Nat,aK<av∧Inv68 a c d x2 (wr (i2+1)) aK I4 F3 I16 F10))))) (Q (.returned (vt true)) I12 F8))))))
theorem jC.vc{a:OA}{b c:Nat}{I:cS}{F:cR}{Q:cT}(Inv8:Int→Nat→cS→cR→cS→cR→Prop)(Inv20:Int→Int→Nat→cS→cR→cS→cR→Prop)(Inv36:OA→Nat→Nat→Int→Nat→cS→cR→cS→cR→Prop)(Inv51:OA→Nat→Nat→Int→OA→Nat→Nat→Int→Nat→cS→cR→cS→cR→Prop)(Inv68:OA→Nat→Nat→Bool→Int→Nat→cS→cR→cS→cR→Prop)(Inv83:OA→Nat→Nat→Int→Int→Bool→Int→Nat→cS→cR→cS→cR→Prop)(Inv103:OA→Nat→Nat→Int→Int→Bool→Int→Nat→cS→cR→cS→cR→Prop)(h:jC.V (.int .i64) .slice .bool (IntKind.wrap .i64) a b c I F Q Inv8 Inv20 Inv36 Inv51 Inv68 Inv83 Inv103):cU P 43 #[.slice a b c] I F Q :=
 tw (A:=(dy [3003,6006,10003,14001,19003,23002,25014,25030,28001,30016] [] [87,88] zn [(8,⟨[(4,(.int .i64))],[],fun fs I0 F0 vs m I F=>match fs,vs with | [],[.int _ y0]=>Inv8 y0 m I0 F0 I F | _,_=>False,[],[]⟩),(20,⟨[(5,(.int .i64))],[],fun fs I0 F0 vs m I F=>match fs,vs with | [.int _ y0],[.int _ y1]=>Inv20 y0 y1 m I0 F0 I F | _,_=>False,[4],[]⟩),(36,⟨[(3,.slc),(6,(.int .i64))],[],fun fs I0 F0 vs m I F=>match fs,vs with | [],[.slice y0 y1 y2,.int _ y3]=>Inv36 y0 y1 y2 y3 m I0 F0 I F | _,_=>False,[],[]⟩),(51,⟨[(7,.slc),(8,(.int .i64))],[],fun fs I0 F0 vs m I F=>match fs,vs with | [.slice y0 y1 y2,.int _ y3],[.slice y4 y5 y6,.int _ y7]=>Inv51 y0 y1 y2 y3 y4 y5 y6 y7 m I0 F0 I F | _,_=>False,[3,6],[]⟩),(68,⟨[(2,.bool),(9,(.int .i64))],[],fun fs I0 F0 vs m I F=>match fs,vs with | [.slice y0 y1 y2],[.bool y3,.int _ y4]=>Inv68 y0 y1 y2 y3 y4 m I0 F0 I F | _,_=>False,[3],[]⟩),(83,⟨[(2,.bool),(11,(.int .i64))],[],fun fs I0 F0 vs m I F=>match fs,vs with | [.slice y0 y1 y2,.int _ y3,.int _ y4],[.bool y5,.int _ y6]=>Inv83 y0 y1 y2 y3 y4 y5 y6 m I0 F0 I F | _,_=>False,[3,9,10],[]⟩),(103,⟨[(2,.bool),(12,(.int .i64))],[],fun fs I0 F0 vs m I F=>match fs,vs with | [.slice y0 y1 y2,.int _ y3,.int _ y4],[.bool y5,.int _ y6]=>Inv103 y0 y1 y2 y3 y4 y5 y6 m I0 F0 I F | _,_=>False,[3,9,10],[]⟩)] [16006,16007,17002] [] [] [] [] [])) [87,88] func43 h
def jD.V(vi:Int→Value)(vl:OA→Nat→Nat→Value)(vt:Bool→Value)(wr:Int→Int)(g:OA)(c aQ:Nat)(I:cS)(F:cR)(Q:cT)(Inv6:Int→Nat→cS→cR→cS→cR→Prop)(Inv18:Int→Nat→cS→cR→cS→cR→Prop)(Inv36:OA→Nat→Nat→Int→Nat→cS→cR→cS→cR→Prop)(Inv51:Int→Int→OA→Nat→Nat→Int→Nat→cS→cR→cS→cR→Prop)(Inv68:Int→Bool→Int→Nat→cS→cR→cS→cR→Prop)(Inv83:Int→Int→Int→Bool→Int→Nat→cS→cR→cS→cR→Prop)(Inv103:Int→Int→Int→Bool→Int→Nat→cS→cR→cS→cR→Prop):Prop:=(∃m:Nat,Inv6 0 m I F I F)∧∀(i:Int) (m1:Nat) (I1:cS) (F1:cR),cS.le I I1→Inv6 i m1 I F I1 F1→(Dt (i<(c:Int)) ((∃m2:Nat,Inv18 0 m2 I1 F1 I1 F1)∧∀(k:Int) (m3:Nat) (I2:cS) (F2:cR),cS.le I1 I2→Inv18 k m3 I1 F1 I2 F2→((0≤i∧i<(c:Int))∧∃ad:Addr,g=some ad∧∃(aL:OA) (j aM:Nat),Rd I2 F2 (ad.add (Int.toNat i*1)) [vl aL j aM]∧(Dt (k<(j:Int)) ((0≤i∧i<(c:Int))∧∃aq:Addr,g=some aq∧∃(l:OA) (n aF:Nat),Rd I2 F2 (aq.add (Int.toNat i*1)) [vl l n aF]∧((0≤k∧k<(n:Int))∧∃f:Addr,l=some f∧∃(cs:List Value) (el:Nat) (F3:cR),List.Perm F2 (((f.add (Int.toNat k*1)).block,Obj.cells cs.toArray el (0,0))::F3)∧(f.add (Int.toNat k*1)).spot=none∧(f.add (Int.toNat k*1)).off+1≤cs.length∧(∃m4:Nat,m4<m3∧Inv18 (wr (k+1)) m4 I1 F1 I2 (((f.add (Int.toNat k*1)).block,Obj.cells (cY (f.add (Int.toNat k*1)).off [vi (wr ((wr (i*1000))+k))] cs).toArray el (0,0))::F3)))) (∃m5:Nat,m5<m1∧Inv6 (wr (i+1)) m5 I F I2 F2)))) ((∃m6:Nat,Inv36 none 0 0 0 m6 I1 F1 I1 F1)∧∀(d:OA) (e h:Nat) (i1:Int) (m7:Nat) (I3:cS) (F4:cR),cS.le I1 I3→Inv36 d e h i1 m7 I1 F1 I3 F4→(Dt (i1<(c:Int)) ((0≤i1∧i1<(c:Int))∧∃ar:Addr,g=some ar∧∃(o:OA) (p q:Nat),Rd I3 F4 (ar.add (Int.toNat i1*1)) [vl o p q]∧(∃m8:Nat,Inv51 i i1 o p q 0 m8 I3 F4 I3 F4)∧∀(r:OA) (s t:Nat) (k1:Int) (m9:Nat) (I4:cS) (F5:cR),cS.le I3 I4→Inv51 i i1 r s t k1 m9 I3 F4 I4 F5→(Dt (k1<16) (∀(b:Nat) (I5:cS),cS.le I4 I5→I5 b=some (Obj.cells #[vi (wr ((wr ((wr ((-1)-i1))*1000))-k1))] 2 (0,0))→dk P (Builtin.append_ #[185,185] 185 #[vl r s t,vl (some ⟨b,0,none⟩) 1 1]) I5 F5 fun v I6 G1=>∃(ak:OA) (al am:Nat),v=vl ak al am∧∃F6:cR,List.Perm G1 F6∧(∃au:Nat,au<m9∧Inv51 i i1 ak al am (wr (k1+1)) au I3 F4 I6 F6)) (∀(b1:Nat) (I7:cS),cS.le I4 I7→I7 b1=some (Obj.cells #[vl r s t] 185 (0,0))→dk P (Builtin.append_ #[35,35] 35 #[vl d e h,vl (some ⟨b1,0,none⟩) 1 1]) I7 F5 fun v1 I8 G2=>∃(u:OA) (w y:Nat),v1=vl u w y∧∃F7:cR,List.Perm G2 F7∧(∃av:Nat,av<m7∧Inv36 u w y (wr (i1+1)) av I1 F1 I8 F7)))) ((∃aN:Nat,Inv68 i false 0 aN I3 F4 I3 F4)∧∀(x:Bool) (i2:Int) (an:Nat) (I9:cS) (F8:cR),cS.le I3 I9→Inv68 i x i2 an I3 F4 I9 F8→(Dt (i2<(c:Int)) ((0≤i2∧i2<(c:Int))∧∃aw:Addr,g=some aw∧∃(aG:OA) (a aH:Nat),Rd I9 F8 (aw.add (Int.toNat i2*1)) [vl aG a aH]∧(∃aO:Nat,Inv83 i i2 (a:Int) x 0 aO I9 F8 I9 F8)∧∀(x1:Bool) (k2:Int) (ao:Nat) (I10:cS) (F9:cR),cS.le I9 I10→Inv83 i i2 (a:Int) x1 k2 ao I9 F8 I10 F9→(Dt (k2<(a:Int)) ((0≤i2∧i2<(c:Int))∧∃ax:Addr,g=some ax∧∃(z:OA) (aa aI:Nat),Rd I10 F9 (ax.add (Int.toNat i2*1)) [vl z aa aI]∧((0≤k2∧k2<(aa:Int))∧∃ay:Addr,z=some ay∧∃(ab:Int),Rd I10 F9 (ay.add (Int.toNat k2*1)) [vi ab]∧(It (ab != (wr ((wr (i2*1000))+k2))) (Q (.returned (vt false)) I10 F9) ((0≤i2∧i2<(e:Int))∧∃az:Addr,d=some az∧∃(ac:OA) (ae aJ:Nat),Rd I10 F9 (az.add (Int.toNat i2*1)) [vl ac ae aJ]∧((0≤k2∧k2<(ae:Int))∧∃aA:Addr,ac=some aA∧∃(af:Int),Rd I10 F9 (aA.add (Int.toNat k2*1)) [vi af]∧(It (af != (wr ((wr (i2*1000))+k2))) (Q (.returned (vt false)) I10 F9) (∃aB:Nat,aB<ao∧Inv83 i i2 (a:Int) x1 (wr (k2+1)) aB I9 F8 I10 F9))))))) ((∃aP:Nat,Inv103 i i2 (a:Int) x1 0 aP I10 F9 I10 F9)∧∀(x2:Bool) (k3:Int) (ap:Nat) (I11:cS) (F10:cR),cS.le I10 I11→Inv103 i i2 (a:Int) x2 k3 ap I10 F9 I11 F10→(Dt (k3<16) ((0≤i2∧i2<(e:Int))∧∃aC:Addr,d=some aC∧∃(ag:OA) (ah aK:Nat),Rd I11 F10 (aC.add (Int.toNat i2*1)) [vl ag ah aK]∧((0≤(wr ((a:Int)+k3))∧(wr ((a:Int)+k3))<(ah:Int))∧∃aj:Addr,ag=some aj∧∃(ai:Int),Rd I11 F10 (aj.add (Int.toNat (wr ((a:Int)+k3))*1)) [vi ai]∧(It (ai != (wr ((wr ((wr ((-1)-i2))*1000))-k3))) (Q (.returned (vt false)) I11 F10) (∃aD:Nat,aD<ap∧Inv103 i i2 (a:Int) x2 (wr (k3+1)) aD I10 F9 I11 F10)))) (∃aE:Nat,aE<an∧Inv68 i x2 (wr (i2+1)) aE I3 F4 I11 F10))))) (Q (.returned (vt true)) I9 F8))))))
theorem jD.vc{a:OA}{b c:Nat}{I:cS}{F:cR}{Q:cT}(Inv6:Int→Nat→cS→cR→cS→cR→Prop)(Inv18:Int→Nat→cS→cR→cS→cR→Prop)(Inv36:OA→Nat→Nat→Int→Nat→cS→cR→cS→cR→Prop)(Inv51:Int→Int→OA→Nat→Nat→Int→Nat→cS→cR→cS→cR→Prop)(Inv68:Int→Bool→Int→Nat→cS→cR→cS→cR→Prop)(Inv83:Int→Int→Int→Bool→Int→Nat→cS→cR→cS→cR→Prop)(Inv103:Int→Int→Int→Bool→Int→Nat→cS→cR→cS→cR→Prop)(h:jD.V (.int .i64) .slice .bool (IntKind.wrap .i64) a b c I F Q Inv6 Inv18 Inv36 Inv51 Inv68 Inv83 Inv103):cU P 44 #[.slice a b c] I F Q :=
 tw (A:=(dy [2003,5006,10003,14001,19003,23002,25011,25024,28001,30014] [] [] zn [(6,⟨[(3,(.int .i64))],[],fun fs I0 F0 vs m I F=>match fs,vs with | [],[.int _ y0]=>Inv6 y0 m I0 F0 I F | _,_=>False,[],[]⟩),(18,⟨[(4,(.int .i64))],[],fun fs I0 F0 vs m I F=>match fs,vs with | [],[.int _ y0]=>Inv18 y0 m I0 F0 I F | _,_=>False,[],[]⟩),(36,⟨[(5,.slc),(6,(.int .i64))],[],fun fs I0 F0 vs m I F=>match fs,vs with | [],[.slice y0 y1 y2,.int _ y3]=>Inv36 y0 y1 y2 y3 m I0 F0 I F | _,_=>False,[],[]⟩),(51,⟨[(7,.slc),(8,(.int .i64))],[],fun fs I0 F0 vs m I F=>match fs,vs with | [.int _ y0,.int _ y1],[.slice y2 y3 y4,.int _ y5]=>Inv51 y0 y1 y2 y3 y4 y5 m I0 F0 I F | _,_=>False,[3,6],[]⟩),(68,⟨[(2,.bool),(9,(.int .i64))],[],fun fs I0 F0 vs m I F=>match fs,vs with | [.int _ y0],[.bool y1,.int _ y2]=>Inv68 y0 y1 y2 m I0 F0 I F | _,_=>False,[3],[]⟩),(83,⟨[(2,.bool),(11,(.int .i64))],[],fun fs I0 F0 vs m I F=>match fs,vs with | [.int _ y0,.int _ y1,.int _ y2],[.bool y3,.int _ y4]=>Inv83 y0 y1 y2 y3 y4 m I0 F0 I F | _,_=>False,[3,9,10],[]⟩),(103,⟨[(2,.bool),(12,(.int .i64))],[],fun fs I0 F0 vs m I F=>match fs,vs with | [.int _ y0,.int _ y1,.int _ y2],[.bool y3,.int _ y4]=>Inv103 y0 y1 y2 y3 y4 m I0 F0 I F | _,_=>False,[3,9,10],[]⟩)] [16006,17002] [] [] [] [] [])) [] func44 h
def iU.V(vl:OA→Nat→Nat→Value)(vt:Bool→Value)(b:OA)(I:cS)(F:cR)(Q:cT)  : Prop:=∃ad:Addr,b=some ad∧∃(an:OA) (ao ap:Nat),Rd I F (ad.add 0) [vl an ao ap]∧dt P 33 #[vl an ao ap] I (·) F vt fun r I1 F1=>∃ar:Addr,b=some ar∧∃(h:OA) (i j:Nat),Rd I1 F1 (ar.add 1) [vl h i j]∧dt P 34 #[vl h i j] I1 (·) F1 vt fun r1 I2 F2=>∃au:Addr,b=some au∧∃(k:OA) (l m:Nat),Rd I2 F2 (au.add 2) [vl k l m]∧dt P 35 #[vl k l m] I2 (·) F2 vt fun r2 I3 F3=>∃av:Addr,b=some av∧∃(n:OA) (o p:Nat),Rd I3 F3 (av.add 3) [vl n o p]∧dt P 36 #[vl n o p] I3 (·) F3 vt fun r3 I4 F4=>∃aw:Addr,b=some aw∧∃(q:OA) (s t:Nat),Rd I4 F4 (aw.add 6) [vl q s t]∧dt P 37 #[vl q s t] I4 (·) F4 vt fun r4 I5 F5=>∃ax:Addr,b=some ax∧∃(u:OA) (v w:Nat),Rd I5 F5 (ax.add 5) [vl u v w]∧dt P 38 #[vl u v w] I5 (·) F5 vt fun r5 I6 F6=>∃ay:Addr,b=some ay∧∃(x:OA) (y z:Nat),Rd I6 F6 (ay.add 4) [vl x y z]∧dt P 39 #[vl x y z] I6 (·) F6 vt fun r6 I7 F7=>∃az:Addr,b=some az∧∃(aa:OA) (ab ac:Nat),Rd I7 F7 (az.add 7) [vl aa ab ac]∧dt P 40 #[vl aa ab ac] I7 (·) F7 vt fun r7 I8 F8=>∃aA:Addr,b=some aA∧∃(ae:OA) (af ag:Nat),Rd I8 F8 (aA.add 9) [vl ae af ag]∧dt P 41 #[vl ae af ag] I8 (·) F8 vt fun r8 I9 F9=>∃aB:Addr,b=some aB∧∃(ah:OA) (ai aj:Nat),Rd I9 F9 (aB.add 8) [vl ah ai aj]∧dt P 42 #[vl ah ai aj] I9 (·) F9 vt fun r9 I10 F10=>∃al:Addr,b=some al∧∃(a:OA) (c d:Nat),Rd I10 F10 (al.add 10) [vl a c d]∧dt P 43 #[vl a c d] I10 (·) F10 vt fun ak I11 F11=>∃am:Addr,b=some am∧∃(e:OA) (f g:Nat),Rd I11 F11 (am.add 11) [vl e f g]∧dt P 44 #[vl e f g] I11 (·) F11 vt fun aq I12 F12=>(It r (It r1 (It r2 (It r3 (It r4 (It r5 (It r6 (It r7 (It r8 (It r9 (It ak (Q (.returned (vt aq)) I12 F12) (Q (.returned (vt false)) I12 F12)) (Q (.returned (vt false)) I12 F12)) (Q (.returned (vt false)) I12 F12)) (Q (.returned (vt false)) I12 F12)) (Q (.returned (vt false)) I12 F12)) (Q (.returned (vt false)) I12 F12)) (Q (.returned (vt false)) I12 F12)) (Q (.returned (vt false)) I12 F12)) (Q (.returned (vt false)) I12 F12)) (Q (.returned (vt false)) I12 F12)) (Q (.returned (vt false)) I12 F12))
theorem iU.vc{b:OA}{I:cS}{F:cR}{Q:cT}  (h:iU.V .slice .bool b I F Q):cU P 15 #[.pointer b] I F Q :=
 tw (A:=(an [13000,13002,13005,13008,13011,13014,13017,13020,13023,13026,13029] [33,34,35,36,37,38,39,40,41,42,43,44] zn)) [33,34,35,36,37,38,39,40,41,42,43,44] func15 h
end Go.Lx
namespace Go.Lx
open Go.Vc
theorem cU.pre{P:Program}{f:FuncId}{args:Array Value}{I:cS}{F:cR}{Q:Ending→cS→cR→Prop}(h:∀w,Sat I F w→∃J G,cS.le I J∧Sat J G w∧cU P f args J G Q):cU P f args I F Q:=fun w hw =>
 let ⟨J,G,hl,hs,ht⟩:=h w hw
 (ht w hs).mono fun e w' ⟨I',F',h1,h2,h3⟩=>⟨I',F',cS.le_trans hl h1,h2,h3⟩
def _root_.Go.Vc.Row.v(r:Row):Value:=.slice r.a r.n r.c
def fy(f:Nat)(r:Row)(H:cR):Prop:=∀(I:cS) (F:cR),cU P f #[r.v] I (H++F) fun e I' G=>e=.returned (.bool true)∧G=F
theorem mn{f z e S:Nat}(spec:∀{rs:List Row} {ls:List (List (Ck z))} {H F:cR} {la:Option Addr} {ln lc:Nat} {I:cS},Sl I 1 Row.enc la ln rs→dX z e rs ls H→Bd ls→rs.length≤1000000000 →
   cU P f #[.slice la ln lc] I (H++F) fun e I' G=>e=.returned (.bool true)∧G=F)
  {r:Row} {rs:List Row} {ls:List (List (Ck z))} {Al H:cR} (hA:Acc 1 Row.enc S r.a r.n r.c rs Al) (hH:dX z e rs ls H) (hb:Bd ls) (hl:rs.length≤1000000000):fy f r (Al++H):=by
 intro I F
 refine cU.pre fun w hw=>?_
 rw[List.append_assoc] at hw
 obtain⟨J,hJ,hs,hS⟩:=Acc.keep (z:=1) (f:=Row.enc) (fun _=>rfl) hA hw
 exact⟨J,_,hJ,hs,spec hS hH hb hl⟩
theorem rX{f z e:Nat}(spec:∀{rs:List Row} {ls:List (List (Ck z))} {H F:cR} {la:Option Addr} {ln lc:Nat} {I:cS},Sl I 1 Row.enc la ln rs→dX z e rs ls H→Bd ls→rs.length≤1000000000 →
   cU P f #[.slice la ln lc] I (H++F) fun e I' G=>e=.returned (.bool true)∧G=F):fy f ⟨none,0,0⟩ []:=fun I F =>
 spec (rs:=[]) (ls:=[]) (H:=[]) ⟨rfl,fun h=>absurd rfl h⟩ rfl (fun j l h=>by simp at h) (by decide)
theorem wu:fy 44 ⟨none,0,0⟩ []:=by
 intro I F
 refine jD.vc (fun i m I0 F0 I' F'=>i=0∧F'=F) (fun k m I0 F0 I' F'=>False) (fun a n c i m I0 F0 I' F'=>i=0∧F'=F) (fun _ _ _ _ _ _ _ _ _ _ _=>False)
  (fun _ x i m I0 F0 I' F'=>i=0∧F'=F) (fun _ _ _ _ _ _ _ _ _ _=>False) (fun _ _ _ _ _ _ _ _ _ _=>False) ?_
 unfold jD.V
 refine⟨⟨0,rfl,rfl⟩,fun i m1 I1 F1 _ ⟨hi,hF⟩=>?_⟩
 subst hi hF
 refine⟨fun h=>absurd h (by decide),fun _=>⟨⟨0,rfl,rfl⟩,fun a n c i m7 I4 F4 _ ⟨hi,hF⟩=>?_⟩⟩
 subst hi hF
 refine⟨fun h=>absurd h (by decide),fun _=>⟨⟨0,rfl,rfl⟩,fun x i m I11 F9 _ ⟨hi,hF⟩=>?_⟩⟩
 subst hi hF
 exact⟨fun h=>absurd h (by decide),fun _=>⟨rfl,rfl⟩⟩
def dq(rw:Nat→Row):Array Value:=#[(rw 0).v,(rw 1).v,(rw 2).v,(rw 3).v,(rw 4).v,(rw 5).v,(rw 6).v,(rw 7).v,(rw 8).v,(rw 9).v,(rw 10).v,(rw 11).v]
theorem gN{I:cS}{G:cR}{b:Nat}{cells:Array Value}(h:(b,Obj.cells cells 37 (0,0))∈G){k:Nat}{v:Value}(hv:cells[k]? = some v):Rd I G ((⟨b,0,none⟩:Addr).add k) [v]:=by
 rw[dg]
 refine⟨rfl,_,_,_,.inr h,fun j hj=>?_⟩
 have:j=0:=by simpa using hj
 subst this
 simpa using hv
theorem gI{f:Nat}{r:Row}{H R:cR}{I:cS}{b:Nat×Obj}{Q:Ending→cS→cR→Prop}(h:fy f r H)(k:∀I',cS.le I I'→Q (.returned (.bool true)) I' (b::R)):cU P f #[r.v] I (b::(H++R)) Q :=
 cU.perm ((h I (b::R)).mono fun e I' G hl ⟨he,hG⟩=>by subst he;subst hG;exact k I' hl) List.perm_middle.symm
theorem uQ{rw:Nat→Row}{Hs:Nat→cR}{b:Nat}{I:cS}{F:cR}(h0:fy 33 (rw 0) (Hs 0))(h1:fy 34 (rw 1) (Hs 1))(h2:fy 35 (rw 2) (Hs 2))(h3:fy 36 (rw 3) (Hs 3))
  (h6:fy 37 (rw 6) (Hs 6)) (h5:fy 38 (rw 5) (Hs 5)) (h4:fy 39 (rw 4) (Hs 4)) (h7:fy 40 (rw 7) (Hs 7)) (h9:fy 41 (rw 9) (Hs 9)) (h8:fy 42 (rw 8) (Hs 8)) (h10:fy 43 (rw 10) (Hs 10)) (h11:fy 44 (rw 11) (Hs 11)) :
  cU P 15 #[.pointer (some ⟨b,0,none⟩)] I ((b,Obj.cells (dq rw) 37 (0,0))::(Hs 0++(Hs 1++(Hs 2++(Hs 3++(Hs 6++(Hs 5++(Hs 4++(Hs 7++(Hs 9++(Hs 8++(Hs 10++(Hs 11++F)))))))))))))
   fun e I' G=>e=.returned (.bool true)∧G=F:=by
 refine cU.keep (Q:=fun e I' G=>e=.returned (.bool true)∧G=(b,Obj.cells (dq rw) 37 (0,0))::F) ?_ fun e I' G w hl hs ⟨he,hG⟩=>⟨I',F,cS.le_refl _,by subst hG;exact hs.sub (List.sublist_cons_self _ _),he,rfl⟩
 refine iU.vc ?_
 unfold iU.V
 refine⟨_,rfl,_,_,_,gN (List.mem_cons_self ..) rfl,gI h0 fun I1 g1=>⟨_,rfl,_,.refl _, ?_⟩⟩
 refine⟨_,rfl,_,_,_,gN (List.mem_cons_self ..) rfl,gI h1 fun I1 g1=>⟨_,rfl,_,.refl _, ?_⟩⟩
 refine⟨_,rfl,_,_,_,gN (List.mem_cons_self ..) rfl,gI h2 fun I1 g1=>⟨_,rfl,_,.refl _, ?_⟩⟩
 refine⟨_,rfl,_,_,_,gN (List.mem_cons_self ..) rfl,gI h3 fun I1 g1=>⟨_,rfl,_,.refl _, ?_⟩⟩
 refine⟨_,rfl,_,_,_,gN (List.mem_cons_self ..) rfl,gI h6 fun I1 g1=>⟨_,rfl,_,.refl _, ?_⟩⟩
 refine⟨_,rfl,_,_,_,gN (List.mem_cons_self ..) rfl,gI h5 fun I1 g1=>⟨_,rfl,_,.refl _, ?_⟩⟩
 refine⟨_,rfl,_,_,_,gN (List.mem_cons_self ..) rfl,gI h4 fun I1 g1=>⟨_,rfl,_,.refl _, ?_⟩⟩
 refine⟨_,rfl,_,_,_,gN (List.mem_cons_self ..) rfl,gI h7 fun I1 g1=>⟨_,rfl,_,.refl _, ?_⟩⟩
 refine⟨_,rfl,_,_,_,gN (List.mem_cons_self ..) rfl,gI h9 fun I1 g1=>⟨_,rfl,_,.refl _, ?_⟩⟩
 refine⟨_,rfl,_,_,_,gN (List.mem_cons_self ..) rfl,gI h8 fun I1 g1=>⟨_,rfl,_,.refl _, ?_⟩⟩
 refine⟨_,rfl,_,_,_,gN (List.mem_cons_self ..) rfl,gI h10 fun I1 g1=>⟨_,rfl,_,.refl _, ?_⟩⟩
 refine⟨_,rfl,_,_,_,gN (List.mem_cons_self ..) rfl,gI h11 fun I1 g1=>⟨_,rfl,_,.refl _, ?_⟩⟩
 repeat (refine⟨fun _=>?_,fun h=>by (cases h)⟩)
 exact⟨rfl,rfl⟩
theorem wv:fy 43 ⟨none,0,0⟩ []:=by
 intro I F
 refine jC.vc (fun i m I0 F0 I' F'=>i=0∧F'=F) (fun _ k m I0 F0 I' F'=>False) (fun a n c i m I0 F0 I' F'=>i=0∧F'=F) (fun _ _ _ _ _ _ _ _ _ _ _ _ _=>False)
  (fun _ _ _ x i m I0 F0 I' F'=>i=0∧F'=F) (fun _ _ _ _ _ _ _ _ _ _ _ _=>False) (fun _ _ _ _ _ _ _ _ _ _ _ _=>False) ?_
 unfold jC.V
 refine⟨⟨0,rfl,rfl⟩,fun i m1 I1 F1 _ ⟨hi,hF⟩=>?_⟩
 subst hi hF
 refine⟨fun h=>absurd h (by decide),fun _=>⟨⟨0,rfl,rfl⟩,fun a n c i m7 I4 F4 _ ⟨hi,hF⟩=>?_⟩⟩
 subst hi hF
 refine⟨fun h=>absurd h (by decide),fun _=>⟨⟨0,rfl,rfl⟩,fun x i m I11 F9 _ ⟨hi,hF⟩=>?_⟩⟩
 subst hi hF
 exact⟨fun h=>absurd h (by decide),fun _=>⟨rfl,rfl⟩⟩
theorem qU:∀(l m:List Nd),Nd.jq (l++m)=Nd.jq l++Nd.jq m
 | [],m=>rfl
 | x::l,m=>by rw[List.cons_append,Nd.jq,Nd.jq,qU l m,List.append_assoc]
theorem tJ{l:List Nd}{i:Nat}{x:Nd}(h:l[i]? = some x):Nd.jq (l.take (i+1))=Nd.jq (l.take i)++x.rows:=by
 obtain⟨hk,rfl⟩:=List.getElem?_eq_some_iff.1 h
 rw[List.take_succ_eq_append_getElem hk,qU,Nd.jq,Nd.jq,List.append_nil]
def uR(rw:Nat→Row)(j:Nat)(r:Row):Nat→Row:=fun k=>if k=j then r else rw k
theorem DE(rw:Nat→Row)(j:Nat)(r r':Row):uR (uR rw j r) j r'=uR rw j r':=by
 funext k;unfold uR;split<;>rfl
theorem tK(rw:Nat→Row)(j:Nat)(r:Row):uR rw j r j=r:=if_pos rfl
theorem tL:∀(t:Nd),t.px.size≤1048576→∀{rw:Nat→Row} {b:Nat} {rs:List Row} {Al R:cR},Acc 1 Row.enc 62 (rw 1).a (rw 1).n (rw 1).c rs Al→(rs.length:Int)+t.px.size≤1000000000→∀(I:cS),dO I R t →
  cU P 19 #[.pointer (some ⟨b,0,none⟩),t.v] I ((b,Obj.cells (dq rw) 37 (0,0))::(Al++R)) fun e I' G=>e=.returned (.tuple #[]) ∧
   ∃r' Al',Acc 1 Row.enc 62 r'.a r'.n r'.c (rs++t.rows) Al'∧G.Perm ((b,Obj.cells (dq (uR rw 1 r')) 37 (0,0))::(Al'++R)):=by
 refine Nd.ind fun t ih hs rw b rs Al R hA hl I ht=>?_
 have hln:=CD hs
 have hsz:t.px.size=1+Px.eh (t.kids.map Nd.px):=by rw[Px.size_eq,Nd.jZ]
 have hrl:∀i,(Nd.jq (t.kids.take i)).length+(0:Int)≤Px.eh (t.kids.map Nd.px):=by
  have h1:∀l:List Nd,((Nd.jq l).length:Int)=Px.eh (l.map Nd.px):=by
   intro l
   induction l with
   | nil=>rfl
   | cons x r ihl=>rw[Nd.jq,List.map_cons,Px.eh,List.length_append,←ihl,←tB];omega
  have h2:∀l m:List Nd,Px.eh ((l++m).map Nd.px)=Px.eh (l.map Nd.px)+Px.eh (m.map Nd.px):=by
   intro l m
   rw[←h1,←h1,←h1,qU,List.length_append];omega
  intro i
  have h3:=h2 (t.kids.take i) (t.kids.drop i)
  rw[List.take_append_drop] at h3
  have h4:=Px.ku ((t.kids.drop i).map Nd.px)
  rw[h1];omega
 refine iq.vc (fun i m I' F'=>0≤i∧i≤t.kids.length∧m=(t.kids.length-i).toNat∧∃r' Al',Acc 1 Row.enc 62 r'.a r'.n r'.c (rs++(⟨t.a,t.kids.length,t.c⟩::Nd.jq (t.kids.take i.toNat))) Al' ∧
  F'.Perm ((b,Obj.cells (dq (uR rw 1 r')) 37 (0,0))::(Al'++R))) ?_
 unfold iq.V
 intro b_x
 refine⟨_,rfl,_,_,_,gN (List.mem_cons_of_mem _ (List.mem_cons_self ..)) rfl, ?_⟩
 intro b1 I1 hI1 hb1
 refine dk.perm (dk.mono (eG (f:=Row.enc) (z:=1) (zv:=.slice none 0 0) (fun _=>rfl) (by':=24) (by kernel_rfl) (by kernel_rfl) rfl (by decide) hA (xs:=[⟨t.a,t.kids.length,t.c⟩]) (fun x _=>qf x) (by simp) rfl ?_ ?_
  (F:=(b_x,.cells #[.int .u8 t.kind,.int .u8 t.oper,.int .u8 t.dU,.int .i64 t.n,.int .u8 t.field,.string t.name,.slice t.a t.kids.length t.c,.int .i64 t.pos] 64 (0,0))::(b,Obj.cells (dq rw) 37 (0,0))::R)) fun v I2 G hI2 ⟨a',n',c',A',hv,hA',hG',_⟩=>?_) (cV fun x=>by simp only[cX,cW];omega)
 ·exact⟨rfl,_,_,_,.inl hb1,fun j hj=>by simp[Row.enc]⟩
 ·have:=Px.size_pos t.px;simp only[List.length_cons,List.length_nil];omega
 subst hG'
 refine⟨_,_,_,hv,(b,Obj.cells (dq rw) 37 (0,0))::(A'++R),cV fun x=>by simp only[cX,cW];omega,_,rfl,(dq rw).toList,37,A'++R, ?_, ?_, ?_,⟨_,by omega,by omega,rfl,⟨a',n',c'⟩,A', ?_, ?_⟩, ?_⟩
 ·exact .refl _
 ·rw[dg]
 ·rw[dg];exact (by decide:1+1≤12)
 ·exact hA'
 ·rw[dg];exact .refl _
 intro i m I3 F3 hI3 ⟨g0,g1,gm,r',Al',hAc,hF⟩
 refine⟨fun hlt=>?_,fun hlt=>⟨rfl,r',Al', ?_,hF⟩⟩
 ·have hlt:=of_decide_eq_true hlt
  have hle:=cS.le_trans hI1 (cS.le_trans hI2 hI3)
  have ht3:dO I3 F3 t:=ht.mono hle fun x hx=>hF.mem_iff.2 (List.mem_cons_of_mem _ (List.mem_append_right _ hx))
  obtain⟨ad,x,had,hx,hrd,hxo,hxm⟩:=(ht3.cons (x:=(b_x,.cells t.enc.toArray 64 (0,0)))).kids.at g0 hlt
  have hlen:=hrl (i.toNat+1)
  rw[tJ hx,List.length_append] at hlen
  have hxr:=tB x
  refine⟨⟨g0,hlt⟩,ad,had,_,_,_,_,_,_,_,_,_,_,hrd,cU.perm ((ih x hxm (CC hxm hs) (rw:=uR rw 1 r') (b:=b) (rs:=rs++(⟨t.a,t.kids.length,t.c⟩::Nd.jq (t.kids.take i.toNat))) (Al:=Al') (R:=(b_x,.cells #[.int .u8 t.kind,.int .u8 t.oper,.int .u8 t.dU,.int .i64 t.n,.int .u8 t.field,.string t.name,.slice t.a t.kids.length t.c,.int .i64 t.pos] 64 (0,0))::R)
   (by rw[tK];exact hAc) ?_ I3 ((ht.mono hle fun _ h=>h).cons.DA x hxm)).mono fun e I4 G hI4 ⟨he,r2,Al2,hA2,hG⟩=>?_) ?_⟩
  ·rw[List.length_append,List.length_cons];omega
  ·subst he
   rw[DE] at hG
   refine⟨rfl,(b,Obj.cells (dq (uR rw 1 r2)) 37 (0,0))::(Al2++R),hG.trans (cV fun x=>by simp only[cX,cW];omega),(t.kids.length-(i+1)).toNat,by omega, ?_⟩
   rw[ew (n:=i+1) (by omega)]
   refine⟨by omega,by omega,rfl,r2,Al2, ?_,.refl _⟩
   rw[show (i+1).toNat=i.toNat+1 by omega,tJ hx,←List.cons_append,←List.append_assoc];exact hA2
  ·exact cV fun x=>by have:=gg hF x;simp only[cX,cW] at this ⊢;omega
 ·have hlt:=of_decide_eq_false hlt
  rw[Nd.wj]
  rw[List.take_of_length_le (l:=t.kids) (i:=i.toNat) (by omega)] at hAc
  exact hAc
end Go.Lx
namespace Go.Vc
end Go.Vc
namespace Go.Lx
open Go.Vc
end Go.Lx
namespace Go.Vc
def ns:FrameMode→Value→FrameMode→Prop
 | .returning,v,u=>v=.nilIface∧u=.returning
 | .panicking ({ v:=x,recovered:=false,goexit:=false }::older),v,u=>v=x∧u=.panicking ({ v:=x,recovered:=true }::older)
 | _,_,_=>False
theorem vu:ns .returning .nilIface .returning:=⟨rfl,rfl⟩
theorem vv(v:Value):ns (.panicking [{ v:=v,recovered:=false }]) v (.panicking [{ v:=v,recovered:=true }]):=⟨rfl,rfl⟩
def E3(o:Oper):Bool:=match o.op,o.guard with
 | .call { callee:=.builtin .recover,args:=_,argTypes:=_ },none=>true
 | _,_=>false
theorem ns.at{c:Frame}{cs:List Frame}{u u1:FrameMode}{v:Value}(hu:c.mode=u)(h:ns u v u1) :
  recoverD (c::cs)=some (v,{ c with mode:=u1 }::cs)∨(recoverD (c::cs)=none∧v=.nilIface∧{ c with mode:=u1 }::cs=c::cs):=by
 subst hu
 unfold ns at h
 split at h
 ·rename_i hm
  obtain⟨h1,h2⟩:=h
  refine .inr ⟨by simp[recoverD,hm],h1, ?_⟩
  subst h2
  rw[←hm]
 ·rename_i hm
  obtain⟨h1,h2⟩:=h
  subst h1 h2
  exact .inl (by simp[recoverD,hm])
 ·exact h.elim
theorem Br{P:Program}{id:Nat}{ops:Array Oper}{o:Oper}{r:List Oper}{Q:Exit→Act→List Frame→World→Prop}{a:Act}{cs cs':List Frame}{w:World}{v:Value}(hl:ops.toList=o::r)(ho:E3 o=true)
  (hrec:recoverD cs=some (v,cs')∨(recoverD cs=none∧v=.nilIface∧cs'=cs)) (h:wpListIn Fence.wide 0 P ops (fun e a' w'=>Q e a' cs' w') r (a.put o.dst v) w) :
  (Code.region id ops false).wpSIn Fence.wide 0 P Q a cs w:=by
 intro b k hb hr hF hroom
 have hsz:ops.size=r.length+1:=by rw[←Array.length_toList,hl];rfl
 have h0:ops[0]? = some o:=by rw[←Array.getElem?_toList,hl];rfl
 have hrest:∀j,r[j]? = ops[1+j]?:=fun j=>by rw[←Array.getElem?_toList,hl,Nat.add_comm];rfl
 rw[←wpOpsIn_eq_wpListIn r 1 hrest] at h
 have hex:∀ci,o.op=.call ci→True:=fun _ _=>trivial
 have hop:∃ci,o.op=.call ci∧ci.callee=.builtin .recover∧o.guard=none:=by
  unfold E3 at ho
  split at ho
  ·rename_i h1 h2;exact⟨_,h1,rfl,h2⟩
  ·cases ho
 obtain⟨ci,hci,hcal,hgd⟩:=hop
 have hw:Region.wanted o (yielded ops a.tmps)=true:=by unfold Region.wanted;rw[hgd]
 have hrun:(execOp a.eval o).run P w=.ok .recover w:=by
  obtain⟨cal,args,tys⟩:=ci
  simp only at hcal
  subst hcal
  simp only[execOp,hci]
  rfl
 have hlen:cs'.length=cs.length:=by
  rcases hrec with hrec | ⟨_,_,rfl⟩
  ·exact recoverD_length hrec
  ·rfl
 obtain⟨e,a',w',q,harr⟩:=wp_opsIn _ _ _ h b k cs' (hr.trans rfl) hF (hlen▸hroom)
 refine⟨e,a',cs',w',hlen,q,.of_steps (.one (fenced_calm hF hroom rfl) stepR_region) ?_⟩
 rw[List.range_eq_range',hsz,List.range'_succ]
 have hg:=stepGR_op (P:=P) (b:=b) (k:=k) (cs:=cs) (w:=w) (rest:=List.range' (0+1) r.length) h0 hw
 rw[hr,Oper.semAt_none] at hg
 have hfin:∀v,(b.atR a (.inRegion ops (0::List.range' (0+1) r.length)::k)).finish v=b.atR (a.put o.dst v) (.inRegion ops (List.range' (0+1) r.length)::k):=by
  intro v;rw[Frame.finish_atR,h0];rfl
 have hk:(b.atR a (.inRegion ops (0::List.range' (0+1) r.length)::k)).kind=.deferred:=hb
 have htr:=tryRecover_deferred hk cs
 refine .of_steps (.one (fenced_oper hF hroom h0 fun f _=>trivial) (step_lone_go ?_)) harr
 rw[hg,←hfin]
 simp only[Frame.atR,hr] at htr ⊢
 rcases hrec with hrec | ⟨hrec,rfl,rfl⟩
 ·simp[stepG.apply,hrun,htr,hrec]
 ·simp[stepG.apply,hrun,htr,hrec]
def xY(P:Program)(rs:List ResultVar)(keep:List Nat)(Q:Ending→cS→cR→Prop)(u:Option (List PanicEntry))(σ:S)(I:cS)(F:cR):Prop:=match σ.df with
 | []=>match u with
   | none=>(match pj P σ rs with
     | some vs=>Q (.returned (zc vs)) I (dm (pick σ.own keep)++F)
     | none=>False)
   | some ch=>Q (.panicked ch) I (dm (pick σ.own keep)++F)
 | _=>False
def zo(P:Program)(rs:List ResultVar)(keep:List Nat)(Q:Ending→cS→cR→Prop):Kt
 | .normal,σ,I,F=>xY P rs keep Q none σ I F
 | .ret,σ,I,F=>xY P rs keep Q none σ I F
 | .panic ch,σ,I,F=>xY P rs keep Q (some ch) σ I F
 | _,_,_,_=>False
def E4(P:Program)(A:oK)(v:Value)(rs:List ResultVar)(keep:List Nat)(Q:Ending→cS→cR→Prop)(σ:S)(I:cS)(F:cR):Code→Prop
 | .seq (.region id ops false) rest=>match ops.toList with
   | o::r=>cond (E3 o) (vS P A id ops r 1 (σ.put o.dst (some (.a (.v v)))) I F (W P A none rest 2 (zo P rs keep Q)) (fun ch=>zo P rs keep Q (.panic ch))) False
   | []=>False
 | _=>False
section
variable {P:Program} {A:oK}
theorem Ge{fn:Func}{keep:List Nat}(hk:Dl 0 keep=true){Q:Ending→cS→cR→Prop}{c0:Frame}{cs:List Frame}{u1:FrameMode}{R:Ending→FrameMode→World→Prop}{I0:cS}
  (hR:∀e I' F' w',cS.le I0 I'→Sat I' F' w'→Q e I' F'→R e u1 w') {e:Exit} {σ:S} {I:cS} {F:cR} {a:Act} {w:World} (hr:Rel σ I F a w) (hl:cS.le I0 I)
  (h:zo P fn.results.toList keep Q e σ I F):bodyPostS P fn c0 cs R e a ({ c0 with mode:=u1 }::cs) w:=by
 have hsub:Sat I (dm (pick σ.own keep)++F) w:=by
  have h5:=tb keep 0 σ.own hk
  rw[List.drop_zero] at h5
  exact hr.sat.sub ((h5.map _).append (List.Sublist.refl F))
 have key:∀u,xY P fn.results.toList keep Q u σ I F→a.defers=[]∧match u with
   | none=>∃v,(results fn a.tmps).run P w=.ok v w∧Q (.returned v) I (dm (pick σ.own keep)++F)
   | some ch=>Q (.panicked ch) I (dm (pick σ.own keep)++F):=by
  intro u h
  unfold xY at h
  split at h
  ·rename_i hd
   refine⟨by rw[hr.defers,hd];rfl, ?_⟩
   cases u with
   | none =>
     simp only at h ⊢
     split at h
     ·rename_i vs hvs;exact⟨_,rC hr hvs,h⟩
     ·exact h.elim
   | some ch=>exact h
  ·exact h.elim
 cases e with
 | normal=>obtain⟨h1,v,h2,h3⟩:=key none h;exact⟨h1,u1,rfl,v,h2,hR _ _ _ _ hl hsub h3⟩
 | ret=>obtain⟨h1,v,h2,h3⟩:=key none h;exact⟨h1,u1,rfl,v,h2,hR _ _ _ _ hl hsub h3⟩
 | panic ch=>obtain⟨h1,h2⟩:=key (some ch) h;exact⟨h1,u1,rfl,hR _ _ _ _ hl hsub h2⟩
 | exit id=>exact h.elim
 | goto l=>exact h.elim
 | outgrown=>exact h.elim
theorem Bt(hP:∀f,A.good f=true→dA P f){f:FuncId}{fn:Func}{c:Code}(hf:P.funcs[f]? = some fn)(hb:fn.body=some c){args:List AV}{own:List dQ}
  {I:cS} {F:cR} {keep:List Nat} {Q:Ending→cS→cR→Prop} (hk:Dl 0 keep=true) (hwa:∀x∈args,AV.wf own x) (hwo:∀b∈own,∀x∈b.cells,AV.wf own x) {u u1:FrameMode} {v:Value} (hrec:ns u v u1)
  (h:E4 P A v fn.results.toList keep Q ⟨lu args fn.ntmps,own,[]⟩ I F c) {vs:List Value} (hv:vs=args.map AV.g):iL P f vs u I (dm own++F) fun e u' I' G=>u'=u1∧Q e I' G:=by
 subst hv
 intro w hw
 unfold E4 at h
 split at h
 ·rename_i id ops rest
  split at h
  ·rename_i o r hl
   obtain⟨ho,h⟩:=dh h
   refine callsDIn_of_wpSIn hf hb trivial fun c0 cs hu=>?_
   refine wpSIn_seq (Br hl ho (ns.at hu hrec) ?_)
   have hrel:Rel ⟨lu args fn.ntmps,own,[]⟩ I F { tmps:=(args.map AV.g).toArray++Array.replicate (fn.ntmps-(args.map AV.g).toArray.size) undef,defers:=[] } w:=by
    refine⟨by simp[lu], ?_,rfl, ?_, ?_,hw⟩
    ·intro t av ht
     simp only[lu,List.getElem?_append] at ht
     split at ht
     ·rename_i hlt
      simp only[List.getElem?_map] at ht
      cases ha:args[t]? with
      | none=>rw[ha] at ht;simp at ht
      | some x =>
        rw[ha] at ht
        simp only[Option.map_some,Option.some.injEq] at ht
        subst ht
        simp at hlt
        rw[Array.getElem?_append_left (by simpa using hlt)]
        simp[ha]
     ·rw[List.getElem?_replicate] at ht;split at ht<;>cases ht
    ·intro t av ht
     simp only[lu,List.getElem?_append] at ht
     split at ht
     ·simp only[List.getElem?_map] at ht
      cases ha:args[t]? with
      | none=>rw[ha] at ht;simp at ht
      | some x =>
        rw[ha] at ht
        simp only[Option.map_some,Option.some.injEq] at ht
        subst ht
        exact hwa _ (List.mem_of_getElem? ha)
     ·rw[List.getElem?_replicate] at ht;split at ht<;>cases ht
    ·exact fun i b hb' x hx=>hwo b (List.mem_of_getElem? hb') x hx
   have hrel2:=hrel.put o.dst (av:=.a (.v v)) (v:=v) rfl trivial
   refine kU (ro:=none) hP r 1 _ I F _ w (.inl rfl) h hrel2 ?_ ?_
   ·intro σ' I' F' a' w' h1 h2 h3 _
    refine wpSIn_of_wpIn rfl (wpIn_mono (Ak hP rest 2 _ none none σ' I' F' a' w' rfl h3 h1) ?_)
    intro e a2 w2 ⟨σ2,I2,F2,g1,g2,g3,_⟩
    exact Ge (fn:=fn) hk (fun e I3 F3 w3 hl3 hs3 hq3=>⟨I3,F3,hl3,hs3,rfl,hq3⟩) g1 (cS.le_trans h2 g2) g3
   ·intro ch σ' I' F' a' w' h1 h2 h3 _
    show bodyPostS P fn c0 cs (fun e u' w'=>∃I' F',I.le I'∧Sat I' F' w'∧u'=u1∧Q e I' F') (.panic ch) a' _ w'
    exact Ge (fn:=fn) hk (e:=.panic ch) (fun e I3 F3 w3 hl3 hs3 hq3=>⟨I3,F3,hl3,hs3,rfl,hq3⟩) h1 h2 h3
  ·exact h.elim
 ·exact h.elim
theorem oy{f:FuncId}{fn:Func}{args:List AV}{own:List dQ}{I:cS}{F:cR}{keep:List Nat}{Q:cT}{V:Prop}{u u1:FrameMode}{v:Value}(gd:List Nat)(hf:P.funcs[f]? = some fn)(hrec:ns u v u1)(h:V)
  (e:E4 P A v fn.results.toList keep Q ⟨lu args fn.ntmps,own,[]⟩ I F (fn.body.getD .skip)=V) (hg:A.good=p7 gd) (hG:gd.all (td P)=true) (hb:fn.body=some (fn.body.getD .skip)) (hk:Dl 0 keep=true)
  (hwa:∀x∈args,AV.wf own x) (hwo:∀b∈own,∀x∈b.cells,AV.wf own x) {vs:List Value} (hv:vs=args.map AV.g):iL P f vs u I (dm own++F) fun e u' I' G=>u'=u1∧Q e I' G :=
 Bt (fun f hf'=>rD gd hG f (by rw[←hg];exact hf')) hf hb hk hwa hwo hrec (by rw[←e] at h;exact h) hv
end
end Go.Vc
namespace Go.Lx
open Go.Vc
end Go.Lx
namespace Go.Vc
theorem iL.mono{P:Program}{f:FuncId}{args:List Value}{u:FrameMode}{I:cS}{F:cR}{Q Q':Ending→FrameMode→cS→cR→Prop}(h:iL P f args u I F Q)(k:∀e u' I' G,cS.le I I'→Q e u' I' G→Q' e u' I' G):iL P f args u I F Q' :=
 fun w hw=>(h w hw).mono fun e u' w' ⟨I',F',h1,h2,h3⟩=>⟨I',F',h1,h2,k _ _ _ _ h1 h3⟩
end Go.Vc
namespace Go.Lx
open Go.Vc
end Go.Lx
namespace Go.Vc
open Go.MapKept
section
variable {P:Program} {κ β:Type} {d:TypeDesc} {key:κ→Value} {val:β→Value} {g:κ→Option β} {es:Array MapEntry} {clock:Nat} {t kt et:TypeId} {I:cS} {F:cR} {r:Nat} {k:κ} {z:Value}
variable [DecidableEq κ]
end
end Go.Vc
namespace Go.Vc
end Go.Vc
namespace Go.Lx
open Go.Vc
structure fp where
 name:ByteArray
 dU:Int
 init:Px
 pos:Int
structure dp where
 name:ByteArray
 pos:Int
structure jw where
 kind:Int
 order:Int
 name:ByteArray
 side:Px
 qty:Px
 price:Px
 value:Px
 pos:Int
structure eE where
 when:Px
 dos:List jw
 pos:Int
structure dF where
 name:ByteArray
 rules:List eE
 pos:Int
structure fT where
 name:ByteArray
 regs:List fp
 slots:List dp
 states:List dF
structure dw where
 name:ByteArray
 dU:Int
 init:Nd
 pos:Int
structure eJ where
 kind:Int
 order:Int
 name:ByteArray
 side:Nd
 qty:Nd
 price:Nd
 value:Nd
 pos:Int
structure dc where
 when:Nd
 a:Option Addr
 c:Nat
 dos:List eJ
 pos:Int
structure cZ where
 name:ByteArray
 a:Option Addr
 c:Nat
 rules:List dc
 pos:Int
structure dV where
 name:ByteArray
 ra:Option Addr
 rc:Nat
 regs:List dw
 sa:Option Addr
 sc:Nat
 slots:List dp
 ta:Option Addr
 tc:Nat
 states:List cZ
def dw.p(r:dw):fp:=⟨r.name,r.dU,r.init.px,r.pos⟩
def eJ.p(d:eJ):jw:=⟨d.kind,d.order,d.name,d.side.px,d.qty.px,d.price.px,d.value.px,d.pos⟩
def dc.p(r:dc):eE:=⟨r.when.px,r.dos.map eJ.p,r.pos⟩
def cZ.p(s:cZ):dF:=⟨s.name,s.rules.map dc.p,s.pos⟩
def dV.p(s:dV):fT:=⟨s.name,s.regs.map dw.p,s.slots,s.states.map cZ.p⟩
abbrev dw.enc(r:dw):List Value:=[.string r.name,.int .u8 r.dU,.int .u8 r.init.kind,.int .u8 r.init.oper,.int .u8 r.init.dU,.int .i64 r.init.n,.int .u8 r.init.field,.string r.init.name,.slice r.init.a r.init.kids.length r.init.c,.int .i64 r.init.pos,.int .i64 r.pos]
abbrev dp.enc(r:dp):List Value:=[.string r.name,.int .i64 r.pos]
abbrev eJ.enc(d:eJ):List Value:=[.int .u8 d.kind,.int .u8 d.order,.string d.name,.int .u8 d.side.kind,.int .u8 d.side.oper,.int .u8 d.side.dU,.int .i64 d.side.n,.int .u8 d.side.field,.string d.side.name,.slice d.side.a d.side.kids.length d.side.c,.int .i64 d.side.pos,.int .u8 d.qty.kind,.int .u8 d.qty.oper,.int .u8 d.qty.dU,.int .i64 d.qty.n,.int .u8 d.qty.field,.string d.qty.name,.slice d.qty.a d.qty.kids.length d.qty.c,.int .i64 d.qty.pos,.int .u8 d.price.kind,.int .u8 d.price.oper,.int .u8 d.price.dU,.int .i64 d.price.n,.int .u8 d.price.field,.string d.price.name,.slice d.price.a d.price.kids.length d.price.c,.int .i64 d.price.pos,.int .u8 d.value.kind,.int .u8 d.value.oper,.int .u8 d.value.dU,.int .i64 d.value.n,.int .u8 d.value.field,.string d.value.name,.slice d.value.a d.value.kids.length d.value.c,.int .i64 d.value.pos,.int .i64 d.pos]
abbrev dc.enc(r:dc):List Value:=[.int .u8 r.when.kind,.int .u8 r.when.oper,.int .u8 r.when.dU,.int .i64 r.when.n,.int .u8 r.when.field,.string r.when.name,.slice r.when.a r.when.kids.length r.when.c,.int .i64 r.when.pos,.slice r.a r.dos.length r.c,.int .i64 r.pos]
abbrev cZ.enc(s:cZ):List Value:=[.string s.name,.slice s.a s.rules.length s.c,.int .i64 s.pos]
abbrev dw.v(r:dw):Value:=.agg #[.string r.name,.int .u8 r.dU,.int .u8 r.init.kind,.int .u8 r.init.oper,.int .u8 r.init.dU,.int .i64 r.init.n,.int .u8 r.init.field,.string r.init.name,.slice r.init.a r.init.kids.length r.init.c,.int .i64 r.init.pos,.int .i64 r.pos]
abbrev dp.v(r:dp):Value:=.agg #[.string r.name,.int .i64 r.pos]
abbrev eJ.v(d:eJ):Value:=.agg #[.int .u8 d.kind,.int .u8 d.order,.string d.name,.int .u8 d.side.kind,.int .u8 d.side.oper,.int .u8 d.side.dU,.int .i64 d.side.n,.int .u8 d.side.field,.string d.side.name,.slice d.side.a d.side.kids.length d.side.c,.int .i64 d.side.pos,.int .u8 d.qty.kind,.int .u8 d.qty.oper,.int .u8 d.qty.dU,.int .i64 d.qty.n,.int .u8 d.qty.field,.string d.qty.name,.slice d.qty.a d.qty.kids.length d.qty.c,.int .i64 d.qty.pos,.int .u8 d.price.kind,.int .u8 d.price.oper,.int .u8 d.price.dU,.int .i64 d.price.n,.int .u8 d.price.field,.string d.price.name,.slice d.price.a d.price.kids.length d.price.c,.int .i64 d.price.pos,.int .u8 d.value.kind,.int .u8 d.value.oper,.int .u8 d.value.dU,.int .i64 d.value.n,.int .u8 d.value.field,.string d.value.name,.slice d.value.a d.value.kids.length d.value.c,.int .i64 d.value.pos,.int .i64 d.pos]
abbrev dc.v(r:dc):Value:=.agg #[.int .u8 r.when.kind,.int .u8 r.when.oper,.int .u8 r.when.dU,.int .i64 r.when.n,.int .u8 r.when.field,.string r.when.name,.slice r.when.a r.when.kids.length r.when.c,.int .i64 r.when.pos,.slice r.a r.dos.length r.c,.int .i64 r.pos]
abbrev cZ.v(s:cZ):Value:=.agg #[.string s.name,.slice s.a s.rules.length s.c,.int .i64 s.pos]
abbrev dV.enc(s:dV):List Value:=[.string s.name,.slice s.ra s.regs.length s.rc,.slice s.sa s.slots.length s.sc,.slice s.ta s.states.length s.tc]
abbrev dV.v(s:dV):Value:=.agg #[.string s.name,.slice s.ra s.regs.length s.rc,.slice s.sa s.slots.length s.sc,.slice s.ta s.states.length s.tc]
def dw.Ok(I:cS)(G:cR)(r:dw):Prop:=dO I G r.init
def eJ.Ok(I:cS)(G:cR)(d:eJ):Prop:=dO I G d.side∧dO I G d.qty∧dO I G d.price∧dO I G d.value
def dc.Ok(I:cS)(G:cR)(r:dc):Prop:=dO I G r.when∧kq I G 36 eJ.enc r.a r.dos.length r.dos∧∀d∈r.dos,d.Ok I G
def cZ.Ok(I:cS)(G:cR)(s:cZ):Prop:=kq I G 10 dc.enc s.a s.rules.length s.rules∧∀r∈s.rules,r.Ok I G
structure dV.Ok (I:cS) (G:cR) (s:dV):Prop where
 regs:kq I G 11 dw.enc s.ra s.regs.length s.regs
 kM:∀r∈s.regs,r.Ok I G
 slots:kq I G 2 dp.enc s.sa s.slots.length s.slots
 states:kq I G 3 cZ.enc s.ta s.states.length s.states
 state:∀x∈s.states,x.Ok I G
section
variable {I J:cS} {G H:cR}
theorem dw.Ok.mono{r:dw}(h:r.Ok I G)(hl:cS.le I J)(hs:∀x,x∈G→x∈H):r.Ok J H:=dO.mono h hl hs
theorem eJ.Ok.mono{d:eJ}(h:d.Ok I G)(hl:cS.le I J)(hs:∀x,x∈G→x∈H):d.Ok J H:=⟨h.1.mono hl hs,h.2.1.mono hl hs,h.2.2.1.mono hl hs,h.2.2.2.mono hl hs⟩
theorem dc.Ok.mono{r:dc}(h:r.Ok I G)(hl:cS.le I J)(hs:∀x,x∈G→x∈H):r.Ok J H:=⟨h.1.mono hl hs,h.2.1.mono hl hs,fun d hd=>(h.2.2 d hd).mono hl hs⟩
theorem cZ.Ok.mono{s:cZ}(h:s.Ok I G)(hl:cS.le I J)(hs:∀x,x∈G→x∈H):s.Ok J H:=⟨h.1.mono hl hs,fun r hr=>(h.2 r hr).mono hl hs⟩
theorem dV.Ok.mono{s:dV}(h:s.Ok I G)(hl:cS.le I J)(hs:∀x,x∈G→x∈H):s.Ok J H :=
 ⟨h.regs.mono hl hs,fun r hr=>(h.kM r hr).mono hl hs,h.slots.mono hl hs,h.states.mono hl hs,fun r hr=>(h.state r hr).mono hl hs⟩
theorem dV.Ok.cons{s:dV}(h:s.Ok I G){x:Nat×Obj}:s.Ok I (x::G):=h.mono (cS.le_refl I) fun _ h=>List.mem_cons_of_mem _ h
theorem cZ.Ok.cons{s:cZ}(h:s.Ok I G){x:Nat×Obj}:s.Ok I (x::G):=h.mono (cS.le_refl I) fun _ h=>List.mem_cons_of_mem _ h
theorem eJ.Ok.cons{s:eJ}(h:s.Ok I G){x:Nat×Obj}:s.Ok I (x::G):=h.mono (cS.le_refl I) fun _ h=>List.mem_cons_of_mem _ h
end
def jw.E5(d:jw):List Px:=[d.side,d.qty,d.price,d.value]
end Go.Lx
namespace Go.Lx
open Go.Vc
end Go.Lx
namespace Go.Lx
open Go.Vc Go.Proofs.Tryz
def nJ:List (Nat×List Sh):=[(3,[.one (.int .i64)]),(4,[.one .bool]),(5,[.one (.int .u8)]),(79,[.one .slc]),(80,[.one .slc]),(134,[.agg [(.int .u8),.str,(.int .u8),(.int .i64),(.int .i64)],.one (.int .i64)])]
def pC.V(c:Int)(I:cS)(F:cR)(Q:cT)  : Prop:=Q (.returned (.bool (c != 10))) I (F)
theorem pC.vc{c:Int}{I:cS}{F:cR}{Q:cT}  (h:pC.V c I F Q):cU P 149 #[.int .u8 c] I F Q :=
 tw (A:=(an [] [] nJ)) [] func149 h
def rY.V(s:Bs)(d:Int)(on:Nat)(b c:Array Value)(I:cS)(F:cR)(Q:cT)(Inv4:Int→Nat→cS→cR→Prop):Prop:=(∃m:Nat,Inv4 d m I F)∧∀(a:Int) (m1:Nat) (I1:cS) (F1:cR),cS.le I I1→Inv4 a m1 I1 F1→((decide (a<(s.size:Int))=true→((0≤a∧a<(s.size:Int))∧dA P on∧cU P on (b++#[.int .u8 (bt s a)]++c) I1 F1 fun e1 I2 G1=>∃(r:Bool),e1=.returned (.bool r)∧∃F2:cR,List.Perm G1 F2∧((r=true→(∃m2:Nat,m2<m1∧Inv4 (IntKind.wrap .i64 (a+1)) m2 I2 F2))∧(r=false→Q (.returned (.int .i64 a)) I2 F2))))∧(decide (a<(s.size:Int))=false→Q (.returned (.int .i64 a)) I1 F1))
theorem rY.vc{s:Bs}{c:Int}{on:Nat}{a b:Array Value}{I:cS}{F:cR}{Q:cT}(Inv4:Int→Nat→cS→cR→Prop)(h:rY.V s c on a b I F Q Inv4):cU P 138 #[.string s,.int .i64 c,.func (.func on) a b] I F Q :=
 tw (A:=(dy [1003,1009] [] [] nJ [(4,⟨[(1,(.int .i64))],[],fun _ _ _ vs m I F=>match vs with | [.int _ y0]=>Inv4 y0 m I F | _=>False,[],[]⟩)] [] [] [] [] [] [])) [] func138 h
def qh.V(vi:Int→Value)(wr:Int→Int)(s:Bs)(b:Int)(I:cS)(F:cR)(Q:cT)(Inv7:Int→Nat→cS→cR→Prop):Prop:=(∃m:Nat,Inv7 b m I F)∧∀(a:Int) (m1:Nat) (I1:cS) (F1:cR),cS.le I I1→Inv7 a m1 I1 F1→((decide (a<(s.size:Int))=true→((0≤a∧a<(s.size:Int))∧((((bt s a)==32)=true→(∃m2:Nat,m2<m1∧Inv7 (wr (a+1)) m2 I1 F1))∧(((bt s a)==32)=false→((((bt s a)==9)=true→(∃m3:Nat,m3<m1∧Inv7 (wr (a+1)) m3 I1 F1))∧(((bt s a)==9)=false→((((bt s a)==10)=true→(∃m4:Nat,m4<m1∧Inv7 (wr (a+1)) m4 I1 F1))∧(((bt s a)==10)=false→((((bt s a)==13)=true→(∃m5:Nat,m5<m1∧Inv7 (wr (a+1)) m5 I1 F1))∧(((bt s a)==13)=false→((((bt s a)==35)=true→cU P 138 (#[.string s,vi a,.func (.func 149) #[] #[]]) I1 F1 fun e1 I2 G1=>∃(r:Int),e1=.returned (vi r)∧∃F2:cR,List.Perm G1 F2∧(∃m6:Nat,m6<m1∧Inv7 r m6 I2 F2))∧(((bt s a)==35)=false→Q (.returned (vi a)) I1 F1))))))))))))∧(decide (a<(s.size:Int))=false→Q (.returned (vi a)) I1 F1))
theorem qh.vc{s:Bs}{a:Int}{I:cS}{F:cR}{Q:cT}(Inv7:Int→Nat→cS→cR→Prop)(h:qh.V (.int .i64) (IntKind.wrap .i64) s a I F Q Inv7):cU P 134 #[.string s,.int .i64 a] I F Q :=
 tw (A:=(dy [1003,3000,4000,5000,6000,8000] [] [138] nJ [(7,⟨[(1,(.int .i64))],[],fun _ _ _ vs m I F=>match vs with | [.int _ y0]=>Inv7 y0 m I F | _=>False,[],[]⟩)] [] [] [] [] [] [])) [138] func134 h
def mW.V(vb vi:Int→Value)(vs:Bs→Value)(wr:Int→Int)(s:Bs)(c:Int)(I:cS)(F:cR)(Q:cT)(Inv10:Int→Int→Int→Bs→Int→Int→Int→Int→Bs→Int→Int→Int→Nat→cS→cR→Prop)(Inv33:Int→Int→Bs→Int→Int→Int→cS→cR→Prop)(Inv43:Int→cS→cR→Prop)(Inv51:Int→Int→Int→Bs→Int→Int→Int→cS→cR→Prop):Prop:=∀b:Nat,cU P 138 (#[vs s,vi c,.func (.func 135) #[] #[]]) I ((b,Obj.cells #[vb 0,vs (⟨#[]⟩:Bs),vb 0,vi 0,vi 0] 76 (0,0))::F) fun e1 I1 G1=>∃(r:Int),e1=.returned (vi r)∧∃F1:cR,List.Perm G1 ((b,Obj.cells #[vb 0,vs (⟨#[]⟩:Bs),vb 0,vi 0,vi 0] 76 (0,0))::F1)∧∀y:Nat,((0≤c∧c≤r∧r≤(s.size:Int))∧dk P (Go.convert 9 79 (vs (s.extract (Int.toNat c) (Int.toNat r)))) I1 ((b,Obj.cells #[vb 0,vs (⟨#[]⟩:Bs),vb 0,vi 0,vi 0] 76 (0,0))::(y,Obj.cells #[vb 3,vs (⟨#[]⟩:Bs),vb 1,vi 0,vi c] 76 (0,0))::F1) fun v I2 G2=>∃(ag:OA) (af ai:Nat),v=.slice ag af ai∧∃F2:cR,List.Perm G2 ((b,Obj.cells #[vb 0,vs (⟨#[]⟩:Bs),vb 0,vi 0,vi 0] 76 (0,0))::(y,Obj.cells #[vb 3,vs (⟨#[]⟩:Bs),vb 1,vi 0,vi c] 76 (0,0))::F2)∧(∃m:Nat,Inv10 0 0 0 (⟨#[]⟩:Bs) 0 0 0 3 (⟨#[]⟩:Bs) 1 0 c m I2 F2)∧∀(x x1 p:Int) (q:Bs) (t u w i:Int) (j:Bs) (n d k:Int) (m1:Nat) (I3:cS) (F3:cR),cS.le I2 I3→Inv10 x x1 p q t u w i j n d k m1 I3 F3→((decide (x1<(af:Int))=true→((0≤x1∧x1<(af:Int))∧∃ad:Addr,ag=some ad∧∃(m2:Int),Rd I3 ((b,Obj.cells #[vb p,vs q,vb t,vi u,vi w] 76 (0,0))::(y,Obj.cells #[vb i,vs j,vb n,vi d,vi k] 76 (0,0))::F3) (ad.add (Int.toNat x1*1)) [vb m2]∧((decide (d>(wr (Int.tdiv (wr (9223372036854775807-(wr (IntKind.wrap .u8 (m2-48))))) 10)))=true→Q (.returned (.tuple #[.agg #[vb 0,vs (⟨#[]⟩:Bs),vb 0,vi 0,vi 0],vi 113])) I3 F3)∧(decide (d>(wr (Int.tdiv (wr (9223372036854775807-(wr (IntKind.wrap .u8 (m2-48))))) 10)))=false→(∃m3:Nat,m3<m1∧Inv10 x (wr (x1+1)) p q t u w i j n (wr ((wr (10*d))+(wr (IntKind.wrap .u8 (m2-48))))) k m3 I3 F3)))))∧(decide (x1<(af:Int))=false→(((decide ((wr (r-c))>1)=true→((0≤c∧c<(s.size:Int))∧((((bt s c)==48)=true→Q (.returned (.tuple #[.agg #[vb 0,vs (⟨#[]⟩:Bs),vb 0,vi 0,vi 0],vi 113])) I3 F3)∧(((bt s c)==48)=false→Inv33 x p q t u w I3 F3))))∧(decide ((wr (r-c))>1)=false→Inv33 x p q t u w I3 F3)))∧∀(x2 z:Int) (aa:Bs) (ab ac ae:Int) (I4:cS) (F4:cR),cS.le I3 I4→Inv33 x2 z aa ab ac ae I4 F4→(((decide (r<(s.size:Int))=true→((0≤r∧r<(s.size:Int))∧Inv43 (bt s r) I4 F4))∧(decide (r<(s.size:Int))=false→Inv43 0 I4 F4)))∧∀(l:Int) (I5:cS) (F5:cR),cS.le I4 I5→Inv43 l I5 F5→((((l==116)=true→Inv51 (wr (r+1)) (wr ((wr ((wr ((-1)+1))+1))+1)) i j (IntKind.wrap .u8 (2+(IntKind.wrap .u8 (wr ((wr ((wr ((-1)+1))+1))+1))))) d k I5 F5)∧((l==116)=false→(((l==112)=true→Inv51 (wr (r+1)) (wr ((wr ((-1)+1))+1)) i j (IntKind.wrap .u8 (2+(IntKind.wrap .u8 (wr ((wr ((-1)+1))+1))))) d k I5 F5)∧((l==112)=false→(((l==113)=true→Inv51 (wr (r+1)) (wr ((-1)+1)) i j (IntKind.wrap .u8 (2+(IntKind.wrap .u8 (wr ((-1)+1))))) d k I5 F5)∧((l==113)=false→Inv51 r (-1) i j n d k I5 F5)))))))∧∀(a ah e:Int) (o:Bs) (f g h:Int) (I6:cS) (F6:cR),cS.le I5 I6→Inv51 a ah e o f g h I6 F6→((decide (a<(s.size:Int))=true→((0≤a∧a<(s.size:Int))∧cU P 139 (#[vb (bt s a)]) I6 ((b,Obj.cells #[vb z,vs aa,vb ab,vi ac,vi ae] 76 (0,0))::(y,Obj.cells #[vb e,vs o,vb f,vi g,vi h] 76 (0,0))::F6) fun e2 I7 G3=>∃(r1:Bool),e2=.returned (.bool r1)∧∃F7:cR,List.Perm G3 ((b,Obj.cells #[vb z,vs aa,vb ab,vi ac,vi ae] 76 (0,0))::(y,Obj.cells #[vb e,vs o,vb f,vi g,vi h] 76 (0,0))::F7)∧((r1=true→Q (.returned (.tuple #[.agg #[vb 0,vs (⟨#[]⟩:Bs),vb 0,vi 0,vi 0],vi 113])) I7 F7)∧(r1=false→((0≤a∧a<(s.size:Int))∧((decide (65≤(bt s a))=true→((0≤a∧a<(s.size:Int))∧((decide ((bt s a)≤90)=true→Q (.returned (.tuple #[.agg #[vb 0,vs (⟨#[]⟩:Bs),vb 0,vi 0,vi 0],vi 113])) I7 F7)∧(decide ((bt s a)≤90)=false→((0≤c∧c≤a∧a≤(s.size:Int))∧Q (.returned (.tuple #[.agg #[vb e,vs (s.extract (Int.toNat c) (Int.toNat a)),vb f,vi g,vi h],vi 0])) I7 F7)))))∧(decide (65≤(bt s a))=false→((0≤c∧c≤a∧a≤(s.size:Int))∧Q (.returned (.tuple #[.agg #[vb e,vs (s.extract (Int.toNat c) (Int.toNat a)),vb f,vi g,vi h],vi 0])) I7 F7))))))))∧(decide (a<(s.size:Int))=false→((0≤c∧c≤a∧a≤(s.size:Int))∧Q (.returned (.tuple #[.agg #[vb e,vs (s.extract (Int.toNat c) (Int.toNat a)),vb f,vi g,vi h],vi 0])) I6 F6))))))
theorem mW.vc{s:Bs}{a:Int}{I:cS}{F:cR}{Q:cT}(Inv10:Int→Int→Int→Bs→Int→Int→Int→Int→Bs→Int→Int→Int→Nat→cS→cR→Prop)(Inv33:Int→Int→Bs→Int→Int→Int→cS→cR→Prop)(Inv43:Int→cS→cR→Prop)(Inv51:Int→Int→Int→Bs→Int→Int→Int→cS→cR→Prop)(h:mW.V (.int .u8) (.int .i64) .string (IntKind.wrap .i64) s a I F Q Inv10 Inv33 Inv43 Inv51):cU P 136 #[.string s,.int .i64 a] I F Q :=
 tw (A:=(dy [4000,7005,11003,11008,14003,18000,19000,20000,26003,26008,26013,26018] [] [138,139] nJ [(10,⟨[(5,(.int .i64)),(24,(.int .i64))],[(0,[(.int .u8),.str,(.int .u8),(.int .i64),(.int .i64)]),(1,[(.int .u8),.str,(.int .u8),(.int .i64),(.int .i64)])],fun _ _ _ vs m I F=>match vs with | [.int _ y0,.int _ y1,.int _ y2,.string y3,.int _ y4,.int _ y5,.int _ y6,.int _ y7,.string y8,.int _ y9,.int _ y10,.int _ y11]=>Inv10 y0 y1 y2 y3 y4 y5 y6 y7 y8 y9 y10 y11 m I F | _=>False,[],[]⟩),(33,⟨[(5,(.int .i64))],[(0,[(.int .u8),.str,(.int .u8),(.int .i64),(.int .i64)])],fun _ _ _ vs m I F=>match vs with | [.int _ y0,.int _ y1,.string y2,.int _ y3,.int _ y4,.int _ y5]=>Inv33 y0 y1 y2 y3 y4 y5 I F | _=>False,[],[]⟩),(43,⟨[(11,(.int .u8))],[],fun _ _ _ vs m I F=>match vs with | [.int _ y0]=>Inv43 y0 I F | _=>False,[],[]⟩),(51,⟨[(6,(.int .i64)),(12,(.int .i64))],[(1,[(.int .u8),.str,(.int .u8),(.int .i64),(.int .i64)])],fun _ _ _ vs m I F=>match vs with | [.int _ y0,.int _ y1,.int _ y2,.string y3,.int _ y4,.int _ y5,.int _ y6]=>Inv51 y0 y1 y2 y3 y4 y5 y6 I F | _=>False,[],[]⟩)] [] [] [] [] [] [])) [138,139] func136 h
def qi.V(vi:Int→Value)(wr:Int→Int)(s:Bs)(a:Int)(I:cS)(F:cR)(Q:cT)  : Prop:=((decide ((wr (a+1))<(s.size:Int))=true→((0≤(wr (a+1))∧(wr (a+1))<(s.size:Int))∧((0≤a∧a<(s.size:Int))∧((((bt s a)==123)=true→Q (.returned (vi 1)) I F)∧(((bt s a)==123)=false→((((bt s a)==125)=true→Q (.returned (vi 1)) I F)∧(((bt s a)==125)=false→((((bt s a)==40)=true→Q (.returned (vi 1)) I F)∧(((bt s a)==40)=false→((((bt s a)==41)=true→Q (.returned (vi 1)) I F)∧(((bt s a)==41)=false→((((bt s a)==44)=true→Q (.returned (vi 1)) I F)∧(((bt s a)==44)=false→((((bt s a)==59)=true→Q (.returned (vi 1)) I F)∧(((bt s a)==59)=false→((((bt s a)==63)=true→Q (.returned (vi 1)) I F)∧(((bt s a)==63)=false→((((bt s a)==58)=true→Q (.returned (vi 1)) I F)∧(((bt s a)==58)=false→((((bt s a)==43)=true→Q (.returned (vi 1)) I F)∧(((bt s a)==43)=false→((((bt s a)==45)=true→Q (.returned (vi 1)) I F)∧(((bt s a)==45)=false→((((bt s a)==42)=true→Q (.returned (vi 1)) I F)∧(((bt s a)==42)=false→((((bt s a)==47)=true→Q (.returned (vi 1)) I F)∧(((bt s a)==47)=false→((((bt s a)==37)=true→Q (.returned (vi 1)) I F)∧(((bt s a)==37)=false→((((bt s a)==38)=true→((((bt s (wr (a+1)))==(bt s a))=true→Q (.returned (vi 2)) I F)∧(((bt s (wr (a+1)))==(bt s a))=false→Q (.returned (vi 0)) I F)))∧(((bt s a)==38)=false→((((bt s a)==124)=true→((((bt s (wr (a+1)))==(bt s a))=true→Q (.returned (vi 2)) I F)∧(((bt s (wr (a+1)))==(bt s a))=false→Q (.returned (vi 0)) I F)))∧(((bt s a)==124)=false→((((bt s a)==61)=true→((((bt s (wr (a+1)))==61)=true→Q (.returned (vi 2)) I F)∧(((bt s (wr (a+1)))==61)=false→Q (.returned (vi 1)) I F)))∧(((bt s a)==61)=false→((((bt s a)==33)=true→((((bt s (wr (a+1)))==61)=true→Q (.returned (vi 2)) I F)∧(((bt s (wr (a+1)))==61)=false→Q (.returned (vi 1)) I F)))∧(((bt s a)==33)=false→((((bt s a)==60)=true→((((bt s (wr (a+1)))==61)=true→Q (.returned (vi 2)) I F)∧(((bt s (wr (a+1)))==61)=false→Q (.returned (vi 1)) I F)))∧(((bt s a)==60)=false→((((bt s a)==62)=true→((((bt s (wr (a+1)))==61)=true→Q (.returned (vi 2)) I F)∧(((bt s (wr (a+1)))==61)=false→Q (.returned (vi 1)) I F)))∧(((bt s a)==62)=false→Q (.returned (vi 0)) I F)))))))))))))))))))))))))))))))))))))))))∧(decide ((wr (a+1))<(s.size:Int))=false→((0≤a∧a<(s.size:Int))∧((((bt s a)==123)=true→Q (.returned (vi 1)) I F)∧(((bt s a)==123)=false→((((bt s a)==125)=true→Q (.returned (vi 1)) I F)∧(((bt s a)==125)=false→((((bt s a)==40)=true→Q (.returned (vi 1)) I F)∧(((bt s a)==40)=false→((((bt s a)==41)=true→Q (.returned (vi 1)) I F)∧(((bt s a)==41)=false→((((bt s a)==44)=true→Q (.returned (vi 1)) I F)∧(((bt s a)==44)=false→((((bt s a)==59)=true→Q (.returned (vi 1)) I F)∧(((bt s a)==59)=false→((((bt s a)==63)=true→Q (.returned (vi 1)) I F)∧(((bt s a)==63)=false→((((bt s a)==58)=true→Q (.returned (vi 1)) I F)∧(((bt s a)==58)=false→((((bt s a)==43)=true→Q (.returned (vi 1)) I F)∧(((bt s a)==43)=false→((((bt s a)==45)=true→Q (.returned (vi 1)) I F)∧(((bt s a)==45)=false→((((bt s a)==42)=true→Q (.returned (vi 1)) I F)∧(((bt s a)==42)=false→((((bt s a)==47)=true→Q (.returned (vi 1)) I F)∧(((bt s a)==47)=false→((((bt s a)==37)=true→Q (.returned (vi 1)) I F)∧(((bt s a)==37)=false→((((bt s a)==38)=true→(((0==(bt s a))=true→Q (.returned (vi 2)) I F)∧((0==(bt s a))=false→Q (.returned (vi 0)) I F)))∧(((bt s a)==38)=false→((((bt s a)==124)=true→(((0==(bt s a))=true→Q (.returned (vi 2)) I F)∧((0==(bt s a))=false→Q (.returned (vi 0)) I F)))∧(((bt s a)==124)=false→((((bt s a)==61)=true→((false=true→Q (.returned (vi 2)) I F)∧(false=false→Q (.returned (vi 1)) I F)))∧(((bt s a)==61)=false→((((bt s a)==33)=true→((false=true→Q (.returned (vi 2)) I F)∧(false=false→Q (.returned (vi 1)) I F)))∧(((bt s a)==33)=false→((((bt s a)==60)=true→((false=true→Q (.returned (vi 2)) I F)∧(false=false→Q (.returned (vi 1)) I F)))∧(((bt s a)==60)=false→((((bt s a)==62)=true→((false=true→Q (.returned (vi 2)) I F)∧(false=false→Q (.returned (vi 1)) I F)))∧(((bt s a)==62)=false→Q (.returned (vi 0)) I F)))))))))))))))))))))))))))))))))))))))))
theorem qi.vc{s:Bs}{a:Int}{I:cS}{F:cR}{Q:cT}  (h:qi.V (.int .i64) (IntKind.wrap .i64) s a I F Q):cU P 141 #[.string s,.int .i64 a] I F Q :=
 tw (A:=(an [2004,6000,7000,8000,9000,10000,11000,12000,13000,14000,15000,16000,17000,18000,20000,21000,22002,24000,25000,26000,27000,28001] [] nJ)) [] func141 h
def oz.V(vb vi:Int→Value)(vs:Bs→Value)(wr:Int→Int)(s:Bs)(i:Int)(I:cS)(F:cR)(Q:cT)  : Prop:=∀b:Nat,cU P 134 #[vs s,vi i] I ((b,Obj.cells #[vb 0,vs (⟨#[]⟩:Bs),vb 0,vi 0,vi 0] 76 (0,0))::F) fun e1 I1 G1=>∃(r:Int),e1=.returned (vi r)∧∃F1:cR,List.Perm G1 ((b,Obj.cells #[vb 0,vs (⟨#[]⟩:Bs),vb 0,vi 0,vi 0] 76 (0,0))::F1)∧(((r==(s.size:Int))=true→Q (.returned (.tuple #[.agg #[vb 0,vs (⟨#[]⟩:Bs),vb 0,vi 0,vi r],vi 0])) I1 F1)∧((r==(s.size:Int))=false→((0≤r∧r<(s.size:Int))∧cU P 135 (#[vb (bt s r)]) I1 ((b,Obj.cells #[vb 0,vs (⟨#[]⟩:Bs),vb 0,vi 0,vi 0] 76 (0,0))::F1) fun e2 I2 G2=>∃(r1:Bool),e2=.returned (.bool r1)∧∃F2:cR,List.Perm G2 ((b,Obj.cells #[vb 0,vs (⟨#[]⟩:Bs),vb 0,vi 0,vi 0] 76 (0,0))::F2)∧((r1=true→cU P 136 #[vs s,vi r] I2 ((b,Obj.cells #[vb 0,vs (⟨#[]⟩:Bs),vb 0,vi 0,vi 0] 76 (0,0))::F2) fun e3 I3 G3=>∃(a:Int) (c:Bs) (d e h g:Int),e3=.returned (.tuple #[.agg #[vb a,vs c,vb d,vi e,vi h],vi g])∧∃F3:cR,List.Perm G3 ((b,Obj.cells #[vb 0,vs (⟨#[]⟩:Bs),vb 0,vi 0,vi 0] 76 (0,0))::F3)∧∀j:Nat,Q (.returned (.tuple #[.agg #[vb a,vs c,vb d,vi e,vi r],vi g])) I3 F3)∧(r1=false→cU P 137 (#[vb (bt s r)]) I2 ((b,Obj.cells #[vb 0,vs (⟨#[]⟩:Bs),vb 0,vi 0,vi 0] 76 (0,0))::F2) fun e4 I4 G4=>∃(r2:Bool),e4=.returned (.bool r2)∧∃F4:cR,List.Perm G4 ((b,Obj.cells #[vb 0,vs (⟨#[]⟩:Bs),vb 0,vi 0,vi 0] 76 (0,0))::F4)∧((r2=true→cU P 138 (#[vs s,vi r,.func (.func 139) #[] #[]]) I4 ((b,Obj.cells #[vb 0,vs (⟨#[]⟩:Bs),vb 0,vi 0,vi 0] 76 (0,0))::F4) fun e5 I5 G5=>∃(r3:Int),e5=.returned (vi r3)∧∃F5:cR,List.Perm G5 ((b,Obj.cells #[vb 0,vs (⟨#[]⟩:Bs),vb 0,vi 0,vi 0] 76 (0,0))::F5)∧((decide ((wr (r3-r))>16)=true→Q (.returned (.tuple #[.agg #[vb 0,vs (⟨#[]⟩:Bs),vb 0,vi 0,vi r],vi 112])) I5 F5)∧(decide ((wr (r3-r))>16)=false→((0≤r∧r≤r3∧r3≤(s.size:Int))∧∀f:Nat,cU P 140 (#[vs (s.extract (Int.toNat r) (Int.toNat r3))]) I5 ((b,Obj.cells #[vb 0,vs (⟨#[]⟩:Bs),vb 0,vi 0,vi 0] 76 (0,0))::(f,Obj.cells #[vb 2,vs (s.extract (Int.toNat r) (Int.toNat r3)),vb 0,vi 0,vi r] 76 (0,0))::F5) fun e6 I6 G6=>∃(r4:Bool),e6=.returned (.bool r4)∧∃F6:cR,List.Perm G6 ((b,Obj.cells #[vb 0,vs (⟨#[]⟩:Bs),vb 0,vi 0,vi 0] 76 (0,0))::(f,Obj.cells #[vb 2,vs (s.extract (Int.toNat r) (Int.toNat r3)),vb 0,vi 0,vi r] 76 (0,0))::F6)∧((r4=true→Q (.returned (.tuple #[.agg #[vb 1,vs (s.extract (Int.toNat r) (Int.toNat r3)),vb 0,vi 0,vi r],vi 0])) I6 F6)∧(r4=false→Q (.returned (.tuple #[.agg #[vb 2,vs (s.extract (Int.toNat r) (Int.toNat r3)),vb 0,vi 0,vi r],vi 0])) I6 F6))))))∧(r2=false→cU P 141 #[vs s,vi r] I4 ((b,Obj.cells #[vb 0,vs (⟨#[]⟩:Bs),vb 0,vi 0,vi 0] 76 (0,0))::F4) fun e7 I7 G7=>∃(r5:Int),e7=.returned (vi r5)∧∃F7:cR,List.Perm G7 ((b,Obj.cells #[vb 0,vs (⟨#[]⟩:Bs),vb 0,vi 0,vi 0] 76 (0,0))::F7)∧(((r5==0)=true→Q (.returned (.tuple #[.agg #[vb 0,vs (⟨#[]⟩:Bs),vb 0,vi 0,vi r],vi 111])) I7 F7)∧((r5==0)=false→((0≤r∧r≤(wr (r+r5))∧(wr (r+r5))≤(s.size:Int))∧Q (.returned (.tuple #[.agg #[vb 4,vs (s.extract (Int.toNat r) (Int.toNat ((wr (r+r5))))),vb 0,vi 0,vi r],vi 0])) I7 F7))))))))))
theorem oz.vc{s:Bs}{a:Int}{I:cS}{F:cR}{Q:cT}  (h:oz.V (.int .u8) (.int .i64) .string (IntKind.wrap .i64) s a I F Q):cU P 123 #[.string s,.int .i64 a] I F Q :=
 tw (A:=(an [2003,5001,9001,11003,14002,18001] [134,135,136,137,138,140,141] nJ)) [134,135,136,137,138,140,141] func123 h
def mX.V(vb vi:Int→Value)(vs:Bs→Value)(vl:OA→Nat→Nat→Value)(s:Bs)(I:cS)(F:cR)(Q:cT)(Inv15:OA→Nat→Nat→Int→Int→OA→Nat→Nat→Int→Nat→cS→cR→Prop):Prop:=((decide ((s.size:Int)>4096)=true→Q (.returned (.tuple #[vl none 0 0,vi 110,vi 0])) I F)∧(decide ((s.size:Int)>4096)=false→(∃m:Nat,Inv15 none 0 0 0 0 none 0 0 0 m I F)∧∀(j:OA) (k l:Nat) (x x1:Int) (n:OA) (o p:Nat) (q:Int) (m1:Nat) (I1:cS) (F1:cR),cS.le I I1→Inv15 j k l x x1 n o p q m1 I1 F1→cU P 123 #[vs s,vi q] I1 F1 fun e1 I2 G1=>∃(a:Int) (d:Bs) (e f c r1:Int),e1=.returned (.tuple #[.agg #[vb a,vs d,vb e,vi f,vi c],vi r1])∧∃F2:cR,List.Perm G1 F2∧∀r:Nat,(((r1 != 0)=true→Q (.returned (.tuple #[vl none 0 0,vi r1,vi c])) I2 F2)∧((r1 != 0)=false→∀(b:Nat) (I3:cS),cS.le I2 I3→I3 b=some (Obj.cells #[vb a,vs d,vb e,vi f,vi c] 76 (0,0))→dk P (Builtin.append_ #[80,80] 80 #[vl n o p,vl (some ⟨b,0,none⟩) 1 1]) I3 ((r,Obj.cells #[vb a,vs d,vb e,vi f,vi c] 76 (0,0))::F2) fun v I4 G2=>∃(g:OA) (h i:Nat),v=vl g h i∧∃F3:cR,List.Perm G2 ((r,Obj.cells #[vb a,vs d,vb e,vi f,vi c] 76 (0,0))::F3)∧(((a==0)=true→Q (.returned (.tuple #[vl g h i,vi 0,vi 0])) I4 F3)∧((a==0)=false→(∃m2:Nat,m2<m1∧Inv15 j k l x x1 g h i (IntKind.wrap .i64 (c+(d.size:Int))) m2 I4 F3)))))))
theorem mX.vc{s:Bs}{I:cS}{F:cR}{Q:cT}(Inv15:OA→Nat→Nat→Int→Int→OA→Nat→Nat→Int→Nat→cS→cR→Prop)(h:mX.V (.int .u8) (.int .i64) .string .slice s I F Q Inv15):cU P 124 #[.string s] I F Q :=
 tw (A:=(dy [1002,6001,9002] [] [123] nJ [(15,⟨[(2,.slc),(3,(.int .i64)),(4,(.int .i64)),(5,.slc),(6,(.int .i64))],[],fun _ _ _ vs m I F=>match vs with | [.slice y0 y1 y2,.int _ y3,.int _ y4,.slice y5 y6 y7,.int _ y8]=>Inv15 y0 y1 y2 y3 y4 y5 y6 y7 y8 m I F | _=>False,[],[]⟩)] [8002] [] [] [] [] [])) [123] func124 h
def qj.V(vb vi:Int→Value)(vs:Bs→Value)(s:Bs)(a:Int)(I:cS)(F:cR)(Q:cT)  : Prop:=∀b:Nat,((decide ((s.size:Int)>4096)=true→Q (.returned (.tuple #[.agg #[vb 0,vs (⟨#[]⟩:Bs),vb 0,vi 0,vi 0],vi 0,vi 110])) I F)∧(decide ((s.size:Int)>4096)=false→((decide (a<0)=true→Q (.returned (.tuple #[.agg #[vb 0,vs (⟨#[]⟩:Bs),vb 0,vi 0,vi 0],vi 0,vi 1])) I F)∧(decide (a<0)=false→((decide (a>(s.size:Int))=true→Q (.returned (.tuple #[.agg #[vb 0,vs (⟨#[]⟩:Bs),vb 0,vi 0,vi 0],vi 0,vi 1])) I F)∧(decide (a>(s.size:Int))=false→cU P 123 #[vs s,vi a] I ((b,Obj.cells #[vb 0,vs (⟨#[]⟩:Bs),vb 0,vi 0,vi 0] 76 (0,0))::F) fun e1 I1 G1=>∃(e:Int) (c:Bs) (f g d r1:Int),e1=.returned (.tuple #[.agg #[vb e,vs c,vb f,vi g,vi d],vi r1])∧∃F1:cR,List.Perm G1 ((b,Obj.cells #[vb 0,vs (⟨#[]⟩:Bs),vb 0,vi 0,vi 0] 76 (0,0))::F1)∧∀h:Nat,(((r1 != 0)=true→Q (.returned (.tuple #[.agg #[vb 0,vs (⟨#[]⟩:Bs),vb 0,vi 0,vi 0],vi 0,vi r1])) I1 F1)∧((r1 != 0)=false→Q (.returned (.tuple #[.agg #[vb e,vs c,vb f,vi g,vi d],vi (IntKind.wrap .i64 (d+(c.size:Int))),vi 0])) I1 F1))))))))
theorem qj.vc{s:Bs}{a:Int}{I:cS}{F:cR}{Q:cT}  (h:qj.V (.int .u8) (.int .i64) .string s a I F Q):cU P 102 #[.string s,.int .i64 a] I F Q :=
 tw (A:=(dy [1002,3001,3006,6001] [] [123] nJ [] [] [] [(8,7,[0])] [] [] [])) [123] func102 h
end Go.Lx
namespace Go.Lx
open Go.Vc
theorem Bu(c:Int)(I:cS)(F:cR):cU P 149 #[.int .u8 c] I F (kL (.bool (qN c)) F) :=
 pC.vc ⟨rfl,rfl⟩
theorem tM{s:ByteArray}(hs:dj s){i:Int}(h0:0≤i)(h1:i≤s.size){p:Int→Bool}{on:Nat}(hp:∀c I F,cU P on #[.int .u8 c] I F (kL (.bool (p c)) F))(hen:dA P on)(I:cS)(F:cR) :
  cU P 138 #[.string s,.int .i64 i,.func (.func on) #[] #[]] I F (kL (.int .i64 (dG p s i)) F):=by
 unfold dj at hs
 refine rY.vc (fun j m I' F'=>0≤j∧j≤s.size∧m=(s.size-j).toNat∧dG p s j=dG p s i∧F'=F) ?_
 unfold rY.V
 refine⟨⟨_,h0,h1,rfl,rfl,rfl⟩,fun j m I1 F1 hI ⟨g0,g1,gm,gr,gF⟩=>⟨fun hlt=>?_,fun hlt=>?_⟩⟩
 ·have hlt:j<(s.size:Int):=by simpa using hlt
  refine⟨⟨g0,hlt⟩,hen, ?_⟩
  subst gF
  have:=hp (bt s j) I1 F1
  refine cU.ret (by simpa using this) fun I2 h2=>⟨_,rfl,F1,.refl _,fun hc=>?_,fun hc=>⟨?_,rfl⟩⟩
  ·refine⟨m-1,by omega, ?_⟩
   rw[ew (by omega)]
   rw[dJ hlt,if_pos hc] at gr
   exact⟨by omega,by omega,by omega,gr,rfl⟩
  ·rw[dJ hlt,if_neg (by simpa using hc)] at gr
   rw[gr]
 ·have hlt:¬j<(s.size:Int):=by simpa using hlt
  refine⟨?_,gF⟩
  rw[kK (by omega)] at gr
  rw[gr]
theorem CE:dA P 135:=jz (by kernel_rfl)
theorem CF:dA P 139:=jz (by kernel_rfl)
theorem CG:dA P 149:=jz (by kernel_rfl)
theorem zp{s:ByteArray}(hs:dj s){i:Int}(h0:0≤i)(h1:i≤s.size)(I:cS)(F:cR) :
  cU P 134 #[.string s,.int .i64 i] I F (kL (.int .i64 (dx s i)) F):=by
 have hs':=hs
 unfold dj at hs'
 refine qh.vc (fun j m I' F'=>0≤j∧j≤s.size∧m=(s.size-j).toNat∧dx s j=dx s i∧F'=F) ?_
 unfold qh.V
 refine⟨⟨_,h0,h1,rfl,rfl,rfl⟩,fun j m I1 F1 hI ⟨g0,g1,gm,gr,gF⟩=>⟨fun hlt=>?_,fun hlt=>?_⟩⟩
 ·have hlt:j<(s.size:Int):=by simpa using hlt
  subst gF
  have db:blank (bt s j)=true→∃m':Nat,m'<m∧0≤IntKind.wrap .i64 (j+1)∧IntKind.wrap .i64 (j+1)≤s.size∧m'=(s.size-IntKind.wrap .i64 (j+1)).toNat ∧
    dx s (IntKind.wrap .i64 (j+1))=dx s i∧F1=F1:=by
   intro hb
   rw[ew (by omega)]
   exact⟨_,by omega,by omega,by omega,rfl,by rw[←gr,v9 hlt hb],rfl⟩
  refine⟨⟨g0,hlt⟩,fun h=>db ?_,fun h32=>⟨fun h=>db ?_,fun h9=>⟨fun h=>db ?_,fun h10=>⟨fun h=>db ?_,fun h13=>⟨fun h=>?_,fun h35=>?_⟩⟩⟩⟩⟩
  ·simp[blank,h]
  ·simp[blank,h]
  ·simp[blank,h]
  ·simp[blank,h]
  ·have h35:bt s j=35:=by simpa using h
   refine cU.ret (tM hs g0 g1 Bu CG I1 F1) fun I2 h2=>⟨_,rfl,F1,.refl _, ?_⟩
   have hr:=dJ (p:=qN) hlt
   rw[show qN (bt s j)=true by simp[qN,h35],if_pos rfl] at hr
   have:=fw (p:=qN) (s:=s) (i:=j+1) (by omega)
   exact⟨_,by omega,by omega,by omega,rfl,by rw[←gr,uK hlt h35],rfl⟩
  ·refine⟨?_,rfl⟩
   have:dx s j=j:=wc hlt (by simp only[blank,h32,h9,h10,h13];rfl) (by simpa using h35)
   rw[this] at gr
   rw[gr]
 ·have hlt:¬j<(s.size:Int):=by simpa using hlt
  refine⟨?_,gF⟩
  have:dx s j=j:=jR (by omega)
  rw[this] at gr
  rw[gr]
theorem Bv{s:ByteArray}(hs:dj s){i:Int}(h0:0≤i)(h1:i<s.size)(I:cS)(F:cR):cU P 141 #[.string s,.int .i64 i] I F (kL (.int .i64 (fS s i)) F):=by
 unfold dj at hs
 refine qi.vc ?_
 unfold qi.V
 rw[ew (by omega)]
 refine⟨fun hn=>⟨⟨by omega,by simpa using hn⟩,⟨h0,h1⟩, ?_⟩,fun hn=>⟨⟨h0,h1⟩, ?_⟩⟩
 ·have hd:c9 s (i+1)=bt s (i+1):=by unfold c9;rw[if_pos (by simpa using hn)]
  have e:fS s i=if single (bt s i) then 1 else if bt s i=38∨bt s i=124 then (if bt s (i+1)=bt s i then 2 else 0) else
   if bt s i=61∨bt s i=33∨bt s i=60∨bt s i=62 then (if bt s (i+1)=61 then 2 else 1) else 0:=by unfold fS;rw[hd]
  rw[e]
  generalize bt s i=c
  generalize bt s (i+1)=d
  clear e hd hn
  repeat' (first | (with_reducible apply And.intro) | (with_reducible intro h))
  all_goals (refine⟨?_,rfl⟩;simp_all [single])
 ·have hd:c9 s (i+1)=0:=by unfold c9;rw[if_neg (by simpa using hn)]
  have e:fS s i=if single (bt s i) then 1 else if bt s i=38∨bt s i=124 then (if 0=bt s i then 2 else 0) else
   if bt s i=61∨bt s i=33∨bt s i=60∨bt s i=62 then 1 else 0:=by unfold fS;rw[hd];simp
  rw[e]
  generalize bt s i=c
  clear e hd hn
  repeat' (first | (with_reducible apply And.intro) | (with_reducible intro h))
  all_goals (refine⟨?_,rfl⟩;simp_all [single])
theorem lF(s:ByteArray)(i:Int):0≤fS s i∧fS s i≤2:=by
 unfold fS;simp only;repeat' split
 all_goals decide
theorem qk{s:ByteArray}{i:Int}(h:i<(s.size:Int)):i+fS s i≤s.size:=by
 have hb:c9 s (i+1)≠0→i+1<(s.size:Int):=fun hne=>by
  unfold c9 at hne;split at hne
  ·assumption
  ·exact absurd rfl hne
 unfold fS;simp only
 split
 ·omega
 ·split
  ·rename_i hc;split
   ·rename_i hd;have:=hb (by omega);omega
   ·omega
  ·split
   ·split
    ·rename_i hd;have:=hb (by omega);omega
    ·omega
   ·omega
def Bw(c:Int):List Value:=[.int .u8 c]
def bytesOf(s:ByteArray):List Int:=s.data.toList.map fun b=>(b.toNat:Int)
theorem xZ{s:ByteArray}{k:Nat}(h:k<s.size):(bytesOf s)[k]? = some (bt s k):=by
 have h':k<s.data.size:=h
 have h2:s[k]? = some s[k]:=by simp[h]
 have h3:s.data.toList[k]? = some s[k]:=by
  have:s.data.toList[k]? = some s.data[k]:=by simp[h']
  rw[this];rfl
 unfold bytesOf bt
 rw[List.getElem?_map,Int.toNat_natCast,h2,h3]
 rfl
theorem iN{s:ByteArray}{i j:Int}(h0:0≤i)(h1:i≤j)(h2:j≤s.size):((cut s i j).size:Int)=j-i:=by
 unfold cut;rw[ByteArray.size_extract];omega
theorem nK{s:ByteArray}{i j k:Int}(h0:0≤i)(hk:0≤k)(h1:i+k<j)(h2:j≤s.size):bt (cut s i j) k=bt s (i+k):=by
 have hsz:=iN (s:=s) (i:=i) (j:=j) h0 (by omega) h2
 unfold bt
 have e1:(cut s i j)[k.toNat]? = s[(i+k).toNat]?:=by
  have hk':k.toNat<(s.extract i.toNat j.toNat).size:=by unfold cut at hsz;omega
  have hi':(i+k).toNat<s.size:=by omega
  have a1:(s.extract i.toNat j.toNat)[k.toNat]? = some (s.extract i.toNat j.toNat)[k.toNat]:=by simp[hk']
  have a2:s[(i+k).toNat]? = some s[(i+k).toNat]:=by simp[hi']
  show (s.extract i.toNat j.toNat)[k.toNat]? = _
  rw[a1,a2,ByteArray.getElem_extract]
  congr 2
  omega
 rw[e1]
theorem Bx(t:ByteArray)(I:cS)(F:cR):dk P (Go.convert 9 79 (.string t)) I F fun v I' G =>
  ∃(b c:Nat),v=.slice (some ⟨b,0,none⟩) t.size c∧Sl I' 1 Bw (some ⟨b,0,none⟩) t.size (bytesOf t)∧G=F:=by
 intro w hw
 have hrun:=Lib.run_convert_string_bytes (P:=P) w 9 79 5 t (u:=.string) (by kernel_rfl) (by kernel_rfl) (by kernel_rfl)
 have hheap:(Lib.bytesWorld w 5 t).heap=w.heap.push (.cells (Lib.bytesCells w 5 t) 5 ((Lib.bytesCells w 5 t).size,(Lib.bytesCells w 5 t).size+1)):=by
  apply Array.ext_getElem?
  intro j
  rw[Array.getElem?_push]
  rcases Nat.lt_trichotomy j w.heap.size with h | h | h
  ·rw[if_neg (by omega),Lib.bytesWorld_at_old w 5 t j h]
  ·subst h;rw[if_pos rfl,Lib.bytesWorld_at_new]
  ·rw[if_neg (by omega),Array.getElem?_eq_none (by rw[Lib.bytesWorld_size];omega),Array.getElem?_eq_none (by omega)]
 obtain⟨hle,hsat⟩:=((hw.alloc (.cells (Lib.bytesCells w 5 t) 5 ((Lib.bytesCells w 5 t).size,(Lib.bytesCells w 5 t).size+1))).lh)
 refine⟨_,_,_,F,hrun,hle,hsat.of_heap hheap ⟨rfl,rfl⟩,w.heap.size,_,rfl, ?_,rfl⟩
 have hl:t.size=(bytesOf t).length:=by unfold bytesOf;simp
 rw[hl]
 refine Sl.p8 (z:=1) (f:=Bw) (fun _=>rfl) (cS.pO _ _ _) fun k hk=>?_
 have hfl:(bytesOf t).flatMap Bw=(bytesOf t).map fun c=>Value.int .u8 c:=by
  induction bytesOf t with
  | nil=>rfl
  | cons x l ih=>simp[Bw,ih]
 rw[hfl] at hk ⊢
 have hk':k<t.data.size:=by simpa[bytesOf] using hk
 have hk2:k<t.size:=hk'
 simp[Lib.bytesCells,Array.getElem?_append,hk',hk2,bytesOf,Function.comp_def]
theorem tdiv_le{a d:Int}(hd:0≤d)(ha:d≤9):IntKind.wrap .i64 (Int.tdiv (IntKind.wrap .i64 (9223372036854775807-d)) 10)=(9223372036854775807-d) / 10:=by
 rw[ew (n:=9223372036854775807-d) (by omega),Int.tdiv_eq_ediv_of_nonneg (by omega),ew (by omega)]
theorem CH{c:Int}(h:dr c=true):IntKind.wrap .i64 (IntKind.wrap .u8 (c-48))=c-48∧48≤c∧c≤57:=by
 simp only[dr,Bool.and_eq_true,decide_eq_true_eq] at h
 rw[w8 (by omega),ew (by omega)]
 exact⟨rfl,h⟩
theorem x8{p:Int→Bool}{s:ByteArray}{i k:Int}(h1:i≤k)(h2:k<dG p s i)(h3:i≤(s.size:Int)):p (bt s k)=true∧dG p s k=dG p s i:=by
 obtain⟨n,hn⟩:∃n:Nat,n=(k-i).toNat:=⟨_,rfl⟩
 have hle:=fw (p:=p) (s:=s) h3
 induction n generalizing i with
 | zero =>
   have:i=k:=by omega
   subst this
   rw[dJ (by omega)] at h2
   split at h2
   ·rename_i hp;exact⟨hp,rfl⟩
   ·omega
 | succ n ih =>
   have hr:=dJ (p:=p) (s:=s) (i:=i) (by omega)
   split at hr
   ·rw[hr] at h2 ⊢
    exact ih (by omega) h2 (by omega) (by omega) (fw (by omega))
   ·omega
def TR.v2:TR→Value
 | .ok t=>.tuple #[t.v,.int .i64 0]
 | .bad e p=>.tuple #[(kr 0).v,.int .i64 e]
def TR.H7:TR→Value
 | .ok t=>.tuple #[t.v,.int .i64 0]
 | .bad e p=>.tuple #[(kr p).v,.int .i64 e]
theorem ya{s:ByteArray}(hs:dj s){i:Int}(h0:0≤i)(h1:i<s.size)(I:cS)(F:cR):cU P 136 #[.string s,.int .i64 i] I F (kL (kg s i).v2 F):=by
 have hs':=hs
 unfold dj at hs'
 have hE:=fw (p:=dr) (s:=s) (i:=i) (by omega)
 have hstop:=lx (p:=dr) (s:=s) (i:=i) (by omega)
 have hcs:=iN (s:=s) h0 hE.1 hE.2
 generalize hEd:dG dr s i=E at hE hstop hcs
 have hEnd:∀n,eC s E n=n:=fun n=>by
  rcases Int.lt_or_le E s.size with h | h
  ·rw[ij h,hstop h];rfl
  ·exact ou h
 let e2:Int:=if eD (c9 s E)=1 then E else E+1
 have hbad:(eC s i 0>9223372036854775807∨(E-i>1∧bt s i=48)∨(e2<s.size∧(dM (bt s e2)=true∨(65≤bt s e2∧bt s e2≤90)))) →
   (kg s i).v2=.tuple #[(kr 0).v,.int .i64 113]:=fun h=>by
  unfold kg;simp only[hEd];rw[if_pos h];rfl
 have hok:¬(eC s i 0>9223372036854775807∨(E-i>1∧bt s i=48)∨(e2<s.size∧(dM (bt s e2)=true∨(65≤bt s e2∧bt s e2≤90)))) →
   (kg s i).v2=.tuple #[(⟨3,cut s i e2,eD (c9 s E),eC s i 0,i⟩:Tok).v,.int .i64 0]:=fun h=>by
  unfold kg;simp only[hEd];rw[if_neg h];rfl
 have he2r:e2≤s.size∧E≤e2∧e2≤E+1:=by
  show (if eD (c9 s E)=1 then E else E+1)≤_∧_≤(if eD (c9 s E)=1 then E else E+1)∧(if eD (c9 s E)=1 then E else E+1)≤_
  split
  ·omega
  ·rename_i hne
   have:E<s.size:=by
    rcases Int.lt_or_le E s.size with h | h
    ·exact h
    ·rw[show c9 s E=0 by unfold c9;rw[if_neg (by omega)]] at hne
     exact absurd rfl hne
   omega
 refine mW.vc (fun x k b0 b1 b2 b3 b4 t0 t1 t2 t3 t4 m I' F'=>0≤k∧k≤E-i∧m=(E-i-k).toNat∧t0=3∧t2=1∧0≤t3∧t3≤9223372036854775807∧t4=i∧eC s (i+k) t3=eC s i 0∧F'=F)
  (fun x b0 b1 b2 b3 b4 I' F'=>¬(E-i>1∧bt s i=48)∧F'=F) (fun c I' F'=>c=c9 s E∧F'=F)
  (fun en st t0 t1 t2 t3 t4 I' F'=>en=e2∧t0=3∧t2=eD (c9 s E)∧t3=eC s i 0∧t4=i∧F'=F) ?_
 unfold mW.V
 intro b
 refine cU.ret (tM hs h0 (by omega) po CE I _) fun I1 hI1=>⟨_,rfl,F,.refl _, ?_⟩
 intro b_t
 rw[hEd]
 refine⟨⟨h0,hE⟩, ?_⟩
 refine (Bx (cut s i E) I1 _).mono fun v I2 G2 hI2 ⟨bb,cc,hv,hSl,hG⟩=>?_
 subst hG
 refine⟨_,_,_,hv,F,.refl _,⟨_,by omega,by omega,rfl,rfl,rfl,by omega,by omega,rfl,by rw[Int.add_zero],rfl⟩, ?_⟩
 intro x k b0 b1 b2 b3 b4 t0 t1 t2 t3 t4 m I3 F3 hI3 ⟨g0,g1,gm,gt0,gt2,gn0,gn1,gt4,gv,gF⟩
 subst gt0 gt2 gF
 obtain rfl:i=t4:=gt4.symm
 refine⟨fun hk=>?_,fun hk=>?_⟩
 ·have hk:k<E-i:=by have:=of_decide_eq_true hk;omega
  refine⟨⟨g0,by omega⟩, ?_⟩
  obtain⟨ad,c,had,hc,hrd⟩:=(hSl.mono hI3).at (i:=k) g0 (by omega)
  have hbtc:c=bt s (i+k):=by
   rw[xZ (by omega)] at hc
   have:=nK (s:=s) (i:=i) (j:=E) (k:=k) h0 g0 (by omega) hE.2
   rw[Int.toNat_of_nonneg g0] at hc
   rw[this] at hc
   exact (Option.some.inj hc).symm
  obtain⟨hd,_⟩:=x8 (p:=dr) (s:=s) (i:=i) (k:=i+k) (by omega) (by omega) (by omega)
  rw[←hbtc] at hd
  obtain⟨hw,hc0,hc1⟩:=CH hd
  have hvs:=ij (s:=s) (i:=i+k) (v:=t3) (by omega)
  rw[←hbtc,if_pos hd] at hvs
  refine⟨ad,had,c,hrd _, ?_⟩
  rw[hw,tdiv_le (a:=0) (by omega) (by omega)]
  refine⟨fun hgt=>⟨?_,rfl⟩,fun hgt=>?_⟩
  ·refine (congrArg Ending.returned (hbad (.inl ?_)).symm)
   have hgt:=of_decide_eq_true hgt
   have:=tj (s:=s) (i:=i+k+1) (v:=10*t3+(c-48)) (by omega)
   omega
  ·have hgt:=of_decide_eq_false hgt
   refine⟨_, ?_, ?_, ?_,rfl,rfl,rfl, ?_, ?_,rfl, ?_,rfl⟩
   ·rw[ew (by omega)];omega
   ·rw[ew (by omega)];omega
   ·rw[ew (by omega)];omega
   ·rw[ew (n:=10*t3) (by omega),ew (by omega)];omega
   ·rw[ew (n:=10*t3) (by omega),ew (by omega)];omega
   ·rw[ew (n:=10*t3) (by omega),ew (n:=k+1) (by omega),ew (n:=10*t3+(c-48)) (by omega),←gv,hvs]
    congr 1;omega
 ·have hk:¬k<E-i:=by have:=of_decide_eq_false hk;omega
  have hkE:i+k=E:=by omega
  rw[hkE,hEnd] at gv
  rw[ew (n:=E-i) (by omega)]
  refine⟨⟨fun hl=>⟨⟨h0,h1⟩,fun h48=>⟨?_,rfl⟩,fun h48=>⟨?_,rfl⟩⟩,fun hl=>⟨?_,rfl⟩⟩, ?_⟩
  ·exact congrArg Ending.returned (hbad (.inr (.inl ⟨of_decide_eq_true hl,by simpa using h48⟩))).symm
  ·intro hc;rw[hc.2] at h48;simp at h48
  ·intro hc;exact absurd hc.1 (of_decide_eq_false hl)
  intro x2 c0 c1 c2 c3 c4 I4 F4 hI4 ⟨hz,hF4⟩
  subst hF4
  refine⟨⟨fun hl=>⟨⟨by omega,of_decide_eq_true hl⟩, ?_,rfl⟩,fun hl=>⟨?_,rfl⟩⟩, ?_⟩
  ·unfold c9;rw[if_pos (of_decide_eq_true hl)]
  ·unfold c9;rw[if_neg (of_decide_eq_false hl)]
  intro more I5 F5 hI5 ⟨hmore,hF5⟩
  subst hF5
  refine⟨?_, ?_⟩
  ·rw[show IntKind.wrap .i64 (IntKind.wrap .i64 (IntKind.wrap .i64 (-1+1)+1)+1)=2 by decide,show IntKind.wrap .i64 (IntKind.wrap .i64 (-1+1)+1)=1 by decide,
    show IntKind.wrap .i64 (-1+1)=0 by decide,ew (n:=E+1) (by omega)]
   refine⟨fun h=>?_,fun h=>⟨fun h'=>?_,fun h'=>⟨fun h''=>?_,fun h''=>?_⟩⟩⟩
   ·have:more=116:=by simpa using h
    have ht:eD (c9 s E)=4:=by rw[←hmore,this];rfl
    refine⟨?_,rfl,by rw[ht];decide,gv,rfl,rfl⟩
    show _=if eD (c9 s E)=1 then E else E+1
    rw[ht];rfl
   ·have:more=112:=by simpa using h'
    have ht:eD (c9 s E)=3:=by rw[←hmore,this];rfl
    refine⟨?_,rfl,by rw[ht];decide,gv,rfl,rfl⟩
    show _=if eD (c9 s E)=1 then E else E+1
    rw[ht];rfl
   ·have:more=113:=by simpa using h''
    have ht:eD (c9 s E)=2:=by rw[←hmore,this];rfl
    refine⟨?_,rfl,by rw[ht];decide,gv,rfl,rfl⟩
    show _=if eD (c9 s E)=1 then E else E+1
    rw[ht];rfl
   ·have ht:eD (c9 s E)=1:=by
     rw[←hmore];unfold eD
     rw[if_neg (by simpa using h),if_neg (by simpa using h'),if_neg (by simpa using h'')]
    refine⟨?_,rfl,ht.symm,gv,rfl,rfl⟩
    show _=if eD (c9 s E)=1 then E else E+1
    rw[ht];rfl
  intro en st u0 u1 u2 u3 u4 I6 F6 hI6 ⟨hen,hu0,hu2,hu3,hu4,hF6⟩
  subst hu0 hu2 hF6 hen
  obtain rfl:i=u4:=hu4.symm
  have nov:¬eC s i 0>9223372036854775807:=by omega
  have okk:¬(e2<s.size∧(dM (bt s e2)=true∨(65≤bt s e2∧bt s e2≤90))) →
    (0≤i∧i≤e2∧e2≤(s.size:Int))∧∀(J:cS),kL (kg s i).v2 F6 (.returned (Value.tuple #[Value.agg #[Value.int .u8 3,Value.string (s.extract (Int.toNat (i)) (Int.toNat (e2))),Value.int .u8 (eD (c9 s E)),Value.int .i64 u3,Value.int .i64 i],Value.int .i64 0])) J F6:=fun h=>by
   refine⟨by omega,fun J=>⟨?_,rfl⟩⟩
   rw[hok (fun h'=>h'.elim nov fun h'=>h'.elim hz h),hu3]
   rfl
  refine⟨fun hl=>⟨⟨by omega,of_decide_eq_true hl⟩, ?_⟩,fun hl=>?_⟩
  ·have hl:=of_decide_eq_true hl
   refine cU.ret (tr (bt s e2) I6 _) fun I7 hI7=>⟨_,rfl,F6,.refl _,fun hi=>⟨?_,rfl⟩,fun hi=>⟨⟨by omega,hl⟩,fun h65=>⟨⟨by omega,hl⟩,fun h90=>⟨?_,rfl⟩,fun h90=>?_⟩,fun h65=>?_⟩⟩
   ·exact congrArg Ending.returned (hbad (.inr (.inr ⟨hl,.inl hi⟩))).symm
   ·exact congrArg Ending.returned (hbad (.inr (.inr ⟨hl,.inr ⟨of_decide_eq_true h65,of_decide_eq_true h90⟩⟩))).symm
   ·obtain⟨a1,a2⟩:=okk (fun h=>h.2.elim (fun h=>by rw[hi] at h;cases h) fun h=>of_decide_eq_false h90 h.2)
    exact⟨a1,a2 _⟩
   ·obtain⟨a1,a2⟩:=okk (fun h=>h.2.elim (fun h=>by rw[hi] at h;cases h) fun h=>of_decide_eq_false h65 h.1)
    exact⟨a1,a2 _⟩
  ·obtain⟨a1,a2⟩:=okk (fun h=>of_decide_eq_false hl h.1)
   exact⟨a1,a2 _⟩
theorem E6{α:Type}{C:Prop}[d:Decidable C]{x y z:α}(h:z=if C then x else y):∃C':Prop,(C'∧z=x)∨(¬C'∧z=y) :=
 ⟨C,(Classical.em C).imp (fun c=>⟨c,by rw[h,if_pos c]⟩) fun c=>⟨c,by rw[h,if_neg c]⟩⟩
theorem Aw(s:ByteArray)(i:Int):∃C:Prop,(C∧kg s i=.bad 113 i)∨(¬C∧kg s i =
  .ok ⟨3,cut s i (if eD (c9 s (dG dr s i))=1 then dG dr s i else dG dr s i+1),eD (c9 s (dG dr s i)),eC s i 0,i⟩):=by
 exact E6 rfl
theorem tN(s:ByteArray)(i:Int):(∃t,kg s i=.ok t∧t.pos=i)∨kg s i=.bad 113 i:=by
 obtain⟨C,⟨_,h⟩ | ⟨_,h⟩⟩:=Aw s i
 ·exact .inr h
 ·exact .inl ⟨_,h,rfl⟩
theorem tP{s:ByteArray}(hs:dj s){f:Int}(h0:0≤f)(h1:f≤s.size)(I:cS)(F:cR):cU P 123 #[.string s,.int .i64 f] I F (kL (iG s f).H7 F):=by
 have hs':=hs
 unfold dj at hs'
 refine oz.vc ?_
 unfold oz.V
 intro b
 have ho:=jo (s:=s) h1
 refine cU.ret (zp hs h0 h1 I _) fun I1 hI1=>⟨_,rfl,F,.refl _, ?_⟩
 unfold iG
 simp only
 generalize dx s f=r at ho ⊢
 refine⟨fun h=>⟨?_,rfl⟩,fun h=>⟨?_, ?_⟩⟩
 ·rw[if_pos (by simpa using h)];rfl
 ·have:r≠s.size:=by simpa using h
  omega
 ·have hlt:r<s.size:=by have:r≠s.size:=by simpa using h
                        omega
  rw[if_neg (by omega)]
  refine cU.ret (po (bt s r) I1 _) fun I2 hI2=>⟨_,rfl,F,.refl _,fun hd=>?_,fun hd=>?_⟩
  ·rw[if_pos hd]
   refine cU.ret (ya hs (by omega) hlt I2 _) fun I3 hI3=>?_
   rcases tN s r with ⟨t,ht,hp⟩ | ht
   ·rw[ht];exact⟨_,_,_,_,_,_,rfl,F,.refl _,fun b_t=>⟨by rw[←hp];rfl,rfl⟩⟩
   ·rw[ht];exact⟨_,_,_,_,_,_,rfl,F,.refl _,fun b_t=>⟨rfl,rfl⟩⟩
  ·rw[if_neg (by rw[hd];exact Bool.false_ne_true)]
   refine cU.ret (tq (bt s r) I2 _) fun I3 hI3=>⟨_,rfl,F,.refl _,fun hm=>?_,fun hm=>?_⟩
   ·rw[if_pos hm]
    have hn:=fw (p:=dM) (s:=s) (i:=r) (by omega)
    refine cU.ret (tM hs (by omega) (by omega) tr CF I3 _) fun I4 hI4=>⟨_,rfl,F,.refl _, ?_⟩
    unfold ly
    simp only
    generalize dG dM s r=e at hn ⊢
    rw[ew (by omega)]
    refine⟨fun h=>⟨?_,rfl⟩,fun h=>⟨⟨by omega,hn⟩,fun b_t=>?_⟩⟩
    ·rw[if_pos (of_decide_eq_true h)];rfl
    ·rw[if_neg (of_decide_eq_false h)]
     refine cU.ret (Bp (cut s r e) I4 _) fun I5 hI5=>⟨_,rfl,F,.refl _,fun hw=>⟨?_,rfl⟩,fun hw=>⟨?_,rfl⟩⟩
     ·rw[if_pos hw];rfl
     ·rw[if_neg (by rw[hw];exact Bool.false_ne_true)];rfl
   ·rw[if_neg (by rw[hm];exact Bool.false_ne_true)]
    refine cU.ret (Bv hs (by omega) hlt I3 _) fun I4 hI4=>⟨_,rfl,F,.refl _, ?_⟩
    have hr:=lF s r
    have hl:=qk hlt
    unfold lz
    generalize fS s r=k at hr hl ⊢
    rw[ew (by omega)]
    refine⟨fun h=>⟨?_,rfl⟩,fun h=>⟨by omega, ?_,rfl⟩⟩
    ·rw[if_pos (by simpa using h)];rfl
    ·rw[if_neg (by simpa using h)];rfl
def vw(s:ByteArray)(f:Int):Value :=
 if (s.size:Int)>4096 then .tuple #[(kr 0).v,.int .i64 0,.int .i64 110]
 else if f<0∨f>s.size then .tuple #[(kr 0).v,.int .i64 0,.int .i64 1]
 else match iG s f with
  | .ok t=>.tuple #[t.v,.int .i64 (t.pos+t.text.size),.int .i64 0]
  | .bad e p=>.tuple #[(kr 0).v,.int .i64 0,.int .i64 e]
def vx(s:ByteArray)(i:Int)(t:Tok):Prop :=
 t.pos=i∧t.pos+t.text.size≤s.size∧t.text=cut s t.pos (t.pos+t.text.size)∧((t.kind=0∧i=s.size∧t=kr s.size)∨(0<t.kind∧t.kind≤4∧0<t.text.size))
theorem vx.mk'{s:ByteArray}{i e k y n:Int}(h0:0≤i)(h:i<e)(h1:e≤s.size)(hk:0<k∧k≤4):vx s i ⟨k,cut s i e,y,n,i⟩:=by
 have hc:=iN h0 (by omega:i≤e) h1
 refine⟨rfl, ?_, ?_,.inr ⟨hk.1,hk.2, ?_⟩⟩
 ·show i+((cut s i e).size:Int)≤_;omega
 ·show cut s i e=cut s i (i+(cut s i e).size);rw[hc];congr 1;omega
 ·show 0<(cut s i e).size;omega
theorem CI(s:ByteArray)(i:Int):cut s i i=⟨#[]⟩:=by
 unfold cut
 have:(s.extract i.toNat i.toNat).size=0:=by rw[ByteArray.size_extract];omega
 exact ByteArray.size_eq_zero_iff.1 this
theorem ik{s:ByteArray}{f:Int}(h0:0≤f)(h1:f≤s.size) :
  (∃t,iG s f=.ok t∧vx s (dx s f) t)∨(∃e,iG s f=.bad e (dx s f)∧(e=111∨e=112∨e=113)):=by
 have ho:=jo (s:=s) h1
 unfold iG
 simp only
 generalize dx s f=i at ho ⊢
 by_cases hi:i=s.size
 ·rw[if_pos hi]
  refine .inl ⟨_,rfl,rfl, ?_, ?_,.inl ⟨rfl,hi,by rw[hi]⟩⟩
  ·show i+((0:Nat):Int)≤_;omega
  ·show (⟨#[]⟩:ByteArray)=cut s i (i+((0:Nat):Int))
   rw[show i+((0:Nat):Int)=i by omega,CI]
 ·have hlt:i<s.size:=by omega
  rw[if_neg hi]
  by_cases hd:dr (bt s i)=true
  ·rw[if_pos hd]
   obtain⟨C,⟨_,h⟩ | ⟨_,h⟩⟩:=Aw s i
   ·exact .inr ⟨_,h,by simp⟩
   ·refine .inl ⟨_,h, ?_⟩
    have hr:=dJ (p:=dr) hlt
    rw[if_pos hd] at hr
    have:=fw (p:=dr) (s:=s) (i:=i+1) (by omega)
    refine vx.mk' (by omega) ?_ ?_ (by decide)
    ·split<;>omega
    ·split
     ·omega
     ·rename_i hne
      have:dG dr s i<s.size:=by
       rcases Int.lt_or_le (dG dr s i) s.size with h | h
       ·exact h
       ·rw[show c9 s (dG dr s i)=0 by unfold c9;rw[if_neg (by omega)]] at hne
        exact absurd rfl hne
      omega
  ·rw[if_neg hd]
   by_cases hm:ig (bt s i)=true
   ·rw[if_pos hm]
    have hr:=dJ (p:=dM) hlt
    rw[if_pos (by simp[dM,hm])] at hr
    have:=fw (p:=dM) (s:=s) (i:=i+1) (by omega)
    unfold ly
    simp only
    split
    ·exact .inr ⟨_,rfl,by simp⟩
    ·exact .inl ⟨_,rfl,vx.mk' (by omega) (by omega) (by omega) (by split<;>decide)⟩
   ·rw[if_neg hm]
    have hr:=lF s i
    have hl:=qk hlt
    unfold lz
    split
    ·exact .inr ⟨_,rfl,by simp⟩
    ·exact .inl ⟨_,rfl,vx.mk' (by omega) (by omega) (by omega) (by decide)⟩
theorem oA{s:ByteArray}(hs:dj s){f:Int}(I:cS)(F:cR):cU P 102 #[.string s,.int .i64 f] I F (kL (vw s f) F):=by
 refine qj.vc ?_
 unfold qj.V
 intro b
 unfold vw
 refine⟨fun h=>⟨by rw[if_pos (of_decide_eq_true h)];rfl,rfl⟩,fun h=>?_⟩
 rw[if_neg (of_decide_eq_false h)]
 refine⟨fun h=>⟨by rw[if_pos (.inl (of_decide_eq_true h))];rfl,rfl⟩,fun h=>⟨fun h=>⟨by rw[if_pos (.inr (of_decide_eq_true h))];rfl,rfl⟩,fun h'=>?_⟩⟩
 have h:=of_decide_eq_false h
 have h':=of_decide_eq_false h'
 unfold dj at hs
 rw[if_neg (by omega)]
 refine cU.ret (tP hs (by omega) (by omega) I _) fun I1 hI1=>?_
 rcases ik (s:=s) (f:=f) (by omega) (by omega) with ⟨t,ht,hp,hl,_⟩ | ⟨e,ht,he⟩
 ·rw[ht]
  refine⟨_,_,_,_,_,_,rfl,F,.refl _,fun b_t=>⟨fun h=>absurd h (by decide),fun _=>⟨?_,rfl⟩⟩⟩
  have:=jo (s:=s) (i:=f) (by omega)
  rw[ew (n:=t.pos+t.text.size) (by omega)];rfl
 ·rw[ht]
  refine⟨_,_,_,_,_,_,rfl,F,.refl _,fun b_t=>⟨fun h=>⟨rfl,rfl⟩,fun h=>?_⟩⟩
  rcases he with rfl | rfl | rfl<;>exact absurd h (by decide)
end Go.Lx
namespace Go.Lx
open Go.Vc Go.Proofs.Tryz
def qV:List (Nat×List Sh):=[(3,[.one (.int .i64)]),(4,[.one .bool]),(9,[.one .str]),(77,[.agg [(.int .u8),.str,(.int .u8),(.int .i64),(.int .i64)],.one (.int .i64),.one (.int .i64)]),(80,[.one .slc]),(81,[.one .slc,.one (.int .i64),.one (.int .i64)]),(134,[.agg [(.int .u8),.str,(.int .u8),(.int .i64),(.int .i64)],.one (.int .i64)])]
def mY.V(vi:Int→Value)(wr:Int→Int)(s:Bs)(p:Int)(I:cS)(F:cR)(Q:cT)(Inv8:Int→Bool→Int→Nat→cS→cR→Prop):Prop:=(∃m:Nat,Inv8 0 false p m I F)∧∀(x:Int) (a:Bool) (i:Int) (m1:Nat) (I1:cS) (F1:cR),cS.le I I1→Inv8 x a i m1 I1 F1→(Dt (i<(s.size:Int)) ((0≤i∧i<(s.size:Int))∧(It ((bt s i)==10) (It ((bt s i)==35) (It false (It ((bt s i)!=32) (It ((bt s i)!=9) (It ((bt s i)!=10) (It ((bt s i)!=13) (Q (.returned (vi i)) I1 F1) (∃m2:Nat,m2<m1∧Inv8 x true (wr (i+1)) m2 I1 F1)) (∃m3:Nat,m3<m1∧Inv8 x true (wr (i+1)) m3 I1 F1)) (∃m4:Nat,m4<m1∧Inv8 x true (wr (i+1)) m4 I1 F1)) (∃m5:Nat,m5<m1∧Inv8 x true (wr (i+1)) m5 I1 F1)) (∃m6:Nat,m6<m1∧Inv8 x true (wr (i+1)) m6 I1 F1)) (It true (It ((bt s i)!=32) (It ((bt s i)!=9) (It ((bt s i)!=10) (It ((bt s i)!=13) (Q (.returned (vi i)) I1 F1) (∃m7:Nat,m7<m1∧Inv8 x false (wr (i+1)) m7 I1 F1)) (∃m8:Nat,m8<m1∧Inv8 x false (wr (i+1)) m8 I1 F1)) (∃m9:Nat,m9<m1∧Inv8 x false (wr (i+1)) m9 I1 F1)) (∃b:Nat,b<m1∧Inv8 x false (wr (i+1)) b I1 F1)) (∃c:Nat,c<m1∧Inv8 x false (wr (i+1)) c I1 F1))) (It ((bt s i)==35) (It false (It ((bt s i)!=32) (It ((bt s i)!=9) (It ((bt s i)!=10) (It ((bt s i)!=13) (Q (.returned (vi i)) I1 F1) (∃d:Nat,d<m1∧Inv8 x true (wr (i+1)) d I1 F1)) (∃e:Nat,e<m1∧Inv8 x true (wr (i+1)) e I1 F1)) (∃f:Nat,f<m1∧Inv8 x true (wr (i+1)) f I1 F1)) (∃g:Nat,g<m1∧Inv8 x true (wr (i+1)) g I1 F1)) (∃h:Nat,h<m1∧Inv8 x true (wr (i+1)) h I1 F1)) (It (!a) (It ((bt s i)!=32) (It ((bt s i)!=9) (It ((bt s i)!=10) (It ((bt s i)!=13) (Q (.returned (vi i)) I1 F1) (∃j:Nat,j<m1∧Inv8 x a (wr (i+1)) j I1 F1)) (∃k:Nat,k<m1∧Inv8 x a (wr (i+1)) k I1 F1)) (∃l:Nat,l<m1∧Inv8 x a (wr (i+1)) l I1 F1)) (∃n:Nat,n<m1∧Inv8 x a (wr (i+1)) n I1 F1)) (∃o:Nat,o<m1∧Inv8 x a (wr (i+1)) o I1 F1))))) (Q (.returned (vi (s.size:Int))) I1 F1))
theorem mY.vc{s:Bs}{a:Int}{I:cS}{F:cR}{Q:cT}(Inv8:Int→Bool→Int→Nat→cS→cR→Prop)(h:mY.V (.int .i64) (IntKind.wrap .i64) s a I F Q Inv8):cU P 53 #[.string s,.int .i64 a] I F Q :=
 tw (A:=(dy [3003,6001,8001,10001,10004,10008,10012,10016] [] [] qV [(8,⟨[(4,(.int .i64)),(5,.bool),(6,(.int .i64))],[],fun _ _ _ vs m I F=>match vs with | [.int _ y0,.bool y1,.int _ y2]=>Inv8 y0 y1 y2 m I F | _=>False,[],[]⟩)] [] [] [] [] [] [])) [] func53 h
def lG.V(ka:Nat→Int→Bs→Int→Int→Int→Nat×Obj)(vb vi:Int→Value)(vs:Bs→Value)(wr:Int→Int)(s:Bs)(c:Int)(I:cS)(F:cR)(Q:cT)(Inv6:Int→Nat→cS→cR→Prop):Prop:=∀b:Nat,(∃m:Nat,Inv6 c m I F)∧∀(a:Int) (m1:Nat) (I1:cS) (F1:cR),cS.le I I1→Inv6 a m1 I1 F1→(Dt (a<(s.size:Int)) ((0≤a∧a<(s.size:Int))∧dt P 97 (#[vb (bt s a)]) I1 ((ka b 0 (⟨#[]⟩:Bs) 0 0 0)::·) F1 .bool fun r I2 F2=>(It r (∃m2:Nat,m2<m1∧Inv6 (wr (a+1)) m2 I2 F2) ((0≤c∧c≤a∧a≤(s.size:Int))∧∀e:Nat,(Dt ((wr (a-c))>16) (Q (.returned (.tuple #[.agg #[vb 0,vs (⟨#[]⟩:Bs),vb 0,vi 0,vi 0],vi 112])) I2 F2) (dt P 96 (#[vs (s.extract (Int.toNat c) (Int.toNat a))]) I2 ((ka b 0 (⟨#[]⟩:Bs) 0 0 0)::(ka e 2 (s.extract (Int.toNat c) (Int.toNat a)) 0 0 c)::·) F2 .bool fun r1 I3 F3=>(It r1 (Q (.returned (.tuple #[.agg #[vb 1,vs (s.extract (Int.toNat c) (Int.toNat a)),vb 0,vi 0,vi c],vi 0])) I3 F3) (Q (.returned (.tuple #[.agg #[vb 2,vs (s.extract (Int.toNat c) (Int.toNat a)),vb 0,vi 0,vi c],vi 0])) I3 F3))))))) ((0≤c∧c≤a∧a≤(s.size:Int))∧∀d:Nat,(Dt ((wr (a-c))>16) (Q (.returned (.tuple #[.agg #[vb 0,vs (⟨#[]⟩:Bs),vb 0,vi 0,vi 0],vi 112])) I1 F1) (dt P 96 (#[vs (s.extract (Int.toNat c) (Int.toNat a))]) I1 ((ka b 0 (⟨#[]⟩:Bs) 0 0 0)::(ka d 2 (s.extract (Int.toNat c) (Int.toNat a)) 0 0 c)::·) F1 .bool fun r2 I4 F4=>(It r2 (Q (.returned (.tuple #[.agg #[vb 1,vs (s.extract (Int.toNat c) (Int.toNat a)),vb 0,vi 0,vi c],vi 0])) I4 F4) (Q (.returned (.tuple #[.agg #[vb 2,vs (s.extract (Int.toNat c) (Int.toNat a)),vb 0,vi 0,vi c],vi 0])) I4 F4))))))
theorem lG.vc{s:Bs}{f:Int}{I:cS}{F:cR}{Q:cT}(Inv6:Int→Nat→cS→cR→Prop)(h:lG.V (fun W a b c d e=>(W,Obj.cells #[.int .u8 a,.string b,.int .u8 c,.int .i64 d,.int .i64 e] 76 (0,0))) (.int .u8) (.int .i64) .string (IntKind.wrap .i64) s f I F Q Inv6):cU P 55 #[.string s,.int .i64 f] I F Q :=
 tw (A:=(dy [2003,2008,5003,8000] [] [96,97] qV [(6,⟨[(6,(.int .i64))],[],fun _ _ _ vs m I F=>match vs with | [.int _ y0]=>Inv6 y0 m I F | _=>False,[],[]⟩)] [] [] [] [] [] [])) [96,97] func55 h
def kx.V(ka:Nat→Int→Bs→Int→Int→Int→Nat×Obj)(kb:Int→Bs→Int→Int→Int→Value)(vb vi:Int→Value)(vs:Bs→Value)(wr:Int→Int)(s:Bs)(d:Int)(I:cS)(F:cR)(Q:cT)(Inv8:Int→Int→Int→Int→Bs→Int→Int→Int→cS→cR→Prop)(Inv10:Int→Int→Int→Int→Bs→Int→Int→Int→Nat→cS→cR→Prop)(Inv29:Int→Int→Bs→Int→Int→Int→cS→cR→Prop)(Inv39:Int→Bs→Int→Int→Int→cS→cR→Prop)(Inv45:Int→Bs→Int→Int→Int→cS→cR→Prop)(Inv51:Int→Bs→Int→Int→Int→cS→cR→Prop)(Inv57:Int→cS→cR→Prop):Prop:=∀b:Nat,∀ao:Nat,((∃m:Nat,Inv10 0 d 0 0 (⟨#[]⟩:Bs) 0 0 0 m I F)∧∀(x f n y:Int) (z:Bs) (aa ab ac:Int) (m1:Nat) (I1:cS) (F1:cR),cS.le I I1→Inv10 x f n y z aa ab ac m1 I1 F1→(Dt (f<(s.size:Int)) ((0≤f∧f<(s.size:Int))∧dt P 56 (#[vb (bt s f)]) I1 ((ka b y z aa ab ac)::(ka ao 3 (⟨#[]⟩:Bs) 1 0 d)::·) F1 .bool fun r I2 F2=>(It r (Dt (n>922337203685477580) (Q (.returned (.tuple #[(kb 0 (⟨#[]⟩:Bs) 0 0 0),vi 113])) I2 F2) ((0≤f∧f<(s.size:Int))∧(∃m2:Nat,m2<m1∧Inv10 x (wr (f+1)) (IntKind.wrap .u64 ((IntKind.wrap .u64 (10*n))+(IntKind.wrap .u64 (IntKind.wrap .u8 ((bt s f)-48))))) y z aa ab ac m2 I2 F2))) (Inv8 x f n y z aa ab ac I2 F2))) (Inv8 x f n y z aa ab ac I1 F1)))∧∀(x1 a n1 ae:Int) (af:Bs) (ag ah ai:Int) (I3:cS) (F3:cR),cS.le I I3→Inv8 x1 a n1 ae af ag ah ai I3 F3→((Dt (n1>9223372036854775807) (Q (.returned (.tuple #[(kb 0 (⟨#[]⟩:Bs) 0 0 0),vi 113])) I3 F3) (Dt ((wr (a-d))>1) ((0≤d∧d<(s.size:Int))∧(It ((bt s d)==48) (Q (.returned (.tuple #[(kb 0 (⟨#[]⟩:Bs) 0 0 0),vi 113])) I3 F3) (Inv29 x1 ae af ag ah ai I3 F3))) (Inv29 x1 ae af ag ah ai I3 F3))))∧∀(x2 aj:Int) (ak:Bs) (al am an:Int) (I4:cS) (F4:cR),cS.le I3 I4→Inv29 x2 aj ak al am an I4 F4→((Dt (a<(s.size:Int)) ((0≤a∧a<(s.size:Int))∧(It ((bt s a)==113) (Inv39 3 (⟨#[]⟩:Bs) 2 (wr n1) d I4 F4) (Inv39 3 (⟨#[]⟩:Bs) 1 (wr n1) d I4 F4))) (Inv39 3 (⟨#[]⟩:Bs) 1 (wr n1) d I4 F4)))∧∀(p:Int) (q:Bs) (ad t u:Int) (I5:cS) (F5:cR),cS.le I4 I5→Inv39 p q ad t u I5 F5→((Dt (a<(s.size:Int)) ((0≤a∧a<(s.size:Int))∧(It ((bt s a)==112) (Inv45 p q 3 t u I5 F5) (Inv45 p q ad t u I5 F5))) (Inv45 p q ad t u I5 F5)))∧∀(j:Int) (k:Bs) (v l o:Int) (I6:cS) (F6:cR),cS.le I5 I6→Inv45 j k v l o I6 F6→((Dt (a<(s.size:Int)) ((0≤a∧a<(s.size:Int))∧(It ((bt s a)==116) (Inv51 j k 4 l o I6 F6) (Inv51 j k v l o I6 F6))) (Inv51 j k v l o I6 F6)))∧∀(g:Int) (w:Bs) (e h i:Int) (I7:cS) (F7:cR),cS.le I6 I7→Inv51 g w e h i I7 F7→((It (e != 1) (Inv57 (wr (a+1)) I7 F7) (Inv57 a I7 F7)))∧∀(c:Int) (I8:cS) (F8:cR),cS.le I7 I8→Inv57 c I8 F8→(Dt (c<(s.size:Int)) ((0≤c∧c<(s.size:Int))∧dt P 97 (#[vb (bt s c)]) I8 ((ka b aj ak al am an)::(ka ao g w e h i)::·) F8 .bool fun r1 I9 F9=>(It r1 (Q (.returned (.tuple #[(kb 0 (⟨#[]⟩:Bs) 0 0 0),vi 113])) I9 F9) ((0≤c∧c<(s.size:Int))∧(Dt ((bt s c)≥65) ((0≤c∧c<(s.size:Int))∧(Dt ((bt s c)≤90) (Q (.returned (.tuple #[(kb 0 (⟨#[]⟩:Bs) 0 0 0),vi 113])) I9 F9) ((0≤d∧d≤c∧c≤(s.size:Int))∧Q (.returned (.tuple #[(kb g (s.extract (Int.toNat d) (Int.toNat c)) e h i),vi 0])) I9 F9))) ((0≤d∧d≤c∧c≤(s.size:Int))∧Q (.returned (.tuple #[(kb g (s.extract (Int.toNat d) (Int.toNat c)) e h i),vi 0])) I9 F9))))) ((0≤d∧d≤c∧c≤(s.size:Int))∧Q (.returned (.tuple #[(kb g (s.extract (Int.toNat d) (Int.toNat c)) e h i),vi 0])) I8 F8))
theorem kx.vc{s:Bs}{f:Int}{I:cS}{F:cR}{Q:cT}(Inv8:Int→Int→Int→Int→Bs→Int→Int→Int→cS→cR→Prop)(Inv10:Int→Int→Int→Int→Bs→Int→Int→Int→Nat→cS→cR→Prop)(Inv29:Int→Int→Bs→Int→Int→Int→cS→cR→Prop)(Inv39:Int→Bs→Int→Int→Int→cS→cR→Prop)(Inv45:Int→Bs→Int→Int→Int→cS→cR→Prop)(Inv51:Int→Bs→Int→Int→Int→cS→cR→Prop)(Inv57:Int→cS→cR→Prop)(h:kx.V (fun W a b c d e=>(W,Obj.cells #[.int .u8 a,.string b,.int .u8 c,.int .i64 d,.int .i64 e] 76 (0,0))) (fun a b c d e=>.agg #[.int .u8 a,.string b,.int .u8 c,.int .i64 d,.int .i64 e]) (.int .u8) (.int .i64) .string (IntKind.wrap .i64) s f I F Q Inv8 Inv10 Inv29 Inv39 Inv45 Inv51 Inv57):cU P 57 #[.string s,.int .i64 f] I F Q :=
 tw (A:=(dy [4003,4008,5001,9001,9006,9011,12003,12008,14003,14008,16003,16008,18002,20003,20008,20013,20018] [] [56,97] qV [(8,⟨[(5,(.int .i64)),(7,(.int .i64)),(8,(.int .u64))],[(0,[(.int .u8),.str,(.int .u8),(.int .i64),(.int .i64)])],fun _ _ _ vs m I F=>match vs with | [.int _ y0,.int _ y1,.int _ y2,.int _ y3,.string y4,.int _ y5,.int _ y6,.int _ y7]=>Inv8 y0 y1 y2 y3 y4 y5 y6 y7 I F | _=>False,[],[]⟩),(10,⟨[(5,(.int .i64)),(7,(.int .i64)),(8,(.int .u64))],[(0,[(.int .u8),.str,(.int .u8),(.int .i64),(.int .i64)])],fun _ _ _ vs m I F=>match vs with | [.int _ y0,.int _ y1,.int _ y2,.int _ y3,.string y4,.int _ y5,.int _ y6,.int _ y7]=>Inv10 y0 y1 y2 y3 y4 y5 y6 y7 m I F | _=>False,[],[]⟩),(29,⟨[(5,(.int .i64))],[(0,[(.int .u8),.str,(.int .u8),(.int .i64),(.int .i64)])],fun _ _ _ vs m I F=>match vs with | [.int _ y0,.int _ y1,.string y2,.int _ y3,.int _ y4,.int _ y5]=>Inv29 y0 y1 y2 y3 y4 y5 I F | _=>False,[],[]⟩),(39,⟨[],[(1,[(.int .u8),.str,(.int .u8),(.int .i64),(.int .i64)])],fun _ _ _ vs m I F=>match vs with | [.int _ y0,.string y1,.int _ y2,.int _ y3,.int _ y4]=>Inv39 y0 y1 y2 y3 y4 I F | _=>False,[],[]⟩),(45,⟨[],[(1,[(.int .u8),.str,(.int .u8),(.int .i64),(.int .i64)])],fun _ _ _ vs m I F=>match vs with | [.int _ y0,.string y1,.int _ y2,.int _ y3,.int _ y4]=>Inv45 y0 y1 y2 y3 y4 I F | _=>False,[],[]⟩),(51,⟨[],[(1,[(.int .u8),.str,(.int .u8),(.int .i64),(.int .i64)])],fun _ _ _ vs m I F=>match vs with | [.int _ y0,.string y1,.int _ y2,.int _ y3,.int _ y4]=>Inv51 y0 y1 y2 y3 y4 I F | _=>False,[],[]⟩),(57,⟨[(7,(.int .i64))],[],fun _ _ _ vs m I F=>match vs with | [.int _ y0]=>Inv57 y0 I F | _=>False,[],[]⟩)] [] [] [] [] [] [])) [56,97] func57 h
def mZ.V(vb vi:Int→Value)(vs:Bs→Value)(wr:Int→Int)(s:Bs)(a:Int)(I:cS)(F:cR)(Q:cT)(Inv8:Int→Int→Int→Bs→Int→Int→Int→Nat→cS→cR→Prop):Prop:=∀b:Nat,∀(b1:Nat) (I1:cS),cS.le I I1→I1 b1=some (Obj.cells #[vs (⟨#[61,61]⟩:Bs),vs (⟨#[33,61]⟩:Bs),vs (⟨#[60,61]⟩:Bs),vs (⟨#[62,61]⟩:Bs),vs (⟨#[38,38]⟩:Bs),vs (⟨#[124,124]⟩:Bs),vs (⟨#[123]⟩:Bs),vs (⟨#[125]⟩:Bs),vs (⟨#[40]⟩:Bs),vs (⟨#[41]⟩:Bs),vs (⟨#[44]⟩:Bs),vs (⟨#[59]⟩:Bs),vs (⟨#[63]⟩:Bs),vs (⟨#[58]⟩:Bs),vs (⟨#[61]⟩:Bs),vs (⟨#[33]⟩:Bs),vs (⟨#[60]⟩:Bs),vs (⟨#[62]⟩:Bs),vs (⟨#[43]⟩:Bs),vs (⟨#[45]⟩:Bs),vs (⟨#[42]⟩:Bs),vs (⟨#[47]⟩:Bs),vs (⟨#[37]⟩:Bs)] 9 (0,0))→(∃m:Nat,Inv8 0 0 0 (⟨#[]⟩:Bs) 0 0 0 m I1 F)∧∀(x i c:Int) (d:Bs) (e f g:Int) (m1:Nat) (I2:cS) (F1:cR),cS.le I1 I2→Inv8 x i c d e f g m1 I2 F1→(Dt (i<(23:Int)) ((0≤i∧i<(23:Int))∧∃ad:Addr,some ⟨b1,0,none⟩=some ad∧∃(m2:Bs),Rd I2 ((b,Obj.cells #[vb c,vs d,vb e,vi f,vi g] 76 (0,0))::F1) (ad.add (Int.toNat i*1)) [vs m2]∧(Dt ((wr (a+(m2.size:Int)))≤(s.size:Int)) ((0≤a∧a≤(wr (a+(m2.size:Int)))∧(wr (a+(m2.size:Int)))≤(s.size:Int))∧((0≤i∧i<(23:Int))∧∃h:Addr,some ⟨b1,0,none⟩=some h∧∃(m3:Bs),Rd I2 ((b,Obj.cells #[vb c,vs d,vb e,vi f,vi g] 76 (0,0))::F1) (h.add (Int.toNat i*1)) [vs m3]∧(It ((s.extract (Int.toNat a) (Int.toNat ((wr (a+(m2.size:Int)))))).toList==m3.toList) ((0≤i∧i<(23:Int))∧∃j:Addr,some ⟨b1,0,none⟩=some j∧∃(m4:Bs),Rd I2 ((b,Obj.cells #[vb c,vs d,vb e,vi f,vi g] 76 (0,0))::F1) (j.add (Int.toNat i*1)) [vs m4]∧Q (.returned (.tuple #[.agg #[vb 4,vs m4,vb 0,vi 0,vi a],vi 0])) I2 F1) (∃m5:Nat,m5<m1∧Inv8 x (wr (i+1)) c d e f g m5 I2 F1)))) (∃m6:Nat,m6<m1∧Inv8 x (wr (i+1)) c d e f g m6 I2 F1))) (Q (.returned (.tuple #[.agg #[vb 0,vs (⟨#[]⟩:Bs),vb 0,vi 0,vi 0],vi 111])) I2 F1))
theorem mZ.vc{s:Bs}{a:Int}{I:cS}{F:cR}{Q:cT}(Inv8:Int→Int→Int→Bs→Int→Int→Int→Nat→cS→cR→Prop)(h:mZ.V (.int .u8) (.int .i64) .string (IntKind.wrap .i64) s a I F Q Inv8):cU P 58 #[.string s,.int .i64 a] I F Q :=
 tw (A:=(dy [3003,6005,6017] [] [] qV [(8,⟨[(5,(.int .i64)),(7,(.int .i64))],[(0,[(.int .u8),.str,(.int .u8),(.int .i64),(.int .i64)])],fun _ _ _ vs m I F=>match vs with | [.int _ y0,.int _ y1,.int _ y2,.string y3,.int _ y4,.int _ y5,.int _ y6]=>Inv8 y0 y1 y2 y3 y4 y5 y6 m I F | _=>False,[],[]⟩)] [1000] [] [] [] [] [])) [] func58 h
def oB.V(ka:Nat→Int→Bs→Int→Int→Int→Nat×Obj)(kb:Int→Bs→Int→Int→Int→Value)(vb vi:Int→Value)(vs:Bs→Value)(s:Bs)(w:Int)(I:cS)(F:cR)(Q:cT)  : Prop:=∀b:Nat,dt P 53 #[vs s,vi w] I ((ka b 0 (⟨#[]⟩:Bs) 0 0 0)::·) F vi fun r I1 F1=>(It (r==(s.size:Int)) (Q (.returned (.tuple #[(kb 0 (⟨#[]⟩:Bs) 0 0 r),vi 0,vi 0])) I1 F1) (∀a:Nat,((0≤r∧r<(s.size:Int))∧dt P 54 (#[vb (bt s r)]) I1 ((ka b 0 (⟨#[]⟩:Bs) 0 0 0)::(ka a 0 (⟨#[]⟩:Bs) 0 0 0)::·) F1 .bool fun r1 I2 F2=>(It r1 (eg P 55 #[vs s,vi r] I2 ((ka b 0 (⟨#[]⟩:Bs) 0 0 0)::(ka a 0 (⟨#[]⟩:Bs) 0 0 0)::·) F2 fun e3 I3 G3=>∃(p:Int) (q:Bs) (t u v m:Int),e3=.returned (.tuple #[(kb p q t u v),vi m])∧G3 fun F3=>(It (m != 0) (Q (.returned (.tuple #[(kb p q t u v),vi m,vi r])) I3 F3) (Q (.returned (.tuple #[(kb p q t u v),vi m,vi 0])) I3 F3))) ((0≤r∧r<(s.size:Int))∧dt P 56 (#[vb (bt s r)]) I2 ((ka b 0 (⟨#[]⟩:Bs) 0 0 0)::(ka a 0 (⟨#[]⟩:Bs) 0 0 0)::·) F2 .bool fun r2 I4 F4=>(It r2 (eg P 57 #[vs s,vi r] I4 ((ka b 0 (⟨#[]⟩:Bs) 0 0 0)::(ka a 0 (⟨#[]⟩:Bs) 0 0 0)::·) F4 fun e5 I5 G5=>∃(c:Int) (d:Bs) (e f g n:Int),e5=.returned (.tuple #[(kb c d e f g),vi n])∧G5 fun F5=>(It (n != 0) (Q (.returned (.tuple #[(kb c d e f g),vi n,vi r])) I5 F5) (Q (.returned (.tuple #[(kb c d e f g),vi n,vi 0])) I5 F5))) (eg P 58 #[vs s,vi r] I4 ((ka b 0 (⟨#[]⟩:Bs) 0 0 0)::(ka a 0 (⟨#[]⟩:Bs) 0 0 0)::·) F4 fun e6 I6 G6=>∃(h:Int) (i:Bs) (j k l o:Int),e6=.returned (.tuple #[(kb h i j k l),vi o])∧G6 fun F6=>(It (o != 0) (Q (.returned (.tuple #[(kb h i j k l),vi o,vi r])) I6 F6) (Q (.returned (.tuple #[(kb h i j k l),vi o,vi 0])) I6 F6)))))))))
theorem oB.vc{s:Bs}{f:Int}{I:cS}{F:cR}{Q:cT}  (h:oB.V (fun W a b c d e=>(W,Obj.cells #[.int .u8 a,.string b,.int .u8 c,.int .i64 d,.int .i64 e] 76 (0,0))) (fun a b c d e=>.agg #[.int .u8 a,.string b,.int .u8 c,.int .i64 d,.int .i64 e]) (.int .u8) (.int .i64) .string s f I F Q):cU P 22 #[.string s,.int .i64 f] I F Q :=
 tw (A:=(an [2003,7003,9003,11001] [53,54,55,56,57,58] qV)) [53,54,55,56,57,58] func22 h
def lH.V(vb vi:Int→Value)(vs:Bs→Value)(vl:OA→Nat→Nat→Value)(s:Bs)(I:cS)(F:cR)(Q:cT)(Inv7:OA→Nat→Nat→Int→Int→OA→Nat→Nat→Int→Nat→cS→cR→Prop):Prop:=(∃m:Nat,Inv7 none 0 0 0 0 none 0 0 0 m I F)∧∀(n:OA) (o p:Nat) (x x1:Int) (g:OA) (h i:Nat) (q:Int) (m1:Nat) (I1:cS) (F1:cR),cS.le I I1→Inv7 n o p x x1 g h i q m1 I1 F1→eg P 22 #[vs s,vi q] I1 (·) F1 fun e1 I2 G1=>∃(a:Int) (c:Bs) (e f d r1 r2:Int),e1=.returned (.tuple #[.agg #[vb a,vs c,vb e,vi f,vi d],vi r1,vi r2])∧G1 fun F2=>∀r:Nat,(It (r1 != 0) (Q (.returned (.tuple #[vl g h i,vi r1,vi r2])) I2 F2) (∀(b:Nat) (I3:cS),cS.le I2 I3→I3 b=some (Obj.cells #[vb a,vs c,vb e,vi f,vi d] 76 (0,0))→dk P (Builtin.append_ #[80,80] 80 #[vl g h i,vl (some ⟨b,0,none⟩) 1 1]) I3 ((r,Obj.cells #[vb a,vs c,vb e,vi f,vi d] 76 (0,0))::F2) fun v I4 G2=>∃(j:OA) (k l:Nat),v=vl j k l∧∃F3:cR,List.Perm G2 ((r,Obj.cells #[vb a,vs c,vb e,vi f,vi d] 76 (0,0))::F3)∧(It (a==0) (Q (.returned (.tuple #[vl j k l,vi 0,vi 0])) I4 F3) (∃m2:Nat,m2<m1∧Inv7 n o p x x1 j k l (IntKind.wrap .i64 (d+(c.size:Int))) m2 I4 F3))))
theorem lH.vc{s:Bs}{I:cS}{F:cR}{Q:cT}(Inv7:OA→Nat→Nat→Int→Int→OA→Nat→Nat→Int→Nat→cS→cR→Prop)(h:lH.V (.int .u8) (.int .i64) .string .slice s I F Q Inv7):cU P 59 #[.string s] I F Q :=
 tw (A:=(dy [4001,7002] [] [22] qV [(7,⟨[(2,.slc),(3,(.int .i64)),(4,(.int .i64)),(5,.slc),(6,(.int .i64))],[],fun _ _ _ vs m I F=>match vs with | [.slice y0 y1 y2,.int _ y3,.int _ y4,.slice y5 y6 y7,.int _ y8]=>Inv7 y0 y1 y2 y3 y4 y5 y6 y7 y8 m I F | _=>False,[],[]⟩)] [6002] [] [] [] [] [])) [22] func59 h
def DF.V(vi:Int→Value)(vl:OA→Nat→Nat→Value)(s:Bs)(I:cS)(F:cR)(Q:cT)  : Prop:=(Dt ((s.size:Int)>4096) (Q (.returned (.tuple #[vl none 0 0,vi 110,vi 0])) I F) (eg P 59 #[.string s] I (·) F fun e1 I1 G1=>∃(a:OA) (b c:Nat) (r1 r2:Int),e1=.returned (.tuple #[vl a b c,vi r1,vi r2])∧G1 fun F1=>(It (r1 != 0) (Q (.returned (.tuple #[vl none 0 0,vi r1,vi r2])) I1 F1) (Q (.returned (.tuple #[vl a b c,vi 0,vi 0])) I1 F1))))
end Go.Lx
namespace Go.Lx
open Go.Vc
theorem zq{s:ByteArray}(hs:dj s){i:Int}(h0:0≤i)(h1:i≤s.size)(I:cS)(F:cR) :
  cU P 53 #[.string s,.int .i64 i] I F (kL (.int .i64 (dx s i)) F):=by
 have hs':=hs
 unfold dj at hs'
 refine mY.vc (fun x r j m I' F'=>0≤j∧j≤s.size∧m=(s.size-j).toNat∧j8 s r j=dx s i∧F'=F) ?_
 unfold mY.V
 refine⟨⟨_,h0,h1,rfl,rfl,rfl⟩,fun x r j m I1 F1 hI ⟨g0,g1,gm,gr,gF⟩=>⟨fun hlt=>?_,fun hlt=>?_⟩⟩
 ·have hlt:j<(s.size:Int):=by simpa using hlt
  subst gF
  have step:=eW (r:=r) hlt
  have stop:∀J:cS,oM (bt s j) r=false→blank (bt s j)=false→kL (.int .i64 (dx s i)) F1 (.returned (.int .i64 j)) J F1:=fun J a b=>by
   rw[a,b,gr] at step
   exact⟨by rw[step];rfl,rfl⟩
  have cont:∀r',oM (bt s j) r=r'→(r'=true∨blank (bt s j)=true)→∃m2:Nat,m2<m∧(0≤IntKind.wrap .i64 (j+1)∧IntKind.wrap .i64 (j+1)≤s.size∧m2=(s.size-IntKind.wrap .i64 (j+1)).toNat ∧
    j8 s r' (IntKind.wrap .i64 (j+1))=dx s i∧F1=F1):=fun r' a b=>by
   rw[ew (by omega)]
   refine⟨_,by omega,by omega,by omega,rfl, ?_,rfl⟩
   rw[a,gr] at step
   rw[step,if_neg]
   rcases b with b | b<;>simp[b]
  refine⟨⟨g0,hlt⟩, ?_⟩
  clear step gr
  repeat' (first | (with_reducible apply And.intro) | (with_reducible intro h))
  all_goals first
   | (refine stop I1 ?_ ?_<;>simp_all [oM,blank];done)
   | (refine cont _ ?_ ?_<;>simp_all [oM,blank];done)
   | (exfalso;simp_all;done)
 ·have hlt:¬j<(s.size:Int):=by simpa using hlt
  refine⟨?_,gF⟩
  rw[jR (by omega)] at gr
  rw[←gr]
  have:j=s.size:=by omega
  rw[this]
theorem yb{s:ByteArray}(hs:dj s){i:Int}(h0:0≤i)(h1:i<s.size)(I:cS)(F:cR):cU P 55 #[.string s,.int .i64 i] I F (kL (ly s i).v2 F):=by
 have hs':=hs
 unfold dj at hs'
 have hE:=fw (p:=dM) (s:=s) (i:=i) (by omega)
 refine lG.vc (fun j m I' F'=>i≤j∧j≤s.size∧m=(s.size-j).toNat∧dG dM s j=dG dM s i∧F'=F) ?_
 unfold lG.V
 intro b
 refine⟨⟨_,by omega,by omega,rfl,rfl,rfl⟩,fun j m I1 F1 hI ⟨g0,g1,gm,gr,gF⟩=>⟨fun hlt=>?_,fun hlt=>?_⟩⟩
 ·have hlt:j<(s.size:Int):=of_decide_eq_true hlt
  subst gF
  refine⟨⟨by omega,hlt⟩, ?_⟩
  refine cU.ret (tx (bt s j) I1 _) fun I2 hI2=>⟨_,rfl,F1,.refl _,fun hc=>?_,fun hc=>⟨⟨h0,g0,g1⟩,fun b_t=>?_⟩⟩
  ·refine⟨m-1,by omega, ?_⟩
   rw[ew (by omega)]
   rw[dJ hlt,if_pos hc] at gr
   exact⟨by omega,by omega,by omega,gr,rfl⟩
  ·rw[dJ hlt,if_neg (by rw[hc];exact Bool.false_ne_true)] at gr
   unfold ly
   simp only[←gr]
   rw[ew (by omega)]
   refine⟨fun h=>⟨?_,rfl⟩,fun h=>?_⟩
   ·rw[if_pos (of_decide_eq_true h)];rfl
   ·rw[if_neg (of_decide_eq_false h)]
    refine cU.ret (tz (cut s i j) I2 _) fun I3 hI3=>⟨_,rfl,F1,.refl _,fun hw=>⟨?_,rfl⟩,fun hw=>⟨?_,rfl⟩⟩
    ·rw[if_pos hw];rfl
    ·rw[if_neg (by rw[hw];exact Bool.false_ne_true)];rfl
 ·have hlt:¬j<(s.size:Int):=of_decide_eq_false hlt
  subst gF
  refine⟨⟨h0,g0,g1⟩,fun b_t=>?_⟩
  rw[kK (by omega)] at gr
  unfold ly
  simp only[←gr]
  rw[ew (by omega)]
  refine⟨fun h=>⟨?_,rfl⟩,fun h=>?_⟩
  ·rw[if_pos (of_decide_eq_true h)];rfl
  ·rw[if_neg (of_decide_eq_false h)]
   refine cU.ret (tz (cut s i j) I1 _) fun I3 hI3=>⟨_,rfl,F1,.refl _,fun hw=>⟨?_,rfl⟩,fun hw=>⟨?_,rfl⟩⟩
   ·rw[if_pos hw];rfl
   ·rw[if_neg (by rw[hw];exact Bool.false_ne_true)];rfl
theorem Bz{c:Int}(h:dr c=true):IntKind.wrap .u64 (IntKind.wrap .u8 (c-48))=c-48∧48≤c∧c≤57:=by
 simp only[dr,Bool.and_eq_true,decide_eq_true_eq] at h
 rw[w8 (by omega),DB (by omega)]
 exact⟨rfl,h⟩
theorem wz{s:ByteArray}(hs:dj s){i:Int}(h0:0≤i)(h1:i<s.size)(I:cS)(F:cR):cU P 57 #[.string s,.int .i64 i] I F (kL (kg s i).v2 F):=by
 have hs':=hs
 unfold dj at hs'
 have hE:=fw (p:=dr) (s:=s) (i:=i) (by omega)
 generalize hEd:dG dr s i=E at hE
 let e2:Int:=if eD (c9 s E)=1 then E else E+1
 have hbad:(eC s i 0>9223372036854775807∨(E-i>1∧bt s i=48)∨(e2<s.size∧(dM (bt s e2)=true∨(65≤bt s e2∧bt s e2≤90)))) →
   (kg s i).v2=.tuple #[(kr 0).v,.int .i64 113]:=fun h=>by
  unfold kg;simp only[hEd];rw[if_pos h];rfl
 have hok:¬(eC s i 0>9223372036854775807∨(E-i>1∧bt s i=48)∨(e2<s.size∧(dM (bt s e2)=true∨(65≤bt s e2∧bt s e2≤90)))) →
   (kg s i).v2=.tuple #[(⟨3,cut s i e2,eD (c9 s E),eC s i 0,i⟩:Tok).v,.int .i64 0]:=fun h=>by
  unfold kg;simp only[hEd];rw[if_neg h];rfl
 have he2r:e2≤s.size∧E≤e2∧e2≤E+1:=by
  show (if eD (c9 s E)=1 then E else E+1)≤_∧_≤(if eD (c9 s E)=1 then E else E+1)∧(if eD (c9 s E)=1 then E else E+1)≤_
  split
  ·omega
  ·rename_i hne
   have:E<s.size:=by
    rcases Int.lt_or_le E s.size with h | h
    ·exact h
    ·rw[show c9 s E=0 by unfold c9;rw[if_neg (by omega)]] at hne
     exact absurd rfl hne
   omega
 refine kx.vc (fun x en n b0 b1 b2 b3 b4 I' F'=>en=E∧n=eC s i 0∧F'=F)
  (fun x j n b0 b1 b2 b3 b4 m I' F'=>i≤j∧j≤E∧m=(E-j).toNat∧0≤n∧n≤18446744073709551615∧dG dr s j=E∧eC s j n=eC s i 0∧F'=F)
  (fun x b0 b1 b2 b3 b4 I' F'=>¬(E-i>1∧bt s i=48)∧¬eC s i 0>9223372036854775807∧F'=F)
  (fun t0 t1 t2 t3 t4 I' F'=>t0=3∧t2=(if c9 s E=113 then 2 else 1)∧t3=eC s i 0∧t4=i∧F'=F)
  (fun t0 t1 t2 t3 t4 I' F'=>t0=3∧t2=(if c9 s E=112 then 3 else if c9 s E=113 then 2 else 1)∧t3=eC s i 0∧t4=i∧F'=F)
  (fun t0 t1 t2 t3 t4 I' F'=>t0=3∧t2=eD (c9 s E)∧t3=eC s i 0∧t4=i∧F'=F)
  (fun en I' F'=>en=e2∧F'=F) ?_
 unfold kx.V
 intro b b_t
 refine⟨⟨⟨_,by omega,by omega,rfl,by omega,by omega,hEd,rfl,rfl⟩, ?_⟩, ?_⟩
 ·intro x j n b0 b1 b2 b3 b4 m I1 F1 hI1 ⟨g0,g1,gm,gn0,gn1,gr,gv,gF⟩
  subst gF
  refine⟨fun hlt=>?_,fun hlt=>?_⟩
  ·have hlt:j<s.size:=of_decide_eq_true hlt
   refine⟨⟨by omega,hlt⟩, ?_⟩
   refine cU.ret (nI (bt s j) I1 _) fun I2 hI2=>⟨_,rfl,F1,.refl _,fun hd=>?_,fun hd=>?_⟩
   ·obtain⟨hw,hc0,hc1⟩:=Bz hd
    rw[dJ hlt,if_pos hd] at gr
    rw[ij hlt,if_pos hd] at gv
    have hr2:=fw (p:=dr) (s:=s) (i:=j+1) (by omega)
    refine⟨fun hgt=>⟨?_,rfl⟩,fun hgt=>⟨⟨by omega,hlt⟩, ?_⟩⟩
    ·refine (congrArg Ending.returned (hbad (.inl ?_)).symm)
     have hgt:=of_decide_eq_true hgt
     have:=tj (s:=s) (i:=j+1) (v:=10*n+(bt s j-48)) (by omega)
     omega
    ·have hgt:=of_decide_eq_false hgt
     rw[hw,DB (n:=10*n) (by omega),DB (n:=10*n+_) (by omega),ew (by omega)]
     exact⟨_,by omega,by omega,by omega,rfl,by omega,by omega,gr,gv,rfl⟩
   ·rw[dJ hlt,if_neg (by rw[hd];exact Bool.false_ne_true)] at gr
    rw[ij hlt,if_neg (by rw[hd];exact Bool.false_ne_true)] at gv
    exact⟨gr,gv,rfl⟩
  ·have hlt:¬j<s.size:=of_decide_eq_false hlt
   rw[kK (by omega)] at gr
   rw[ou (by omega)] at gv
   exact⟨gr,gv,rfl⟩
 intro x en n b0 b1 b2 b3 b4 I3 F3 hI3 ⟨hen,hn,hF3⟩
 subst hen hF3
 rw[ew (n:=en-i) (by omega)]
 refine⟨⟨fun h=>⟨?_,rfl⟩,fun h=>⟨fun hl=>⟨⟨h0,h1⟩,fun h48=>⟨?_,rfl⟩,fun h48=>⟨?_, ?_,rfl⟩⟩,fun hl=>⟨?_, ?_,rfl⟩⟩⟩, ?_⟩
 ·exact congrArg Ending.returned (hbad (.inl (by have:=of_decide_eq_true h;omega))).symm
 ·exact congrArg Ending.returned (hbad (.inr (.inl ⟨of_decide_eq_true hl,by simpa using h48⟩))).symm
 ·intro hc;rw[hc.2] at h48;simp at h48
 ·have:=of_decide_eq_false h;omega
 ·intro hc;exact absurd hc.1 (of_decide_eq_false hl)
 ·have:=of_decide_eq_false h;omega
 intro x2 c0 c1 c2 c3 c4 I4 F4 hI4 ⟨hz,nov,hF4⟩
 subst hF4
 have hv0:=tj (s:=s) (i:=i) (v:=0) (by omega)
 rw[ew (n:=n) (by omega)]
 have hpos:en<s.size→c9 s en=bt s en:=fun h=>by unfold c9;rw[if_pos h]
 have hneg:¬en<s.size→c9 s en=0:=fun h=>by unfold c9;rw[if_neg h]
 refine⟨⟨fun hl=>⟨⟨by omega,of_decide_eq_true hl⟩,fun h=>⟨rfl, ?_,hn,rfl,rfl⟩,fun h=>⟨rfl, ?_,hn,rfl,rfl⟩⟩,fun hl=>⟨rfl, ?_,hn,rfl,rfl⟩⟩, ?_⟩
 ·rw[hpos (of_decide_eq_true hl),if_pos (by simpa using h)]
 ·rw[hpos (of_decide_eq_true hl),if_neg (by simpa using h)]
 ·rw[hneg (of_decide_eq_false hl)];rfl
 intro t0 t1 t2 t3 t4 I5 F5 hI5 ⟨ht0,ht2,ht3,ht4,hF5⟩
 subst hF5
 refine⟨⟨fun hl=>⟨⟨by omega,of_decide_eq_true hl⟩,fun h=>⟨ht0, ?_,ht3,ht4,rfl⟩,fun h=>⟨ht0, ?_,ht3,ht4,rfl⟩⟩,fun hl=>⟨ht0, ?_,ht3,ht4,rfl⟩⟩, ?_⟩
 ·rw[hpos (of_decide_eq_true hl),if_pos (by simpa using h)]
 ·rw[ht2,hpos (of_decide_eq_true hl),if_neg (c:=bt s en=112) (by simpa using h)]
 ·rw[ht2,hneg (of_decide_eq_false hl)];rfl
 clear ht0 ht2 ht3 ht4
 intro t0 t1 t2 t3 t4 I6 F6 hI6 ⟨ht0,ht2,ht3,ht4,hF6⟩
 subst hF6
 refine⟨⟨fun hl=>⟨⟨by omega,of_decide_eq_true hl⟩,fun h=>⟨ht0, ?_,ht3,ht4,rfl⟩,fun h=>⟨ht0, ?_,ht3,ht4,rfl⟩⟩,fun hl=>⟨ht0, ?_,ht3,ht4,rfl⟩⟩, ?_⟩
 ·unfold eD;rw[hpos (of_decide_eq_true hl),if_pos (by simpa using h)]
 ·unfold eD;rw[ht2,hpos (of_decide_eq_true hl),if_neg (c:=bt s en=116) (by simpa using h)]
 ·unfold eD;rw[ht2,hneg (of_decide_eq_false hl)];rfl
 clear ht0 ht2 ht3 ht4
 intro u0 u1 u2 u3 u4 I7 F7 hI7 ⟨hu0,hu2,hu3,hu4,hF7⟩
 subst hu0 hu2 hF7
 obtain rfl:i=u4:=hu4.symm
 refine⟨⟨fun h=>⟨?_,rfl⟩,fun h=>⟨?_,rfl⟩⟩, ?_⟩
 ·show _=if eD (c9 s en)=1 then en else en+1
  rw[if_neg (by simpa using h),ew (by omega)]
 ·show _=if eD (c9 s en)=1 then en else en+1
  rw[if_pos (by simpa using h)]
 intro e3 I8 F8 hI8 ⟨he3,hF8⟩
 subst he3 hF8
 have okk:¬(e2<s.size∧(dM (bt s e2)=true∨(65≤bt s e2∧bt s e2≤90))) →
   (0≤i∧i≤e2∧e2≤(s.size:Int))∧∀(J:cS),kL (kg s i).v2 F8 (.returned (Value.tuple #[Value.agg #[Value.int .u8 3,Value.string (s.extract (Int.toNat (i)) (Int.toNat (e2))),Value.int .u8 (eD (c9 s en)),Value.int .i64 u3,Value.int .i64 i],Value.int .i64 0])) J F8:=fun h=>by
  refine⟨by omega,fun J=>⟨?_,rfl⟩⟩
  rw[hok (fun h'=>h'.elim nov fun h'=>h'.elim hz h),hu3]
  rfl
 refine⟨fun hl=>⟨⟨by omega,of_decide_eq_true hl⟩, ?_⟩,fun hl=>?_⟩
 ·have hl:=of_decide_eq_true hl
  refine cU.ret (tx (bt s e2) I8 _) fun I9 hI9=>⟨_,rfl,F8,.refl _,fun hi=>⟨?_,rfl⟩,fun hi=>⟨⟨by omega,hl⟩,fun h65=>⟨⟨by omega,hl⟩,fun h90=>⟨?_,rfl⟩,fun h90=>?_⟩,fun h65=>?_⟩⟩
  ·exact congrArg Ending.returned (hbad (.inr (.inr ⟨hl,.inl hi⟩))).symm
  ·exact congrArg Ending.returned (hbad (.inr (.inr ⟨hl,.inr ⟨of_decide_eq_true h65,of_decide_eq_true h90⟩⟩))).symm
  ·obtain⟨a1,a2⟩:=okk (fun h=>h.2.elim (fun h=>by rw[hi] at h;cases h) fun h=>of_decide_eq_false h90 h.2)
   exact⟨a1,a2 _⟩
  ·obtain⟨a1,a2⟩:=okk (fun h=>h.2.elim (fun h=>by rw[hi] at h;cases h) fun h=>of_decide_eq_false h65 h.1)
   exact⟨a1,a2 _⟩
 ·obtain⟨a1,a2⟩:=okk (fun h=>of_decide_eq_false hl h.1)
  exact⟨a1,a2 _⟩
def jT:List ByteArray:=[⟨#[61,61]⟩,⟨#[33,61]⟩,⟨#[60,61]⟩,⟨#[62,61]⟩,⟨#[38,38]⟩,⟨#[124,124]⟩,⟨#[123]⟩,⟨#[125]⟩,⟨#[40]⟩,⟨#[41]⟩,⟨#[44]⟩,⟨#[59]⟩,⟨#[63]⟩,⟨#[58]⟩,⟨#[61]⟩,⟨#[33]⟩,⟨#[60]⟩,⟨#[62]⟩,⟨#[43]⟩,⟨#[45]⟩,⟨#[42]⟩,⟨#[47]⟩,⟨#[37]⟩]
def nM(s:ByteArray)(i:Int)(m:ByteArray):Bool:=decide (i+(m.size:Int)≤s.size)&&((cut s i (i+(m.size:Int))).toList==m.toList)
theorem Ep{a b:ByteArray}(h:a.toList=b.toList):a=b:=by
 rw[Lib.toList_data,Lib.toList_data] at h
 have:a.data=b.data:=Array.toList_inj.1 h
 cases a;cases b;simp_all
theorem CJ{a:ByteArray}{k:Nat}(h:k<a.size):bt a k=(a.data[k].toNat:Int):=by
 have h2:a[k]? = some a[k]:=by simp[h]
 unfold bt
 rw[Int.toNat_natCast,h2]
 rfl
theorem zr{a b:ByteArray}(hs:a.size=b.size)(h:∀k:Nat,k<a.size→bt a k=bt b k):a=b:=by
 have:a.data=b.data:=by
  refine Array.ext hs fun k h1 h2=>?_
  have:=h k h1
  rw[CJ h1,CJ h2] at this
  exact UInt8.toNat_inj.1 (by omega)
 cases a;cases b;simp_all
theorem wA{s:ByteArray}{i:Int}(h0:0≤i)(m:ByteArray):nM s i m=true↔i+m.size≤s.size∧∀k:Nat,k<m.size→bt s (i+k)=bt m k:=by
 unfold nM
 simp only[Bool.and_eq_true,decide_eq_true_eq,beq_iff_eq]
 refine⟨fun ⟨h1,h2⟩=>⟨h1,fun k hk=>?_⟩,fun ⟨h1,h2⟩=>⟨h1, ?_⟩⟩
 ·have:=Ep h2
  rw[←nK (j:=i+m.size) h0 (by omega) (by omega) h1,this]
 ·have hc:=iN (s:=s) h0 (by omega:i≤i+m.size) h1
  have:cut s i (i+m.size)=m:=zr (by omega) fun k hk=>by
   rw[nK h0 (by omega) (by omega) h1]
   exact h2 k (by omega)
  rw[this]
theorem Hk{s:ByteArray}{i:Int}(h0:0≤i)(h:i<s.size)(c:UInt8):nM s i ⟨#[c]⟩=(bt s i==(c.toNat:Int)):=by
 rw[Bool.eq_iff_iff,wA h0,beq_iff_eq]
 refine⟨fun ⟨_,h⟩=>by have:=h 0 (Nat.lt_succ_self 0);rwa [Int.natCast_zero,Int.add_zero] at this,fun hc=>⟨by show i+((1:Nat):Int)≤_;omega,fun k hk=>?_⟩⟩
 have:k=0:=by have:k<1:=hk;omega
 subst this
 rw[Int.natCast_zero,Int.add_zero,hc];rfl
theorem E7{s:ByteArray}{i:Int}(h0:0≤i)(c d:UInt8)(hd:d.toNat≠0):nM s i ⟨#[c,d]⟩=(bt s i==(c.toNat:Int)&&c9 s (i+1)==(d.toNat:Int)):=by
 rw[Bool.eq_iff_iff,wA h0]
 simp only[Bool.and_eq_true,beq_iff_eq]
 refine⟨fun ⟨h1,h⟩=>⟨?_, ?_⟩,fun ⟨hc,hd'⟩=>?_⟩
 ·have:=h 0 (show 0<2 by decide);rwa [Int.natCast_zero,Int.add_zero] at this
 ·have h1:i+((2:Nat):Int)≤s.size:=h1
  unfold c9
  rw[if_pos (by omega)]
  exact h 1 (show 1<2 by decide)
 ·have hl:i+1<s.size:=by
   rcases Int.lt_or_le (i+1) s.size with h | h
   ·exact h
   ·unfold c9 at hd';rw[if_neg (by omega)] at hd';omega
  unfold c9 at hd'
  rw[if_pos hl] at hd'
  refine⟨by show i+((2:Nat):Int)≤_;omega,fun k hk=>?_⟩
  have hk:k<2:=hk
  rcases (by omega:k=0∨k=1) with rfl | rfl
  ·rw[Int.natCast_zero,Int.add_zero,hc];rfl
  ·exact hd'
theorem BA{s:ByteArray}{i:Int}(h0:0≤i)(h:i<s.size) :
  (jT.find? (nM s i)=none∧fS s i=0)∨(∃m,jT.find? (nM s i)=some m∧(m.size:Int)=fS s i∧0<fS s i∧cut s i (i+fS s i)=m):=by
 have key:(jT.find? (nM s i)=none∧fS s i=0)∨(∃m,jT.find? (nM s i)=some m∧(m.size:Int)=fS s i∧0<fS s i):=by
  unfold jT
  simp only[List.find?_cons,List.find?_nil,Hk h0 h,E7 h0 _ 61 (by decide),E7 h0 _ 38 (by decide),E7 h0 _ 124 (by decide)]
  unfold fS
  generalize bt s i=c
  generalize c9 s (i+1)=d
  clear h h0
  repeat' split
  all_goals first | (simp_all [single];done) | (simp_all [single];rfl) | (simp_all [single];omega)
 rcases key with hk | ⟨m,hm,hs,hp⟩
 ·exact .inl hk
 ·refine .inr ⟨m,hm,hs,hp, ?_⟩
  have:=List.find?_some hm
  rw[wA h0] at this
  rw[←hs]
  have hc:=iN (s:=s) h0 (by omega:i≤i+m.size) this.1
  refine zr (by omega) fun k hk=>?_
  rw[nK h0 (by omega) (by omega) this.1]
  exact this.2 k (by omega)
theorem yc{k:Nat}{m:ByteArray}(h:jT[k]? = some m):m.size≤2:=by
 have:=List.mem_of_getElem? h
 simp only[jT,List.mem_cons,List.not_mem_nil,or_false] at this
 rcases this with h | h | h | h | h | h | h | h | h | h | h | h | h | h | h | h | h | h | h | h | h | h | h<;>(subst h;decide)
theorem zt{s:ByteArray}(hs:dj s){i:Int}(h0:0≤i)(h1:i<s.size)(I:cS)(F:cR):cU P 58 #[.string s,.int .i64 i] I F (kL (lz s i).v2 F):=by
 unfold dj at hs
 have hm:=BA h0 h1
 refine mZ.vc (fun x k b0 b1 b2 b3 b4 m I' F'=>0≤k∧k≤23∧m=(23-k).toNat∧jT.find? (nM s i)=(jT.drop k.toNat).find? (nM s i)∧F'=F) ?_
 unfold mZ.V
 intro b b1 I1 hI1 hb1
 have hS:Sl I1 1 jS (some ⟨b1,0,none⟩) 23 jT:=Sl.ie (f:=jS) (z:=1) (l:=jT) (fun _=>rfl) hb1 (by kernel_rfl)
 refine⟨⟨_,by omega,by omega,rfl,rfl,rfl⟩,fun x k c0 c1 c2 c3 c4 m I2 F2 hI2 ⟨g0,g1,gm,gf,gF⟩=>⟨fun hlt=>?_,fun hlt=>?_⟩⟩
 ·have hlt:k<23:=of_decide_eq_true hlt
  obtain⟨ad,w,ha,hw,hrd⟩:=(hS.mono hI2).at (i:=k) g0 hlt
  have hwz:=yc hw
  subst gF
  rw[Bq hw] at gf
  have cont:nM s i w=false→∃m6,m6<m∧(0≤IntKind.wrap .i64 (k+1)∧IntKind.wrap .i64 (k+1)≤23∧m6=(23-IntKind.wrap .i64 (k+1)).toNat ∧
    jT.find? (nM s i)=(jT.drop (IntKind.wrap .i64 (k+1)).toNat).find? (nM s i)∧F2=F2):=fun h=>by
   rw[ew (by omega)]
   refine⟨(23-(k+1)).toNat,by omega,by omega,by omega,rfl, ?_,rfl⟩
   rw[gf,h,show (k+1).toNat=k.toNat+1 by omega];rfl
  refine⟨⟨g0,hlt⟩,ad,ha,w,hrd _, ?_⟩
  rw[ew (n:=i+w.size) (by omega)]
  refine⟨fun hle=>⟨⟨h0,by omega,of_decide_eq_true hle⟩,⟨g0,hlt⟩,ad,ha,w,hrd _,fun he=>⟨⟨g0,hlt⟩,ad,ha,w,hrd _, ?_,rfl⟩,fun he=>cont ?_⟩,fun hle=>cont ?_⟩
  ·have hhit:nM s i w=true:=by
    unfold nM;rw[hle,Bool.true_and];exact he
   rw[hhit,if_pos rfl] at gf
   rcases hm with ⟨h,_⟩ | ⟨w',h,hsz,hp,hcut⟩
   ·rw[h] at gf;cases gf
   ·rw[h] at gf;cases gf
    unfold lz
    rw[if_neg (by omega),hcut];rfl
  ·unfold nM;rw[hle,Bool.true_and];exact he
  ·unfold nM;rw[hle];rfl
 ·have hlt:¬k<23:=of_decide_eq_false hlt
  refine⟨?_,gF⟩
  rw[List.drop_eq_nil_of_le (by show 23≤_;omega)] at gf
  rcases hm with ⟨h,hz⟩ | ⟨w',h,_⟩
  ·unfold lz
   rw[if_pos hz];rfl
  ·rw[h] at gf;cases gf
def TR.v3:TR→Value
 | .ok t=>.tuple #[t.v,.int .i64 0,.int .i64 0]
 | .bad e p=>.tuple #[(kr 0).v,.int .i64 e,.int .i64 p]
theorem CK(s:ByteArray)(i:Int):(∃t,kg s i=.ok t)∨∃e,kg s i=.bad e i∧(e != 0)=true:=by
 rcases tN s i with ⟨t,h,_⟩ | h
 ·exact .inl ⟨t,h⟩
 ·exact .inr ⟨_,h,rfl⟩
theorem BB(s:ByteArray)(i:Int):(∃t,ly s i=.ok t)∨∃e,ly s i=.bad e i∧(e != 0)=true:=by
 unfold ly;simp only;split
 ·exact .inr ⟨_,rfl,rfl⟩
 ·exact .inl ⟨_,rfl⟩
theorem BC(s:ByteArray)(i:Int):(∃t,lz s i=.ok t)∨∃e,lz s i=.bad e i∧(e != 0)=true:=by
 unfold lz;split
 ·exact .inr ⟨_,rfl,rfl⟩
 ·exact .inl ⟨_,rfl⟩
theorem CL{c:Int}(h:ig c=true):dr c=false:=by
 simp only[ig,dr,Bool.and_eq_true,decide_eq_true_eq,Bool.and_eq_false_iff,decide_eq_false_iff_not] at h ⊢
 omega
theorem CM{s:ByteArray}(hs:dj s){f:Int}(h0:0≤f)(h1:f≤s.size)(I:cS)(F:cR):cU P 22 #[.string s,.int .i64 f] I F (kL (iG s f).v3 F):=by
 have hs':=hs
 unfold dj at hs'
 refine oB.vc ?_
 unfold oB.V
 intro b
 have ho:=jo (s:=s) h1
 refine cU.ret (zq hs h0 h1 I _) fun I1 hI1=>⟨_,rfl,F,.refl _, ?_⟩
 unfold iG
 simp only
 generalize dx s f=r at ho ⊢
 refine⟨fun h=>⟨?_,rfl⟩,fun h b_t=>?_⟩
 ·rw[if_pos (by simpa using h)];rfl
 ·have hne:r≠s.size:=by simpa using h
  have hlt:r<s.size:=by omega
  rw[if_neg hne]
  refine⟨⟨by omega,hlt⟩, ?_⟩
  refine cU.ret (qe (bt s r) I1 _) fun I2 hI2=>⟨_,rfl,F,.refl _,fun hm=>?_,fun hm=>⟨⟨by omega,hlt⟩, ?_⟩⟩
  ·rw[if_neg (by rw[CL hm];exact Bool.false_ne_true),if_pos hm]
   refine cU.ret (yb hs (by omega) hlt I2 _) fun I3 hI3=>?_
   rcases BB s r with ⟨t,ht⟩ | ⟨e,ht,he⟩
   ·rw[ht];exact⟨_,_,_,_,_,_,rfl,F,.refl _,fun h=>absurd h (by decide),fun _=>⟨rfl,rfl⟩⟩
   ·rw[ht];exact⟨_,_,_,_,_,_,rfl,F,.refl _,fun h=>⟨rfl,rfl⟩,fun h=>by rw[he] at h;cases h⟩
  ·rw[if_neg (c:=ig (bt s r)=true) (by rw[hm];exact Bool.false_ne_true)]
   refine cU.ret (nI (bt s r) I2 _) fun I3 hI3=>⟨_,rfl,F,.refl _,fun hd=>?_,fun hd=>?_⟩
   ·rw[if_pos hd]
    refine cU.ret (wz hs (by omega) hlt I3 _) fun I4 hI4=>?_
    rcases CK s r with ⟨t,ht⟩ | ⟨e,ht,he⟩
    ·rw[ht];exact⟨_,_,_,_,_,_,rfl,F,.refl _,fun h=>absurd h (by decide),fun _=>⟨rfl,rfl⟩⟩
    ·rw[ht];exact⟨_,_,_,_,_,_,rfl,F,.refl _,fun h=>⟨rfl,rfl⟩,fun h=>by rw[he] at h;cases h⟩
   ·rw[if_neg (by rw[hd];exact Bool.false_ne_true)]
    refine cU.ret (zt hs (by omega) hlt I3 _) fun I4 hI4=>?_
    rcases BC s r with ⟨t,ht⟩ | ⟨e,ht,he⟩
    ·rw[ht];exact⟨_,_,_,_,_,_,rfl,F,.refl _,fun h=>absurd h (by decide),fun _=>⟨rfl,rfl⟩⟩
    ·rw[ht];exact⟨_,_,_,_,_,_,rfl,F,.refl _,fun h=>⟨rfl,rfl⟩,fun h=>by rw[he] at h;cases h⟩
def jL(s:ByteArray):Nat→Int→List Tok×Option (Int×Int)
 | 0,_=>([],none)
 | n+1,f=>match iG s f with
   | .bad e p=>([],some (e,p))
   | .ok t=>if t.kind=0 then ([t],none) else (t::(jL s n (t.pos+t.text.size)).1,(jL s n (t.pos+t.text.size)).2)
def lT(s:ByteArray)(f:Int):List Tok×Option (Int×Int):=jL s (s.size-f+1).toNat f
theorem mo{s:ByteArray}{f:Int}(h0:0≤f)(h1:f≤s.size){t:Tok}(ht:iG s f=.ok t):t.pos+t.text.size≤s.size∧f≤t.pos∧(t.kind≠0→f+1≤t.pos+t.text.size):=by
 have ho:=jo (s:=s) h1
 rcases ik h0 h1 with ⟨t',ht',hp,hl,_,hk⟩ | ⟨e,ht',_⟩
 ·rw[ht] at ht';cases ht'
  refine⟨hl,by omega,fun hne=>?_⟩
  rcases hk with ⟨h,_⟩ | ⟨_,_,h⟩
  ·exact absurd h hne
  ·omega
 ·rw[ht] at ht';cases ht'
theorem tQ(s:ByteArray):∀(n n':Nat) (f:Int),0≤f→f≤s.size→(s.size-f+1).toNat≤n→(s.size-f+1).toNat≤n'→jL s n f=jL s n' f
 | 0,n',f,h0,h1,hn,hn'=>by omega
 | n+1,0,f,h0,h1,hn,hn'=>by omega
 | n+1,n'+1,f,h0,h1,hn,hn'=>by
   unfold jL
   cases ht:iG s f with
   | bad e p=>rfl
   | ok t =>
     have:=mo h0 h1 ht
     by_cases hk:t.kind=0
     ·simp[hk]
     ·have:=this.2.2 hk
      simp only[hk,if_false]
      rw[tQ s n n' _ (by omega) (by omega) (by omega) (by omega)]
theorem qW{s:ByteArray}{f:Int}(h0:0≤f)(h1:f≤s.size):lT s f=match iG s f with
  | .bad e p=>([],some (e,p))
  | .ok t=>if t.kind=0 then ([t],none) else (t::(lT s (t.pos+t.text.size)).1,(lT s (t.pos+t.text.size)).2):=by
 unfold lT
 obtain⟨n,hn⟩:∃n,(s.size-f+1).toNat=n+1:=⟨(s.size-f+1).toNat-1,by omega⟩
 rw[hn]
 show (match iG s f with
  | .bad e p=>([],some (e,p))
  | .ok t=>if t.kind=0 then ([t],none) else (t::(jL s n (t.pos+t.text.size)).1,(jL s n (t.pos+t.text.size)).2))=_
 cases ht:iG s f with
 | bad e p=>rfl
 | ok t =>
   have:=mo h0 h1 ht
   by_cases hk:t.kind=0
   ·simp[hk]
   ·have:=this.2.2 hk
    simp only[hk,if_false]
    rw[tQ s n _ _ (by omega) (by omega) (by omega) (Nat.le_refl _)]
def ql(s:ByteArray):Except (Int×Int) (List Tok) :=
 if (s.size:Int)>4096 then .error (110,0) else match lT s 0 with
  | (l,none)=>.ok l
  | (_,some ep)=>.error ep
def Tok.enc(t:Tok):List Value:=[.int .u8 t.kind,.string t.text,.int .u8 t.dU,.int .i64 t.n,.int .i64 t.pos]
def Ax(r:Except (Int×Int) (List Tok))(F:cR)(e:Ending)(I:cS)(G:cR):Prop :=
 G=F∧match r with
  | .ok l=>∃a n c,e=.returned (.tuple #[.slice a n c,.int .i64 0,.int .i64 0])∧Sl I 5 Tok.enc a n l
  | .error (e',p)=>e=.returned (.tuple #[.slice none 0 0,.int .i64 e',.int .i64 p])
def qm(r:Except (Int×Int) (List Tok))(F:cR)(e:Ending)(I:cS)(G:cR):Prop :=
 match r with
  | .ok l=>∃a n c A,e=.returned (.tuple #[.slice a n c,.int .i64 0,.int .i64 0])∧Acc 5 Tok.enc 76 a n c l A∧G=A++F
  | .error (e',p)=>∃A,e=.returned (.tuple #[.slice none 0 0,.int .i64 e',.int .i64 p])∧G=A++F
theorem qm.keep{f:Nat}{args:Array Value}{I:cS}{F:cR}{r:Except (Int×Int) (List Tok)}(h:cU P f args I F (qm r F)):cU P f args I F (Ax r F):=by
 refine h.keep fun e I' G w hl hs hq=>?_
 unfold qm at hq
 split at hq
 ·obtain⟨a,n,c,A,he,hA,hG⟩:=hq
  subst hG
  obtain⟨J,h1,h2,h3⟩:=Acc.keep (z:=5) (f:=Tok.enc) (fun _=>rfl) hA hs
  exact⟨J,F,h1,h2,rfl,a,n,c,he,h3⟩
 ·obtain⟨A,he,hG⟩:=hq
  subst hG
  exact⟨I',F,cS.le_refl _,hs.drop,rfl,he⟩
theorem DG:∀(t:Tok),∀u∈t.enc,u.oneCell'=true:=by
 intro t u hu
 simp only[Tok.enc,List.mem_cons,List.not_mem_nil,or_false] at hu
 rcases hu with h | h | h | h | h<;>(subst h;rfl)
theorem tR{a:Option Addr}{n c:Nat}{l:List Tok}{A F:cR}(hA:Acc 5 Tok.enc 76 a n c l A)(hl:l.length≤1000000000)(t:Tok){b:Nat}{I:cS}(hb:I b=some (.cells t.enc.toArray 76 (0,0))) :
  dk P (Builtin.append_ #[80,80] 80 #[.slice a n c,.slice (some ⟨b,0,none⟩) 1 1]) I (A++F) fun v I' G=>∃a' n' c' A',v=.slice a' n' c'∧Acc 5 Tok.enc 76 a' n' c' (l++[t]) A'∧G=A'++F:=by
 refine (eG (f:=Tok.enc) (zv:=(kr 0).v) (fun _=>rfl) (by':=48) (by kernel_rfl) (by kernel_rfl) rfl (by decide) hA (xs:=[t]) (fun x _=>DG x) (by simp) rfl ?_ (by simp only[List.length_cons,List.length_nil];omega)).mono
  fun v I' G _ ⟨a',n',c',A',h1,h2,h3,_⟩=>⟨a',n',c',A',h1,h2,h3⟩
 exact⟨rfl,_,_,_,.inl hb,fun j hj=>by simp⟩
theorem zu{s:ByteArray}(hs:dj s)(I:cS)(F:cR):cU P 124 #[.string s] I F (qm (ql s) F):=by
 refine mX.vc (fun x_a x_n x_c x x1 a n c f m I' F'=>0≤f∧f≤s.size∧m=(s.size-f).toNat∧∃l A,Acc 5 Tok.enc 76 a n c l A∧F'=A++F∧l.length≤f ∧
  lT s 0=(l++(lT s f).1,(lT s f).2)) ?_
 unfold mX.V
 unfold ql
 refine⟨fun h=>?_,fun h=>?_⟩
 ·rw[if_pos (of_decide_eq_true h)]
  exact⟨[],rfl,rfl⟩
 have h:=of_decide_eq_false h
 rw[if_neg h]
 refine⟨⟨_,by omega,by omega,rfl,[],[],Acc.nil,rfl,by decide,rfl⟩, ?_⟩
 intro x_a x_n x_c x x1 a n c f m I1 F1 hI1 ⟨h0,h1,gm,l,A,hA,hF,hl,ht⟩
 subst hF
 rw[qW h0 h1] at ht
 refine cU.ret (tP hs h0 h1 I1 _) fun I2 hI2=>?_
 rcases ik h0 h1 with ⟨t,htok,htat⟩ | ⟨e,htok,he⟩
 ·rw[htok] at ht ⊢
  have hnx:=mo h0 h1 htok
  refine⟨_,_,_,_,_,_,rfl,_,.refl _,fun b_t=>⟨fun h=>absurd h (by decide),fun _=>?_⟩⟩
  intro b I3 hI3 hb
  refine dk.perm ((tR hA (by omega) t hb (F:=(b_t,_)::F)).mono fun v I4 G2 hI4 ⟨a',n',c',A',hv,hA',hG⟩=>?_) List.perm_middle.symm
  subst hG
  refine⟨_,_,_,hv,A'++F,List.perm_middle,fun hk=>?_,fun hk=>?_⟩
  ·have hk:t.kind=0:=by simpa using hk
   simp only[hk,if_true] at ht
   rw[ht]
   exact⟨_,_,_,_,rfl,hA',rfl⟩
  ·have hk:t.kind≠0:=by simpa using hk
   have:=hnx.2.2 hk
   simp only[hk,if_false] at ht
   rw[ew (by omega)]
   refine⟨_, ?_,by omega,by omega,rfl,_,_,hA',rfl, ?_, ?_⟩
   ·omega
   ·rw[List.length_append,List.length_singleton];omega
   ·rw[ht,List.append_assoc];rfl
 ·rw[htok] at ht ⊢
  refine⟨_,_,_,_,_,_,rfl,_,.refl _,fun b_t=>⟨fun _=>?_,fun h=>?_⟩⟩
  ·rw[ht]
   exact⟨A,rfl,rfl⟩
  ·rcases he with rfl | rfl | rfl<;>exact absurd h (by decide)
theorem yd{s:ByteArray}(hs:dj s)(I:cS)(F:cR):cU P 124 #[.string s] I F (Ax (ql s) F):=qm.keep (zu hs I F)
def CN(r:List Tok×Option (Int×Int))(F:cR)(e:Ending)(I:cS)(G:cR):Prop :=
 ∃a n c A,e=.returned (.tuple #[.slice a n c,.int .i64 ((r.2.map Prod.fst).getD 0),.int .i64 ((r.2.map Prod.snd).getD 0)])∧Acc 5 Tok.enc 76 a n c r.1 A∧G=A++F
theorem zw{s:ByteArray}(hs:dj s)(hs2:(s.size:Int)≤1000000000)(I:cS)(F:cR):cU P 59 #[.string s] I F (CN (lT s 0) F):=by
 refine lH.vc (fun x_a x_n x_c x x1 a n c f m I' F'=>0≤f∧f≤s.size∧m=(s.size-f).toNat∧∃l A,Acc 5 Tok.enc 76 a n c l A∧F'=A++F∧l.length≤f ∧
  lT s 0=(l++(lT s f).1,(lT s f).2)) ?_
 unfold lH.V
 have h:True:=trivial
 refine⟨⟨_,by omega,by omega,rfl,[],[],Acc.nil,rfl,by decide,rfl⟩, ?_⟩
 intro x_a x_n x_c x x1 a n c f m I1 F1 hI1 ⟨h0,h1,gm,l,A,hA,hF,hl,ht⟩
 subst hF
 rw[qW h0 h1] at ht
 refine cU.ret (CM hs h0 h1 I1 _) fun I2 hI2=>?_
 rcases ik h0 h1 with ⟨t,htok,htat⟩ | ⟨e,htok,he⟩
 ·rw[htok] at ht ⊢
  have hnx:=mo h0 h1 htok
  refine⟨_,_,_,_,_,_,_,rfl,_,.refl _,fun b_t=>⟨fun h=>absurd h (by decide),fun _=>?_⟩⟩
  intro b I3 hI3 hb
  refine dk.perm ((tR hA (by omega) t hb (F:=(b_t,_)::F)).mono fun v I4 G2 hI4 ⟨a',n',c',A',hv,hA',hG⟩=>?_) List.perm_middle.symm
  subst hG
  refine⟨_,_,_,hv,A'++F,List.perm_middle,fun hk=>?_,fun hk=>?_⟩
  ·have hk:t.kind=0:=by simpa using hk
   simp only[hk,if_true] at ht
   rw[ht]
   exact⟨_,_,_,_,rfl,hA',rfl⟩
  ·have hk:t.kind≠0:=by simpa using hk
   have:=hnx.2.2 hk
   simp only[hk,if_false] at ht
   rw[ew (by omega)]
   refine⟨_, ?_,by omega,by omega,rfl,_,_,hA',rfl, ?_, ?_⟩
   ·omega
   ·rw[List.length_append,List.length_singleton];omega
   ·rw[ht,List.append_assoc];rfl
 ·rw[htok] at ht ⊢
  refine⟨_,_,_,_,_,_,_,rfl,_,.refl _,fun b_t=>⟨fun _=>?_,fun h=>?_⟩⟩
  ·rw[ht]
   exact⟨_,_,_,A,rfl,by simpa using hA,rfl⟩
  ·rcases he with rfl | rfl | rfl<;>exact absurd h (by decide)
structure PF where
 e:Int
 pos:Int
 tok:Bool
structure PS where
 next:Nat
 f:PF
structure PC where
 l:List Tok
 bad:Int
 pos:Int
def gO:Px:=.mk 0 0 0 0 0 ⟨#[]⟩ [] 0
def PS.over(s:PS):Bool:=s.f.e != 0
def PS.inc(s:PS):PS:=⟨s.next+1,s.f⟩
section
variable (c:PC)
def PC.tok(i:Nat):Tok:=(c.l[i]?).getD (kr 0)
def PC.now(s:PS):Tok:=if s.over||decide (c.l.length≤s.next) then kr 0 else c.tok s.next
def PC.da(e:Int)(s:PS):PS:=if s.over then s else if c.l.length≤s.next then ⟨s.next,⟨c.bad,c.pos,true⟩⟩ else ⟨s.next,⟨e,(c.tok s.next).pos,false⟩⟩
def PC.eu(w:ByteArray)(s:PS):Bool:=(c.now s).text.toList==w.toList&&((c.now s).kind==1||(c.now s).kind==4)
def PC.jx(s:PS):List ByteArray→Int→Int
 | [],_=>-1
 | w::r,i=>if c.eu w s then i else PC.jx s r (i+1)
def PC.any(ws:List ByteArray)(s:PS):Int:=c.jx s ws 0
def PC.take(w:ByteArray)(s:PS):Int×PS:=if c.eu w s then ((c.now s).pos,s.inc) else (0,c.da 130 s)
def PC.name(s:PS):ByteArray×PS:=if (c.now s).kind=2 then ((c.now s).text,s.inc) else (⟨#[]⟩,c.da 130 s)
def PC.c8(d:Int)(s:PS):PS:=if 24<d+1 then c.da 132 s else s
def tS(dU n pos:Int):Px:=.mk 1 0 dU n 0 ⟨#[]⟩ [] pos
def PC.literal(s:PS):(Px×Bool)×PS :=
 if (c.now s).kind=3 then ((tS (c.now s).dU (c.now s).n (c.now s).pos,true),s.inc)
 else if (c.now s).kind=1∧((c.now s).text.toList=(⟨#[116,114,117,101]⟩:ByteArray).toList∨(c.now s).text.toList=(⟨#[102,97,108,115,101]⟩:ByteArray).toList) then ((tS 5 (if (c.now s).text.toList=(⟨#[116,114,117,101]⟩:ByteArray).toList then 1 else 0) (c.now s).pos,true),s.inc)
 else if (c.now s).kind=1∧((c.now s).text.toList=(⟨#[98,117,121]⟩:ByteArray).toList∨(c.now s).text.toList=(⟨#[115,101,108,108]⟩:ByteArray).toList) then ((tS 6 (if (c.now s).text.toList=(⟨#[115,101,108,108]⟩:ByteArray).toList then 2 else 1) (c.now s).pos,true),s.inc)
 else ((gO,false),s)
structure Lv where
 ex:PS→Px×PS
 un:PS→Px×PS
def PC.dK(nx:Lv):Nat→Bool→PS→List Px×PS
 | 0,_,s=>([],s)
 | n+1,first,s =>
   let r:=nx.ex (if first then s else (c.take (⟨#[44]⟩:ByteArray) s).2)
   let q:=PC.dK nx n false r.2
   (r.1::q.1,q.2)
def PC.call(nx:Lv)(d:Int)(kind oper dU pos:Int)(many:Nat)(s:PS):Px×PS :=
 if (c.c8 d s).over then (gO,c.c8 d s)
 else
  let q:=c.dK nx many true (c.take (⟨#[40]⟩:ByteArray) (c.c8 d s).inc).2
  (.mk kind oper dU 0 0 ⟨#[]⟩ q.1 pos,(c.take (⟨#[41]⟩:ByteArray) q.2).2)
def PC.rest(nx:Lv)(d:Int)(s:PS):Px×PS :=
 if c.eu (⟨#[104,97,115]⟩:ByteArray) s then
  if c.any [(⟨#[98,105,100]⟩:ByteArray),(⟨#[97,115,107]⟩:ByteArray),(⟨#[108,97,115,116]⟩:ByteArray)] s.inc<0 then (gO,c.da 130 s.inc) else (.mk 4 0 0 0 (c.any [(⟨#[98,105,100]⟩:ByteArray),(⟨#[97,115,107]⟩:ByteArray),(⟨#[108,97,115,116]⟩:ByteArray)] s.inc+1) ⟨#[]⟩ [] (c.now s).pos,s.inc.inc)
 else if c.eu (⟨#[40]⟩:ByteArray) s then
  if (c.c8 d s).over then (gO,c.c8 d s)
  else
   let r:=nx.ex (c.c8 d s).inc
   (r.1,(c.take (⟨#[41]⟩:ByteArray) r.2).2)
 else (gO,c.da 130 s)
def kh:List ByteArray:=[(⟨#[98,105,100]⟩:ByteArray),(⟨#[97,115,107]⟩:ByteArray),(⟨#[108,97,115,116]⟩:ByteArray),(⟨#[118,111,108,117,109,101]⟩:ByteArray),(⟨#[110,111,119]⟩:ByteArray),(⟨#[111,112,101,110]⟩:ByteArray)]
def fA:List ByteArray:=[(⟨#[97,98,115]⟩:ByteArray),(⟨#[109,105,110]⟩:ByteArray),(⟨#[109,97,120]⟩:ByteArray)]
def jM:List ByteArray:=[(⟨#[105,110,116]⟩:ByteArray),(⟨#[113,116,121]⟩:ByteArray),(⟨#[112,114,105,99,101]⟩:ByteArray),(⟨#[116,105,109,101]⟩:ByteArray)]
def PC.one(nx:Lv)(d:Int)(s:PS):Px×PS :=
 if (c.literal s).1.2 then ((c.literal s).1.1,(c.literal s).2)
 else if (c.now s).kind=2 then (.mk 2 0 0 0 0 (c.now s).text [] (c.now s).pos,s.inc)
 else if 0≤c.any kh s then (.mk 3 0 0 0 (c.any kh s+1) ⟨#[]⟩ [] (c.now s).pos,s.inc)
 else if 0≤c.any fA s then c.call nx d 8 (3+c.any fA s) 0 (c.now s).pos (if c.any fA s=0 then 1 else 2) s
 else if 0≤c.any jM s then c.call nx d 9 0 (1+c.any jM s) (c.now s).pos 1 s
 else c.rest nx d s
def lI:List ByteArray:=[(⟨#[45]⟩:ByteArray),(⟨#[33]⟩:ByteArray)]
def PC.unary(nx:Lv)(d:Int)(s:PS):Px×PS :=
 if c.any lI s<0 then c.one nx d s
 else if (c.c8 d s).over then (gO,c.c8 d s)
 else
  let r:=nx.un (c.c8 d s).inc
  (.mk 5 (1+c.any lI s) 0 0 0 ⟨#[]⟩ [r.1] (c.now (c.c8 d s)).pos,r.2)
def wB(o pos:Int)(a b:Px):Px:=.mk 6 o 0 0 0 ⟨#[]⟩ [a,b] pos
def PC.fq(ws:List ByteArray)(o:Int)(sub:PS→Px×PS):Nat→Px→PS→Px×PS
 | 0,n,s=>(n,s)
 | m+1,n,s=>if c.any ws s<0 then (n,s) else
   let k:=sub s.inc
   PC.fq ws o sub m (wB (o+c.any ws s) (c.now s).pos n k.1) k.2
def PC.loop(ws:List ByteArray)(o:Int)(sub:PS→Px×PS)(s:PS):Px×PS:=c.fq ws o sub c.l.length (sub s).1 (sub s).2
def tT:List ByteArray:=[(⟨#[42]⟩:ByteArray),(⟨#[47]⟩:ByteArray),(⟨#[37]⟩:ByteArray)]
def uS:List ByteArray:=[(⟨#[43]⟩:ByteArray),(⟨#[45]⟩:ByteArray)]
def lU:List ByteArray:=[(⟨#[61,61]⟩:ByteArray),(⟨#[33,61]⟩:ByteArray),(⟨#[60]⟩:ByteArray),(⟨#[60,61]⟩:ByteArray),(⟨#[62]⟩:ByteArray),(⟨#[62,61]⟩:ByteArray)]
def uT:List ByteArray:=[(⟨#[38,38]⟩:ByteArray)]
def Dn:List ByteArray:=[(⟨#[124,124]⟩:ByteArray)]
def PC.product(nx:Lv)(d:Int)(s:PS):Px×PS:=c.loop tT 8 (c.unary nx d) s
def PC.sum(nx:Lv)(d:Int)(s:PS):Px×PS:=c.loop uS 6 (c.product nx d) s
def PC.compare(nx:Lv)(d:Int)(s:PS):Px×PS :=
 let n:=c.sum nx d s
 if c.any lU n.2<0 then n else
  let k:=c.sum nx d n.2.inc
  (wB (11+c.any lU n.2) (c.now n.2).pos n.1 k.1,k.2)
def PC.and(nx:Lv)(d:Int)(s:PS):Px×PS:=c.loop uT 17 (c.compare nx d) s
def PC.or(nx:Lv)(d:Int)(s:PS):Px×PS:=c.loop Dn 18 (c.and nx d) s
def PC.expr(nx:Lv)(d:Int)(s:PS):Px×PS :=
 let n:=c.or nx d s
 if c.eu (⟨#[63]⟩:ByteArray) n.2 then
  if (c.c8 d n.2).over then (gO,c.c8 d n.2)
  else
   let a:=nx.ex (c.c8 d n.2).inc
   let b:=nx.ex (c.take (⟨#[58]⟩:ByteArray) a.2).2
   (.mk 7 0 0 0 0 ⟨#[]⟩ [n.1,a.1,b.1] (c.now (c.c8 d n.2)).pos,b.2)
 else n
def PC.lv(nx:Lv)(d:Int):Lv:=⟨c.expr nx d,c.unary nx d⟩
def PC.lvl:Nat→Int→Lv
 | 0,d=>c.lv ⟨fun s=>(gO,s),fun s=>(gO,s)⟩ d
 | k+1,d=>c.lv (PC.lvl k (d+1)) d
def PC.eX(s:PS):Px×PS:=(c.lvl 24 0).ex s
def gQ:List ByteArray:=[(⟨#[105,110,116]⟩:ByteArray),(⟨#[113,116,121]⟩:ByteArray),(⟨#[112,114,105,99,101]⟩:ByteArray),(⟨#[116,105,109,101]⟩:ByteArray),(⟨#[98,111,111,108]⟩:ByteArray),(⟨#[115,105,100,101]⟩:ByteArray)]
def PC.pD(nm:ByteArray)(t pos pos2:Int)(minus:Bool)(n:Px)(s:PS):fp×PS:=(⟨nm,t,if minus then .mk 5 1 0 0 0 ⟨#[]⟩ [n] pos2 else n,pos⟩,(c.take (⟨#[59]⟩:ByteArray) s).2)
def PC.lV(nm:ByteArray)(t pos pos2:Int)(minus:Bool)(s:PS):fp×PS :=
 if minus=true∧(c.now s).kind≠3 then (⟨nm,t,gO,pos⟩,c.da 130 s) else c.pD nm t pos pos2 minus (c.literal s).1.1 (if (c.literal s).1.2 then (c.literal s).2 else c.da 130 (c.literal s).2)
def PC.pE(nm:ByteArray)(t pos:Int)(s:PS):fp×PS:=c.lV nm t pos (c.now s).pos (c.eu (⟨#[45]⟩:ByteArray) s) (if c.eu (⟨#[45]⟩:ByteArray) s then s.inc else s)
def PC.oN(nm:ByteArray)(pos:Int)(s:PS):fp×PS:=if c.any gQ s<0 then (⟨nm,0,gO,pos⟩,c.da 130 s) else c.pE nm (1+c.any gQ s) pos (c.take (⟨#[61]⟩:ByteArray) s.inc).2
def PC.kM(s:PS):fp×PS:=c.oN (c.name (c.take (⟨#[114,101,103]⟩:ByteArray) s).2).1 (c.take (⟨#[114,101,103]⟩:ByteArray) s).1 (c.name (c.take (⟨#[114,101,103]⟩:ByteArray) s).2).2
def fk:List ByteArray:=[(⟨#[108,105,109,105,116]⟩:ByteArray),(⟨#[105,111,99]⟩:ByteArray),(⟨#[102,111,107]⟩:ByteArray),(⟨#[112,111,115,116]⟩:ByteArray)]
def PC.je(s:PS):ByteArray×PS:=if c.eu (⟨#[97,115]⟩:ByteArray) s then c.name s.inc else (⟨#[]⟩,s)
def PC.nN(x y:Px)(pos:Int)(z:Px)(o:Int)(s:PS):jw×PS:=(⟨1,o,(c.je s).1,x,y,z,gO,pos⟩,(c.je s).2)
def PC.pF(x y:Px)(pos:Int)(z:Px)(s:PS):jw×PS:=if c.any fk s<0 then (⟨1,2,⟨#[]⟩,x,y,z,gO,pos⟩,c.da 130 s) else c.nN x y pos z (if c.any fk s=0 then 1 else 2+c.any fk s) s.inc
def xd:List ByteArray:=[(⟨#[109,97,114,107,101,116]⟩:ByteArray),(⟨#[97,116]⟩:ByteArray)]
def PC.oO(x y:Px)(pos:Int)(s:PS):jw×PS:=if c.any xd s<0 then (⟨1,0,⟨#[]⟩,x,y,gO,gO,pos⟩,c.da 130 s)
 else if c.any xd s=1 then c.pF x y pos (c.eX s.inc).1 (c.eX s.inc).2 else c.nN x y pos gO 2 s.inc
def PC.uU(x:Px)(pos:Int)(s:PS):jw×PS:=c.oO x (c.eX (c.take (⟨#[111,102]⟩:ByteArray) s).2).1 pos (c.eX (c.take (⟨#[111,102]⟩:ByteArray) s).2).2
def PC.kX(s:PS):jw×PS:=c.uU (c.eX (c.take (⟨#[115,117,98,109,105,116]⟩:ByteArray) s).2).1 (c.take (⟨#[115,117,98,109,105,116]⟩:ByteArray) s).1 (c.eX (c.take (⟨#[115,117,98,109,105,116]⟩:ByteArray) s).2).2
def tU:List ByteArray:=[(⟨#[115,117,98,109,105,116]⟩:ByteArray),(⟨#[97,109,101,110,100]⟩:ByteArray),(⟨#[99,97,110,99,101,108]⟩:ByteArray),(⟨#[115,101,116]⟩:ByteArray),(⟨#[103,111,116,111]⟩:ByteArray),(⟨#[104,97,108,116]⟩:ByteArray)]
def HW:jw:=⟨0,0,⟨#[]⟩,gO,gO,gO,gO,0⟩
def PC.CO(nm:ByteArray)(pos:Int)(x:Px)(s:PS):jw×PS:=(⟨2,0,nm,gO,x,(c.eX (c.take (⟨#[97,116]⟩:ByteArray) s).2).1,gO,pos⟩,(c.eX (c.take (⟨#[97,116]⟩:ByteArray) s).2).2)
def PC.FM(nm:ByteArray)(pos:Int)(s:PS):jw×PS:=(⟨4,0,nm,gO,gO,gO,(c.eX (c.take (⟨#[61]⟩:ByteArray) s).2).1,pos⟩,(c.eX (c.take (⟨#[61]⟩:ByteArray) s).2).2)
def PC.wC(k:Int)(nm:ByteArray)(pos:Int)(s:PS):jw×PS:=if k=2 then c.CO nm pos (c.eX (c.take (⟨#[116,111]⟩:ByteArray) s).2).1 (c.eX (c.take (⟨#[116,111]⟩:ByteArray) s).2).2 else if k=4 then c.FM nm pos s else (⟨k,0,nm,gO,gO,gO,gO,pos⟩,s)
def PC.do(s:PS):jw×PS :=
 if c.any tU s<0 then (HW,c.da 130 s)
 else if c.any tU s=0 then c.kX s
 else if c.any tU s=5 then c.wC 6 ⟨#[]⟩ (c.now s).pos s.inc
 else c.wC (1+c.any tU s) (c.name s.inc).1 (c.now s).pos (c.name s.inc).2
def PC.many(n most:Nat)(s:PS):PS:=if most≤n then c.da 131 s else s
def PC.ia:Nat→List jw→PS→List jw×PS
 | 0,l,s=>(l,s)
 | m+1,l,s =>
   if c.eu (⟨#[44]⟩:ByteArray) (c.do s).2 then
    if (c.many (l.length+1) 8 (c.do s).2).over then (l++[(c.do s).1],c.many (l.length+1) 8 (c.do s).2) else PC.ia m (l++[(c.do s).1]) (c.many (l.length+1) 8 (c.do s).2).inc
   else (l++[(c.do s).1],(c.do s).2)
def PC.mq(w:Px)(pos:Int)(s:PS):eE×PS:=(⟨w,(c.ia 8 [] s).1,pos⟩,(c.take (⟨#[59]⟩:ByteArray) (c.ia 8 [] s).2).2)
def PC.ib(s:PS):eE×PS:=c.mq (c.eX (c.take (⟨#[119,104,101,110]⟩:ByteArray) s).2).1 (c.take (⟨#[119,104,101,110]⟩:ByteArray) s).1 (c.take (⟨#[100,111]⟩:ByteArray) (c.eX (c.take (⟨#[119,104,101,110]⟩:ByteArray) s).2).2).2
def PC.fi{α:Type}(w:ByteArray)(most:Nat)(one:PS→α×PS):Nat→List α→PS→List α×PS
 | 0,l,s=>(l,if c.eu w s then c.many l.length most s else s)
 | m+1,l,s=>if c.eu w s then
    if (c.many l.length most s).over then (l,c.many l.length most s) else PC.fi w most one m (l++[(one (c.many l.length most s)).1]) (one (c.many l.length most s)).2
   else (l,s)
def PC.list{α:Type}(w:ByteArray)(most:Nat)(one:PS→α×PS)(s:PS):List α×PS:=c.fi w most one most [] s
def PC.lW(nm:ByteArray)(pos:Int)(s:PS):dF×PS:=(⟨nm,(c.list (⟨#[119,104,101,110]⟩:ByteArray) 12 c.ib s).1,pos⟩,(c.take (⟨#[125]⟩:ByteArray) (c.list (⟨#[119,104,101,110]⟩:ByteArray) 12 c.ib s).2).2)
def PC.state(s:PS):dF×PS:=c.lW (c.name (c.take (⟨#[115,116,97,116,101]⟩:ByteArray) s).2).1 (c.take (⟨#[115,116,97,116,101]⟩:ByteArray) s).1 (c.take (⟨#[123]⟩:ByteArray) (c.name (c.take (⟨#[115,116,97,116,101]⟩:ByteArray) s).2).2).2
def PC.slot(s:PS):dp×PS:=(⟨(c.name (c.take (⟨#[115,108,111,116]⟩:ByteArray) s).2).1,(c.take (⟨#[115,108,111,116]⟩:ByteArray) s).1⟩,(c.take (⟨#[59]⟩:ByteArray) (c.name (c.take (⟨#[115,108,111,116]⟩:ByteArray) s).2).2).2)
def PC.end(s:PS):PS:=if s.over then s else if c.l.length≤s.next∨(c.tok s.next).kind≠0 then c.da 130 s else s
def PC.zx(nm:ByteArray)(rs:List fp)(ss:List dp)(ts:List dF)(s:PS):fT×PS:=(⟨nm,rs,ss,ts⟩,c.end (c.take (⟨#[125]⟩:ByteArray) (if ts.length=0 then c.da 130 s else s)).2)
def PC.zy(nm:ByteArray)(rs:List fp)(ss:List dp)(s:PS):fT×PS:=c.zx nm rs ss (c.list (⟨#[115,116,97,116,101]⟩:ByteArray) 12 c.state s).1 (c.list (⟨#[115,116,97,116,101]⟩:ByteArray) 12 c.state s).2
def PC.zz(nm:ByteArray)(rs:List fp)(s:PS):fT×PS:=c.zy nm rs (c.list (⟨#[115,108,111,116]⟩:ByteArray) 4 c.slot s).1 (c.list (⟨#[115,108,111,116]⟩:ByteArray) 4 c.slot s).2
def PC.zA(nm:ByteArray)(s:PS):fT×PS:=c.zz nm (c.list (⟨#[114,101,103]⟩:ByteArray) 12 c.kM s).1 (c.list (⟨#[114,101,103]⟩:ByteArray) 12 c.kM s).2
def PC.whole(s:PS):fT×PS:=c.zA (c.name (c.take (⟨#[115,116,114,97,116,101,103,121]⟩:ByteArray) s).2).1 (c.take (⟨#[123]⟩:ByteArray) (c.name (c.take (⟨#[115,116,114,97,116,101,103,121]⟩:ByteArray) s).2).2).2
end
def dB(t:ByteArray):PC:=if 4096<(t.size:Int) then ⟨[],0,0⟩ else ⟨(lT t 0).1,((lT t 0).2.map Prod.fst).getD 0,((lT t 0).2.map Prod.snd).getD 0⟩
def eY(t:ByteArray):PS:=⟨0,if 4096<(t.size:Int) then ⟨110,0,true⟩ else ⟨0,0,false⟩⟩
def zF:PF:=⟨0,0,false⟩
def dW(t:ByteArray):fT×PF :=
 let r:=(dB t).whole (eY t)
 if r.2.over then (⟨⟨#[]⟩,[],[],[]⟩,r.2.f) else (r.1,zF)
def lY(t:ByteArray):Px×PF :=
 let n:=(dB t).eX (eY t)
 let s:=(dB t).end n.2
 if s.over then (gO,s.f) else (n.1,zF)
end Go.Lx
namespace Go.Lx
open Go.Vc Go.Proofs.Tryz
def ki:List (Nat×List Sh):=[(0,[]),(3,[.one (.int .i64)]),(4,[.one .bool]),(9,[.one .str]),(48,[.one (.int .i64)]),(74,[.one (.int .u8)]),(76,[.agg [(.int .u8),.str,(.int .u8),(.int .i64),(.int .i64)]]),(80,[.one .slc]),(81,[.one .slc,.one (.int .i64),.one (.int .i64)])]
def gR.V(p:Addr)(I:cS)(F:cR)(Q:cT)  : Prop:=∃ad:Addr,some p=some ad∧∃(m:Int),Rd I F ((ad.add 4).add 0) [.int .i64 m]∧Q (.returned (.bool (m != 0))) I (F)
theorem gR.vc{p:Addr}{I:cS}{F:cR}{Q:cT}  (h:gR.V p I F Q):cU P 30 #[.pointer (some p)] I F Q :=
 tw (A:=(an [] [] ki)) [] func30 h
def iu.V(ka:Nat→Int→Bs→Int→Int→Int→Nat×Obj)(vb vi:Int→Value)(vs:Bs→Value)(p:Addr)(I:cS)(F:cR)(Q:cT)  : Prop:=∀b:Nat,∃(r:Bool),(cU P 30 (#[.pointer (some p)]) I ((ka b 0 (⟨#[]⟩:Bs) 0 0 0)::F) fun e1 I1 G1=>e1=.returned (.bool r)∧List.Perm G1 ((ka b 0 (⟨#[]⟩:Bs) 0 0 0)::F))∧(It r (Q (.returned (.agg #[vb 0,vs (⟨#[]⟩:Bs),vb 0,vi 0,vi 0])) I F) (∃ad:Addr,some p=some ad∧∃(m:Int),Rd I ((ka b 0 (⟨#[]⟩:Bs) 0 0 0)::F) (ad.add 3) [vi m]∧∃j:Addr,some p=some j∧∃(q:OA) (a s:Nat),Rd I ((ka b 0 (⟨#[]⟩:Bs) 0 0 0)::F) (j.add 0) [.slice q a s]∧(Dt (m≥(a:Int)) (Q (.returned (.agg #[vb 0,vs (⟨#[]⟩:Bs),vb 0,vi 0,vi 0])) I F) (∃k:Addr,some p=some k∧∃(c:OA) (d o:Nat),Rd I ((ka b 0 (⟨#[]⟩:Bs) 0 0 0)::F) (k.add 0) [.slice c d o]∧∃l:Addr,some p=some l∧∃(m1:Int),Rd I ((ka b 0 (⟨#[]⟩:Bs) 0 0 0)::F) (l.add 3) [vi m1]∧((0≤m1∧m1<(d:Int))∧∃n:Addr,c=some n∧∃(e:Int) (f:Bs) (g h i:Int),Rd I ((ka b 0 (⟨#[]⟩:Bs) 0 0 0)::F) (n.add (Int.toNat m1*5)) [vb e,vs f,vb g,vi h,vi i]∧Q (.returned (.agg #[vb e,vs f,vb g,vi h,vi i])) I F)))))
theorem iu.vc{p:Addr}{I:cS}{F:cR}{Q:cT}  (h:iu.V (fun W a b c d e=>(W,Obj.cells #[.int .u8 a,.string b,.int .u8 c,.int .i64 d,.int .i64 e] 76 (0,0))) (.int .u8) (.int .i64) .string p I F Q):cU P 95 #[.pointer (some p)] I F Q :=
 tw (A:=(dy [1001,1012] [] [30] ki [] [] [] [(3,10,[0])] [] [] [])) [30] func95 h
def gh.V(vi:Int→Value)(p:Addr)(e1:Int)(I:cS)(F:cR)(Q:cT)  : Prop:=dt P 30 (#[.pointer (some p)]) I (·) F .bool fun r I1 F1=>(It r (Q (.returned (.tuple #[])) I1 F1) (∃ad:Addr,some p=some ad∧∃(m:Int),Rd I1 F1 (ad.add 3) [vi m]∧∃h:Addr,some p=some h∧∃(q:OA) (c s:Nat),Rd I1 F1 (h.add 0) [.slice q c s]∧(Dt (m≥(c:Int)) (∃i:Addr,some p=some i∧∃(m1:Int),Rd I1 F1 (i.add 1) [vi m1]∧∃j:Addr,some p=some j∧∃(m2:Int),Rd I1 F1 (j.add 2) [vi m2]∧∃a:Addr,some p=some a∧∃(cs:List Value) (el:Nat) (F2:cR),List.Perm F1 (((a.add 4).block,Obj.cells cs.toArray el (0,0))::F2)∧(a.add 4).spot=none∧(a.add 4).off+3≤cs.length∧Q (.returned (.tuple #[])) I1 ((((a.add 4).block,Obj.cells (cY (a.add 4).off [vi m1,vi m2,.bool true] cs).toArray el (0,0))::F2))) (∃k:Addr,some p=some k∧∃(d:OA) (e o:Nat),Rd I1 F1 (k.add 0) [.slice d e o]∧∃l:Addr,some p=some l∧∃(m3:Int),Rd I1 F1 (l.add 3) [vi m3]∧((0≤m3∧m3<(e:Int))∧∃n:Addr,d=some n∧∃(m4:Int),Rd I1 F1 ((n.add (Int.toNat m3*5)).add 4) [vi m4]∧∃b:Addr,some p=some b∧∃(f:List Value) (g:Nat) (F3:cR),List.Perm F1 (((b.add 4).block,Obj.cells f.toArray g (0,0))::F3)∧(b.add 4).spot=none∧(b.add 4).off+3≤f.length∧Q (.returned (.tuple #[])) I1 ((((b.add 4).block,Obj.cells (cY (b.add 4).off [vi e1,vi m4,.bool false] f).toArray g (0,0))::F3)))))))
theorem gh.vc{p:Addr}{e1:Int}{I:cS}{F:cR}{Q:cT}  (h:gh.V (.int .i64) p e1 I F Q):cU P 81 #[.pointer (some p),.int .i64 e1] I F Q :=
 tw (A:=(dy [1,1009] [] [30] ki [] [] [] [(2,12,[]),(3,16,[])] [] [] [])) [30] func81 h
def iV.V(p:Addr)(s:Bs)(I:cS)(F:cR)(Q:cT)  : Prop:=eg P 95 (#[.pointer (some p)]) I (·) F fun e1 I1 G1=>∃(a:Int) (b:Bs) (c d e:Int),e1=.returned (.agg #[.int .u8 a,.string b,.int .u8 c,.int .i64 d,.int .i64 e])∧G1 fun F1=>∀f:Nat,(It (b.toList==s.toList) (It (a==1) (Q (.returned (.bool true)) I1 F1) (Q (.returned (.bool (a==4))) I1 F1)) (Q (.returned (.bool false)) I1 F1))
theorem iV.vc{p:Addr}{s:Bs}{I:cS}{F:cR}{Q:cT}  (h:iV.V p s I F Q):cU P 76 #[.pointer (some p),.string s] I F Q :=
 tw (A:=(an [2003,2007] [95] ki)) [95] func76 h
def iv.V(p:Addr)(b:OA)(a c:Nat)(I:cS)(F:cR)(Q:cT)(Inv6:Int→Int→Nat→cS→cR→Prop):Prop:=(∃m:Nat,Inv6 0 0 m I F)∧∀(x i:Int) (m1:Nat) (I1:cS) (F1:cR),cS.le I I1→Inv6 x i m1 I1 F1→(Dt (i<(a:Int)) ((0≤i∧i<(a:Int))∧∃ad:Addr,b=some ad∧∃(m2:Bs),Rd I1 F1 (ad.add (Int.toNat i*1)) [.string m2]∧dt P 76 (#[.pointer (some p),.string m2]) I1 (·) F1 .bool fun r I2 F2=>(It r (Q (.returned (.int .i64 i)) I2 F2) (∃m3:Nat,m3<m1∧Inv6 x (IntKind.wrap .i64 (i+1)) m3 I2 F2))) (Q (.returned (.int .i64 (-1))) I1 F1))
theorem iv.vc{p:Addr}{a:OA}{b c:Nat}{I:cS}{F:cR}{Q:cT}(Inv6:Int→Int→Nat→cS→cR→Prop)(h:iv.V p a b c I F Q Inv6):cU P 108 #[.pointer (some p),.slice a b c] I F Q :=
 tw (A:=(dy [2003,5000] [] [76] ki [(6,⟨[(4,(.int .i64)),(5,(.int .i64))],[],fun _ _ _ vs m I F=>match vs with | [.int _ y0,.int _ y1]=>Inv6 y0 y1 m I F | _=>False,[],[]⟩)] [] [] [] [] [] [])) [76] func108 h
def gS.V(vi:Int→Value)(p:Addr)(s:Bs)(I:cS)(F:cR)(Q:cT)  : Prop:=dt P 76 (#[.pointer (some p),.string s]) I (·) F .bool fun r I1 F1=>(It (!r) (eg P 81 (#[.pointer (some p),vi 130]) I1 (·) F1 fun e2 I2 G2=>e2=.returned (.tuple #[])∧G2 fun F2=>Q (.returned (vi 0)) I2 F2) (eg P 95 (#[.pointer (some p)]) I1 (·) F1 fun e3 I3 G3=>∃(c:Int) (d:Bs) (e f b:Int),e3=.returned (.agg #[.int .u8 c,.string d,.int .u8 e,vi f,vi b])∧G3 fun F3=>∃ad:Addr,some p=some ad∧∃(m:Int),Rd I3 F3 (ad.add 3) [vi m]∧∃a:Addr,some p=some a∧∃(cs:List Value) (el:Nat) (F4:cR),List.Perm F3 (((a.add 3).block,Obj.cells cs.toArray el (0,0))::F4)∧(a.add 3).spot=none∧(a.add 3).off+1≤cs.length∧Q (.returned (vi b)) I3 ((((a.add 3).block,Obj.cells (cY (a.add 3).off [vi (IntKind.wrap .i64 (m+1))] cs).toArray el (0,0))::F4))))
theorem gS.vc{p:Addr}{s:Bs}{I:cS}{F:cR}{Q:cT}  (h:gS.V (.int .i64) p s I F Q):cU P 74 #[.pointer (some p),.string s] I F Q :=
 tw (A:=(an [2001] [76,81,95] ki)) [76,81,95] func74 h
def gT.V(vb vi:Int→Value)(vs:Bs→Value)(p:Addr)(I:cS)(F:cR)(Q:cT)  : Prop:=eg P 95 (#[.pointer (some p)]) I (·) F fun e1 I1 G1=>∃(a:Int) (c:Bs) (d e f:Int),e1=.returned (.agg #[vb a,vs c,vb d,vi e,vi f])∧G1 fun F1=>∀g:Nat,(It (a != 2) (eg P 81 (#[.pointer (some p),vi 130]) I1 ((g,Obj.cells #[vb a,vs c,vb d,vi e,vi f] 76 (0,0))::·) F1 fun e2 I2 G2=>e2=.returned (.tuple #[])∧G2 fun F2=>Q (.returned (vs (⟨#[]⟩:Bs))) I2 F2) (∃ad:Addr,some p=some ad∧∃(m:Int),Rd I1 ((g,Obj.cells #[vb a,vs c,vb d,vi e,vi f] 76 (0,0))::F1) (ad.add 3) [vi m]∧∃b:Addr,some p=some b∧∃(cs:List Value) (el:Nat) (F3:cR),List.Perm F1 (((b.add 3).block,Obj.cells cs.toArray el (0,0))::F3)∧(b.add 3).spot=none∧(b.add 3).off+1≤cs.length∧Q (.returned (vs c)) I1 ((((b.add 3).block,Obj.cells (cY (b.add 3).off [vi (IntKind.wrap .i64 (m+1))] cs).toArray el (0,0))::F3))))
theorem gT.vc{p:Addr}{I:cS}{F:cR}{Q:cT}  (h:gT.V (.int .u8) (.int .i64) .string p I F Q):cU P 75 #[.pointer (some p)] I F Q :=
 tw (A:=(an [2002] [81,95] ki)) [81,95] func75 h
def fM.V(vt:Bool→Value)(p:Addr)(d:Int)(I:cS)(F:cR)(Q:cT)  : Prop:=(Dt ((IntKind.wrap .i64 (d+1))>24) (eg P 81 (#[.pointer (some p),.int .i64 132]) I (·) F fun e1 I1 G1=>e1=.returned (.tuple #[])∧G1 fun F1=>dt P 30 (#[.pointer (some p)]) I1 (·) F1 vt fun r I2 F2=>Q (.returned (vt (!r))) I2 F2) (dt P 30 (#[.pointer (some p)]) I (·) F vt fun r1 I3 F3=>Q (.returned (vt (!r1))) I3 F3))
theorem fM.vc{p:Addr}{d:Int}{I:cS}{F:cR}{Q:cT}  (h:fM.V .bool p d I F Q):cU P 94 #[.pointer (some p),.int .i64 d] I F Q :=
 tw (A:=(an [1002] [30,81] ki)) [30,81] func94 h
def fB.V(nV:Int→Int→Int→Int→Int→Bs→OA→Nat→Nat→Int→Value)(nO:Int→Int→Int→Int→Int→Bs→OA→Nat→Nat→Int→Obj)(vb vi:Int→Value)(vt:Bool→Value)(p:Addr)(I:cS)(F:cR)(Q:cT)(Inv6:Bool→Int→Int→Int→Int→Int→Bs→OA→Nat→Nat→Int→Int→Int→Int→Int→Int→Bs→OA→Nat→Nat→Int→cS→cR→Prop):Prop:=∀b:Nat,eg P 95 (#[.pointer (some p)]) I ((b,nO 0 0 0 0 0 (⟨#[]⟩:Bs) none 0 0 0)::·) F fun e1 I1 G1=>∃(d:Int) (a:Bs) (u v c:Int),e1=.returned (.agg #[vb d,.string a,vb u,vi v,vi c])∧G1 fun F1=>∀af:Nat,∀ag:Nat,((It (d==3) (Inv6 false 0 0 0 0 0 (⟨#[]⟩:Bs) none 0 0 0 1 0 u v 0 (⟨#[]⟩:Bs) none 0 0 c I1 F1) (It (d==1) (It (a.toList==(⟨#[116,114,117,101]⟩:Bs).toList) (It (a.toList==(⟨#[116,114,117,101]⟩:Bs).toList) (Inv6 false 0 0 0 0 0 (⟨#[]⟩:Bs) none 0 0 0 1 0 5 1 0 (⟨#[]⟩:Bs) none 0 0 c I1 F1) (Inv6 false 0 0 0 0 0 (⟨#[]⟩:Bs) none 0 0 0 1 0 5 0 0 (⟨#[]⟩:Bs) none 0 0 c I1 F1)) (It (a.toList==(⟨#[102,97,108,115,101]⟩:Bs).toList) (It (a.toList==(⟨#[116,114,117,101]⟩:Bs).toList) (Inv6 false 0 0 0 0 0 (⟨#[]⟩:Bs) none 0 0 0 1 0 5 1 0 (⟨#[]⟩:Bs) none 0 0 c I1 F1) (Inv6 false 0 0 0 0 0 (⟨#[]⟩:Bs) none 0 0 0 1 0 5 0 0 (⟨#[]⟩:Bs) none 0 0 c I1 F1)) (It (d==1) (It (a.toList==(⟨#[98,117,121]⟩:Bs).toList) (It (a.toList==(⟨#[115,101,108,108]⟩:Bs).toList) (Inv6 false 0 0 0 0 0 (⟨#[]⟩:Bs) none 0 0 0 1 0 6 2 0 (⟨#[]⟩:Bs) none 0 0 c I1 F1) (Inv6 false 0 0 0 0 0 (⟨#[]⟩:Bs) none 0 0 0 1 0 6 1 0 (⟨#[]⟩:Bs) none 0 0 c I1 F1)) (It (a.toList==(⟨#[115,101,108,108]⟩:Bs).toList) (It (a.toList==(⟨#[115,101,108,108]⟩:Bs).toList) (Inv6 false 0 0 0 0 0 (⟨#[]⟩:Bs) none 0 0 0 1 0 6 2 0 (⟨#[]⟩:Bs) none 0 0 c I1 F1) (Inv6 false 0 0 0 0 0 (⟨#[]⟩:Bs) none 0 0 0 1 0 6 1 0 (⟨#[]⟩:Bs) none 0 0 c I1 F1)) (Q (.returned (.tuple #[nV 0 0 0 0 0 (⟨#[]⟩:Bs) none 0 0 0,vt false])) I1 F1))) (Q (.returned (.tuple #[nV 0 0 0 0 0 (⟨#[]⟩:Bs) none 0 0 0,vt false])) I1 F1)))) (It (d==1) (It (a.toList==(⟨#[98,117,121]⟩:Bs).toList) (It (a.toList==(⟨#[115,101,108,108]⟩:Bs).toList) (Inv6 false 0 0 0 0 0 (⟨#[]⟩:Bs) none 0 0 0 1 0 6 2 0 (⟨#[]⟩:Bs) none 0 0 c I1 F1) (Inv6 false 0 0 0 0 0 (⟨#[]⟩:Bs) none 0 0 0 1 0 6 1 0 (⟨#[]⟩:Bs) none 0 0 c I1 F1)) (It (a.toList==(⟨#[115,101,108,108]⟩:Bs).toList) (It (a.toList==(⟨#[115,101,108,108]⟩:Bs).toList) (Inv6 false 0 0 0 0 0 (⟨#[]⟩:Bs) none 0 0 0 1 0 6 2 0 (⟨#[]⟩:Bs) none 0 0 c I1 F1) (Inv6 false 0 0 0 0 0 (⟨#[]⟩:Bs) none 0 0 0 1 0 6 1 0 (⟨#[]⟩:Bs) none 0 0 c I1 F1)) (Q (.returned (.tuple #[nV 0 0 0 0 0 (⟨#[]⟩:Bs) none 0 0 0,vt false])) I1 F1))) (Q (.returned (.tuple #[nV 0 0 0 0 0 (⟨#[]⟩:Bs) none 0 0 0,vt false])) I1 F1)))))∧∀(x:Bool) (w y z aa ab:Int) (ac:Bs) (r:OA) (s t:Nat) (ae i j k l n:Int) (o:Bs) (e:OA) (f g:Nat) (q:Int) (I2:cS) (F2:cR),cS.le I1 I2→Inv6 x w y z aa ab ac r s t ae i j k l n o e f g q I2 F2→∃ad:Addr,some p=some ad∧∃(m:Int),Rd I2 ((b,nO w y z aa ab ac r s t ae)::(af,Obj.cells #[vb d,.string a,vb u,vi v,vi c] 76 (0,0))::(ag,nO i j k l n o e f g q)::F2) (ad.add 3) [vi m]∧∃h:Addr,some p=some h∧∃(cs:List Value) (el:Nat) (F3:cR),List.Perm F2 (((h.add 3).block,Obj.cells cs.toArray el (0,0))::F3)∧(h.add 3).spot=none∧(h.add 3).off+1≤cs.length∧Q (.returned (.tuple #[nV i j k l n o e f g q,vt true])) I2 ((((h.add 3).block,Obj.cells (cY (h.add 3).off [vi (IntKind.wrap .i64 (m+1))] cs).toArray el (0,0))::F3))
theorem fB.vc{p:Addr}{I:cS}{F:cR}{Q:cT}(Inv6:Bool→Int→Int→Int→Int→Int→Bs→OA→Nat→Nat→Int→Int→Int→Int→Int→Int→Bs→OA→Nat→Nat→Int→cS→cR→Prop)(h:fB.V (fun k o t n f s a l c q=>.agg #[.int .u8 k,.int .u8 o,.int .u8 t,.int .i64 n,.int .u8 f,.string s,.slice a l c,.int .i64 q]) (fun k o t n f s a l c q=>.cells #[.int .u8 k,.int .u8 o,.int .u8 t,.int .i64 n,.int .u8 f,.string s,.slice a l c,.int .i64 q] 64 (0,0)) (.int .u8) (.int .i64) .bool p I F Q Inv6):cU P 109 #[.pointer (some p)] I F Q :=
 tw (A:=(dy [4002,7002,7006,7010,9002,11002,11006,11010,14002] [] [95] ki [(6,⟨[(3,.bool)],[(0,[(.int .u8),(.int .u8),(.int .u8),(.int .i64),(.int .u8),.str,.slc,(.int .i64)]),(2,[(.int .u8),(.int .u8),(.int .u8),(.int .i64),(.int .u8),.str,.slc,(.int .i64)])],fun _ _ _ vs m I F=>match vs with | [.bool y0,.int _ y1,.int _ y2,.int _ y3,.int _ y4,.int _ y5,.string y6,.slice y7 y8 y9,.int _ y10,.int _ y11,.int _ y12,.int _ y13,.int _ y14,.int _ y15,.string y16,.slice y17 y18 y19,.int _ y20]=>Inv6 y0 y1 y2 y3 y4 y5 y6 y7 y8 y9 y10 y11 y12 y13 y14 y15 y16 y17 y18 y19 y20 I F | _=>False,[],[]⟩)] [] [] [] [] [] [])) [95] func109 h
def iw.V(vi:Int→Value)(p:Addr)(I:cS)(F:cR)(Q:cT)  : Prop:=dt P 30 (#[.pointer (some p)]) I (·) F .bool fun r I1 F1=>(It r (Q (.returned (.tuple #[])) I1 F1) (∃ad:Addr,some p=some ad∧∃(m:Int),Rd I1 F1 (ad.add 3) [vi m]∧∃d:Addr,some p=some d∧∃(i:OA) (a j:Nat),Rd I1 F1 (d.add 0) [.slice i a j]∧(Dt (m≥(a:Int)) (eg P 81 (#[.pointer (some p),vi 130]) I1 (·) F1 fun e2 I2 G2=>e2=.returned (.tuple #[])∧G2 fun F2=>Q (.returned (.tuple #[])) I2 F2) (∃e:Addr,some p=some e∧∃(b:OA) (c h:Nat),Rd I1 F1 (e.add 0) [.slice b c h]∧∃f:Addr,some p=some f∧∃(m1:Int),Rd I1 F1 (f.add 3) [vi m1]∧((0≤m1∧m1<(c:Int))∧∃g:Addr,b=some g∧∃(m2:Int),Rd I1 F1 ((g.add (Int.toNat m1*5)).add 0) [.int .u8 m2]∧(It (m2 != 0) (eg P 81 (#[.pointer (some p),vi 130]) I1 (·) F1 fun e3 I3 G3=>e3=.returned (.tuple #[])∧G3 fun F3=>Q (.returned (.tuple #[])) I3 F3) (Q (.returned (.tuple #[])) I1 F1)))))))
theorem iw.vc{p:Addr}{I:cS}{F:cR}{Q:cT}  (h:iw.V (.int .i64) p I F Q):cU P 49 #[.pointer (some p)] I F Q :=
 tw (A:=(an [1,1009,1022] [30,81] ki)) [30,81] func49 h
def gU.V(vt:Bool→Value)(p:Addr)(n a:Int)(I:cS)(F:cR)(Q:cT)  : Prop:=(Dt (n≥a) (eg P 81 (#[.pointer (some p),.int .i64 131]) I (·) F fun e1 I1 G1=>e1=.returned (.tuple #[])∧G1 fun F1=>dt P 30 (#[.pointer (some p)]) I1 (·) F1 vt fun r I2 F2=>Q (.returned (vt (!r))) I2 F2) (dt P 30 (#[.pointer (some p)]) I (·) F vt fun r1 I3 F3=>Q (.returned (vt (!r1))) I3 F3))
theorem gU.vc{p:Addr}{n a:Int}{I:cS}{F:cR}{Q:cT}  (h:gU.V .bool p n a I F Q):cU P 77 #[.pointer (some p),.int .i64 n,.int .i64 a] I F Q :=
 tw (A:=(an [1002] [30,81] ki)) [30,81] func77 h
def lJ.V(vi:Int→Value)(s:Bs)(I:cS)(F:cR)(Q:cT)  : Prop:=(Dt ((s.size:Int)>4096) (∀b:Nat,Q (.returned (.pointer (some (⟨b,0,none⟩:Addr)))) I (((b,Obj.cells #[.slice none 0 0,vi 0,vi 0,vi 0,vi 110,vi 0,.bool true] 96 (0,0))::F))) (eg P 59 #[.string s] I (·) F fun e1 I1 G1=>∃(a:OA) (c d:Nat) (r1 r2:Int),e1=.returned (.tuple #[.slice a c d,vi r1,vi r2])∧G1 fun F1=>∀b1:Nat,Q (.returned (.pointer (some (⟨b1,0,none⟩:Addr)))) I1 (((b1,Obj.cells #[.slice a c d,vi r1,vi r2,vi 0,vi 0,vi 0,.bool false] 96 (0,0))::F1))))
theorem lJ.vc{s:Bs}{I:cS}{F:cR}{Q:cT}  (h:lJ.V (.int .i64) s I F Q):cU P 28 #[.string s] I F Q :=
 tw (A:=(dy [1002] [] [59] ki [] [] [2002,4004] [] [] [] [])) [59] func28 h
end Go.Lx
namespace Go.Lx
open Go.Vc
structure PQ where
 c:PC
 a:Option Addr
 cap:Nat
def PQ.cl(q:PQ)(s:PS):List Value:=[.slice q.a q.c.l.length q.cap,.int .i64 q.c.bad,.int .i64 q.c.pos,.int .i64 s.next,.int .i64 s.f.e,.int .i64 s.f.pos,.bool s.f.tok]
def PQ.db(q:PQ)(b:Nat)(s:PS):Nat×Obj:=(b,.cells (q.cl s).toArray 96 (0,0))
structure PQ.ok (q:PQ) (I:cS):Prop where
 sl:Sl I 5 Tok.enc q.a q.c.l.length q.c.l
 len:q.c.l.length≤1000000
theorem PQ.ok.mono{q:PQ}{I J:cS}(h:q.ok I)(hl:cS.le I J):q.ok J:=⟨h.sl.mono hl,h.len⟩
theorem PQ.rd{q:PQ}{b:Nat}{s:PS}{I:cS}{G:cR}(h:q.db b s∈G){k:Nat}{v:Value}(hv:(q.cl s)[k]? = some v):Rd I G ((⟨b,0,none⟩:Addr).add k) [v]:=by
 rw[dg]
 refine⟨rfl,_,_,_,.inr h,fun j hj=>?_⟩
 have:j=0:=by simpa using hj
 subst this
 simpa using hv
theorem PQ.fe{q:PQ}{b:Nat}{s:PS}(hn:s.next≤2000000) :
  (((⟨b,0,none⟩:Addr).add 3).block,Obj.cells (cY ((⟨b,0,none⟩:Addr).add 3).off [.int .i64 (IntKind.wrap .i64 ((s.next:Int)+1))] (q.cl s)).toArray 96 (0,0))=q.db b s.inc:=by
 rw[dg,ew (by omega)]
 rfl
theorem PQ.Gf{q:PQ}{b:Nat}{s:PS}{e p:Int}{t:Bool} :
  (((⟨b,0,none⟩:Addr).add 4).block,Obj.cells (cY ((⟨b,0,none⟩:Addr).add 4).off [.int .i64 e,.int .i64 p,.bool t] (q.cl s)).toArray 96 (0,0))=q.db b ⟨s.next,⟨e,p,t⟩⟩:=by
 rw[dg]
 rfl
theorem PQ.spot(b k:Nat):((⟨b,0,none⟩:Addr).add k).spot=none:=by rw[dg]
theorem PQ.off(b k:Nat):((⟨b,0,none⟩:Addr).add k).off=k:=by rw[dg]
variable {q:PQ} {b:Nat} {s:PS} {I:cS}
theorem nP{F:cR}(hm:q.db b s∈F):cU P 30 #[.pointer (some ⟨b,0,none⟩)] I F (kL (.bool s.over) F):=by
 refine gR.vc ?_
 unfold gR.V
 exact⟨_,rfl,_,(PQ.rd hm (k:=4) rfl).field (o:=0) rfl,rfl,rfl⟩
theorem kl(hq:q.ok I){F:cR}(hm:q.db b s∈F):cU P 95 #[.pointer (some ⟨b,0,none⟩)] I F (kL (q.c.now s).v F):=by
 refine iu.vc ?_
 unfold iu.V
 intro b1
 refine⟨s.over,cU.ret (nP (.tail _ hm)) fun I1 l1=>⟨rfl,.refl _⟩,fun h=>⟨?_,rfl⟩,fun h=>⟨_,rfl,_,PQ.rd (.tail _ hm) rfl,_,rfl,_,_,_,PQ.rd (.tail _ hm) rfl,fun hn=>⟨?_,rfl⟩,fun hn=>⟨_,rfl,_,_,_,PQ.rd (.tail _ hm) rfl,_,rfl,_,PQ.rd (.tail _ hm) rfl, ?_⟩⟩⟩
 ·unfold PC.now;rw[h];rfl
 ·have hn:=of_decide_eq_true hn
  unfold PC.now;rw[h,if_pos (by simp;omega)];rfl
 ·have hn:=of_decide_eq_false hn
  obtain⟨ad,t,ha,ht,hr⟩:=hq.sl.at (i:=(s.next:Int)) (by omega) (by omega)
  refine⟨⟨by omega,by omega⟩,ad,ha,_,_,_,_,_,hr _, ?_,rfl⟩
  have ht:q.c.l[s.next]? = some t:=ht
  unfold PC.now PC.tok;rw[h,if_neg (by simp;omega),ht];rfl
theorem gi(hq:q.ok I)(e:Int){F F0:cR}(hF:F.Perm (q.db b s::F0)):cU P 81 #[.pointer (some ⟨b,0,none⟩),.int .i64 e] I F fun e1 I' G=>e1=.returned (.tuple #[])∧G.Perm (q.db b (q.c.da e s)::F0):=by
 have hm:q.db b s∈F:=hF.mem_iff.2 (.head _)
 refine gh.vc ?_
 unfold gh.V
 refine cU.ret (nP hm) fun I1 l1=>⟨_,rfl,F,.refl _,fun h=>⟨rfl, ?_⟩,fun h=>⟨_,rfl,_,PQ.rd hm rfl,_,rfl,_,_,_,PQ.rd hm rfl,fun hn=>⟨_,rfl,_,PQ.rd hm rfl,_,rfl,_,PQ.rd hm rfl,_,rfl,q.cl s,96,F0,hF,PQ.spot _ _,by rw[PQ.off];exact (by decide:4+3≤7),rfl, ?_⟩,
  fun hn=>⟨_,rfl,_,_,_,PQ.rd hm rfl,_,rfl,_,PQ.rd hm rfl, ?_⟩⟩⟩
 ·unfold PC.da;rw[if_pos h];exact hF
 ·have hn:=of_decide_eq_true hn
  unfold PC.da;rw[if_neg (by simp[h]),if_pos (by omega),PQ.Gf]
 ·have hn:=of_decide_eq_false hn
  obtain⟨ad,t,ha,ht,hr⟩:=(hq.mono l1).sl.at (i:=(s.next:Int)) (by omega) (by omega)
  refine⟨⟨by omega,by omega⟩,ad,ha,t.pos,(hr _).field (o:=4) rfl,_,rfl,q.cl s,96,F0,hF,PQ.spot _ _,by rw[PQ.off];exact (by decide:4+3≤7),rfl, ?_⟩
  have ht:q.c.l[s.next]? = some t:=ht
  unfold PC.da PC.tok;rw[if_neg (by simp[h]),if_neg (by omega),ht,PQ.Gf];exact .refl _
theorem pG(hq:q.ok I)(w:ByteArray){F:cR}(hm:q.db b s∈F):cU P 76 #[.pointer (some ⟨b,0,none⟩),.string w] I F (kL (.bool (q.c.eu w s)) F):=by
 refine iV.vc ?_
 unfold iV.V
 refine cU.ret (kl hq hm) fun I1 l1=>⟨_,_,_,_,_,rfl,F,.refl _,fun b_t=>⟨fun h=>⟨fun h1=>⟨?_,rfl⟩,fun h1=>⟨?_,rfl⟩⟩,fun h=>⟨?_,rfl⟩⟩⟩<;>unfold PC.eu<;>simp_all
theorem nt(hq:q.ok I){a:Option Addr}{n k:Nat}{ws:List ByteArray}(hS:Sl I 1 jS a n ws)(hl:n≤100){F:cR}(hm:q.db b s∈F):cU P 108 #[.pointer (some ⟨b,0,none⟩),.slice a n k] I F (kL (.int .i64 (q.c.any ws s)) F):=by
 have hn:=hS.1
 refine iv.vc (fun x i m I' F'=>F'=F∧0≤i∧i≤n∧m=(n-i).toNat∧q.c.any ws s=q.c.jx s (ws.drop i.toNat) i) ?_
 unfold iv.V
 refine⟨⟨_,rfl,by omega,by omega,rfl,rfl⟩,fun x i m1 I1 F1 l1 ⟨gF,g0,g1,gm,ge⟩=>⟨fun hlt=>?_,fun hlt=>⟨?_,gF⟩⟩⟩
 ·subst gF
  have hlt:=of_decide_eq_true hlt
  obtain⟨ad,w,ha,hw,hr⟩:=(hS.mono l1).at g0 hlt
  obtain⟨hk,rfl⟩:=List.getElem?_eq_some_iff.1 hw
  rw[List.drop_eq_getElem_cons hk,PC.jx] at ge
  refine⟨⟨g0,hlt⟩,ad,ha,_,hr _,cU.ret (pG (hq.mono l1) _ hm) fun I2 l2=>⟨_,rfl,F1,.refl _,fun h=>⟨?_,rfl⟩,fun h=>⟨(n-(i+1)).toNat,by omega,rfl, ?_⟩⟩⟩
  ·rw[ge,if_pos h]
  ·rw[ew (n:=i+1) (by omega)]
   refine⟨by omega,by omega,rfl, ?_⟩
   rw[ge,if_neg (by simp[h]),show (i+1).toNat=i.toNat+1 by omega]
 ·have hlt:=of_decide_eq_false hlt
  rw[ge,List.drop_eq_nil_of_le (by omega),PC.jx]
theorem lZ{c:PC}{s:PS}(h:(c.now s).kind≠0):s.next<c.l.length:=by
 unfold PC.now at h
 split at h
 ·exact absurd rfl h
 ·rename_i h1
  simp only[Bool.or_eq_true,decide_eq_true_eq,not_or] at h1
  omega
theorem eM{c:PC}{s:PS}{w:ByteArray}(h:c.eu w s=true):s.next<c.l.length:=by
 refine lZ fun hk=>?_
 unfold PC.eu at h
 rw[hk] at h
 simp at h
theorem wE{c:PC}{s:PS}:∀{ws:List ByteArray} {i:Int},0≤i→0≤c.jx s ws i→s.next<c.l.length∧i≤c.jx s ws i∧c.jx s ws i<i+ws.length
 | [],i,h0,h=>by rw[PC.jx] at h;omega
 | w::r,i,h0,h=>by
   rw[PC.jx] at h ⊢
   split at h
   ·rename_i hw
    rw[if_pos hw]
    exact⟨eM hw,Int.le_refl _,by rw[List.length_cons];omega⟩
   ·rename_i hw
    rw[if_neg hw]
    have:=wE (ws:=r) (i:=i+1) (by omega) h
    rw[List.length_cons];exact⟨this.1,by omega,by omega⟩
theorem dD{c:PC}{s:PS}{ws:List ByteArray}(h:0≤c.any ws s):s.next<c.l.length∧c.any ws s<ws.length:=by
 have:=wE (Int.le_refl 0) h
 exact⟨this.1,by have:=this.2.2;unfold PC.any;omega⟩
theorem eN(hq:q.ok I)(w:ByteArray){F F0:cR}(hF:F.Perm (q.db b s::F0)):cU P 74 #[.pointer (some ⟨b,0,none⟩),.string w] I F fun e1 I' G=>e1=.returned (.int .i64 (q.c.take w s).1)∧G.Perm (q.db b (q.c.take w s).2::F0):=by
 have hm:q.db b s∈F:=hF.mem_iff.2 (.head _)
 have hl:=hq.len
 refine gS.vc ?_
 unfold gS.V
 refine cU.ret (pG hq w hm) fun I1 l1=>⟨_,rfl,F,.refl _,fun h=>?_,fun h=>?_⟩
 ·have h:q.c.eu w s=false:=by simpa using h
  refine (gi (hq.mono l1) 130 hF).mono fun e I2 G l2 ⟨he,hG⟩=>?_
  refine⟨he,G,.refl _, ?_⟩
  unfold PC.take
  rw[if_neg (by simp[h])]
  exact⟨rfl,hG⟩
 ·have h:q.c.eu w s=true:=by simpa using h
  have hlt:=eM h
  refine cU.ret (kl (hq.mono l1) hm) fun I2 l2=>⟨_,_,_,_,_,rfl,F,.refl _,_,rfl,_,PQ.rd (k:=3) hm rfl,_,rfl,q.cl s,96,F0,hF,PQ.spot _ _,by rw[PQ.off];exact (by decide:3+1≤7), ?_⟩
  rw[PQ.fe (by omega)]
  unfold PC.take
  rw[if_pos h]
  exact⟨rfl,.refl _⟩
theorem pH(hq:q.ok I){F F0:cR}(hF:F.Perm (q.db b s::F0)):cU P 75 #[.pointer (some ⟨b,0,none⟩)] I F fun e1 I' G=>e1=.returned (.string (q.c.name s).1)∧G.Perm (q.db b (q.c.name s).2::F0):=by
 have hm:q.db b s∈F:=hF.mem_iff.2 (.head _)
 have hl:=hq.len
 refine gT.vc ?_
 unfold gT.V
 refine cU.ret (kl hq hm) fun I1 l1=>⟨_,_,_,_,_,rfl,F,.refl _,fun b_t=>⟨fun h=>?_,fun h=>?_⟩⟩
 ·have h:(q.c.now s).kind≠2:=by simpa using h
  refine (gi (hq.mono l1) 130 (F0:=_::F0) ((List.Perm.cons _ hF).trans (List.Perm.swap _ _ _))).mono fun e I2 G l2 ⟨he,hG⟩=>?_
  refine⟨he,q.db b (q.c.da 130 s)::F0,hG.trans (List.Perm.swap _ _ _), ?_⟩
  unfold PC.name
  rw[if_neg h]
  exact⟨rfl,.refl _⟩
 ·have h:(q.c.now s).kind=2:=by simpa using h
  have hlt:=lZ (by rw[h];decide:(q.c.now s).kind≠0)
  refine⟨_,rfl,_,PQ.rd (k:=3) (.tail _ hm) rfl,_,rfl,q.cl s,96,F0,hF,PQ.spot _ _,by rw[PQ.off];exact (by decide:3+1≤7), ?_⟩
  rw[PQ.fe (by omega)]
  unfold PC.name
  rw[if_pos h]
  exact⟨rfl,.refl _⟩
theorem qn(hq:q.ok I)(d:Int)(h0:0≤d)(h1:d≤1000){F F0:cR}(hF:F.Perm (q.db b s::F0)):cU P 94 #[.pointer (some ⟨b,0,none⟩),.int .i64 d] I F fun e1 I' G=>e1=.returned (.bool (!(q.c.c8 d s).over))∧G.Perm (q.db b (q.c.c8 d s)::F0):=by
 have hm:q.db b s∈F:=hF.mem_iff.2 (.head _)
 refine fM.vc ?_
 unfold fM.V
 rw[ew (n:=d+1) (by omega)]
 unfold PC.c8
 refine⟨fun h=>?_,fun h=>?_⟩
 ·have h:=of_decide_eq_true h
  rw[if_pos (by omega)]
  refine (gi hq 132 hF).mono fun e I2 G l2 ⟨he,hG⟩=>⟨he,G,.refl _,cU.ret (nP (hG.mem_iff.2 (.head _))) fun I3 l3=>⟨_,rfl,G,.refl _,rfl,hG⟩⟩
 ·have h:=of_decide_eq_false h
  rw[if_neg (by omega)]
  exact cU.ret (nP hm) fun I3 l3=>⟨_,rfl,F,.refl _,rfl,hF⟩
theorem tV(hq:q.ok I)(n most:Nat){F F0:cR}(hF:F.Perm (q.db b s::F0)):cU P 77 #[.pointer (some ⟨b,0,none⟩),.int .i64 n,.int .i64 most] I F fun e1 I' G=>e1=.returned (.bool (!(q.c.many n most s).over))∧G.Perm (q.db b (q.c.many n most s)::F0):=by
 have hm:q.db b s∈F:=hF.mem_iff.2 (.head _)
 refine gU.vc ?_
 unfold gU.V
 unfold PC.many
 refine⟨fun h=>?_,fun h=>?_⟩
 ·have h:=of_decide_eq_true h
  rw[if_pos (by omega)]
  refine (gi hq 131 hF).mono fun e I2 G l2 ⟨he,hG⟩=>⟨he,G,.refl _,cU.ret (nP (hG.mem_iff.2 (.head _))) fun I3 l3=>⟨_,rfl,G,.refl _,rfl,hG⟩⟩
 ·have h:=of_decide_eq_false h
  rw[if_neg (by omega)]
  exact cU.ret (nP hm) fun I3 l3=>⟨_,rfl,F,.refl _,rfl,hF⟩
theorem Er(hq:q.ok I){F F0:cR}(hF:F.Perm (q.db b s::F0)):cU P 49 #[.pointer (some ⟨b,0,none⟩)] I F fun e1 I' G=>e1=.returned (.tuple #[])∧G.Perm (q.db b (q.c.end s)::F0):=by
 have hm:q.db b s∈F:=hF.mem_iff.2 (.head _)
 refine iw.vc ?_
 unfold iw.V
 unfold PC.end
 refine cU.ret (nP hm) fun I1 l1=>⟨_,rfl,F,.refl _,fun h=>?_,fun h=>⟨_,rfl,_,PQ.rd hm rfl,_,rfl,_,_,_,PQ.rd hm rfl,fun hn=>?_,fun hn=>⟨_,rfl,_,_,_,PQ.rd hm rfl,_,rfl,_,PQ.rd hm rfl, ?_⟩⟩⟩
 ·rw[if_pos h];exact⟨rfl,hF⟩
 ·have hn:=of_decide_eq_true hn
  rw[if_neg (by simp[h]),if_pos (.inl (by omega))]
  exact (gi (hq.mono l1) 130 hF).mono fun e I2 G l2 ⟨he,hG⟩=>⟨he,G,.refl _,rfl,hG⟩
 ·have hn:=of_decide_eq_false hn
  obtain⟨ad,t,ha,ht,hr⟩:=(hq.mono l1).sl.at (i:=(s.next:Int)) (by omega) (by omega)
  have ht:q.c.l[s.next]? = some t:=ht
  have htk:q.c.tok s.next=t:=by unfold PC.tok;rw[ht];rfl
  refine⟨⟨by omega,by omega⟩,ad,ha,t.kind,(hr _).field (o:=0) rfl,fun h2=>?_,fun h2=>?_⟩
  ·rw[if_neg (by simp[h]),if_pos (.inr (by rw[htk];simpa using h2))]
   exact (gi (hq.mono l1) 130 hF).mono fun e I2 G l2 ⟨he,hG⟩=>⟨he,G,.refl _,rfl,hG⟩
  ·rw[if_neg (by simp[h]),if_neg (by rw[htk];simp at h2;omega)]
   exact⟨rfl,hF⟩
end Go.Lx
namespace Go.Lx
open Go.Vc
def Small(l:List Px):Prop:=∀x∈l,x.size≤1048576
theorem kq.zB{α:Type}{I:cS}{G:cR}{z:Nat}{f:α→List Value}{a:Option Addr}{n:Nat}{l:List α}(h:kq I G z f a n l){i:Int}(h0:0≤i)(h1:i<n) :
  ∃ad x,a=some ad∧l[i.toNat]? = some x∧Rd I G (ad.add (Int.toNat i*z)) (f x)∧x∈l:=by
 obtain⟨ad,x,g1,g2,g3⟩:=h.at h0 h1
 exact⟨ad,x,g1,g2,g3,List.mem_of_getElem? g2⟩
theorem kq.nil{α:Type}{I:cS}{G:cR}{z:Nat}{f:α→List Value}{a:Option Addr}:kq I G z f a 0 ([]:List α):=⟨rfl,fun h=>absurd rfl h⟩
theorem dO.leaf{I:cS}{G:cR}{k o ty n f:Int}{s:ByteArray}{a:Option Addr}{c:Nat}{q:Int}:dO I G (.mk k o ty n f s a c [] q):=.mk kq.nil fun k hk=>by cases hk
end Go.Lx
namespace Go.Lx
open Go.Vc Go.Proofs.Tryz
def kY:List (Nat×List Sh):=[(0,[]),(3,[.one (.int .i64)]),(4,[.one .bool]),(62,[.one .slc]),(64,[.agg [(.int .u8),(.int .u8),(.int .u8),(.int .i64),(.int .u8),.str,.slc,(.int .i64)]]),(76,[.agg [(.int .u8),.str,(.int .u8),(.int .i64),(.int .i64)]]),(208,[.agg [(.int .u8),(.int .u8),(.int .u8),(.int .i64),(.int .u8),.str,.slc,(.int .i64)],.one .bool])]
def gV.V(ah:Nat→Nat×Obj)(nV:Int→Int→Int→Int→Int→Bs→OA→Nat→Nat→Int→Value)(nO:Int→Int→Int→Int→Int→Bs→OA→Nat→Nat→Int→Obj)(vi:Int→Value)(vl:OA→Nat→Nat→Value)(vp:OA→Value)(wr:Int→Int)(p:Addr)(aD aE aF aG aH:Int)(aI:Bs)(aw:OA)(ax ay:Nat)(aJ ap d:Int)(I:cS)(F:cR)(Q:cT)(Inv20:Int→Int→Int→Int→Int→Int→Bs→OA→Nat→Nat→Int→Nat→cS→cR→Prop):Prop:=∀o:Nat,∀b:Nat,dt P 94 (#[vp (some p),vi d]) I ((ah o)::(b,nO 0 0 0 0 0 (⟨#[]⟩:Bs) none 0 0 0)::·) F .bool fun r I1 F1=>(It (!r) (Q (.returned (nV 0 0 0 0 0 (⟨#[]⟩:Bs) none 0 0 0)) I1 F1) (∃ad:Addr,some p=some ad∧∃(m:Int),Rd I1 ((ah o)::(b,nO 0 0 0 0 0 (⟨#[]⟩:Bs) none 0 0 0)::F1) (ad.add 3) [vi m]∧∃y:Addr,some p=some y∧∃(cs:List Value) (el:Nat) (F2:cR),List.Perm F1 (((y.add 3).block,Obj.cells cs.toArray el (0,0))::F2)∧(y.add 3).spot=none∧(y.add 3).off+1≤cs.length∧cU P 74 (#[vp (some p),.string (⟨#[40]⟩:Bs)]) I1 ((ah o)::(b,nO 0 0 0 0 0 (⟨#[]⟩:Bs) none 0 0 0)::(((y.add 3).block,Obj.cells (cY (y.add 3).off [vi (wr (m+1))] cs).toArray el (0,0))::F2)) fun e2 I2 G2=>∃(r1:Int),e2=.returned (vi r1)∧∃F3:cR,List.Perm G2 ((ah o)::(b,nO 0 0 0 0 0 (⟨#[]⟩:Bs) none 0 0 0)::F3)∧(∃m1:Nat,Inv20 0 aD aE aF aG aH aI aw ax ay aJ m1 I2 F3)∧∀(i f g h j k:Int) (l:Bs) (a:OA) (c e:Nat) (n:Int) (m2:Nat) (I3:cS) (F4:cR),cS.le I2 I3→Inv20 i f g h j k l a c e n m2 I3 F4→(Dt (i<ap) (Dt (i>0) (dt P 74 (#[vp (some p),.string (⟨#[44]⟩:Bs)]) I3 ((o,nO f g h j k l a c e n)::(b,nO 0 0 0 0 0 (⟨#[]⟩:Bs) none 0 0 0)::·) F4 vi fun r2 I4 F5=>eg P 48 (#[vp (some p),vi (wr (d+1))]) I4 ((o,nO f g h j k l a c e n)::(b,nO 0 0 0 0 0 (⟨#[]⟩:Bs) none 0 0 0)::·) F5 fun e4 I5 G4=>∃(ai aj ak al am:Int) (an:Bs) (u:OA) (w x:Nat) (ao:Int),e4=.returned (nV ai aj ak al am an u w x ao)∧G4 fun F6=>∀aC:Nat,∀(b1:Nat) (I6:cS),cS.le I5 I6→I6 b1=some (nO ai aj ak al am an u w x ao)→dk P (Builtin.append_ #[62,62] 62 #[vl a c e,vl (some ⟨b1,0,none⟩) 1 1]) I6 ((o,nO f g h j k l a c e n)::(b,nO 0 0 0 0 0 (⟨#[]⟩:Bs) none 0 0 0)::(aC,nO ai aj ak al am an u w x ao)::F6) fun v I7 G5=>∃(az:OA) (aA aB:Nat),v=vl az aA aB∧∃F7:cR,List.Perm G5 ((o,nO f g h j k l a c e n)::(b,nO 0 0 0 0 0 (⟨#[]⟩:Bs) none 0 0 0)::(aC,nO ai aj ak al am an u w x ao)::F7)∧(∃m3:Nat,m3<m2∧Inv20 (wr (i+1)) f g h j k l az aA aB n m3 I7 F7)) (eg P 48 (#[vp (some p),vi (wr (d+1))]) I3 ((o,nO f g h j k l a c e n)::(b,nO 0 0 0 0 0 (⟨#[]⟩:Bs) none 0 0 0)::·) F4 fun e5 I8 G6=>∃(z aa ab ac ae:Int) (af:Bs) (q:OA) (s t:Nat) (ag:Int),e5=.returned (nV z aa ab ac ae af q s t ag)∧G6 fun F8=>∀av:Nat,∀(b2:Nat) (I9:cS),cS.le I8 I9→I9 b2=some (nO z aa ab ac ae af q s t ag)→dk P (Builtin.append_ #[62,62] 62 #[vl a c e,vl (some ⟨b2,0,none⟩) 1 1]) I9 ((o,nO f g h j k l a c e n)::(b,nO 0 0 0 0 0 (⟨#[]⟩:Bs) none 0 0 0)::(av,nO z aa ab ac ae af q s t ag)::F8) fun v1 I10 G7=>∃(aq:OA) (ar au:Nat),v1=vl aq ar au∧∃F9:cR,List.Perm G7 ((o,nO f g h j k l a c e n)::(b,nO 0 0 0 0 0 (⟨#[]⟩:Bs) none 0 0 0)::(av,nO z aa ab ac ae af q s t ag)::F9)∧(∃m4:Nat,m4<m2∧Inv20 (wr (i+1)) f g h j k l aq ar au n m4 I10 F9))) (dt P 74 (#[vp (some p),.string (⟨#[41]⟩:Bs)]) I3 ((o,nO f g h j k l a c e n)::(b,nO 0 0 0 0 0 (⟨#[]⟩:Bs) none 0 0 0)::·) F4 vi fun r3 I11 F10=>Q (.returned (nV f g h j k l a c e n)) I11 F10))))
theorem gV.vc{p:Addr}{j r u v w:Int}{x:Bs}{e:OA}{g i:Nat}{y z d:Int}{I:cS}{F:cR}{Q:cT}(Inv20:Int→Int→Int→Int→Int→Int→Bs→OA→Nat→Nat→Int→Nat→cS→cR→Prop)(h:gV.V (fun b=>(b,Obj.cells #[.int .u8 j,.int .u8 r,.int .u8 u,.int .i64 v,.int .u8 w,.string x,.slice e g i,.int .i64 y] 64 (0,0))) (fun k o t n f s a l c q=>.agg #[.int .u8 k,.int .u8 o,.int .u8 t,.int .i64 n,.int .u8 f,.string s,.slice a l c,.int .i64 q]) (fun k o t n f s a l c q=>.cells #[.int .u8 k,.int .u8 o,.int .u8 t,.int .i64 n,.int .u8 f,.string s,.slice a l c,.int .i64 q] 64 (0,0)) (.int .i64) .slice .pointer (IntKind.wrap .i64) p j r u v w x e g i y z d I F Q Inv20):cU P 160 #[.pointer (some p),.agg #[.int .u8 j,.int .u8 r,.int .u8 u,.int .i64 v,.int .u8 w,.string x,.slice e g i,.int .i64 y],.int .i64 z,.int .i64 d] I F Q :=
 tw (A:=(dy [2001,7002,9001] [] [48,74,94] kY [(20,⟨[(10,(.int .i64))],[(0,[(.int .u8),(.int .u8),(.int .u8),(.int .i64),(.int .u8),.str,.slc,(.int .i64)])],fun _ _ _ vs m I F=>match vs with | [.int _ y0,.int _ y1,.int _ y2,.int _ y3,.int _ y4,.int _ y5,.string y6,.slice y7 y8 y9,.int _ y10]=>Inv20 y0 y1 y2 y3 y4 y5 y6 y7 y8 y9 y10 m I F | _=>False,[],[]⟩)] [12003] [] [] [] [] [])) [48,74,94] func160 h
def ix.V(ka:Nat→Int→Bs→Int→Int→Int→Nat×Obj)(nV:Int→Int→Int→Int→Int→Bs→OA→Nat→Nat→Int→Value)(nO:Int→Int→Int→Int→Int→Bs→OA→Nat→Nat→Int→Obj)(vb vi:Int→Value)(vs:Bs→Value)(vl:OA→Nat→Nat→Value)(vp:OA→Value)(p:Addr)(d:Int)(I:cS)(F:cR)(Q:cT)  : Prop:=∀b:Nat,eg P 109 (#[vp (some p)]) I ((b,nO 0 0 0 0 0 (⟨#[]⟩:Bs) none 0 0 0)::·) F fun e1 I1 G1=>∃(f g h i j:Int) (k:Bs) (a:OA) (c e:Nat) (l:Int) (r1:Bool),e1=.returned (.tuple #[nV f g h i j k a c e l,.bool r1])∧G1 fun F1=>∀s:Nat,(It r1 (Q (.returned (nV f g h i j k a c e l)) I1 F1) (eg P 95 (#[vp (some p)]) I1 ((b,nO 0 0 0 0 0 (⟨#[]⟩:Bs) none 0 0 0)::(s,nO f g h i j k a c e l)::·) F1 fun e2 I2 G2=>∃(o:Int) (q:Bs) (t u n:Int),e2=.returned (.agg #[vb o,vs q,vb t,vi u,vi n])∧G2 fun F2=>∀v:Nat,(It (o==2) (∃ad:Addr,some p=some ad∧∃(m:Int),Rd I2 ((b,nO 0 0 0 0 0 (⟨#[]⟩:Bs) none 0 0 0)::(s,nO f g h i j k a c e l)::(ka v o q t u n)::F2) (ad.add 3) [vi m]∧∃w:Addr,some p=some w∧∃(cs:List Value) (el:Nat) (F3:cR),List.Perm F2 (((w.add 3).block,Obj.cells cs.toArray el (0,0))::F3)∧(w.add 3).spot=none∧(w.add 3).off+1≤cs.length∧Q (.returned (nV 2 0 0 0 0 q none 0 0 n)) I2 ((((w.add 3).block,Obj.cells (cY (w.add 3).off [vi (IntKind.wrap .i64 (m+1))] cs).toArray el (0,0))::F3))) (∀(b1:Nat) (I3:cS),cS.le I2 I3→I3 b1=some (Obj.cells #[vs (⟨#[98,105,100]⟩:Bs),vs (⟨#[97,115,107]⟩:Bs),vs (⟨#[108,97,115,116]⟩:Bs),vs (⟨#[118,111,108,117,109,101]⟩:Bs),vs (⟨#[110,111,119]⟩:Bs),vs (⟨#[111,112,101,110]⟩:Bs)] 9 (0,0))→dt P 108 (#[vp (some p),vl (some ⟨b1,0,none⟩) 6 6]) I3 ((b,nO 0 0 0 0 0 (⟨#[]⟩:Bs) none 0 0 0)::(s,nO f g h i j k a c e l)::(ka v o q t u n)::·) F2 vi fun r I4 F4=>(Dt (r≥0) (∃aR:Addr,some p=some aR∧∃(m1:Int),Rd I4 ((b,nO 0 0 0 0 0 (⟨#[]⟩:Bs) none 0 0 0)::(s,nO f g h i j k a c e l)::(ka v o q t u n)::F4) (aR.add 3) [vi m1]∧∃x:Addr,some p=some x∧∃(al:List Value) (aO:Nat) (F5:cR),List.Perm F4 (((x.add 3).block,Obj.cells al.toArray aO (0,0))::F5)∧(x.add 3).spot=none∧(x.add 3).off+1≤al.length∧Q (.returned (.agg #[vb 3,vb 0,vb 0,vi 0,vb (IntKind.wrap .u8 (IntKind.wrap .i64 (r+1))),vs (⟨#[]⟩:Bs),vl none 0 0,vi n])) I4 ((((x.add 3).block,Obj.cells (cY (x.add 3).off [vi (IntKind.wrap .i64 (m1+1))] al).toArray aO (0,0))::F5))) (∀(b2:Nat) (I5:cS),cS.le I4 I5→I5 b2=some (Obj.cells #[vs (⟨#[97,98,115]⟩:Bs),vs (⟨#[109,105,110]⟩:Bs),vs (⟨#[109,97,120]⟩:Bs)] 9 (0,0))→dt P 108 (#[vp (some p),vl (some ⟨b2,0,none⟩) 3 3]) I5 ((b,nO 0 0 0 0 0 (⟨#[]⟩:Bs) none 0 0 0)::(s,nO f g h i j k a c e l)::(ka v o q t u n)::·) F4 vi fun r2 I6 F6=>(Dt (r2≥0) (It (r2==0) (eg P 160 (#[vp (some p),.agg #[vb 8,vb (IntKind.wrap .u8 (3+(IntKind.wrap .u8 r2))),vb 0,vi 0,vb 0,vs (⟨#[]⟩:Bs),vl none 0 0,vi n],vi 1,vi d]) I6 ((b,nO 0 0 0 0 0 (⟨#[]⟩:Bs) none 0 0 0)::(s,nO f g h i j k a c e l)::(ka v o q t u n)::·) F6 fun e5 I7 G5=>∃(am an ao ap aq:Int) (aP:Bs) (ai:OA) (aj ak:Nat) (aQ:Int),e5=.returned (nV am an ao ap aq aP ai aj ak aQ)∧G5 fun F7=>Q (.returned (nV am an ao ap aq aP ai aj ak aQ)) I7 F7) (eg P 160 (#[vp (some p),.agg #[vb 8,vb (IntKind.wrap .u8 (3+(IntKind.wrap .u8 r2))),vb 0,vi 0,vb 0,vs (⟨#[]⟩:Bs),vl none 0 0,vi n],vi 2,vi d]) I6 ((b,nO 0 0 0 0 0 (⟨#[]⟩:Bs) none 0 0 0)::(s,nO f g h i j k a c e l)::(ka v o q t u n)::·) F6 fun e6 I8 G6=>∃(ar au av aw ax:Int) (ay:Bs) (y:OA) (z aa:Nat) (az:Int),e6=.returned (nV ar au av aw ax ay y z aa az)∧G6 fun F8=>Q (.returned (nV ar au av aw ax ay y z aa az)) I8 F8)) (∀(b3:Nat) (I9:cS),cS.le I6 I9→I9 b3=some (Obj.cells #[vs (⟨#[105,110,116]⟩:Bs),vs (⟨#[113,116,121]⟩:Bs),vs (⟨#[112,114,105,99,101]⟩:Bs),vs (⟨#[116,105,109,101]⟩:Bs)] 9 (0,0))→dt P 108 (#[vp (some p),vl (some ⟨b3,0,none⟩) 4 4]) I9 ((b,nO 0 0 0 0 0 (⟨#[]⟩:Bs) none 0 0 0)::(s,nO f g h i j k a c e l)::(ka v o q t u n)::·) F6 vi fun r3 I10 F9=>(Dt (r3≥0) (eg P 160 (#[vp (some p),.agg #[vb 9,vb 0,vb (IntKind.wrap .u8 (1+(IntKind.wrap .u8 r3))),vi 0,vb 0,vs (⟨#[]⟩:Bs),vl none 0 0,vi n],vi 1,vi d]) I10 ((b,nO 0 0 0 0 0 (⟨#[]⟩:Bs) none 0 0 0)::(s,nO f g h i j k a c e l)::(ka v o q t u n)::·) F9 fun e8 I11 G8=>∃(aA aB aC aD aE:Int) (aF:Bs) (ab:OA) (ac ae:Nat) (aG:Int),e8=.returned (nV aA aB aC aD aE aF ab ac ae aG)∧G8 fun F10=>Q (.returned (nV aA aB aC aD aE aF ab ac ae aG)) I11 F10) (eg P 161 (#[vp (some p),vi d]) I10 ((b,nO 0 0 0 0 0 (⟨#[]⟩:Bs) none 0 0 0)::(s,nO f g h i j k a c e l)::(ka v o q t u n)::·) F9 fun e9 I12 G9=>∃(aH aI aJ aK aL:Int) (aM:Bs) (af:OA) (ag ah:Nat) (aN:Int),e9=.returned (nV aH aI aJ aK aL aM af ag ah aN)∧G9 fun F11=>Q (.returned (nV aH aI aJ aK aL aM af ag ah aN)) I12 F11))))))))))
theorem ix.vc{p:Addr}{d:Int}{I:cS}{F:cR}{Q:cT}  (h:ix.V (fun W a b c d e=>(W,Obj.cells #[.int .u8 a,.string b,.int .u8 c,.int .i64 d,.int .i64 e] 76 (0,0))) (fun k o t n f s a l c q=>.agg #[.int .u8 k,.int .u8 o,.int .u8 t,.int .i64 n,.int .u8 f,.string s,.slice a l c,.int .i64 q]) (fun k o t n f s a l c q=>.cells #[.int .u8 k,.int .u8 o,.int .u8 t,.int .i64 n,.int .u8 f,.string s,.slice a l c,.int .i64 q] 64 (0,0)) (.int .u8) (.int .i64) .string .slice .pointer p d I F Q):cU P 159 #[.pointer (some p),.int .i64 d] I F Q :=
 tw (A:=(dy [2000,5002,9001,13001,15001,19001] [] [95,108,109,160,161] kY [] [8001,12001,18001] [] [] [] [] [])) [95,108,109,160,161] func159 h
def gW.V(nV:Int→Int→Int→Int→Int→Bs→OA→Nat→Nat→Int→Value)(nO:Int→Int→Int→Int→Int→Bs→OA→Nat→Nat→Int→Obj)(vb vi:Int→Value)(vs:Bs→Value)(vp:OA→Value)(wr:Int→Int)(p:Addr)(d:Int)(I:cS)(F:cR)(Q:cT)  : Prop:=∀b:Nat,eg P 95 (#[vp (some p)]) I ((b,nO 0 0 0 0 0 (⟨#[]⟩:Bs) none 0 0 0)::·) F fun e1 I1 G1=>∃(aa:Int) (ab:Bs) (ac ae u:Int),e1=.returned (.agg #[vb aa,vs ab,vb ac,vi ae,vi u])∧G1 fun F1=>dt P 76 (#[vp (some p),vs (⟨#[104,97,115]⟩:Bs)]) I1 ((b,nO 0 0 0 0 0 (⟨#[]⟩:Bs) none 0 0 0)::·) F1 .bool fun r I2 F2=>(It r (∃ad:Addr,some p=some ad∧∃(m:Int),Rd I2 ((b,nO 0 0 0 0 0 (⟨#[]⟩:Bs) none 0 0 0)::F2) (ad.add 3) [vi m]∧∃f:Addr,some p=some f∧∃(cs:List Value) (el:Nat) (F3:cR),List.Perm F2 (((f.add 3).block,Obj.cells cs.toArray el (0,0))::F3)∧(f.add 3).spot=none∧(f.add 3).off+1≤cs.length∧∀(b1:Nat) (I3:cS),cS.le I2 I3→I3 b1=some (Obj.cells #[vs (⟨#[98,105,100]⟩:Bs),vs (⟨#[97,115,107]⟩:Bs),vs (⟨#[108,97,115,116]⟩:Bs)] 9 (0,0))→cU P 108 (#[vp (some p),.slice (some ⟨b1,0,none⟩) 3 3]) I3 ((b,nO 0 0 0 0 0 (⟨#[]⟩:Bs) none 0 0 0)::(((f.add 3).block,Obj.cells (cY (f.add 3).off [vi (wr (m+1))] cs).toArray el (0,0))::F3)) fun e3 I4 G3=>∃(r1:Int),e3=.returned (vi r1)∧∃F4:cR,List.Perm G3 ((b,nO 0 0 0 0 0 (⟨#[]⟩:Bs) none 0 0 0)::F4)∧(Dt (r1<0) (eg P 81 (#[vp (some p),vi 130]) I4 ((b,nO 0 0 0 0 0 (⟨#[]⟩:Bs) none 0 0 0)::·) F4 fun e4 I5 G4=>e4=.returned (.tuple #[])∧G4 fun F5=>Q (.returned (nV 0 0 0 0 0 (⟨#[]⟩:Bs) none 0 0 0)) I5 F5) (∃x:Addr,some p=some x∧∃(m1:Int),Rd I4 ((b,nO 0 0 0 0 0 (⟨#[]⟩:Bs) none 0 0 0)::F4) (x.add 3) [vi m1]∧∃g:Addr,some p=some g∧∃(s:List Value) (v:Nat) (F6:cR),List.Perm F4 (((g.add 3).block,Obj.cells s.toArray v (0,0))::F6)∧(g.add 3).spot=none∧(g.add 3).off+1≤s.length∧Q (.returned (.agg #[vb 4,vb 0,vb 0,vi 0,vb (IntKind.wrap .u8 (wr (r1+1))),vs (⟨#[]⟩:Bs),.slice none 0 0,vi u])) I4 ((((g.add 3).block,Obj.cells (cY (g.add 3).off [vi (wr (m1+1))] s).toArray v (0,0))::F6))))) (dt P 76 (#[vp (some p),vs (⟨#[40]⟩:Bs)]) I2 ((b,nO 0 0 0 0 0 (⟨#[]⟩:Bs) none 0 0 0)::·) F2 .bool fun r2 I6 F7=>(It (!r2) (eg P 81 (#[vp (some p),vi 130]) I6 ((b,nO 0 0 0 0 0 (⟨#[]⟩:Bs) none 0 0 0)::·) F7 fun e6 I7 G6=>e6=.returned (.tuple #[])∧G6 fun F8=>Q (.returned (nV 0 0 0 0 0 (⟨#[]⟩:Bs) none 0 0 0)) I7 F8) (dt P 94 (#[vp (some p),vi d]) I6 ((b,nO 0 0 0 0 0 (⟨#[]⟩:Bs) none 0 0 0)::·) F7 .bool fun r3 I8 F9=>(It (!r3) (Q (.returned (nV 0 0 0 0 0 (⟨#[]⟩:Bs) none 0 0 0)) I8 F9) (∃y:Addr,some p=some y∧∃(m2:Int),Rd I8 ((b,nO 0 0 0 0 0 (⟨#[]⟩:Bs) none 0 0 0)::F9) (y.add 3) [vi m2]∧∃h:Addr,some p=some h∧∃(t:List Value) (w:Nat) (F10:cR),List.Perm F9 (((h.add 3).block,Obj.cells t.toArray w (0,0))::F10)∧(h.add 3).spot=none∧(h.add 3).off+1≤t.length∧cU P 48 (#[vp (some p),vi (wr (d+1))]) I8 ((b,nO 0 0 0 0 0 (⟨#[]⟩:Bs) none 0 0 0)::(((h.add 3).block,Obj.cells (cY (h.add 3).off [vi (wr (m2+1))] t).toArray w (0,0))::F10)) fun e8 I9 G8=>∃(i j k l n:Int) (o:Bs) (a:OA) (c e:Nat) (q:Int),e8=.returned (nV i j k l n o a c e q)∧∃F11:cR,List.Perm G8 ((b,nO 0 0 0 0 0 (⟨#[]⟩:Bs) none 0 0 0)::F11)∧∀z:Nat,dt P 74 (#[vp (some p),vs (⟨#[41]⟩:Bs)]) I9 ((b,nO 0 0 0 0 0 (⟨#[]⟩:Bs) none 0 0 0)::(z,nO i j k l n o a c e q)::·) F11 vi fun r4 I10 F12=>Q (.returned (nV i j k l n o a c e q)) I10 F12))))))
theorem gW.vc{p:Addr}{d:Int}{I:cS}{F:cR}{Q:cT}  (h:gW.V (fun k o t n f s a l c q=>.agg #[.int .u8 k,.int .u8 o,.int .u8 t,.int .i64 n,.int .u8 f,.string s,.slice a l c,.int .i64 q]) (fun k o t n f s a l c q=>.cells #[.int .u8 k,.int .u8 o,.int .u8 t,.int .i64 n,.int .u8 f,.string s,.slice a l c,.int .i64 q] 64 (0,0)) (.int .u8) (.int .i64) .string .pointer (IntKind.wrap .i64) p d I F Q):cU P 161 #[.pointer (some p),.int .i64 d] I F Q :=
 tw (A:=(dy [3000,6001,12001,16001] [] [48,74,76,81,94,95,108] kY [] [5001] [] [] [] [] [])) [48,74,76,81,94,95,108] func161 h
def gj.V(ka:Nat→Int→Int→Int→Int→Int→Bs→OA→Nat→Nat→Int→Nat×Obj)(nV:Int→Int→Int→Int→Int→Bs→OA→Nat→Nat→Int→Value)(nO:Int→Int→Int→Int→Int→Bs→OA→Nat→Nat→Int→Obj)(vb vi:Int→Value)(vs:Bs→Value)(vl:OA→Nat→Nat→Value)(vp:OA→Value)(p:Addr)(d:Int)(I:cS)(F:cR)(Q:cT)  : Prop:=∀b:Nat,∀(b1:Nat) (I1:cS),cS.le I I1→I1 b1=some (Obj.cells #[vs (⟨#[45]⟩:Bs),vs (⟨#[33]⟩:Bs)] 9 (0,0))→dt P 108 (#[vp (some p),vl (some ⟨b1,0,none⟩) 2 2]) I1 ((b,nO 0 0 0 0 0 (⟨#[]⟩:Bs) none 0 0 0)::·) F vi fun r I2 F1=>(Dt (r<0) (eg P 159 (#[vp (some p),vi d]) I2 ((b,nO 0 0 0 0 0 (⟨#[]⟩:Bs) none 0 0 0)::·) F1 fun e2 I3 G2=>∃(w x y z aa:Int) (ab:Bs) (s:OA) (t u:Nat) (ac:Int),e2=.returned (nV w x y z aa ab s t u ac)∧G2 fun F2=>Q (.returned (nV w x y z aa ab s t u ac)) I3 F2) (dt P 94 (#[vp (some p),vi d]) I2 ((b,nO 0 0 0 0 0 (⟨#[]⟩:Bs) none 0 0 0)::·) F1 .bool fun r1 I4 F3=>(It (!r1) (Q (.returned (nV 0 0 0 0 0 (⟨#[]⟩:Bs) none 0 0 0)) I4 F3) (eg P 95 (#[vp (some p)]) I4 ((b,nO 0 0 0 0 0 (⟨#[]⟩:Bs) none 0 0 0)::·) F3 fun e4 I5 G4=>∃(ai:Int) (aj:Bs) (ak al a:Int),e4=.returned (.agg #[vb ai,vs aj,vb ak,vi al,vi a])∧G4 fun F4=>∀q:Nat,∃ad:Addr,some p=some ad∧∃(m:Int),Rd I5 ((b,nO 0 0 0 0 0 (⟨#[]⟩:Bs) none 0 0 0)::(ka q 5 (IntKind.wrap .u8 (1+(IntKind.wrap .u8 r))) 0 0 0 (⟨#[]⟩:Bs) none 0 0 a)::F4) (ad.add 3) [vi m]∧∃g:Addr,some p=some g∧∃(cs:List Value) (el:Nat) (F5:cR),List.Perm F4 (((g.add 3).block,Obj.cells cs.toArray el (0,0))::F5)∧(g.add 3).spot=none∧(g.add 3).off+1≤cs.length∧cU P 157 (#[vp (some p),vi (IntKind.wrap .i64 (d+1))]) I5 ((b,nO 0 0 0 0 0 (⟨#[]⟩:Bs) none 0 0 0)::(ka q 5 (IntKind.wrap .u8 (1+(IntKind.wrap .u8 r))) 0 0 0 (⟨#[]⟩:Bs) none 0 0 a)::(((g.add 3).block,Obj.cells (cY (g.add 3).off [vi (IntKind.wrap .i64 (m+1))] cs).toArray el (0,0))::F5)) fun e5 I6 G5=>∃(h i j k l:Int) (n:Bs) (c:OA) (e f:Nat) (o:Int),e5=.returned (nV h i j k l n c e f o)∧∃F6:cR,List.Perm G5 ((b,nO 0 0 0 0 0 (⟨#[]⟩:Bs) none 0 0 0)::(ka q 5 (IntKind.wrap .u8 (1+(IntKind.wrap .u8 r))) 0 0 0 (⟨#[]⟩:Bs) none 0 0 a)::F6)∧∀ah:Nat,∀(b2:Nat) (I7:cS),cS.le I6 I7→I7 b2=some (nO h i j k l n c e f o)→dk P (Builtin.append_ #[62,62] 62 #[vl none 0 0,vl (some ⟨b2,0,none⟩) 1 1]) I7 ((b,nO 0 0 0 0 0 (⟨#[]⟩:Bs) none 0 0 0)::(ka q 5 (IntKind.wrap .u8 (1+(IntKind.wrap .u8 r))) 0 0 0 (⟨#[]⟩:Bs) none 0 0 a)::(ah,nO h i j k l n c e f o)::F6) fun v I8 G6=>∃(ae:OA) (af ag:Nat),v=vl ae af ag∧∃F7:cR,List.Perm G6 ((b,nO 0 0 0 0 0 (⟨#[]⟩:Bs) none 0 0 0)::(ka q 5 (IntKind.wrap .u8 (1+(IntKind.wrap .u8 r))) 0 0 0 (⟨#[]⟩:Bs) none 0 0 a)::(ah,nO h i j k l n c e f o)::F7)∧Q (.returned (.agg #[vb 5,vb (IntKind.wrap .u8 (1+(IntKind.wrap .u8 r))),vb 0,vi 0,vb 0,vs (⟨#[]⟩:Bs),vl ae af ag,vi a])) I8 F7))))
theorem gj.vc{p:Addr}{d:Int}{I:cS}{F:cR}{Q:cT}  (h:gj.V (fun W a b c d e f g h i j=>(W,Obj.cells #[.int .u8 a,.int .u8 b,.int .u8 c,.int .i64 d,.int .u8 e,.string f,.slice g h i,.int .i64 j] 64 (0,0))) (fun k o t n f s a l c q=>.agg #[.int .u8 k,.int .u8 o,.int .u8 t,.int .i64 n,.int .u8 f,.string s,.slice a l c,.int .i64 q]) (fun k o t n f s a l c q=>.cells #[.int .u8 k,.int .u8 o,.int .u8 t,.int .i64 n,.int .u8 f,.string s,.slice a l c,.int .i64 q] 64 (0,0)) (.int .u8) (.int .i64) .string .slice .pointer p d I F Q):cU P 157 #[.pointer (some p),.int .i64 d] I F Q :=
 tw (A:=(dy [2001,5001] [] [94,95,108,157,159] kY [] [1001,10003] [] [] [] [] [])) [94,95,108,157,159] func157 h
def fC.V(nV:Int→Int→Int→Int→Int→Bs→OA→Nat→Nat→Int→Value)(nO:Int→Int→Int→Int→Int→Bs→OA→Nat→Nat→Int→Obj)(vi:Int→Value)(vs:Bs→Value)(vp:OA→Value)(p:Addr)(d:Int)(I:cS)(F:cR)(Q:cT)(Inv5:Int→Int→Int→Int→Int→Bs→OA→Nat→Nat→Int→Int→Int→Int→Int→Int→Bs→OA→Nat→Nat→Int→Nat→cS→cR→Prop):Prop:=∀b:Nat,eg P 157 (#[vp (some p),vi d]) I ((b,nO 0 0 0 0 0 (⟨#[]⟩:Bs) none 0 0 0)::·) F fun e1 I1 G1=>∃(aC aD aE aF aG:Int) (aH:Bs) (ap:OA) (aq ar:Nat) (aI:Int),e1=.returned (nV aC aD aE aF aG aH ap aq ar aI)∧G1 fun F1=>∀ac:Nat,(∃m:Nat,Inv5 0 0 0 0 0 (⟨#[]⟩:Bs) none 0 0 0 aC aD aE aF aG aH ap aq ar aI m I1 F1)∧∀(s t u v w:Int) (x:Bs) (n:OA) (o q:Nat) (y f g h i j:Int) (k:Bs) (a:OA) (c e:Nat) (l:Int) (m1:Nat) (I2:cS) (F2:cR),cS.le I1 I2→Inv5 s t u v w x n o q y f g h i j k a c e l m1 I2 F2→∀(b1:Nat) (I3:cS),cS.le I2 I3→I3 b1=some (Obj.cells #[vs (⟨#[42]⟩:Bs),vs (⟨#[47]⟩:Bs),vs (⟨#[37]⟩:Bs)] 9 (0,0))→dt P 108 (#[vp (some p),.slice (some ⟨b1,0,none⟩) 3 3]) I3 ((b,nO s t u v w x n o q y)::(ac,nO f g h i j k a c e l)::·) F2 vi fun r I4 F3=>(Dt (r<0) (Q (.returned (nV f g h i j k a c e l)) I4 F3) (eg P 95 (#[vp (some p)]) I4 ((b,nO s t u v w x n o q y)::(ac,nO f g h i j k a c e l)::·) F3 fun e3 I5 G3=>∃(aK:Int) (aL:Bs) (aM aN au:Int),e3=.returned (.agg #[.int .u8 aK,vs aL,.int .u8 aM,vi aN,vi au])∧G3 fun F4=>∃ad:Addr,some p=some ad∧∃(m2:Int),Rd I5 ((b,nO s t u v w x n o q y)::(ac,nO f g h i j k a c e l)::F4) (ad.add 3) [vi m2]∧∃ae:Addr,some p=some ae∧∃(cs:List Value) (el:Nat) (F5:cR),List.Perm F4 (((ae.add 3).block,Obj.cells cs.toArray el (0,0))::F5)∧(ae.add 3).spot=none∧(ae.add 3).off+1≤cs.length∧cU P 157 (#[vp (some p),vi d]) I5 ((b,nO s t u v w x n o q y)::(ac,nO f g h i j k a c e l)::(((ae.add 3).block,Obj.cells (cY (ae.add 3).off [vi (IntKind.wrap .i64 (m2+1))] cs).toArray el (0,0))::F5)) fun e4 I6 G4=>∃(af ag ah ai aj:Int) (ak:Bs) (z:OA) (aa ab:Nat) (al:Int),e4=.returned (nV af ag ah ai aj ak z aa ab al)∧∃F6:cR,List.Perm G4 ((b,nO s t u v w x n o q y)::(ac,nO f g h i j k a c e l)::F6)∧∀aJ:Nat,eg P 117 (#[.int .u8 (IntKind.wrap .u8 (8+(IntKind.wrap .u8 r))),vi au,nV f g h i j k a c e l,nV af ag ah ai aj ak z aa ab al]) I6 ((b,nO s t u v w x n o q y)::(ac,nO f g h i j k a c e l)::(aJ,nO af ag ah ai aj ak z aa ab al)::·) F6 fun e5 I7 G5=>∃(av aw ax ay az:Int) (aA:Bs) (am:OA) (an ao:Nat) (aB:Int),e5=.returned (nV av aw ax ay az aA am an ao aB)∧G5 fun F7=>(∃m3:Nat,m3<m1∧Inv5 s t u v w x n o q y av aw ax ay az aA am an ao aB m3 I7 F7)))
theorem fC.vc{p:Addr}{d:Int}{I:cS}{F:cR}{Q:cT}(Inv5:Int→Int→Int→Int→Int→Bs→OA→Nat→Nat→Int→Int→Int→Int→Int→Int→Bs→OA→Nat→Nat→Int→Nat→cS→cR→Prop)(h:fC.V (fun k o t n f s a l c q=>.agg #[.int .u8 k,.int .u8 o,.int .u8 t,.int .i64 n,.int .u8 f,.string s,.slice a l c,.int .i64 q]) (fun k o t n f s a l c q=>.cells #[.int .u8 k,.int .u8 o,.int .u8 t,.int .i64 n,.int .u8 f,.string s,.slice a l c,.int .i64 q] 64 (0,0)) (.int .i64) .string .pointer p d I F Q Inv5):cU P 152 #[.pointer (some p),.int .i64 d] I F Q :=
 tw (A:=(dy [3001] [] [95,108,117,157] kY [(5,⟨[],[(0,[(.int .u8),(.int .u8),(.int .u8),(.int .i64),(.int .u8),.str,.slc,(.int .i64)]),(1,[(.int .u8),(.int .u8),(.int .u8),(.int .i64),(.int .u8),.str,.slc,(.int .i64)])],fun _ _ _ vs m I F=>match vs with | [.int _ y0,.int _ y1,.int _ y2,.int _ y3,.int _ y4,.string y5,.slice y6 y7 y8,.int _ y9,.int _ y10,.int _ y11,.int _ y12,.int _ y13,.int _ y14,.string y15,.slice y16 y17 y18,.int _ y19]=>Inv5 y0 y1 y2 y3 y4 y5 y6 y7 y8 y9 y10 y11 y12 y13 y14 y15 y16 y17 y18 y19 m I F | _=>False,[],[]⟩)] [2001] [] [] [] [] [])) [95,108,117,157] func152 h
def iy.V(nV:Int→Int→Int→Int→Int→Bs→OA→Nat→Nat→Int→Value)(nO:Int→Int→Int→Int→Int→Bs→OA→Nat→Nat→Int→Obj)(vi:Int→Value)(vp:OA→Value)(p:Addr)(d:Int)(I:cS)(F:cR)(Q:cT)(Inv5:Int→Int→Int→Int→Int→Bs→OA→Nat→Nat→Int→Int→Int→Int→Int→Int→Bs→OA→Nat→Nat→Int→Nat→cS→cR→Prop):Prop:=∀b:Nat,eg P 152 (#[vp (some p),vi d]) I ((b,nO 0 0 0 0 0 (⟨#[]⟩:Bs) none 0 0 0)::·) F fun e1 I1 G1=>∃(aC aD aE aF aG:Int) (aH:Bs) (ap:OA) (aq ar:Nat) (aI:Int),e1=.returned (nV aC aD aE aF aG aH ap aq ar aI)∧G1 fun F1=>∀ac:Nat,(∃m:Nat,Inv5 0 0 0 0 0 (⟨#[]⟩:Bs) none 0 0 0 aC aD aE aF aG aH ap aq ar aI m I1 F1)∧∀(s t u v w:Int) (x:Bs) (n:OA) (o q:Nat) (y f g h i j:Int) (k:Bs) (a:OA) (c e:Nat) (l:Int) (m1:Nat) (I2:cS) (F2:cR),cS.le I1 I2→Inv5 s t u v w x n o q y f g h i j k a c e l m1 I2 F2→∀(b1:Nat) (I3:cS),cS.le I2 I3→I3 b1=some (Obj.cells #[.string (⟨#[43]⟩:Bs),.string (⟨#[45]⟩:Bs)] 9 (0,0))→dt P 108 (#[vp (some p),.slice (some ⟨b1,0,none⟩) 2 2]) I3 ((b,nO s t u v w x n o q y)::(ac,nO f g h i j k a c e l)::·) F2 vi fun r I4 F3=>(Dt (r<0) (Q (.returned (nV f g h i j k a c e l)) I4 F3) (eg P 95 (#[vp (some p)]) I4 ((b,nO s t u v w x n o q y)::(ac,nO f g h i j k a c e l)::·) F3 fun e3 I5 G3=>∃(aK:Int) (aL:Bs) (aM aN au:Int),e3=.returned (.agg #[.int .u8 aK,.string aL,.int .u8 aM,vi aN,vi au])∧G3 fun F4=>∃ad:Addr,some p=some ad∧∃(m2:Int),Rd I5 ((b,nO s t u v w x n o q y)::(ac,nO f g h i j k a c e l)::F4) (ad.add 3) [vi m2]∧∃ae:Addr,some p=some ae∧∃(cs:List Value) (el:Nat) (F5:cR),List.Perm F4 (((ae.add 3).block,Obj.cells cs.toArray el (0,0))::F5)∧(ae.add 3).spot=none∧(ae.add 3).off+1≤cs.length∧cU P 152 (#[vp (some p),vi d]) I5 ((b,nO s t u v w x n o q y)::(ac,nO f g h i j k a c e l)::(((ae.add 3).block,Obj.cells (cY (ae.add 3).off [vi (IntKind.wrap .i64 (m2+1))] cs).toArray el (0,0))::F5)) fun e4 I6 G4=>∃(af ag ah ai aj:Int) (ak:Bs) (z:OA) (aa ab:Nat) (al:Int),e4=.returned (nV af ag ah ai aj ak z aa ab al)∧∃F6:cR,List.Perm G4 ((b,nO s t u v w x n o q y)::(ac,nO f g h i j k a c e l)::F6)∧∀aJ:Nat,eg P 117 (#[.int .u8 (IntKind.wrap .u8 (6+(IntKind.wrap .u8 r))),vi au,nV f g h i j k a c e l,nV af ag ah ai aj ak z aa ab al]) I6 ((b,nO s t u v w x n o q y)::(ac,nO f g h i j k a c e l)::(aJ,nO af ag ah ai aj ak z aa ab al)::·) F6 fun e5 I7 G5=>∃(av aw ax ay az:Int) (aA:Bs) (am:OA) (an ao:Nat) (aB:Int),e5=.returned (nV av aw ax ay az aA am an ao aB)∧G5 fun F7=>(∃m3:Nat,m3<m1∧Inv5 s t u v w x n o q y av aw ax ay az aA am an ao aB m3 I7 F7)))
theorem iy.vc{p:Addr}{d:Int}{I:cS}{F:cR}{Q:cT}(Inv5:Int→Int→Int→Int→Int→Bs→OA→Nat→Nat→Int→Int→Int→Int→Int→Int→Bs→OA→Nat→Nat→Int→Nat→cS→cR→Prop)(h:iy.V (fun k o t n f s a l c q=>.agg #[.int .u8 k,.int .u8 o,.int .u8 t,.int .i64 n,.int .u8 f,.string s,.slice a l c,.int .i64 q]) (fun k o t n f s a l c q=>.cells #[.int .u8 k,.int .u8 o,.int .u8 t,.int .i64 n,.int .u8 f,.string s,.slice a l c,.int .i64 q] 64 (0,0)) (.int .i64) .pointer p d I F Q Inv5):cU P 144 #[.pointer (some p),.int .i64 d] I F Q :=
 tw (A:=(dy [3001] [] [95,108,117,152] kY [(5,⟨[],[(0,[(.int .u8),(.int .u8),(.int .u8),(.int .i64),(.int .u8),.str,.slc,(.int .i64)]),(1,[(.int .u8),(.int .u8),(.int .u8),(.int .i64),(.int .u8),.str,.slc,(.int .i64)])],fun _ _ _ vs m I F=>match vs with | [.int _ y0,.int _ y1,.int _ y2,.int _ y3,.int _ y4,.string y5,.slice y6 y7 y8,.int _ y9,.int _ y10,.int _ y11,.int _ y12,.int _ y13,.int _ y14,.string y15,.slice y16 y17 y18,.int _ y19]=>Inv5 y0 y1 y2 y3 y4 y5 y6 y7 y8 y9 y10 y11 y12 y13 y14 y15 y16 y17 y18 y19 m I F | _=>False,[],[]⟩)] [2001] [] [] [] [] [])) [95,108,117,152] func144 h
def fD.V(nV:Int→Int→Int→Int→Int→Bs→OA→Nat→Nat→Int→Value)(nO:Int→Int→Int→Int→Int→Bs→OA→Nat→Nat→Int→Obj)(vi:Int→Value)(vs:Bs→Value)(vp:OA→Value)(p:Addr)(d:Int)(I:cS)(F:cR)(Q:cT)  : Prop:=∀b:Nat,eg P 144 (#[vp (some p),vi d]) I ((b,nO 0 0 0 0 0 (⟨#[]⟩:Bs) none 0 0 0)::·) F fun e1 I1 G1=>∃(f g h i j:Int) (k:Bs) (a:OA) (c e:Nat) (l:Int),e1=.returned (nV f g h i j k a c e l)∧G1 fun F1=>∀s:Nat,∀(b1:Nat) (I2:cS),cS.le I1 I2→I2 b1=some (Obj.cells #[vs (⟨#[61,61]⟩:Bs),vs (⟨#[33,61]⟩:Bs),vs (⟨#[60]⟩:Bs),vs (⟨#[60,61]⟩:Bs),vs (⟨#[62]⟩:Bs),vs (⟨#[62,61]⟩:Bs)] 9 (0,0))→dt P 108 (#[vp (some p),.slice (some ⟨b1,0,none⟩) 6 6]) I2 ((b,nO 0 0 0 0 0 (⟨#[]⟩:Bs) none 0 0 0)::(s,nO f g h i j k a c e l)::·) F1 vi fun r I3 F2=>(Dt (r<0) (Q (.returned (nV f g h i j k a c e l)) I3 F2) (eg P 95 (#[vp (some p)]) I3 ((b,nO 0 0 0 0 0 (⟨#[]⟩:Bs) none 0 0 0)::(s,nO f g h i j k a c e l)::·) F2 fun e3 I4 G3=>∃(ao:Int) (ap:Bs) (aq ar af:Int),e3=.returned (.agg #[.int .u8 ao,vs ap,.int .u8 aq,vi ar,vi af])∧G3 fun F3=>∃ad:Addr,some p=some ad∧∃(m:Int),Rd I4 ((b,nO 0 0 0 0 0 (⟨#[]⟩:Bs) none 0 0 0)::(s,nO f g h i j k a c e l)::F3) (ad.add 3) [vi m]∧∃t:Addr,some p=some t∧∃(cs:List Value) (el:Nat) (F4:cR),List.Perm F3 (((t.add 3).block,Obj.cells cs.toArray el (0,0))::F4)∧(t.add 3).spot=none∧(t.add 3).off+1≤cs.length∧cU P 144 (#[vp (some p),vi d]) I4 ((b,nO 0 0 0 0 0 (⟨#[]⟩:Bs) none 0 0 0)::(s,nO f g h i j k a c e l)::(((t.add 3).block,Obj.cells (cY (t.add 3).off [vi (IntKind.wrap .i64 (m+1))] cs).toArray el (0,0))::F4)) fun e4 I5 G4=>∃(u v w x y:Int) (z:Bs) (n:OA) (o q:Nat) (aa:Int),e4=.returned (nV u v w x y z n o q aa)∧∃F5:cR,List.Perm G4 ((b,nO 0 0 0 0 0 (⟨#[]⟩:Bs) none 0 0 0)::(s,nO f g h i j k a c e l)::F5)∧∀an:Nat,eg P 117 (#[.int .u8 (IntKind.wrap .u8 (11+(IntKind.wrap .u8 r))),vi af,nV f g h i j k a c e l,nV u v w x y z n o q aa]) I5 ((b,nO 0 0 0 0 0 (⟨#[]⟩:Bs) none 0 0 0)::(s,nO f g h i j k a c e l)::(an,nO u v w x y z n o q aa)::·) F5 fun e5 I6 G5=>∃(ag ah ai aj ak:Int) (al:Bs) (ab:OA) (ac ae:Nat) (am:Int),e5=.returned (nV ag ah ai aj ak al ab ac ae am)∧G5 fun F6=>Q (.returned (nV ag ah ai aj ak al ab ac ae am)) I6 F6))
theorem fD.vc{p:Addr}{d:Int}{I:cS}{F:cR}{Q:cT}  (h:fD.V (fun k o t n f s a l c q=>.agg #[.int .u8 k,.int .u8 o,.int .u8 t,.int .i64 n,.int .u8 f,.string s,.slice a l c,.int .i64 q]) (fun k o t n f s a l c q=>.cells #[.int .u8 k,.int .u8 o,.int .u8 t,.int .i64 n,.int .u8 f,.string s,.slice a l c,.int .i64 q] 64 (0,0)) (.int .i64) .string .pointer p d I F Q):cU P 129 #[.pointer (some p),.int .i64 d] I F Q :=
 tw (A:=(dy [3001] [] [95,108,117,144] kY [] [2001] [] [] [] [] [])) [95,108,117,144] func129 h
def iz.V(nV:Int→Int→Int→Int→Int→Bs→OA→Nat→Nat→Int→Value)(nO:Int→Int→Int→Int→Int→Bs→OA→Nat→Nat→Int→Obj)(vi:Int→Value)(vp:OA→Value)(p:Addr)(d:Int)(I:cS)(F:cR)(Q:cT)(Inv5:Int→Int→Int→Int→Int→Bs→OA→Nat→Nat→Int→Int→Int→Int→Int→Int→Bs→OA→Nat→Nat→Int→Nat→cS→cR→Prop):Prop:=∀b:Nat,eg P 129 (#[vp (some p),vi d]) I ((b,nO 0 0 0 0 0 (⟨#[]⟩:Bs) none 0 0 0)::·) F fun e1 I1 G1=>∃(aC aD aE aF aG:Int) (aH:Bs) (ap:OA) (aq ar:Nat) (aI:Int),e1=.returned (nV aC aD aE aF aG aH ap aq ar aI)∧G1 fun F1=>∀ac:Nat,(∃m:Nat,Inv5 0 0 0 0 0 (⟨#[]⟩:Bs) none 0 0 0 aC aD aE aF aG aH ap aq ar aI m I1 F1)∧∀(s t u v w:Int) (x:Bs) (n:OA) (o q:Nat) (y f g h i j:Int) (k:Bs) (a:OA) (c e:Nat) (l:Int) (m1:Nat) (I2:cS) (F2:cR),cS.le I1 I2→Inv5 s t u v w x n o q y f g h i j k a c e l m1 I2 F2→dt P 76 (#[vp (some p),.string (⟨#[38,38]⟩:Bs)]) I2 ((b,nO s t u v w x n o q y)::(ac,nO f g h i j k a c e l)::·) F2 .bool fun r I3 F3=>(It (!r) (Q (.returned (nV f g h i j k a c e l)) I3 F3) (eg P 95 (#[vp (some p)]) I3 ((b,nO s t u v w x n o q y)::(ac,nO f g h i j k a c e l)::·) F3 fun e3 I4 G3=>∃(aK:Int) (aL:Bs) (aM aN au:Int),e3=.returned (.agg #[.int .u8 aK,.string aL,.int .u8 aM,vi aN,vi au])∧G3 fun F4=>∃ad:Addr,some p=some ad∧∃(m2:Int),Rd I4 ((b,nO s t u v w x n o q y)::(ac,nO f g h i j k a c e l)::F4) (ad.add 3) [vi m2]∧∃ae:Addr,some p=some ae∧∃(cs:List Value) (el:Nat) (F5:cR),List.Perm F4 (((ae.add 3).block,Obj.cells cs.toArray el (0,0))::F5)∧(ae.add 3).spot=none∧(ae.add 3).off+1≤cs.length∧cU P 129 (#[vp (some p),vi d]) I4 ((b,nO s t u v w x n o q y)::(ac,nO f g h i j k a c e l)::(((ae.add 3).block,Obj.cells (cY (ae.add 3).off [vi (IntKind.wrap .i64 (m2+1))] cs).toArray el (0,0))::F5)) fun e4 I5 G4=>∃(af ag ah ai aj:Int) (ak:Bs) (z:OA) (aa ab:Nat) (al:Int),e4=.returned (nV af ag ah ai aj ak z aa ab al)∧∃F6:cR,List.Perm G4 ((b,nO s t u v w x n o q y)::(ac,nO f g h i j k a c e l)::F6)∧∀aJ:Nat,eg P 117 #[.int .u8 17,vi au,nV f g h i j k a c e l,nV af ag ah ai aj ak z aa ab al] I5 ((b,nO s t u v w x n o q y)::(ac,nO f g h i j k a c e l)::(aJ,nO af ag ah ai aj ak z aa ab al)::·) F6 fun e5 I6 G5=>∃(av aw ax ay az:Int) (aA:Bs) (am:OA) (an ao:Nat) (aB:Int),e5=.returned (nV av aw ax ay az aA am an ao aB)∧G5 fun F7=>(∃m3:Nat,m3<m1∧Inv5 s t u v w x n o q y av aw ax ay az aA am an ao aB m3 I6 F7)))
theorem iz.vc{p:Addr}{d:Int}{I:cS}{F:cR}{Q:cT}(Inv5:Int→Int→Int→Int→Int→Bs→OA→Nat→Nat→Int→Int→Int→Int→Int→Int→Bs→OA→Nat→Nat→Int→Nat→cS→cR→Prop)(h:iz.V (fun k o t n f s a l c q=>.agg #[.int .u8 k,.int .u8 o,.int .u8 t,.int .i64 n,.int .u8 f,.string s,.slice a l c,.int .i64 q]) (fun k o t n f s a l c q=>.cells #[.int .u8 k,.int .u8 o,.int .u8 t,.int .i64 n,.int .u8 f,.string s,.slice a l c,.int .i64 q] 64 (0,0)) (.int .i64) .pointer p d I F Q Inv5):cU P 116 #[.pointer (some p),.int .i64 d] I F Q :=
 tw (A:=(dy [3001] [] [76,95,117,129] kY [(5,⟨[],[(0,[(.int .u8),(.int .u8),(.int .u8),(.int .i64),(.int .u8),.str,.slc,(.int .i64)]),(1,[(.int .u8),(.int .u8),(.int .u8),(.int .i64),(.int .u8),.str,.slc,(.int .i64)])],fun _ _ _ vs m I F=>match vs with | [.int _ y0,.int _ y1,.int _ y2,.int _ y3,.int _ y4,.string y5,.slice y6 y7 y8,.int _ y9,.int _ y10,.int _ y11,.int _ y12,.int _ y13,.int _ y14,.string y15,.slice y16 y17 y18,.int _ y19]=>Inv5 y0 y1 y2 y3 y4 y5 y6 y7 y8 y9 y10 y11 y12 y13 y14 y15 y16 y17 y18 y19 m I F | _=>False,[],[]⟩)] [] [] [] [] [] [])) [76,95,117,129] func116 h
def iW.V(nV:Int→Int→Int→Int→Int→Bs→OA→Nat→Nat→Int→Value)(nO:Int→Int→Int→Int→Int→Bs→OA→Nat→Nat→Int→Obj)(vi:Int→Value)(vp:OA→Value)(p:Addr)(d:Int)(I:cS)(F:cR)(Q:cT)(Inv5:Int→Int→Int→Int→Int→Bs→OA→Nat→Nat→Int→Int→Int→Int→Int→Int→Bs→OA→Nat→Nat→Int→Nat→cS→cR→Prop):Prop:=∀b:Nat,eg P 116 (#[vp (some p),vi d]) I ((b,nO 0 0 0 0 0 (⟨#[]⟩:Bs) none 0 0 0)::·) F fun e1 I1 G1=>∃(aC aD aE aF aG:Int) (aH:Bs) (ap:OA) (aq ar:Nat) (aI:Int),e1=.returned (nV aC aD aE aF aG aH ap aq ar aI)∧G1 fun F1=>∀ac:Nat,(∃m:Nat,Inv5 0 0 0 0 0 (⟨#[]⟩:Bs) none 0 0 0 aC aD aE aF aG aH ap aq ar aI m I1 F1)∧∀(s t u v w:Int) (x:Bs) (n:OA) (o q:Nat) (y f g h i j:Int) (k:Bs) (a:OA) (c e:Nat) (l:Int) (m1:Nat) (I2:cS) (F2:cR),cS.le I1 I2→Inv5 s t u v w x n o q y f g h i j k a c e l m1 I2 F2→dt P 76 (#[vp (some p),.string (⟨#[124,124]⟩:Bs)]) I2 ((b,nO s t u v w x n o q y)::(ac,nO f g h i j k a c e l)::·) F2 .bool fun r I3 F3=>(It (!r) (Q (.returned (nV f g h i j k a c e l)) I3 F3) (eg P 95 (#[vp (some p)]) I3 ((b,nO s t u v w x n o q y)::(ac,nO f g h i j k a c e l)::·) F3 fun e3 I4 G3=>∃(aK:Int) (aL:Bs) (aM aN au:Int),e3=.returned (.agg #[.int .u8 aK,.string aL,.int .u8 aM,vi aN,vi au])∧G3 fun F4=>∃ad:Addr,some p=some ad∧∃(m2:Int),Rd I4 ((b,nO s t u v w x n o q y)::(ac,nO f g h i j k a c e l)::F4) (ad.add 3) [vi m2]∧∃ae:Addr,some p=some ae∧∃(cs:List Value) (el:Nat) (F5:cR),List.Perm F4 (((ae.add 3).block,Obj.cells cs.toArray el (0,0))::F5)∧(ae.add 3).spot=none∧(ae.add 3).off+1≤cs.length∧cU P 116 (#[vp (some p),vi d]) I4 ((b,nO s t u v w x n o q y)::(ac,nO f g h i j k a c e l)::(((ae.add 3).block,Obj.cells (cY (ae.add 3).off [vi (IntKind.wrap .i64 (m2+1))] cs).toArray el (0,0))::F5)) fun e4 I5 G4=>∃(af ag ah ai aj:Int) (ak:Bs) (z:OA) (aa ab:Nat) (al:Int),e4=.returned (nV af ag ah ai aj ak z aa ab al)∧∃F6:cR,List.Perm G4 ((b,nO s t u v w x n o q y)::(ac,nO f g h i j k a c e l)::F6)∧∀aJ:Nat,eg P 117 #[.int .u8 18,vi au,nV f g h i j k a c e l,nV af ag ah ai aj ak z aa ab al] I5 ((b,nO s t u v w x n o q y)::(ac,nO f g h i j k a c e l)::(aJ,nO af ag ah ai aj ak z aa ab al)::·) F6 fun e5 I6 G5=>∃(av aw ax ay az:Int) (aA:Bs) (am:OA) (an ao:Nat) (aB:Int),e5=.returned (nV av aw ax ay az aA am an ao aB)∧G5 fun F7=>(∃m3:Nat,m3<m1∧Inv5 s t u v w x n o q y av aw ax ay az aA am an ao aB m3 I6 F7)))
theorem iW.vc{p:Addr}{d:Int}{I:cS}{F:cR}{Q:cT}(Inv5:Int→Int→Int→Int→Int→Bs→OA→Nat→Nat→Int→Int→Int→Int→Int→Int→Bs→OA→Nat→Nat→Int→Nat→cS→cR→Prop)(h:iW.V (fun k o t n f s a l c q=>.agg #[.int .u8 k,.int .u8 o,.int .u8 t,.int .i64 n,.int .u8 f,.string s,.slice a l c,.int .i64 q]) (fun k o t n f s a l c q=>.cells #[.int .u8 k,.int .u8 o,.int .u8 t,.int .i64 n,.int .u8 f,.string s,.slice a l c,.int .i64 q] 64 (0,0)) (.int .i64) .pointer p d I F Q Inv5):cU P 93 #[.pointer (some p),.int .i64 d] I F Q :=
 tw (A:=(dy [3001] [] [76,95,116,117] kY [(5,⟨[],[(0,[(.int .u8),(.int .u8),(.int .u8),(.int .i64),(.int .u8),.str,.slc,(.int .i64)]),(1,[(.int .u8),(.int .u8),(.int .u8),(.int .i64),(.int .u8),.str,.slc,(.int .i64)])],fun _ _ _ vs m I F=>match vs with | [.int _ y0,.int _ y1,.int _ y2,.int _ y3,.int _ y4,.string y5,.slice y6 y7 y8,.int _ y9,.int _ y10,.int _ y11,.int _ y12,.int _ y13,.int _ y14,.string y15,.slice y16 y17 y18,.int _ y19]=>Inv5 y0 y1 y2 y3 y4 y5 y6 y7 y8 y9 y10 y11 y12 y13 y14 y15 y16 y17 y18 y19 m I F | _=>False,[],[]⟩)] [] [] [] [] [] [])) [76,95,116,117] func93 h
def gX.V(nV:Int→Int→Int→Int→Int→Bs→OA→Nat→Nat→Int→Value)(nO:Int→Int→Int→Int→Int→Bs→OA→Nat→Nat→Int→Obj)(vb vi:Int→Value)(vs:Bs→Value)(vp:OA→Value)(p:Addr)(d:Int)(I:cS)(F:cR)(Q:cT)  : Prop:=∀b:Nat,eg P 93 (#[vp (some p),vi d]) I ((b,nO 0 0 0 0 0 (⟨#[]⟩:Bs) none 0 0 0)::·) F fun e1 I1 G1=>∃(f g h i j:Int) (k:Bs) (a:OA) (c e:Nat) (l:Int),e1=.returned (nV f g h i j k a c e l)∧G1 fun F1=>∀s:Nat,dt P 76 (#[vp (some p),vs (⟨#[63]⟩:Bs)]) I1 ((b,nO 0 0 0 0 0 (⟨#[]⟩:Bs) none 0 0 0)::(s,nO f g h i j k a c e l)::·) F1 .bool fun r I2 F2=>(It (!r) (Q (.returned (nV f g h i j k a c e l)) I2 F2) (dt P 94 (#[vp (some p),vi d]) I2 ((b,nO 0 0 0 0 0 (⟨#[]⟩:Bs) none 0 0 0)::(s,nO f g h i j k a c e l)::·) F2 .bool fun r1 I3 F3=>(It (!r1) (Q (.returned (nV 0 0 0 0 0 (⟨#[]⟩:Bs) none 0 0 0)) I3 F3) (eg P 95 (#[vp (some p)]) I3 ((b,nO 0 0 0 0 0 (⟨#[]⟩:Bs) none 0 0 0)::(s,nO f g h i j k a c e l)::·) F3 fun e4 I4 G4=>∃(ao:Int) (ap:Bs) (aq ar ag:Int),e4=.returned (.agg #[vb ao,vs ap,vb aq,vi ar,vi ag])∧G4 fun F4=>∃ad:Addr,some p=some ad∧∃(m:Int),Rd I4 ((b,nO 0 0 0 0 0 (⟨#[]⟩:Bs) none 0 0 0)::(s,nO f g h i j k a c e l)::F4) (ad.add 3) [vi m]∧∃aa:Addr,some p=some aa∧∃(cs:List Value) (el:Nat) (F5:cR),List.Perm F4 (((aa.add 3).block,Obj.cells cs.toArray el (0,0))::F5)∧(aa.add 3).spot=none∧(aa.add 3).off+1≤cs.length∧cU P 48 (#[vp (some p),vi (IntKind.wrap .i64 (d+1))]) I4 ((b,nO 0 0 0 0 0 (⟨#[]⟩:Bs) none 0 0 0)::(s,nO f g h i j k a c e l)::(((aa.add 3).block,Obj.cells (cY (aa.add 3).off [vi (IntKind.wrap .i64 (m+1))] cs).toArray el (0,0))::F5)) fun e5 I5 G5=>∃(t u v w x:Int) (y:Bs) (n:OA) (o q:Nat) (z:Int),e5=.returned (nV t u v w x y n o q z)∧∃F6:cR,List.Perm G5 ((b,nO 0 0 0 0 0 (⟨#[]⟩:Bs) none 0 0 0)::(s,nO f g h i j k a c e l)::F6)∧∀af:Nat,dt P 74 (#[vp (some p),vs (⟨#[58]⟩:Bs)]) I5 ((b,nO 0 0 0 0 0 (⟨#[]⟩:Bs) none 0 0 0)::(s,nO f g h i j k a c e l)::(af,nO t u v w x y n o q z)::·) F6 vi fun r2 I6 F7=>eg P 48 (#[vp (some p),vi (IntKind.wrap .i64 (d+1))]) I6 ((b,nO 0 0 0 0 0 (⟨#[]⟩:Bs) none 0 0 0)::(s,nO f g h i j k a c e l)::(af,nO t u v w x y n o q z)::·) F7 fun e7 I7 G7=>∃(ah ai aj ak al:Int) (am:Bs) (ab:OA) (ac ae:Nat) (an:Int),e7=.returned (nV ah ai aj ak al am ab ac ae an)∧G7 fun F8=>∀au:Nat,∀(b1:Nat) (I8:cS),cS.le I7 I8→I8 b1=some (Obj.cells #[vb f,vb g,vb h,vi i,vb j,vs k,.slice a c e,vi l,vb t,vb u,vb v,vi w,vb x,vs y,.slice n o q,vi z,vb ah,vb ai,vb aj,vi ak,vb al,vs am,.slice ab ac ae,vi an] 64 (0,0))→Q (.returned (nV 7 0 0 0 0 (⟨#[]⟩:Bs) (some ⟨b1,0,none⟩) 3 3 ag)) I8 F8))))
theorem gX.vc{p:Addr}{d:Int}{I:cS}{F:cR}{Q:cT}  (h:gX.V (fun k o t n f s a l c q=>.agg #[.int .u8 k,.int .u8 o,.int .u8 t,.int .i64 n,.int .u8 f,.string s,.slice a l c,.int .i64 q]) (fun k o t n f s a l c q=>.cells #[.int .u8 k,.int .u8 o,.int .u8 t,.int .i64 n,.int .u8 f,.string s,.slice a l c,.int .i64 q] 64 (0,0)) (.int .u8) (.int .i64) .string .pointer p d I F Q):cU P 48 #[.pointer (some p),.int .i64 d] I F Q :=
 tw (A:=(dy [3001,6001] [] [48,74,76,93,94,95] kY [] [13003] [] [] [] [] [])) [48,74,76,93,94,95] func48 h
def oC.V(vb vi:Int→Value)(o h i j k l m:Int)(n:Bs)(a:OA)(c d:Nat)(p q r s t u:Int)(v:Bs)(e:OA)(f g:Nat)(w:Int)(I:cS)(F:cR)(Q:cT)  : Prop:=∀x:Nat,∀y:Nat,∀b:Nat,∀(b1:Nat) (I1:cS),cS.le I I1→I1 b1=some (Obj.cells #[vb i,vb j,vb k,vi l,vb m,.string n,.slice a c d,vi p,vb q,vb r,vb s,vi t,vb u,.string v,.slice e f g,vi w] 64 (0,0))→Q (.returned (.agg #[vb 6,vb o,vb 0,vi 0,vb 0,.string (⟨#[]⟩:Bs),.slice (some ⟨b1,0,none⟩) 2 2,vi h])) I1 (F)
theorem oC.vc{o g i j k l m:Int}{n:Bs}{a:OA}{b c:Nat}{p q r s t u:Int}{v:Bs}{d:OA}{e f:Nat}{w:Int}{I:cS}{F:cR}{Q:cT}  (h:oC.V (.int .u8) (.int .i64) o g i j k l m n a b c p q r s t u v d e f w I F Q):cU P 117 #[.int .u8 o,.int .i64 g,.agg #[.int .u8 i,.int .u8 j,.int .u8 k,.int .i64 l,.int .u8 m,.string n,.slice a b c,.int .i64 p],.agg #[.int .u8 q,.int .u8 r,.int .u8 s,.int .i64 t,.int .u8 u,.string v,.slice d e f,.int .i64 w]] I F Q :=
 tw (A:=(dy [] [] [] kY [] [1003] [] [] [] [] [])) [] func117 h
end Go.Lx
