import Derived.Test.YtdhcodphiofhjaaGreatDoorParseStrategiesB6
set_option linter.unusedVariables false
set_option linter.unusedSimpArgs false
set_option linter.unusedSectionVars false
set_option maxRecDepth 100000
namespace Go.Lx
open Go.Vc
def FK(rs:RK)(s:dV):RK:=(((rs.add (RK.one 2 ⟨s.ra,s.regs.length,s.rc⟩)).add (RK.sum dw.K s.regs)).add (RK.one 3 ⟨s.sa,s.slots.length,s.sc⟩)).add (RK.one 4 ⟨s.ta,s.states.length,s.tc⟩)
def yC(rs:RK)(s:dV)(i:Nat):RK:=(FK rs s).add (RK.sum cZ.K (s.states.take i))
def yD(rs:RK)(s:dV)(i:Nat)(x:cZ)(k:Nat):RK:=((yC rs s i).add (RK.one 5 ⟨x.a,x.rules.length,x.c⟩)).add (RK.sum dc.K (x.rules.take k))
def yE(rs:RK)(s:dV)(i:Nat)(x:cZ)(k:Nat)(r:dc)(j:Nat):RK:=(((yD rs s i x k).add (RK.nd r.when.rows)).add (RK.one 6 ⟨r.a,r.dos.length,r.c⟩)).add (RK.sum eJ.K (r.dos.take j))
section
variable {rs:RK} {s:dV} {N:Int} (h:iR rs N)
include h
theorem Di:iR (FK rs s) (N+1+eP dw.dI s.regs+1+1):=(((h.add (iR.one _ _)).add (iR.sum dw.cap _)).add (iR.one _ _)).add (iR.one _ _)
theorem yF(i:Nat):iR (yC rs s i) (N+1+eP dw.dI s.regs+1+1+eP cZ.dI (s.states.take i)):=(Di h).add (iR.sum cZ.cap _)
theorem yG(i:Nat)(x:cZ)(k:Nat):iR (yD rs s i x k) (N+1+eP dw.dI s.regs+1+1+eP cZ.dI (s.states.take i)+1+eP dc.dI (x.rules.take k)):=((yF h i).add (iR.one _ _)).add (iR.sum dc.cap _)
theorem Dj(i:Nat)(x:cZ)(k:Nat)(r:dc)(j:Nat):iR (yE rs s i x k r j) (N+1+eP dw.dI s.regs+1+1+eP cZ.dI (s.states.take i)+1+eP dc.dI (x.rules.take k)+r.when.px.size+1+eP eJ.dI (r.dos.take j)) :=
 (((yG h i x k).add (iR.nd _)).add (iR.one _ _)).add (iR.sum eJ.cap _)
end
theorem eJ.j2(d:eJ):d.dI=1+d.side.px.size+d.qty.px.size+d.price.px.size+d.value.px.size:=rfl
set_option maxHeartbeats 1000000 in
theorem uz(s:dV)(hL:s.p.zJ){b:Nat}{rw:Nat→Row}{rs:RK}{R F:cR}{N:Int}(hb:Bk b rw rs R F)(hc:iR rs N)(h0:0≤N)(hM:N+s.p.dI≤950000000)(I:cS)(hs:s.Ok I R) :
  cU P 14 #[.pointer (some ⟨b,0,none⟩),s.v] I F fun e I' G=>e=.returned (.tuple #[])∧∃rw',Bk b rw' (rs.add s.K) R G:=by
 have lr:=hL.regs
 have ls:=hL.slots
 have lt:=hL.states
 simp only[dV.p,List.length_map] at lr ls lt
 rw[dV.j2] at hM
 have hrn:=fX (fun x=>Int.le_trans (by decide) (dw.dN x)) s.regs
 have htn:=fX (fun x=>Int.le_trans (by decide) (cZ.dN x)) s.states
 refine fG.vc
  (fun i m I0 F0 I' F'=>0≤i∧i≤s.regs.length∧m=(s.regs.length-i).toNat∧∃rw',Bk b rw' ((rs.add (RK.one 2 ⟨s.ra,s.regs.length,s.rc⟩)).add (RK.sum dw.K (s.regs.take i.toNat))) R F')
  (fun i m I0 F0 I' F'=>0≤i∧i≤s.states.length∧m=(s.states.length-i).toNat∧∃rw',Bk b rw' (yC rs s i.toNat) R F')
  (fun i k m I0 F0 I' F'=>∃x,s.states[i.toNat]? = some x∧0≤k∧k≤x.rules.length∧m=(x.rules.length-k).toNat∧∃rw',Bk b rw' (yD rs s i.toNat x k.toNat) R F')
  (fun i k j m I0 F0 I' F'=>∃x r,s.states[i.toNat]? = some x∧x.rules[k.toNat]? = some r∧0≤j∧j≤r.dos.length∧m=(r.dos.length-j).toNat∧∃rw',Bk b rw' (yE rs s i.toNat x k.toNat r j.toNat) R F') ?_
 unfold fG.V
 intro b_s
 refine⟨_,rfl,_,_,_,hb.rd (fun y hy=>.tail _ hy) rfl,fun b1 I1 l1 e1=>?_⟩
 refine dk.mono (hb.push (k:=2) (by decide) (by decide) (r:=⟨s.ra,s.regs.length,s.rc⟩) (by kernel_rfl) (by kernel_rfl) e1 rfl (R0:=[(b_s,Obj.cells #[.string s.name,.slice s.ra s.regs.length s.rc,.slice s.sa s.slots.length s.sc,.slice s.ta s.states.length s.tc] 43 (0,0))]) (.refl _) (by have:=hc 2;omega)) fun v I2 G l2 ⟨a2,n2,c2,hv,F3,hG,hB⟩=>?_
 refine⟨_,_,_,hv,(b,Obj.cells (dq rw) 37 (0,0))::F3,hG.trans (cV fun z=>by simp only[cX,cW,c7];omega),_,rfl,(dq rw).toList,37,F3,.refl _, ?_, ?_,⟨_,by omega,by omega,rfl,uR rw 2 ⟨a2,n2,c2⟩, ?_⟩,fun i m1 I3 F4 l3 ⟨i0,i1,im,rw3,hB3⟩=>⟨fun hlt=>?_,fun hlt=>?_⟩⟩
 ·rw[dg]
 ·rw[dg];exact (by decide:2+1≤12)
 ·rw[show (0:Int).toNat=0 from rfl,List.take_zero,RK.sum_nil,RK.yB]
  exact hB _ (by rw[dg];exact .refl _)
 ·have hlt:=of_decide_eq_true hlt
  have l13:=cS.le_trans l1 (cS.le_trans l2 l3)
  obtain⟨ad,r,had,hr,hrd,hrm⟩:=kq.zB hs.regs i0 hlt
  have hm:=sk dw.dN hr
  have hma:r.dI=1+r.init.px.size:=rfl
  have hcp:=((hc.add (iR.one 2 ⟨s.ra,s.regs.length,s.rc⟩)).add (iR.sum dw.cap (s.regs.take i.toNat))) 1
  refine⟨⟨i0,hlt⟩,ad,had,_,_,_,_,_,_,_,_,_,_,Rd.part (hrd.sub l13 fun y hy=>.tail _ (hB3.mem y hy)) (xs:=[.string r.name,.int .u8 r.dU]) (ds:=r.init.enc) (ys:=[.int .i64 r.pos]) rfl rfl,
   (hB3.node r.init (hL.kM _ (List.mem_map_of_mem hrm)) (R0:=[(b_s,Obj.cells #[.string s.name,.slice s.ra s.regs.length s.rc,.slice s.sa s.slots.length s.sc,.slice s.ta s.states.length s.tc] 43 (0,0))]) (.refl _) (by omega) I3 (dO.mono (hs.kM r hrm) l13 fun _ h=>h)).mono fun e I4 G l4 ⟨he,rw4,F5,hG,hB4⟩=>⟨he,F5,hG,(s.regs.length-(i+1)).toNat,by omega, ?_⟩⟩
  rw[ew (n:=i+1) (by omega)]
  refine⟨by omega,by omega,rfl,rw4, ?_⟩
  rw[RK.add_assoc] at hB4
  rw[show (i+1).toNat=i.toNat+1 by omega,RK.qy _ hr]
  exact hB4
 have hlt:=of_decide_eq_false hlt
 rw[RK.qz _ (by omega)] at hB3
 have hc3:=(hc.add (iR.one 2 ⟨s.ra,s.regs.length,s.rc⟩)).add (iR.sum dw.cap s.regs)
 refine⟨_,rfl,_,_,_,hB3.rd (fun y hy=>.tail _ hy) rfl,fun b2 I5 l5 e5=>?_⟩
 refine dk.mono (hB3.push (k:=3) (by decide) (by decide) (r:=⟨s.sa,s.slots.length,s.sc⟩) (by kernel_rfl) (by kernel_rfl) e5 rfl (R0:=[(b_s,Obj.cells #[.string s.name,.slice s.ra s.regs.length s.rc,.slice s.sa s.slots.length s.sc,.slice s.ta s.states.length s.tc] 43 (0,0))]) (.refl _) (by have:=hc3 3;omega)) fun v I6 G l6 ⟨a3,n3,c3,hv3,F6,hG3,hB5⟩=>?_
 refine⟨_,_,_,hv3,(b,Obj.cells (dq rw3) 37 (0,0))::F6,hG3.trans (cV fun z=>by simp only[cX,cW,c7];omega),_,rfl,(dq rw3).toList,37,F6,.refl _, ?_, ?_, ?_⟩
 ·rw[dg]
 ·rw[dg];exact (by decide:3+1≤12)
 have hB6:=hB5 ((((⟨b,0,none⟩:Addr).add 3).block,Obj.cells (cY ((⟨b,0,none⟩:Addr).add 3).off [.slice a3 n3 c3] (dq rw3).toList).toArray 37 (0,0))::F6) (by rw[dg];exact .refl _)
 have hc4:=hc3.add (iR.one 3 ⟨s.sa,s.slots.length,s.sc⟩)
 refine⟨_,rfl,_,_,_,hB6.rd (fun y hy=>.tail _ hy) rfl,fun b3 I7 l7 e7=>?_⟩
 refine dk.mono (hB6.push (k:=4) (by decide) (by decide) (r:=⟨s.ta,s.states.length,s.tc⟩) (by kernel_rfl) (by kernel_rfl) e7 rfl (R0:=[(b_s,Obj.cells #[.string s.name,.slice s.ra s.regs.length s.rc,.slice s.sa s.slots.length s.sc,.slice s.ta s.states.length s.tc] 43 (0,0))]) (.refl _) (by have:=hc4 4;omega)) fun v I8 G l8 ⟨a4,n4,c4,hv4,F7,hG4,hB7⟩=>?_
 refine⟨_,_,_,hv4,(b,Obj.cells (dq (uR rw3 3 ⟨a3,n3,c3⟩)) 37 (0,0))::F7,hG4.trans (cV fun z=>by simp only[cX,cW,c7];omega),_,rfl,(dq (uR rw3 3 ⟨a3,n3,c3⟩)).toList,37,F7,.refl _, ?_, ?_,⟨_,by omega,by omega,rfl,uR (uR rw3 3 ⟨a3,n3,c3⟩) 4 ⟨a4,n4,c4⟩, ?_⟩, ?_⟩
 ·rw[dg]
 ·rw[dg];exact (by decide:4+1≤12)
 ·unfold yC
  rw[show (0:Int).toNat=0 from rfl,List.take_zero,RK.sum_nil,RK.yB]
  exact hB7 _ (by rw[dg];exact .refl _)
 have l18:=cS.le_trans (cS.le_trans l1 (cS.le_trans l2 l3)) (cS.le_trans (cS.le_trans l5 l6) (cS.le_trans l7 l8))
 intro i m4 I9 F9 l9 ⟨i0,i1,im,rw9,hB9⟩
 have l19:=cS.le_trans l18 l9
 refine⟨fun hlt=>?_,fun hlt=>⟨rfl,rw9, ?_⟩⟩
 ·have hlt:=of_decide_eq_true hlt
  obtain⟨ad,x,had,hx,hrd,hxm⟩:=kq.zB hs.states i0 hlt
  have hm:=sk cZ.dN hx
  rw[cZ.j2] at hm
  have hxn:=fX (fun x=>Int.le_trans (by decide) (dc.dN x)) x.rules
  have hxl:=(hL.state _ (List.mem_map_of_mem hxm)).1
  simp only[cZ.p,List.length_map] at hxl
  refine⟨⟨i0,hlt⟩,ad,had,_,_,_,(hrd.sub l19 fun y hy=>.tail _ (hB9.mem y hy)).field (o:=1) rfl,_,rfl,_,_,_,hB9.rd (fun y hy=>.tail _ hy) rfl,fun b4 I10 l10 e10=>?_⟩
  refine dk.mono (hB9.push (k:=5) (by decide) (by decide) (r:=⟨x.a,x.rules.length,x.c⟩) (by kernel_rfl) (by kernel_rfl) e10 rfl (R0:=[(b_s,Obj.cells #[.string s.name,.slice s.ra s.regs.length s.rc,.slice s.sa s.slots.length s.sc,.slice s.ta s.states.length s.tc] 43 (0,0))]) (.refl _) (by have:=yF (s:=s) hc i.toNat 5;omega)) fun v I11 G l11 ⟨a5,n5,c5,hv5,F11,hG5,hB11⟩=>?_
  refine⟨_,_,_,hv5,(b,Obj.cells (dq rw9) 37 (0,0))::F11,hG5.trans (cV fun z=>by simp only[cX,cW,c7];omega),_,rfl,(dq rw9).toList,37,F11,.refl _, ?_, ?_,⟨_,x,hx,by omega,by omega,rfl,uR rw9 5 ⟨a5,n5,c5⟩, ?_⟩, ?_⟩
  ·rw[dg]
  ·rw[dg];exact (by decide:5+1≤12)
  ·unfold yD
   rw[show (0:Int).toNat=0 from rfl,List.take_zero,RK.sum_nil,RK.yB]
   exact hB11 _ (by rw[dg];exact .refl _)
  intro k m6 I12 F12 l12 ⟨x',hx',k0,k1,km,rw12,hB12⟩
  obtain rfl:x=x':=by rw[hx] at hx';exact Option.some.inj hx'
  have l1c:=cS.le_trans l19 (cS.le_trans l10 (cS.le_trans l11 l12))
  have hxs:=hs.state x hxm
  refine⟨fun hlt2=>?_,fun hlt2=>⟨(s.states.length-(i+1)).toNat,by omega, ?_⟩⟩
  ·have hlt2:=of_decide_eq_true hlt2
   obtain⟨ad5,r,had5,hr,hrd5,hrm⟩:=kq.zB hxs.1 k0 hlt2
   have hm2:=sk dc.dN hr
   rw[dc.j2] at hm2
   have hrnn:=fX (fun x=>Int.le_trans (by decide) (eJ.dN x)) r.dos
   have hrL:=(hL.state _ (List.mem_map_of_mem hxm)).2 _ (List.mem_map_of_mem hrm)
   have hdl:=hrL.2.1
   simp only[dc.p,List.length_map] at hdl
   have hwp:=Px.size_pos r.when.px
   have hrs:=hxs.2 r hrm
   have hc12:=yG (s:=s) hc i.toNat x k.toNat
   refine⟨⟨k0,hlt2⟩,ad5,had5,_,_,_,_,_,_,_,_,_,_,Rd.part (hrd5.sub l1c fun y hy=>.tail _ (hB12.mem y hy)) (o:=0) (xs:=[]) (ds:=r.when.enc) (ys:=[.slice r.a r.dos.length r.c,.int .i64 r.pos]) rfl rfl,
    (hB12.node r.when hrL.1 (R0:=[(b_s,Obj.cells #[.string s.name,.slice s.ra s.regs.length s.rc,.slice s.sa s.slots.length s.sc,.slice s.ta s.states.length s.tc] 43 (0,0))]) (.refl _) (by have:=hc12 1;omega) I12 (hrs.1.mono l1c fun _ h=>h)).mono fun e I13 G l13 ⟨he,rw13,F13,hG,hB13⟩=>⟨he,F13,hG, ?_⟩⟩
   refine⟨_,rfl,⟨k0,hlt2⟩,ad5,had5,_,_,_,hB13.rd (fun y hy=>.tail _ hy) rfl,r.a,r.dos.length,r.c,(hrd5.sub (cS.le_trans l1c l13) fun y hy=>List.Mem.tail _ (hB13.mem y hy)).field (o:=8) rfl,fun b5 I14 l14 e14=>?_⟩
   have hc13:=hc12.add (iR.nd r.when)
   refine dk.mono (hB13.push (k:=6) (by decide) (by decide) (r:=⟨r.a,r.dos.length,r.c⟩) (by kernel_rfl) (by kernel_rfl) e14 rfl (R0:=[(b_s,Obj.cells #[.string s.name,.slice s.ra s.regs.length s.rc,.slice s.sa s.slots.length s.sc,.slice s.ta s.states.length s.tc] 43 (0,0))]) (.refl _) (by have:=hc13 6;omega)) fun v I15 G l15 ⟨a6,n6,c6,hv6,F15,hG6,hB15⟩=>?_
   refine⟨_,_,_,hv6,(b,Obj.cells (dq rw13) 37 (0,0))::F15,hG6.trans (cV fun z=>by simp only[cX,cW,c7];omega),_,rfl,(dq rw13).toList,37,F15,.refl _, ?_, ?_,⟨_,x,r,hx,hr,by omega,by omega,rfl,uR rw13 6 ⟨a6,n6,c6⟩, ?_⟩, ?_⟩
   ·rw[dg]
   ·rw[dg];exact (by decide:6+1≤12)
   ·unfold yE
    rw[show (0:Int).toNat=0 from rfl,List.take_zero,RK.sum_nil,RK.yB]
    exact hB15 _ (by rw[dg];exact .refl _)
   intro j m8 I16 F16 l16 ⟨x',r',hx',hr',j0,j1,jm,rw16,hB16⟩
   obtain rfl:x=x':=by rw[hx] at hx';exact Option.some.inj hx'
   obtain rfl:r=r':=by rw[hr] at hr';exact Option.some.inj hr'
   have l1g:=cS.le_trans (cS.le_trans l1c l13) (cS.le_trans l14 (cS.le_trans l15 l16))
   have hrd8:=(hrd5.sub l1g fun y hy=>(.tail (b_s,Obj.cells #[.string s.name,.slice s.ra s.regs.length s.rc,.slice s.sa s.slots.length s.sc,.slice s.ta s.states.length s.tc] 43 (0,0)) (hB16.mem y hy))).field (o:=8) (v:=.slice r.a r.dos.length r.c) rfl
   refine⟨⟨k0,hlt2⟩,ad5,had5,_,_,_,hrd8,fun hlt3=>?_,fun hlt3=>⟨(x.rules.length-(k+1)).toNat,by omega,x,hx, ?_⟩⟩
   ·have hlt3:=of_decide_eq_true hlt3
    obtain⟨ad8,d,had8,hd,hrdd,hdm⟩:=kq.zB hrs.2.1 j0 hlt3
    have hm3:=sk eJ.dN hd
    rw[eJ.j2] at hm3
    have hdL:=hrL.2.2 _ (List.mem_map_of_mem hdm)
    simp only[jw.mu,Small,jw.E5,eJ.p,List.mem_cons,List.not_mem_nil,or_false] at hdL
    have q1:=Px.size_pos d.side.px
    have q2:=Px.size_pos d.qty.px
    have q3:=Px.size_pos d.price.px
    have q4:=Px.size_pos d.value.px
    have hds:=hrs.2.2 d hdm
    have hc16:=Dj (s:=s) hc i.toNat x k.toNat r j.toNat
    refine⟨⟨k0,hlt2⟩,ad5,had5,_,_,_,hrd8,⟨j0,hlt3⟩,ad8,had8,_,_,_,_,_,_,_,_,_,_,_,_,_,_,_,_,_,_,_,_,_,_,_,_,_,_,_,_,_,_,_,_,_,_,_,_,_,_,_,_,_,_,_,_,hrdd.sub l1g fun y hy=>.tail _ (hB16.mem y hy),fun b_d=>?_⟩
    refine (hB16.node d.side (hdL _ (.inl rfl)) (R0:=[(b_s,Obj.cells #[.string s.name,.slice s.ra s.regs.length s.rc,.slice s.sa s.slots.length s.sc,.slice s.ta s.states.length s.tc] 43 (0,0)),(b_d,Obj.cells #[.int .u8 d.kind,.int .u8 d.order,.string d.name,.int .u8 d.side.kind,.int .u8 d.side.oper,.int .u8 d.side.dU,.int .i64 d.side.n,.int .u8 d.side.field,.string d.side.name,.slice d.side.a d.side.kids.length d.side.c,.int .i64 d.side.pos,.int .u8 d.qty.kind,.int .u8 d.qty.oper,.int .u8 d.qty.dU,.int .i64 d.qty.n,.int .u8 d.qty.field,.string d.qty.name,.slice d.qty.a d.qty.kids.length d.qty.c,.int .i64 d.qty.pos,.int .u8 d.price.kind,.int .u8 d.price.oper,.int .u8 d.price.dU,.int .i64 d.price.n,.int .u8 d.price.field,.string d.price.name,.slice d.price.a d.price.kids.length d.price.c,.int .i64 d.price.pos,.int .u8 d.value.kind,.int .u8 d.value.oper,.int .u8 d.value.dU,.int .i64 d.value.n,.int .u8 d.value.field,.string d.value.name,.slice d.value.a d.value.kids.length d.value.c,.int .i64 d.value.pos,.int .i64 d.pos] 114 (0,0))]) (.refl _) (by have:=hc16 1;omega) I16 (hds.1.mono l1g fun _ h=>h)).mono fun e I17 G l17 ⟨he,rw17,F17,hG,hB17⟩=>?_
    refine⟨he,F17,hG, ?_⟩
    have l1h:=cS.le_trans l1g l17
    have hc17:=hc16.add (iR.nd d.side)
    refine (hB17.node d.qty (hdL _ (.inr (.inl rfl))) (R0:=[(b_s,Obj.cells #[.string s.name,.slice s.ra s.regs.length s.rc,.slice s.sa s.slots.length s.sc,.slice s.ta s.states.length s.tc] 43 (0,0)),(b_d,Obj.cells #[.int .u8 d.kind,.int .u8 d.order,.string d.name,.int .u8 d.side.kind,.int .u8 d.side.oper,.int .u8 d.side.dU,.int .i64 d.side.n,.int .u8 d.side.field,.string d.side.name,.slice d.side.a d.side.kids.length d.side.c,.int .i64 d.side.pos,.int .u8 d.qty.kind,.int .u8 d.qty.oper,.int .u8 d.qty.dU,.int .i64 d.qty.n,.int .u8 d.qty.field,.string d.qty.name,.slice d.qty.a d.qty.kids.length d.qty.c,.int .i64 d.qty.pos,.int .u8 d.price.kind,.int .u8 d.price.oper,.int .u8 d.price.dU,.int .i64 d.price.n,.int .u8 d.price.field,.string d.price.name,.slice d.price.a d.price.kids.length d.price.c,.int .i64 d.price.pos,.int .u8 d.value.kind,.int .u8 d.value.oper,.int .u8 d.value.dU,.int .i64 d.value.n,.int .u8 d.value.field,.string d.value.name,.slice d.value.a d.value.kids.length d.value.c,.int .i64 d.value.pos,.int .i64 d.pos] 114 (0,0))]) (.refl _) (by have:=hc17 1;omega) I17 (hds.2.1.mono l1h fun _ h=>h)).mono fun e I18 G l18 ⟨he,rw18,F18,hG,hB18⟩=>?_
    refine⟨he,F18,hG, ?_⟩
    have l1i:=cS.le_trans l1h l18
    have hc18:=hc17.add (iR.nd d.qty)
    refine (hB18.node d.price (hdL _ (.inr (.inr (.inl rfl)))) (R0:=[(b_s,Obj.cells #[.string s.name,.slice s.ra s.regs.length s.rc,.slice s.sa s.slots.length s.sc,.slice s.ta s.states.length s.tc] 43 (0,0)),(b_d,Obj.cells #[.int .u8 d.kind,.int .u8 d.order,.string d.name,.int .u8 d.side.kind,.int .u8 d.side.oper,.int .u8 d.side.dU,.int .i64 d.side.n,.int .u8 d.side.field,.string d.side.name,.slice d.side.a d.side.kids.length d.side.c,.int .i64 d.side.pos,.int .u8 d.qty.kind,.int .u8 d.qty.oper,.int .u8 d.qty.dU,.int .i64 d.qty.n,.int .u8 d.qty.field,.string d.qty.name,.slice d.qty.a d.qty.kids.length d.qty.c,.int .i64 d.qty.pos,.int .u8 d.price.kind,.int .u8 d.price.oper,.int .u8 d.price.dU,.int .i64 d.price.n,.int .u8 d.price.field,.string d.price.name,.slice d.price.a d.price.kids.length d.price.c,.int .i64 d.price.pos,.int .u8 d.value.kind,.int .u8 d.value.oper,.int .u8 d.value.dU,.int .i64 d.value.n,.int .u8 d.value.field,.string d.value.name,.slice d.value.a d.value.kids.length d.value.c,.int .i64 d.value.pos,.int .i64 d.pos] 114 (0,0))]) (.refl _) (by have:=hc18 1;omega) I18 (hds.2.2.1.mono l1i fun _ h=>h)).mono fun e I19 G l19' ⟨he,rw19,F19,hG,hB19⟩=>?_
    refine⟨he,F19,hG, ?_⟩
    have l1j:=cS.le_trans l1i l19'
    have hc19:=hc18.add (iR.nd d.price)
    refine (hB19.node d.value (hdL _ (.inr (.inr (.inr rfl)))) (R0:=[(b_s,Obj.cells #[.string s.name,.slice s.ra s.regs.length s.rc,.slice s.sa s.slots.length s.sc,.slice s.ta s.states.length s.tc] 43 (0,0)),(b_d,Obj.cells #[.int .u8 d.kind,.int .u8 d.order,.string d.name,.int .u8 d.side.kind,.int .u8 d.side.oper,.int .u8 d.side.dU,.int .i64 d.side.n,.int .u8 d.side.field,.string d.side.name,.slice d.side.a d.side.kids.length d.side.c,.int .i64 d.side.pos,.int .u8 d.qty.kind,.int .u8 d.qty.oper,.int .u8 d.qty.dU,.int .i64 d.qty.n,.int .u8 d.qty.field,.string d.qty.name,.slice d.qty.a d.qty.kids.length d.qty.c,.int .i64 d.qty.pos,.int .u8 d.price.kind,.int .u8 d.price.oper,.int .u8 d.price.dU,.int .i64 d.price.n,.int .u8 d.price.field,.string d.price.name,.slice d.price.a d.price.kids.length d.price.c,.int .i64 d.price.pos,.int .u8 d.value.kind,.int .u8 d.value.oper,.int .u8 d.value.dU,.int .i64 d.value.n,.int .u8 d.value.field,.string d.value.name,.slice d.value.a d.value.kids.length d.value.c,.int .i64 d.value.pos,.int .i64 d.pos] 114 (0,0))]) (.refl _) (by have:=hc19 1;omega) I19 (hds.2.2.2.mono l1j fun _ h=>h)).mono fun e I20 G l20 ⟨he,rw20,F20,hG,hB20⟩=>?_
    refine⟨he,F20,hG,(r.dos.length-(j+1)).toNat,by omega, ?_⟩
    rw[ew (n:=j+1) (by omega)]
    refine⟨x,r,hx,hr,by omega,by omega,rfl,rw20, ?_⟩
    have e4:yE rs s i.toNat x k.toNat r (j+1).toNat=((((yE rs s i.toNat x k.toNat r j.toNat).add (RK.nd d.side.rows)).add (RK.nd d.qty.rows)).add (RK.nd d.price.rows)).add (RK.nd d.value.rows):=by
     unfold yE
     rw[show (j+1).toNat=j.toNat+1 by omega,RK.qy _ hd]
     unfold eJ.K
     simp only[RK.add_assoc]
    rw[e4];exact hB20
   ·have hlt3:=of_decide_eq_false hlt3
    rw[ew (n:=k+1) (by omega)]
    refine⟨by omega,by omega,rfl,rw16, ?_⟩
    have e3:yD rs s i.toNat x (k+1).toNat=yE rs s i.toNat x k.toNat r j.toNat:=by
     unfold yE
     rw[RK.qz _ (by omega)]
     unfold yD
     rw[show (k+1).toNat=k.toNat+1 by omega,RK.qy _ hr]
     unfold dc.K
     simp only[RK.add_assoc]
    rw[e3];exact hB16
  ·have hlt2:=of_decide_eq_false hlt2
   rw[ew (n:=i+1) (by omega)]
   refine⟨by omega,by omega,rfl,rw12, ?_⟩
   have e2:yC rs s (i+1).toNat=yD rs s i.toNat x k.toNat:=by
    unfold yD
    rw[RK.qz _ (by omega)]
    unfold yC
    rw[show (i+1).toNat=i.toNat+1 by omega,RK.qy _ hx]
    unfold cZ.K
    simp only[RK.add_assoc]
   rw[e2];exact hB12
 ·have hlt:=of_decide_eq_false hlt
  have e1:rs.add s.K=yC rs s i.toNat:=by
   unfold yC
   rw[RK.qz _ (by omega)]
   unfold FK dV.K
   simp only[RK.add_assoc]
  rw[e1];exact hB9
end Go.Lx
namespace Go.Lx
open Go.Vc
theorem sm(A:Nat→cR)(R:cR)(z:Nat×Obj):cn z (lg A R)=cn z (lg A [])+cn z R:=by
 unfold lg
 simp only[cX,c7]
 omega
theorem Bk.more{b:Nat}{rw:Nat→Row}{rs:RK}{R F G X R':cR}(h:Bk b rw rs R F)(hG:G.Perm (X++F))(hR:R'.Perm (X++R)):Bk b rw rs R' G:=by
 obtain⟨h0,A,hA,hp⟩:=h
 refine⟨h0,A,hA,hG.trans (cV fun z=>?_)⟩
 have q:=gg hp z
 have q2:=gg hR z
 simp only[cX,cW,sm A R z,sm A R' z] at q q2 ⊢
 omega
theorem Bk.less{b:Nat}{rw:Nat→Row}{rs:RK}{R F O R':cR}(h:Bk b rw rs R F)(hR:R.Perm (O++R')):∃F',F.Perm (O++F')∧Bk b rw rs R' F':=by
 obtain⟨h0,A,hA,hp⟩:=h
 refine⟨_, ?_,h0,A,hA,.refl _⟩
 refine hp.trans (cV fun z=>?_)
 have q2:=gg hR z
 simp only[cX,cW,sm A R z,sm A R' z] at q2 ⊢
 omega
end Go.Lx
namespace Go.Lx
open Go.Vc Go.Proofs.Tryz
def oc:List (Nat×List Sh):=[(0,[]),(4,[.one .bool]),(9,[.one .str]),(46,[.agg [.str,.slc,.slc,.slc],.one .any]),(51,[.agg [.str,.slc,.slc,.slc],.agg [(.int .i64),(.int .i64),.bool]]),(53,[.one (.int .i64),.one (.int .i64)])]
def fo.V(ka:Nat→Bs→OA→Nat→Nat→OA→Nat→Nat→OA→Nat→Nat→Nat×Obj)(kb:Nat→Int→Int→Bool→Nat×Obj)(vi:Int→Value)(vs:Bs→Value)(vl:OA→Nat→Nat→Value)(vt:Bool→Value)(s ai:Bs)(I:cS)(F:cR)(Q:cT)(Inv20:Bool→OA→OA→Nat→Nat→Bool→Int→Nat→cS→cR→cS→cR→Prop):Prop:=dt P 9 #[] I (·) F vt fun r I1 F1=>(It (!r) (Q (.returned (vt r)) I1 F1) (Dt ((s.size:Int)>1048576) (Q (.returned (vt r)) I1 F1) (Dt ((ai.size:Int)>1048576) (Q (.returned (vt r)) I1 F1) (∀b:Nat,∀(b1:Nat) (I2:cS),cS.le I1 I2→I2 b1=some (Obj.cells #[vs s,vs ai,vs s] 9 (0,0))→(∃m:Nat,Inv20 r (some (⟨b,0,none⟩:Addr)) (some ⟨b1,0,none⟩) 3 3 false 0 m I2 ((b,Obj.cells #[vl none 0 0,vl none 0 0,vl none 0 0,vl none 0 0,vl none 0 0,vl none 0 0,vl none 0 0,vl none 0 0,vl none 0 0,vl none 0 0,vl none 0 0,vl none 0 0] 37 (0,0))::F1) I2 ((b,Obj.cells #[vl none 0 0,vl none 0 0,vl none 0 0,vl none 0 0,vl none 0 0,vl none 0 0,vl none 0 0,vl none 0 0,vl none 0 0,vl none 0 0,vl none 0 0,vl none 0 0] 37 (0,0))::F1))∧∀(x:Bool) (i:Int) (m1:Nat) (I3:cS) (F2:cR),cS.le I2 I3→Inv20 r (some (⟨b,0,none⟩:Addr)) (some ⟨b1,0,none⟩) 3 3 x i m1 I2 ((b,Obj.cells #[vl none 0 0,vl none 0 0,vl none 0 0,vl none 0 0,vl none 0 0,vl none 0 0,vl none 0 0,vl none 0 0,vl none 0 0,vl none 0 0,vl none 0 0,vl none 0 0] 37 (0,0))::F1) I3 F2→(Dt (i<3) ((0≤i∧i<(3:Int))∧∃ad:Addr,some ⟨b1,0,none⟩=some ad∧∃(m2:Bs),Rd I3 F2 (ad.add (Int.toNat i*1)) [vs m2]∧eg P 10 #[vs m2] I3 (·) F2 fun e2 I4 G2=>∃(z:Bs) (a:OA) (c d:Nat) (e:OA) (f g:Nat) (h:OA) (j k:Nat) (r1:Value),e2=.returned (.tuple #[.agg #[vs z,vl a c d,vl e f g,vl h j k],r1])∧G2 fun F3=>∀ag:Nat,((0≤i∧i<(3:Int))∧∃ak:Addr,some ⟨b1,0,none⟩=some ak∧∃(m3:Bs),Rd I4 ((ka ag z a c d e f g h j k)::F3) (ak.add (Int.toNat i*1)) [vs m3]∧eg P 11 #[vs m3] I4 ((ka ag z a c d e f g h j k)::·) F3 fun e3 I5 G3=>∃(aa:Bs) (l:OA) (n o:Nat) (p:OA) (t u:Nat) (v:OA) (w y:Nat) (ac ae:Int) (af:Bool),e3=.returned (.tuple #[.agg #[vs aa,vl l n o,vl p t u,vl v w y],.agg #[vi ac,vi ae,vt af]])∧G3 fun F4=>∀ab:Nat,∀ah:Nat,eg P 12 #[r1] I5 ((ka ag z a c d e f g h j k)::(ka ab aa l n o p t u v w y)::(kb ah ac ae af)::·) F4 fun e4 I6 G4=>∃(r0 aj:Int),e4=.returned (.tuple #[vi r0,vi aj])∧G4 fun F5=>dt P 13 #[.agg #[vs z,vl a c d,vl e f g,vl h j k],.agg #[vs aa,vl l n o,vl p t u,vl v w y]] I6 ((ka ag z a c d e f g h j k)::(ka ab aa l n o p t u v w y)::(kb ah ac ae af)::·) F5 vt fun r2 I7 F6=>(It (!r2) (Q (.returned (vt false)) I7 F6) (It (r0 != ac) (Q (.returned (vt false)) I7 F6) (It (aj != ae) (Q (.returned (vt false)) I7 F6) (∃q:Bool,eA P .eql 45 (.tmp 79) (.const (Value.nilIface)) r1 Value.nilIface q∧(It (!(q==(r0==0))) (Q (.returned (vt false)) I7 F6) (eg P 14 (#[.pointer (some (⟨b,0,none⟩:Addr)),.agg #[vs z,vl a c d,vl e f g,vl h j k]]) I7 ((ka ag z a c d e f g h j k)::(ka ab aa l n o p t u v w y)::(kb ah ac ae af)::·) F6 fun e6 I8 G6=>e6=.returned (.tuple #[])∧G6 fun F7=>(∃m4:Nat,m4<m1∧Inv20 r (some (⟨b,0,none⟩:Addr)) (some ⟨b1,0,none⟩) 3 3 x (IntKind.wrap .i64 (i+1)) m4 I2 ((b,Obj.cells #[vl none 0 0,vl none 0 0,vl none 0 0,vl none 0 0,vl none 0 0,vl none 0 0,vl none 0 0,vl none 0 0,vl none 0 0,vl none 0 0,vl none 0 0,vl none 0 0] 37 (0,0))::F1) I8 F7))))))))) (dt P 15 (#[.pointer (some (⟨b,0,none⟩:Addr))]) I3 (·) F2 vt fun r3 I9 F8=>Q (.returned (vt r3)) I9 F8))))))
theorem fo.vc{s k:Bs}{I:cS}{F:cR}{Q:cT}(Inv20:Bool→OA→OA→Nat→Nat→Bool→Int→Nat→cS→cR→cS→cR→Prop)(h:fo.V (fun W a b c d e f g h i j=>(W,Obj.cells #[.string a,.slice b c d,.slice e f g,.slice h i j] 43 (0,0))) (fun W a b c=>(W,Obj.cells #[.int .i64 a,.int .i64 b,.bool c] 50 (0,0))) (.int .i64) .string .slice .bool s k I F Q Inv20):cU P 3 #[.string s,.string k] I F Q :=
 tw (A:=(dy [2001,2005,2010,7001,13001,13006,13012,13019] [] [9,10,11,12,13,14,15] oc [(20,⟨[(4,.bool),(8,(.int .i64))],[],fun fs I0 F0 vs m I F=>match fs,vs with | [.bool y0,.pointer y1,.slice y2 y3 y4],[.bool y5,.int _ y6]=>Inv20 y0 y1 y2 y3 y4 y5 y6 m I0 F0 I F | _,_=>False,[5,6,7],[]⟩)] [5003] [4001] [] [] [] [])) [9,10,11,12,13,14,15] func3 h
end Go.Lx
namespace Go.Lx
open Go.Vc
theorem og(s other:ByteArray)(I:cS)(hg:Gl I)(F:cR):cU P 3 #[.string s,.string other] I F fun e I' G=>e=.returned (.bool true):=by
 refine fo.vc (fun up bk la ln lc x i m I0 F0 I' F'=>0≤i∧i≤3∧m=(3-i).toNat∧∃b,bk=some ⟨b,0,none⟩∧∃rw rs H,Bk b rw rs (H++F) F'∧iR rs (i*100000003)∧iK rs H) ?_
 unfold fo.V
 refine cU.ret (yA hg F) fun I1 l1=>⟨_,rfl,F,.refl _,fun h=>absurd h (by decide),fun _=>⟨fun _=>rfl,fun hs=>⟨fun _=>rfl,fun ho=>?_⟩⟩⟩
 have hs:dj s:=by unfold dj;have:=of_decide_eq_false hs;omega
 have ho:dj other:=by unfold dj;have:=of_decide_eq_false ho;omega
 intro b b1 I2 l2 hb1
 have hSl:Sl I2 1 jS (some ⟨b1,0,none⟩) 3 [s,other,s]:=Sl.ie (f:=jS) (z:=1) (l:=[s,other,s]) (fun _=>rfl) hb1 rfl
 refine⟨⟨_,by omega,by omega,rfl,b,rfl,fun _=>AD,RK.z,[],Bk.nil (.refl _),iR.z,iK.z⟩, ?_⟩
 intro x i m I3 F2 l3 ⟨i0,i1,im,b',hb',rw0,rs,H,hB,hC,hK⟩
 obtain rfl:b=b':=by simpa using hb'
 refine⟨fun hlt=>?_,fun hlt=>?_⟩
 ·have hlt:=of_decide_eq_true hlt
  obtain⟨ad,t,had,ht,hrd⟩:=(hSl.mono l3).at (i:=i) i0 (by omega)
  have hts:dj t:=by
   have:=List.mem_of_getElem? ht
   simp only[List.mem_cons,List.not_mem_nil,or_false] at this
   rcases this with h | h | h<;>(subst h;assumption)
  refine⟨⟨i0,hlt⟩,ad,had,t,hrd _, ?_⟩
  refine (ld hts I3 F2).mono fun e I4 G l4 ⟨n,v,Hn,he,hpx,hO,hE,hG⟩=>?_
  subst he hG
  refine⟨_,_,_,_,_,_,_,_,_,_,_,rfl,Hn++F2,.refl _,fun b_n=>⟨⟨i0,hlt⟩,ad,had,t,(hrd []).sub l4 fun y hy=>(by cases hy), ?_⟩⟩
  refine (tZ t hts I4 _).mono fun e I5 G l5 ⟨y,he,hy,oky,hG⟩=>?_
  subst hG
  refine⟨_,_,_,_,_,_,_,_,_,_,_,_,_,he,Hn++F2,.refl _,fun b_want b_f=>?_⟩
  have g5:=hg.mono (cS.le_trans l1 (cS.le_trans l2 (cS.le_trans l3 (cS.le_trans l4 l5))))
  refine cU.ret (oJ g5 (Dh t) (hE.mono l5) _) fun I6 l6=>⟨_,_,rfl,Hn++F2,.refl _, ?_⟩
  have hn:n.p.dj:=by rw[hpx];exact wK hts
  refine cU.ret (wH n y hn I6 _ (hO.ok fun a ha=>by simp only[List.mem_cons,List.mem_append];simp only[ha,true_or,or_true]) (oky.mono l6 HM)) fun I7 l7=>⟨_,rfl,Hn++F2,.refl _, ?_⟩
  have hsm:n.p.same y.p=true:=by rw[hpx,hy,fT.eB]
  rw[hsm]
  refine⟨fun h=>by (cases h),fun _=>⟨fun h=>by simp[PF.w] at h,fun _=>⟨fun h=>by simp[PF.w] at h,fun _=>⟨_,hE.Ib (by kernel_rfl),fun h=>by simp[PF.w] at h,fun _=>?_⟩⟩⟩⟩
  have hin:n.p.In t.size 20000:=by rw[hpx];exact vB t
  have hmass:=hin.dI
  have hB1:Bk b rw0 rs ([(b_n,Obj.cells #[.string n.name,.slice n.ra n.regs.length n.rc,.slice n.sa n.slots.length n.sc,.slice n.ta n.states.length n.tc] 43 (0,0)),(b_want,Obj.cells #[.string y.name,.slice y.ra y.regs.length y.rc,.slice y.sa y.slots.length y.sc,.slice y.ta y.states.length y.tc] 43 (0,0)),(b_f,Obj.cells #[.int .i64 (dW t).2.e,.int .i64 (dW t).2.pos,.bool (dW t).2.tok] 50 (0,0))]++((H++Hn)++F)) ((b_n,Obj.cells #[.string n.name,.slice n.ra n.regs.length n.rc,.slice n.sa n.slots.length n.sc,.slice n.ta n.states.length n.tc] 43 (0,0))::(b_want,Obj.cells #[.string y.name,.slice y.ra y.regs.length y.rc,.slice y.sa y.slots.length y.sc,.slice y.ta y.states.length y.tc] 43 (0,0))::(b_f,Obj.cells #[.int .i64 (dW t).2.e,.int .i64 (dW t).2.pos,.bool (dW t).2.tok] 50 (0,0))::(Hn++F2)) :=
   hB.more (X:=[(b_n,Obj.cells #[.string n.name,.slice n.ra n.regs.length n.rc,.slice n.sa n.slots.length n.sc,.slice n.ta n.states.length n.tc] 43 (0,0)),(b_want,Obj.cells #[.string y.name,.slice y.ra y.regs.length y.rc,.slice y.sa y.slots.length y.sc,.slice y.ta y.states.length y.tc] 43 (0,0)),(b_f,Obj.cells #[.int .i64 (dW t).2.e,.int .i64 (dW t).2.pos,.bool (dW t).2.tok] 50 (0,0))]++Hn) (by simp) (cV fun z=>by simp only[cX,cW,c7];omega)
  refine (uz n hin.thin hB1 hC (by omega) (by omega) I7 (hO.ok fun a ha=>by simp only[List.mem_append];simp only[ha,true_or,or_true])).mono fun e I8 G l8 ⟨he,rw1,hB2⟩=>?_
  obtain⟨F3,hG,hB3⟩:=hB2.less (.refl _)
  refine⟨he,F3,hG,(3-(i+1)).toNat,by omega, ?_⟩
  rw[ew (n:=i+1) (by omega)]
  refine⟨by omega,by omega,rfl,b,rfl,rw1,_,H++Hn,hB3,(hC.add (dV.cap n)).mono (by omega),hK.add (hO.HN hin.thin)⟩
 ·have hlt:=of_decide_eq_false hlt
  refine (hB.own (.refl _) hK (fun k=>by have:=hC k;omega) I3).mono fun e I9 G l9 ⟨he,hG⟩=>?_
  exact⟨true,he,G,.refl _,rfl⟩
end Go.Lx
namespace Go.Vc
open Go.ChangeShapes Go.WideShapes Go.ChangeAt Go.RowKit
theorem lL.cell{w w':World}(h:lL w w'){a:Addr}(ha:a.block<w.heap.size):w'.cell? a=w.cell? a:=by
 unfold World.cell?;rw[h.heap _ ha]
theorem lL.same{w w':World}(h:lL w w'){p:MemPlace}(hp:p.block<w.heap.size):w.sameAt w' p:=by
 cases p with
 | cell b off=>exact h.cell (a:=⟨b,off,none⟩) hp
 | map b=>exact h.heap b hp
theorem o3{H:Type}{enc:TypeId×Value→H}{P:Program}{T:TypeId→Prop}{w w':World}(K:Kids P T)(hsz:∀{t e:TypeId},T t→P.underlying t=some (.slice e)→0<P.cellsOf e)(st:lL w w'){sp':Nat→Bool} :
  ∀{ts:List TypeId} {vs:List Value} {ds:List (DataW H)} {ps:List MemPlace},(∀t∈ts,T t)→DataW.TrodAll enc P w 0 (fun _=>true) true ts vs ds ps→(∀p∈ps,sp' p.block=true)→DataW.TrodAll enc P w' 0 sp' true ts vs ds ps
 | [],[],[],ps,_,h,_=>h
 | t::ts,v::vs,d::ds,ps,ht,⟨p,q,⟨n,h1⟩,h2,e⟩,hs=>by
   subst e
   have hlt:∀x∈p,x.block<w.heap.size:=DataW.trod_lt n t v.cells.toList (d,p) h1
   refine⟨p,q,⟨n, ?_⟩,o3 K hsz st (fun t' ht'=>ht t' (List.mem_cons_of_mem _ ht')) h2 (fun x hx=>hs x (List.mem_append_right _ hx)),rfl⟩
   exact DataW.trod_stays K hsz (fun h=>by cases h) (ht t (List.mem_cons_self ..)) h1 (fun x hx=>st.same (hlt x hx)) (fun x hx=>hs x (List.mem_append_left _ hx))
 | [],_::_,_,_,_,h,_=>h.elim
 | [],[],_::_,_,_,h,_=>h.elim
 | _::_,[],_,_,_,h,_=>h.elim
 | _::_,_::_,[],_,_,h,_=>h.elim
end Go.Vc
