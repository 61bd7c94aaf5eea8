import Derived.Test.YtcbilbkafjnenaaGreatDoorTypesNamesB6
set_option linter.unusedVariables false
set_option linter.unusedSimpArgs false
set_option linter.unusedSectionVars false
set_option maxRecDepth 100000
namespace Go.Lx
open Go.Vc Go.ChangeShapes Go.WideShapes Go.ChangeAt Go.RowKit
def i64B(x:Int):Prop:=-9223372036854775808≤x∧x≤9223372036854775807
def u8B(x:Int):Prop:=0≤x∧x≤255
def DoP.Wf(d:DoP):Prop:=(u8B d.kind∧u8B d.order∧i64B d.pos)∧d.side.Wf∧d.qty.Wf∧d.price.Wf∧d.value.Wf
def RuleP.Wf(r:RuleP):Prop:=i64B r.pos∧r.when.Wf∧∀d∈r.dos,d.Wf
def StateP.Wf(x:StateP):Prop:=i64B x.pos∧∀r∈x.rules,r.Wf
def RegP.Wf(r:RegP):Prop:=(u8B r.typ∧i64B r.pos)∧r.init.Wf
def SlotP.Wf(r:SlotP):Prop:=i64B r.pos
def StgP.Wf(s:StgP):Prop:=(∀r∈s.regs,r.Wf)∧(∀r∈s.slots,r.Wf)∧∀x∈s.states,x.Wf
section
variable {H:Type} {en:TypeId×Value→H} {W:World} {sp:Nat→Bool} {hd:Bool}
def regF:List (TypeId×Nat):=[(9,0),(31,1),(35,2),(3,10)]
theorem open_regS(n:Nat):Opens en P W sp hd (n+1) 68 RegN.enc (fun r=>r.Ok (Imm.all W) []∧r.p.Wf) (fun r=>r.p.Short):=by
 refine (Opens.struct (z:=11) (fs:=regF) (by kernel_rfl) (OpensF.cons (k:=1) (Opens.str (by kernel_rfl)) (by kernel_rfl)<|OpensF.cons (k:=1) (Opens.int (k:=.u8) (by kernel_rfl)) (by kernel_rfl) <|
  OpensF.cons (k:=8) (open_nd n) (by kernel_rfl)<|OpensF.cons (k:=1) (Opens.int (k:=.i64) (by kernel_rfl)) (by kernel_rfl) OpensF.nil)).map (fun x=>RegN.mk x.1 x.2.1 x.2.2.1 x.2.2.2.1) ?_ ?_ ?_
 ·intro ⟨a,b,c,d,u⟩ _;rfl
 ·intro ⟨a,b,c,d,u⟩ ⟨h1,h2,h3,h4,_⟩
  exact⟨h3.1,⟨wf8 h2,wf64 h4⟩,h3.2⟩
 ·intro ⟨a,b,c,d,u⟩ _ ⟨g1,g2,g3,g4,_⟩
  exact⟨g1,g3⟩
def slotF:List (TypeId×Nat):=[(9,0),(3,1)]
theorem open_slotS(n:Nat):Opens en P W sp hd (n+1) 71 SlotP.enc (fun r=>r.Wf) (fun r=>r.Short):=by
 refine (Opens.struct (z:=2) (fs:=slotF) (by kernel_rfl) (OpensF.cons (k:=1) (Opens.str (by kernel_rfl)) (by kernel_rfl)<|OpensF.cons (k:=1) (Opens.int (k:=.i64) (by kernel_rfl)) (by kernel_rfl) OpensF.nil)).map (fun x=>SlotP.mk x.1 x.2.1) ?_ ?_ ?_
 ·intro ⟨a,b,u⟩ _;rfl
 ·intro ⟨a,b,u⟩ ⟨h1,h2,_⟩;exact wf64 h2
 ·intro ⟨a,b,u⟩ _ ⟨g1,g2,_⟩;exact g1
def doF:List (TypeId×Nat):=[(92,0),(93,1),(9,2),(35,3),(35,11),(35,19),(35,27),(3,35)]
theorem open_doS(n:Nat):Opens en P W sp hd (n+1) 95 DoN.enc (fun r=>r.Ok (Imm.all W) []∧r.p.Wf) (fun r=>r.p.Short):=by
 refine (Opens.struct (z:=36) (fs:=doF) (by kernel_rfl) (OpensF.cons (k:=1) (Opens.int (k:=.u8) (by kernel_rfl)) (by kernel_rfl)<|OpensF.cons (k:=1) (Opens.int (k:=.u8) (by kernel_rfl)) (by kernel_rfl)<|OpensF.cons (k:=1) (Opens.str (by kernel_rfl)) (by kernel_rfl) <|
  OpensF.cons (k:=8) (open_nd n) (by kernel_rfl)<|OpensF.cons (k:=8) (open_nd n) (by kernel_rfl)<|OpensF.cons (k:=8) (open_nd n) (by kernel_rfl)<|OpensF.cons (k:=8) (open_nd n) (by kernel_rfl)<|OpensF.cons (k:=1) (Opens.int (k:=.i64) (by kernel_rfl)) (by kernel_rfl) OpensF.nil)).map
   (fun x=>DoN.mk x.1 x.2.1 x.2.2.1 x.2.2.2.1 x.2.2.2.2.1 x.2.2.2.2.2.1 x.2.2.2.2.2.2.1 x.2.2.2.2.2.2.2.1) ?_ ?_ ?_
 ·intro ⟨a,b,c,d,e,f,g,h,u⟩ _;rfl
 ·intro ⟨a,b,c,d,e,f,g,h,u⟩ ⟨h1,h2,h3,h4,h5,h6,h7,h8,_⟩
  exact⟨⟨h4.1,h5.1,h6.1,h7.1⟩,⟨wf8 h1,wf8 h2,wf64 h8⟩,h4.2,h5.2,h6.2,h7.2⟩
 ·intro ⟨a,b,c,d,e,f,g,h,u⟩ _ ⟨g1,g2,g3,g4,g5,g6,g7,g8,_⟩
  refine⟨g3,fun x hx=>?_⟩
  simp only[DoP.nds,DoN.p,List.mem_cons,List.not_mem_nil,or_false] at hx
  rcases hx with rfl | rfl | rfl | rfl
  ·exact g4
  ·exact g5
  ·exact g6
  ·exact g7
def ruleF:List (TypeId×Nat):=[(35,0),(85,8),(3,9)]
theorem open_dosS:∀n,Opens en P W sp hd n 85 (fun s:SlV DoN=>[.slice s.a s.n s.c]) (fun s=>SlG (Imm.all W) [] 36 DoN.enc s.a s.n s.l∧∀x∈s.l,x.Ok (Imm.all W) []∧x.p.Wf) (fun s=>s.l.length≤reachBytes∧∀x∈s.l,x.p.Short)
 | 0=>Opens.zero
 | 1=>Opens.slice (e:=95) (z:=36) (by':=320) (by kernel_rfl) (by kernel_rfl) (by decide) (by kernel_rfl) (by decide) (fun _=>rfl) Opens.zero
 | n+2=>Opens.slice (e:=95) (z:=36) (by':=320) (by kernel_rfl) (by kernel_rfl) (by decide) (by kernel_rfl) (by decide) (fun _=>rfl) (open_doS n)
theorem open_ruleS(n:Nat):Opens en P W sp hd (n+1) 87 RuleN.enc (fun r=>r.Ok (Imm.all W) []∧r.p.Wf) (fun r=>r.p.Short):=by
 refine (Opens.struct (z:=10) (fs:=ruleF) (by kernel_rfl) (OpensF.cons (k:=8) (open_nd n) (by kernel_rfl)<|OpensF.cons (k:=1) (open_dosS n) (by kernel_rfl)<|OpensF.cons (k:=1) (Opens.int (k:=.i64) (by kernel_rfl)) (by kernel_rfl) OpensF.nil)).map
  (fun x=>RuleN.mk x.1 x.2.1.a x.2.1.c x.2.1.l x.2.2.1) ?_ ?_ ?_
 ·intro ⟨a,⟨sa,sn,sc,sl⟩,c,u⟩ ⟨_,⟨h2,_⟩,_⟩
  have e:sn=sl.length:=h2.1
  subst e;rfl
 ·intro ⟨a,⟨sa,sn,sc,sl⟩,c,u⟩ ⟨h1,⟨h2,h2'⟩,h3,_⟩
  have e:sn=sl.length:=h2.1
  subst e
  refine⟨⟨h1.1,h2,fun d hd=>(h2' d hd).1⟩,wf64 h3,h1.2,fun d hd=>?_⟩
  obtain⟨d',hd',rfl⟩:=List.mem_map.1 hd
  exact (h2' d' hd').2
 ·intro ⟨a,⟨sa,sn,sc,sl⟩,c,u⟩ _ ⟨g1,⟨g2,g2'⟩,_⟩
  refine⟨g1,by simp only[RuleN.p,List.length_map];exact g2,fun d hd=>?_⟩
  obtain⟨d',hd',rfl⟩:=List.mem_map.1 hd
  exact g2' d' hd'
def stateF:List (TypeId×Nat):=[(9,0),(72,1),(3,2)]
theorem open_rulesS:∀n,Opens en P W sp hd n 72 (fun s:SlV RuleN=>[.slice s.a s.n s.c]) (fun s=>SlG (Imm.all W) [] 10 RuleN.enc s.a s.n s.l∧∀x∈s.l,x.Ok (Imm.all W) []∧x.p.Wf) (fun s=>s.l.length≤reachBytes∧∀x∈s.l,x.p.Short)
 | 0=>Opens.zero
 | 1=>Opens.slice (e:=87) (z:=10) (by':=104) (by kernel_rfl) (by kernel_rfl) (by decide) (by kernel_rfl) (by decide) (fun _=>rfl) Opens.zero
 | n+2=>Opens.slice (e:=87) (z:=10) (by':=104) (by kernel_rfl) (by kernel_rfl) (by decide) (by kernel_rfl) (by decide) (fun _=>rfl) (open_ruleS n)
theorem open_stateS(n:Nat):Opens en P W sp hd (n+1) 74 StateN.enc (fun r=>r.Ok (Imm.all W) []∧r.p.Wf) (fun r=>r.p.Short):=by
 refine (Opens.struct (z:=3) (fs:=stateF) (by kernel_rfl) (OpensF.cons (k:=1) (Opens.str (by kernel_rfl)) (by kernel_rfl)<|OpensF.cons (k:=1) (open_rulesS n) (by kernel_rfl)<|OpensF.cons (k:=1) (Opens.int (k:=.i64) (by kernel_rfl)) (by kernel_rfl) OpensF.nil)).map
  (fun x=>StateN.mk x.1 x.2.1.a x.2.1.c x.2.1.l x.2.2.1) ?_ ?_ ?_
 ·intro ⟨a,⟨sa,sn,sc,sl⟩,c,u⟩ ⟨_,⟨h2,_⟩,_⟩
  have e:sn=sl.length:=h2.1
  subst e;rfl
 ·intro ⟨a,⟨sa,sn,sc,sl⟩,c,u⟩ ⟨h1,⟨h2,h2'⟩,h3,_⟩
  have e:sn=sl.length:=h2.1
  subst e
  refine⟨⟨h2,fun d hd=>(h2' d hd).1⟩,wf64 h3,fun d hd=>?_⟩
  obtain⟨d',hd',rfl⟩:=List.mem_map.1 hd
  exact (h2' d' hd').2
 ·intro ⟨a,⟨sa,sn,sc,sl⟩,c,u⟩ _ ⟨g1,⟨g2,g2'⟩,_⟩
  refine⟨g1,by simp only[StateN.p,List.length_map];exact g2,fun d hd=>?_⟩
  obtain⟨d',hd',rfl⟩:=List.mem_map.1 hd
  exact g2' d' hd'
def stgF:List (TypeId×Nat):=[(9,0),(22,1),(23,2),(24,3)]
theorem open_regsS:∀n,Opens en P W sp hd n 22 (fun s:SlV RegN=>[.slice s.a s.n s.c]) (fun s=>SlG (Imm.all W) [] 11 RegN.enc s.a s.n s.l∧∀x∈s.l,x.Ok (Imm.all W) []∧x.p.Wf) (fun s=>s.l.length≤reachBytes∧∀x∈s.l,x.p.Short)
 | 0=>Opens.zero
 | 1=>Opens.slice (e:=68) (z:=11) (by':=104) (by kernel_rfl) (by kernel_rfl) (by decide) (by kernel_rfl) (by decide) (fun _=>rfl) Opens.zero
 | n+2=>Opens.slice (e:=68) (z:=11) (by':=104) (by kernel_rfl) (by kernel_rfl) (by decide) (by kernel_rfl) (by decide) (fun _=>rfl) (open_regS n)
theorem open_slotsS:∀n,Opens en P W sp hd n 23 (fun s:SlV SlotP=>[.slice s.a s.n s.c]) (fun s=>SlG (Imm.all W) [] 2 SlotP.enc s.a s.n s.l∧∀x∈s.l,x.Wf) (fun s=>s.l.length≤reachBytes∧∀x∈s.l,x.Short)
 | 0=>Opens.zero
 | 1=>Opens.slice (e:=71) (z:=2) (by':=24) (by kernel_rfl) (by kernel_rfl) (by decide) (by kernel_rfl) (by decide) (fun _=>rfl) Opens.zero
 | n+2=>Opens.slice (e:=71) (z:=2) (by':=24) (by kernel_rfl) (by kernel_rfl) (by decide) (by kernel_rfl) (by decide) (fun _=>rfl) (open_slotS n)
theorem open_statesS:∀n,Opens en P W sp hd n 24 (fun s:SlV StateN=>[.slice s.a s.n s.c]) (fun s=>SlG (Imm.all W) [] 3 StateN.enc s.a s.n s.l∧∀x∈s.l,x.Ok (Imm.all W) []∧x.p.Wf) (fun s=>s.l.length≤reachBytes∧∀x∈s.l,x.p.Short)
 | 0=>Opens.zero
 | 1=>Opens.slice (e:=74) (z:=3) (by':=48) (by kernel_rfl) (by kernel_rfl) (by decide) (by kernel_rfl) (by decide) (fun _=>rfl) Opens.zero
 | n+2=>Opens.slice (e:=74) (z:=3) (by':=48) (by kernel_rfl) (by kernel_rfl) (by decide) (by kernel_rfl) (by decide) (fun _=>rfl) (open_stateS n)
theorem open_stgS(n:Nat):Opens en P W sp hd (n+1) 26 StgN.enc (fun r=>r.Ok (Imm.all W) []∧r.p.Wf) (fun r=>r.p.Short):=by
 refine (Opens.struct (z:=4) (fs:=stgF) (by kernel_rfl) (OpensF.cons (k:=1) (Opens.str (by kernel_rfl)) (by kernel_rfl)<|OpensF.cons (k:=1) (open_regsS n) (by kernel_rfl)<|OpensF.cons (k:=1) (open_slotsS n) (by kernel_rfl)<|OpensF.cons (k:=1) (open_statesS n) (by kernel_rfl) OpensF.nil)).map
  (fun x=>StgN.mk x.1 x.2.1.a x.2.1.c x.2.1.l x.2.2.1.a x.2.2.1.c x.2.2.1.l x.2.2.2.1.a x.2.2.2.1.c x.2.2.2.1.l) ?_ ?_ ?_
 ·intro ⟨a,⟨ra,rn,rc,rl⟩,⟨sa,sn,sc,sl⟩,⟨ta,tn,tc,tl⟩,u⟩ ⟨_,⟨h2,_⟩,⟨h3,_⟩,⟨h4,_⟩,_⟩
  have e2:rn=rl.length:=h2.1
  have e3:sn=sl.length:=h3.1
  have e4:tn=tl.length:=h4.1
  subst e2 e3 e4;rfl
 ·intro ⟨a,⟨ra,rn,rc,rl⟩,⟨sa,sn,sc,sl⟩,⟨ta,tn,tc,tl⟩,u⟩ ⟨h1,⟨h2,h2'⟩,⟨h3,h3'⟩,⟨h4,h4'⟩,_⟩
  have e2:rn=rl.length:=h2.1
  have e3:sn=sl.length:=h3.1
  have e4:tn=tl.length:=h4.1
  subst e2 e3 e4
  refine⟨⟨h2,fun d hd=>(h2' d hd).1,h3,h4,fun d hd=>(h4' d hd).1⟩,fun d hd=>?_,h3',fun d hd=>?_⟩
  ·obtain⟨d',hd',rfl⟩:=List.mem_map.1 hd
   exact (h2' d' hd').2
  ·obtain⟨d',hd',rfl⟩:=List.mem_map.1 hd
   exact (h4' d' hd').2
 ·intro ⟨a,⟨ra,rn,rc,rl⟩,⟨sa,sn,sc,sl⟩,⟨ta,tn,tc,tl⟩,u⟩ _ ⟨g1,⟨g2,g2'⟩,⟨g3,g3'⟩,⟨g4,g4'⟩,_⟩
  refine⟨g1,by simp only[StgN.p,List.length_map];exact g2,fun d hd=>?_,g3,g3',by simp only[StgN.p,List.length_map];exact g4,fun d hd=>?_⟩
  ·obtain⟨d',hd',rfl⟩:=List.mem_map.1 hd
   exact g2' d' hd'
  ·obtain⟨d',hd',rfl⟩:=List.mem_map.1 hd
   exact g4' d' hd'
end
theorem open_stg{H:Type}{en:TypeId×Value→H}{W:World}{base:Nat}{sp:Nat→Bool}{hd:Bool}{v:Value}{d:DataW H}{ps:List MemPlace}{r:Reach}(hval:Value.okWide P W r base 26 v)(h:DataW.Trod en P W 0 sp hd 26 v d ps) :
  ∃s:StgN,v=s.v∧s.Ok (Imm.all W) []∧s.p.Wf∧((∀m∈d.weights P 26,m≤reachBytes)→s.p.Short):=by
 have hv:=agg_of (fs:=stgF) (z:=4) (by kernel_rfl) hval
 obtain⟨fuel,hf⟩:=h
 cases fuel with
 | zero=>cases hf
 | succ n =>
   obtain⟨t,e,⟨h1,h2⟩,h3⟩:=open_stgS n _ d ps hf
   exact⟨t,by rw[hv,e],h1,h2,h3⟩
end Go.Lx
namespace Go.Lx
open Go.Vc Go.ChangeShapes Go.WideShapes Go.ChangeAt Go.RowKit
def _root_.Go.Vc.SlV.v{β:Type}(s:SlV β):Value:=.slice s.a s.n s.c
end Go.Lx
