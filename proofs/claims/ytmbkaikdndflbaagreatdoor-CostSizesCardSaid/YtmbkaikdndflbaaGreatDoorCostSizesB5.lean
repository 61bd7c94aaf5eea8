import Derived.Test.YtmbkaikdndflbaaGreatDoorCostSizesB4
set_option linter.unusedVariables false
set_option linter.unusedSimpArgs false
set_option linter.unusedSectionVars false
set_option maxRecDepth 100000
namespace Go.As
open Go.RowKit Go.Extern.Stop Go.Stop Go.Extern
theorem EE(z:Sem Value)(f:TypeId→Addr→Nat→Nat→Sem Value)(v:Value) :
  ReflectliteValue.method z f #[v]=(do match ←ReflectliteValue.parts v with | none=>z | some (t,a,fl)=>f t a fl (fl % 32)):=rfl
theorem EJ(v x:Value):ReflectliteValue.set #[v,x]=(do
  let (some (dst,a,fl),some (src,b,_)):=(←ReflectliteValue.parts v,←ReflectliteValue.parts x)
   | unsupported (.noEntry "extern/(internal/reflectlite.Value).Set.zeroValue")
  if fl / ReflectliteValue.flagAddr % 2==0 then unsupported (.noEntry "extern/(internal/reflectlite.Value).Set.unaddressable")
  let val ←loadVar src b
  if ←Rtype.directlyAssignable dst src then storeVar dst a val
  else if ←Rtype.implements dst src then
   if (←Rtype.kind src)==20 then
    match val with
    | .nilIface=>unsupported (.noEntry "extern/reflectlite: a nil value of one interface type handed on as a value of another")
    | _=>storeVar dst a val
   else storeVar dst a (.iface src val)
  else panicString ("reflectlite.Set: value of type " ++ (←Rtype.spelt src) ++ " is not assignable to type " ++ (←Rtype.spelt dst))
  pure (.tuple #[])):=rfl
theorem xP(h:Value)(w:World):(Go.method 359 171 (.agg #[h]) "Kind").run Go.Proofs.Tryz.prog w=.ok (189,h) w:=by kernel_rfl
theorem xQ(h:Value)(w:World):(Go.method 359 171 (.agg #[h]) "Elem").run Go.Proofs.Tryz.prog w=.ok (201,.agg #[h]) w:=by kernel_rfl
theorem oY(h:Value)(w:World):(Go.method 359 171 (.agg #[h]) "Implements").run Go.Proofs.Tryz.prog w=.ok (202,.agg #[h]) w:=by kernel_rfl
theorem iU(h:Value)(w:World):(Go.method 359 171 (.agg #[h]) "AssignableTo").run Go.Proofs.Tryz.prog w=.ok (199,.agg #[h]) w:=by kernel_rfl
theorem Bj(t:Addr)(w:World):(ReflectliteValue.unpack (.iface 91 (.pointer (some t)))).run Go.Proofs.Tryz.prog w=.ok (.agg #[.pointer (some ⟨1,91,none⟩),.pointer (some ⟨w.heap.size,0,none⟩),.int .u64 150]) (w.alloc (.cells #[.pointer (some t)] 91)):=by kernel_rfl
theorem DT(a:Addr)(w:World):(ReflectliteValue.methodAny (ReflectliteValue.valueError "reflectlite.Value.Type" 0) (fun t _ _ _=>ReflectliteType.toType t) #[(.agg #[.pointer (some ⟨1,91,none⟩),.pointer (some a),.int .u64 150])]).run Go.Proofs.Tryz.prog w=.ok (.iface 171 (.agg #[.pointer (some ⟨1,91,none⟩)])) w:=by kernel_rfl
theorem Db(w:World):((ReflectliteType.abiMethod fun t=>(fun a:Nat=>Value.int IntKind.u8 (a:Int)) <$> Rtype.kind t) #[.pointer (some ⟨1,91,none⟩)]).run Go.Proofs.Tryz.prog w=.ok (.int .u8 22) w:=by kernel_rfl
theorem DU(w:World):((ReflectliteType.abiMethod fun t=>(fun a:Nat=>Value.int IntKind.u8 (a:Int)) <$> Rtype.kind t) #[.pointer (some ⟨1,89,none⟩)]).run Go.Proofs.Tryz.prog w=.ok (.int .u8 22) w:=by kernel_rfl
theorem yG(a:Addr)(w:World):(ReflectliteValue.parts (.agg #[.pointer (some ⟨1,91,none⟩),.pointer (some a),.int .u64 150])).run Go.Proofs.Tryz.prog w=.ok (some (91,a,150)) w:=by kernel_rfl
theorem yH:Go.Proofs.Tryz.prog.underlying 91=some (.pointer 89):=by kernel_rfl
theorem Dc(a p:Addr)(W:World)(ha:W.cell? a=some (.pointer (some p))) :
  (ReflectliteValue.method (ReflectliteValue.valueError "reflectlite.Value.IsNil" 0) ReflectliteValue.isNil #[(.agg #[.pointer (some ⟨1,91,none⟩),.pointer (some a),.int .u64 150])]).run Go.Proofs.Tryz.prog W=.ok (.bool false) W:=by
 rw[EE]
 simp only[Sem.run_bind,yG,Result.andThen]
 simp[ReflectliteValue.isNil,loadVar,isAgg,underlying,yH,ha,Result.andThen]
theorem DV(w:World):(ReflectliteType.method ReflectliteType.elem #[.agg #[.pointer (some ⟨1,91,none⟩)]]).run Go.Proofs.Tryz.prog w=.ok (.iface 171 (.agg #[.pointer (some ⟨1,89,none⟩)])) w:=by kernel_rfl
theorem DW(w:World):(ReflectliteType.relation "Implements" ReflectliteType.implements_ #[.agg #[.pointer (some ⟨1,89,none⟩)],.iface 171 (.agg #[.pointer (some ⟨1,44,none⟩)])]).run Go.Proofs.Tryz.prog w=.ok (.bool true) w:=by kernel_rfl
theorem B7(v:Value)(w:World):(ReflectliteType.typeOf #[.iface 89 v]).run Go.Proofs.Tryz.prog w=.ok (.iface 171 (.agg #[.pointer (some ⟨1,89,none⟩)])) w:=by kernel_rfl
theorem B8(w:World):(Rtype.elem? 91).run Go.Proofs.Tryz.prog w=.ok (some 89) w:=by kernel_rfl
theorem EK(p:Addr)(w:World):(ReflectliteValue.mk 89 p ReflectliteValue.flagAddr).run Go.Proofs.Tryz.prog w=.ok (.agg #[.pointer (some ⟨1,89,none⟩),.pointer (some p),.int .u64 406]) w:=by kernel_rfl
theorem Dd(a p:Addr)(W:World)(ha:W.cell? a=some (.pointer (some p))) :
  (ReflectliteValue.method (ReflectliteValue.valueError "reflectlite.Value.Elem" 0) ReflectliteValue.elem #[(.agg #[.pointer (some ⟨1,91,none⟩),.pointer (some a),.int .u64 150])]).run Go.Proofs.Tryz.prog W=.ok (.agg #[.pointer (some ⟨1,89,none⟩),.pointer (some p),.int .u64 406]) W:=by
 rw[EE]
 simp only[Sem.run_bind,yG,Result.andThen]
 simp[ReflectliteValue.elem,loadVar,isAgg,underlying,yH,ha,Result.andThen,B8,EK]
theorem B9(a:Addr)(w:World):(ReflectliteValue.parts (.agg #[.pointer (some ⟨1,89,none⟩),.pointer (some a),.int .u64 406])).run Go.Proofs.Tryz.prog w=.ok (some (89,a,406)) w:=by kernel_rfl
theorem De(a:Addr)(w:World):(ReflectliteValue.parts (.agg #[.pointer (some ⟨1,89,none⟩),.pointer (some a),.int .u64 150])).run Go.Proofs.Tryz.prog w=.ok (some (89,a,150)) w:=by kernel_rfl
theorem Ca(w:World):(Rtype.directlyAssignable 89 89).run Go.Proofs.Tryz.prog w=.ok true w:=by kernel_rfl
theorem Dg:Go.Proofs.Tryz.prog.underlying 89=some (.pointer 93):=by kernel_rfl
theorem Dh(x:Addr)(w:World):(ReflectliteValue.unpack (.iface 89 (.pointer (some x)))).run Go.Proofs.Tryz.prog w=.ok (.agg #[.pointer (some ⟨1,89,none⟩),.pointer (some ⟨w.heap.size,0,none⟩),.int .u64 150]) (w.alloc (.cells #[.pointer (some x)] 89)):=by kernel_rfl
theorem En(ta b:Addr)(x:Addr)(old:Value)(W:World)(hb:W.cell? b=some (.pointer (some x)))(ht:W.cell? ta=some old)(hf:W.frozen? ta=false) :
  (ReflectliteValue.set #[(.agg #[.pointer (some ⟨1,89,none⟩),.pointer (some ta),.int .u64 406]),(.agg #[.pointer (some ⟨1,89,none⟩),.pointer (some b),.int .u64 150])]).run Go.Proofs.Tryz.prog W=.ok (.tuple #[]) (W.setCell ta (.pointer (some x))):=by
 rw[EJ]
 simp only[Sem.run_bind,B9,De,Result.andThen]
 simp[ReflectliteValue.flagAddr,loadVar,isAgg,underlying,Dg,hb,Result.andThen,Ca,storeVar,Value.cells,storeCells,Addr.add]
 rw[run_store Go.Proofs.Tryz.prog W ta _ _ (by rfl)]
 simp[ht,hf]
theorem Cb(v:Value)(w:World):(ReflectliteType.typeOf #[.iface 47 v]).run Go.Proofs.Tryz.prog w=.ok (.iface 171 (.agg #[.pointer (some ⟨1,47,none⟩)])) w:=by kernel_rfl
theorem Bk(w:World):(ReflectliteType.relation "AssignableTo" ReflectliteType.assignableTo #[.agg #[.pointer (some ⟨1,89,none⟩)],.iface 171 (.agg #[.pointer (some ⟨1,89,none⟩)])]).run Go.Proofs.Tryz.prog w=.ok (.bool true) w:=by kernel_rfl
theorem Bl(w:World):(ReflectliteType.relation "AssignableTo" ReflectliteType.assignableTo #[.agg #[.pointer (some ⟨1,47,none⟩)],.iface 171 (.agg #[.pointer (some ⟨1,89,none⟩)])]).run Go.Proofs.Tryz.prog w=.ok (.bool false) w:=by kernel_rfl
theorem DX(v:Value)(xT:TypeId)(w:World):(Instr.typeAssert (.iface 47 v) xT 176 true).run Go.Proofs.Tryz.prog w=.ok (.tuple #[.nilIface,.bool false]) w:=run_typeAssert_lacksB Go.Proofs.Tryz.underlying176 (by kernel_rfl) (by kernel_rfl) v xT w
theorem DY(v:Value)(xT:TypeId)(w:World):(Instr.typeAssert (.iface 47 v) xT 179 true).run Go.Proofs.Tryz.prog w=.ok (.tuple #[.nilIface,.bool false]) w:=run_typeAssert_lacksB Go.Proofs.Tryz.underlying179 (by kernel_rfl) (by kernel_rfl) v xT w
theorem DZ(v:Value)(xT:TypeId)(w:World):(Instr.typeAssert (.iface 47 v) xT 181 true).run Go.Proofs.Tryz.prog w=.ok (.tuple #[.nilIface,.bool false]) w:=run_typeAssert_lacksB Go.Proofs.Tryz.underlying181 (by kernel_rfl) (by kernel_rfl) v xT w
abbrev Eo:Value:=.iface 171 (.agg #[.pointer (some ⟨1,89,none⟩)])
abbrev Di(PT:Nat)(a:Addr):Obj:=.cells #[.pointer (some ⟨1,PT,none⟩),.pointer (some a),.int .u64 150] 120
set_option maxHeartbeats 4000000 in
theorem D0(e t a:Addr)(old tgt:Value)(w:World)(ha:w.cell? a=some (.pointer (some t)))(ht0:w.cell? t=some old)(hf0:w.frozen? t=false) :
  Calls Go.Proofs.Tryz.prog 72 #[.iface 89 (.pointer (some e)),tgt,.agg #[.pointer (some ⟨1,91,none⟩),.pointer (some a),.int .u64 150],Eo] w fun ev w'=>ev=.returned (.bool true) ∧
   w'=((w.alloc (Di 91 a)).alloc (.cells #[.pointer (some e)] 89)).setCell t (.pointer (some e)):=by
 have hTO:=@run_callFunc_extern Go.Proofs.Tryz.prog 110 _ ReflectliteType.typeOf Go.Proofs.Tryz.func110 (by kernel_rfl) (by kernel_rfl) (by kernel_rfl) (by kernel_rfl)
 have hA:=@run_callFunc_extern Go.Proofs.Tryz.prog 199 _ (ReflectliteType.relation "AssignableTo" ReflectliteType.assignableTo) Go.Proofs.Tryz.func199 (by kernel_rfl) (by kernel_rfl) (by kernel_rfl) (by kernel_rfl)
 have hVE:=@run_callFunc_extern Go.Proofs.Tryz.prog 111 _ (ReflectliteValue.method (ReflectliteValue.valueError "reflectlite.Value.Elem" 0) ReflectliteValue.elem) Go.Proofs.Tryz.func111 (by kernel_rfl) (by kernel_rfl) (by kernel_rfl) (by kernel_rfl)
 have hS:=@run_callFunc_extern Go.Proofs.Tryz.prog 112 _ ReflectliteValue.set Go.Proofs.Tryz.func112 (by kernel_rfl) (by kernel_rfl) (by kernel_rfl) (by kernel_rfl)
 have hV:=@run_callFunc_extern Go.Proofs.Tryz.prog 69 _ (fun args=>ReflectliteValue.unpack (args.getD 0 (.tuple #[]))) Go.Proofs.Tryz.func69 (by kernel_rfl) (by kernel_rfl) (by kernel_rfl) (by kernel_rfl)
 have tO:=B7
 have mA:=iU
 have aF:=Bk
 have vF:=Dh
 have hal:a.block<w.heap.size:=by
  rcases Nat.lt_or_ge a.block w.heap.size with h | h
  ·exact h
  ·simp[World.cell?,Array.getElem?_eq_none h] at ha
 have htl:t.block<w.heap.size:=by
  rcases Nat.lt_or_ge t.block w.heap.size with h | h
  ·exact h
  ·simp[World.cell?,Array.getElem?_eq_none h] at ht0
 have el:=Dd a t (w.alloc (Di 91 a)) (by rw[World.cell?_alloc_lt _ _ a hal];exact ha)
 have st:=En t ⟨w.heap.size+1,0,none⟩ e old ((w.alloc (Di 91 a)).alloc (.cells #[.pointer (some e)] 89))
  (by rw[World.cell?_alloc_at _ _ _ _ (by simp)];rfl)
  (by rw[World.cell?_alloc_lt _ _ t (by simp;omega),World.cell?_alloc_lt _ _ t htl];exact ht0)
  (by rw[World.frozen?_alloc_old _ _ t (by simp;omega),World.frozen?_alloc_old _ _ t (Nat.ne_of_lt htl)];exact hf0)
 go_enter Go.Proofs.Tryz.func72,Go.Proofs.Tryz.ntmps72
 go_wp2
 refine wp_loop_rounds 1 ?_
 rw[rounds_succ]
 go_wp2
 go_ret
 exact⟨rfl,rfl⟩
set_option maxHeartbeats 4000000 in
theorem D1(n:Int)(a:Addr)(tgt:Value)(w:World) :
  Calls Go.Proofs.Tryz.prog 72 #[.iface 47 (.int .i64 n),tgt,.agg #[.pointer (some ⟨1,91,none⟩),.pointer (some a),.int .u64 150],Eo] w fun ev w'=>ev=.returned (.bool false) ∧
   w'=w.alloc (Di 91 a):=by
 have hTO:=@run_callFunc_extern Go.Proofs.Tryz.prog 110 _ ReflectliteType.typeOf Go.Proofs.Tryz.func110 (by kernel_rfl) (by kernel_rfl) (by kernel_rfl) (by kernel_rfl)
 have hA:=@run_callFunc_extern Go.Proofs.Tryz.prog 199 _ (ReflectliteType.relation "AssignableTo" ReflectliteType.assignableTo) Go.Proofs.Tryz.func199 (by kernel_rfl) (by kernel_rfl) (by kernel_rfl) (by kernel_rfl)
 have tO:=Cb
 have mA:=iU
 have aF:=Bl
 have t1:=DX
 have t2:=DY
 have t3:=DZ
 go_enter Go.Proofs.Tryz.func72,Go.Proofs.Tryz.ntmps72
 go_wp2
 refine wp_loop_rounds 1 ?_
 rw[rounds_succ]
 go_wp2
 go_ret
 exact⟨rfl,rfl⟩
abbrev Bm:Value:=.iface 171 (.agg #[.pointer (some ⟨1,44,none⟩)])
set_option maxHeartbeats 4000000 in
theorem D2(d:TypeId)(v:Value)(t:Addr)(w w2:World)(r:Bool)(hg:w.cell? ⟨0,0,none⟩=some Bm)
  (h:Calls Go.Proofs.Tryz.prog 72 #[.iface d v,.iface 91 (.pointer (some t)),.agg #[.pointer (some ⟨1,91,none⟩),.pointer (some ⟨w.heap.size,0,none⟩),.int .u64 150],Eo] ((w.alloc (.cells #[.pointer (some t)] 91)).alloc (Di 91 ⟨w.heap.size,0,none⟩)) fun ev w'=>ev=.returned (.bool r)∧w'=w2) :
  Calls Go.Proofs.Tryz.prog 44 #[.iface d v,.iface 91 (.pointer (some t))] w fun ev w'=>ev=.returned (.bool r)∧w'=w2:=by
 have hV:=@run_callFunc_extern Go.Proofs.Tryz.prog 69 _ (fun args=>ReflectliteValue.unpack (args.getD 0 (.tuple #[]))) Go.Proofs.Tryz.func69 (by kernel_rfl) (by kernel_rfl) (by kernel_rfl) (by kernel_rfl)
 have hT:=@run_callFunc_extern Go.Proofs.Tryz.prog 70 _ (ReflectliteValue.methodAny (ReflectliteValue.valueError "reflectlite.Value.Type" 0) (fun t _ _ _=>ReflectliteType.toType t)) Go.Proofs.Tryz.func70 (by kernel_rfl) (by kernel_rfl) (by kernel_rfl) (by kernel_rfl)
 have hN:=@run_callFunc_extern Go.Proofs.Tryz.prog 71 _ (ReflectliteValue.method (ReflectliteValue.valueError "reflectlite.Value.IsNil" 0) ReflectliteValue.isNil) Go.Proofs.Tryz.func71 (by kernel_rfl) (by kernel_rfl) (by kernel_rfl) (by kernel_rfl)
 have hK:=@run_callFunc_extern Go.Proofs.Tryz.prog 189 _ (ReflectliteType.abiMethod fun t=>do pure (.int .u8 (←Rtype.kind t))) Go.Proofs.Tryz.func189 (by kernel_rfl) (by kernel_rfl) (by kernel_rfl) (by kernel_rfl)
 have hE:=@run_callFunc_extern Go.Proofs.Tryz.prog 201 _ (ReflectliteType.method ReflectliteType.elem) Go.Proofs.Tryz.func201 (by kernel_rfl) (by kernel_rfl) (by kernel_rfl) (by kernel_rfl)
 have hI:=@run_callFunc_extern Go.Proofs.Tryz.prog 202 _ (ReflectliteType.relation "Implements" ReflectliteType.implements_) Go.Proofs.Tryz.func202 (by kernel_rfl) (by kernel_rfl) (by kernel_rfl) (by kernel_rfl)
 have f6:=Bj
 have f7:=DT
 have mK:=xP
 have mE:=xQ
 have mI:=oY
 have kP:=Db
 have kT:=DU
 have eT:=DV
 have iT:=DW
 have n8:=Dc ⟨w.heap.size,0,none⟩ t ((w.alloc (.cells #[.pointer (some t)] 91)).alloc (Di 91 ⟨w.heap.size,0,none⟩)) (by simp)
 have hlt:0<w.heap.size:=by
  rcases Nat.eq_zero_or_pos w.heap.size with h0 | h
  ·simp[World.cell?,h0] at hg
  ·exact h
 have hg2:((w.alloc (.cells #[.pointer (some t)] 91)).alloc (Di 91 ⟨w.heap.size,0,none⟩)).cell? ⟨0,0,none⟩=some Bm:=by
  rw[World.cell?_alloc_lt _ _ ⟨0,0,none⟩ (by simp),World.cell?_alloc_lt _ _ ⟨0,0,none⟩ hlt];exact hg
 go_enter Go.Proofs.Tryz.func44,Go.Proofs.Tryz.ntmps44
 go_wp2_with (first | (go_at_call 72;refine h.mono ?_;rintro e w' ⟨rfl,rfl⟩))
 go_ret
 exact⟨rfl,rfl⟩
open Go.Vc (Sat)
end Go.As
namespace Go.Lx
open Go.Vc
def Gl(I:b8):Prop:=∃cs ty fz,I 0=some (.cells cs ty fz)∧cs[0]? = some Go.As.Bm
theorem Gl.mono{I J:b8}(h:Gl I)(hl:b8.le I J):Gl J:=let ⟨cs,ty,fz,h1,h2⟩:=h;⟨cs,ty,fz,hl.at h1,h2⟩
theorem Gl.cell{I:b8}{F:bZ}{w:World}(h:Gl I)(hw:Sat I F w):w.cell? ⟨0,0,none⟩=some Go.As.Bm:=by
 obtain⟨cs,ty,fz,h1,h2⟩:=h
 have:=hw.imm _ _ h1
 unfold World.cell?
 simp[this,h2]
theorem Gl.Cc{w:World}(h:w.cell? ⟨0,0,none⟩=some Go.As.Bm):Gl (b8.all w):=by
 unfold World.cell? at h
 split at h
 ·rename_i c ty fz hc
  exact⟨c,ty,fz,hc,by simpa using h⟩
 ·cases h
theorem nF{I:b8}{F:bZ}{w:World}{t ty:Nat}{old:Value}(hw:Sat I ((t,.cells #[old] ty (0,0))::F) w):w.cell? ⟨t,0,none⟩=some old∧w.frozen? ⟨t,0,none⟩=false:=by
 have:=hw.own _ _ (.head _)
 unfold World.cell? World.frozen?
 simp[this]
theorem Bn{w:World}{o o':Obj}{a:Addr}{v:Value}(h:w.cell? a=some v):((w.alloc o).alloc o').cell? a=some v:=by
 have hl:a.block<w.heap.size:=by
  rcases Nat.lt_or_ge a.block w.heap.size with h1 | h1
  ·exact h1
  ·simp[World.cell?,Array.getElem?_eq_none h1] at h
 rw[World.cell?_alloc_lt _ _ _ (by simp;omega),World.cell?_alloc_lt _ _ _ hl];exact h
theorem zW{w:World}{o o':Obj}{a:Addr}{v:Value}(h:w.cell? a=some v)(hf:w.frozen? a=false):((w.alloc o).alloc o').frozen? a=false:=by
 have hl:a.block<w.heap.size:=by
  rcases Nat.lt_or_ge a.block w.heap.size with h1 | h1
  ·exact h1
  ·simp[World.cell?,Array.getElem?_eq_none h1] at h
 rw[World.frozen?_alloc_old _ _ _ (by simp;omega),World.frozen?_alloc_old _ _ _ (Nat.ne_of_lt hl)];exact hf
end Go.Lx
namespace Go.Vc
theorem Sat.ny{I:b8}{F:bZ}{w:World}(h:Sat I F w)(o:Obj):Sat I F (w.alloc o):=(h.alloc o).drop (A:=[_])
theorem Sat.Ep{I:b8}{F:bZ}{w:World}{t ty:Nat}{old v:Value}(h:Sat I ((t,.cells #[old] ty (0,0))::F) w):Sat I ((t,.cells #[v] ty (0,0))::F) (w.setCell ⟨t,0,none⟩ v) :=
 Sat.set h (nE (cs:=[old]) (h.own _ _ (.head _)) 0 v) ⟨rfl,rfl⟩
end Go.Vc
namespace Go.Lx
open Go.Vc
def EF(r:Bool)(G:bZ)(e:Ending)(I:b8)(F:bZ):Prop:=e=.returned (.bool r)∧F=G
section
variable {I:b8} {F:bZ} {t ty:Nat} {old:Value}
theorem Cd(hg:Gl I)(b:Nat):cd P 44 #[.iface 89 (.pointer (some ⟨b,0,none⟩)),.iface 91 (.pointer (some ⟨t,0,none⟩))] I ((t,.cells #[old] ty (0,0))::F) (EF true ((t,.cells #[.pointer (some ⟨b,0,none⟩)] ty (0,0))::F)):=fun w hw=>by
 obtain⟨hc,hf⟩:=nF hw
 refine (Go.As.D2 _ _ _ w _ true (hg.cell hw) (Go.As.D0 ⟨b,0,none⟩ ⟨t,0,none⟩ ⟨w.heap.size,0,none⟩ old _ _ (by simp) (Bn hc) (zW hc hf))).mono fun e w' ⟨he,hw'⟩=>⟨I,_,b8.le_refl I, ?_,he,rfl⟩
 rw[hw']
 exact Sat.Ep ((((hw.ny _).ny _).ny _).ny _)
theorem Dj(hg:Gl I)(n:Int):cd P 44 #[pI n,.iface 91 (.pointer (some ⟨t,0,none⟩))] I F (EF false F):=fun w hw=>by
 refine (Go.As.D2 _ _ _ w _ false (hg.cell hw) (Go.As.D1 n ⟨w.heap.size,0,none⟩ _ _)).mono fun e w' ⟨he,hw'⟩=>⟨I,_,b8.le_refl I, ?_,he,rfl⟩
 rw[hw']
 exact ((hw.ny _).ny _).ny _
end
def fS(I:b8)(f:TF)(v:Value):Prop :=
 (f.e=0→v=.nilIface)∧(f.e≠0→if f.of then ∃u,B4 I uc f.pos (pI f.e) u∧B4 I te f.pos u v else B4 I te f.pos (pI f.e) v)
theorem fS.mono{I J:b8}{f:TF}{w:Value}(h:fS I f w)(hl:b8.le I J):fS J f w:=⟨h.1,fun he=>by
 have:=h.2 he
 split at this
 ·rename_i hof;rw[if_pos hof];obtain⟨u,h1,h2⟩:=this;exact⟨u,h1.mono hl,h2.mono hl⟩
 ·rename_i hof;rw[if_neg hof];exact this.mono hl⟩
theorem fS.ok{I:b8}:fS I rC .nilIface:=⟨fun _=>rfl,fun h=>absurd rfl h⟩
theorem fS.neq{I:b8}{f:TF}{w:Value}(h:fS I f w){t:TypeId}(ht:nw P t=true){x:Operand}:cP P .neq t x (.const .nilIface) w .nilIface (f.e != 0):=by
 by_cases he:f.e=0
 ·rw[h.1 he,he];exact ub ht
 ·have h2:=h.2 he
  rw[show (f.e != 0)=true by simpa using he]
  split at h2
  ·obtain⟨u,_,b,hw,_⟩:=h2;rw[hw];exact rH ht
  ·obtain⟨b,hw,_⟩:=h2;rw[hw];exact rH ht
theorem eS{I:b8}(hg:Gl I)(pos n:Int)(hn:n≠0)(F:bZ):cd P 65 #[.int .i64 pos,pI n] I F (ja (fun v J=>fS J ⟨n,pos,false⟩ v) F):=by
 refine cd.still (eC.vc ?_)
 unfold eC.V
 intro b_below
 refine (Dj hg n).mono fun e I1 G l1 ⟨he,hG⟩=>?_
 subst hG
 refine⟨false,he,_,.refl _,fun h=>(by cases h),fun _ b1=>⟨_,[_,_],rfl,.refl _,fun J hJ hx=>⟨fun h=>absurd h hn,fun _=>?_⟩⟩⟩
 rw[if_neg (by simp)]
 exact⟨b1,rfl,hx _ (.head _)⟩
theorem xR{I:b8}(hg:Gl I)(pos0 pos n:Int)(hn:n≠0){u:Value}(hu:B4 I uc pos (pI n) u)(F:bZ):cd P 65 #[.int .i64 pos0,u] I F (ja (fun v J=>fS J ⟨n,pos,true⟩ v) F):=by
 obtain⟨b,rfl,hb⟩:=hu
 refine cd.still (eC.vc ?_)
 unfold eC.V
 intro b_below
 refine (Cd hg b).mono fun e I1 G l1 ⟨he,hG⟩=>?_
 subst hG
 refine⟨true,he,_,.refl _,fun _=>⟨some ⟨b,0,none⟩,Rd.tK (.head _) 0 (fun j hj=>?_),⟨b,0,none⟩,rfl,pos, ?_,fun b1=>⟨_,[_,_],rfl,.refl _,fun J hJ hx=>⟨fun h=>absurd h hn,fun _=>?_⟩⟩⟩,fun h=>(by cases h)⟩
 ·have:j=0:=by simpa using hj
  subst this;rfl
 ·rw[pK]
  exact Rd.tJ (l1.at hb) _ 1 fun j hj=>by
   have:j=0:=by simpa using hj
   subst this;rfl
 ·rw[if_pos rfl]
  exact⟨_,⟨b,rfl,hJ.at (l1.at hb)⟩,b1,rfl,hx _ (.head _)⟩
end Go.Lx
namespace Go.Lx
open Go.Vc
theorem xS{l:List dF}{r:dF}{t:Int}(h:c8 l r.name=some t)(k:ByteArray):c8 (l++[r]) k=c8 l k:=by
 rw[lK]
 cases hk:c8 l k with
 | some t=>rfl
 | none =>
   show (if k=r.name then some r.cp else none)=none
   rw[if_neg]
   intro e;subst e;rw[hk] at h;cases h
theorem xU{l:List dF}{r:dF}(h:c8 l r.name=none)(k:ByteArray):c8 (l++[r]) k=nk (c8 l) r.name r.cp k:=by
 rw[lK]
 unfold nk
 by_cases e:k=r.name
 ·subst e;rw[h,if_pos rfl]
 ·rw[if_neg e,if_neg e]
  cases hk:c8 l k<;>rfl
def D3(m0 m1 m2:Nat):Obj:=.cells #[.map (some m0),.map (some m1),.map (some m2)] 164 (0,0)
def D4(s:cF)(F:bZ)(e:Ending)(I:b8)(G:bZ):Prop:=∃c m1 m2,e=.returned (.pointer (some ⟨c,0,none⟩))∧yE I c s.p m1 m2∧G=(m1,.map #[] 0)::(m2,.map #[] 0)::F
theorem rL(s:cF)(hl:s.regs.length≤1048576)(I:b8)(F:bZ)(hok:s.Ok I F):cd P 66 #[s.v] I F (D4 s F):=by
 refine cd.keep (Q:=fun e I' G=>∃c m0 m1 m2 es ck,e=.returned (.pointer (some ⟨c,0,none⟩))∧iO Value.string (Value.int .u8) (c8 s.p.regs) es ck∧G.Perm ((m0,.map es ck)::(c,D3 m0 m1 m2)::(m1,.map #[] 0)::(m2,.map #[] 0)::F)) ?_ fun e I' G w hl hs ⟨c,m0,m1,m2,es,ck,he,hg,hp⟩=>by
  obtain⟨J,g1,g2,g3⟩:=Sat.still [_,_] (hs.perm hp)
  exact⟨J,_,g1,g3,c,m1,m2,he,⟨m0,es,ck,g2 _ (.tail _ (.head _)),g2 _ (.head _),hg⟩,rfl⟩
 refine fA.vc (fun sA cA i m I0 F0 I' F'=>0≤i∧i≤s.regs.length∧m=(s.regs.length-i).toNat∧∃c m0 m1 m2 es ck,cA=some (⟨c,0,none⟩:Addr)∧iO Value.string (Value.int .u8) (c8 (s.p.regs.take i.toNat)) es ck∧F'.Perm ((m0,.map es ck)::(c,D3 m0 m1 m2)::(m1,.map #[] 0)::(m2,.map #[] 0)::F)) ?_
 unfold fA.V
 intro b_s
 refine cG.mono iq fun v I1 G h1 ⟨r,hv,hI,hG⟩=>?_
 subst hI hG
 refine⟨some r,hv,(r,.map #[] 0)::F,.swap .., ?_⟩
 refine cG.mono iq fun v1 I1 G h1 ⟨r1,hv1,hI,hG⟩=>?_
 subst hI hG
 refine⟨some r1,hv1,(r1,.map #[] 0)::(r,.map #[] 0)::F,.swap .., ?_⟩
 refine cG.mono iq fun v2 I1 G h1 ⟨r2,hv2,hI,hG⟩=>?_
 subst hI hG
 refine⟨some r2,hv2,(r2,.map #[] 0)::(r1,.map #[] 0)::(r,.map #[] 0)::F,.swap .., ?_⟩
 intro b
 refine⟨⟨_,by omega,by omega,rfl,b,r,r1,r2,_,_,rfl,iO.nil 0, ?_⟩,fun i m I2 F2 l2 ⟨g0,g1,gm,c,m0,m1,m2,es,ck,hc,hg,hp⟩=>?_⟩
 ·exact pR.trans (((List.Perm.swap ..).cons _).cons _)
 obtain rfl:b=c:=by simpa using hc
 have hok1:s.Ok I2 F2:=hok.mono l2 fun y hy=>hp.mem_iff.2 (.tail _ (.tail _ (.tail _ (.tail _ hy))))
 refine⟨fun hlt=>?_,fun hlt=>?_⟩
 ·have hlt:=of_decide_eq_true hlt
  obtain⟨ad,g,had,hg1,hrd,hgm⟩:=fV.sv (hok1.cons (x:=(b_s,Obj.cells #[.string s.name,.slice s.ra s.regs.length s.rc,.slice s.sa s.slots.length s.sc,.slice s.ta s.states.length s.tc] 39 (0,0)))).regs g0 hlt
  refine⟨⟨g0,hlt⟩,ad,had,_,_,_,_,_,_,_,_,_,_,_,_,_,hrd,fun b_r=>?_⟩
  have hmc:∀(x y:Nat×Obj),(b,D3 m0 m1 m2)∈x::y::F2:=fun x y=>.tail _ (.tail _ (hp.mem_iff.2 (.tail _ (.head _))))
  have hm0:∀(x y:Nat×Obj),(m0,Obj.map es ck)∈x::y::F2:=fun x y=>.tail _ (.tail _ (hp.mem_iff.2 (.head _)))
  have hrdm:∀(J:b8) (x y:Nat×Obj),Rd J (x::y::F2) (⟨b,0,none⟩:Addr) [.map (some m0)]:=fun J x y=>Rd.tK (hmc x y) 0 fun j hj=>by
   have:j=0:=by simpa using hj
   subst this;rfl
  have hgl:s.p.regs[i.toNat]? = some g.p:=by
   show (s.regs.map dw.p)[i.toNat]? = _
   rw[List.getElem?_map,hg1];rfl
  have htk:s.p.regs.take (i+1).toNat=s.p.regs.take i.toNat++[g.p]:=by
   rw[show (i+1).toNat=i.toNat+1 by omega,List.take_add_one,hgl];rfl
  refine⟨_,rfl,some m0,hrdm _ _ _, ?_⟩
  refine cG.mono (oP B5 vV jk str_inj Be hg (.inr (hm0 _ _)) g.name) fun v3 I3 G h3 ⟨hv3,hI,hG⟩=>?_
  subst hI hG
  refine⟨((c8 (s.p.regs.take i.toNat) g.name).getD 0),(c8 (s.p.regs.take i.toNat) g.name).isSome,by rw[hv3];cases c8 (s.p.regs.take i.toNat) g.name<;>rfl,F2,.refl _,fun hn=>?_,fun hn=>⟨(s.regs.length-(i+1)).toNat,by omega, ?_⟩⟩
  ·have hn:c8 (s.p.regs.take i.toNat) g.name=none:=by simpa using hn
   refine⟨_,rfl,some m0,hrdm _ _ _, ?_⟩
   refine jJ.perm (jJ.mono (pD B5 vV jk str_inj hg g.name g.cp (F:=(b_s,Obj.cells #[.string s.name,.slice s.ra s.regs.length s.rc,.slice s.sa s.slots.length s.sc,.slice s.ta s.states.length s.tc] 39 (0,0))::(b_r,.cells g.enc.toArray 77 (0,0))::(b,D3 m0 m1 m2)::(m1,.map #[] 0)::(m2,.map #[] 0)::F)) fun I4 G h4 ⟨hI,es',c',hG,hg'⟩=>?_) (((hp.cons _).cons _).trans cR)
   subst hI hG
   refine⟨(m0,.map es' c')::(b,D3 m0 m1 m2)::(m1,.map #[] 0)::(m2,.map #[] 0)::F,cR.symm,(s.regs.length-(i+1)).toNat,by omega, ?_⟩
   rw[eh (n:=i+1) (by omega)]
   refine⟨by omega,by omega,rfl,b,m0,m1,m2,es',c',rfl, ?_,.refl _⟩
   rw[htk]
   exact hg'.congr fun k=>(xU (r:=g.p) hn k).symm
  ·obtain⟨t,hn⟩:∃t,c8 (s.p.regs.take i.toNat) g.name=some t:=by
    cases h:c8 (s.p.regs.take i.toNat) g.name with
    | none=>rw[h] at hn;cases hn
    | some t=>exact⟨t,rfl⟩
   rw[eh (n:=i+1) (by omega)]
   refine⟨by omega,by omega,rfl,b,m0,m1,m2,es,ck,rfl, ?_,hp⟩
   rw[htk]
   exact hg.congr fun k=>(xS (r:=g.p) hn k).symm
 ·have hlt:=of_decide_eq_false hlt
  refine⟨b,m0,m1,m2,es,ck,rfl, ?_,hp⟩
  rw[List.take_of_length_le (by show (s.regs.map dw.p).length≤_;rw[List.length_map];omega)] at hg
  exact hg
theorem ud(nm:ByteArray):∀(l:List ByteArray) (i:Nat) (j:Int),l[i]? = some nm→(lG nm l j<j+i↔fZ (l.take i) nm=true)∧0≤lG nm l j-j
 | [],i,j,h=>by simp at h
 | x::l,0,j,h=>by
   simp only[List.getElem?_cons_zero,Option.some.injEq] at h
   subst h
   rw[lG,if_pos (by simp)]
   refine⟨⟨fun h=>by omega,fun h=>by simp[fZ] at h⟩,by omega⟩
 | x::l,i+1,j,h=>by
   rw[lG]
   have ih:=ud nm l i (j+1) (by simpa using h)
   by_cases hx:(x.toList==nm.toList)=true
   ·rw[if_pos hx]
    have:=jW.1 hx
    subst this
    refine⟨⟨fun _=>by simp[fZ],fun _=>by omega⟩,by omega⟩
   ·rw[if_neg hx]
    have hne:¬x=nm:=fun e=>hx (jW.2 e)
    refine⟨?_,by omega⟩
    rw[List.take_succ_cons]
    have e:fZ (x::l.take i) nm=fZ (l.take i) nm:=by
     unfold fZ;rw[List.any_cons,decide_eq_false hne,Bool.false_or]
    rw[e,←ih.1]
    constructor<;>intro h<;>omega
theorem ue(nm:ByteArray):∀(l:List ByteArray) (j:Int),0≤j→(lG nm l j<0↔fZ l nm=false)
 | [],j,h=>by rw[lG];simp[fZ]
 | x::l,j,h=>by
   rw[lG]
   by_cases hx:(x.toList==nm.toList)=true
   ·rw[if_pos hx]
    have:=jW.1 hx
    subst this
    refine⟨fun h=>by omega,fun h=>by simp[fZ] at h⟩
   ·rw[if_neg hx,ue nm l (j+1) (by omega)]
    have hne:¬x=nm:=fun e=>hx (jW.2 e)
    unfold fZ;rw[List.any_cons,decide_eq_false hne,Bool.false_or]
def ux(l:List ByteArray)(k:Nat)(o:Obj):Prop:=∃es ck g,o=.map es ck∧iO Value.string (Value.int .i64) g es ck∧wv l k g
theorem ux.nil:ux [] 0 (.map #[] 0):=⟨_,_,_,rfl,iO.nil 0,wv.nil⟩
def Dk(l:List ByteArray)(i:Nat)(nm:ByteArray)(c:Int):Prop:=1≤c∧c≤i+1∧(1<c↔fZ (l.take i) nm=true)
theorem wv.step{l:List ByteArray}{i:Nat}{g:ByteArray→Option Int}{nm:ByteArray}(h:wv (l.take i) i g)(hl:l[i]? = some nm) :
  wv (l.take (i+1)) (i+1) (nk g nm ((g nm).getD 0+1))∧Dk l i nm ((g nm).getD 0+1):=by
 have htk:l.take (i+1)=l.take i++[nm]:=by rw[List.take_add_one,hl];rfl
 by_cases hs:fZ (l.take i) nm=true
 ·obtain⟨m,h1,h2,h3⟩:=(h nm).1 hs
  rw[h1]
  refine⟨?_, ?_, ?_, ?_⟩
  ·intro s
   have:=(h.more hs h2 h3) s
   rw[htk]
   have e:fZ (l.take i++[nm]) s=fZ (l.take i) s:=by
    unfold fZ at hs ⊢;rw[List.any_append]
    by_cases hsn:nm=s
    ·subst hsn;rw[hs];rfl
    ·simp[hsn]
   rw[e];exact this
  ·show 1≤m+1;omega
  ·show m+1≤i+1;omega
  ·exact⟨fun _=>hs,fun _=>by show 1<m+1;omega⟩
 ·have hs:fZ (l.take i) nm=false:=by simpa using hs
  have h1:=(h nm).2 hs
  rw[h1]
  refine⟨?_, ?_, ?_, ?_⟩
  ·rw[htk];exact h.new
  ·show (1:Int)≤0+1;omega
  ·show (0:Int)+1≤i+1;omega
  ·rw[hs];exact⟨fun h=>by simp at h,fun h=>by cases h⟩
section
variable {I:b8} {l:List ByteArray} {i:Nat} {nm:ByteArray} {o:Obj} {m:Nat} {G R:bZ}
theorem uf(hc:ux (l.take i) i o)(hl:l[i]? = some nm)(hi:i≤1048576)(hm:(m,o)∈G):cG P (Instr.lookup 162 (.map (some m)) (.string nm) false) I G fun v I' G'=>∃r:Int,v=.int .i64 r∧I'=I∧G'=G ∧
  (∀G2,G.Perm ((m,o)::G2)→jJ P (Instr.mapUpdate 162 (.map (some m)) (.string nm) (.int .i64 (IntKind.wrap .i64 (r+1)))) I G fun I' G'=>I'=I∧∃o',ux (l.take (i+1)) (i+1) o'∧G'=(m,o')::G2 ∧
   ∀G3,(m,o')∈G3→cG P (Instr.lookup 162 (.map (some m)) (.string nm) false) I G3 fun v I' G'=>∃c:Int,v=.int .i64 c∧I'=I∧G'=G3∧Dk l i nm c):=by
 obtain⟨es,ck,g,rfl,hg,hmet⟩:=hc
 obtain⟨h1,h2⟩:=hmet.step hl
 refine cG.mono (np B6 vV jk str_inj Bf hg (.inr hm) nm) fun v I1 G1 hl1 ⟨hv,hI,hG⟩=>⟨(g nm).getD 0, ?_,hI,hG,fun G2 hp=>?_⟩
 ·rw[hv];cases g nm<;>rfl
 ·have hw:IntKind.wrap .i64 ((g nm).getD 0+1)=(g nm).getD 0+1:=eh (by unfold Dk at h2;omega)
  rw[hw]
  refine jJ.perm (jJ.mono (pD B6 vV jk str_inj hg nm ((g nm).getD 0+1) (F:=G2)) fun I2 G3 hl2 ⟨hI2,es',ck',hG3,hg'⟩=>⟨hI2,_,⟨es',ck',_,rfl,hg',h1⟩,hG3,fun G4 hm4=>?_⟩) hp
  refine cG.mono (np B6 vV jk str_inj Bf hg' (.inr hm4) nm) fun v3 I3 G5 hl3 ⟨hv3,hI3,hG5⟩=>⟨(g nm).getD 0+1, ?_,hI3,hG5,h2⟩
  rw[hv3];unfold nk;rw[if_pos rfl];rfl
end
section
variable (s:cF) (hl:s.p.fp) {I:b8} {F:bZ} (hok:s.Ok I F)
def jt(s:cF):List ByteArray:=s.slots.map dj.name
def jX(s:cF):List ByteArray:=s.states.map cm.name
def om(s:cF):List ByteArray:=s.regs.map dw.name
def Er(s:cF)(m1 m2:Nat)(F:bZ)(e:Ending)(I:b8)(G:bZ):Prop:=∃v,e=.returned v∧fS I s.p.named v∧∃o1 o2,G=(m1,o1)::(m2,o2)::F∧(s.p.named.e=0→ux (jt s) s.slots.length o1∧ux (jX s) s.states.length o2)
theorem Ce(nm:ByteArray):s.p.iZ nm=lG nm (om s) 0:=by
 unfold cu.iZ om
 show lG nm ((s.regs.map dw.p).map dF.name) 0=_
 rw[List.map_map];rfl
theorem vX(nm:ByteArray):s.p.room nm=lG nm (jX s) 0:=by
 unfold cu.room jX
 show lG nm ((s.states.map cm.p).map cC.name) 0=_
 rw[List.map_map];rfl
end
end Go.Lx
namespace Go.Lx
open Go.Vc
theorem yE.rd{I:b8}{c m1 m2:Nat}{s:cu}(h:yE I c s m1 m2)(G:bZ):Rd I G ((⟨c,0,none⟩:Addr).add 1) [.map (some m1)]∧Rd I G ((⟨c,0,none⟩:Addr).add 2) [.map (some m2)]:=by
 obtain⟨m0,es,ck,hc,_,_⟩:=h
 rw[pK,pK]
 exact⟨Rd.tJ hc _ 1 fun j hj=>by
  have:j=0:=by simpa using hj
  subst this;rfl,Rd.tJ hc _ 2 fun j hj=>by
  have:j=0:=by simpa using hj
  subst this;rfl⟩
theorem ug{n p:Int}{b:Bool}(h:n≠0)(x:TF):hZ ⟨n,p,b⟩ x=⟨n,p,b⟩:=p8 _ h x
section
variable {s:cF} (hl:s.p.nu) {I:b8} {F:bZ} (hok:s.Ok I F)
include hl hok
theorem sw(hg:Gl I)(hf:∀r∈s.regs,r.init.px.formed=true){c m1 m2:Nat}(hS:yE I c s.p m1 m2) :
  cd P 67 #[.pointer (some ⟨c,0,none⟩),s.v] I ((m1,.map #[] 0)::(m2,.map #[] 0)::F) (Er s m1 m2 F):=by
 have lr:=hl.regs
 have ls:=hl.slots
 have lt:=hl.states
 simp only[cF.p,List.length_map] at lr ls lt
 refine cd.keep (Q:=fun e I' G=>∃v o1 o2 H,e=.returned v∧fS I' s.p.named v∧G.Perm ((m1,o1)::(m2,o2)::(H++F))∧(s.p.named.e=0→ux (jt s) s.slots.length o1∧ux (jX s) s.states.length o2)) ?_
  fun e I' G w hl hs ⟨v,o1,o2,H,he,hv,hp,hk⟩=>⟨I',_,b8.le_refl _,(hs.perm hp).sub (((List.sublist_append_right H F).cons_cons _).cons_cons _),v,he,hv,o1,o2,rfl,hk⟩
 refine dL.vc
  (fun r x i m I0 F0 I' F'=>0≤i∧i≤s.regs.length∧m=(s.regs.length-i).toNat∧s.p.named=hZ (tY s.p (s.p.regs.drop i.toNat) i) (hZ (rF s.p s.slots 0) (oW s.p s.p.states 0)) ∧
    ∃r0 o,r=some r0∧ux ((om s).take i.toNat) i.toNat o∧F'.Perm ((r0,o)::(m1,.map #[] 0)::(m2,.map #[] 0)::F))
  (fun x i m I0 F0 I' F'=>0≤i∧i≤s.slots.length∧m=(s.slots.length-i).toNat∧s.p.named=hZ (rF s.p (s.slots.drop i.toNat) i) (oW s.p s.p.states 0) ∧
    ∃H o,ux ((jt s).take i.toNat) i.toNat o∧F'.Perm ((m1,o)::(m2,.map #[] 0)::(H++F)))
  (fun x i m I0 F0 I' F'=>0≤i∧i≤s.states.length∧m=(s.states.length-i).toNat∧s.p.named=oW s.p (s.p.states.drop i.toNat) i ∧
    ∃H o1 o,ux (jt s) s.slots.length o1∧ux ((jX s).take i.toNat) i.toNat o∧F'.Perm ((m1,o1)::(m2,o)::(H++F))) ?_
 unfold dL.V
 intro b_s
 refine cG.mono iq fun v I1 G h1 ⟨r,hv,hI,hG⟩=>?_
 subst hI hG
 refine⟨some r,hv,(r,.map #[] 0)::(m1,.map #[] 0)::(m2,.map #[] 0)::F,.swap .., ?_⟩
 refine⟨⟨_,by omega,by omega,rfl,rfl,r,_,rfl,ux.nil,.refl _⟩,fun x i m I2 F2 l2 ⟨g0,g1,gm,ge,r',o,hr,hcn,hp⟩=>?_⟩
 obtain rfl:r=r':=by simpa using hr
 refine⟨fun hlt=>?_,fun hlt=>⟨⟨_,by omega,by omega,rfl, ?_,[_],_,ux.nil,hp.trans cR.symm⟩,fun x2 i2 m4 I9 F9 l9 ⟨k0,k1,km,ke,H,o2,kcn,kp⟩=>⟨fun hlt2=>?_,fun hlt2=>⟨⟨_,by omega,by omega,rfl, ?_,H,o2,.map #[] 0, ?_,ux.nil,kp⟩,
  fun x4 i3 m9 I14 F14 l14 ⟨q0,q1,qm,qe,H',o1,o3,qs,qcn,qp⟩=>⟨fun hlt3=>?_,fun hlt3=>?_⟩⟩⟩⟩⟩
 ·have hlt:=of_decide_eq_true hlt
  have hok2:∀{J:b8} (G:bZ),b8.le I1 J→(∀y,y∈F→y∈G)→s.Ok J G:=fun G hJ h=>hok.mono hJ h
  have hsub2:∀y,y∈F→y∈F2:=fun y hy=>hp.mem_iff.2 (.tail _ (.tail _ (.tail _ hy)))
  obtain⟨ad,g,had,hg1,hrd,hgm⟩:=fV.sv (hok2 ((b_s,Obj.cells #[.string s.name,.slice s.ra s.regs.length s.rc,.slice s.sa s.slots.length s.sc,.slice s.ta s.states.length s.tc] 39 (0,0))::F2) l2 fun y hy=>.tail _ (hsub2 y hy)).regs g0 hlt
  have hgl:(om s)[i.toNat]? = some g.name:=by unfold om;rw[List.getElem?_map,hg1];rfl
  have hgp:s.p.regs[i.toNat]? = some g.p:=by
   show (s.regs.map dw.p)[i.toNat]? = _
   rw[List.getElem?_map,hg1];rfl
  have hdr:s.p.regs.drop i.toNat=g.p::s.p.regs.drop (i.toNat+1):=by
   obtain⟨h1,h2⟩:=List.getElem?_eq_some_iff.1 hgp
   rw[List.drop_eq_getElem_cons h1,h2]
  rw[hdr,tY] at ge
  refine⟨⟨g0,hlt⟩,ad,had,_,_,_,_,_,_,_,_,_,_,_,_,_,hrd,fun b_r=>?_⟩
  have hm0:∀(x y:Nat×Obj),(r,o)∈x::y::F2:=fun x y=>.tail _ (.tail _ (hp.mem_iff.2 (.head _)))
  refine cG.mono (uf hcn hgl (by omega) (hm0 _ _)) fun v1 I3 G hl3 ⟨r1,hv1,hI,hG,hu⟩=>⟨r1,hv1,F2,by rw[hG], ?_⟩
  subst hI hG
  refine jJ.mono (hu _ (((hp.cons _).cons _).trans cR)) fun I4 G hl4 ⟨hI,o',hcn',hG,hlk⟩=>?_
  subst hI hG
  refine⟨(r,o')::(m1,.map #[] 0)::(m2,.map #[] 0)::F,cR.symm, ?_⟩
  refine cG.mono (hlk _ (.tail _ (.tail _ (.head _)))) fun v2 I5 G hl5 ⟨r2,hv2,hI,hG,n1,n2,n3⟩=>?_
  subst hI hG
  have hix:=(ud g.name (om s) i.toNat 0 hgl).1
  rw[←Ce,Int.zero_add,Int.toNat_of_nonneg g0] at hix
  have hgI:Gl I5:=hg.mono l2
  refine⟨r2,hv2,(r,o')::(m1,.map #[] 0)::(m2,.map #[] 0)::F,.refl _,fun h2=>?_,fun h2=>?_⟩
  ·have h2:=of_decide_eq_true h2
   rw[if_pos (show s.p.iZ g.p.name<i from hix.2 (n3.1 h2)),ug (n:=150) (by decide)] at ge
   refine cd.gT (eS hgI g.pos 150 (by decide) _) fun v I6 l6 hv=>⟨v,rfl,_,.refl _,v,_,_,[_],rfl, ?_,cR.symm,fun h=>?_⟩
   ·rw[ge];exact hv
   ·rw[ge] at h;exact absurd h (show (150:Int)≠0 by decide)
  ·have h2:=of_decide_eq_false h2
   rw[if_neg (show ¬s.p.iZ g.p.name<i from fun h=>h2 (n3.2 (hix.1 h)))] at ge
   refine cd.gT (yF g.init (hf g hgm) I5 _ (hS.mono l2) (cB.mono (hok.iZ _ hgm) l2 fun y hy=>.tail _ (.tail _ (.tail _ (.tail _ (.tail _ hy)))))) fun v I7 l7 ⟨w,hv,hw⟩=>⟨_,_,congrArg Ending.returned hv,_,.refl _,fun ht=>?_,fun ht=>?_⟩
   ·have ht:(typed s.p g.init.px).1≠g.cp:=by simpa using ht
    rw[if_pos (show (typed s.p g.p.init).1≠g.p.cp from ht),ug (n:=152) (by decide)] at ge
    refine cd.gT (eS (hgI.mono l7) g.pos 152 (by decide) _) fun v I8 l8 hv=>⟨v,rfl,_,.refl _,v,_,_,[_],rfl, ?_,cR.symm,fun h=>?_⟩
    ·rw[ge];exact hv
    ·rw[ge] at h;exact absurd h (show (152:Int)≠0 by decide)
   ·have ht:(typed s.p g.init.px).1=g.cp:=by simpa using ht
    rw[if_neg (show ¬(typed s.p g.p.init).1≠g.p.cp from fun h=>h ht)] at ge
    refine⟨(s.regs.length-(i+1)).toNat,by omega, ?_⟩
    rw[eh (n:=i+1) (by omega)]
    refine⟨by omega,by omega,rfl, ?_,r,o',rfl, ?_,.refl _⟩
    ·rw[ge,show (i+1).toNat=i.toNat+1 by omega]
    ·rw[show (i+1).toNat=i.toNat+1 by omega];exact hcn'
 ·have hlt:=of_decide_eq_false hlt
  rw[ge,List.drop_eq_nil_of_le (by show (s.regs.map dw.p).length≤_;rw[List.length_map];omega)];rfl
 ·have hlt2:=of_decide_eq_true hlt2
  have l29:=b8.le_trans l2 l9
  have hsub2:∀y,y∈F→y∈F9:=fun y hy=>kp.mem_iff.2 (.tail _ (.tail _ (List.mem_append_right _ hy)))
  obtain⟨ad,g,had,hg1,hrd,hgm⟩:=fV.sv (hok.mono (H:=(b_s,Obj.cells #[.string s.name,.slice s.ra s.regs.length s.rc,.slice s.sa s.slots.length s.sc,.slice s.ta s.states.length s.tc] 39 (0,0))::F9) l29 fun y hy=>.tail _ (hsub2 y hy)).slots k0 hlt2
  have hgl:(jt s)[i2.toNat]? = some g.name:=by unfold jt;rw[List.getElem?_map,hg1];rfl
  have hdr:s.slots.drop i2.toNat=g::s.slots.drop (i2.toNat+1):=by
   obtain⟨h1,h2⟩:=List.getElem?_eq_some_iff.1 hg1
   rw[List.drop_eq_getElem_cons h1,h2]
  rw[hdr,rF] at ke
  refine⟨⟨k0,hlt2⟩,ad,had,_,_,hrd,fun b_x=>?_⟩
  have hSJ:=hS.mono l29
  refine⟨_,rfl,some m1,(hSJ.rd _).1, ?_⟩
  have hm0:∀(x y:Nat×Obj),(m1,o2)∈x::y::F9:=fun x y=>.tail _ (.tail _ (kp.mem_iff.2 (.head _)))
  refine cG.mono (uf kcn hgl (by omega) (hm0 _ _)) fun v1 I3 G hl3 ⟨r1,hv1,hI,hG,hu⟩=>⟨r1,hv1,F9,by rw[hG], ?_⟩
  subst hI hG
  refine jJ.mono (hu _ (((kp.cons _).cons _).trans cR)) fun I4 G hl4 ⟨hI,o',hcn',hG,hlk⟩=>?_
  subst hI hG
  refine⟨(m1,o')::(m2,.map #[] 0)::(H++F),cR.symm,_,rfl,some m1,(hSJ.rd _).1, ?_⟩
  refine cG.mono (hlk _ (.tail _ (.tail _ (.head _)))) fun v2 I5 G hl5 ⟨r2,hv2,hI,hG,n1,n2,n3⟩=>?_
  subst hI hG
  have hix:=(ud g.name (jt s) i2.toNat 0 hgl).1
  rw[show lG g.name (jt s) 0=s.p.slot g.name from rfl,Int.zero_add,Int.toNat_of_nonneg k0] at hix
  refine⟨r2,hv2,(m1,o')::(m2,.map #[] 0)::(H++F),.refl _,fun h2=>?_,fun h2=>⟨(s.slots.length-(i2+1)).toNat,by omega, ?_⟩⟩
  ·have h2:=of_decide_eq_true h2
   rw[if_pos (hix.2 (n3.1 h2)),ug (n:=150) (by decide)] at ke
   refine cd.gT (eS (hg.mono l29) g.pos 150 (by decide) _) fun v I6 l6 hv=>⟨v,rfl,_,.refl _,v,_,_,H,rfl, ?_,.refl _,fun h=>?_⟩
   ·rw[ke];exact hv
   ·rw[ke] at h;exact absurd h (show (150:Int)≠0 by decide)
  ·have h2:=of_decide_eq_false h2
   rw[if_neg (fun h=>h2 (n3.2 (hix.1 h)))] at ke
   rw[eh (n:=i2+1) (by omega)]
   refine⟨by omega,by omega,rfl, ?_,H,o', ?_,.refl _⟩
   ·rw[ke,show (i2+1).toNat=i2.toNat+1 by omega]
   ·rw[show (i2+1).toNat=i2.toNat+1 by omega];exact hcn'
 ·have hlt2:=of_decide_eq_false hlt2
  rw[ke,List.drop_eq_nil_of_le (by omega)];rfl
 ·have hlt2:=of_decide_eq_false hlt2
  rw[List.take_of_length_le (by unfold jt;rw[List.length_map];omega),show i2.toNat=s.slots.length by omega] at kcn
  exact kcn
 ·have hlt3:=of_decide_eq_true hlt3
  have l29:=b8.le_trans l2 (b8.le_trans l9 l14)
  have hsub2:∀y,y∈F→y∈F14:=fun y hy=>qp.mem_iff.2 (.tail _ (.tail _ (List.mem_append_right _ hy)))
  obtain⟨ad,g,had,hg1,hrd,hgm⟩:=fV.sv (hok.mono (H:=(b_s,Obj.cells #[.string s.name,.slice s.ra s.regs.length s.rc,.slice s.sa s.slots.length s.sc,.slice s.ta s.states.length s.tc] 39 (0,0))::F14) l29 fun y hy=>.tail _ (hsub2 y hy)).states q0 hlt3
  have hgl:(jX s)[i3.toNat]? = some g.name:=by unfold jX;rw[List.getElem?_map,hg1];rfl
  have hgp:s.p.states[i3.toNat]? = some g.p:=by
   show (s.states.map cm.p)[i3.toNat]? = _
   rw[List.getElem?_map,hg1];rfl
  have hdr:s.p.states.drop i3.toNat=g.p::s.p.states.drop (i3.toNat+1):=by
   obtain⟨h1,h2⟩:=List.getElem?_eq_some_iff.1 hgp
   rw[List.drop_eq_getElem_cons h1,h2]
  rw[hdr,oW] at qe
  refine⟨⟨q0,hlt3⟩,ad,had,_,_,_,_,_,hrd,fun b_x=>?_⟩
  have hSJ:=hS.mono l29
  refine⟨_,rfl,some m2,(hSJ.rd _).2, ?_⟩
  have hm0:∀(x y:Nat×Obj),(m2,o3)∈x::y::F14:=fun x y=>.tail _ (.tail _ (qp.mem_iff.2 (.tail _ (.head _))))
  refine cG.mono (uf qcn hgl (by omega) (hm0 _ _)) fun v1 I3 G hl3 ⟨r1,hv1,hI,hG,hu⟩=>⟨r1,hv1,F14,by rw[hG], ?_⟩
  subst hI hG
  refine jJ.mono (hu _ (((qp.cons _).cons _).trans pR)) fun I4 G hl4 ⟨hI,o',hcn',hG,hlk⟩=>?_
  subst hI hG
  refine⟨(m1,o1)::(m2,o')::(H'++F),pR.symm,_,rfl,some m2,(hSJ.rd _).2, ?_⟩
  refine cG.mono (hlk _ (.tail _ (.tail _ (.tail _ (.head _))))) fun v2 I5 G hl5 ⟨r2,hv2,hI,hG,n1,n2,n3⟩=>?_
  subst hI hG
  have hix:=(ud g.name (jX s) i3.toNat 0 hgl).1
  rw[←vX,Int.zero_add,Int.toNat_of_nonneg q0] at hix
  refine⟨r2,hv2,(m1,o1)::(m2,o')::(H'++F),.refl _,fun h2=>?_,fun h2=>⟨(s.states.length-(i3+1)).toNat,by omega, ?_⟩⟩
  ·have h2:=of_decide_eq_true h2
   rw[if_pos (show s.p.room g.p.name<i3 from hix.2 (n3.1 h2))] at qe
   refine cd.gT (eS (hg.mono l29) g.pos 150 (by decide) _) fun v I6 l6 hv=>⟨v,rfl,_,.refl _,v,_,_,H',rfl, ?_,.refl _,fun h=>?_⟩
   ·rw[qe];exact hv
   ·rw[qe] at h;exact absurd h (show (150:Int)≠0 by decide)
  ·have h2:=of_decide_eq_false h2
   rw[if_neg (show ¬s.p.room g.p.name<i3 from fun h=>h2 (n3.2 (hix.1 h)))] at qe
   rw[eh (n:=i3+1) (by omega)]
   refine⟨by omega,by omega,rfl, ?_,H',o1,o',qs, ?_,.refl _⟩
   ·rw[qe,show (i3+1).toNat=i3.toNat+1 by omega]
   ·rw[show (i3+1).toNat=i3.toNat+1 by omega];exact hcn'
 ·have hlt3:=of_decide_eq_false hlt3
  rw[List.drop_eq_nil_of_le (by show (s.states.map cm.p).length≤_;rw[List.length_map];omega)] at qe
  rw[List.take_of_length_le (by unfold jX;rw[List.length_map];omega),show i3.toNat=s.states.length by omega] at qcn
  refine⟨_,o1,o3,H',rfl, ?_,qp,fun _=>⟨qs,qcn⟩⟩
  rw[qe];exact fS.ok
end
end Go.Lx
namespace Go.Lx
open Go.Vc
def vY(f:TF)(v:Value)(J:b8):Prop:=fS J f v
mutual
theorem vZ(s:cu):∀x:Px,(typed s x).2.e≠0→(typed s x).2.of=true
 | .mk k o t n f nm l q,h=>by
   rw[typed] at h ⊢
   split
   ·rename_i h1;exact tg s l h1
   ·rename_i h1
    rw[if_neg h1] at h
    unfold dR at h ⊢
    split
    ·rfl
    ·rename_i h2
     rw[if_neg h2] at h
     split
     ·rename_i h3;rw[if_pos h3] at h;exact absurd rfl h
     ·rfl
theorem tg(s:cu):∀l:List Px,(eF s l).2.e≠0→(eF s l).2.of=true
 | [],h=>by rw[eF] at h;exact absurd rfl h
 | x::r,h=>by
   rw[eF] at h ⊢
   split
   ·rename_i h1;exact vZ s x h1
   ·rename_i h1;rw[if_neg h1] at h;exact tg s r h
end
theorem zX{s:cu}{x:Px}(h:x.dp=0):typeOf s x=typed s x:=by
 unfold typeOf
 rw[if_neg (fun h'=>h' h)]
theorem rM{s:cF}{c m1 m2:Nat}(t:Nd)(hc:t.px.dp=0)(want:Int){I:b8}{F:bZ}(hg:Gl I)(hS:yE I c s.p m1 m2)(ht:cB I F t) :
  cd P 108 #[.pointer (some ⟨c,0,none⟩),t.v,.int .u8 want] I F (ja (vY (ia s.p t.px want)) F):=by
 refine fg.vc ?_
 unfold fg.V
 unfold ia
 have hf:=jG hc
 rw[zX hc]
 intro b_n
 refine cd.gT (yF t hf I _ hS (ht.mono (b8.le_refl I) fun y hy=>.tail _ hy)) fun v I1 l1 ⟨w,hv,hw⟩=>⟨_,_,congrArg Ending.returned hv,F,.refl _,_,hw.neq (by kernel_rfl),fun hq=>?_,fun hq=>?_⟩
 ·have he:(typed s.p t.px).2.e≠0:=by simpa using hq
  have hof:=vZ s.p t.px he
  rw[if_pos he]
  have e:(⟨(typed s.p t.px).2.e,(typed s.p t.px).2.pos,true⟩:TF)=(typed s.p t.px).2:=by rw[←hof]
  refine cd.gT (xR (hg.mono l1) 0 (typed s.p t.px).2.pos (typed s.p t.px).2.e he (hw.2 he) _) fun v2 I2 l2 hv2=>⟨v2,rfl,F,.refl _,v2,rfl, ?_,rfl⟩
  rw[e] at hv2;exact hv2
 ·have he:(typed s.p t.px).2.e=0:=by simpa using hq
  rw[if_neg (fun h=>h he)]
  refine⟨fun hn=>?_,fun hn=>?_⟩
  ·have hn:(typed s.p t.px).1≠want:=by simpa using hn
   rw[if_pos hn,Nd.tN]
   exact cd.gT (eS (hg.mono l1) t.pos 152 (by decide) _) fun v2 I2 l2 hv2=>⟨v2,rfl,F,.refl _,v2,rfl,hv2,rfl⟩
  ·have hn:(typed s.p t.px).1=want:=by simpa using hn
   rw[if_neg (fun h=>h hn)]
   exact⟨_,rfl,fS.ok,rfl⟩
theorem rN{α:Type}{f:α→TF}:∀{l:List α} {i:Nat} {x:α},(∀y∈l.take i,(f y).e=0)→l[i]? = some x→(f x).e≠0→dz f l=f x
 | y::r,0,x,_,hx,he=>by
   simp only[List.getElem?_cons_zero,Option.some.injEq] at hx
   subst hx;rw[dz,if_pos he]
 | y::r,i+1,x,h,hx,he=>by
   rw[List.take_succ_cons] at h
   rw[dz,if_neg (by simpa using h y (.head _))]
   exact rN (fun k hk=>h k (.tail _ hk)) (by simpa using hx) he
theorem rO{α:Type}{f:α→TF}:∀{l:List α},(∀y∈l,(f y).e=0)→dz f l=rC
 | [],_=>rfl
 | y::r,h=>by rw[dz,if_neg (by simpa using h y (.head _))];exact rO fun k hk=>h k (.tail _ hk)
theorem rP{α β:Type}{f:β→TF}{g:α→β}:∀l:List α,dz f (l.map g)=dz (fun x=>f (g x)) l
 | []=>rfl
 | x::r=>by rw[List.map_cons,dz,dz,rP r]
def yI(p:Nd×Int):List Value:=[.int .u8 p.1.kind,.int .u8 p.1.oper,.int .u8 p.1.cp,.int .i64 p.1.n,.int .u8 p.1.field,.string p.1.name,.slice p.1.a p.1.kids.length p.1.c,.int .i64 p.1.pos,.int .u8 p.2]
theorem Cf(p:Nd×Int):∀u∈yI p,u.oneCell'=true:=by
 intro u hu
 simp only[yI,List.mem_cons,List.not_mem_nil,or_false] at hu
 rcases hu with h | h | h | h | h | h | h | h | h<;>(subst h;rfl)
theorem rQ{a:Option Addr}{n c b1 m:Nat}{l:List (Nd×Int)}{A F R:bZ}{I:b8}(hA:Acc 9 yI 210 a n c l A)(hl:l.length≤100)(xs:List (Nd×Int))(hx:xs≠[])(hx2:xs.length≤2)(hm:m=xs.length)
  (hb:I b1=some (.cells (xs.flatMap yI).toArray 210 (0,0))) (hF:F.Perm (A++R)) :
  cG P (Builtin.append_ #[208,208] 208 #[.slice a n c,.slice (some ⟨b1,0,none⟩) m m]) I F fun v I' G=>∃a' n' c' A',v=.slice a' n' c'∧Acc 9 yI 210 a' n' c' (l++xs) A'∧G.Perm (A'++R):=by
 refine cG.perm (cG.mono (ie (f:=yI) (z:=9) (zv:=.agg (yI (gZ,0)).toArray) (fun _=>rfl) (by':=80) (by kernel_rfl) (by kernel_rfl) rfl (by decide) hA (xs:=xs) (fun y _=>Cf y) hx hm ?_ ?_ (F:=R)) fun v I' G _ ⟨a',n',c',A',h1,h2,h3,_⟩=>⟨a',n',c',A',h1,h2,by rw[h3]⟩) hF
 ·exact⟨rfl,_,_,_,.inl hb,fun j hj=>by simp⟩
 ·have:(l.length+xs.length)*80≤102*80:=Nat.mul_le_mul (by omega) (Nat.le_refl _)
  omega
def iV(d:eE)(v:Int):List (Nd×Int) :=
 if d.kind=1 then [(d.side,6),(d.qty,2)]++(if d.order≠2 then [(d.price,3)] else []) else if d.kind=2 then [(d.qty,2),(d.price,3)] else if d.kind=4 then [(d.value,v)] else []
theorem xV(d:eE)(v:Int):(iV d v).length≤3:=by
 unfold iV
 split
 ·split<;>simp
 ·split
  ·simp
  ·split<;>simp
theorem zY(s:cu)(d:eE):Em s d.p=(iV d (s.kG (DS s d.p))).map fun p=>ia s p.1.px p.2:=by
 unfold Em iV
 show (if d.kind=1 then _ else _)++((if d.kind=1∨d.kind=2 then _ else _)++((if d.kind=1∧d.order≠2∨d.kind=2 then _ else _)++(if d.kind=4 then _ else _)))=_
 by_cases h1:d.kind=1
 ·rw[if_pos h1,if_pos (.inl h1),if_neg (show ¬d.kind=4 by omega),if_pos h1]
  by_cases ho:d.order≠2
  ·rw[if_pos (.inl ⟨h1,ho⟩),if_pos ho];rfl
  ·rw[if_neg (by omega),if_neg ho];rfl
 ·rw[if_neg h1,if_neg h1]
  by_cases h2:d.kind=2
  ·rw[if_pos (.inr h2),if_pos (.inr h2),if_neg (by omega),if_pos h2];rfl
  ·rw[if_neg (by omega),if_neg (by omega),if_neg h2]
   by_cases h4:d.kind=4
   ·rw[if_pos h4,if_pos h4];rfl
   ·rw[if_neg h4,if_neg h4];rfl
def Cg(I:b8)(c:Nat)(s:cF):Prop:=∃m1 m2 o1 o2,yE I c s.p m1 m2∧I m1=some o1∧ux (jt s) s.slots.length o1∧I m2=some o2∧ux (jX s) s.states.length o2
theorem Cg.mono{I J:b8}{c:Nat}{s:cF}(h:Cg I c s)(hl:b8.le I J):Cg J c s:=let ⟨m1,m2,o1,o2,h1,h2,h3,h4,h5⟩:=h;⟨m1,m2,o1,o2,h1.mono hl,hl.at h2,h3,hl.at h4,h5⟩
theorem qa{l:List ByteArray}{k:Nat}{o:Obj}{m:Nat}{I:b8}{G:bZ}(hc:ux l k o)(hm:I m=some o)(nm:ByteArray):cG P (Instr.lookup 162 (.map (some m)) (.string nm) false) I G fun v I' G'=>∃r:Int,v=.int .i64 r∧I'=I∧G'=G∧decide (r>0)=fZ l nm:=by
 obtain⟨es,ck,g,rfl,hg,hmet⟩:=hc
 refine cG.mono (np B6 vV jk str_inj Bf hg (.inl hm) nm) fun v I1 G1 hl1 ⟨hv,hI,hG⟩=>⟨(g nm).getD 0, ?_,hI,hG, ?_⟩
 ·rw[hv];cases g nm<;>rfl
 ·cases hs:fZ l nm with
  | true=>obtain⟨x,h1,h2,_⟩:=(hmet nm).1 hs;rw[h1];exact decide_eq_true (by show x>0;omega)
  | false=>rw[(hmet nm).2 hs];rfl
def eE.Fit(d:eE):Prop:=∀v,∀p∈iV d v,p.1.px.dp=0
theorem v9{d:eE}(h:d.p.check=0):d.Fit:=by
 unfold dO.check at h
 obtain⟨_,h⟩:=cr h
 obtain⟨_,h⟩:=cr h
 obtain⟨_,h⟩:=cr h
 obtain⟨h1,h⟩:=cr h
 obtain⟨h2,h⟩:=cr h
 obtain⟨h3,h4⟩:=cr h
 have e1:d.p.kind=d.kind:=rfl
 have e2:d.p.order=d.order:=rfl
 rw[e1] at h1 h2 h3 h4
 rw[e2] at h3
 have part:∀{b:Bool} {x:Px},c6 b x=0→b=true→x.dp=0:=fun {b} {x} h hb=>by unfold c6 at h;rw[if_pos hb] at h;exact h
 intro v p hp
 unfold iV at hp
 split at hp
 ·rename_i k1
  rcases List.mem_append.1 hp with hp | hp
  ·simp only[List.mem_cons,List.not_mem_nil,or_false] at hp
   rcases hp with rfl | rfl
   ·exact part h1 (decide_eq_true k1)
   ·exact part h2 (decide_eq_true (.inl k1))
  ·split at hp
   ·rename_i ho
    rw[List.mem_singleton] at hp;subst hp
    exact part h3 (decide_eq_true (.inl ⟨k1,ho⟩))
   ·simp at hp
 ·split at hp
  ·rename_i k2
   simp only[List.mem_cons,List.not_mem_nil,or_false] at hp
   rcases hp with rfl | rfl
   ·exact part h2 (decide_eq_true (.inr k2))
   ·exact part h3 (decide_eq_true (.inr k2))
  ·split at hp
   ·rename_i k4
    rw[List.mem_singleton] at hp;subst hp
    exact part h4 (decide_eq_true k4)
   ·simp at hp
theorem zZ{d:eE}{I:b8}{G:bZ}(h:d.Ok I G){v:Int}:∀p∈iV d v,cB I G p.1:=by
 obtain⟨o1,o2,o3,o4⟩:=h
 intro p hp
 unfold iV at hp
 split at hp
 ·rcases List.mem_append.1 hp with hp | hp
  ·simp only[List.mem_cons,List.not_mem_nil,or_false] at hp
   rcases hp with rfl | rfl<;>assumption
  ·split at hp
   ·rw[List.mem_singleton] at hp;subst hp;assumption
   ·simp at hp
 ·split at hp
  ·simp only[List.mem_cons,List.not_mem_nil,or_false] at hp
   rcases hp with rfl | rfl<;>assumption
  ·split at hp
   ·rw[List.mem_singleton] at hp;subst hp;assumption
   ·simp at hp
theorem yJ{I:b8}{b:Nat}{p q:Nd×Int}(h:I b=some (.cells (yI p++yI q).toArray 210 (0,0))):I b=some (.cells ([p,q].flatMap yI).toArray 210 (0,0)):=by
 rw[h];simp
section
variable {s:cF} {I:b8} {F:bZ} {c:Nat}
theorem rR(nm:ByteArray):fZ (jt s) nm = !decide (s.p.slot nm<0):=by
 have h:=ue nm (jt s) 0 (Int.le_refl 0)
 have e:s.p.slot nm=lG nm (jt s) 0:=rfl
 rw[e]
 cases hb:fZ (jt s) nm with
 | true=>rw[hb] at h;simp at h;simp[h]
 | false=>rw[hb] at h;simp at h;simp[h]
theorem Bo(nm:ByteArray):fZ (jX s) nm = !decide (s.p.room nm<0):=by
 have h:=ue nm (jX s) 0 (Int.le_refl 0)
 rw[vX]
 cases hb:fZ (jX s) nm with
 | true=>rw[hb] at h;simp at h;simp[h]
 | false=>rw[hb] at h;simp at h;simp[h]
set_option maxHeartbeats 1000000 in
theorem Bp(hg:Gl I)(hA:Cg I c s)(d:eE)(hdo:d.Ok I F)(hfit:d.Fit):cd P 109 #[.pointer (some ⟨c,0,none⟩),d.v] I F (ja (vY (Ba s.p d.p)) F):=by
 refine cd.still ?_
 obtain⟨i0,hi0⟩:∃i0,i0=DS s.p d.p:=⟨_,rfl⟩
 have hI:DS s.p d.p=if d.kind=1 then (if d.name.toList=[] then 0 else s.p.slot d.name) else if d.kind=2∨d.kind=3 then s.p.slot d.name else if d.kind=4 then s.p.iZ d.name else if d.kind=5 then s.p.room d.name else 0:=rfl
 obtain⟨ps,hps⟩:∃ps,ps=iV d (s.p.kG i0):=⟨_,rfl⟩
 have hpl:ps.length≤3:=by rw[hps];exact xV _ _
 have hpd:iV d (s.p.kG i0)=if d.kind=1 then [(d.side,6),(d.qty,2)]++(if d.order≠2 then [(d.price,3)] else []) else if d.kind=2 then [(d.qty,2),(d.price,3)] else if d.kind=4 then [(d.value,s.p.kG i0)] else []:=rfl
 have hdT:Ba s.p d.p=if i0<0 then ⟨151,d.pos,false⟩ else dz (fun p:Nd×Int=>ia s.p p.1.px p.2) ps:=by
  unfold Ba
  rw[zY,←hi0,←hps,rP];rfl
 refine gi.vc
  (fun v is a n k I0 F0 I' F'=>is = !decide (i0<0)∧∃A,F'.Perm (A++F)∧(is=true→Acc 9 yI 210 a n k ps A))
  (fun a n k I0 F0 I' F'=>∃A,F'.Perm (A++F)∧Acc 9 yI 210 a n k ps A)
  (fun a n k x i m I0 F0 I' F'=>0≤i∧i≤n∧m=(n-i).toNat∧¬i0<0∧∃A,F'.Perm (A++F)∧Acc 9 yI 210 a n k ps A∧∀p∈ps.take i.toNat,(ia s.p p.1.px p.2).e=0) ?_
 unfold gi.V
 intro b_d
 have hsc:∀{J:b8},b8.le I J→Cg J c s:=fun h=>hA.mono h
 refine⟨⟨fun h1=>?_,fun h1=>⟨fun h2=>?_,fun h2=>⟨fun h3=>?_,fun h3=>⟨fun h4=>?_,fun h4=>⟨fun h5=>?_,fun h5=>?_⟩⟩⟩⟩⟩,fun v is a n k I15 F11 l15 ⟨his,A,hF11,hAcc⟩=>⟨fun hq=>?_,fun hq=>?_⟩⟩
 ·have h1:d.kind=1:=by simpa using h1
  rw[if_pos h1] at hI hpd
  intro b I1 l1 hb
  have happ:=rQ (R:=(b_d,Obj.cells #[.int .u8 d.kind,.int .u8 d.order,.string d.name,.int .u8 d.side.kind,.int .u8 d.side.oper,.int .u8 d.side.cp,.int .i64 d.side.n,.int .u8 d.side.field,.string d.side.name,.slice d.side.a d.side.kids.length d.side.c,.int .i64 d.side.pos,.int .u8 d.qty.kind,.int .u8 d.qty.oper,.int .u8 d.qty.cp,.int .i64 d.qty.n,.int .u8 d.qty.field,.string d.qty.name,.slice d.qty.a d.qty.kids.length d.qty.c,.int .i64 d.qty.pos,.int .u8 d.price.kind,.int .u8 d.price.oper,.int .u8 d.price.cp,.int .i64 d.price.n,.int .u8 d.price.field,.string d.price.name,.slice d.price.a d.price.kids.length d.price.c,.int .i64 d.price.pos,.int .u8 d.value.kind,.int .u8 d.value.oper,.int .u8 d.value.cp,.int .i64 d.value.n,.int .u8 d.value.field,.string d.value.name,.slice d.value.a d.value.kids.length d.value.c,.int .i64 d.value.pos,.int .i64 d.pos] 99 (0,0))::F) (A:=[]) (m:=2) Acc.nil (by simp) [(d.side,6),(d.qty,2)] (by simp) (by simp) rfl (yJ hb) (.refl _)
  refine cG.mono happ fun v I2 G l2 ⟨a',n',c',A',hv,hA',hG⟩=>⟨a',n',c',hv,A'++F,hG.trans List.perm_middle,⟨fun ho=>?_,fun ho=>?_⟩,fun pa pn pc I5 F3 l5 ⟨A3,hF3,hA3⟩=>⟨fun hn=>?_,fun hn=>?_⟩⟩
  ·have ho:d.order≠2:=by simpa using ho
   rw[if_pos ho] at hpd
   intro b1 I3 l3 hb1
   have happ:=rQ (R:=(b_d,Obj.cells #[.int .u8 d.kind,.int .u8 d.order,.string d.name,.int .u8 d.side.kind,.int .u8 d.side.oper,.int .u8 d.side.cp,.int .i64 d.side.n,.int .u8 d.side.field,.string d.side.name,.slice d.side.a d.side.kids.length d.side.c,.int .i64 d.side.pos,.int .u8 d.qty.kind,.int .u8 d.qty.oper,.int .u8 d.qty.cp,.int .i64 d.qty.n,.int .u8 d.qty.field,.string d.qty.name,.slice d.qty.a d.qty.kids.length d.qty.c,.int .i64 d.qty.pos,.int .u8 d.price.kind,.int .u8 d.price.oper,.int .u8 d.price.cp,.int .i64 d.price.n,.int .u8 d.price.field,.string d.price.name,.slice d.price.a d.price.kids.length d.price.c,.int .i64 d.price.pos,.int .u8 d.value.kind,.int .u8 d.value.oper,.int .u8 d.value.cp,.int .i64 d.value.n,.int .u8 d.value.field,.string d.value.name,.slice d.value.a d.value.kids.length d.value.c,.int .i64 d.value.pos,.int .i64 d.pos] 99 (0,0))::F) (A:=A') hA' (by simp) [(d.price,3)] (by simp) (by simp) rfl hb1 List.perm_middle.symm
   refine cG.mono happ fun v I4 G l4 ⟨a2,n2,c2,A2,hv,hA2,hG⟩=>⟨a2,n2,c2,hv,A2++F,hG.trans List.perm_middle,A2,.refl _, ?_⟩
   rw[hps,hpd];exact hA2
  ·have ho:d.order=2:=by simpa using ho
   rw[if_neg (by simpa using ho)] at hpd
   refine⟨A',.refl _, ?_⟩
   rw[hps,hpd];exact hA'
  ·have hn:d.name.toList=[]:=by simpa using hn
   rw[if_pos hn] at hI
   exact⟨by rw[hi0,hI];rfl,A3,hF3,fun _=>hA3⟩
  ·have hn:¬d.name.toList=[]:=by simpa using hn
   rw[if_neg hn] at hI
   obtain⟨m1,m2,o1,o2,hS,hm1,hc1,hm2,hc2⟩:=hsc (b8.le_trans l1 (b8.le_trans l2 l5))
   refine⟨_,rfl,some m1,(hS.rd _).1,(qa hc1 hm1 d.name).mono fun v I6 G l6 ⟨r,hv,hI6,hG,hr⟩=>⟨r,hv,F3,by rw[hG], ?_,A3,hF3,fun _=>hA3⟩⟩
   rw[hr,rR,hi0,hI]
 ·have h1:d.kind≠1:=by simpa using h1
  have h2:d.kind=2:=by simpa using h2
  rw[if_neg h1,if_pos (.inl h2)] at hI
  rw[if_neg h1,if_pos h2] at hpd
  intro b I1 l1 hb
  have happ:=rQ (R:=(b_d,Obj.cells #[.int .u8 d.kind,.int .u8 d.order,.string d.name,.int .u8 d.side.kind,.int .u8 d.side.oper,.int .u8 d.side.cp,.int .i64 d.side.n,.int .u8 d.side.field,.string d.side.name,.slice d.side.a d.side.kids.length d.side.c,.int .i64 d.side.pos,.int .u8 d.qty.kind,.int .u8 d.qty.oper,.int .u8 d.qty.cp,.int .i64 d.qty.n,.int .u8 d.qty.field,.string d.qty.name,.slice d.qty.a d.qty.kids.length d.qty.c,.int .i64 d.qty.pos,.int .u8 d.price.kind,.int .u8 d.price.oper,.int .u8 d.price.cp,.int .i64 d.price.n,.int .u8 d.price.field,.string d.price.name,.slice d.price.a d.price.kids.length d.price.c,.int .i64 d.price.pos,.int .u8 d.value.kind,.int .u8 d.value.oper,.int .u8 d.value.cp,.int .i64 d.value.n,.int .u8 d.value.field,.string d.value.name,.slice d.value.a d.value.kids.length d.value.c,.int .i64 d.value.pos,.int .i64 d.pos] 99 (0,0))::F) (A:=[]) (m:=2) Acc.nil (by simp) [(d.qty,2),(d.price,3)] (by simp) (by simp) rfl (yJ hb) (.refl _)
  refine cG.mono happ fun v I2 G l2 ⟨a',n',c',A',hv,hA',hG⟩=>⟨a',n',c',hv,A'++F,hG.trans List.perm_middle, ?_⟩
  obtain⟨m1,m2,o1,o2,hS,hm1,hc1,hm2,hc2⟩:=hsc (b8.le_trans l1 l2)
  refine⟨_,rfl,some m1,(hS.rd _).1,(qa hc1 hm1 d.name).mono fun v I6 G l6 ⟨r,hv,hI6,hG,hr⟩=>⟨r,hv,A'++F,by rw[hG], ?_,A',.refl _,fun _=>?_⟩⟩
  ·rw[hr,rR,hi0,hI]
  ·rw[hps,hpd];exact hA'
 ·have h1:d.kind≠1:=by simpa using h1
  have h2:d.kind≠2:=by simpa using h2
  have h3:d.kind=3:=by simpa using h3
  rw[if_neg h1,if_pos (.inr h3)] at hI
  rw[if_neg h1,if_neg h2,if_neg (by omega)] at hpd
  obtain⟨m1,m2,o1,o2,hS,hm1,hc1,hm2,hc2⟩:=hA
  refine⟨_,rfl,some m1,(hS.rd _).1,(qa hc1 hm1 d.name).mono fun v I6 G l6 ⟨r,hv,hI6,hG,hr⟩=>⟨r,hv,F,by rw[hG], ?_,[],.refl _,fun _=>?_⟩⟩
  ·rw[hr,rR,hi0,hI]
  ·rw[hps,hpd];exact Acc.nil
 ·have h1:d.kind≠1:=by simpa using h1
  have h2:d.kind≠2:=by simpa using h2
  have h3:d.kind≠3:=by simpa using h3
  have h4:d.kind=4:=by simpa using h4
  rw[if_neg h1,if_neg (by omega),if_pos h4] at hI
  rw[if_neg h1,if_neg h2,if_pos h4] at hpd
  obtain⟨m1,m2,o1,o2,⟨m0,es,ck,hc,hm,hgm⟩,hm1,hc1,hm2,hc2⟩:=hA
  refine⟨_,rfl,some m0,Rd.tJ hc _ 0 fun j hj=>?_, ?_⟩
  ·have:j=0:=by simpa using hj
   subst this;rfl
  refine cG.mono (oP B5 vV jk str_inj Be hgm (.inl hm) d.name) fun v I3 G l3 ⟨hv,hI3,hG⟩=>?_
  subst hI3 hG
  rw[rJ] at hv
  by_cases hr:s.p.iZ d.name<0
  ·rw[if_pos hr] at hv
   refine⟨0,false,hv,F,.refl _,fun b I4 l4 hb=>?_⟩
   have happ:=rQ (R:=(b_d,Obj.cells #[.int .u8 d.kind,.int .u8 d.order,.string d.name,.int .u8 d.side.kind,.int .u8 d.side.oper,.int .u8 d.side.cp,.int .i64 d.side.n,.int .u8 d.side.field,.string d.side.name,.slice d.side.a d.side.kids.length d.side.c,.int .i64 d.side.pos,.int .u8 d.qty.kind,.int .u8 d.qty.oper,.int .u8 d.qty.cp,.int .i64 d.qty.n,.int .u8 d.qty.field,.string d.qty.name,.slice d.qty.a d.qty.kids.length d.qty.c,.int .i64 d.qty.pos,.int .u8 d.price.kind,.int .u8 d.price.oper,.int .u8 d.price.cp,.int .i64 d.price.n,.int .u8 d.price.field,.string d.price.name,.slice d.price.a d.price.kids.length d.price.c,.int .i64 d.price.pos,.int .u8 d.value.kind,.int .u8 d.value.oper,.int .u8 d.value.cp,.int .i64 d.value.n,.int .u8 d.value.field,.string d.value.name,.slice d.value.a d.value.kids.length d.value.c,.int .i64 d.value.pos,.int .i64 d.pos] 99 (0,0))::F) (A:=[]) Acc.nil (by simp) [(d.value,0)] (by simp) (by simp) rfl hb (.refl _)
   refine cG.mono happ fun v I2 G l2 ⟨a',n',c',A',hv,hA',hG⟩=>⟨a',n',c',hv,A'++F,hG.trans List.perm_middle, ?_,A',.refl _,fun h=>(by cases h)⟩
   rw[hi0,hI,decide_eq_true hr];rfl
  ·rw[if_neg hr] at hv
   refine⟨s.p.kG (s.p.iZ d.name),true,hv,F,.refl _,fun b I4 l4 hb=>?_⟩
   have happ:=rQ (R:=(b_d,Obj.cells #[.int .u8 d.kind,.int .u8 d.order,.string d.name,.int .u8 d.side.kind,.int .u8 d.side.oper,.int .u8 d.side.cp,.int .i64 d.side.n,.int .u8 d.side.field,.string d.side.name,.slice d.side.a d.side.kids.length d.side.c,.int .i64 d.side.pos,.int .u8 d.qty.kind,.int .u8 d.qty.oper,.int .u8 d.qty.cp,.int .i64 d.qty.n,.int .u8 d.qty.field,.string d.qty.name,.slice d.qty.a d.qty.kids.length d.qty.c,.int .i64 d.qty.pos,.int .u8 d.price.kind,.int .u8 d.price.oper,.int .u8 d.price.cp,.int .i64 d.price.n,.int .u8 d.price.field,.string d.price.name,.slice d.price.a d.price.kids.length d.price.c,.int .i64 d.price.pos,.int .u8 d.value.kind,.int .u8 d.value.oper,.int .u8 d.value.cp,.int .i64 d.value.n,.int .u8 d.value.field,.string d.value.name,.slice d.value.a d.value.kids.length d.value.c,.int .i64 d.value.pos,.int .i64 d.pos] 99 (0,0))::F) (A:=[]) Acc.nil (by simp) [(d.value,s.p.kG (s.p.iZ d.name))] (by simp) (by simp) rfl hb (.refl _)
   refine cG.mono happ fun v I2 G l2 ⟨a',n',c',A',hv,hA',hG⟩=>⟨a',n',c',hv,A'++F,hG.trans List.perm_middle, ?_,A',.refl _,fun _=>?_⟩
   ·rw[hi0,hI,decide_eq_false hr];rfl
   ·rw[hps,hpd,hi0,hI];exact hA'
 ·have h1:d.kind≠1:=by simpa using h1
  have h2:d.kind≠2:=by simpa using h2
  have h3:d.kind≠3:=by simpa using h3
  have h4:d.kind≠4:=by simpa using h4
  have h5:d.kind=5:=by simpa using h5
  rw[if_neg h1,if_neg (by omega),if_neg h4,if_pos h5] at hI
  rw[if_neg h1,if_neg h2,if_neg h4] at hpd
  obtain⟨m1,m2,o1,o2,hS,hm1,hc1,hm2,hc2⟩:=hA
  refine⟨_,rfl,some m2,(hS.rd _).2,(qa hc2 hm2 d.name).mono fun v I6 G l6 ⟨r,hv,hI6,hG,hr⟩=>⟨r,hv,F,by rw[hG], ?_,[],.refl _,fun _=>?_⟩⟩
  ·rw[hr,Bo,hi0,hI]
  ·rw[hps,hpd];exact Acc.nil
 ·have h1:d.kind≠1:=by simpa using h1
  have h2:d.kind≠2:=by simpa using h2
  have h3:d.kind≠3:=by simpa using h3
  have h4:d.kind≠4:=by simpa using h4
  have h5:d.kind≠5:=by simpa using h5
  rw[if_neg h1,if_neg (by omega),if_neg h4,if_neg h5] at hI
  rw[if_neg h1,if_neg h2,if_neg h4] at hpd
  refine⟨by rw[hi0,hI];rfl,[],.refl _,fun _=>?_⟩
  rw[hps,hpd];exact Acc.nil
 ·have hneg:i0<0:=by rw[his] at hq;simpa using hq
  rw[if_pos hneg] at hdT
  refine cd.gT (eS (hg.mono l15) d.pos 151 (by decide) _) fun v2 I2 l2 hv2=>⟨v2,rfl,F11,.refl _,v2,A,rfl,hF11,fun J hJ hx=>?_⟩
  rw[hdT];exact fS.mono hv2 hJ
 ·have hq:is=true:=by simpa using hq
  have hneg:¬i0<0:=by rw[his] at hq;simpa using hq
  rw[if_neg hneg] at hdT
  have hAcc:=hAcc hq
  have hn:=hAcc.1
  refine⟨⟨_,by omega,by omega,rfl,hneg,A,hF11,hAcc,fun p hp=>by simp at hp⟩,fun x i m I17 F13 l17 ⟨g0,g1,gm,_,A2,hF13,hA2,hall⟩=>⟨fun hlt=>?_,fun hlt=>?_⟩⟩
  ·have hlt:=of_decide_eq_true hlt
   have l:=b8.le_trans l15 l17
   have hS2:=hA2.zd (z:=9) (f:=yI) (fun _=>rfl) I17 (G:=(b_d,Obj.cells #[.int .u8 d.kind,.int .u8 d.order,.string d.name,.int .u8 d.side.kind,.int .u8 d.side.oper,.int .u8 d.side.cp,.int .i64 d.side.n,.int .u8 d.side.field,.string d.side.name,.slice d.side.a d.side.kids.length d.side.c,.int .i64 d.side.pos,.int .u8 d.qty.kind,.int .u8 d.qty.oper,.int .u8 d.qty.cp,.int .i64 d.qty.n,.int .u8 d.qty.field,.string d.qty.name,.slice d.qty.a d.qty.kids.length d.qty.c,.int .i64 d.qty.pos,.int .u8 d.price.kind,.int .u8 d.price.oper,.int .u8 d.price.cp,.int .i64 d.price.n,.int .u8 d.price.field,.string d.price.name,.slice d.price.a d.price.kids.length d.price.c,.int .i64 d.price.pos,.int .u8 d.value.kind,.int .u8 d.value.oper,.int .u8 d.value.cp,.int .i64 d.value.n,.int .u8 d.value.field,.string d.value.name,.slice d.value.a d.value.kids.length d.value.c,.int .i64 d.value.pos,.int .i64 d.pos] 99 (0,0))::F13) fun y hy=>.tail _ (hF13.mem_iff.2 (List.mem_append_left _ hy))
   obtain⟨ad,p,had,hp,hrd,hpm⟩:=fV.sv hS2 g0 hlt
   refine⟨⟨g0,hlt⟩,ad,had,_,_,_,_,_,_,_,_,_,_,_,hrd,fun b_p=>?_⟩
   have hpm':p∈iV d (s.p.kG i0):=hps▸hpm
   obtain⟨m1,m2,o1,o2,hS,hm1,hc1,hm2,hc2⟩:=hsc l
   refine cd.gT (rM p.1 (hfit _ p hpm') p.2 (hg.mono l) hS ((zZ hdo p hpm').mono l fun y hy=>.tail _ (.tail _ (hF13.mem_iff.2 (List.mem_append_right _ hy))))) fun v2 I2 l2 hv2=>⟨v2,rfl,F13,.refl _,_,fS.neq hv2 (by kernel_rfl),fun he=>?_,fun he=>⟨(n-(i+1)).toNat,by omega, ?_⟩⟩
   ·have he:(ia s.p p.1.px p.2).e≠0:=by simpa using he
    refine⟨v2,A2,rfl,hF13,fun J hJ hx=>?_⟩
    rw[hdT,rN (f:=fun p:Nd×Int=>ia s.p p.1.px p.2) hall hp he]
    exact fS.mono hv2 hJ
   ·have he:(ia s.p p.1.px p.2).e=0:=by simpa using he
    rw[eh (n:=i+1) (by omega)]
    refine⟨by omega,by omega,rfl,hneg,A2,hF13,hA2, ?_⟩
    rw[show (i+1).toNat=i.toNat+1 by omega]
    exact vT hp hall he
  ·have hlt:=of_decide_eq_false hlt
   refine⟨_,A2,rfl,hF13,fun J hJ hx=>?_⟩
   rw[List.take_of_length_le (by omega)] at hall
   rw[hdT,rO hall]
   exact fS.ok
end
end Go.Lx
namespace Go.Lx
open Go.Vc
def cx.Fit(r:cx):Prop:=r.when.px.dp=0∧∀d∈r.dos,d.Fit∧d.kind≤6
theorem xW{r:cx}(h:r.p.check=0):r.Fit:=by
 unfold cL.check at h
 obtain⟨h1,h⟩:=cr h
 obtain⟨_,h⟩:=cr h
 obtain⟨_,h⟩:=cr h
 refine⟨h1,fun d hd=>?_⟩
 have hd:=gS h d.p (List.mem_map_of_mem hd)
 refine⟨v9 hd, ?_⟩
 unfold dO.check at hd
 have h1:=nv (by decide) (cr hd).1
 have:=of_decide_eq_true h1
 exact this.2
theorem wa{s:cF}(h:s.p.check=0):∀x∈s.states,∀r∈x.rules,r.Fit:=by
 unfold cu.check at h
 obtain⟨_,h⟩:=cr h
 obtain⟨_,h⟩:=cr h
 obtain⟨_,h⟩:=cr h
 obtain⟨_,h⟩:=cr h
 obtain⟨_,h⟩:=cr h
 obtain⟨_,h⟩:=cr h
 obtain⟨_,h⟩:=cr h
 intro x hx r hr
 have h1:=gS h x.p (List.mem_map_of_mem hx)
 unfold cC.check at h1
 obtain⟨_,h1⟩:=cr h1
 obtain⟨_,h1⟩:=cr h1
 exact xW (gS h1 r.p (List.mem_map_of_mem hr))
def kX(l:List eE)(i:Int):Bool:=decide (0<i)&&(match l[i.toNat-1]? with
 | some d=>decide (d.kind=5∨d.kind=6)
 | none=>false)
section
variable {s:cF} {I:b8} {F:bZ} {c:Nat}
set_option maxHeartbeats 1000000 in
theorem xX(hg:Gl I)(hA:Cg I c s)(r:cx)(hro:r.Ok I F)(hfit:r.Fit)(hlen:r.dos.length≤1048576):cd P 68 #[.pointer (some ⟨c,0,none⟩),r.v] I F (ja (vY (lH s.p r.p)) F):=by
 obtain⟨hw,hds⟩:=hfit
 have hrt:lH s.p r.p=hZ (ia s.p r.when.px 5) (xK s.p (r.dos.map eE.p) false):=rfl
 refine fh.vc (fun x i m I' F'=>F'=F∧0≤i∧i≤r.dos.length∧m=(r.dos.length-i).toNat∧lH s.p r.p=xK s.p ((r.dos.drop i.toNat).map eE.p) (kX r.dos i)) ?_
 unfold fh.V
 intro b_r
 have hS:∃m1 m2,yE I c s.p m1 m2:=let ⟨m1,m2,_,_,h,_⟩:=hA;⟨m1,m2,h⟩
 obtain⟨m1,m2,hS⟩:=hS
 refine cd.gT (rM r.when hw 5 hg hS (hro.1.mono (b8.le_refl I) fun y hy=>.tail _ hy)) fun v I1 l1 hv=>⟨v,rfl,F,.refl _,_,fS.neq hv (by kernel_rfl),fun he=>?_,fun he=>?_⟩
 ·have he:(ia s.p r.when.px 5).e≠0:=by simpa using he
  rw[hrt,p8 _ he]
  exact⟨v,rfl,hv,rfl⟩
 have he:(ia s.p r.when.px 5).e=0:=by simpa using he
 rw[ua _ he] at hrt
 refine⟨⟨_,rfl,by omega,by omega,rfl,hrt⟩,fun x i m I2 F2 l2 ⟨gF,g0,g1,gm,ge⟩=>⟨fun hlt=>?_,fun hlt=>?_⟩⟩
 ·subst gF
  have hlt:=of_decide_eq_true hlt
  have l:=b8.le_trans l1 l2
  have hr2:∀x:Nat×Obj,cx.Ok I2 (x::F2) r:=fun x=>hro.mono l fun y hy=>.tail _ hy
  obtain⟨ad,d,had,hd,hrd,hdm⟩:=fV.sv (hr2 (b_r,Obj.cells #[.int .u8 r.when.kind,.int .u8 r.when.oper,.int .u8 r.when.cp,.int .i64 r.when.n,.int .u8 r.when.field,.string r.when.name,.slice r.when.a r.when.kids.length r.when.c,.int .i64 r.when.pos,.slice r.a r.dos.length r.c,.int .i64 r.pos] 84 (0,0))).2.1 g0 hlt
  obtain⟨hk,hdk⟩:=List.getElem?_eq_some_iff.1 hd
  obtain⟨hdf,hd6⟩:=hds d hdm
  rw[List.drop_eq_getElem_cons hk,hdk,List.map_cons,xK] at ge
  have step:∀b_d:Nat,kX r.dos i=false→cd P 109 #[.pointer (some ⟨c,0,none⟩),d.v] I2 ((b_r,Obj.cells #[.int .u8 r.when.kind,.int .u8 r.when.oper,.int .u8 r.when.cp,.int .i64 r.when.n,.int .u8 r.when.field,.string r.when.name,.slice r.when.a r.when.kids.length r.when.c,.int .i64 r.when.pos,.slice r.a r.dos.length r.c,.int .i64 r.pos] 84 (0,0))::(b_d,Obj.cells #[.int .u8 d.kind,.int .u8 d.order,.string d.name,.int .u8 d.side.kind,.int .u8 d.side.oper,.int .u8 d.side.cp,.int .i64 d.side.n,.int .u8 d.side.field,.string d.side.name,.slice d.side.a d.side.kids.length d.side.c,.int .i64 d.side.pos,.int .u8 d.qty.kind,.int .u8 d.qty.oper,.int .u8 d.qty.cp,.int .i64 d.qty.n,.int .u8 d.qty.field,.string d.qty.name,.slice d.qty.a d.qty.kids.length d.qty.c,.int .i64 d.qty.pos,.int .u8 d.price.kind,.int .u8 d.price.oper,.int .u8 d.price.cp,.int .i64 d.price.n,.int .u8 d.price.field,.string d.price.name,.slice d.price.a d.price.kids.length d.price.c,.int .i64 d.price.pos,.int .u8 d.value.kind,.int .u8 d.value.oper,.int .u8 d.value.cp,.int .i64 d.value.n,.int .u8 d.value.field,.string d.value.name,.slice d.value.a d.value.kids.length d.value.c,.int .i64 d.value.pos,.int .i64 d.pos] 99 (0,0))::F2) (ja (vY (Ba s.p d.p)) ((b_r,Obj.cells #[.int .u8 r.when.kind,.int .u8 r.when.oper,.int .u8 r.when.cp,.int .i64 r.when.n,.int .u8 r.when.field,.string r.when.name,.slice r.when.a r.when.kids.length r.when.c,.int .i64 r.when.pos,.slice r.a r.dos.length r.c,.int .i64 r.pos] 84 (0,0))::(b_d,Obj.cells #[.int .u8 d.kind,.int .u8 d.order,.string d.name,.int .u8 d.side.kind,.int .u8 d.side.oper,.int .u8 d.side.cp,.int .i64 d.side.n,.int .u8 d.side.field,.string d.side.name,.slice d.side.a d.side.kids.length d.side.c,.int .i64 d.side.pos,.int .u8 d.qty.kind,.int .u8 d.qty.oper,.int .u8 d.qty.cp,.int .i64 d.qty.n,.int .u8 d.qty.field,.string d.qty.name,.slice d.qty.a d.qty.kids.length d.qty.c,.int .i64 d.qty.pos,.int .u8 d.price.kind,.int .u8 d.price.oper,.int .u8 d.price.cp,.int .i64 d.price.n,.int .u8 d.price.field,.string d.price.name,.slice d.price.a d.price.kids.length d.price.c,.int .i64 d.price.pos,.int .u8 d.value.kind,.int .u8 d.value.oper,.int .u8 d.value.cp,.int .i64 d.value.n,.int .u8 d.value.field,.string d.value.name,.slice d.value.a d.value.kids.length d.value.c,.int .i64 d.value.pos,.int .i64 d.pos] 99 (0,0))::F2)):=fun b_d _ =>
   Bp (hg.mono l) (hA.mono l) d ((hro.2.2 d hdm).mono l fun y hy=>.tail _ (.tail _ hy)) hdf
  have next:kX r.dos i=false→(Ba s.p d.p).e=0→lH s.p r.p=xK s.p ((r.dos.drop (i+1).toNat).map eE.p) (kX r.dos (i+1)):=fun hb h0=>by
   rw[ge,hb,if_neg (by simp),if_neg (by simpa using h0),show (i+1).toNat=i.toNat+1 by omega]
   have:kX r.dos (i+1)=decide (d.p.kind=5∨d.p.kind=6):=by
    unfold kX
    rw[show (i+1).toNat-1=i.toNat by omega,hd,decide_eq_true (show 0<i+1 by omega)]
    rfl
   rw[this]
  refine⟨⟨g0,hlt⟩,ad,had,_,_,_,_,_,_,_,_,_,_,_,_,_,_,_,_,_,_,_,_,_,_,_,_,_,_,_,_,_,_,_,_,_,_,_,_,_,_,_,_,_,_,_,_,hrd,fun b_d=>⟨fun hp=>?_,fun hp=>?_⟩⟩
  ·have hp:=of_decide_eq_true hp
   have hw1:IntKind.wrap .i64 (i-1)=i-1:=eh (by omega)
   rw[hw1]
   obtain⟨ad1,d1,had1,hd1,hrd1,hdm1⟩:=fV.sv ((hr2 (b_d,Obj.cells #[.int .u8 d.kind,.int .u8 d.order,.string d.name,.int .u8 d.side.kind,.int .u8 d.side.oper,.int .u8 d.side.cp,.int .i64 d.side.n,.int .u8 d.side.field,.string d.side.name,.slice d.side.a d.side.kids.length d.side.c,.int .i64 d.side.pos,.int .u8 d.qty.kind,.int .u8 d.qty.oper,.int .u8 d.qty.cp,.int .i64 d.qty.n,.int .u8 d.qty.field,.string d.qty.name,.slice d.qty.a d.qty.kids.length d.qty.c,.int .i64 d.qty.pos,.int .u8 d.price.kind,.int .u8 d.price.oper,.int .u8 d.price.cp,.int .i64 d.price.n,.int .u8 d.price.field,.string d.price.name,.slice d.price.a d.price.kids.length d.price.c,.int .i64 d.price.pos,.int .u8 d.value.kind,.int .u8 d.value.oper,.int .u8 d.value.cp,.int .i64 d.value.n,.int .u8 d.value.field,.string d.value.name,.slice d.value.a d.value.kids.length d.value.c,.int .i64 d.value.pos,.int .i64 d.pos] 99 (0,0))).cons (x:=(b_r,Obj.cells #[.int .u8 r.when.kind,.int .u8 r.when.oper,.int .u8 r.when.cp,.int .i64 r.when.n,.int .u8 r.when.field,.string r.when.name,.slice r.when.a r.when.kids.length r.when.c,.int .i64 r.when.pos,.slice r.a r.dos.length r.c,.int .i64 r.pos] 84 (0,0)))).2.1 (i:=i-1) (by omega) (by omega)
   have hlb:kX r.dos i=decide (d1.kind=5∨d1.kind=6):=by
    unfold kX
    rw[show i.toNat-1=(i-1).toNat by omega,hd1,decide_eq_true hp]
    rfl
   have h16:=(hds d1 hdm1).2
   refine⟨⟨by omega,by omega⟩,ad1,had1,d1.kind,hrd1.field (o:=0) rfl,fun h5=>?_,fun h5=>?_⟩
   ·have h5:=of_decide_eq_true h5
    have hb:kX r.dos i=true:=by rw[hlb];exact decide_eq_true (by omega)
    rw[hb,if_pos rfl] at ge
    exact cd.gT (eS (hg.mono l) d.pos 153 (by decide) _) fun v2 I3 l3 hv2=>⟨v2,rfl,F2,.refl _,v2,rfl,by rw[ge];exact hv2,rfl⟩
   ·have h5:=of_decide_eq_false h5
    have hb:kX r.dos i=false:=by rw[hlb];exact decide_eq_false (by omega)
    refine cd.gT (step b_d hb) fun v2 I3 l3 hv2=>⟨v2,rfl,F2,.refl _,_,fS.neq hv2 (by kernel_rfl),fun hq=>?_,fun hq=>⟨(r.dos.length-(i+1)).toNat,by omega, ?_⟩⟩
    ·have hq:(Ba s.p d.p).e≠0:=by simpa using hq
     rw[ge,hb,if_neg (by simp),if_pos hq]
     exact⟨v2,rfl,hv2,rfl⟩
    ·have hq:(Ba s.p d.p).e=0:=by simpa using hq
     rw[eh (n:=i+1) (by omega)]
     exact⟨rfl,by omega,by omega,rfl,next hb hq⟩
  ·have hp:=of_decide_eq_false hp
   have hb:kX r.dos i=false:=by unfold kX;rw[decide_eq_false (by omega)];rfl
   refine cd.gT (step b_d hb) fun v2 I3 l3 hv2=>⟨v2,rfl,F2,.refl _,_,fS.neq hv2 (by kernel_rfl),fun hq=>?_,fun hq=>⟨(r.dos.length-(i+1)).toNat,by omega, ?_⟩⟩
   ·have hq:(Ba s.p d.p).e≠0:=by simpa using hq
    rw[ge,hb,if_neg (by simp),if_pos hq]
    exact⟨v2,rfl,hv2,rfl⟩
   ·have hq:(Ba s.p d.p).e=0:=by simpa using hq
    rw[eh (n:=i+1) (by omega)]
    exact⟨rfl,by omega,by omega,rfl,next hb hq⟩
 ·subst gF
  have hlt:=of_decide_eq_false hlt
  rw[List.drop_eq_nil_of_le (by omega),List.map_nil,xK] at ge
  rw[ge];exact⟨_,rfl,fS.ok,rfl⟩
theorem rS(hl:s.p.nu)(hok:s.Ok I F)(hg:Gl I)(hf:∀r∈s.regs,r.init.px.formed=true){m1 m2:Nat}(hS:yE I c s.p m1 m2) :
  cd P 67 #[.pointer (some ⟨c,0,none⟩),s.v] I ((m1,.map #[] 0)::(m2,.map #[] 0)::F) (ja (fun v J=>vY s.p.named v J∧(s.p.named.e=0→Cg J c s)) F) :=
 cd.keep (sw hl hok hg hf hS) fun e I' G w l hs ⟨v,he,hv,o1,o2,hG,hk⟩=>by
  subst hG
  obtain⟨J,g1,g2,g3⟩:=Sat.still [(m1,o1),(m2,o2)] hs
  exact⟨J,F,g1,g3,v,he,⟨hv.mono g1,fun h0=>⟨m1,m2,o1,o2,hS.mono (b8.le_trans l g1),g2 _ (.head _),(hk h0).1,g2 _ (.tail _ (.head _)),(hk h0).2⟩⟩,rfl⟩
end
end Go.Lx
namespace Go.Lx
open Go.Vc
set_option maxHeartbeats 1000000 in
theorem uh(s:cF)(hl:s.p.nu){I:b8}{F:bZ}(hok:s.Ok I F)(hg:Gl I):cd P 39 #[s.v] I F (ja (vY s.p.types) F):=by
 have lr:=hl.regs
 have lt:=hl.states
 simp only[cF.p,List.length_map] at lr lt
 have hdef:s.p.types=if s.p.check≠0 then ⟨s.p.check,0,false⟩ else hZ s.p.named (dz (fun x=>dz (lH s.p) x.rules) (s.states.map cm.p)):=rfl
 refine js.vc
  (fun cA x i m I0 F0 I' F'=>F'=F∧0≤i∧i≤s.states.length∧m=(s.states.length-i).toNat∧(∃c,cA=some (⟨c,0,none⟩:Addr)∧Cg I' c s)∧(∀x∈s.states,∀r∈x.rules,r.Fit)∧s.p.types=dz (fun x=>dz (lH s.p) x.rules) ((s.states.drop i.toNat).map cm.p))
  (fun cA i x k m I0 F0 I' F'=>F'=F∧∃y,s.states[i.toNat]? = some y∧0≤k∧k≤y.rules.length∧m=(y.rules.length-k).toNat∧(∃c,cA=some (⟨c,0,none⟩:Addr)∧Cg I' c s)∧(∀x∈s.states,∀r∈x.rules,r.Fit) ∧
    s.p.types=hZ (dz (lH s.p) ((y.rules.drop k.toNat).map cx.p)) (dz (fun x=>dz (lH s.p) x.rules) ((s.states.drop (i.toNat+1)).map cm.p))) ?_
 unfold js.V
 intro b_s
 have ok1:∀{J:b8} {x:Nat×Obj},b8.le I J→s.Ok J (x::F):=fun hJ=>hok.mono hJ fun y hy=>.tail _ hy
 refine cd.ret (xD s hl.small hl.lens I _ (ok1 (b8.le_refl I))) fun I1 l1=>⟨_,rfl,F,.refl _,fun hc=>?_,fun hc=>?_⟩
 ·have hc:s.p.check≠0:=by simpa using hc
  rw[hdef,if_pos hc]
  exact cd.gT (eS (hg.mono l1) 0 s.p.check hc _) fun v I2 l2 hv=>⟨v,rfl,F,.refl _,v,rfl,hv,rfl⟩
 have hc:s.p.check=0:=by simpa using hc
 rw[if_neg (by simpa using hc)] at hdef
 have hfit:=wa hc
 have hfm:∀r∈s.regs,r.init.px.formed=true:=fun r hr=>xL hc r.p (List.mem_map_of_mem hr)
 refine (rL s lr I1 _ (ok1 l1)).mono fun e I2 G l2 ⟨c,m1,m2,he,hS,hG⟩=>?_
 subst hG
 have l12:=b8.le_trans l1 l2
 refine⟨_,he,(m1,.map #[] 0)::(m2,.map #[] 0)::F,cR, ?_⟩
 have hdec:=rS (F:=(b_s,Obj.cells #[.string s.name,.slice s.ra s.regs.length s.rc,.slice s.sa s.slots.length s.sc,.slice s.ta s.states.length s.tc] 39 (0,0))::F) hl (ok1 l12) (hg.mono l12) hfm hS
 refine (hdec.perm cR.symm).mono fun e I3 G l3 ⟨v,he,⟨hv,hk⟩,hG⟩=>⟨v,he,F,by rw[hG],_,fS.neq hv (by kernel_rfl),fun hq=>?_,fun hq=>?_⟩
 ·have hq:s.p.named.e≠0:=by simpa using hq
  rw[hdef,p8 _ hq]
  exact⟨v,rfl,hv,rfl⟩
 have hq:s.p.named.e=0:=by simpa using hq
 rw[ua _ hq] at hdef
 have l123:=b8.le_trans l12 l3
 refine⟨⟨_,rfl,by omega,by omega,rfl,⟨c,rfl,hk hq⟩,hfit,hdef⟩,fun x i m I4 F4 l4 ⟨gF,g0,g1,gm,⟨c',hc',hA⟩,_,ge⟩=>⟨fun hlt=>?_,fun hlt=>?_⟩⟩
 ·subst gF
  obtain rfl:c=c':=by simpa using hc'
  have hlt:=of_decide_eq_true hlt
  have l:=b8.le_trans l123 l4
  obtain⟨ad,y,had,hy,hrd,hym⟩:=fV.sv (ok1 (x:=(b_s,Obj.cells #[.string s.name,.slice s.ra s.regs.length s.rc,.slice s.sa s.slots.length s.sc,.slice s.ta s.states.length s.tc] 39 (0,0))) l).states g0 hlt
  obtain⟨hk2,hyk⟩:=List.getElem?_eq_some_iff.1 hy
  rw[List.drop_eq_getElem_cons hk2,hyk,List.map_cons] at ge
  have hly:=(hl.state y.p (List.mem_map_of_mem hym)).1
  have hlr:=(hl.state y.p (List.mem_map_of_mem hym)).2
  simp only[cm.p,List.length_map] at hly
  refine⟨⟨g0,hlt⟩,ad,had,_,_,_,_,_,hrd,fun b_x=>⟨⟨_,rfl,y,hy,by omega,by omega,rfl,⟨c,rfl,hA⟩,hfit, ?_⟩,fun x2 k m3 I5 F5 l5 ⟨hF,y',hy',h0,h1,hm,⟨c2,hc2,hA2⟩,_,he2⟩=>⟨fun hlt2=>?_,fun hlt2=>⟨(s.states.length-(i+1)).toNat,by omega, ?_⟩⟩⟩⟩
  ·rw[ge];unfold hZ;rw[dz];rfl
  ·subst hF
   obtain rfl:y=y':=by rw[hy] at hy';exact Option.some.inj hy'
   obtain rfl:c=c2:=by simpa using hc2
   have hlt2:=of_decide_eq_true hlt2
   have l5':=b8.le_trans l l5
   have hyo:y.Ok I5 ((b_s,Obj.cells #[.string s.name,.slice s.ra s.regs.length s.rc,.slice s.sa s.slots.length s.sc,.slice s.ta s.states.length s.tc] 39 (0,0))::(b_x,Obj.cells #[.string y.name,.slice y.a y.rules.length y.c,.int .i64 y.pos] 65 (0,0))::F5):=(hok.state y hym).mono l5' fun z hz=>.tail _ (.tail _ hz)
   obtain⟨ad1,r,had1,hr,hrd1,hrm⟩:=fV.sv hyo.1 h0 hlt2
   obtain⟨hk3,hrk⟩:=List.getElem?_eq_some_iff.1 hr
   rw[List.drop_eq_getElem_cons hk3,hrk,List.map_cons,dz] at he2
   have hdl:=(hlr r.p (List.mem_map_of_mem hrm)).2.1
   simp only[cx.p,List.length_map] at hdl
   refine⟨⟨h0,hlt2⟩,ad1,had1,_,_,_,_,_,_,_,_,_,_,_,_,_,_,hrd1,fun b_r=>?_⟩
   refine cd.gT (xX (hg.mono l5') hA2 r ((hyo.2 r hrm).mono (b8.le_refl _) fun z hz=>by
    rcases List.mem_cons.1 hz with rfl | hz
    ·exact .head _
    ·rcases List.mem_cons.1 hz with rfl | hz
     ·exact .tail _ (.head _)
     ·exact .tail _ (.tail _ (.tail _ hz))) (hfit y hym r hrm) hdl) fun v2 I6 l6 hv2=>⟨v2,rfl,F5,.refl _,_,fS.neq hv2 (by kernel_rfl),fun hq=>?_,fun hq=>⟨(y.rules.length-(k+1)).toNat,by omega, ?_⟩⟩
   ·have hq:(lH s.p r.p).e≠0:=by simpa using hq
    rw[he2,if_pos hq,p8 _ hq]
    exact⟨v2,rfl,hv2,rfl⟩
   ·have hq:(lH s.p r.p).e=0:=by simpa using hq
    rw[if_neg (by simpa using hq)] at he2
    rw[eh (n:=k+1) (by omega)]
    refine⟨rfl,y,hy,by omega,by omega,rfl,⟨c,rfl,hA2.mono l6⟩,hfit, ?_⟩
    rw[he2,show (k+1).toNat=k.toNat+1 by omega]
  ·subst hF
   obtain rfl:y=y':=by rw[hy] at hy';exact Option.some.inj hy'
   obtain rfl:c=c2:=by simpa using hc2
   have hlt2:=of_decide_eq_false hlt2
   rw[List.drop_eq_nil_of_le (by omega),List.map_nil,dz,ua _ rfl] at he2
   rw[eh (n:=i+1) (by omega)]
   refine⟨rfl,by omega,by omega,rfl,⟨c,rfl,hA2⟩,hfit, ?_⟩
   rw[he2,show (i+1).toNat=i.toNat+1 by omega]
 ·subst gF
  have hlt:=of_decide_eq_false hlt
  rw[List.drop_eq_nil_of_le (by omega),List.map_nil,dz] at ge
  rw[ge];exact⟨_,rfl,fS.ok,rfl⟩
theorem Ch{F:bZ}:∀x,x∈([]:bZ)→x∈F:=fun x hx=>absurd hx (by simp)
def eb:List Int→Int
 | []=>0
 | x::r=>x+eb r
def Dl(k:Int)(w:List Int):Int:=if k=7 then gQ w 0+max (gQ w 1) (gQ w 2)+2 else (if k=9 then 0 else 1)+eb w
namespace Px
mutual
def wt:Px→Int
 | .mk k _ _ _ _ _ l _=>Dl k (D5 l)
def D5:List Px→List Int
 | []=>[]
 | x::r=>wt x::D5 r
end
theorem yK:∀l:List Px,D5 l=l.map wt
 | []=>by rw[D5];rfl
 | x::r=>by rw[D5,yK r];rfl
theorem CB(x:Px):x.wt=Dl x.kind (x.kids.map wt):=by cases x;rw[wt,yK];rfl
theorem th:∀{l:List Px},(∀k∈l,1≤k.wt∧k.wt+1≤2*k.size)→(l.length:Int)≤eb (l.map wt)∧eb (l.map wt)+l.length≤2*dQ l
 | [],_=>⟨Int.le_refl 0,Int.le_refl 0⟩
 | x::r,h=>by
   have h1:=h x (.head _)
   have h2:=th fun k hk=>h k (.tail _ hk)
   rw[List.map_cons,eb,dQ,List.length_cons]
   omega
theorem iW:∀x:Px,x.formed=true→1≤x.wt∧x.wt+1≤2*x.size:=by
 refine ind fun x ih hf=>?_
 have h1:x.fT=true:=by rw[dY,Bool.and_eq_true] at hf;exact hf.1
 have hl:x.kids.length=arity x:=by
  unfold fT at h1
  rw[Bool.and_eq_true,decide_eq_true_eq] at h1
  exact h1.2
 have hk:∀k∈x.kids,1≤k.wt∧k.wt+1≤2*k.size:=fun k hm=>ih k hm (kq hf k hm)
 rw[CB,size_eq]
 have hs:=th hk
 unfold Dl
 by_cases h7:x.kind=7
 ·rw[if_pos h7]
  have h3:x.kids.length=3:=by rw[hl];unfold arity;rw[h7];rfl
  match hx:x.kids,h3 with
  | [a,b,c],_ =>
    rw[hx] at hk
    have ha:=hk a (.head _)
    have hb:=hk b (.tail _ (.head _))
    have hc:=hk c (.tail _ (.tail _ (.head _)))
    rw[dQ,dQ,dQ,dQ]
    show 1≤a.wt+max b.wt c.wt+2∧a.wt+max b.wt c.wt+2+1≤_
    omega
 ·rw[if_neg h7]
  by_cases h9:x.kind=9
  ·rw[if_pos h9]
   have h1:x.kids.length=1:=by rw[hl];unfold arity;rw[h9];rfl
   omega
  ·rw[if_neg h9];omega
end Px
def gj(x:Px):Int:=if x.kind=0 then 0 else x.wt
def dO.wt(d:dO):Int:=gj d.side+gj d.qty+gj d.price+gj d.value
def dO.act(d:dO):Int:=if d.kind=1∨d.kind=2∨d.kind=3 then 1 else 0
def cL.body(r:cL):Int:=eb (r.dos.map dO.wt)
def cL.gp(r:cL):Int:=eb (r.dos.map dO.act)
def gV(m:Int)(l:List Int):Int:=l.foldl max m
def cC.steps(x:cC):Int:=eb (x.rules.map fun r=>r.when.wt)+gV 0 (x.rules.map cL.body)
def cC.gp(x:cC):Int:=gV 0 (x.rules.map cL.gp)
end Go.Lx
namespace Go.Lx
open Go.Vc Go.Proofs.Tryz
def lL:List (Nat×List Sh):=[(0,[]),(3,[.one (.int .i64)]),(28,[.agg [(.int .u8),(.int .u8),(.int .u8),(.int .i64),(.int .u8),.str,.slc,(.int .i64)]]),(42,[.one .slc]),(44,[.one .any]),(45,[.one .slc,.one .any]),(47,[.one (.int .i64)]),(57,[.agg [(.int .i64),(.int .i64)]]),(65,[.agg [.str,.slc,(.int .i64)]]),(84,[.agg [(.int .u8),(.int .u8),(.int .u8),(.int .i64),(.int .u8),.str,.slc,(.int .i64),.slc,(.int .i64)]]),(99,[.agg [(.int .u8),(.int .u8),.str,(.int .u8),(.int .u8),(.int .u8),(.int .i64),(.int .u8),.str,.slc,(.int .i64),(.int .u8),(.int .u8),(.int .u8),(.int .i64),(.int .u8),.str,.slc,(.int .i64),(.int .u8),(.int .u8),(.int .u8),(.int .i64),(.int .u8),.str,.slc,(.int .i64),(.int .u8),(.int .u8),(.int .u8),(.int .i64),(.int .u8),.str,.slc,(.int .i64),(.int .i64)]])]
def gH.V(c:Int)(d:OA)(b e:Nat)(I:b8)(F:bZ)(Q:cc)(Inv6:Int→Int→Nat→b8→bZ→Prop):Prop:=(∃m:Nat,Inv6 c 0 m I F)∧∀(a x:Int) (m1:Nat) (I1:b8) (F1:bZ),b8.le I I1→Inv6 a x m1 I1 F1→(Dt (x<(b:Int)) ((0≤x∧x<(b:Int))∧∃ad:Addr,d=some ad∧∃(m2:Int),Rd I1 F1 (ad.add (Int.toNat x*1)) [.int .i64 m2]∧(∃m3:Nat,m3<m1∧Inv6 (if m2>a then m2 else a) (IntKind.wrap .i64 (x+1)) m3 I1 F1)) (Q (.returned (.int .i64 a)) I1 F1))
theorem gH.vc{a:Int}{b:OA}{c d:Nat}{I:b8}{F:bZ}{Q:cc}(Inv6:Int→Int→Nat→b8→bZ→Prop)(h:gH.V a b c d I F Q Inv6):cd P 42 #[.int .i64 a,.slice b c d] I F Q :=
 tw (A:=(cO [2000] [] [] lL [(6,⟨[(0,(.int .i64)),(9,(.int .i64))],[],fun _ _ _ vs m I F=>match vs with | [.int _ y0,.int _ y1]=>Inv6 y0 y1 m I F | _=>False,[],[]⟩)] [] [] [] [] [] [])) [] func42 h
def ju.V(c:Nat→Nat×Obj)(nV:Int→Int→Int→Int→Int→Bs→OA→Nat→Nat→Int→Value)(nO:Int→Int→Int→Int→Int→Bs→OA→Nat→Nat→Int→Obj)(nL:Int→Int→Int→Int→Int→Bs→OA→Nat→Nat→Int→List Value)(vi:Int→Value)(wr:Int→Int)(ab aR aS aT aU:Int)(aV:Bs)(e:OA)(d aQ:Nat)(aW:Int)(I:b8)(F:bZ)(Q:cc)(Inv25:OA→Int→Int→Nat→b8→bZ→b8→bZ→Prop):Prop:=∀a:Nat,(It (ab==7) ((0≤(0:Int)∧(0:Int)<(d:Int))∧∃ad:Addr,e=some ad∧((0≤(1:Int)∧(1:Int)<(d:Int))∧∃aL:Addr,e=some aL∧∃(aE aF aG aH aI:Int) (aJ:Bs) (ac:OA) (ae af:Nat) (aK:Int),Rd I ([]) (aL.add (Int.toNat 1*8)) (nL aE aF aG aH aI aJ ac ae af aK)∧((0≤(2:Int)∧(2:Int)<(d:Int))∧∃aM:Addr,e=some aM∧∃(ag ah ai aj ak:Int) (al:Bs) (q:OA) (s t:Nat) (am:Int),Rd I ([]) (aM.add (Int.toNat 2*8)) (nL ag ah ai aj ak al q s t am)∧∃(an ao ap aq ar:Int) (au:Bs) (u:OA) (v w:Nat) (av:Int),Rd I ((c a)::F) (ad.add (Int.toNat 0*8)) (nL an ao ap aq ar au u v w av)∧cJ P 32 #[nV an ao ap aq ar au u v w av] I ((c a)::·) F vi fun r I1 F1=>cJ P 32 #[nV aE aF aG aH aI aJ ac ae af aK] I1 ((c a)::·) F1 vi fun r1 I2 F2=>cJ P 32 #[nV ag ah ai aj ak al q s t am] I2 ((c a)::·) F2 vi fun r2 I3 F3=>∀(b:Nat) (I4:b8),b8.le I3 I4→I4 b=some (Obj.cells #[vi r2] 3 (0,0))→cJ P 42 (#[vi r1,.slice (some ⟨b,0,none⟩) 1 1]) I4 ((c a)::·) F3 vi fun r3 I5 F4=>Q (.returned (vi (wr ((wr (r+r3))+2)))) I5 F4))) (It (ab==9) ((0≤(0:Int)∧(0:Int)<(d:Int))∧∃aN:Addr,e=some aN∧∃(aw ax ay az aA:Int) (aB:Bs) (y:OA) (z aa:Nat) (aC:Int),Rd I ((c a)::F) (aN.add (Int.toNat 0*8)) (nL aw ax ay az aA aB y z aa aC)∧cJ P 32 #[nV aw ax ay az aA aB y z aa aC] I ((c a)::·) F vi fun r4 I6 F5=>Q (.returned (vi r4)) I6 F5) ((∃m:Nat,Inv25 (some ⟨a,0,none⟩) 1 0 m I F I F)∧∀(aD x:Int) (m1:Nat) (I7:b8) (F6:bZ),b8.le I I7→Inv25 (some ⟨a,0,none⟩) aD x m1 I F I7 F6→(Dt (x<(d:Int)) ((0≤x∧x<(d:Int))∧∃aO:Addr,e=some aO∧∃(i j k l n:Int) (o:Bs) (f:OA) (g h:Nat) (p:Int),Rd I7 ((c a)::F6) (aO.add (Int.toNat x*8)) (nL i j k l n o f g h p)∧∀aP:Nat,cJ P 32 #[nV i j k l n o f g h p] I7 ((c a)::(aP,nO i j k l n o f g h p)::·) F6 vi fun r5 I8 F7=>(∃m2:Nat,m2<m1∧Inv25 (some ⟨a,0,none⟩) (wr (aD+r5)) (wr (x+1)) m2 I F I8 F7)) (Q (.returned (vi aD)) I7 F6)))))
theorem ju.vc{i j p r u:Int}{v:Bs}{d:OA}{e g:Nat}{w:Int}{I:b8}{F:bZ}{Q:cc}(Inv25:OA→Int→Int→Nat→b8→bZ→b8→bZ→Prop)(h:ju.V (fun b=>(b,Obj.cells #[.int .u8 i,.int .u8 j,.int .u8 p,.int .i64 r,.int .u8 u,.string v,.slice d e g,.int .i64 w] 28 (0,0))) (fun k o t n f s a l c q=>.agg #[.int .u8 k,.int .u8 o,.int .u8 t,.int .i64 n,.int .u8 f,.string s,.slice a l c,.int .i64 q]) (fun k o t n f s a l c q=>.cells #[.int .u8 k,.int .u8 o,.int .u8 t,.int .i64 n,.int .u8 f,.string s,.slice a l c,.int .i64 q] 28 (0,0)) (fun k o t n f s a l c q=>[.int .u8 k,.int .u8 o,.int .u8 t,.int .i64 n,.int .u8 f,.string s,.slice a l c,.int .i64 q]) (.int .i64) (IntKind.wrap .i64) i j p r u v d e g w I F Q Inv25):cd P 32 #[.agg #[.int .u8 i,.int .u8 j,.int .u8 p,.int .i64 r,.int .u8 u,.string v,.slice d e g,.int .i64 w]] I F Q :=
 tw (A:=(cO [2000,4000,8000] [] [32,42] lL [(25,⟨[(3,(.int .i64)),(39,(.int .i64))],[],fun fs I0 F0 vs m I F=>match fs,vs with | [.pointer y0],[.int _ y1,.int _ y2]=>Inv25 y0 y1 y2 m I0 F0 I F | _,_=>False,[1],[]⟩)] [3015] [] [] [] [(3,[0,5,10,1,2,6,7,8,11,12,13,3,4,9,14,15,16,17,18,19])] [] [] [(3,[1,6,8,11,13],20)])) [32,42] func32 h
def mn.V(a:Nat→Nat×Obj)(nV:Int→Int→Int→Int→Int→Bs→OA→Nat→Nat→Int→Value)(vi:Int→Value)(f g h i j:Int)(k:Bs)(b:OA)(c d:Nat)(l:Int)(I:b8)(F:bZ)(Q:cc)  : Prop:=∀e:Nat,cJ P 31 #[nV f g h i j k b c d l] I ((a e)::·) F vi fun r I1 F1=>(It (r==120) (Q (.returned (vi 0)) I1 F1) (cJ P 32 #[nV f g h i j k b c d l] I1 ((a e)::·) F1 vi fun r1 I2 F2=>Q (.returned (vi r1)) I2 F2))
theorem mn.vc{i j m p r:Int}{u:Bs}{d:OA}{e g:Nat}{v:Int}{I:b8}{F:bZ}{Q:cc}  (h:mn.V (fun b=>(b,Obj.cells #[.int .u8 i,.int .u8 j,.int .u8 m,.int .i64 p,.int .u8 r,.string u,.slice d e g,.int .i64 v] 28 (0,0))) (fun k o t n f s a l c q=>.agg #[.int .u8 k,.int .u8 o,.int .u8 t,.int .i64 n,.int .u8 f,.string s,.slice a l c,.int .i64 q]) (.int .i64) i j m p r u d e g v I F Q):cd P 12 #[.agg #[.int .u8 i,.int .u8 j,.int .u8 m,.int .i64 p,.int .u8 r,.string u,.slice d e g,.int .i64 v]] I F Q :=
 tw (A:=(an [1002] [31,32] lL)) [31,32] func12 h
def mq.V(aG:Nat→Nat×Obj)(nO:Int→Int→Int→Int→Int→Bs→OA→Nat→Nat→Int→Obj)(vb vi:Int→Value)(vs:Bs→Value)(vl:OA→Nat→Nat→Value)(aW aX aY aZ a0:Int)(a1:Bs)(aS:OA)(aT aU:Nat)(a2:Int)(aO:OA)(aq aV:Nat)(a3:Int)(aR:Fn)(aL aM:Array Value)(I:b8)(F:bZ)(Q:cc)(Inv5:Int→Nat→b8→bZ→b8→bZ→Prop)(Inv19:Int→Int→Nat→b8→bZ→b8→bZ→Prop):Prop:=∀aK:Nat,(∃m:Nat,Inv5 0 m I F I F)∧∀(x:Int) (m1:Nat) (I1:b8) (F1:bZ),b8.le I I1→Inv5 x m1 I F I1 F1→(Dt (x<(aq:Int)) ((0≤x∧x<(aq:Int))∧∃ad:Addr,aO=some ad∧∃(aH aI:Int) (aJ:Bs) (aA aB aC aD aE:Int) (aF:Bs) (k:OA) (l n:Nat) (s t u v w y:Int) (z:Bs) (a:OA) (c d:Nat) (aa ab ac ae af ag:Int) (ah:Bs) (e:OA) (f g:Nat) (ai aj ak al am an:Int) (ao:Bs) (h:OA) (i j:Nat) (ap ar:Int),Rd I1 ((aG aK)::F1) (ad.add (Int.toNat x*36)) [vb aH,vb aI,vs aJ,vb aA,vb aB,vb aC,vi aD,vb aE,vs aF,vl k l n,vi s,vb t,vb u,vb v,vi w,vb y,vs z,vl a c d,vi aa,vb ab,vb ac,vb ae,vi af,vb ag,vs ah,vl e f g,vi ai,vb aj,vb ak,vb al,vi am,vb an,vs ao,vl h i j,vi ap,vi ar]∧∀aN:Nat,∀(b:Nat) (I2:b8),b8.le I1 I2→I2 b=some (Obj.cells #[vb aA,vb aB,vb aC,vi aD,vb aE,vs aF,vl k l n,vi s,vb t,vb u,vb v,vi w,vb y,vs z,vl a c d,vi aa,vb ab,vb ac,vb ae,vi af,vb ag,vs ah,vl e f g,vi ai,vb aj,vb ak,vb al,vi am,vb an,vs ao,vl h i j,vi ap] 28 (0,0))→(∃m2:Nat,Inv19 x 0 m2 I2 F1 I2 F1)∧∀(x1:Int) (m3:Nat) (I3:b8) (F2:bZ),b8.le I2 I3→Inv19 x x1 m3 I2 F1 I3 F2→(Dt (x1<(4:Int)) ((0≤x1∧x1<(4:Int))∧∃aP:Addr,some ⟨b,0,none⟩=some aP∧∃(o au av aw ax:Int) (ay:Bs) (p:OA) (q r:Nat) (az:Int),Rd I3 ((aG aK)::(aN,Obj.cells #[vb aH,vb aI,vs aJ,vb aA,vb aB,vb aC,vi aD,vb aE,vs aF,vl k l n,vi s,vb t,vb u,vb v,vi w,vb y,vs z,vl a c d,vi aa,vb ab,vb ac,vb ae,vi af,vb ag,vs ah,vl e f g,vi ai,vb aj,vb ak,vb al,vi am,vb an,vs ao,vl h i j,vi ap,vi ar] 99 (0,0))::F2) (aP.add (Int.toNat x1*8)) [vb o,vb au,vb av,vi aw,vb ax,vs ay,vl p q r,vi az]∧∀aQ:Nat,(It (o != 0) (oA P (.func aR aL aM) [.agg #[vb o,vb au,vb av,vi aw,vb ax,vs ay,vl p q r,vi az]] I3 ((aG aK)::(aN,Obj.cells #[vb aH,vb aI,vs aJ,vb aA,vb aB,vb aC,vi aD,vb aE,vs aF,vl k l n,vi s,vb t,vb u,vb v,vi w,vb y,vs z,vl a c d,vi aa,vb ab,vb ac,vb ae,vi af,vb ag,vs ah,vl e f g,vi ai,vb aj,vb ak,vb al,vi am,vb an,vs ao,vl h i j,vi ap,vi ar] 99 (0,0))::(aQ,nO o au av aw ax ay p q r az)::F2) fun e1 I4 G1=>e1=.returned (.tuple #[])∧∃F3:bZ,List.Perm G1 ((aG aK)::(aN,Obj.cells #[vb aH,vb aI,vs aJ,vb aA,vb aB,vb aC,vi aD,vb aE,vs aF,vl k l n,vi s,vb t,vb u,vb v,vi w,vb y,vs z,vl a c d,vi aa,vb ab,vb ac,vb ae,vi af,vb ag,vs ah,vl e f g,vi ai,vb aj,vb ak,vb al,vi am,vb an,vs ao,vl h i j,vi ap,vi ar] 99 (0,0))::(aQ,nO o au av aw ax ay p q r az)::F3)∧(∃m4:Nat,m4<m3∧Inv19 x (IntKind.wrap .i64 (x1+1)) m4 I2 F1 I4 F3)) (∃m5:Nat,m5<m3∧Inv19 x (IntKind.wrap .i64 (x1+1)) m5 I2 F1 I3 F2))) (∃m6:Nat,m6<m1∧Inv5 (IntKind.wrap .i64 (x+1)) m6 I F I3 F2))) (Q (.returned (.tuple #[])) I1 F1))
theorem mq.vc{v w x y z:Int}{aa:Bs}{d:OA}{e g:Nat}{ab:Int}{i:OA}{j p:Nat}{ac:Int}{ad:Fn}{r u:Array Value}{I:b8}{F:bZ}{Q:cc}(Inv5:Int→Nat→b8→bZ→b8→bZ→Prop)(Inv19:Int→Int→Nat→b8→bZ→b8→bZ→Prop)(h:mq.V (fun b=>(b,Obj.cells #[.int .u8 v,.int .u8 w,.int .u8 x,.int .i64 y,.int .u8 z,.string aa,.slice d e g,.int .i64 ab,.slice i j p,.int .i64 ac] 84 (0,0))) (fun k o t n f s a l c q=>.cells #[.int .u8 k,.int .u8 o,.int .u8 t,.int .i64 n,.int .u8 f,.string s,.slice a l c,.int .i64 q] 28 (0,0)) (.int .u8) (.int .i64) .string .slice v w x y z aa d e g ab i j p ac ad r u I F Q Inv5 Inv19):cd P 40 #[.agg #[.int .u8 v,.int .u8 w,.int .u8 x,.int .i64 y,.int .u8 z,.string aa,.slice d e g,.int .i64 ab,.slice i j p,.int .i64 ac],.func ad r u] I F Q :=
 tw (A:=(cO [2000,5000,7002] [] [] lL [(5,⟨[(11,(.int .i64))],[],fun fs I0 F0 vs m I F=>match fs,vs with | [],[.int _ y0]=>Inv5 y0 m I0 F0 I F | _,_=>False,[],[]⟩),(19,⟨[(25,(.int .i64))],[],fun fs I0 F0 vs m I F=>match fs,vs with | [.int _ y0],[.int _ y1]=>Inv19 y0 y1 m I0 F0 I F | _,_=>False,[11],[]⟩)] [4008] [] [] [8002] [] [])) [] func40 h
def mr.V(vb vi:Int→Value)(vs:Bs→Value)(vl:OA→Nat→Nat→Value)(wr:Int→Int)(aw ax ay az aA:Int)(aB:Bs)(o:OA)(p q:Nat)(aC:Int)(d:OA)(b r:Nat)(aD:Int)(I:b8)(F:bZ)(Q:cc)(Inv8:Int→Int→Nat→b8→bZ→Prop):Prop:=∀aM:Nat,(∃m:Nat,Inv8 0 0 m I F)∧∀(a x:Int) (m1:Nat) (I1:b8) (F1:bZ),b8.le I I1→Inv8 a x m1 I1 F1→(Dt (x<(b:Int)) ((0≤x∧x<(b:Int))∧∃ad:Addr,d=some ad∧∃(c aE:Int) (aF:Bs) (aG aH aI aJ aK:Int) (aL:Bs) (s:OA) (t u:Nat) (v w y z aa ab:Int) (ac:Bs) (e:OA) (f g:Nat) (ae af ag ah ai aj:Int) (ak:Bs) (h:OA) (i j:Nat) (al am an ao ap aq:Int) (ar:Bs) (k:OA) (l n:Nat) (au av:Int),Rd I1 ((aM,Obj.cells #[vb aw,vb ax,vb ay,vi az,vb aA,vs aB,vl o p q,vi aC,vl d b r,vi aD] 84 (0,0))::F1) (ad.add (Int.toNat x*36)) [vb c,vb aE,vs aF,vb aG,vb aH,vb aI,vi aJ,vb aK,vs aL,vl s t u,vi v,vb w,vb y,vb z,vi aa,vb ab,vs ac,vl e f g,vi ae,vb af,vb ag,vb ah,vi ai,vb aj,vs ak,vl h i j,vi al,vb am,vb an,vb ao,vi ap,vb aq,vs ar,vl k l n,vi au,vi av]∧∀aN:Nat,(It (c==1) (∃m2:Nat,m2<m1∧Inv8 (wr (a+1)) (wr (x+1)) m2 I1 F1) (It (c==2) (∃m3:Nat,m3<m1∧Inv8 (wr (a+1)) (wr (x+1)) m3 I1 F1) (It (c==3) (∃m4:Nat,m4<m1∧Inv8 (wr (a+1)) (wr (x+1)) m4 I1 F1) (∃m5:Nat,m5<m1∧Inv8 a (wr (x+1)) m5 I1 F1))))) (Q (.returned (vi a)) I1 F1))
theorem mr.vc{g i j k l:Int}{n:Bs}{a:OA}{b c:Nat}{o:Int}{d:OA}{e f:Nat}{p:Int}{I:b8}{F:bZ}{Q:cc}(Inv8:Int→Int→Nat→b8→bZ→Prop)(h:mr.V (.int .u8) (.int .i64) .string .slice (IntKind.wrap .i64) g i j k l n a b c o d e f p I F Q Inv8):cd P 43 #[.agg #[.int .u8 g,.int .u8 i,.int .u8 j,.int .i64 k,.int .u8 l,.string n,.slice a b c,.int .i64 o,.slice d e f,.int .i64 p]] I F Q :=
 tw (A:=(cO [3000,6000,7000,8000] [] [] lL [(8,⟨[(3,(.int .i64)),(9,(.int .i64))],[],fun _ _ _ vs m I F=>match vs with | [.int _ y0,.int _ y1]=>Inv8 y0 y1 m I F | _=>False,[],[]⟩)] [] [] [] [] [] [])) [] func43 h
def gI.V(nO:Int→Int→Int→Int→Int→Bs→OA→Nat→Nat→Int→Obj)(vb vi:Int→Value)(e f g h i:Int)(j:Bs)(a:OA)(b d:Nat)(k:Int)(l:Nat)(c:Int)(I:b8)(F:bZ)(Q:cc)  : Prop:=∀m:Nat,∃(r:Int),(cd P 32 #[.agg #[vb e,vb f,vb g,vi h,vb i,.string j,.slice a b d,vi k]] I ((l,Obj.cells #[vi c] 3 (0,0))::(m,nO e f g h i j a b d k)::F) fun e1 I1 G1=>e1=.returned (vi r)∧List.Perm G1 ((l,Obj.cells #[vi c] 3 (0,0))::(m,nO e f g h i j a b d k)::F))∧Q (.returned (.tuple #[])) I ((l,Obj.cells #[vi (IntKind.wrap .i64 (c+r))] 3 (0,0))::F)
theorem gI.vc{i j m r u:Int}{w:Bs}{b:OA}{d e:Nat}{x:Int}{g:Nat}{c:Int}{I:b8}{F:bZ}{Q:cc}  (h:gI.V (fun k o t n f s a l c q=>.cells #[.int .u8 k,.int .u8 o,.int .u8 t,.int .i64 n,.int .u8 f,.string s,.slice a l c,.int .i64 q] 28 (0,0)) (.int .u8) (.int .i64) i j m r u w b d e x g c I F Q):cd P 41 #[.agg #[.int .u8 i,.int .u8 j,.int .u8 m,.int .i64 r,.int .u8 u,.string w,.slice b d e,.int .i64 x],.pointer (some ⟨g,0,none⟩)] I ((g,Obj.cells #[.int .i64 c] 3 (0,0))::F) Q :=
 tv (A:=(cO [] [] [32] lL [] [] [] [(1,4,[0])] [] [] [])) (args:=[.a (.v (.agg #[.int .u8 i,.int .u8 j,.int .u8 m,.int .i64 r,.int .u8 u,.string w,.slice b d e,.int .i64 x])),.a (.p 0 g 0)]) (own:=[⟨g,3,false,[.a (.v (.int .i64 c))]⟩]) (keep:=[0]) [32] func41 h
def jv.V(ka:Nat→Int→Int→Int→Int→Int→Bs→OA→Nat→Nat→Int→OA→Nat→Nat→Int→Nat×Obj)(kb:Nat→Bs→OA→Nat→Nat→Int→Nat×Obj)(s:Nat→Nat×Obj)(vb vi:Int→Value)(vs:Bs→Value)(vl:OA→Nat→Nat→Value)(wr:Int→Int)(aI:Bs)(av:OA)(aw ax:Nat)(ay:OA)(az aA:Nat)(ap:OA)(ah aB:Nat)(I:b8)(F:bZ)(Q:cc)(Inv21:OA→OA→Nat→Nat→Int→Nat→b8→bZ→b8→bZ→Prop)(Inv44:OA→OA→Nat→Nat→Int→OA→Int→Int→Nat→b8→bZ→b8→bZ→Prop):Prop:=∀h:Nat,de P 39 #[.agg #[vs aI,vl av aw ax,vl ay az aA,vl ap ah aB]] I ((s h)::·) F fun e1 I1 G1=>∃(r:Value),e1=.returned r∧G1 fun F1=>∃q:Bool,cP P .neq 44 (.tmp 14) (.const (Value.nilIface)) r Value.nilIface q∧(It q (Q (.returned (.tuple #[vl none 0 0,r])) I1 F1) (cG P (Instr.makeSlice 42 (vi (ah:Int)) (vi (ah:Int))) I1 ((s h)::F1) fun v I2 G2=>∃(t:OA) (u aj:Nat),v=vl t u aj∧∃F2:bZ,List.Perm G2 ((s h)::F2)∧(∃m:Nat,Inv21 (some ⟨h,0,none⟩) t u aj 0 m I2 F2 I2 F2)∧∀(x:Int) (m1:Nat) (I3:b8) (F3:bZ),b8.le I2 I3→Inv21 (some ⟨h,0,none⟩) t u aj x m1 I2 F2 I3 F3→(Dt (x<(ah:Int)) ((0≤x∧x<(ah:Int))∧∃ad:Addr,ap=some ad∧∃(ae:Bs) (d:OA) (a i:Nat) (af:Int),Rd I3 ((s h)::F3) (ad.add (Int.toNat x*3)) [vs ae,vl d a i,vi af]∧∀w:Nat,(It ((a:Int)==0) (∃m2:Nat,m2<m1∧Inv21 (some ⟨h,0,none⟩) t u aj (wr (x+1)) m2 I2 F2 I3 F3) ((∃m3:Nat,Inv44 (some ⟨h,0,none⟩) t u aj x (some ⟨w,0,none⟩) 0 0 m3 I3 F3 I3 F3)∧∀(ao x1:Int) (m4:Nat) (I4:b8) (F4:bZ),b8.le I3 I4→Inv44 (some ⟨h,0,none⟩) t u aj x (some ⟨w,0,none⟩) ao x1 m4 I3 F3 I4 F4→(Dt (x1<(a:Int)) ((0≤x1∧x1<(a:Int))∧∃aE:Addr,d=some aE∧∃(n y o z aa:Int) (ab:Bs) (e:OA) (f g:Nat) (ac:Int) (j:OA) (k l:Nat) (ag:Int),Rd I4 ((s h)::(kb w ae d a i af)::F4) (aE.add (Int.toNat x1*10)) [vb n,vb y,vb o,vi z,vb aa,vs ab,vl e f g,vi ac,vl j k l,vi ag]∧∀ai:Nat,∀p:Nat,cd P 40 (#[.agg #[vb n,vb y,vb o,vi z,vb aa,vs ab,vl e f g,vi ac,vl j k l,vi ag],.func (.func 41) #[] #[.pointer (some ⟨p,0,none⟩)]]) I4 ((s h)::(kb w ae d a i af)::(ka ai n y o z aa ab e f g ac j k l ag)::(p,Obj.cells #[vi 0] 3 (0,0))::F4) fun e2 I5 G3=>e2=.returned (.tuple #[])∧∃(c:Int),∃F5:bZ,List.Perm G3 ((s h)::(kb w ae d a i af)::(ka ai n y o z aa ab e f g ac j k l ag)::(p,Obj.cells #[vi c] 3 (0,0))::F5)∧∀(b:Nat) (I6:b8),b8.le I5 I6→I6 b=some (Obj.cells #[vi c] 3 (0,0))→cJ P 42 (#[vi ao,vl (some ⟨b,0,none⟩) 1 1]) I6 ((s h)::(kb w ae d a i af)::(ka ai n y o z aa ab e f g ac j k l ag)::(p,Obj.cells #[vi c] 3 (0,0))::·) F5 vi fun r1 I7 F6=>∃(hb:Nat) (ho:Obj) (F7:bZ),List.Perm F6 ((hb,ho)::F7)∧((0≤x∧x<(u:Int))∧∃aF:Addr,t=some aF∧∃(m5:Int),Rd (b8.put I7 hb ho) ([]) ((aF.add (Int.toNat x*2)).add 1) [vi m5]∧cd P 43 #[.agg #[vb n,vb y,vb o,vi z,vb aa,vs ab,vl e f g,vi ac,vl j k l,vi ag]] (b8.put I7 hb ho) ((s h)::(kb w ae d a i af)::(ka ai n y o z aa ab e f g ac j k l ag)::(p,Obj.cells #[vi c] 3 (0,0))::F7) fun e4 I8 G5=>∃(r2:Int),e4=.returned (vi r2)∧∃F8:bZ,List.Perm G5 ((s h)::(kb w ae d a i af)::(ka ai n y o z aa ab e f g ac j k l ag)::(p,Obj.cells #[vi c] 3 (0,0))::F8)∧∀(b1:Nat) (I9:b8),b8.le I8 I9→I9 b1=some (Obj.cells #[vi r2] 3 (0,0))→cJ P 42 (#[vi m5,vl (some ⟨b1,0,none⟩) 1 1]) I9 ((s h)::(kb w ae d a i af)::(ka ai n y o z aa ab e f g ac j k l ag)::(p,Obj.cells #[vi c] 3 (0,0))::·) F8 vi fun r3 I10 F9=>((0≤x∧x<(u:Int))∧∃ak:Addr,t=some ak∧∃(cs:List Value) (el:Nat) (F10:bZ),List.Perm ((hb,ho)::F9) ((((ak.add (Int.toNat x*2)).add 1).block,Obj.cells cs.toArray el (0,0))::F10)∧((ak.add (Int.toNat x*2)).add 1).spot=none∧((ak.add (Int.toNat x*2)).add 1).off+1≤cs.length∧∃(an:Nat) (aq:Obj) (F11:bZ),List.Perm ((((ak.add (Int.toNat x*2)).add 1).block,Obj.cells (cf ((ak.add (Int.toNat x*2)).add 1).off [vi r3] cs).toArray el (0,0))::F10) ((an,aq)::F11)∧((0≤x∧x<(u:Int))∧∃aG:Addr,t=some aG∧∃(m6:Int),Rd (b8.put (b8.del I10 hb) an aq) ([]) ((aG.add (Int.toNat x*2)).add 0) [vi m6]∧cd P 32 #[.agg #[vb n,vb y,vb o,vi z,vb aa,vs ab,vl e f g,vi ac]] (b8.put (b8.del I10 hb) an aq) ((s h)::(kb w ae d a i af)::(ka ai n y o z aa ab e f g ac j k l ag)::(p,Obj.cells #[vi c] 3 (0,0))::F11) fun e6 I11 G7=>∃(r4:Int),e6=.returned (vi r4)∧∃F12:bZ,List.Perm G7 ((s h)::(kb w ae d a i af)::(ka ai n y o z aa ab e f g ac j k l ag)::(p,Obj.cells #[vi c] 3 (0,0))::F12)∧((0≤x∧x<(u:Int))∧∃al:Addr,t=some al∧∃(ar:List Value) (aC:Nat) (F13:bZ),List.Perm ((an,aq)::F12) ((((al.add (Int.toNat x*2)).add 0).block,Obj.cells ar.toArray aC (0,0))::F13)∧((al.add (Int.toNat x*2)).add 0).spot=none∧((al.add (Int.toNat x*2)).add 0).off+1≤ar.length∧(∃m7:Nat,m7<m4∧Inv44 (some ⟨h,0,none⟩) t u aj x (some ⟨w,0,none⟩) r1 (wr (x1+1)) m7 I3 F3 (b8.del I11 an) ((((al.add (Int.toNat x*2)).add 0).block,Obj.cells (cf ((al.add (Int.toNat x*2)).add 0).off [vi (wr (m6+r4))] ar).toArray aC (0,0))::F13))))))) ((0≤x∧x<(u:Int))∧∃aH:Addr,t=some aH∧∃(m8:Int),Rd I4 ((s h)::(kb w ae d a i af)::F4) ((aH.add (Int.toNat x*2)).add 0) [vi m8]∧((0≤x∧x<(u:Int))∧∃am:Addr,t=some am∧∃(au:List Value) (aD:Nat) (F14:bZ),List.Perm F4 ((((am.add (Int.toNat x*2)).add 0).block,Obj.cells au.toArray aD (0,0))::F14)∧((am.add (Int.toNat x*2)).add 0).spot=none∧((am.add (Int.toNat x*2)).add 0).off+1≤au.length∧(∃m9:Nat,m9<m1∧Inv21 (some ⟨h,0,none⟩) t u aj (wr (x+1)) m9 I2 F2 I4 ((((am.add (Int.toNat x*2)).add 0).block,Obj.cells (cf ((am.add (Int.toNat x*2)).add 0).off [vi (wr (m8+ao))] au).toArray aD (0,0))::F14)))))))) (Q (.returned (.tuple #[vl t u aj,Value.nilIface])) I3 F3))))
theorem jv.vc{x:Bs}{o:OA}{p q:Nat}{r:OA}{s t:Nat}{u:OA}{v w:Nat}{I:b8}{F:bZ}{Q:cc}(Inv21:OA→OA→Nat→Nat→Int→Nat→b8→bZ→b8→bZ→Prop)(Inv44:OA→OA→Nat→Nat→Int→OA→Int→Int→Nat→b8→bZ→b8→bZ→Prop)(h:jv.V (fun W a b c d e f g h i j k l m n=>(W,Obj.cells #[.int .u8 a,.int .u8 b,.int .u8 c,.int .i64 d,.int .u8 e,.string f,.slice g h i,.int .i64 j,.slice k l m,.int .i64 n] 84 (0,0))) (fun W a b c d e=>(W,Obj.cells #[.string a,.slice b c d,.int .i64 e] 65 (0,0))) (fun b=>(b,Obj.cells #[.string x,.slice o p q,.slice r s t,.slice u v w] 39 (0,0))) (.int .u8) (.int .i64) .string .slice (IntKind.wrap .i64) x o p q r s t u v w I F Q Inv21 Inv44):cd P 19 #[.agg #[.string x,.slice o p q,.slice r s t,.slice u v w]] I F Q :=
 tw (A:=(cO [2001,6000,8003,11000] [] [32,39,40,42,43] lL [(21,⟨[(24,(.int .i64))],[],fun fs I0 F0 vs m I F=>match fs,vs with | [.pointer y0,.slice y1 y2 y3],[.int _ y4]=>Inv21 y0 y1 y2 y3 y4 m I0 F0 I F | _,_=>False,[1,5],[]⟩),(44,⟨[(8,(.int .i64)),(36,(.int .i64))],[],fun fs I0 F0 vs m I F=>match fs,vs with | [.pointer y0,.slice y1 y2 y3,.int _ y4,.pointer y5],[.int _ y6,.int _ y7]=>Inv44 y0 y1 y2 y3 y4 y5 y6 y7 m I0 F0 I F | _,_=>False,[1,5,6,7],[]⟩)] [15002,16009] [] [] [] [] [] [] [] [(16,[6,1000],.fin [0,1,2,3,4,5,6,7,8,9,10,11,12] [13]),(17,[4,1000],.fin [0,1,2,3,5,4,6,7,8,9,10] [11])])) [32,39,40,42,43] func19 h
def gJ.V(ka:Nat→Int→Int→Nat×Obj)(g:Nat→Nat×Obj)(vi:Int→Value)(vl:OA→Nat→Nat→Value)(z:Bs)(n:OA)(o p:Nat)(s:OA)(t u:Nat)(v:OA)(w y:Nat)(I:b8)(F:bZ)(Q:cc)(Inv18:OA→OA→Nat→Nat→OA→Int→Int→Int→Nat→b8→bZ→b8→bZ→Prop):Prop:=∀d:Nat,∀b:Nat,de P 19 #[.agg #[.string z,vl n o p,vl s t u,vl v w y]] I ((g d)::(ka b 0 0)::·) F fun e1 I1 G1=>∃(k:OA) (i l:Nat) (r1:Value),e1=.returned (.tuple #[vl k i l,r1])∧G1 fun F1=>∃q:Bool,cP P .neq 44 (.tmp 14) (.const (Value.nilIface)) r1 Value.nilIface q∧(It q (Q (.returned (.tuple #[.agg #[vi 0,vi 0],r1])) I1 F1) (∀e:Nat,(∃m:Nat,Inv18 (some ⟨d,0,none⟩) k i l (some ⟨e,0,none⟩) 0 0 0 m I1 F1 I1 F1)∧∀(x a c:Int) (m1:Nat) (I2:b8) (F2:bZ),b8.le I1 I2→Inv18 (some ⟨d,0,none⟩) k i l (some ⟨e,0,none⟩) x a c m1 I1 F1 I2 F2→(Dt (x<(i:Int)) ((0≤x∧x<(i:Int))∧∃ad:Addr,k=some ad∧∃(h f:Int),Rd I2 ((g d)::(ka b 0 0)::(ka e a c)::F2) (ad.add (Int.toNat x*2)) [vi h,vi f]∧∀j:Nat,(∀(b1:Nat) (I3:b8),b8.le I2 I3→I3 b1=some (Obj.cells #[vi h] 3 (0,0))→(cJ P 42 (#[vi a,vl (some ⟨b1,0,none⟩) 1 1]) I3 ((g d)::(ka b 0 0)::(ka e a c)::(ka j h f)::·) F2 vi fun r I4 F3=>∀(b2:Nat) (I5:b8),b8.le I4 I5→I5 b2=some (Obj.cells #[vi f] 3 (0,0))→cJ P 42 (#[vi c,vl (some ⟨b2,0,none⟩) 1 1]) I5 ((g d)::(ka b 0 0)::(ka e a c)::(ka j h f)::·) F3 vi fun r2 I6 F4=>(∃m2:Nat,m2<m1∧Inv18 (some ⟨d,0,none⟩) k i l (some ⟨e,0,none⟩) (IntKind.wrap .i64 (x+1)) r r2 m2 I1 F1 I6 F4))∧(∀(b3:Nat) (I7:b8),b8.le I3 I7→I7 b3=some (Obj.cells #[vi f] 3 (0,0))→cJ P 42 (#[vi a,vl (some ⟨b1,0,none⟩) 1 1]) I7 ((g d)::(ka b 0 0)::(ka e a c)::(ka j h f)::·) F2 vi fun r3 I8 F5=>cJ P 42 (#[vi c,vl (some ⟨b3,0,none⟩) 1 1]) I8 ((g d)::(ka b 0 0)::(ka e a c)::(ka j h f)::·) F5 vi fun r4 I9 F6=>(∃m3:Nat,m3<m1∧Inv18 (some ⟨d,0,none⟩) k i l (some ⟨e,0,none⟩) (IntKind.wrap .i64 (x+1)) r3 r4 m3 I1 F1 I9 F6)))∧(∀(b4:Nat) (I10:b8),b8.le I2 I10→I10 b4=some (Obj.cells #[vi f] 3 (0,0))→∀(b5:Nat) (I11:b8),b8.le I10 I11→I11 b5=some (Obj.cells #[vi h] 3 (0,0))→cJ P 42 (#[vi a,vl (some ⟨b5,0,none⟩) 1 1]) I11 ((g d)::(ka b 0 0)::(ka e a c)::(ka j h f)::·) F2 vi fun r5 I12 F7=>cJ P 42 (#[vi c,vl (some ⟨b4,0,none⟩) 1 1]) I12 ((g d)::(ka b 0 0)::(ka e a c)::(ka j h f)::·) F7 vi fun r6 I13 F8=>(∃m4:Nat,m4<m1∧Inv18 (some ⟨d,0,none⟩) k i l (some ⟨e,0,none⟩) (IntKind.wrap .i64 (x+1)) r5 r6 m4 I1 F1 I13 F8))) (Dt (a>500) (∀b6:Nat,Q (.returned (.tuple #[.agg #[vi 0,vi 0],Value.iface 89 (.pointer (some (⟨b6,0,none⟩:Addr)))])) I2 (((b6,Obj.cells #[.string (⟨#[83,116,114,97,116,101,103,121]⟩:Bs),vi 0,Value.iface 47 (vi 160)] 93 (0,0))::F2))) (Q (.returned (.tuple #[.agg #[vi a,vi c],Value.nilIface])) I2 F2)))))
theorem gJ.vc{n:Bs}{c:OA}{d e:Nat}{f:OA}{g i:Nat}{j:OA}{k l:Nat}{I:b8}{F:bZ}{Q:cc}(Inv18:OA→OA→Nat→Nat→OA→Int→Int→Int→Nat→b8→bZ→b8→bZ→Prop)(h:gJ.V (fun W a b=>(W,Obj.cells #[.int .i64 a,.int .i64 b] 57 (0,0))) (fun b=>(b,Obj.cells #[.string n,.slice c d e,.slice f g i,.slice j k l] 39 (0,0))) (.int .i64) .slice n c d e f g i j k l I F Q Inv18):cd P 24 #[.agg #[.string n,.slice c d e,.slice f g i,.slice j k l]] I F Q :=
 tw (A:=(cO [2001,6000,10002] [] [19,42] lL [(18,⟨[(20,(.int .i64))],[(2,[(.int .i64),(.int .i64)])],fun fs I0 F0 vs m I F=>match fs,vs with | [.pointer y0,.slice y1 y2 y3,.pointer y4],[.int _ y5,.int _ y6,.int _ y7]=>Inv18 y0 y1 y2 y3 y4 y5 y6 y7 m I0 F0 I F | _,_=>False,[1,4,6],[]⟩)] [8004,8010] [11003] [] [] [] [] [] [] [(8,[1,3,7,9],.fork [0,2,6,8,1,3,7,9] 4 10 (.fork [] 5 10 (.fin [12,10,11] [13,14,15]) (.fin [5,12,11] [13,14,15])) (.fin [4,5,12,11] [13,14,15]))])) [19,42] func24 h
def Bq:List (Nat×List Sh):=[(3,[.one (.int .i64)]),(4,[.one .bool]),(22,[.one (.int .u8)]),(28,[.agg [(.int .u8),(.int .u8),(.int .u8),(.int .i64),(.int .u8),.str,.slc,(.int .i64)]]),(42,[.one .slc]),(45,[.one .slc,.one .any]),(51,[.agg [(.int .i64),(.int .i64),.bool]]),(52,[.one .slc,.agg [(.int .i64),(.int .i64),.bool]]),(57,[.agg [(.int .i64),(.int .i64)]]),(58,[.agg [(.int .i64),(.int .i64)],.one .any]),(65,[.agg [.str,.slc,(.int .i64)]]),(69,[.agg [(.int .u8),(.int .u8),(.int .u8),(.int .i64),(.int .u8),.str,.slc,(.int .i64)],.agg [(.int .i64),(.int .i64),.bool]]),(71,[.agg [.str,.slc,.slc,.slc],.agg [(.int .i64),(.int .i64),.bool]]),(84,[.agg [(.int .u8),(.int .u8),(.int .u8),(.int .i64),(.int .u8),.str,.slc,(.int .i64),.slc,(.int .i64)]]),(99,[.agg [(.int .u8),(.int .u8),.str,(.int .u8),(.int .u8),(.int .u8),(.int .i64),(.int .u8),.str,.slc,(.int .i64),(.int .u8),(.int .u8),(.int .u8),(.int .i64),(.int .u8),.str,.slc,(.int .i64),(.int .u8),(.int .u8),(.int .u8),(.int .i64),(.int .u8),.str,.slc,(.int .i64),(.int .u8),(.int .u8),(.int .u8),(.int .i64),(.int .u8),.str,.slc,(.int .i64),(.int .i64)]]),(129,[.one (.int .i64),.one (.int .i64)])]
def jw.V(ka:Nat→Int→Int→Bool→Nat×Obj)(kb:Nat→Bs→OA→Nat→Nat→OA→Nat→Nat→OA→Nat→Nat→Nat×Obj)(kc:Nat→Int→Int→Nat×Obj)(nV:Int→Int→Int→Int→Int→Bs→OA→Nat→Nat→Int→Value)(nO:Int→Int→Int→Int→Int→Bs→OA→Nat→Nat→Int→Obj)(vi:Int→Value)(vs:Bs→Value)(vl:OA→Nat→Nat→Value)(vt:Bool→Value)(I:b8)(F:bZ)(Q:cc)  : Prop:=de P 28 (#[vs (⟨#[100,111,110,101,32,63,32,98,105,100,32,58,32,98,105,100,32,43,32,49,112]⟩:Bs)]) I (·) F fun e1 I1 G1=>∃(s t u v w:Int) (x:Bs) (a:OA) (b c:Nat) (y z aa:Int) (ab:Bool),e1=.returned (.tuple #[nV s t u v w x a b c y,.agg #[vi z,vi aa,vt ab]])∧G1 fun F1=>∀ae:Nat,∀af:Nat,de P 29 (#[vs (⟨#[115,116,114,97,116,101,103,121,32,115,32,123,32,114,101,103,32,110,32,105,110,116,32,61,32,48,59,32,115,108,111,116,32,111,59,32,115,116,97,116,101,32,97,32,123,32,119,104,101,110,32,104,97,115,32,98,105,100,32,100,111,32,115,117,98,109,105,116,32,98,117,121,32,111,102,32,50,113,32,97,116,32,98,105,100,32,43,32,49,112,32,108,105,109,105,116,44,32,104,97,108,116,59,32,119,104,101,110,32,110,111,119,32,62,32,53,116,32,100,111,32,115,101,116,32,110,32,61,32,110,32,43,32,49,44,32,99,97,110,99,101,108,32,111,44,32,99,97,110,99,101,108,32,111,59,32,125,32,115,116,97,116,101,32,98,32,123,125,32,125]⟩:Bs)]) I1 ((ae,nO s t u v w x a b c y)::(ka af z aa ab)::·) F1 fun e2 I2 G2=>∃(m:Bs) (d:OA) (e f:Nat) (g:OA) (h i:Nat) (j:OA) (k l:Nat) (n o:Int) (p:Bool),e2=.returned (.tuple #[.agg #[vs m,vl d e f,vl g h i,vl j k l],.agg #[vi n,vi o,vt p]])∧G2 fun F2=>∀ai:Nat,∀ac:Nat,cJ P 12 #[nV s t u v w x a b c y] I2 ((ae,nO s t u v w x a b c y)::(ka af z aa ab)::(kb ai m d e f g h i j k l)::(ka ac n o p)::·) F2 vi fun r I3 F3=>cJ P 12 (#[nV 0 0 0 0 0 (⟨#[]⟩:Bs) none 0 0 0]) I3 ((ae,nO s t u v w x a b c y)::(ka af z aa ab)::(kb ai m d e f g h i j k l)::(ka ac n o p)::·) F3 vi fun r1 I4 F4=>de P 24 #[.agg #[vs m,vl d e f,vl g h i,vl j k l]] I4 ((ae,nO s t u v w x a b c y)::(ka af z aa ab)::(kb ai m d e f g h i j k l)::(ka ac n o p)::·) F4 fun e5 I5 G5=>∃(ag ah:Int) (ap:Value),e5=.returned (.tuple #[.agg #[vi ag,vi ah],ap])∧G5 fun F5=>∀ak:Nat,de P 19 #[.agg #[vs m,vl d e f,vl g h i,vl j k l]] I5 ((ae,nO s t u v w x a b c y)::(ka af z aa ab)::(kb ai m d e f g h i j k l)::(ka ac n o p)::(kc ak ag ah)::·) F5 fun e6 I6 G6=>∃(al:OA) (aj aw:Nat) (aq:Value),e6=.returned (.tuple #[vl al aj aw,aq])∧G6 fun F6=>de P 19 (#[.agg #[vs (⟨#[]⟩:Bs),vl none 0 0,vl none 0 0,vl none 0 0]]) I6 ((ae,nO s t u v w x a b c y)::(ka af z aa ab)::(kb ai m d e f g h i j k l)::(ka ac n o p)::(kc ak ag ah)::·) F6 fun e7 I7 G7=>∃(am:OA) (an ao:Nat) (ar:Value),e7=.returned (.tuple #[vl am an ao,ar])∧G7 fun F7=>(It (r==6) (It (r1==0) (∃q:Bool,cP P .eql 44 (.tmp 47) (.const (Value.nilIface)) ap Value.nilIface q∧(It q (∃q1:Bool,cP P .eql 57 (.tmp 51) (.tmp 52) (.agg #[vi ag,vi ah]) (.agg #[vi 9,vi 2]) q1∧(It q1 (∃q2:Bool,cP P .eql 44 (.tmp 56) (.const (Value.nilIface)) aq Value.nilIface q2∧(It q2 (It ((aj:Int)==2) ((0≤(1:Int)∧(1:Int)<(aj:Int))∧∃ad:Addr,al=some ad∧∃(au av:Int),Rd I7 ((ae,nO s t u v w x a b c y)::(ka af z aa ab)::(kb ai m d e f g h i j k l)::(ka ac n o p)::(kc ak ag ah)::F7) (ad.add (Int.toNat 1*2)) [vi au,vi av]∧∃q3:Bool,cP P .eql 57 (.tmp 67) (.tmp 68) (.agg #[vi au,vi av]) (.agg #[vi 0,vi 0]) q3∧(It q3 (∃q4:Bool,cP P .neq 44 (.tmp 72) (.const (Value.nilIface)) ar Value.nilIface q4∧Q (.returned (vt q4)) I7 F7) (Q (.returned (vt false)) I7 F7))) (Q (.returned (vt false)) I7 F7)) (Q (.returned (vt false)) I7 F7))) (Q (.returned (vt false)) I7 F7))) (Q (.returned (vt false)) I7 F7))) (Q (.returned (vt false)) I7 F7)) (Q (.returned (vt false)) I7 F7))
theorem jw.vc  {I:b8}{F:bZ}{Q:cc}  (h:jw.V (fun W a b c=>(W,Obj.cells #[.int .i64 a,.int .i64 b,.bool c] 68 (0,0))) (fun W a b c d e f g h i j=>(W,Obj.cells #[.string a,.slice b c d,.slice e f g,.slice h i j] 39 (0,0))) (fun W a b=>(W,Obj.cells #[.int .i64 a,.int .i64 b] 57 (0,0))) (fun k o t n f s a l c q=>.agg #[.int .u8 k,.int .u8 o,.int .u8 t,.int .i64 n,.int .u8 f,.string s,.slice a l c,.int .i64 q]) (fun k o t n f s a l c q=>.cells #[.int .u8 k,.int .u8 o,.int .u8 t,.int .i64 n,.int .u8 f,.string s,.slice a l c,.int .i64 q] 28 (0,0)) (.int .i64) .string .slice .bool I F Q):cd P 9 #[] I F Q :=
 tw (A:=(an [8001,8004,8008,8013,8017,8022,8029] [12,19,24,28,29] Bq)) [12,19,24,28,29] func9 h
def gK.V(nO:Int→Int→Int→Int→Int→Bs→OA→Nat→Nat→Int→Obj)(vb vi:Int→Value)(d e f g h:Int)(i:Bs)(a:OA)(b c:Nat)(j:Int)(I:b8)(F:bZ)(Q:cc)  : Prop:=∀k:Nat,cJ P 30 #[.agg #[vb d,vb e,vb f,vi g,vb h,.string i,.slice a b c,vi j],vi 0,vi 0] I ((k,nO d e f g h i a b c j)::·) F vi fun r I1 F1=>Q (.returned (.bool (decide (r>1048576)))) I1 (F1)
theorem gK.vc{g i j m p:Int}{r:Bs}{b:OA}{d e:Nat}{u:Int}{I:b8}{F:bZ}{Q:cc}  (h:gK.V (fun k o t n f s a l c q=>.cells #[.int .u8 k,.int .u8 o,.int .u8 t,.int .i64 n,.int .u8 f,.string s,.slice a l c,.int .i64 q] 28 (0,0)) (.int .u8) (.int .i64) g i j m p r b d e u I F Q):cd P 10 #[.agg #[.int .u8 g,.int .u8 i,.int .u8 j,.int .i64 m,.int .u8 p,.string r,.slice b d e,.int .i64 u]] I F Q :=
 tw (A:=(an [] [30] Bq)) [30] func10 h
end Go.Lx
namespace Go.Vc
section
variable {P:Program} {f:FuncId} {args:Array Value} {v:Value}
theorem cd.D6{I:b8}{F:bZ}{b:Nat}{o:Obj}(h:∀J,b8.le I J→J b=some o→cd P f args J F (Go.Lx.gq v F)):cd P f args I ((b,o)::F) (Go.Lx.gq v ((b,o)::F)):=fun w hw=>by
 have hb:=hw.off b o (List.mem_cons_self ..)
 obtain⟨hl,hs⟩:=hw.jc
 refine (h (I.put b o) hl (b8.iA I b o) w hs).mono fun e w' ⟨I',F',g1,g2,g3,g4⟩=>?_
 subst g4
 obtain⟨d1,d2⟩:=Sat.wR hb g1 g2
 exact⟨I'.del b,(b,o)::F',d1,d2,g3,rfl⟩
theorem cd.CC:∀(A:bZ) {I:b8} {F:bZ} (h:∀J,b8.le I J→(∀x∈A,J x.1=some x.2)→cd P f args J F (Go.Lx.gq v F)),cd P f args I (A++F) (Go.Lx.gq v (A++F))
 | [],I,F,h=>h I (b8.le_refl I) fun x hx=>absurd hx (by simp)
 | (b,o)::A,I,F,h=>cd.D6 fun J hJ hb=>cd.CC A fun K hK hA=>h K (b8.le_trans hJ hK) fun x hx=>by
   rcases List.mem_cons.1 hx with rfl | hx
   ·exact hK.at hb
   ·exact hA x hx
theorem cd.xY{F:bZ}{I:b8}(h:∀J,b8.le I J→(∀x∈F,J x.1=some x.2)→cd P f args J [] (Go.Lx.gq v [])):cd P f args I F (Go.Lx.gq v F):=by
 have:=cd.CC (f:=f) (args:=args) (v:=v) F (F:=[]) h
 rwa [List.append_nil] at this
end
theorem Rd.xY{I J:b8}{G:bZ}{ad:Addr}{cs:List Value}(h:Rd I G ad cs)(hl:b8.le I J)(hs:∀x∈G,J x.1=some x.2):Rd J [] ad cs:=by
 obtain⟨h1,cells,e,fz,h2,h3⟩:=h
 exact⟨h1,cells,e,fz,.inl (h2.elim (fun h=>hl.at h) fun h=>hs _ h),h3⟩
theorem fV.xY{α:Type}{I J:b8}{G:bZ}{z:Nat}{f:α→List Value}{a:Option Addr}{n:Nat}{l:List α}(h:fV I G z f a n l)(hl:b8.le I J)(hs:∀x∈G,J x.1=some x.2):fV J [] z f a n l :=
 ⟨h.1,fun hne=>let ⟨ad,ha,hr⟩:=h.2 hne;⟨ad,ha,fun i x hx=>(hr i x hx).xY hl hs⟩⟩
end Go.Vc
namespace Go.Lx
open Go.Vc
theorem cB.xY{I J:b8}{G:bZ}{t:Nd}(h:cB I G t)(hl:b8.le I J)(hs:∀x∈G,J x.1=some x.2):cB J [] t:=by
 induction h with
 | mk h1 h2 ih=>exact .mk (h1.xY hl hs) ih
def Dm(x:Int):List Value:=[.int .i64 x]
theorem sx(first:Int){a:Option Addr}{n c:Nat}{l:List Int}{I:b8}{F:bZ}(hS:fV I F 1 Dm a n l)(hn:(n:Int)≤1000000000):cd P 42 #[.int .i64 first,.slice a n c] I F (gq (.int .i64 (gV first l)) F):=by
 refine gH.vc (fun m i k I' F'=>0≤i∧i≤n∧k=(n-i).toNat∧gV first l=gV m (l.drop i.toNat)∧F'=F) ?_
 unfold gH.V
 have hl:=hS.1
 refine⟨⟨_,by omega,by omega,rfl,rfl,rfl⟩,fun m i k I1 F1 hI ⟨g0,g1,gk,gm,gF⟩=>⟨fun hlt=>?_,fun hlt=>⟨?_,gF⟩⟩⟩
 ·have hlt:=of_decide_eq_true hlt
  subst gF
  obtain⟨ad,x,had,hx,hrd⟩:=(hS.mono hI fun _ h=>h).at g0 hlt
  refine⟨⟨g0,hlt⟩,ad,had,x,hrd,(n-(i+1)).toNat,by omega, ?_⟩
  rw[eh (n:=i+1) (by omega)]
  refine⟨by omega,by omega,rfl, ?_,rfl⟩
  have hd:l.drop i.toNat=x::l.drop (i.toNat+1):=by
   have hk:i.toNat<l.length:=by omega
   rw[List.drop_eq_getElem_cons hk]
   rw[List.getElem?_eq_getElem hk] at hx
   cases hx;rfl
  rw[gm,hd,show (i+1).toNat=i.toNat+1 by omega]
  show gV (max m x) _=_
  congr 1
  split<;>omega
 ·have hlt:=of_decide_eq_false hlt
  rw[gm,List.drop_eq_nil_of_le (by omega)];rfl
theorem fi(first x:Int){b t:Nat}{fz:Nat×Nat}{I:b8}{F:bZ}(hb:I b=some (.cells #[.int .i64 x] t fz)):cd P 42 #[.int .i64 first,.slice (some ⟨b,0,none⟩) 1 1] I F (gq (.int .i64 (max first x)) F):=by
 have h:fV I F 1 Dm (some ⟨b,0,none⟩) 1 [x]:=(Sl.jQ (f:=Dm) (z:=1) (l:=[x]) (fun _=>rfl) hb (fun k hk=>by
  have:k<1:=hk
  have:k=0:=by omega
  subst this;rfl)).zd F
 exact sx first h (by omega)
theorem z0{l:List Nd}{i:Nat}{x:Nd}(h:l[i]? = some x):eb ((l.drop i).map fun y=>y.px.wt)=x.px.wt+eb ((l.drop (i+1)).map fun y=>y.px.wt):=by
 obtain⟨hk,hx⟩:=List.getElem?_eq_some_iff.1 h
 rw[List.drop_eq_getElem_cons hk,List.map_cons,eb,hx]
theorem yL:∀{l:List Nd},(∀k∈l,k.px.formed=true)→0≤eb (l.map fun y=>y.px.wt)∧eb (l.map fun y=>y.px.wt)≤2*Px.dQ (l.map Nd.px)
 | [],_=>⟨Int.le_refl 0,Int.le_refl 0⟩
 | x::r,h=>by
   have h1:=Px.iW x.px (h x (.head _))
   have h2:=yL fun k hk=>h k (.tail _ hk)
   rw[List.map_cons,List.map_cons,eb,Px.dQ]
   omega
theorem Ci(t:Nd):t.px.wt=Dl t.kind (t.kids.map fun y=>y.px.wt):=by rw[Px.CB,Nd.cQ,Nd.dH,List.map_map];rfl
theorem ui:∀(t:Nd),t.px.size≤4194304→t.px.formed=true→∀(I:b8) (F:bZ),cB I [] t→cd P 32 #[t.v] I F (gq (.int .i64 t.px.wt) F):=by
 refine Nd.ind fun t ih hs hf I F ht=>?_
 have hln:=lu hs
 have hr:=Px.iW t.px hf
 have h1:t.px.fT=true:=by rw[Px.dY,Bool.and_eq_true] at hf;exact hf.1
 have hl:(t.kids.length:Nat)=Px.arity t.px:=by
  unfold Px.fT at h1
  rw[Bool.and_eq_true,decide_eq_true_eq,Nd.dH,List.length_map] at h1
  exact h1.2
 have hkf:∀k∈t.kids,k.px.formed=true:=fun k hk=>Px.kq hf _ (by rw[Nd.dH];exact List.mem_map_of_mem hk)
 have hat:∀{J:b8} {G:bZ} {i:Int},b8.le I J→0≤i→i<t.kids.length→∃ad x,t.a=some ad∧t.kids[i.toNat]? = some x∧Rd J G (ad.add (Int.toNat i*8)) x.enc ∧
   (1≤x.px.wt∧x.px.wt+1≤2*x.px.size)∧x.px.size≤4194304∧∀(K:b8) (H:bZ),b8.le J K→cd P 32 #[x.v] K H (gq (.int .i64 x.px.wt) H):=by
  intro J G i hJ g0 hlt
  obtain⟨ad,x,had,hx,hrd,hxo,hxm⟩:=(ht.mono hJ fun _ h=>h).kids.at g0 hlt
  exact⟨ad,x,had,hx,hrd.sub (b8.le_refl J) (fun _ h=>absurd h (by simp)),Px.iW _ (hkf x hxm),jT hxm hs,fun K H hK=>ih x hxm (jT hxm hs) (hkf x hxm) K H (hxo.mono hK fun _ h=>h)⟩
 have hwt:=Ci t
 refine ju.vc (fun _ sum i m I0 F0 I' F'=>0≤i∧i≤t.kids.length∧m=(t.kids.length-i).toNat∧1≤sum∧t.px.wt=sum+eb ((t.kids.drop i.toNat).map fun y=>y.px.wt)∧F'=F) ?_
 unfold ju.V
 intro b_n
 refine⟨fun h7=>?_,fun h7=>⟨fun h9=>?_,fun h9=>⟨?_,fun sum i m I1 F1 hI ⟨g0,g1,gm,g2,gs,gF⟩=>⟨fun hlt=>?_,fun hlt=>⟨?_,gF⟩⟩⟩⟩⟩
 ·have h7:t.kind=7:=by simpa using h7
  have h3:t.kids.length=3:=by rw[hl];unfold Px.arity;rw[Nd.cQ,h7];rfl
  obtain⟨ad0,x0,ha0,hx0,hr0,hw0,hs0,ht0⟩:=hat (i:=0) (G:=(b_n,.cells t.enc.toArray 28 (0,0))::F) (b8.le_refl I) (by omega) (by omega)
  obtain⟨ad1,x1,ha1,hx1,hr1,hw1,hs1,ht1⟩:=hat (i:=1) (G:=[]) (b8.le_refl I) (by omega) (by omega)
  obtain⟨ad2,x2,ha2,hx2,hr2,hw2,hs2,ht2⟩:=hat (i:=2) (G:=[]) (b8.le_refl I) (by omega) (by omega)
  refine⟨⟨by omega,by omega⟩,ad0,ha0,⟨by omega,by omega⟩,ad1,ha1,_,_,_,_,_,_,_,_,_,_,hr1,⟨by omega,by omega⟩,ad2,ha2,_,_,_,_,_,_,_,_,_,_,hr2,_,_,_,_,_,_,_,_,_,_,hr0, ?_⟩
  refine cd.ret (ht0 I _ (b8.le_refl I)) fun I1 l1=>⟨_,rfl,F,.refl _,cd.ret (ht1 I1 _ l1) fun I2 l2=>⟨_,rfl,F,.refl _,cd.ret (ht2 I2 _ (b8.le_trans l1 l2)) fun I3 l3=>⟨_,rfl,F,.refl _,fun b I4 l4 hb =>
   cd.ret (fi x1.px.wt x2.px.wt hb) fun I5 l5=>⟨_,rfl,F,.refl _, ?_,rfl⟩⟩⟩⟩
  rw[eh (n:=x0.px.wt+max x1.px.wt x2.px.wt) (by omega),eh (by omega),hwt]
  unfold Dl
  rw[if_pos h7]
  match hk:t.kids,h3 with
  | [a,b,c],_ =>
    rw[hk] at hx0 hx1 hx2
    cases hx0;cases hx1;cases hx2
    rfl
 ·have h7:t.kind≠7:=by simpa using h7
  have h9:t.kind=9:=by simpa using h9
  have h3:t.kids.length=1:=by rw[hl];unfold Px.arity;rw[Nd.cQ,h9];rfl
  obtain⟨ad0,x0,ha0,hx0,hr0,hw0,hs0,ht0⟩:=hat (i:=0) (G:=(b_n,.cells t.enc.toArray 28 (0,0))::F) (b8.le_refl I) (by omega) (by omega)
  refine⟨⟨by omega,by omega⟩,ad0,ha0,_,_,_,_,_,_,_,_,_,_,hr0,cd.ret (ht0 I _ (b8.le_refl I)) fun I1 l1=>⟨_,rfl,F,.refl _, ?_,rfl⟩⟩
  rw[hwt]
  unfold Dl
  rw[if_neg h7,if_pos h9]
  match hk:t.kids,h3 with
  | [a],_ =>
    rw[hk] at hx0
    cases hx0
    show _=Ending.returned (Value.int .i64 (0+(x0.px.wt+0)))
    rw[Int.add_zero,Int.zero_add]
 ·have h7:t.kind≠7:=by simpa using h7
  have h9:t.kind≠9:=by simpa using h9
  refine⟨_,by omega,by omega,rfl,by omega, ?_,rfl⟩
  rw[hwt]
  unfold Dl
  rw[if_neg h7,if_neg h9];rfl
 ·have hlt:=of_decide_eq_true hlt
  subst gF
  obtain⟨ad0,x0,ha0,hx0,hr0,hw0,hs0,ht0⟩:=hat (G:=(b_n,.cells t.enc.toArray 28 (0,0))::F1) hI g0 hlt
  have hd:=yL (l:=t.kids.drop (i.toNat+1)) fun k hk=>hkf k (List.mem_of_mem_drop hk)
  rw[z0 hx0] at gs
  refine⟨⟨g0,hlt⟩,ad0,ha0,_,_,_,_,_,_,_,_,_,_,hr0,fun b_k=>cd.ret (ht0 I1 _ (b8.le_refl I1)) fun I2 l2=>⟨_,rfl,F1,.refl _,(t.kids.length-(i+1)).toNat,by omega, ?_⟩⟩
  rw[eh (n:=i+1) (by omega),eh (n:=sum+x0.px.wt) (by omega)]
  refine⟨by omega,by omega,rfl,by omega, ?_,rfl⟩
  rw[gs,show (i+1).toNat=i.toNat+1 by omega,Int.add_assoc]
 ·have hlt:=of_decide_eq_false hlt
  rw[gs,List.drop_eq_nil_of_le (by omega)]
  show _=Ending.returned (Value.int .i64 (sum+0))
  rw[Int.add_zero]
theorem lM(t:Nd)(hs:t.px.size≤4194304)(hf:t.px.formed=true)(I:b8)(F:bZ)(ht:cB I F t):cd P 32 #[t.v] I F (gq (.int .i64 t.px.wt) F) :=
 cd.xY fun J hJ hF=>ui t hs hf J [] (ht.xY hJ hF)
theorem fP:∀{l:List Int},(∀x∈l,0≤x)→0≤eb l
 | [],_=>Int.le_refl 0
 | x::r,h=>by
   have h1:=h x (.head _)
   have h2:=fP fun y hy=>h y (.tail _ hy)
   rw[eb];omega
theorem mu{B:Int}:∀{l:List Int},(∀x∈l,x≤B)→eb l≤B*l.length
 | [],_=>by rw[eb];simp
 | x::r,h=>by
   have h1:=h x (.head _)
   have h2:=mu fun y hy=>h y (.tail _ hy)
   rw[eb,List.length_cons,Int.natCast_add,Int.mul_add];omega
structure Px.Part (x:Px):Prop where
 ok:x.kind=0∨x.formed=true
 size:x.size≤1048576
theorem Px.Part.range{x:Px}(h:x.Part):0≤gj x∧gj x≤2097152:=by
 unfold gj
 split
 ·omega
 ·rename_i h0
  have:=Px.iW x (h.ok.resolve_left h0)
  have:=h.size
  omega
def dO.Sound(d:dO):Prop:=∀x∈d.oh,x.Part
theorem dO.Sound.range{d:dO}(h:d.Sound):0≤d.wt∧d.wt≤8388608:=by
 have h1:=(h d.side (.head _)).range
 have h2:=(h d.qty (.tail _ (.head _))).range
 have h3:=(h d.price (.tail _ (.tail _ (.head _)))).range
 have h4:=(h d.value (.tail _ (.tail _ (.tail _ (.head _))))).range
 unfold dO.wt;omega
structure cL.Sound (r:cL):Prop where
 when:r.when.formed=true
 size:r.when.size≤1048576
 len:r.dos.length≤8
 dos:∀d∈r.dos,d.Sound
theorem cL.Sound.body{r:cL}(h:r.Sound):0≤r.body∧r.body≤67108864:=by
 have h1:=fP (l:=r.dos.map dO.wt) fun x hx=>by obtain⟨d,hd,rfl⟩:=List.mem_map.1 hx;exact (h.dos d hd).range.1
 have h2:=mu (B:=8388608) (l:=r.dos.map dO.wt) fun x hx=>by obtain⟨d,hd,rfl⟩:=List.mem_map.1 hx;exact (h.dos d hd).range.2
 rw[List.length_map] at h2
 have h3:=h.len
 unfold cL.body;omega
theorem dO.oZ(d:dO):0≤d.act∧d.act≤1:=by unfold dO.act;split<;>omega
theorem cL.rT(r:cL):0≤r.gp∧r.gp≤r.dos.length:=by
 have h1:=fP (l:=r.dos.map dO.act) fun x hx=>by obtain⟨d,hd,rfl⟩:=List.mem_map.1 hx;exact d.oZ.1
 have h2:=mu (B:=1) (l:=r.dos.map dO.act) fun x hx=>by obtain⟨d,hd,rfl⟩:=List.mem_map.1 hx;exact d.oZ.2
 rw[List.length_map] at h2
 unfold cL.gp;omega
structure cC.Sound (x:cC):Prop where
 len:x.rules.length≤12
 rules:∀r∈x.rules,r.Sound
structure cu.Sound (s:cu):Prop where
 some:0<s.states.length
 len:s.states.length≤12
 states:∀x∈s.states,x.Sound
theorem kQ{b:Bool}{x:Px}(h:c6 b x=0)(hs:x.size≤1048576):x.Part:=by
 refine⟨?_,hs⟩
 unfold c6 at h
 split at h
 ·exact .inr (jG h)
 ·have:=nv (by decide) h
  unfold Px.vz at this
  simp only[Bool.and_eq_true,beq_iff_eq] at this
  exact .inl this.1.1
theorem cu.sound{s:cu}(h:s.check=0)(hl:s.nu):s.Sound:=by
 unfold cu.check at h
 obtain⟨_,h⟩:=cr h
 obtain⟨_,h⟩:=cr h
 obtain⟨_,h⟩:=cr h
 obtain⟨_,h⟩:=cr h
 obtain⟨_,h⟩:=cr h
 obtain⟨h0,h⟩:=cr h
 obtain⟨h12,h⟩:=cr h
 refine⟨of_decide_eq_true (nv (by decide) h0),of_decide_eq_true (nv (by decide) h12),fun x hx=>?_⟩
 have h1:=gS h x hx
 have hxl:=(hl.state x hx).2
 unfold cC.check at h1
 obtain⟨_,h1⟩:=cr h1
 obtain⟨h2,h1⟩:=cr h1
 refine⟨of_decide_eq_true (nv (by decide) h2),fun r hr=>?_⟩
 have h3:=gS h1 r hr
 obtain⟨l1,l2,l3⟩:=hxl r hr
 unfold cL.check at h3
 obtain⟨hw,h3⟩:=cr h3
 obtain⟨_,h3⟩:=cr h3
 obtain⟨h8,h3⟩:=cr h3
 refine⟨jG hw,l1,of_decide_eq_true (nv (by decide) h8),fun d hd=>?_⟩
 have h4:=gS h3 d hd
 have l4:=l3 d hd
 unfold dO.check at h4
 obtain⟨_,h4⟩:=cr h4
 obtain⟨_,h4⟩:=cr h4
 obtain⟨_,h4⟩:=cr h4
 obtain⟨p1,h4⟩:=cr h4
 obtain⟨p2,h4⟩:=cr h4
 obtain⟨p3,p4⟩:=cr h4
 intro y hy
 have hy':=l4 y hy
 simp only[dO.oh,List.mem_cons,List.not_mem_nil,or_false] at hy
 rcases hy with rfl | rfl | rfl | rfl
 ·exact kQ p1 hy'
 ·exact kQ p2 hy'
 ·exact kQ p3 hy'
 ·exact kQ p4 hy'
theorem lN(t:Nd)(hs:t.px.size≤4194304)(I:b8)(F:bZ)(ht:cB I F t):cd P 12 #[t.v] I F (gq (.int .i64 (if t.px.formed then t.px.wt else 0)) F):=by
 refine mn.vc ?_
 unfold mn.V
 intro b_n
 refine cd.ret (pQ t hs I _ (ht.cons (x:=(b_n,Obj.cells #[.int .u8 t.kind,.int .u8 t.oper,.int .u8 t.cp,.int .i64 t.n,.int .u8 t.field,.string t.name,.slice t.a t.kids.length t.c,.int .i64 t.pos] 28 (0,0))))) fun I1 l1=>⟨_,rfl,F,.refl _,fun h=>?_,fun h=>?_⟩
 ·have h:t.px.dp=120:=by simpa using h
  have hf:t.px.formed=false:=by
   cases hf:t.px.formed with
   | false=>rfl
   | true=>unfold Px.dp at h;rw[hf,if_pos rfl] at h;split at h<;>cases h
  rw[hf];exact⟨rfl,rfl⟩
 ·have h:t.px.dp≠120:=by simpa using h
  have hf:t.px.formed=true:=by
   cases hf:t.px.formed with
   | true=>rfl
   | false=>exact absurd (by unfold Px.dp;rw[hf];rfl) h
  refine cd.ret (lM t hs hf I1 _ ((ht.mono l1 fun _ h=>h).cons (x:=(b_n,Obj.cells #[.int .u8 t.kind,.int .u8 t.oper,.int .u8 t.cp,.int .i64 t.n,.int .u8 t.field,.string t.name,.slice t.a t.kids.length t.c,.int .i64 t.pos] 28 (0,0))))) fun I2 l2=>⟨_,rfl,F,.refl _, ?_⟩
  rw[hf];exact⟨rfl,rfl⟩
theorem wc:cV P 41:=u5 [41] (by kernel_rfl) _ (by decide)
theorem we(t:Nd)(hs:t.px.size≤4194304)(hf:t.px.formed=true)(b:Nat)(c:Int)(h0:0≤c)(h1:c≤1000000000)(I:b8)(F:bZ)(ht:cB I F t) :
  cd P 41 #[t.v,.pointer (some ⟨b,0,none⟩)] I ((b,.cells #[.int .i64 c] 3 (0,0))::F) fun e I' G=>e=.returned (.tuple #[])∧G=(b,.cells #[.int .i64 (c+t.px.wt)] 3 (0,0))::F:=by
 refine gI.vc ?_
 unfold gI.V
 intro b_n
 have hr:=Px.iW t.px hf
 refine⟨t.px.wt,(lM t hs hf I _ (ht.mono (b8.le_refl I) fun y hy=>.tail _ (.tail _ hy))).mono fun e I1 G l1 ⟨he,hG⟩=>⟨he,by rw[hG]⟩,rfl, ?_⟩
 rw[eh (by omega)]
def hO(d:eE):List Nd:=[d.side,d.qty,d.price,d.value]
def xZ(l:List Nd):Int:=eb (l.map fun y=>gj y.px)
theorem Br{d:eE}{b t:Nat}{fz:Nat×Nat}{I:b8}(hb:I b=some (.cells #[.int .u8 d.side.kind,.int .u8 d.side.oper,.int .u8 d.side.cp,.int .i64 d.side.n,.int .u8 d.side.field,.string d.side.name,.slice d.side.a d.side.kids.length d.side.c,.int .i64 d.side.pos,.int .u8 d.qty.kind,.int .u8 d.qty.oper,.int .u8 d.qty.cp,.int .i64 d.qty.n,.int .u8 d.qty.field,.string d.qty.name,.slice d.qty.a d.qty.kids.length d.qty.c,.int .i64 d.qty.pos,.int .u8 d.price.kind,.int .u8 d.price.oper,.int .u8 d.price.cp,.int .i64 d.price.n,.int .u8 d.price.field,.string d.price.name,.slice d.price.a d.price.kids.length d.price.c,.int .i64 d.price.pos,.int .u8 d.value.kind,.int .u8 d.value.oper,.int .u8 d.value.cp,.int .i64 d.value.n,.int .u8 d.value.field,.string d.value.name,.slice d.value.a d.value.kids.length d.value.c,.int .i64 d.value.pos] t fz))(F:bZ):fV I F 8 Nd.enc (some ⟨b,0,none⟩) 4 (hO d) :=
 (Sl.jQ (f:=Nd.enc) (z:=8) (l:=hO d) (fun _=>rfl) hb (fun k hk=>by
   show (List.toArray ((hO d).flatMap Nd.enc))[k]? = _
   rw[List.getElem?_toArray])).zd F
theorem Bt{d:eE}{I:b8}{F:bZ}(h:d.Ok I F):∀x∈hO d,cB I F x:=by
 intro x hx
 simp only[hO,List.mem_cons,List.not_mem_nil,or_false] at hx
 rcases hx with rfl | rfl | rfl | rfl
 ·exact h.1
 ·exact h.2.1
 ·exact h.2.2.1
 ·exact h.2.2.2
theorem wg{d:eE}(h:d.p.Sound):∀x∈hO d,x.px.Part:=fun x hx=>h x.px (by
 have:(hO d).map Nd.px=d.p.oh:=rfl
 rw[←this];exact List.mem_map_of_mem hx)
theorem z1{l:List Nd}{i:Nat}{x:Nd}(h:l[i]? = some x):xZ (l.drop i)=gj x.px+xZ (l.drop (i+1)):=by
 obtain⟨hk,hx⟩:=List.getElem?_eq_some_iff.1 h
 unfold xZ
 rw[List.drop_eq_getElem_cons hk,List.map_cons,eb,hx]
theorem wh{l:List Nd}(h:∀x∈l,x.px.Part):0≤xZ l:=fP fun x hx=>by
 obtain⟨y,hy,rfl⟩:=List.mem_map.1 hx
 exact (h y hy).range.1
theorem Cj(d:eE):xZ (hO d)=d.p.wt:=by
 show gj d.side.px+(gj d.qty.px+(gj d.price.px+(gj d.value.px+0)))=gj d.side.px+gj d.qty.px+gj d.price.px+gj d.value.px
 omega
theorem tj(f:dO→Int){l:List eE}{i:Nat}{x:eE}(h:l[i]? = some x):eb ((l.drop i).map fun d=>f d.p)=f x.p+eb ((l.drop (i+1)).map fun d=>f d.p):=by
 obtain⟨hk,hx⟩:=List.getElem?_eq_some_iff.1 h
 rw[List.drop_eq_getElem_cons hk,List.map_cons,eb,hx]
theorem wi{r:cx}(h:r.p.Sound)(i:Nat):0≤eb ((r.dos.drop i).map fun d=>d.p.wt):=fP fun x hx=>by
 obtain⟨y,hy,rfl⟩:=List.mem_map.1 hx
 exact ((h.dos y.p (List.mem_map_of_mem (List.mem_of_mem_drop hy))).range).1
theorem Cl(r:cx):r.p.body=eb (r.dos.map fun d=>d.p.wt):=by
 show eb ((r.dos.map eE.p).map dO.wt)=_
 rw[List.map_map];rfl
theorem Cm(r:cx):r.p.gp=eb (r.dos.map fun d=>d.p.act):=by
 show eb ((r.dos.map eE.p).map dO.act)=_
 rw[List.map_map];rfl
set_option maxHeartbeats 1000000 in
theorem z2(r:cx){I:b8}{F:bZ}(hr:r.Ok I F)(hs:r.p.Sound)(b:Nat)(v:Int)(h0:0≤v)(h1:v≤100000000) :
  cd P 40 #[r.v,.func (.func 41) #[] #[.pointer (some ⟨b,0,none⟩)]] I ((b,.cells #[.int .i64 v] 3 (0,0))::F) fun e I' G=>e=.returned (.tuple #[])∧G=(b,.cells #[.int .i64 (v+r.p.body)] 3 (0,0))::F:=by
 have hbd:=hs.body
 have hlen:=hs.len
 have hlen:r.dos.length≤8:=by simpa[cx.p] using hlen
 refine mq.vc
  (fun x m I0 F0 I' F'=>0≤x∧x≤r.dos.length∧m=(r.dos.length-x).toNat∧∃u,F'=(b,.cells #[.int .i64 u] 3 (0,0))::F∧0≤u∧u+eb ((r.dos.drop x.toNat).map fun d=>d.p.wt)=v+r.p.body)
  (fun x k m I0 F0 I' F'=>∃d,r.dos[x.toNat]? = some d∧0≤k∧k≤4∧m=(4-k).toNat∧∃u,F'=(b,.cells #[.int .i64 u] 3 (0,0))::F∧0≤u∧u+xZ ((hO d).drop k.toNat)+eb ((r.dos.drop (x.toNat+1)).map fun d=>d.p.wt)=v+r.p.body) ?_
 unfold mq.V
 intro b_r
 refine⟨⟨_,by omega,by omega,rfl,v,rfl,h0, ?_⟩,fun x m I1 F1 l1 ⟨g0,g1,gm,u,gF,gu,gs⟩=>⟨fun hlt=>?_,fun hlt=>?_⟩⟩
 ·rw[Cl];rfl
 ·have hlt:=of_decide_eq_true hlt
  have hr1:r.Ok I1 ((b_r,Obj.cells #[.int .u8 r.when.kind,.int .u8 r.when.oper,.int .u8 r.when.cp,.int .i64 r.when.n,.int .u8 r.when.field,.string r.when.name,.slice r.when.a r.when.kids.length r.when.c,.int .i64 r.when.pos,.slice r.a r.dos.length r.c,.int .i64 r.pos] 84 (0,0))::F1):=hr.mono l1 fun y hy=>by rw[gF];exact .tail _ (.tail _ hy)
  obtain⟨ad,d,had,hd,hrd,hdm⟩:=fV.sv hr1.2.1 g0 hlt
  refine⟨⟨g0,hlt⟩,ad,had,_,_,_,_,_,_,_,_,_,_,_,_,_,_,_,_,_,_,_,_,_,_,_,_,_,_,_,_,_,_,_,_,_,_,_,_,_,_,_,_,_,_,_,_,hrd,fun b_d b2 I2 l2 hb2=>⟨⟨_,d,hd,by omega,by omega,rfl,u,gF,gu, ?_⟩,fun k m3 I3 F3 l3 ⟨d',hd',k0,k4,km,u',kF,ku,ks⟩=>⟨fun hk=>?_,fun hk=>?_⟩⟩⟩
  ·rw[←gs,tj dO.wt hd]
   show u+xZ (hO d)+_=_
   rw[Cj,Int.add_assoc]
  ·obtain rfl:d=d':=by rw[hd] at hd';exact Option.some.inj hd'
   have hk:=of_decide_eq_true hk
   have hso:=wg (hs.dos d.p (List.mem_map_of_mem hdm))
   obtain⟨ad1,x1,had1,hx1,hrd1,hxm⟩:=fV.sv (Br (l3.at hb2) ((b_r,Obj.cells #[.int .u8 r.when.kind,.int .u8 r.when.oper,.int .u8 r.when.cp,.int .i64 r.when.n,.int .u8 r.when.field,.string r.when.name,.slice r.when.a r.when.kids.length r.when.c,.int .i64 r.when.pos,.slice r.a r.dos.length r.c,.int .i64 r.pos] 84 (0,0))::(b_d,Obj.cells #[.int .u8 d.kind,.int .u8 d.order,.string d.name,.int .u8 d.side.kind,.int .u8 d.side.oper,.int .u8 d.side.cp,.int .i64 d.side.n,.int .u8 d.side.field,.string d.side.name,.slice d.side.a d.side.kids.length d.side.c,.int .i64 d.side.pos,.int .u8 d.qty.kind,.int .u8 d.qty.oper,.int .u8 d.qty.cp,.int .i64 d.qty.n,.int .u8 d.qty.field,.string d.qty.name,.slice d.qty.a d.qty.kids.length d.qty.c,.int .i64 d.qty.pos,.int .u8 d.price.kind,.int .u8 d.price.oper,.int .u8 d.price.cp,.int .i64 d.price.n,.int .u8 d.price.field,.string d.price.name,.slice d.price.a d.price.kids.length d.price.c,.int .i64 d.price.pos,.int .u8 d.value.kind,.int .u8 d.value.oper,.int .u8 d.value.cp,.int .i64 d.value.n,.int .u8 d.value.field,.string d.value.name,.slice d.value.a d.value.kids.length d.value.c,.int .i64 d.value.pos,.int .i64 d.pos] 99 (0,0))::F3)) k0 hk
   have hp:=hso x1 hxm
   have hpr:=hp.range
   have n1:=wh (l:=(hO d).drop (k.toNat+1)) fun y hy=>hso y (List.mem_of_mem_drop hy)
   have n2:=wi hs (x.toNat+1)
   rw[z1 hx1] at ks
   refine⟨⟨k0,hk⟩,ad1,had1,_,_,_,_,_,_,_,_,_,_,hrd1,fun b_n=>⟨fun hn=>?_,fun hn=>⟨(4-(k+1)).toNat,by omega,d,hd, ?_⟩⟩⟩
   ·have hn:x1.px.kind≠0:=by rw[Nd.cQ];simpa using hn
    have hw:gj x1.px=x1.px.wt:=if_neg hn
    subst kF
    have hok:cB I3 ((b_r,Obj.cells #[.int .u8 r.when.kind,.int .u8 r.when.oper,.int .u8 r.when.cp,.int .i64 r.when.n,.int .u8 r.when.field,.string r.when.name,.slice r.when.a r.when.kids.length r.when.c,.int .i64 r.when.pos,.slice r.a r.dos.length r.c,.int .i64 r.pos] 84 (0,0))::(b_d,Obj.cells #[.int .u8 d.kind,.int .u8 d.order,.string d.name,.int .u8 d.side.kind,.int .u8 d.side.oper,.int .u8 d.side.cp,.int .i64 d.side.n,.int .u8 d.side.field,.string d.side.name,.slice d.side.a d.side.kids.length d.side.c,.int .i64 d.side.pos,.int .u8 d.qty.kind,.int .u8 d.qty.oper,.int .u8 d.qty.cp,.int .i64 d.qty.n,.int .u8 d.qty.field,.string d.qty.name,.slice d.qty.a d.qty.kids.length d.qty.c,.int .i64 d.qty.pos,.int .u8 d.price.kind,.int .u8 d.price.oper,.int .u8 d.price.cp,.int .i64 d.price.n,.int .u8 d.price.field,.string d.price.name,.slice d.price.a d.price.kids.length d.price.c,.int .i64 d.price.pos,.int .u8 d.value.kind,.int .u8 d.value.oper,.int .u8 d.value.cp,.int .i64 d.value.n,.int .u8 d.value.field,.string d.value.name,.slice d.value.a d.value.kids.length d.value.c,.int .i64 d.value.pos,.int .i64 d.pos] 99 (0,0))::(b_n,Obj.cells #[.int .u8 x1.kind,.int .u8 x1.oper,.int .u8 x1.cp,.int .i64 x1.n,.int .u8 x1.field,.string x1.name,.slice x1.a x1.kids.length x1.c,.int .i64 x1.pos] 28 (0,0))::F) x1:=(Bt (hr.2.2 d hdm) x1 hxm).mono (b8.le_trans (b8.le_trans l1 l2) l3) fun y hy=>.tail _ (.tail _ (.tail _ hy))
    have hsz:=hp.size
    refine oA.fn wc (by simp) (((we x1 (by omega) (hp.ok.resolve_left hn) b u' ku (by omega) I3 _ hok).perm ?_).mono fun e I4 G l4 ⟨he,hG⟩=>⟨he,(b,.cells #[.int .i64 (u'+x1.px.wt)] 3 (0,0))::F, ?_,(4-(k+1)).toNat,by omega,d,hd, ?_⟩)
    ·exact (nW fun z=>by simp only[qY,nU,tI];omega)
    ·rw[hG];exact (nW fun z=>by simp only[qY,nU,tI];omega)
    ·rw[eh (n:=k+1) (by omega)]
     refine⟨by omega,by omega,rfl,u'+x1.px.wt,rfl,by omega, ?_⟩
     rw[show (k+1).toNat=k.toNat+1 by omega,←ks,hw];omega
   ·have hn:x1.px.kind=0:=by rw[Nd.cQ];simpa using hn
    have hw:gj x1.px=0:=if_pos hn
    rw[eh (n:=k+1) (by omega)]
    refine⟨by omega,by omega,rfl,u',kF,ku, ?_⟩
    rw[show (k+1).toNat=k.toNat+1 by omega,←ks,hw];omega
  ·obtain rfl:d=d':=by rw[hd] at hd';exact Option.some.inj hd'
   have hk:=of_decide_eq_false hk
   refine⟨(r.dos.length-(x+1)).toNat,by omega, ?_⟩
   rw[eh (n:=x+1) (by omega)]
   refine⟨by omega,by omega,rfl,u',kF,ku, ?_⟩
   rw[show (x+1).toNat=x.toNat+1 by omega,←ks,List.drop_eq_nil_of_le (show (hO d).length≤k.toNat by show 4≤_;omega)]
   show _=u'+0+_
   omega
 ·have hlt:=of_decide_eq_false hlt
  rw[List.drop_eq_nil_of_le (by omega)] at gs
  have gs:u+0=v+r.p.body:=gs
  refine⟨rfl, ?_⟩
  rw[gF,←gs,Int.add_zero]
theorem wj(r:cx){I:b8}{F:bZ}(hr:r.Ok I F)(hlen:r.dos.length≤1048576):cd P 43 #[r.v] I F (gq (.int .i64 r.p.gp) F):=by
 refine mr.vc (fun u x m I' F'=>0≤x∧x≤r.dos.length∧m=(r.dos.length-x).toNat∧F'=F∧0≤u∧u≤x∧u+eb ((r.dos.drop x.toNat).map fun d=>d.p.act)=r.p.gp) ?_
 unfold mr.V
 intro b_r
 refine⟨⟨_,by omega,by omega,rfl,rfl,by omega,by omega, ?_⟩,fun u x m I1 F1 l1 ⟨g0,g1,gm,gF,u0,u1,gs⟩=>⟨fun hlt=>?_,fun hlt=>⟨?_,gF⟩⟩⟩
 ·rw[Cm,Int.zero_add];rfl
 ·have hlt:=of_decide_eq_true hlt
  subst gF
  obtain⟨ad,d,had,hd,hrd,hdm⟩:=fV.sv ((hr.mono l1 fun _ h=>h).cons (x:=(b_r,Obj.cells #[.int .u8 r.when.kind,.int .u8 r.when.oper,.int .u8 r.when.cp,.int .i64 r.when.n,.int .u8 r.when.field,.string r.when.name,.slice r.when.a r.when.kids.length r.when.c,.int .i64 r.when.pos,.slice r.a r.dos.length r.c,.int .i64 r.pos] 84 (0,0)))).2.1 g0 hlt
  rw[tj dO.act hd] at gs
  have key:∀w,w=u+d.p.act→∃m2:Nat,m2<m∧(0≤IntKind.wrap .i64 (x+1)∧IntKind.wrap .i64 (x+1)≤r.dos.length∧m2=(r.dos.length-IntKind.wrap .i64 (x+1)).toNat∧F1=F1∧0≤w∧w≤IntKind.wrap .i64 (x+1) ∧
    w+eb ((r.dos.drop (IntKind.wrap .i64 (x+1)).toNat).map fun d=>d.p.act)=r.p.gp):=by
   intro w hw
   have:=d.p.oZ
   rw[eh (n:=x+1) (by omega)]
   refine⟨(r.dos.length-(x+1)).toNat,by omega,by omega,by omega,rfl,rfl,by omega,by omega, ?_⟩
   rw[show (x+1).toNat=x.toNat+1 by omega,←gs];omega
  have hk:d.p.kind=d.kind:=rfl
  have hw:IntKind.wrap .i64 (u+1)=u+1:=eh (by omega)
  refine⟨⟨g0,hlt⟩,ad,had,_,_,_,_,_,_,_,_,_,_,_,_,_,_,_,_,_,_,_,_,_,_,_,_,_,_,_,_,_,_,_,_,_,_,_,_,_,_,_,_,_,_,_,_,hrd,fun b_d=>⟨fun h=>?_,fun h=>⟨fun h2=>?_,fun h2=>⟨fun h3=>?_,fun h3=>?_⟩⟩⟩⟩
  ·rw[hw];exact key _ (by unfold dO.act;rw[hk,if_pos (by simp at h;exact .inl h)])
  ·rw[hw];exact key _ (by unfold dO.act;rw[hk,if_pos (by simp at h2;exact .inr (.inl h2))])
  ·rw[hw];exact key _ (by unfold dO.act;rw[hk,if_pos (by simp at h3;exact .inr (.inr h3))])
  ·refine key _ ?_
   simp at h h2 h3
   unfold dO.act;rw[hk,if_neg (by omega),Int.add_zero]
 ·have hlt:=of_decide_eq_false hlt
  rw[List.drop_eq_nil_of_le (by omega)] at gs
  have gs:u+0=r.p.gp:=gs
  rw[←gs,Int.add_zero]
end Go.Lx
namespace Go.Vc
theorem b8.Bu{I:b8}{b:Nat}{o:Obj}(h:I b=none):b8.le I (I.put b o):=⟨fun c x hc=>by
 have hne:c≠b:=fun e=>by rw[e,h] at hc;cases hc
 show (if c=b then some o else I c)=some x
 rw[if_neg hne];exact hc,rfl,rfl⟩
theorem b8.Dn{I I':b8}{b:Nat}{o:Obj}(hb:I b=none)(hl:b8.le (I.put b o) I'):b8.le I (I'.del b):=⟨fun x y hx=>by
 have hne:x≠b:=fun e=>by rw[e,hb] at hx;cases hx
 show (if x=b then none else I' x)=some y
 rw[if_neg hne]
 exact hl.at (by simp[b8.put,hne,hx]),hl.2.1,hl.2.2⟩
theorem b8.Bv(I:b8)(b:Nat):I.del b b=none:=if_pos rfl
theorem nz{α:Type}(v w:α)(B:List α):∀A:List α,cf A.length [v] (A++w::B)=A++v::B
 | []=>by cases B<;>simp[cf]
 | a::A=>by rw[List.length_cons,List.cons_append,cf,nz v w B A];rfl
theorem cd.off{P:Program}{f:FuncId}{args:Array Value}{I:b8}{F:bZ}{Q:Ending→b8→bZ→Prop}(h:cd P f args I F Q):cd P f args I F fun e I' G=>Q e I' G∧∀b o,(b,o)∈G→I' b=none :=
 h.keep fun e I' G w hl hs hq=>⟨I',G,b8.le_refl I',hs,hq,fun b o hm=>hs.off b o hm⟩
end Go.Vc
namespace Go.Lx
open Go.Vc
abbrev C2:Type:=Int×Int
def x8(c:C2):List Value:=[.int .i64 c.1,.int .i64 c.2]
def cC.cost(x:cC):C2:=(x.steps,x.gp)
def cu.jx(s:cu):List C2:=s.states.map cC.cost
def CD:Value:=.int .i64 0
theorem Dp(n:Nat):madeCells (Value.agg #[.int .i64 0,.int .i64 0]).cells n=(List.replicate n CD).toArray:=by
 show madeCells #[CD,CD] n=_
 refine Array.ext (by rw[size_madeCells];simp) fun i h1 h2=>?_
 have:i % 2=0∨i % 2=1:=by omega
 rcases this with h | h<;>simp[madeCells,h]
theorem mv(m x:Int)(r:List Int):gV m (x::r)=gV (max m x) r:=rfl
theorem uj:∀(l:List Int) (m:Int),m≤gV m l
 | [],m=>Int.le_refl m
 | x::r,m=>by have:=uj r (max m x);rw[mv];omega
theorem uk{B:Int}:∀(l:List Int) (m:Int),m≤B→(∀x∈l,x≤B)→gV m l≤B
 | [],m,h,_=>h
 | x::r,m,h,hl=>by rw[mv];exact uk r _ (by have:=hl x (.head _);omega) fun y hy=>hl y (.tail _ hy)
theorem rU(x:cm):x.p.steps=eb (x.rules.map fun r=>r.when.px.wt)+gV 0 (x.rules.map fun r=>r.p.body):=by
 show eb ((x.rules.map cx.p).map fun r=>r.when.wt)+gV 0 ((x.rules.map cx.p).map cL.body)=_
 rw[List.map_map,List.map_map];rfl
theorem um(x:cm):x.p.gp=gV 0 (x.rules.map fun r=>r.p.gp):=by
 show gV 0 ((x.rules.map cx.p).map cL.gp)=_
 rw[List.map_map];rfl
theorem cC.Sound.when{x:cm}(h:x.p.Sound):∀r∈x.rules,0≤r.when.px.wt∧r.when.px.wt≤2097152:=fun r hr=>by
 have h1:=h.rules r.p (List.mem_map_of_mem hr)
 have:=Px.iW r.when.px h1.when
 have:r.when.px.size≤1048576:=h1.size
 omega
theorem cC.Sound.range{x:cm}(h:x.p.Sound):(0≤x.p.steps∧x.p.steps≤100000000)∧0≤x.p.gp∧x.p.gp≤8:=by
 have h1:=fP (l:=x.rules.map fun r=>r.when.px.wt) fun w hw=>by obtain⟨r,hr,rfl⟩:=List.mem_map.1 hw;exact (h.when r hr).1
 have h2:=mu (B:=2097152) (l:=x.rules.map fun r=>r.when.px.wt) fun w hw=>by obtain⟨r,hr,rfl⟩:=List.mem_map.1 hw;exact (h.when r hr).2
 have h3:=uj (x.rules.map fun r=>r.p.body) 0
 have h4:=uk (B:=67108864) (x.rules.map fun r=>r.p.body) 0 (by decide) fun w hw=>by obtain⟨r,hr,rfl⟩:=List.mem_map.1 hw;exact (h.rules r.p (List.mem_map_of_mem hr)).body.2
 have h5:=uj (x.rules.map fun r=>r.p.gp) 0
 have h6:=uk (B:=8) (x.rules.map fun r=>r.p.gp) 0 (by decide) fun w hw=>by
  obtain⟨r,hr,rfl⟩:=List.mem_map.1 hw
  have:=r.p.rT
  have:=(h.rules r.p (List.mem_map_of_mem hr)).len
  omega
 have hl:=h.len
 have hl:x.rules.length≤12:=by simpa[cm.p] using hl
 rw[List.length_map] at h2
 rw[rU,um]
 omega
def jy(s:cF)(i:Nat):List Value:=(s.states.take i).flatMap fun y=>x8 y.p.cost
theorem jY(s:cF){i:Nat}(h:i≤s.states.length):(jy s i).length=i*2:=by
 unfold jy
 rw[iH (z:=2) (fun _=>rfl),List.length_take,Nat.min_eq_left h]
theorem ya(s:cF){i:Nat}{y:cm}(h:s.states[i]? = some y):jy s (i+1)=jy s i++[.int .i64 y.p.steps,.int .i64 y.p.gp]:=by
 obtain⟨hk,hx⟩:=List.getElem?_eq_some_iff.1 h
 unfold jy
 rw[List.take_succ_eq_append_getElem hk,List.flatMap_append,hx]
 show _=_++_
 simp[x8,cC.cost]
def dh(s:cF)(i:Nat)(st ac:Int):List Value:=jy s i ++ .int .i64 st :: .int .i64 ac::List.replicate ((s.states.length-(i+1))*2) CD
def jH(s:cF)(i:Nat):List Value:=jy s i++List.replicate ((s.states.length-i)*2) CD
theorem z3(s:cF){i:Nat}(h:i<s.states.length):jH s i=dh s i 0 0:=by
 unfold jH dh
 rw[show (s.states.length-i)*2=(s.states.length-(i+1))*2+1+1 by omega,List.replicate_succ,List.replicate_succ];rfl
theorem ov(s:cF){i:Nat}{y:cm}(h:s.states[i]? = some y):dh s i y.p.steps y.p.gp=jH s (i+1):=by
 unfold jH dh
 rw[ya s h,List.append_assoc];rfl
theorem yb(s:cF):jH s s.states.length=s.p.jx.flatMap x8:=by
 unfold jH jy cu.jx
 rw[List.take_length,Nat.sub_self,Nat.zero_mul,List.replicate_zero,List.append_nil]
 show _=((s.states.map cm.p).map cC.cost).flatMap x8
 rw[List.map_map,List.flatMap_map];rfl
theorem lP(s:cF){i:Nat}(h:i<s.states.length)(st ac:Int):(dh s i st ac).length=s.states.length*2:=by
 unfold dh
 rw[List.length_append,jY s (by omega),List.length_cons,List.length_cons,List.length_replicate];omega
theorem mQ(s:cF){i:Nat}(h:i<s.states.length)(st ac v:Int):cf (i*2) [.int .i64 v] (dh s i st ac)=dh s i v ac:=by
 unfold dh
 rw[←jY s (by omega),nz]
theorem uo(s:cF){i:Nat}(h:i<s.states.length)(st ac v:Int):cf (i*2+1) [.int .i64 v] (dh s i st ac)=dh s i st v:=by
 unfold dh
 have e:∀w:Int,jy s i ++ .int .i64 st :: .int .i64 w::List.replicate ((s.states.length-(i+1))*2) CD=(jy s i++[.int .i64 st]) ++ .int .i64 w::List.replicate ((s.states.length-(i+1))*2) CD:=fun w=>by rw[List.append_assoc];rfl
 rw[e,e,show i*2+1=(jy s i++[Value.int .i64 st]).length by rw[List.length_append,jY s (by omega)];rfl,nz]
theorem wk(s:cF){i:Nat}(h:i<s.states.length)(st ac:Int):(dh s i st ac)[i*2]? = some (.int .i64 st):=by
 unfold dh
 have hd:=jY s (i:=i) (by omega)
 rw[List.getElem?_append_right (by omega),show i*2-(jy s i).length=0 by omega];rfl
theorem wm(s:cF){i:Nat}(h:i<s.states.length)(st ac:Int):(dh s i st ac)[i*2+1]? = some (.int .i64 ac):=by
 unfold dh
 have hd:=jY s (i:=i) (by omega)
 rw[List.getElem?_append_right (by omega),show i*2+1-(jy s i).length=1 by omega];rfl
theorem tk(b n k:Nat):((⟨b,0,none⟩:Addr).add n).add k=⟨b,n+k,none⟩:=by rw[iI];unfold Addr.add;split<;>simp_all
abbrev kR(s:cF)(bl i:Nat)(st ac:Int):Nat×Obj:=(bl,.cells (dh s i st ac).toArray 57 (0,0))
theorem Bw{s:cF}{bl i:Nat}{st ac:Int}(hi:i<s.states.length){I:b8}{G:bZ}(h:I bl=some (kR s bl i st ac).2∨kR s bl i st ac∈G):Rd I G (⟨bl,i*2+0,none⟩:Addr) [.int .i64 st] :=
 ⟨rfl,_,_,_,h,fun j hj=>by
   have:j=0:=by simpa using hj
   subst this
   show (dh s i st ac).toArray[i*2+0+0]? = _
   rw[List.getElem?_toArray];exact wk s hi st ac⟩
theorem Dq{s:cF}{bl i:Nat}{st ac:Int}(hi:i<s.states.length){I:b8}{G:bZ}(h:I bl=some (kR s bl i st ac).2∨kR s bl i st ac∈G):Rd I G (⟨bl,i*2+1,none⟩:Addr) [.int .i64 ac] :=
 ⟨rfl,_,_,_,h,fun j hj=>by
   have:j=0:=by simpa using hj
   subst this
   show (dh s i st ac).toArray[i*2+1+0]? = _
   rw[List.getElem?_toArray];exact wm s hi st ac⟩
theorem z4(f:cx→Int){l:List cx}{i:Nat}{x:cx}(h:l[i]? = some x):eb ((l.drop i).map f)=f x+eb ((l.drop (i+1)).map f):=by
 obtain⟨hk,hx⟩:=List.getElem?_eq_some_iff.1 h
 rw[List.drop_eq_getElem_cons hk,List.map_cons,eb,hx]
theorem tn(f:cx→Int){l:List cx}{i:Nat}{x:cx}(h:l[i]? = some x)(m:Int):gV m ((l.drop i).map f)=gV (max m (f x)) ((l.drop (i+1)).map f):=by
 obtain⟨hk,hx⟩:=List.getElem?_eq_some_iff.1 h
 rw[List.drop_eq_getElem_cons hk,List.map_cons,mv,hx]
theorem rV{s:cu}(h:s.types.e=0):s.check=0:=by
 unfold cu.types at h
 split at h
 ·rename_i hc;exact absurd h hc
 ·rename_i hc;exact Decidable.not_not.1 hc
def Cn(s:cF)(F:bZ)(e:Ending)(I:b8)(G:bZ):Prop :=
 (s.p.types.e≠0∧∃v,e=.returned (.tuple #[.slice none 0 0,v])∧vY s.p.types v I∧G=F) ∨
 (s.p.types.e=0∧∃bl,e=.returned (.tuple #[.slice (some ⟨bl,0,none⟩) s.states.length s.states.length,.nilIface])∧G.Perm ((bl,.cells (s.p.jx.flatMap x8).toArray 57 (0,0))::F))
set_option maxHeartbeats 4000000 in
theorem sy(s:cF)(hl:s.p.nu){I:b8}{F:bZ}(hok:s.Ok I F)(hg:Gl I):cd P 19 #[s.v] I F (Cn s F):=by
 refine jv.vc
  (fun ps ra rn rc x m I0 F0 I' F'=>0≤x∧x≤s.states.length∧m=(s.states.length-x).toNat∧s.p.types.e=0∧∃bl,ra=some (⟨bl,0,none⟩:Addr)∧rn=s.states.length∧rc=s.states.length∧F'.Perm ((bl,.cells (jH s x.toNat).toArray 57 (0,0))::F))
  (fun ps ra rn rc x px most k m I0 F0 I' F'=>∃y,s.states[x.toNat]? = some y∧0≤k∧k≤y.rules.length∧m=(y.rules.length-k).toNat∧∃(bl:Nat) (st ac:Int),ra=some (⟨bl,0,none⟩:Addr)∧F'.Perm (kR s bl x.toNat st ac::F) ∧
    0≤st∧st≤2097152*k∧(0≤most∧most≤67108864)∧(0≤ac∧ac≤8)∧st+eb ((y.rules.drop k.toNat).map fun r=>r.when.px.wt)+gV most ((y.rules.drop k.toNat).map fun r=>r.p.body)=y.p.steps∧gV ac ((y.rules.drop k.toNat).map fun r=>r.p.gp)=y.p.gp) ?_
 unfold jv.V
 intro b_s
 refine cd.gT (uh s hl (hok.cons (x:=(b_s,Obj.cells #[.string s.name,.slice s.ra s.regs.length s.rc,.slice s.sa s.slots.length s.sc,.slice s.ta s.states.length s.tc] 39 (0,0)))) hg) fun v I1 l1 hv=>⟨v,rfl,F,.refl _,_,fS.neq hv (by kernel_rfl),fun hq=>?_,fun hq=>?_⟩
 ·exact .inl ⟨by simpa using hq,v,rfl,hv,rfl⟩
 have hq:s.p.types.e=0:=by simpa using hq
 have hs:=cu.sound (rV hq) hl
 have hn:s.states.length≤12:=by have:=hs.len;simpa[cF.p] using this
 refine cG.mono (zt (e:=57) (z:=2) (by':=16) (zv:=.agg #[.int .i64 0,.int .i64 0]) (by kernel_rfl) (by kernel_rfl) (by omega) (Int.le_refl _) (by omega) (by omega)) fun v2 I2 G l2 ⟨bl,cs,hv2,hcl,hcs,hI,hG⟩=>?_
 rw[Dp] at hcs
 subst hG
 have hcs:cs=jH s 0:=by
  have h:cs=List.replicate ((s.states.length:Int).toNat*2) CD:=by have:=congrArg Array.toList hcs;simpa using this
  rw[h];unfold jH jy;simp
 subst hcs
 have htn:(s.states.length:Int).toNat=s.states.length:=by omega
 rw[htn] at hv2
 have l02:=b8.le_trans l1 l2
 refine⟨_,_,_,hv2,(bl,.cells (jH s 0).toArray 57 (0,0))::F,.swap ..,⟨_,by omega,by omega,rfl,hq,bl,rfl,rfl,rfl,.refl _⟩,fun x m I3 F3 l3 ⟨g0,g1,gm,_,bl',hbl,_,_,gF⟩=>⟨fun hlt=>?_,fun hlt=>?_⟩⟩
 ·obtain rfl:bl=bl':=by simpa using hbl
  have hlt:=of_decide_eq_true hlt
  have hxn:x.toNat<s.states.length:=by omega
  have l03:=b8.le_trans l02 l3
  have hsub:∀y,y∈F→y∈F3:=fun y hy=>gF.mem_iff.2 (.tail _ hy)
  obtain⟨ad,y,had,hy,hrd,hym⟩:=fV.sv ((hok.mono l03 hsub).cons (x:=(b_s,Obj.cells #[.string s.name,.slice s.ra s.regs.length s.rc,.slice s.sa s.slots.length s.sc,.slice s.ta s.states.length s.tc] 39 (0,0)))).states g0 hlt
  have hyo:=hok.state y hym
  have hys:=hs.states y.p (List.mem_map_of_mem hym)
  have hyl:y.rules.length≤12:=by have:=hys.len;simpa[cm.p] using this
  have hyr:=hys.range
  rw[z3 s hxn] at gF
  refine⟨⟨g0,hlt⟩,ad,had,_,_,_,_,_,hrd,fun b_x=>⟨fun h=>?_,fun h=>⟨⟨_,y,hy,by omega,by omega,rfl,bl,0,0,rfl,gF,by omega,by omega,by omega,by omega, ?_, ?_⟩,fun most k m4 I4 F4 l4 ⟨y',hy',k0,k1,km,bl',st,ac,hbl',kF,s0,s1,mo,a0,ks,ka⟩=>⟨fun hk=>?_,fun hk=>?_⟩⟩⟩⟩
  ·have h0:(y.rules.length:Int)=0:=by simpa using h
   have hr0:y.rules=[]:=List.length_eq_zero_iff.1 (by omega)
   refine⟨(s.states.length-(x+1)).toNat,by omega, ?_⟩
   rw[eh (n:=x+1) (by omega)]
   refine⟨by omega,by omega,rfl,hq,bl,rfl,rfl,rfl, ?_⟩
   have e1:y.p.steps=0:=by rw[rU,hr0];rfl
   have e2:y.p.gp=0:=by rw[um,hr0];rfl
   have:=ov s hy
   rw[e1,e2] at this
   rw[show (x+1).toNat=x.toNat+1 by omega,←this];exact gF
  ·rw[rU];show 0+_+_=_;rw[Int.zero_add];rfl
  ·rw[um];rfl
  ·obtain rfl:y=y':=by rw[hy] at hy';exact Option.some.inj hy'
   obtain rfl:bl=bl':=by simpa using hbl'
   have hk:=of_decide_eq_true hk
   have l04:=b8.le_trans l03 l4
   have sub4:∀z,z∈F→z∈F4:=fun z hz=>kF.mem_iff.2 (.tail _ hz)
   obtain⟨ad1,r,had1,hr,hrd1,hrm⟩:=fV.sv (((hyo.mono l04 sub4).cons (x:=(b_x,Obj.cells #[.string y.name,.slice y.a y.rules.length y.c,.int .i64 y.pos] 65 (0,0)))).cons (x:=(b_s,Obj.cells #[.string s.name,.slice s.ra s.regs.length s.rc,.slice s.sa s.slots.length s.sc,.slice s.ta s.states.length s.tc] 39 (0,0)))).1 k0 hk
   have hro:=hyo.2 r hrm
   have hrs:=hys.rules r.p (List.mem_map_of_mem hrm)
   have hrw:=hys.when r hrm
   have hbd:=hrs.body
   have hra:=r.p.rT
   have hrl:=hrs.len
   have hrl:r.dos.length≤8:=by simpa[cx.p] using hrl
   have hrp:r.p.dos.length=r.dos.length:=by simp[cx.p]
   refine⟨⟨k0,hk⟩,ad1,had1,_,_,_,_,_,_,_,_,_,_,_,_,_,_,hrd1,fun b_r b_sum=>?_⟩
   refine cd.perm (F:=(b_sum,.cells #[.int .i64 0] 3 (0,0))::(b_s,Obj.cells #[.string s.name,.slice s.ra s.regs.length s.rc,.slice s.sa s.slots.length s.sc,.slice s.ta s.states.length s.tc] 39 (0,0))::(b_x,Obj.cells #[.string y.name,.slice y.a y.rules.length y.c,.int .i64 y.pos] 65 (0,0))::(b_r,Obj.cells #[.int .u8 r.when.kind,.int .u8 r.when.oper,.int .u8 r.when.cp,.int .i64 r.when.n,.int .u8 r.when.field,.string r.when.name,.slice r.when.a r.when.kids.length r.when.c,.int .i64 r.when.pos,.slice r.a r.dos.length r.c,.int .i64 r.pos] 84 (0,0))::F4) ((z2 r (hro.mono l04 fun z hz=>.tail _ (.tail _ (.tail _ (sub4 z hz)))) hrs b_sum 0 (by omega) (by omega)).mono fun e I5 G5 l5 ⟨he,hG5⟩=>?_) (nW fun z=>by simp only[qY,nU,tI];omega)
   refine⟨he,0+r.p.body,F4,by rw[hG5];exact (nW fun z=>by simp only[qY,nU,tI];omega),fun b I6 l6 hb6=>?_⟩
   have hbody:(0:Int)+r.p.body=r.p.body:=Int.zero_add _
   rw[hbody] at hb6 hG5 ⊢
   refine (fi most r.p.body hb6).off.mono fun e I7 G7 l7 ⟨⟨he,hG7⟩,hoff⟩=>?_
   refine⟨_,he,F4,by rw[hG7],bl,(kR s bl x.toNat st ac).2,F,kF,⟨g0,hlt⟩,_,rfl,ac, ?_, ?_⟩
   ·rw[tk];exact Dq hxn (.inl (b8.iA _ _ _))
   have hn7:I7 bl=none:=hoff bl _ (by rw[hG7];exact .tail _ (.tail _ (.tail _ (.tail _ (kF.mem_iff.2 (.head _))))))
   have l07:=b8.le_trans l04 (b8.le_trans l5 (b8.le_trans l6 l7))
   have l7p:b8.le I7 (I7.put bl (kR s bl x.toNat st ac).2):=b8.Bu hn7
   refine cd.ret (wj r (hro.mono (b8.le_trans l07 l7p) fun z hz=>.tail _ (.tail _ (.tail _ (.tail _ hz)))) (by omega)) fun I8 l8=>⟨_,rfl,F,.refl _,fun b1 I9 l9 hb1=>cd.ret (fi ac r.p.gp hb1) fun I10 l10=>⟨_,rfl,F,.refl _,⟨g0,hlt⟩,_,rfl,dh s x.toNat st ac,57,F, ?_⟩⟩
   have l7d:b8.le I7 (I10.del bl):=b8.Dn hn7 (b8.le_trans l8 (b8.le_trans l9 l10))
   rw[tk]
   refine⟨.refl _,rfl,by rw[lP s hxn];show x.toNat*2+1+1≤_;omega,bl,(kR s bl x.toNat st (max ac r.p.gp)).2,F, ?_,⟨g0,hlt⟩,_,rfl,st, ?_, ?_⟩
   ·show List.Perm ((bl,Obj.cells (cf (x.toNat*2+1) _ _).toArray _ _)::F) _
    rw[uo s hxn]
   ·rw[tk];exact Bw hxn (.inl (b8.iA _ _ _))
   have l7q:b8.le I7 ((I10.del bl).put bl (kR s bl x.toNat st (max ac r.p.gp)).2):=b8.le_trans l7d (b8.Bu (b8.Bv _ _))
   have hsz:=hrs.size
   have hsz:r.when.px.size≤1048576:=hsz
   refine cd.ret (lM r.when (by omega) hrs.when _ _ (hro.1.mono (b8.le_trans l07 l7q) fun z hz=>.tail _ (.tail _ (.tail _ (.tail _ hz))))) fun I11 l11=>⟨_,rfl,F,.refl _,⟨g0,hlt⟩,_,rfl,dh s x.toNat st (max ac r.p.gp),57,F, ?_⟩
   rw[tk]
   refine⟨.refl _,rfl,by rw[lP s hxn];show x.toNat*2+0+1≤_;omega,(y.rules.length-(k+1)).toNat,by omega, ?_⟩
   rw[eh (n:=k+1) (by omega),eh (n:=st+r.when.px.wt) (by omega)]
   refine⟨y,hy,by omega,by omega,rfl,bl,st+r.when.px.wt,max ac r.p.gp,rfl, ?_,by omega,by omega,by omega,by omega, ?_, ?_⟩
   ·show List.Perm ((bl,Obj.cells (cf (x.toNat*2) _ _).toArray _ _)::F) _
    rw[mQ s hxn]
   ·rw[z4 _ hr,tn _ hr] at ks
    rw[show (k+1).toNat=k.toNat+1 by omega,←ks];omega
   ·rw[tn _ hr] at ka
    rw[show (k+1).toNat=k.toNat+1 by omega,←ka]
  ·obtain rfl:y=y':=by rw[hy] at hy';exact Option.some.inj hy'
   obtain rfl:bl=bl':=by simpa using hbl'
   have hk:=of_decide_eq_false hk
   rw[List.drop_eq_nil_of_le (by omega)] at ks ka
   have ks:st+0+most=y.p.steps:=ks
   have ka:ac=y.p.gp:=ka
   refine⟨⟨g0,hlt⟩,_,rfl,st, ?_,⟨g0,hlt⟩,_,rfl,dh s x.toNat st ac,57,F, ?_⟩
   ·rw[tk];exact Bw hxn (.inr (.tail _ (.tail _ (kF.mem_iff.2 (.head _)))))
   rw[tk]
   refine⟨kF,rfl,by rw[lP s hxn];show x.toNat*2+0+1≤_;omega,(s.states.length-(x+1)).toNat,by omega, ?_⟩
   rw[eh (n:=x+1) (by omega),eh (n:=st+most) (by omega)]
   refine⟨by omega,by omega,rfl,hq,bl,rfl,rfl,rfl, ?_⟩
   show List.Perm ((bl,Obj.cells (cf (x.toNat*2) _ _).toArray _ _)::F) _
   rw[mQ s hxn,ka,show st+most=y.p.steps by omega,ov s hy,show (x+1).toNat=x.toNat+1 by omega]
 ·obtain rfl:bl=bl':=by simpa using hbl
  have hlt:=of_decide_eq_false hlt
  rw[show x.toNat=s.states.length by omega,yb] at gF
  exact .inr ⟨hq,bl,rfl,gF⟩
def cu.top(s:cu):C2:=(gV 0 (s.jx.map Prod.fst),gV 0 (s.jx.map Prod.snd))
def cu.cost(s:cu):C2×TF:=if s.types.e≠0 then ((0,0),s.types) else if 500<s.top.1 then ((0,0),⟨160,0,false⟩) else (s.top,rC)
def uq:ByteArray:=⟨#[83,116,114,97,116,101,103,121]⟩
def Bx(s:cu)(I:b8)(w:Value):Prop:=if s.types.e≠0 then fS I s.types w else if 500<s.top.1 then B4 I uq 0 (pI 160) w else w=.nilIface
def Co(s:cF)(F:bZ)(e:Ending)(I:b8)(G:bZ):Prop :=
 (s.p.types.e≠0∧∃v,e=.returned (.tuple #[.slice none 0 0,v])∧vY s.p.types v I∧G=F) ∨
 (s.p.types.e=0∧∃bl,e=.returned (.tuple #[.slice (some ⟨bl,0,none⟩) s.states.length s.states.length,.nilIface])∧Sl I 2 x8 (some ⟨bl,0,none⟩) s.states.length s.p.jx∧G=F)
theorem o0(s:cF):s.p.jx.length=s.states.length:=by simp[cu.jx,cF.p]
theorem iX(s:cF)(hl:s.p.nu){I:b8}{F:bZ}(hok:s.Ok I F)(hg:Gl I):cd P 19 #[s.v] I F (Co s F) :=
 (sy s hl hok hg).keep fun e I' G w l1 hs hq=>by
   rcases hq with ⟨he,v,h1,h2,h3⟩ | ⟨he,bl,h1,h2⟩
   ·exact⟨I',G,b8.le_refl I',hs,.inl ⟨he,v,h1,h2,h3⟩⟩
   ·obtain⟨k1,k2⟩:=(hs.perm h2).jc
    refine⟨_,F,k1,k2,.inr ⟨he,bl,h1, ?_,rfl⟩⟩
    rw[←o0 s]
    exact Sl.jQ (f:=x8) (z:=2) (fun _=>rfl) (b8.iA _ _ _) fun k hk=>by rw[List.getElem?_toArray]
theorem z5(f:C2→Int){l:List C2}{i:Nat}{x:C2}(h:l[i]? = some x)(m:Int):gV m ((l.drop i).map f)=gV (max m (f x)) ((l.drop (i+1)).map f):=by
 obtain⟨hk,hx⟩:=List.getElem?_eq_some_iff.1 h
 rw[List.drop_eq_getElem_cons hk,List.map_cons,mv,hx]
set_option maxHeartbeats 2000000 in
theorem pS(s:cF)(hl:s.p.nu){I:b8}{F:bZ}(hok:s.Ok I F)(hg:Gl I):cd P 24 #[s.v] I F (ja (fun v J=>∃w,v=.tuple #[.agg #[.int .i64 s.p.cost.1.1,.int .i64 s.p.cost.1.2],w]∧Bx s.p J w) F):=by
 refine cd.still (gJ.vc (fun ps ra rn rc pc x c0 c1 m I0 F0 I' F'=>F'=F∧0≤x∧x≤s.states.length∧m=(s.states.length-x).toNat∧s.p.types.e=0∧gV c0 ((s.p.jx.drop x.toNat).map Prod.fst)=s.p.top.1∧gV c1 ((s.p.jx.drop x.toNat).map Prod.snd)=s.p.top.2) ?_)
 unfold gJ.V
 intro b_s b
 refine (iX s hl (hok.mono (b8.le_refl I) fun y hy=>.tail _ (.tail _ hy)) hg).mono fun e I1 G l1 hq=>?_
 rcases hq with ⟨he,v,h1,hv,hG⟩ | ⟨he,bl,h1,hS,hG⟩
 ·subst hG
  refine⟨_,_,_,v,h1,F,.refl _,_,fS.neq hv (by kernel_rfl),fun hq=>⟨_,[],rfl,.refl _,fun J hJ hx=>⟨v, ?_, ?_⟩⟩,fun hq=>absurd he (by simpa using hq)⟩
  ·unfold cu.cost;rw[if_pos he]
  ·unfold Bx;rw[if_pos he];exact fS.mono hv hJ
 ·subst hG
  have hs:=cu.sound (rV he) hl
  have hn:s.states.length≤12:=by have:=hs.len;simpa[cF.p] using this
  have hcl:=o0 s
  refine⟨_,_,_,_,h1,F,.refl _,false,ub (by kernel_rfl),fun h=>(by cases h),fun _ b_c=>⟨⟨_,rfl,by omega,by omega,rfl,he,rfl,rfl⟩,fun x c0 c1 m I2 F2 l2 ⟨gF,g0,g1,gm,_,gs,ga⟩=>⟨fun hlt=>?_,fun hlt=>⟨fun hc=>?_,fun hc=>?_⟩⟩⟩⟩
  ·subst gF
   have hlt:=of_decide_eq_true hlt
   obtain⟨ad,c,had,hc,hrd,hcm⟩:=fV.sv ((hS.mono l2).zd ((b_s,Obj.cells #[.string s.name,.slice s.ra s.regs.length s.rc,.slice s.sa s.slots.length s.sc,.slice s.ta s.states.length s.tc] 39 (0,0))::(b,.cells #[.int .i64 0,.int .i64 0] 57 (0,0))::(b_c,.cells #[.int .i64 c0,.int .i64 c1] 57 (0,0))::F2)) g0 hlt
   rw[z5 _ hc] at gs ga
   have key:∀(J:b8),∃m2:Nat,m2<m∧(F2=F2∧0≤IntKind.wrap .i64 (x+1)∧IntKind.wrap .i64 (x+1)≤s.states.length∧m2=(s.states.length-IntKind.wrap .i64 (x+1)).toNat∧s.p.types.e=0∧gV (max c0 c.1) ((s.p.jx.drop (IntKind.wrap .i64 (x+1)).toNat).map Prod.fst)=s.p.top.1 ∧
     gV (max c1 c.2) ((s.p.jx.drop (IntKind.wrap .i64 (x+1)).toNat).map Prod.snd)=s.p.top.2):=fun J=>by
    rw[eh (n:=x+1) (by omega)]
    refine⟨(s.states.length-(x+1)).toNat,by omega,rfl,by omega,by omega,rfl,he, ?_, ?_⟩
    ·rw[show (x+1).toNat=x.toNat+1 by omega,←gs]
    ·rw[show (x+1).toNat=x.toNat+1 by omega,←ga]
   refine⟨⟨g0,hlt⟩,ad,had,_,_,hrd,fun b_x=>⟨fun b1 I3 l3 h1=>⟨?_,fun b3 I7 l7 h3=>?_⟩,fun b4 I10 l10 h4 b5 I11 l11 h5=>?_⟩⟩
   ·exact cd.ret (fi c0 c.1 h1) fun I4 l4=>⟨_,rfl,F2,.refl _,fun b2 I5 l5 h2=>cd.ret (fi c1 c.2 h2) fun I6 l6=>⟨_,rfl,F2,.refl _,key I6⟩⟩
   ·exact cd.ret (fi c0 c.1 (l7.at h1)) fun I4 l4=>⟨_,rfl,F2,.refl _,cd.ret (fi c1 c.2 (l4.at h3)) fun I6 l6=>⟨_,rfl,F2,.refl _,key I6⟩⟩
   ·exact cd.ret (fi c0 c.1 h5) fun I4 l4=>⟨_,rfl,F2,.refl _,cd.ret (fi c1 c.2 (l4.at (l11.at h4))) fun I6 l6=>⟨_,rfl,F2,.refl _,key I6⟩⟩
  ·intro b6
   have hlt:=of_decide_eq_false hlt
   have hc:=of_decide_eq_true hc
   rw[List.drop_eq_nil_of_le (by omega)] at gs
   have gs:c0=s.p.top.1:=gs
   refine⟨_,[_],rfl,by rw[gF];exact .refl _,fun J hJ hx=>⟨.iface 89 (.pointer (some ⟨b6,0,none⟩)), ?_, ?_⟩⟩
   ·unfold cu.cost;rw[if_neg (by simpa using he),if_pos (by omega)]
   ·unfold Bx;rw[if_neg (by simpa using he),if_pos (by omega)]
    exact⟨b6,rfl,hx _ (.head _)⟩
  ·have hlt:=of_decide_eq_false hlt
   have hc:=of_decide_eq_false hc
   rw[List.drop_eq_nil_of_le (by omega)] at gs ga
   have gs:c0=s.p.top.1:=gs
   have ga:c1=s.p.top.2:=ga
   refine⟨_,[],rfl,by rw[gF];exact .refl _,fun J hJ hx=>⟨.nilIface, ?_, ?_⟩⟩
   ·unfold cu.cost;rw[if_neg (by simpa using he),if_neg (by omega),gs,ga]
   ·unfold Bx;rw[if_neg (by simpa using he),if_neg (by omega)]
theorem yc:P.underlying 57=some (.struct (P.fieldsOf 57)):=by kernel_rfl
theorem yd:P.stoodInHeld 57=false:=by kernel_rfl
theorem ye:P.eqGuardType P.depth 57=false:=by kernel_rfl
theorem z6(a p b q:Int):oI P #[.int .i64 a,.int .i64 p] #[.int .i64 b,.int .i64 q] (P.fieldsOf 57).toList=some (a==b&&(p==q&&true)):=by kernel_rfl
theorem Dr(a p b q:Int):(a==b&&(p==q&&true))=decide (((a,p):C2)=(b,q)):=by
 by_cases h1:a=b<;>by_cases h2:p=q<;>simp[h1,h2]
theorem wo(a p b q:Int){x y:Operand}:cP P .eql 57 x y (.agg #[.int .i64 a,.int .i64 p]) (.agg #[.int .i64 b,.int .i64 q]) (decide (((a,p):C2)=(b,q))):=by
 rw[←Dr];exact qX yc yd ye (z6 ..)
def CE:ByteArray:=(⟨#[100,111,110,101,32,63,32,98,105,100,32,58,32,98,105,100,32,43,32,49,112]⟩:ByteArray)
def CF:ByteArray:=(⟨#[115,116,114,97,116,101,103,121,32,115,32,123,32,114,101,103,32,110,32,105,110,116,32,61,32,48,59,32,115,108,111,116,32,111,59,32,115,116,97,116,101,32,97,32,123,32,119,104,101,110,32,104,97,115,32,98,105,100,32,100,111,32,115,117,98,109,105,116,32,98,117,121,32,111,102,32,50,113,32,97,116,32,98,105,100,32,43,32,49,112,32,108,105,109,105,116,44,32,104,97,108,116,59,32,119,104,101,110,32,110,111,119,32,62,32,53,116,32,100,111,32,115,101,116,32,110,32,61,32,110,32,43,32,49,44,32,99,97,110,99,101,108,32,111,44,32,99,97,110,99,101,108,32,111,59,32,125,32,115,116,97,116,101,32,98,32,123,125,32,125]⟩:ByteArray)
abbrev Bz:Px:=(kI CE).1
abbrev yM:cu:=(kH CF).1
theorem BA:Bz.size≤1048576:=of_decide_eq_true (by kernel_rfl)
theorem Ds:(if Bz.formed then Bz.wt else 0)=6:=by kernel_rfl
theorem z7:yM.fp:=cu.pH (of_decide_eq_true (by kernel_rfl))
theorem z8:yM.types.e=0:=by kernel_rfl
theorem BB:yM.cost=((9,2),rC):=by kernel_rfl
theorem z9:yM.jx=[(9,2),(0,0)]:=by kernel_rfl
theorem ur:xI.p.fp:=cu.pH (by decide)
theorem ow:xI.p.types.e≠0:=by
 have h:xI.p.types.e=120:=by kernel_rfl
 rw[h];decide
theorem Aa{I:b8}{F:bZ}:xI.Ok I F:=⟨fV.nil,fun r hr=>(by cases hr),fV.nil,fV.nil,fun x hx=>(by cases hx)⟩
set_option maxHeartbeats 1000000 in
theorem uu{I:b8}(hg:Gl I)(F:bZ):cd P 9 #[] I F (gq (.bool true) F):=by
 refine jw.vc ?_
 unfold jw.V
 refine (xJ CE (by unfold hU;decide) I _).mono fun e I1 G l1 ⟨n,he,hn,okn,hG⟩=>?_
 refine⟨_,_,_,_,_,_,_,_,_,_,_,_,_,he,F,by rw[hG],fun b_n b__=>?_⟩
 refine (rB CF (by unfold hU;exact of_decide_eq_true (by kernel_rfl)) I1 _).mono fun e I2 G l2 ⟨s,he,hs,oks,hG⟩=>?_
 refine⟨_,_,_,_,_,_,_,_,_,_,_,_,_,he,F,by rw[hG],fun b_s b_1=>?_⟩
 have ls:s.p.fp:=hs▸z7
 have lth:=ls.thin
 have hnz:n.px.size≤1048576:=by rw[hn];exact BA
 have hnw:(if n.px.formed then n.px.wt else 0)=6:=by rw[hn];exact Ds
 have hst:s.p.types.e=0:=by rw[hs];exact z8
 have hsc:s.p.cost=((9,2),rC):=by rw[hs];exact BB
 have hsl:s.p.jx=[(9,2),(0,0)]:=by rw[hs];exact z9
 refine cd.ret (lN n (by omega) I2 _ (okn.mono l2 Ch)) fun I3 l3=>⟨_,rfl,F,.refl _, ?_⟩
 refine cd.ret (lN gZ (by decide) I3 _ (dc.mono (b8.le_refl _) Ch)) fun I4 l4=>⟨_,rfl,F,.refl _, ?_⟩
 have l24:=b8.le_trans l3 l4
 have l04:=b8.le_trans l1 (b8.le_trans l2 l24)
 refine cd.gT (pS s lth (oks.mono l24 Ch) (hg.mono l04)) fun v5 I5 l5 ⟨w5,hv5,hw5⟩=>⟨_,_,w5,congrArg Ending.returned hv5,F,.refl _,fun b_c=>?_⟩
 have l25:=b8.le_trans l24 l5
 have l05:=b8.le_trans l04 l5
 refine (iX s lth (oks.mono l25 Ch) (hg.mono l05)).mono fun e I6 G l6 hq=>?_
 rcases hq with ⟨h,_⟩ | ⟨_,bl,he,hS,hG⟩
 ·exact absurd hst h
 refine⟨_,_,_,_,he,F,by rw[hG], ?_⟩
 have l06:=b8.le_trans l05 l6
 refine (iX xI ur.thin Aa (hg.mono l06)).mono fun e I7 G7 l7 hq=>?_
 rcases hq with ⟨hz,v7,he,hv7,hG7⟩ | ⟨h,_⟩
 rotate_left
 ·exact absurd h ow
 refine⟨_,_,_,_,he,F,by rw[hG7], ?_⟩
 have h2:s.states.length=2:=by rw[←o0 s,hsl];rfl
 have hzw:(if gZ.px.formed then gZ.px.wt else 0)=0:=by decide
 rw[hnw,hzw]
 have hw5':w5=.nilIface:=by
  unfold Bx at hw5
  rw[if_neg (by simpa using hst)] at hw5
  have htop:¬500<s.p.top.1:=by
   unfold cu.top;rw[hsl];decide
  rwa [if_neg htop] at hw5
 rw[hw5',hsc]
 refine⟨fun _=>⟨fun _=>⟨true,vU (by kernel_rfl),fun _=>⟨true,wo 9 2 9 2,fun _=>⟨true,vU (by kernel_rfl),fun _=>⟨fun _=>⟨⟨by decide,by rw[h2];decide⟩,⟨bl,0,none⟩,rfl,0,0, ?_,⟨true,wo 0 0 0 0,fun _=>⟨true, ?_,rfl,rfl⟩,fun h=>(by cases h)⟩⟩,fun h=>?_⟩,fun h=>(by cases h)⟩,fun h=>(by cases h)⟩,fun h=>(by cases h)⟩,fun h=>(by cases h)⟩,fun h=>(by cases h)⟩
 ·obtain⟨ad,c,had,hc,hrd,_⟩:=fV.sv ((hS.mono l7).zd _) (i:=1) (by decide) (by rw[h2];decide)
  rw[hsl] at hc
  cases hc
  cases had
  exact hrd
 ·have:=fS.neq hv7 (t:=44) (by kernel_rfl) (x:=.tmp 72)
  rwa [show (xI.p.types.e != 0)=true by simpa using ow] at this
 ·rw[h2] at h;cases h
theorem rW(t:Nd)(hs:t.px.fE)(I:b8)(F:bZ)(ht:cB I F t):cd P 10 #[t.v] I F (gq (.bool (decide (t.px.kU 0 0>1048576))) F):=by
 refine gK.vc ?_
 unfold gK.V
 intro b_n
 exact cd.ret (xk t hs 0 0 I _ ht.cons (by decide) (by decide) (by decide) (by decide)) fun I1 _=>⟨_,rfl,F,.refl _,rfl,rfl⟩
end Go.Lx
namespace Go.Lx
open Go.Vc Go.Proofs.Tryz
def rX:List (Nat×List Sh):=[(3,[.one (.int .i64)]),(4,[.one .bool])]
def fB.V(a:Nat→Nat×Obj)(nV:Int→Int→Int→Int→Int→Bs→OA→Nat→Nat→Int→Value)(vt:Bool→Value)(f g h i j:Int)(k:Bs)(c:OA)(d e:Nat)(l:Int)(I:b8)(F:bZ)(Q:cc)  : Prop:=∀b:Nat,cJ P 9 #[] I ((a b)::·) F vt fun r I1 F1=>cJ P 10 #[nV f g h i j k c d e l] I1 ((a b)::·) F1 vt fun r1 I2 F2=>(It (!r) (Q (.returned (vt r)) I2 F2) (It r1 (Q (.returned (vt r)) I2 F2) (cJ P 12 #[nV f g h i j k c d e l] I2 ((a b)::·) F2 (.int .i64) fun r2 I3 F3=>cJ P 15 #[nV f g h i j k c d e l] I3 ((a b)::·) F3 vt fun r3 I4 F4=>cJ P 16 #[nV f g h i j k c d e l] I4 ((a b)::·) F4 (.int .i64) fun r4 I5 F5=>(It r3 (Dt (r2≥1) (Dt (r2≤(IntKind.wrap .i64 (2*r4))) (Q (.returned (vt true)) I5 F5) (It (!r3) (Q (.returned (vt (r2==0))) I5 F5) (Q (.returned (vt false)) I5 F5))) (It (!r3) (Q (.returned (vt (r2==0))) I5 F5) (Q (.returned (vt false)) I5 F5))) (It (!r3) (Q (.returned (vt (r2==0))) I5 F5) (Q (.returned (vt false)) I5 F5))))))
theorem fB.vc{i j m p r:Int}{u:Bs}{d:OA}{e g:Nat}{v:Int}{I:b8}{F:bZ}{Q:cc}  (h:fB.V (fun b=>(b,Obj.cells #[.int .u8 i,.int .u8 j,.int .u8 m,.int .i64 p,.int .u8 r,.string u,.slice d e g,.int .i64 v] 28 (0,0))) (fun k o t n f s a l c q=>.agg #[.int .u8 k,.int .u8 o,.int .u8 t,.int .i64 n,.int .u8 f,.string s,.slice a l c,.int .i64 q]) .bool i j m p r u d e g v I F Q):cd P 5 #[.agg #[.int .u8 i,.int .u8 j,.int .u8 m,.int .i64 p,.int .u8 r,.string u,.slice d e g,.int .i64 v]] I F Q :=
 tw (A:=(an [3001,3003,8000,8003,8009,8013] [9,10,12,15,16] rX)) [9,10,12,15,16] func5 h
end Go.Lx
namespace Go.Lx
open Go.Vc
theorem rY(t:Nd)(hst:t.px.fE)(I:b8)(hg:Gl I)(F:bZ)(ht:cB I F t):cd P 5 #[t.v] I F fun e I' G=>e=.returned (.bool true):=by
 refine fB.vc ?_
 unfold fB.V
 intro b_n
 have okt:∀{J:b8} {G:bZ},b8.le I J→(∀a,a∈F→a∈G)→cB J G t:=fun hl hs=>ht.mono hl hs
 refine cd.ret (uu hg _) fun I1 l1=>⟨_,rfl,F,.refl _, ?_⟩
 refine cd.ret (rW t hst I1 _ (okt l1 fun a ha=>by simp only[List.mem_cons,List.mem_append];simp only[ha,true_or,or_true])) fun I2 h2=>⟨_,rfl,F,.refl _,fun h=>(by cases h),fun _=>⟨fun _=>rfl,fun f1=>?_⟩⟩
 have l2:=b8.le_trans l1 h2
 have st:=Bb f1
 have h0:=Px.size_pos t.px
 refine cd.ret (lN t (by omega) I2 _ (okt l2 fun a ha=>by simp only[List.mem_cons,List.mem_append];simp only[ha,true_or,or_true])) fun I3 h3=>⟨_,rfl,F,.refl _, ?_⟩
 have l3:=b8.le_trans l2 h3
 refine cd.ret (vn t st I3 _ (okt l3 fun a ha=>by simp only[List.mem_cons,List.mem_append];simp only[ha,true_or,or_true])) fun I4 h4=>⟨_,rfl,F,.refl _, ?_⟩
 refine cd.ret (xl t st I4 _ (okt (b8.le_trans l3 h4) fun a ha=>by simp only[List.mem_cons,List.mem_append];simp only[ha,true_or,or_true])) fun I5 h5=>⟨_,rfl,F,.refl _, ?_⟩
 have hw:IntKind.wrap .i64 (2*t.px.size)=2*t.px.size:=eh (by omega)
 try dsimp only
 rw[hw]
 cases hf:t.px.formed with
 | true =>
   have hr:=Px.iW t.px hf
   refine⟨fun _=>⟨fun _=>⟨fun _=>rfl,fun h=>?_⟩,fun h=>?_⟩,fun h=>(by cases h)⟩
   ·have h:¬t.px.wt≤2*t.px.size:=of_decide_eq_false h
    omega
   ·have h:¬t.px.wt≥1:=of_decide_eq_false h
    omega
 | false=>exact⟨fun h=>(by cases h),fun _=>⟨fun _=>rfl,fun h=>(by cases h)⟩⟩
end Go.Lx
namespace Go.Vc
open Go.ChangeShapes Go.WideShapes Go.ChangeAt Go.RowKit
theorem jh.cell{w w':World}(h:jh w w'){a:Addr}(ha:a.block<w.heap.size):w'.cell? a=w.cell? a:=by
 unfold World.cell?;rw[h.heap _ ha]
theorem jh.same{w w':World}(h:jh w w'){p:MemPlace}(hp:p.block<w.heap.size):w.sameAt w' p:=by
 cases p with
 | cell b off=>exact h.cell (a:=⟨b,off,none⟩) hp
 | map b=>exact h.heap b hp
theorem mR{H:Type}{enc:TypeId×Value→H}{P:Program}{T:TypeId→Prop}{w w':World}(K:Kids P T)(hsz:∀{t e:TypeId},T t→P.underlying t=some (.slice e)→0<P.cellsOf e)(st:jh w w'){sp':Nat→Bool} :
  ∀{ts:List TypeId} {vs:List Value} {ds:List (DataW H)} {ps:List MemPlace},(∀t∈ts,T t)→DataW.TrodAll enc P w 0 (fun _=>true) true ts vs ds ps→(∀p∈ps,sp' p.block=true)→DataW.TrodAll enc P w' 0 sp' true ts vs ds ps
 | [],[],[],ps,_,h,_=>h
 | t::ts,v::vs,d::ds,ps,ht,⟨p,q,⟨n,h1⟩,h2,e⟩,hs=>by
   subst e
   have hlt:∀x∈p,x.block<w.heap.size:=DataW.trod_lt n t v.cells.toList (d,p) h1
   refine⟨p,q,⟨n, ?_⟩,mR K hsz st (fun t' ht'=>ht t' (List.mem_cons_of_mem _ ht')) h2 (fun x hx=>hs x (List.mem_append_right _ hx)),rfl⟩
   exact DataW.trod_stays K hsz (fun h=>by cases h) (ht t (List.mem_cons_self ..)) h1 (fun x hx=>st.same (hlt x hx)) (fun x hx=>hs x (List.mem_append_left _ hx))
 | [],_::_,_,_,_,h,_=>h.elim
 | [],[],_::_,_,_,h,_=>h.elim
 | _::_,[],_,_,_,h,_=>h.elim
 | _::_,_::_,[],_,_,h,_=>h.elim
theorem pL{α:Type}{p:Nat→α→Prop}:∀(n:Nat),(∀i,i<n→∃x,p i x)→∃l:List α,l.length=n∧∀(i:Nat) (x:α),l[i]? = some x→p i x
 | 0,_=>⟨[],rfl,fun i x h=>by simp at h⟩
 | n+1,h=>by
   obtain⟨l,hl,hp⟩:=pL n fun i hi=>h i (by omega)
   obtain⟨x,hx⟩:=h n (by omega)
   refine⟨l++[x],by simp[hl],fun i y hy=>?_⟩
   rw[List.getElem?_append] at hy
   split at hy
   ·exact hp i y hy
   ·rename_i hi
    have:i-l.length=0:=by
     rcases Nat.eq_zero_or_pos (i-l.length) with h | h
     ·exact h
     ·rw[List.getElem?_eq_none (by simp;omega)] at hy;cases hy
    rw[this] at hy
    simp only[List.getElem?_cons_zero,Option.some.injEq] at hy
    subst hy
    have:i=n:=by omega
    rw[this];exact hx
theorem Rd.Du{W:World}{ad:Addr}{n:Nat}{cs:List Value}{base:Nat}(h:W.cells? base ad n=some cs)(hn:0<n)(G:bZ):ad.spot=none→Rd (b8.all W) G ad cs:=by
 intro hsp
 obtain⟨_,hl,hc⟩:=World.cells?_some h
 have h0:W.cell? ad=cs[0]?:=by have:=hc 0 hn;rwa [show ad.add 0=ad from rfl] at this
 have hlen:cs.length=n:=hl
 unfold World.cell? at h0
 cases hb:W.heap[ad.block]? with
 | none=>rw[hb] at h0;simp only at h0;rw[List.getElem?_eq_getElem (by omega)] at h0;cases h0
 | some o =>
   cases o with
   | cells c e fz =>
     refine⟨hsp,c,e,fz,.inl hb,fun j hj=>?_⟩
     have h1:=hc j (by omega)
     have hadd:ad.add j=⟨ad.block,ad.off+j,none⟩:=by
      obtain⟨b,off,sp⟩:=ad
      simp only at hsp;subst hsp
      unfold Addr.add;split<;>simp_all
     rw[hadd] at h1
     unfold World.cell? at h1
     simp only[hb] at h1
     simpa using h1
   | _=>rw[hb] at h0;simp only at h0;rw[List.getElem?_eq_getElem (by omega)] at h0;cases h0
def dS{H α:Type}(en:TypeId×Value→H)(P:Program)(W:World)(sp:Nat→Bool)(hd:Bool)(n:Nat)(t:TypeId)(f:α→List Value)(R S:α→Prop):Prop :=
 ∀cs d ps,DataW.trod en P W 0 sp hd n t cs=some (d,ps)→∃x,cs=f x∧R x∧((∀m∈d.weights P t,m≤reachBytes)→S x)
def fH{H α:Type}(en:TypeId×Value→H)(P:Program)(W:World)(sp:Nat→Bool)(hd:Bool)(n:Nat)(z:Nat)(fs:List (TypeId×Nat))(o:Nat)(f:α→List Value)(R S:α→Prop):Prop :=
 ∀(cs:List Value) (xs:List (DataW H×List MemPlace)),(fs.mapM fun p=>DataW.trod en P W 0 sp hd n p.1 ((cs.drop p.2).take (P.cellsOf p.1)))=some xs→cs.length=z→∃x,cs.drop o=f x∧R x∧((∀m∈DataW.weightsEach P (fs.map Prod.fst) (xs.map Prod.fst),m≤reachBytes)→S x)
def qb(P:Program)(t:TypeId)(l:List (TypeId×Nat))(z:Nat):Bool:=match P.underlying t with
 | some (.struct fs)=>(fs.toList.map fun f=>(f.type,f.offset))==l&&P.cellsOf t==z
 | _=>false
theorem wq{α β γ:Type}(h:α→β)(g:β→Option γ):∀l:List α,(l.map h).mapM g=l.mapM fun x=>g (h x)
 | []=>rfl
 | x::l=>by simp[List.mapM_cons,wq h g l]
section
variable {H:Type} {en:TypeId×Value→H} {P:Program} {W:World} {sp:Nat→Bool} {hd:Bool} {n:Nat}
theorem fH.nil{z:Nat}:fH en P W sp hd n z [] z (fun _:Unit=>[]) (fun _=>True) (fun _=>True):=by
 intro cs xs h hl
 exact⟨(),List.drop_eq_nil_of_le (by omega),trivial,fun _=>trivial⟩
theorem fH.cons{α β:Type}{z o k:Nat}{t:TypeId}{fs:List (TypeId×Nat)}{f:α→List Value}{g:β→List Value}{R S:α→Prop}{R' S':β→Prop}(h:dS en P W sp hd n t f R S)(hc:P.cellsOf t=k)
  (hs:fH en P W sp hd n z fs (o+k) g R' S'):fH en P W sp hd n z ((t,o)::fs) o (fun x:α×β=>f x.1++g x.2) (fun x=>R x.1∧R' x.2) (fun x=>S x.1∧S' x.2):=by
 intro cs xs hm hl
 rw[List.mapM_cons] at hm
 cases h0:DataW.trod en P W 0 sp hd n t ((cs.drop o).take (P.cellsOf t)) with
 | none=>simp[h0] at hm
 | some x0 =>
   cases h1:(fs.mapM fun p=>DataW.trod en P W 0 sp hd n p.1 ((cs.drop p.2).take (P.cellsOf p.1))) with
   | none=>simp[h0,h1] at hm
   | some ys =>
     simp[h0,h1] at hm
     subst hm
     obtain⟨d0,p0⟩:=x0
     obtain⟨x,e1,r1,s1⟩:=h _ _ _ h0
     obtain⟨y,e2,r2,s2⟩:=hs _ _ h1 hl
     refine⟨(x,y), ?_,⟨r1,r2⟩,fun hw=>⟨s1 fun m hm=>hw m ?_,s2 fun m hm=>hw m ?_⟩⟩
     ·show cs.drop o=f x++g y
      rw[←e1,←e2,hc,←List.drop_drop,List.take_append_drop]
     ·simp only[List.map_cons,DataW.weightsEach,List.mem_append];exact .inl hm
     ·simp only[List.map_cons,DataW.weightsEach,List.mem_append];exact .inr hm
theorem dS.struct{α:Type}{z:Nat}{t:TypeId}{fs:List (TypeId×Nat)}{f:α→List Value}{R S:α→Prop}(ht:qb P t fs z=true)(h:fH en P W sp hd n z fs 0 f R S):dS en P W sp hd (n+1) t f R S:=by
 intro cs d ps hr
 unfold qb at ht
 split at ht
 ·rename_i gs hg
  simp only[Bool.and_eq_true,beq_iff_eq] at ht
  obtain⟨ht,hz⟩:=ht
  simp only[DataW.trod,hg] at hr
  split at hr
  ·rename_i hl
   rw[hz] at hl
   cases hm:gs.toList.mapM fun f=>DataW.trod en P W 0 sp hd n f.type ((cs.drop f.offset).take (P.cellsOf f.type)) with
   | none=>rw[hm] at hr;cases hr
   | some xs =>
     rw[hm] at hr
     simp only[Option.map_some,Option.some.injEq,Prod.mk.injEq] at hr
     have hm':(fs.mapM fun p=>DataW.trod en P W 0 sp hd n p.1 ((cs.drop p.2).take (P.cellsOf p.1)))=some xs:=by rw[←ht,wq];exact hm
     obtain⟨x,e,r,s⟩:=h cs xs hm' hl
     refine⟨x,by simpa using e,r,fun hw=>s fun m hmm=>hw m ?_⟩
     rw[←hr.1]
     simp only[DataW.weights,hg]
     have:gs.toList.map (fun f=>f.type)=fs.map Prod.fst:=by rw[←ht,List.map_map];rfl
     rw[this];exact hmm
  ·cases hr
 ·cases ht
theorem dS.map{α β:Type}{t:TypeId}{f:α→List Value}{g:β→List Value}{R S:α→Prop}{R' S':β→Prop}(h:dS en P W sp hd n t f R S)(φ:α→β)(hf:∀x,R x→f x=g (φ x))(hr:∀x,R x→R' (φ x))(hs:∀x,R x→S x→S' (φ x)):dS en P W sp hd n t g R' S':=by
 intro cs d ps hd
 obtain⟨x,e,r,s⟩:=h cs d ps hd
 exact⟨φ x,e.trans (hf x r),hr x r,fun hw=>hs x r (s hw)⟩
theorem dS.int{k:IntKind}{t:TypeId}(ht:P.underlying t=some (.int k)):dS en P W sp hd n t (fun x:Int=>[.int k x]) (fun x=>(Lit.int k x).wf=true) (fun _=>True):=by
 intro cs d ps h
 obtain⟨x,e,_,hw⟩:=DataW.trod_int ht h
 exact⟨x,e,hw,fun _=>trivial⟩
theorem dS.str{t:TypeId}(ht:P.underlying t=some .string):dS en P W sp hd n t (fun x:ByteArray=>[.string x]) (fun x=>x.size≤maxLen) (fun x=>x.size≤reachBytes):=by
 intro cs d ps h
 obtain⟨s,e,hx,hl⟩:=DataW.trod_string ht h
 refine⟨s,e,hl,fun hw=>?_⟩
 simp only[Prod.mk.injEq] at hx
 have:=hw s.data.toList.length (by rw[hx.1];simp[DataW.weights])
 simpa using this
structure EG (β:Type) where
 a:Option Addr
 n:Nat
 c:Nat
 l:List β
theorem dS.slice{β:Type}{z by':Nat}{t e:TypeId}{f:β→List Value}{R S:β→Prop}(ht:P.underlying t=some (.slice e))(hc:P.cellsOf e=z)(hz:0<z)(hb:P.bytesOf e=by')(hb1:1≤by')(hf:∀x,(f x).length=z)(h:dS en P W sp hd n e f R S) :
  dS en P W sp hd (n+1) t (fun s:EG β=>[.slice s.a s.n s.c]) (fun s=>fV (b8.all W) [] z f s.a s.n s.l∧∀x∈s.l,R x) (fun s=>s.l.length≤reachBytes∧∀x∈s.l,S x):=by
 intro cs d ps hr
 rcases DataW.trod_slice ht hr with ⟨h1,h2⟩ | ⟨ad,len,cap,elems,rest,n',hn,hcs,hx,_,_,_,hlen,hel,_,_⟩
 ·exact⟨⟨none,0,0,[]⟩,h1,⟨⟨rfl,fun h=>absurd rfl h⟩,fun x hx=>by cases hx⟩,fun _=>⟨by simp,fun x hx=>by cases hx⟩⟩
 ·cases hn
  simp only[Prod.mk.injEq] at hx
  obtain⟨hdd,hps⟩:=hx
  clear hps
  subst hcs
  have hone:∀i,i<len→∃x,Rd (b8.all W) [] (ad.add (i*z)) (f x)∧R x∧((∀y∈elems,∀m∈y.1.weights P e,m≤reachBytes)→S x):=by
   intro i hi
   have hfy:=hel i hi
   obtain⟨y,hy⟩:∃y,elems[i]? = some y:=⟨_,List.getElem?_eq_getElem (by omega)⟩
   rw[hc,hy] at hfy
   cases hcs:W.cells? 0 (ad.add (i*z)) z with
   | none=>rw[hcs] at hfy;cases hfy
   | some cs =>
     rw[hcs] at hfy
     simp only[Option.bind_some] at hfy
     obtain⟨x,e1,r1,s1⟩:=h cs y.1 y.2 hfy
     subst e1
     have hspk:(ad.add (i*z)).spot=none:=by
      obtain⟨_,hl,hc'⟩:=World.cells?_some hcs
      have h0:=hc' 0 hz
      rw[show (ad.add (i*z)).add 0=ad.add (i*z) from rfl,List.getElem?_eq_getElem (by rw[hf];omega)] at h0
      cases hs:(ad.add (i*z)).spot with
      | none=>rfl
      | some q =>
        unfold World.cell? at h0
        split at h0<;>simp_all
     refine⟨x,Rd.Du hcs hz [] hspk,r1,fun hw=>s1 fun m hm=>hw y (List.mem_of_getElem? hy) m hm⟩
  obtain⟨l,hll,hlx⟩:=pL len hone
  refine⟨⟨some ad,len,cap,l⟩,rfl,⟨⟨hll.symm,fun _=>⟨ad,rfl,fun i x hx=>(hlx i x hx).1⟩⟩,fun x hx=>?_⟩,fun hw=>⟨?_,fun x hx=>?_⟩⟩
  ·obtain⟨i,hi,rfl⟩:=List.mem_iff_getElem.1 hx
   exact (hlx i _ (List.getElem?_eq_getElem hi)).2.1
  ·have h1:=hw ((elems.length+rest.length)*by') (by rw[hdd];simp only[DataW.weights,ht,List.length_map,hb];exact List.mem_cons_self ..)
   have h2:elems.length+rest.length≤(elems.length+rest.length)*by':=Nat.le_mul_of_pos_right _ hb1
   show l.length≤reachBytes
   omega
  ·obtain⟨i,hi,rfl⟩:=List.mem_iff_getElem.1 hx
   refine (hlx i _ (List.getElem?_eq_getElem hi)).2.2 fun y hy m hm=>hw m ?_
   rw[hdd]
   simp only[DataW.weights,ht]
   refine List.mem_cons_of_mem _ (List.mem_append_left _ ?_)
   clear hx hlen hel hone hlx hdd hr hw hi hll
   induction elems with
   | nil=>cases hy
   | cons q qs ihq =>
     simp only[List.map_cons,DataW.weightsAll,List.mem_append]
     rcases List.mem_cons.1 hy with rfl | hy
     ·exact .inl hm
     ·exact .inr (ihq hy)
theorem dS.zero{α:Type}{t:TypeId}{f:α→List Value}{R S:α→Prop}:dS en P W sp hd 0 t f R S:=fun cs d ps h=>by cases h
end
end Go.Vc
namespace Go.Lx
open Go.Vc Go.ChangeShapes Go.WideShapes Go.ChangeAt Go.RowKit
def EH:List (TypeId×Nat):=[(22,0),(23,1),(24,2),(2,3),(25,4),(9,5),(26,6),(3,7)]
theorem Ea{x:Int}(h:(Lit.int .u8 x).wf=true):0≤x∧x≤255:=by
 simp[Lit.wf,IntKind.min,IntKind.max,IntKind.signed,IntKind.bits] at h;omega
theorem D7{x:Int}(h:(Lit.int .i64 x).wf=true) : -9223372036854775808≤x∧x≤9223372036854775807:=by
 simp[Lit.wf,IntKind.min,IntKind.max,IntKind.signed,IntKind.bits] at h;omega
theorem Wf.mk{t:Nd}(h:t.px.Fit)(hk:∀k∈t.kids,k.px.Wf):t.px.Wf:=by
 intro y hy
 rw[←vw] at hy
 obtain⟨x,hx,rfl⟩:=List.mem_map.1 hy
 rw[Nd.nY] at hx
 rcases List.mem_cons.1 hx with rfl | hx
 ·exact h
 ·have hL:∀l:List Nd,(∀k∈l,k.px.Wf)→x∈Nd.fX l→x.px.Fit:=by
   intro l
   induction l with
   | nil=>intro _ h;rw[Nd.fX] at h;cases h
   | cons z r ih =>
     intro hz h
     rw[Nd.fX] at h
     rcases List.mem_append.1 h with h | h
     ·exact Wf.nd (hz z (List.mem_cons_self ..)) x h
     ·exact ih (fun k hk=>hz k (List.mem_cons_of_mem _ hk)) h
  exact hL _ hk hx
theorem Cp{H:Type}{en:TypeId×Value→H}{W:World}{sp:Nat→Bool}{hd:Bool}:∀n,dS en P W sp hd n 28 Nd.enc (fun t=>cB (b8.all W) [] t∧t.px.Wf) (fun t=>t.px.fE):=by
 intro n
 induction n using Nat.strongRecOn with
 | ind n ih =>
   cases n with
   | zero=>exact dS.zero
   | succ n =>
     have hsl:dS en P W sp hd n 26 (fun s:EG Nd=>[.slice s.a s.n s.c]) (fun s=>fV (b8.all W) [] 8 Nd.enc s.a s.n s.l∧∀x∈s.l,cB (b8.all W) [] x∧x.px.Wf) (fun s=>s.l.length≤reachBytes∧∀x∈s.l,x.px.fE):=by
      cases n with
      | zero=>exact dS.zero
      | succ n=>exact dS.slice (z:=8) (by':=72) (by kernel_rfl) (by kernel_rfl) (by decide) (by kernel_rfl) (by decide) Nd.p5 (ih n (by omega))
     refine (dS.struct (z:=8) (fs:=EH) (by kernel_rfl) ((fH.cons (k:=1) (dS.int (k:=.u8) (by kernel_rfl)) (by kernel_rfl)<|fH.cons (k:=1) (dS.int (k:=.u8) (by kernel_rfl)) (by kernel_rfl)<|fH.cons (k:=1) (dS.int (k:=.u8) (by kernel_rfl)) (by kernel_rfl) <|
      fH.cons (k:=1) (dS.int (k:=.i64) (by kernel_rfl)) (by kernel_rfl)<|fH.cons (k:=1) (dS.int (k:=.u8) (by kernel_rfl)) (by kernel_rfl)<|fH.cons (k:=1) (dS.str (by kernel_rfl)) (by kernel_rfl)<|fH.cons (k:=1) hsl (by kernel_rfl) <|
      fH.cons (k:=1) (dS.int (k:=.i64) (by kernel_rfl)) (by kernel_rfl) fH.nil))).map (fun x=>Nd.mk x.1 x.2.1 x.2.2.1 x.2.2.2.1 x.2.2.2.2.1 x.2.2.2.2.2.1 x.2.2.2.2.2.2.1.a x.2.2.2.2.2.2.1.c x.2.2.2.2.2.2.1.l x.2.2.2.2.2.2.2.1) ?_ ?_ ?_
     ·intro ⟨k,o,ty,m,f,s,⟨a,l,c,ks⟩,q,u⟩ ⟨_,_,_,_,_,_,⟨h7,_⟩,_⟩
      have hl:l=ks.length:=h7.1
      subst hl;rfl
     ·intro ⟨k,o,ty,m,f,s,⟨a,l,c,ks⟩,q,u⟩ ⟨h1,h2,h3,h4,h5,h6,⟨h7,h8⟩,h9,_⟩
      have hl:l=ks.length:=h7.1
      subst hl
      refine⟨.mk h7 fun x hx=>(h8 x hx).1,Wf.mk ?_ fun x hx=>(h8 x hx).2⟩
      unfold Px.Fit
      rw[Nd.cQ,Nd.ig,Nd.jD,Nd.zh,Nd.jS,Nd.tN]
      exact⟨Ea h1,Ea h2,Ea h3,D7 h4,Ea h5,D7 h9⟩
     ·intro ⟨k,o,ty,m,f,s,⟨a,l,c,ks⟩,q,u⟩ _ ⟨_,_,_,_,_,g6,⟨g7,g8⟩,_⟩
      refine .mk (by rw[Nd.gE];exact g6) (by rw[Nd.gY];exact g7) fun x hx=>?_
      rw[Nd.dH] at hx
      obtain⟨y,hy,rfl⟩:=List.mem_map.1 hx
      exact g8 y hy
theorem Dv{P:Program}{W:World}{r:Reach}{b0:Nat}{t:TypeId}{v:Value}{fs:List (TypeId×Nat)}{z:Nat}(hst:qb P t fs z=true)(hval:Value.okWide P W r b0 t v):v=.agg v.cells.toList.toArray:=by
 unfold qb at hst
 split at hst
 ·rename_i gs hg
  have h5:=okWide_struct hg hval
  obtain⟨cs,hv,hcs⟩:=h5
  clear hcs
  subst hv
  rfl
 ·cases hst
theorem Ab{H:Type}{en:TypeId×Value→H}{W:World}{base:Nat}{sp:Nat→Bool}{hd:Bool}{v:Value}{d:DataW H}{ps:List MemPlace}{r:Reach}(hval:Value.okWide P W r base 28 v)(h:DataW.Trod en P W 0 sp hd 28 v d ps) :
  ∃t:Nd,v=t.v∧cB (b8.all W) [] t∧t.px.Wf∧((∀m∈d.weights P 28,m≤reachBytes)→t.px.fE):=by
 have hv:=Dv (fs:=EH) (z:=8) (by kernel_rfl) hval
 obtain⟨fuel,hf⟩:=h
 obtain⟨t,e,⟨h1,h2⟩,h3⟩:=Cp fuel _ d ps hf
 exact⟨t,by rw[hv,e],h1,h2,h3⟩
end Go.Lx
