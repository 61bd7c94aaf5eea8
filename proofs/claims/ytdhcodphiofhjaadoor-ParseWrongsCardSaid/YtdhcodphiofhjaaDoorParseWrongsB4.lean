import Derived.Test.YtdhcodphiofhjaaDoorParseWrongsB3
set_option linter.unusedVariables false
set_option linter.unusedSimpArgs false
set_option linter.unusedSectionVars false
set_option maxRecDepth 100000
namespace Go.Lx
open Go.Vc Go.Proofs.Tryd
def iJ:List (Nat×List Sh):=[(0,[]),(3,[.one (.int .i64)]),(4,[.one .bool]),(9,[.one .str]),(29,[.agg [(.int .u8),(.int .u8),(.int .u8),(.int .i64),(.int .u8),.str,.slc,(.int .i64)]]),(44,[.one .slc]),(45,[.one .slc]),(46,[.one .slc]),(51,[.one .slc]),(53,[.agg [.str,.slc,(.int .i64)]]),(68,[.one (.int .u8)]),(92,[.agg [.str,(.int .u8),(.int .u8),(.int .u8),(.int .u8),(.int .i64),(.int .u8),.str,.slc,(.int .i64),(.int .i64)]]),(97,[.agg [.str,(.int .i64)]]),(123,[.agg [(.int .u8),(.int .u8),(.int .u8),(.int .i64),(.int .u8),.str,.slc,(.int .i64)],.one .bool]),(126,[.one .slc]),(128,[.agg [(.int .u8),(.int .u8),(.int .u8),(.int .i64),(.int .u8),.str,.slc,(.int .i64),.slc,(.int .i64)]]),(138,[.one (.int .u8)]),(140,[.agg [(.int .u8),(.int .u8),.str,(.int .u8),(.int .u8),(.int .u8),(.int .i64),(.int .u8),.str,.slc,(.int .i64),(.int .u8),(.int .u8),(.int .u8),(.int .i64),(.int .u8),.str,.slc,(.int .i64),(.int .u8),(.int .u8),(.int .u8),(.int .i64),(.int .u8),.str,.slc,(.int .i64),(.int .u8),(.int .u8),(.int .u8),(.int .i64),(.int .u8),.str,.slc,(.int .i64),(.int .i64)]])]
def fw.V(ka:Nat→Bs→Int→Int→Int→Int→Int→Int→Bs→OA→Nat→Nat→Int→Int→Nat×Obj)(kb:Bs→Int→Int→Int→Int→Int→Int→Bs→OA→Nat→Nat→Int→Int→Value)(nV:Int→Int→Int→Int→Int→Bs→OA→Nat→Nat→Int→Value)(nO:Int→Int→Int→Int→Int→Bs→OA→Nat→Nat→Int→Obj)(vb vi:Int→Value)(vs:Bs→Value)(vl:OA→Nat→Nat→Value)(vt:Bool→Value)(vp:OA→Value)(p:Addr)(I:cS)(F:cR)(Q:cW)  : Prop:=∀b:Nat,∃ad:Addr,some p=some ad∧∃(m:Int),Rd I ((ka b (⟨#[]⟩:Bs) 0 0 0 0 0 0 (⟨#[]⟩:Bs) none 0 0 0 0)::F) ((ad.add 1).add 4) [vi m]∧∀a:Nat,cV P 18 (#[vp (some p)]) I ((ka b (⟨#[]⟩:Bs) 0 0 0 0 0 0 (⟨#[]⟩:Bs) none 0 0 0 0)::(ka a (⟨#[]⟩:Bs) 0 0 0 0 0 0 (⟨#[]⟩:Bs) none 0 0 0 m)::F) fun e1 I1 G1=>((e1=.returned (.tuple #[])∧∃F1:cR,List.Perm G1 ((ka b (⟨#[]⟩:Bs) 0 0 0 0 0 0 (⟨#[]⟩:Bs) none 0 0 0 0)::(ka a (⟨#[]⟩:Bs) 0 0 0 0 0 0 (⟨#[]⟩:Bs) none 0 0 0 m)::F1)∧cV P 29 (#[vp (some p)]) I1 ((ka b (⟨#[]⟩:Bs) 0 0 0 0 0 0 (⟨#[]⟩:Bs) none 0 0 0 0)::(ka a (⟨#[]⟩:Bs) 0 0 0 0 0 0 (⟨#[]⟩:Bs) none 0 0 0 m)::F1) fun e2 I2 G2=>((∃(r:Bs),e2=.returned (vs r)∧∃F2:cR,List.Perm G2 ((ka b (⟨#[]⟩:Bs) 0 0 0 0 0 0 (⟨#[]⟩:Bs) none 0 0 0 0)::(ka a (⟨#[]⟩:Bs) 0 0 0 0 0 0 (⟨#[]⟩:Bs) none 0 0 0 m)::F2)∧∀(b1:Nat) (I3:cS),cS.le I2 I3→I3 b1=some (Obj.cells #[vs (⟨#[105,110,116]⟩:Bs),vs (⟨#[113,116,121]⟩:Bs),vs (⟨#[112,114,105,99,101]⟩:Bs),vs (⟨#[116,105,109,101]⟩:Bs),vs (⟨#[98,111,111,108]⟩:Bs),vs (⟨#[115,105,100,101]⟩:Bs)] 9 (0,0))→cV P 23 (#[vp (some p),vl (some ⟨b1,0,none⟩) 6 6]) I3 ((ka b (⟨#[]⟩:Bs) 0 0 0 0 0 0 (⟨#[]⟩:Bs) none 0 0 0 0)::(ka a r 0 0 0 0 0 0 (⟨#[]⟩:Bs) none 0 0 0 m)::F2) fun e3 I4 G3=>((∃(r1:Int),e3=.returned (vi r1)∧∃F3:cR,List.Perm G3 ((ka b (⟨#[]⟩:Bs) 0 0 0 0 0 0 (⟨#[]⟩:Bs) none 0 0 0 0)::(ka a r 0 0 0 0 0 0 (⟨#[]⟩:Bs) none 0 0 0 m)::F3)∧∀(b2:Nat) (I5:cS),cS.le I4 I5→I5 b2=some (Obj.cells #[vs (⟨#[61]⟩:Bs)] 9 (0,0))→cV P 23 (#[vp (some p),vl (some ⟨b2,0,none⟩) 1 1]) I5 ((ka b (⟨#[]⟩:Bs) 0 0 0 0 0 0 (⟨#[]⟩:Bs) none 0 0 0 0)::(ka a r (IntKind.wrap .u8 (1+(IntKind.wrap .u8 r1))) 0 0 0 0 0 (⟨#[]⟩:Bs) none 0 0 0 m)::F3) fun e4 I6 G4=>((∃(r2:Int),e4=.returned (vi r2)∧∃F4:cR,List.Perm G4 ((ka b (⟨#[]⟩:Bs) 0 0 0 0 0 0 (⟨#[]⟩:Bs) none 0 0 0 0)::(ka a r (IntKind.wrap .u8 (1+(IntKind.wrap .u8 r1))) 0 0 0 0 0 (⟨#[]⟩:Bs) none 0 0 0 m)::F4)∧∃(hb:Nat) (ho:Obj) (F5:cR),List.Perm F4 ((hb,ho)::F5)∧∃aR:Addr,some p=some aR∧∃(m1:Int),Rd (cS.put I6 hb ho) ([]) ((aR.add 1).add 4) [vi m1]∧cV P 21 (#[vp (some p),vs (⟨#[45]⟩:Bs)]) (cS.put I6 hb ho) ((ka b (⟨#[]⟩:Bs) 0 0 0 0 0 0 (⟨#[]⟩:Bs) none 0 0 0 0)::(ka a r (IntKind.wrap .u8 (1+(IntKind.wrap .u8 r1))) 0 0 0 0 0 (⟨#[]⟩:Bs) none 0 0 0 m)::F5) fun e5 I7 G5=>∃(r3:Bool),e5=.returned (vt r3)∧∃F6:cR,List.Perm G5 ((ka b (⟨#[]⟩:Bs) 0 0 0 0 0 0 (⟨#[]⟩:Bs) none 0 0 0 0)::(ka a r (IntKind.wrap .u8 (1+(IntKind.wrap .u8 r1))) 0 0 0 0 0 (⟨#[]⟩:Bs) none 0 0 0 m)::F6)∧(It r3 (cV P 18 (#[vp (some p)]) (cS.del I7 hb) ((ka b (⟨#[]⟩:Bs) 0 0 0 0 0 0 (⟨#[]⟩:Bs) none 0 0 0 0)::(ka a r (IntKind.wrap .u8 (1+(IntKind.wrap .u8 r1))) 0 0 0 0 0 (⟨#[]⟩:Bs) none 0 0 0 m)::((hb,ho)::F6)) fun e6 I8 G6=>((e6=.returned (.tuple #[])∧∃F7:cR,List.Perm G6 ((ka b (⟨#[]⟩:Bs) 0 0 0 0 0 0 (⟨#[]⟩:Bs) none 0 0 0 0)::(ka a r (IntKind.wrap .u8 (1+(IntKind.wrap .u8 r1))) 0 0 0 0 0 (⟨#[]⟩:Bs) none 0 0 0 m)::F7)∧∃aS:Addr,some p=some aS∧∃(m2:Int),Rd I8 ((ka b (⟨#[]⟩:Bs) 0 0 0 0 0 0 (⟨#[]⟩:Bs) none 0 0 0 0)::(ka a r (IntKind.wrap .u8 (1+(IntKind.wrap .u8 r1))) 0 0 0 0 0 (⟨#[]⟩:Bs) none 0 0 0 m)::F7) ((aS.add 1).add 0) [vb m2]∧(It (m2 != 3) (cV P 19 (#[vp (some p),vi 130]) I8 ((ka b (⟨#[]⟩:Bs) 0 0 0 0 0 0 (⟨#[]⟩:Bs) none 0 0 0 0)::(ka a r (IntKind.wrap .u8 (1+(IntKind.wrap .u8 r1))) 0 0 0 0 0 (⟨#[]⟩:Bs) none 0 0 0 m)::F7) fun e7 I9 G7=>((e7=.returned (.tuple #[])∧∃F8:cR,List.Perm G7 ((ka b (⟨#[]⟩:Bs) 0 0 0 0 0 0 (⟨#[]⟩:Bs) none 0 0 0 0)::(ka a r (IntKind.wrap .u8 (1+(IntKind.wrap .u8 r1))) 0 0 0 0 0 (⟨#[]⟩:Bs) none 0 0 0 m)::F8)∧cV P 45 (#[vp (some p)]) I9 ((ka b (⟨#[]⟩:Bs) 0 0 0 0 0 0 (⟨#[]⟩:Bs) none 0 0 0 0)::(ka a r (IntKind.wrap .u8 (1+(IntKind.wrap .u8 r1))) 0 0 0 0 0 (⟨#[]⟩:Bs) none 0 0 0 m)::F8) fun e8 I10 G8=>((∃(ac ae af ag ah:Int) (ai:Bs) (i:OA) (j k:Nat) (aj:Int) (aq:Bool),e8=.returned (.tuple #[nV ac ae af ag ah ai i j k aj,vt aq])∧∃F9:cR,List.Perm G8 ((ka b (⟨#[]⟩:Bs) 0 0 0 0 0 0 (⟨#[]⟩:Bs) none 0 0 0 0)::(ka a r (IntKind.wrap .u8 (1+(IntKind.wrap .u8 r1))) 0 0 0 0 0 (⟨#[]⟩:Bs) none 0 0 0 m)::F9)∧∀am:Nat,(It (!aq) (cV P 19 (#[vp (some p),vi 130]) I10 ((ka b (⟨#[]⟩:Bs) 0 0 0 0 0 0 (⟨#[]⟩:Bs) none 0 0 0 0)::(ka a r (IntKind.wrap .u8 (1+(IntKind.wrap .u8 r1))) 0 0 0 0 0 (⟨#[]⟩:Bs) none 0 0 0 m)::(am,nO ac ae af ag ah ai i j k aj)::F9) fun e9 I11 G9=>((e9=.returned (.tuple #[])∧∃F10:cR,List.Perm G9 ((ka b (⟨#[]⟩:Bs) 0 0 0 0 0 0 (⟨#[]⟩:Bs) none 0 0 0 0)::(ka a r (IntKind.wrap .u8 (1+(IntKind.wrap .u8 r1))) 0 0 0 0 0 (⟨#[]⟩:Bs) none 0 0 0 m)::(am,nO ac ae af ag ah ai i j k aj)::F10)∧(It r3 (∀b3:Nat,∀(b4:Nat) (I12:cS),cS.le I11 I12→I12 b4=some (Obj.cells #[vs (⟨#[59]⟩:Bs)] 9 (0,0))→cV P 23 (#[vp (some p),vl (some ⟨b4,0,none⟩) 1 1]) I12 ((ka b (⟨#[]⟩:Bs) 0 0 0 0 0 0 (⟨#[]⟩:Bs) none 0 0 0 0)::(ka a r (IntKind.wrap .u8 (1+(IntKind.wrap .u8 r1))) 5 1 0 0 0 (⟨#[]⟩:Bs) (some ⟨b3,0,none⟩) 1 1 m1 m)::(am,nO 5 1 0 0 0 (⟨#[]⟩:Bs) (some ⟨b3,0,none⟩) 1 1 m1)::((b3,nO ac ae af ag ah ai i j k aj)::F10)) fun a2 I13 G10=>((∃(r4:Int),a2=.returned (vi r4)∧∃F11:cR,List.Perm G10 ((ka b (⟨#[]⟩:Bs) 0 0 0 0 0 0 (⟨#[]⟩:Bs) none 0 0 0 0)::(ka a r (IntKind.wrap .u8 (1+(IntKind.wrap .u8 r1))) 5 1 0 0 0 (⟨#[]⟩:Bs) (some ⟨b3,0,none⟩) 1 1 m1 m)::(am,nO 5 1 0 0 0 (⟨#[]⟩:Bs) (some ⟨b3,0,none⟩) 1 1 m1)::F11)∧Q (.returned ((kb r (IntKind.wrap .u8 (1+(IntKind.wrap .u8 r1))) 5 1 0 0 0 (⟨#[]⟩:Bs) (some ⟨b3,0,none⟩) 1 1 m1 m))) I13 F11)∨(∃ch:List PanicEntry,a2=.panicked ch∧∃F12:cR,List.Perm G10 ((ka b (⟨#[]⟩:Bs) 0 0 0 0 0 0 (⟨#[]⟩:Bs) none 0 0 0 0)::(ka a r (IntKind.wrap .u8 (1+(IntKind.wrap .u8 r1))) 5 1 0 0 0 (⟨#[]⟩:Bs) (some ⟨b3,0,none⟩) 1 1 m1 m)::(am,nO 5 1 0 0 0 (⟨#[]⟩:Bs) (some ⟨b3,0,none⟩) 1 1 m1)::F12)∧Q (.panicked ch) I13 F12))) (∀(b5:Nat) (I14:cS),cS.le I11 I14→I14 b5=some (Obj.cells #[vs (⟨#[59]⟩:Bs)] 9 (0,0))→cV P 23 (#[vp (some p),vl (some ⟨b5,0,none⟩) 1 1]) I14 ((ka b (⟨#[]⟩:Bs) 0 0 0 0 0 0 (⟨#[]⟩:Bs) none 0 0 0 0)::(ka a r (IntKind.wrap .u8 (1+(IntKind.wrap .u8 r1))) ac ae af ag ah ai i j k aj m)::(am,nO ac ae af ag ah ai i j k aj)::F10) fun a3 I15 G11=>((∃(r5:Int),a3=.returned (vi r5)∧∃F13:cR,List.Perm G11 ((ka b (⟨#[]⟩:Bs) 0 0 0 0 0 0 (⟨#[]⟩:Bs) none 0 0 0 0)::(ka a r (IntKind.wrap .u8 (1+(IntKind.wrap .u8 r1))) ac ae af ag ah ai i j k aj m)::(am,nO ac ae af ag ah ai i j k aj)::F13)∧Q (.returned ((kb r (IntKind.wrap .u8 (1+(IntKind.wrap .u8 r1))) ac ae af ag ah ai i j k aj m))) I15 F13)∨(∃aT:List PanicEntry,a3=.panicked aT∧∃F14:cR,List.Perm G11 ((ka b (⟨#[]⟩:Bs) 0 0 0 0 0 0 (⟨#[]⟩:Bs) none 0 0 0 0)::(ka a r (IntKind.wrap .u8 (1+(IntKind.wrap .u8 r1))) ac ae af ag ah ai i j k aj m)::(am,nO ac ae af ag ah ai i j k aj)::F14)∧Q (.panicked aT) I15 F14)))))∨(∃aU:List PanicEntry,e9=.panicked aU∧∃F15:cR,List.Perm G9 ((ka b (⟨#[]⟩:Bs) 0 0 0 0 0 0 (⟨#[]⟩:Bs) none 0 0 0 0)::(ka a r (IntKind.wrap .u8 (1+(IntKind.wrap .u8 r1))) 0 0 0 0 0 (⟨#[]⟩:Bs) none 0 0 0 m)::(am,nO ac ae af ag ah ai i j k aj)::F15)∧Q (.panicked aU) I11 F15))) (It r3 (∀b6:Nat,∀(b7:Nat) (I16:cS),cS.le I10 I16→I16 b7=some (Obj.cells #[vs (⟨#[59]⟩:Bs)] 9 (0,0))→cV P 23 (#[vp (some p),vl (some ⟨b7,0,none⟩) 1 1]) I16 ((ka b (⟨#[]⟩:Bs) 0 0 0 0 0 0 (⟨#[]⟩:Bs) none 0 0 0 0)::(ka a r (IntKind.wrap .u8 (1+(IntKind.wrap .u8 r1))) 5 1 0 0 0 (⟨#[]⟩:Bs) (some ⟨b6,0,none⟩) 1 1 m1 m)::(am,nO 5 1 0 0 0 (⟨#[]⟩:Bs) (some ⟨b6,0,none⟩) 1 1 m1)::((b6,nO ac ae af ag ah ai i j k aj)::F9)) fun a4 I17 G12=>((∃(r6:Int),a4=.returned (vi r6)∧∃F16:cR,List.Perm G12 ((ka b (⟨#[]⟩:Bs) 0 0 0 0 0 0 (⟨#[]⟩:Bs) none 0 0 0 0)::(ka a r (IntKind.wrap .u8 (1+(IntKind.wrap .u8 r1))) 5 1 0 0 0 (⟨#[]⟩:Bs) (some ⟨b6,0,none⟩) 1 1 m1 m)::(am,nO 5 1 0 0 0 (⟨#[]⟩:Bs) (some ⟨b6,0,none⟩) 1 1 m1)::F16)∧Q (.returned ((kb r (IntKind.wrap .u8 (1+(IntKind.wrap .u8 r1))) 5 1 0 0 0 (⟨#[]⟩:Bs) (some ⟨b6,0,none⟩) 1 1 m1 m))) I17 F16)∨(∃aV:List PanicEntry,a4=.panicked aV∧∃F17:cR,List.Perm G12 ((ka b (⟨#[]⟩:Bs) 0 0 0 0 0 0 (⟨#[]⟩:Bs) none 0 0 0 0)::(ka a r (IntKind.wrap .u8 (1+(IntKind.wrap .u8 r1))) 5 1 0 0 0 (⟨#[]⟩:Bs) (some ⟨b6,0,none⟩) 1 1 m1 m)::(am,nO 5 1 0 0 0 (⟨#[]⟩:Bs) (some ⟨b6,0,none⟩) 1 1 m1)::F17)∧Q (.panicked aV) I17 F17))) (∀(b8:Nat) (I18:cS),cS.le I10 I18→I18 b8=some (Obj.cells #[vs (⟨#[59]⟩:Bs)] 9 (0,0))→cV P 23 (#[vp (some p),vl (some ⟨b8,0,none⟩) 1 1]) I18 ((ka b (⟨#[]⟩:Bs) 0 0 0 0 0 0 (⟨#[]⟩:Bs) none 0 0 0 0)::(ka a r (IntKind.wrap .u8 (1+(IntKind.wrap .u8 r1))) ac ae af ag ah ai i j k aj m)::(am,nO ac ae af ag ah ai i j k aj)::F9) fun a5 I19 G13=>((∃(r7:Int),a5=.returned (vi r7)∧∃F18:cR,List.Perm G13 ((ka b (⟨#[]⟩:Bs) 0 0 0 0 0 0 (⟨#[]⟩:Bs) none 0 0 0 0)::(ka a r (IntKind.wrap .u8 (1+(IntKind.wrap .u8 r1))) ac ae af ag ah ai i j k aj m)::(am,nO ac ae af ag ah ai i j k aj)::F18)∧Q (.returned ((kb r (IntKind.wrap .u8 (1+(IntKind.wrap .u8 r1))) ac ae af ag ah ai i j k aj m))) I19 F18)∨(∃aW:List PanicEntry,a5=.panicked aW∧∃F19:cR,List.Perm G13 ((ka b (⟨#[]⟩:Bs) 0 0 0 0 0 0 (⟨#[]⟩:Bs) none 0 0 0 0)::(ka a r (IntKind.wrap .u8 (1+(IntKind.wrap .u8 r1))) ac ae af ag ah ai i j k aj m)::(am,nO ac ae af ag ah ai i j k aj)::F19)∧Q (.panicked aW) I19 F19))))))∨(∃aX:List PanicEntry,e8=.panicked aX∧∃F20:cR,List.Perm G8 ((ka b (⟨#[]⟩:Bs) 0 0 0 0 0 0 (⟨#[]⟩:Bs) none 0 0 0 0)::(ka a r (IntKind.wrap .u8 (1+(IntKind.wrap .u8 r1))) 0 0 0 0 0 (⟨#[]⟩:Bs) none 0 0 0 m)::F20)∧Q (.panicked aX) I10 F20)))∨(∃aY:List PanicEntry,e7=.panicked aY∧∃F21:cR,List.Perm G7 ((ka b (⟨#[]⟩:Bs) 0 0 0 0 0 0 (⟨#[]⟩:Bs) none 0 0 0 0)::(ka a r (IntKind.wrap .u8 (1+(IntKind.wrap .u8 r1))) 0 0 0 0 0 (⟨#[]⟩:Bs) none 0 0 0 m)::F21)∧Q (.panicked aY) I9 F21))) (cV P 45 (#[vp (some p)]) I8 ((ka b (⟨#[]⟩:Bs) 0 0 0 0 0 0 (⟨#[]⟩:Bs) none 0 0 0 0)::(ka a r (IntKind.wrap .u8 (1+(IntKind.wrap .u8 r1))) 0 0 0 0 0 (⟨#[]⟩:Bs) none 0 0 0 m)::F7) fun a6 I20 G14=>((∃(l n o q s:Int) (t:Bs) (c:OA) (d e:Nat) (u:Int) (ar:Bool),a6=.returned (.tuple #[nV l n o q s t c d e u,vt ar])∧∃F22:cR,List.Perm G14 ((ka b (⟨#[]⟩:Bs) 0 0 0 0 0 0 (⟨#[]⟩:Bs) none 0 0 0 0)::(ka a r (IntKind.wrap .u8 (1+(IntKind.wrap .u8 r1))) 0 0 0 0 0 (⟨#[]⟩:Bs) none 0 0 0 m)::F22)∧∀ak:Nat,(It (!ar) (cV P 19 (#[vp (some p),vi 130]) I20 ((ka b (⟨#[]⟩:Bs) 0 0 0 0 0 0 (⟨#[]⟩:Bs) none 0 0 0 0)::(ka a r (IntKind.wrap .u8 (1+(IntKind.wrap .u8 r1))) 0 0 0 0 0 (⟨#[]⟩:Bs) none 0 0 0 m)::(ak,nO l n o q s t c d e u)::F22) fun a7 I21 G15=>((a7=.returned (.tuple #[])∧∃F23:cR,List.Perm G15 ((ka b (⟨#[]⟩:Bs) 0 0 0 0 0 0 (⟨#[]⟩:Bs) none 0 0 0 0)::(ka a r (IntKind.wrap .u8 (1+(IntKind.wrap .u8 r1))) 0 0 0 0 0 (⟨#[]⟩:Bs) none 0 0 0 m)::(ak,nO l n o q s t c d e u)::F23)∧(It r3 (∀b9:Nat,∀(aJ:Nat) (I22:cS),cS.le I21 I22→I22 aJ=some (Obj.cells #[vs (⟨#[59]⟩:Bs)] 9 (0,0))→cV P 23 (#[vp (some p),vl (some ⟨aJ,0,none⟩) 1 1]) I22 ((ka b (⟨#[]⟩:Bs) 0 0 0 0 0 0 (⟨#[]⟩:Bs) none 0 0 0 0)::(ka a r (IntKind.wrap .u8 (1+(IntKind.wrap .u8 r1))) 5 1 0 0 0 (⟨#[]⟩:Bs) (some ⟨b9,0,none⟩) 1 1 m1 m)::(ak,nO 5 1 0 0 0 (⟨#[]⟩:Bs) (some ⟨b9,0,none⟩) 1 1 m1)::((b9,nO l n o q s t c d e u)::F23)) fun a8 I23 G16=>((∃(r8:Int),a8=.returned (vi r8)∧∃F24:cR,List.Perm G16 ((ka b (⟨#[]⟩:Bs) 0 0 0 0 0 0 (⟨#[]⟩:Bs) none 0 0 0 0)::(ka a r (IntKind.wrap .u8 (1+(IntKind.wrap .u8 r1))) 5 1 0 0 0 (⟨#[]⟩:Bs) (some ⟨b9,0,none⟩) 1 1 m1 m)::(ak,nO 5 1 0 0 0 (⟨#[]⟩:Bs) (some ⟨b9,0,none⟩) 1 1 m1)::F24)∧Q (.returned ((kb r (IntKind.wrap .u8 (1+(IntKind.wrap .u8 r1))) 5 1 0 0 0 (⟨#[]⟩:Bs) (some ⟨b9,0,none⟩) 1 1 m1 m))) I23 F24)∨(∃aZ:List PanicEntry,a8=.panicked aZ∧∃F25:cR,List.Perm G16 ((ka b (⟨#[]⟩:Bs) 0 0 0 0 0 0 (⟨#[]⟩:Bs) none 0 0 0 0)::(ka a r (IntKind.wrap .u8 (1+(IntKind.wrap .u8 r1))) 5 1 0 0 0 (⟨#[]⟩:Bs) (some ⟨b9,0,none⟩) 1 1 m1 m)::(ak,nO 5 1 0 0 0 (⟨#[]⟩:Bs) (some ⟨b9,0,none⟩) 1 1 m1)::F25)∧Q (.panicked aZ) I23 F25))) (∀(aK:Nat) (I24:cS),cS.le I21 I24→I24 aK=some (Obj.cells #[vs (⟨#[59]⟩:Bs)] 9 (0,0))→cV P 23 (#[vp (some p),vl (some ⟨aK,0,none⟩) 1 1]) I24 ((ka b (⟨#[]⟩:Bs) 0 0 0 0 0 0 (⟨#[]⟩:Bs) none 0 0 0 0)::(ka a r (IntKind.wrap .u8 (1+(IntKind.wrap .u8 r1))) l n o q s t c d e u m)::(ak,nO l n o q s t c d e u)::F23) fun a9 I25 G17=>((∃(r9:Int),a9=.returned (vi r9)∧∃F26:cR,List.Perm G17 ((ka b (⟨#[]⟩:Bs) 0 0 0 0 0 0 (⟨#[]⟩:Bs) none 0 0 0 0)::(ka a r (IntKind.wrap .u8 (1+(IntKind.wrap .u8 r1))) l n o q s t c d e u m)::(ak,nO l n o q s t c d e u)::F26)∧Q (.returned ((kb r (IntKind.wrap .u8 (1+(IntKind.wrap .u8 r1))) l n o q s t c d e u m))) I25 F26)∨(∃a0:List PanicEntry,a9=.panicked a0∧∃F27:cR,List.Perm G17 ((ka b (⟨#[]⟩:Bs) 0 0 0 0 0 0 (⟨#[]⟩:Bs) none 0 0 0 0)::(ka a r (IntKind.wrap .u8 (1+(IntKind.wrap .u8 r1))) l n o q s t c d e u m)::(ak,nO l n o q s t c d e u)::F27)∧Q (.panicked a0) I25 F27)))))∨(∃a1:List PanicEntry,a7=.panicked a1∧∃F28:cR,List.Perm G15 ((ka b (⟨#[]⟩:Bs) 0 0 0 0 0 0 (⟨#[]⟩:Bs) none 0 0 0 0)::(ka a r (IntKind.wrap .u8 (1+(IntKind.wrap .u8 r1))) 0 0 0 0 0 (⟨#[]⟩:Bs) none 0 0 0 m)::(ak,nO l n o q s t c d e u)::F28)∧Q (.panicked a1) I21 F28))) (It r3 (∀an:Nat,∀(aL:Nat) (I26:cS),cS.le I20 I26→I26 aL=some (Obj.cells #[vs (⟨#[59]⟩:Bs)] 9 (0,0))→cV P 23 (#[vp (some p),vl (some ⟨aL,0,none⟩) 1 1]) I26 ((ka b (⟨#[]⟩:Bs) 0 0 0 0 0 0 (⟨#[]⟩:Bs) none 0 0 0 0)::(ka a r (IntKind.wrap .u8 (1+(IntKind.wrap .u8 r1))) 5 1 0 0 0 (⟨#[]⟩:Bs) (some ⟨an,0,none⟩) 1 1 m1 m)::(ak,nO 5 1 0 0 0 (⟨#[]⟩:Bs) (some ⟨an,0,none⟩) 1 1 m1)::((an,nO l n o q s t c d e u)::F22)) fun ba I27 G18=>((∃(bi:Int),ba=.returned (vi bi)∧∃F29:cR,List.Perm G18 ((ka b (⟨#[]⟩:Bs) 0 0 0 0 0 0 (⟨#[]⟩:Bs) none 0 0 0 0)::(ka a r (IntKind.wrap .u8 (1+(IntKind.wrap .u8 r1))) 5 1 0 0 0 (⟨#[]⟩:Bs) (some ⟨an,0,none⟩) 1 1 m1 m)::(ak,nO 5 1 0 0 0 (⟨#[]⟩:Bs) (some ⟨an,0,none⟩) 1 1 m1)::F29)∧Q (.returned ((kb r (IntKind.wrap .u8 (1+(IntKind.wrap .u8 r1))) 5 1 0 0 0 (⟨#[]⟩:Bs) (some ⟨an,0,none⟩) 1 1 m1 m))) I27 F29)∨(∃av:List PanicEntry,ba=.panicked av∧∃F30:cR,List.Perm G18 ((ka b (⟨#[]⟩:Bs) 0 0 0 0 0 0 (⟨#[]⟩:Bs) none 0 0 0 0)::(ka a r (IntKind.wrap .u8 (1+(IntKind.wrap .u8 r1))) 5 1 0 0 0 (⟨#[]⟩:Bs) (some ⟨an,0,none⟩) 1 1 m1 m)::(ak,nO 5 1 0 0 0 (⟨#[]⟩:Bs) (some ⟨an,0,none⟩) 1 1 m1)::F30)∧Q (.panicked av) I27 F30))) (∀(aM:Nat) (I28:cS),cS.le I20 I28→I28 aM=some (Obj.cells #[vs (⟨#[59]⟩:Bs)] 9 (0,0))→cV P 23 (#[vp (some p),vl (some ⟨aM,0,none⟩) 1 1]) I28 ((ka b (⟨#[]⟩:Bs) 0 0 0 0 0 0 (⟨#[]⟩:Bs) none 0 0 0 0)::(ka a r (IntKind.wrap .u8 (1+(IntKind.wrap .u8 r1))) l n o q s t c d e u m)::(ak,nO l n o q s t c d e u)::F22) fun bb I29 G19=>((∃(bj:Int),bb=.returned (vi bj)∧∃F31:cR,List.Perm G19 ((ka b (⟨#[]⟩:Bs) 0 0 0 0 0 0 (⟨#[]⟩:Bs) none 0 0 0 0)::(ka a r (IntKind.wrap .u8 (1+(IntKind.wrap .u8 r1))) l n o q s t c d e u m)::(ak,nO l n o q s t c d e u)::F31)∧Q (.returned ((kb r (IntKind.wrap .u8 (1+(IntKind.wrap .u8 r1))) l n o q s t c d e u m))) I29 F31)∨(∃aw:List PanicEntry,bb=.panicked aw∧∃F32:cR,List.Perm G19 ((ka b (⟨#[]⟩:Bs) 0 0 0 0 0 0 (⟨#[]⟩:Bs) none 0 0 0 0)::(ka a r (IntKind.wrap .u8 (1+(IntKind.wrap .u8 r1))) l n o q s t c d e u m)::(ak,nO l n o q s t c d e u)::F32)∧Q (.panicked aw) I29 F32))))))∨(∃ax:List PanicEntry,a6=.panicked ax∧∃F33:cR,List.Perm G14 ((ka b (⟨#[]⟩:Bs) 0 0 0 0 0 0 (⟨#[]⟩:Bs) none 0 0 0 0)::(ka a r (IntKind.wrap .u8 (1+(IntKind.wrap .u8 r1))) 0 0 0 0 0 (⟨#[]⟩:Bs) none 0 0 0 m)::F33)∧Q (.panicked ax) I20 F33)))))∨(∃ay:List PanicEntry,e6=.panicked ay∧∃F34:cR,List.Perm G6 ((ka b (⟨#[]⟩:Bs) 0 0 0 0 0 0 (⟨#[]⟩:Bs) none 0 0 0 0)::(ka a r (IntKind.wrap .u8 (1+(IntKind.wrap .u8 r1))) 0 0 0 0 0 (⟨#[]⟩:Bs) none 0 0 0 m)::F34)∧Q (.panicked ay) I8 F34))) (cV P 45 (#[vp (some p)]) (cS.del I7 hb) ((ka b (⟨#[]⟩:Bs) 0 0 0 0 0 0 (⟨#[]⟩:Bs) none 0 0 0 0)::(ka a r (IntKind.wrap .u8 (1+(IntKind.wrap .u8 r1))) 0 0 0 0 0 (⟨#[]⟩:Bs) none 0 0 0 m)::((hb,ho)::F6)) fun bc I30 G20=>((∃(v w x y z:Int) (aa:Bs) (f:OA) (g h:Nat) (ab:Int) (au:Bool),bc=.returned (.tuple #[nV v w x y z aa f g h ab,vt au])∧∃F35:cR,List.Perm G20 ((ka b (⟨#[]⟩:Bs) 0 0 0 0 0 0 (⟨#[]⟩:Bs) none 0 0 0 0)::(ka a r (IntKind.wrap .u8 (1+(IntKind.wrap .u8 r1))) 0 0 0 0 0 (⟨#[]⟩:Bs) none 0 0 0 m)::F35)∧∀al:Nat,(It (!au) (cV P 19 (#[vp (some p),vi 130]) I30 ((ka b (⟨#[]⟩:Bs) 0 0 0 0 0 0 (⟨#[]⟩:Bs) none 0 0 0 0)::(ka a r (IntKind.wrap .u8 (1+(IntKind.wrap .u8 r1))) 0 0 0 0 0 (⟨#[]⟩:Bs) none 0 0 0 m)::(al,nO v w x y z aa f g h ab)::F35) fun bd I31 G21=>((bd=.returned (.tuple #[])∧∃F36:cR,List.Perm G21 ((ka b (⟨#[]⟩:Bs) 0 0 0 0 0 0 (⟨#[]⟩:Bs) none 0 0 0 0)::(ka a r (IntKind.wrap .u8 (1+(IntKind.wrap .u8 r1))) 0 0 0 0 0 (⟨#[]⟩:Bs) none 0 0 0 m)::(al,nO v w x y z aa f g h ab)::F36)∧(It r3 (∀ao:Nat,∀(aN:Nat) (I32:cS),cS.le I31 I32→I32 aN=some (Obj.cells #[vs (⟨#[59]⟩:Bs)] 9 (0,0))→cV P 23 (#[vp (some p),vl (some ⟨aN,0,none⟩) 1 1]) I32 ((ka b (⟨#[]⟩:Bs) 0 0 0 0 0 0 (⟨#[]⟩:Bs) none 0 0 0 0)::(ka a r (IntKind.wrap .u8 (1+(IntKind.wrap .u8 r1))) 5 1 0 0 0 (⟨#[]⟩:Bs) (some ⟨ao,0,none⟩) 1 1 m1 m)::(al,nO 5 1 0 0 0 (⟨#[]⟩:Bs) (some ⟨ao,0,none⟩) 1 1 m1)::((ao,nO v w x y z aa f g h ab)::F36)) fun be I33 G22=>((∃(bk:Int),be=.returned (vi bk)∧∃F37:cR,List.Perm G22 ((ka b (⟨#[]⟩:Bs) 0 0 0 0 0 0 (⟨#[]⟩:Bs) none 0 0 0 0)::(ka a r (IntKind.wrap .u8 (1+(IntKind.wrap .u8 r1))) 5 1 0 0 0 (⟨#[]⟩:Bs) (some ⟨ao,0,none⟩) 1 1 m1 m)::(al,nO 5 1 0 0 0 (⟨#[]⟩:Bs) (some ⟨ao,0,none⟩) 1 1 m1)::F37)∧Q (.returned ((kb r (IntKind.wrap .u8 (1+(IntKind.wrap .u8 r1))) 5 1 0 0 0 (⟨#[]⟩:Bs) (some ⟨ao,0,none⟩) 1 1 m1 m))) I33 F37)∨(∃az:List PanicEntry,be=.panicked az∧∃F38:cR,List.Perm G22 ((ka b (⟨#[]⟩:Bs) 0 0 0 0 0 0 (⟨#[]⟩:Bs) none 0 0 0 0)::(ka a r (IntKind.wrap .u8 (1+(IntKind.wrap .u8 r1))) 5 1 0 0 0 (⟨#[]⟩:Bs) (some ⟨ao,0,none⟩) 1 1 m1 m)::(al,nO 5 1 0 0 0 (⟨#[]⟩:Bs) (some ⟨ao,0,none⟩) 1 1 m1)::F38)∧Q (.panicked az) I33 F38))) (∀(aO:Nat) (I34:cS),cS.le I31 I34→I34 aO=some (Obj.cells #[vs (⟨#[59]⟩:Bs)] 9 (0,0))→cV P 23 (#[vp (some p),vl (some ⟨aO,0,none⟩) 1 1]) I34 ((ka b (⟨#[]⟩:Bs) 0 0 0 0 0 0 (⟨#[]⟩:Bs) none 0 0 0 0)::(ka a r (IntKind.wrap .u8 (1+(IntKind.wrap .u8 r1))) v w x y z aa f g h ab m)::(al,nO v w x y z aa f g h ab)::F36) fun bf I35 G23=>((∃(bl:Int),bf=.returned (vi bl)∧∃F39:cR,List.Perm G23 ((ka b (⟨#[]⟩:Bs) 0 0 0 0 0 0 (⟨#[]⟩:Bs) none 0 0 0 0)::(ka a r (IntKind.wrap .u8 (1+(IntKind.wrap .u8 r1))) v w x y z aa f g h ab m)::(al,nO v w x y z aa f g h ab)::F39)∧Q (.returned ((kb r (IntKind.wrap .u8 (1+(IntKind.wrap .u8 r1))) v w x y z aa f g h ab m))) I35 F39)∨(∃aA:List PanicEntry,bf=.panicked aA∧∃F40:cR,List.Perm G23 ((ka b (⟨#[]⟩:Bs) 0 0 0 0 0 0 (⟨#[]⟩:Bs) none 0 0 0 0)::(ka a r (IntKind.wrap .u8 (1+(IntKind.wrap .u8 r1))) v w x y z aa f g h ab m)::(al,nO v w x y z aa f g h ab)::F40)∧Q (.panicked aA) I35 F40)))))∨(∃aB:List PanicEntry,bd=.panicked aB∧∃F41:cR,List.Perm G21 ((ka b (⟨#[]⟩:Bs) 0 0 0 0 0 0 (⟨#[]⟩:Bs) none 0 0 0 0)::(ka a r (IntKind.wrap .u8 (1+(IntKind.wrap .u8 r1))) 0 0 0 0 0 (⟨#[]⟩:Bs) none 0 0 0 m)::(al,nO v w x y z aa f g h ab)::F41)∧Q (.panicked aB) I31 F41))) (It r3 (∀ap:Nat,∀(aP:Nat) (I36:cS),cS.le I30 I36→I36 aP=some (Obj.cells #[vs (⟨#[59]⟩:Bs)] 9 (0,0))→cV P 23 (#[vp (some p),vl (some ⟨aP,0,none⟩) 1 1]) I36 ((ka b (⟨#[]⟩:Bs) 0 0 0 0 0 0 (⟨#[]⟩:Bs) none 0 0 0 0)::(ka a r (IntKind.wrap .u8 (1+(IntKind.wrap .u8 r1))) 5 1 0 0 0 (⟨#[]⟩:Bs) (some ⟨ap,0,none⟩) 1 1 m1 m)::(al,nO 5 1 0 0 0 (⟨#[]⟩:Bs) (some ⟨ap,0,none⟩) 1 1 m1)::((ap,nO v w x y z aa f g h ab)::F35)) fun bg I37 G24=>((∃(bm:Int),bg=.returned (vi bm)∧∃F42:cR,List.Perm G24 ((ka b (⟨#[]⟩:Bs) 0 0 0 0 0 0 (⟨#[]⟩:Bs) none 0 0 0 0)::(ka a r (IntKind.wrap .u8 (1+(IntKind.wrap .u8 r1))) 5 1 0 0 0 (⟨#[]⟩:Bs) (some ⟨ap,0,none⟩) 1 1 m1 m)::(al,nO 5 1 0 0 0 (⟨#[]⟩:Bs) (some ⟨ap,0,none⟩) 1 1 m1)::F42)∧Q (.returned ((kb r (IntKind.wrap .u8 (1+(IntKind.wrap .u8 r1))) 5 1 0 0 0 (⟨#[]⟩:Bs) (some ⟨ap,0,none⟩) 1 1 m1 m))) I37 F42)∨(∃aC:List PanicEntry,bg=.panicked aC∧∃F43:cR,List.Perm G24 ((ka b (⟨#[]⟩:Bs) 0 0 0 0 0 0 (⟨#[]⟩:Bs) none 0 0 0 0)::(ka a r (IntKind.wrap .u8 (1+(IntKind.wrap .u8 r1))) 5 1 0 0 0 (⟨#[]⟩:Bs) (some ⟨ap,0,none⟩) 1 1 m1 m)::(al,nO 5 1 0 0 0 (⟨#[]⟩:Bs) (some ⟨ap,0,none⟩) 1 1 m1)::F43)∧Q (.panicked aC) I37 F43))) (∀(aQ:Nat) (I38:cS),cS.le I30 I38→I38 aQ=some (Obj.cells #[vs (⟨#[59]⟩:Bs)] 9 (0,0))→cV P 23 (#[vp (some p),vl (some ⟨aQ,0,none⟩) 1 1]) I38 ((ka b (⟨#[]⟩:Bs) 0 0 0 0 0 0 (⟨#[]⟩:Bs) none 0 0 0 0)::(ka a r (IntKind.wrap .u8 (1+(IntKind.wrap .u8 r1))) v w x y z aa f g h ab m)::(al,nO v w x y z aa f g h ab)::F35) fun bh I39 G25=>((∃(bn:Int),bh=.returned (vi bn)∧∃F44:cR,List.Perm G25 ((ka b (⟨#[]⟩:Bs) 0 0 0 0 0 0 (⟨#[]⟩:Bs) none 0 0 0 0)::(ka a r (IntKind.wrap .u8 (1+(IntKind.wrap .u8 r1))) v w x y z aa f g h ab m)::(al,nO v w x y z aa f g h ab)::F44)∧Q (.returned ((kb r (IntKind.wrap .u8 (1+(IntKind.wrap .u8 r1))) v w x y z aa f g h ab m))) I39 F44)∨(∃aD:List PanicEntry,bh=.panicked aD∧∃F45:cR,List.Perm G25 ((ka b (⟨#[]⟩:Bs) 0 0 0 0 0 0 (⟨#[]⟩:Bs) none 0 0 0 0)::(ka a r (IntKind.wrap .u8 (1+(IntKind.wrap .u8 r1))) v w x y z aa f g h ab m)::(al,nO v w x y z aa f g h ab)::F45)∧Q (.panicked aD) I39 F45))))))∨(∃aE:List PanicEntry,bc=.panicked aE∧∃F46:cR,List.Perm G20 ((ka b (⟨#[]⟩:Bs) 0 0 0 0 0 0 (⟨#[]⟩:Bs) none 0 0 0 0)::(ka a r (IntKind.wrap .u8 (1+(IntKind.wrap .u8 r1))) 0 0 0 0 0 (⟨#[]⟩:Bs) none 0 0 0 m)::F46)∧Q (.panicked aE) I30 F46)))))∨(∃aF:List PanicEntry,e4=.panicked aF∧∃F47:cR,List.Perm G4 ((ka b (⟨#[]⟩:Bs) 0 0 0 0 0 0 (⟨#[]⟩:Bs) none 0 0 0 0)::(ka a r (IntKind.wrap .u8 (1+(IntKind.wrap .u8 r1))) 0 0 0 0 0 (⟨#[]⟩:Bs) none 0 0 0 m)::F47)∧Q (.panicked aF) I6 F47)))∨(∃aG:List PanicEntry,e3=.panicked aG∧∃F48:cR,List.Perm G3 ((ka b (⟨#[]⟩:Bs) 0 0 0 0 0 0 (⟨#[]⟩:Bs) none 0 0 0 0)::(ka a r 0 0 0 0 0 0 (⟨#[]⟩:Bs) none 0 0 0 m)::F48)∧Q (.panicked aG) I4 F48)))∨(∃aH:List PanicEntry,e2=.panicked aH∧∃F49:cR,List.Perm G2 ((ka b (⟨#[]⟩:Bs) 0 0 0 0 0 0 (⟨#[]⟩:Bs) none 0 0 0 0)::(ka a (⟨#[]⟩:Bs) 0 0 0 0 0 0 (⟨#[]⟩:Bs) none 0 0 0 m)::F49)∧Q (.panicked aH) I2 F49)))∨(∃aI:List PanicEntry,e1=.panicked aI∧∃F50:cR,List.Perm G1 ((ka b (⟨#[]⟩:Bs) 0 0 0 0 0 0 (⟨#[]⟩:Bs) none 0 0 0 0)::(ka a (⟨#[]⟩:Bs) 0 0 0 0 0 0 (⟨#[]⟩:Bs) none 0 0 0 m)::F50)∧Q (.panicked aI) I1 F50))
theorem fw.vc{p:Addr}{I:cS}{F:cR}{Q:cW}  (h:fw.V (fun W a b c d e f g h i j k l m=>(W,Obj.cells #[.string a,.int .u8 b,.int .u8 c,.int .u8 d,.int .u8 e,.int .i64 f,.int .u8 g,.string h,.slice i j k,.int .i64 l,.int .i64 m] 92 (0,0))) (fun a b c d e f g h i j k l m=>.agg #[.string a,.int .u8 b,.int .u8 c,.int .u8 d,.int .u8 e,.int .i64 f,.int .u8 g,.string h,.slice i j k,.int .i64 l,.int .i64 m]) (fun k o t n f s a l c q=>.agg #[.int .u8 k,.int .u8 o,.int .u8 t,.int .i64 n,.int .u8 f,.string s,.slice a l c,.int .i64 q]) (fun k o t n f s a l c q=>.cells #[.int .u8 k,.int .u8 o,.int .u8 t,.int .i64 n,.int .u8 f,.string s,.slice a l c,.int .i64 q] 29 (0,0)) (.int .u8) (.int .i64) .string .slice .bool .pointer p I F Q):cV P 31 #[.pointer (some p)] I F Q :=
 tw (A:=(eU [7000,9005,12001,14000] [18,19,23,29,45] [18,19,21,23,29,45] iJ [] [4001,5001,17001] [15001] [] [] [(6,[0,1,2,3,5,4,6,7,8])] [] [] [(6,[4,1000],9)])) [18,19,21,23,29,45] func31 h
def fg.V(ka:Nat→Bs→Int→Nat×Obj)(vi:Int→Value)(vs:Bs→Value)(p:Addr)(I:cS)(F:cR)(Q:cW)  : Prop:=∀b:Nat,∃ad:Addr,some p=some ad∧∃(m:Int),Rd I ((ka b (⟨#[]⟩:Bs) 0)::F) ((ad.add 1).add 4) [vi m]∧∀a:Nat,cV P 18 (#[.pointer (some p)]) I ((ka b (⟨#[]⟩:Bs) 0)::(ka a (⟨#[]⟩:Bs) m)::F) fun e1 I1 G1=>((e1=.returned (.tuple #[])∧∃F1:cR,List.Perm G1 ((ka b (⟨#[]⟩:Bs) 0)::(ka a (⟨#[]⟩:Bs) m)::F1)∧cV P 29 (#[.pointer (some p)]) I1 ((ka b (⟨#[]⟩:Bs) 0)::(ka a (⟨#[]⟩:Bs) m)::F1) fun e2 I2 G2=>((∃(r:Bs),e2=.returned (vs r)∧∃F2:cR,List.Perm G2 ((ka b (⟨#[]⟩:Bs) 0)::(ka a (⟨#[]⟩:Bs) m)::F2)∧∀(b1:Nat) (I3:cS),cS.le I2 I3→I3 b1=some (Obj.cells #[vs (⟨#[59]⟩:Bs)] 9 (0,0))→cV P 23 (#[.pointer (some p),.slice (some ⟨b1,0,none⟩) 1 1]) I3 ((ka b (⟨#[]⟩:Bs) 0)::(ka a r m)::F2) fun e3 I4 G3=>((∃(r1:Int),e3=.returned (vi r1)∧∃F3:cR,List.Perm G3 ((ka b (⟨#[]⟩:Bs) 0)::(ka a r m)::F3)∧Q (.returned (.agg #[vs r,vi m])) I4 F3)∨(∃ch:List PanicEntry,e3=.panicked ch∧∃F4:cR,List.Perm G3 ((ka b (⟨#[]⟩:Bs) 0)::(ka a r m)::F4)∧Q (.panicked ch) I4 F4)))∨(∃c:List PanicEntry,e2=.panicked c∧∃F5:cR,List.Perm G2 ((ka b (⟨#[]⟩:Bs) 0)::(ka a (⟨#[]⟩:Bs) m)::F5)∧Q (.panicked c) I2 F5)))∨(∃d:List PanicEntry,e1=.panicked d∧∃F6:cR,List.Perm G1 ((ka b (⟨#[]⟩:Bs) 0)::(ka a (⟨#[]⟩:Bs) m)::F6)∧Q (.panicked d) I1 F6))
theorem fg.vc{p:Addr}{I:cS}{F:cR}{Q:cW}  (h:fg.V (fun W a b=>(W,Obj.cells #[.string a,.int .i64 b] 97 (0,0))) (.int .i64) .string p I F Q):cV P 33 #[.pointer (some p)] I F Q :=
 tw (A:=(eU [] [18,23,29] [18,23,29] iJ [] [4001] [] [] [] [] [])) [18,23,29] func33 h
def fG.V(ka:Nat→Int→Int→Bs→Int→Int→Int→Int→Int→Bs→OA→Nat→Nat→Int→Int→Int→Int→Int→Int→Bs→OA→Nat→Nat→Int→Int→Int→Int→Int→Int→Bs→OA→Nat→Nat→Int→Int→Int→Int→Int→Int→Bs→OA→Nat→Nat→Int→Int→Nat×Obj)(kb:Int→Int→Bs→Int→Int→Int→Int→Int→Bs→OA→Nat→Nat→Int→Int→Int→Int→Int→Int→Bs→OA→Nat→Nat→Int→Int→Int→Int→Int→Int→Bs→OA→Nat→Nat→Int→Int→Int→Int→Int→Int→Bs→OA→Nat→Nat→Int→Int→Value)(nV:Int→Int→Int→Int→Int→Bs→OA→Nat→Nat→Int→Value)(vb vi:Int→Value)(vs:Bs→Value)(vl:OA→Nat→Nat→Value)(vp:OA→Value)(p:Addr)(I:cS)(F:cR)(Q:cW)  : Prop:=∀b:Nat,∃ad:Addr,some p=some ad∧∃(m:Int),Rd I ((ka b 0 0 (⟨#[]⟩:Bs) 0 0 0 0 0 (⟨#[]⟩:Bs) none 0 0 0 0 0 0 0 0 (⟨#[]⟩:Bs) none 0 0 0 0 0 0 0 0 (⟨#[]⟩:Bs) none 0 0 0 0 0 0 0 0 (⟨#[]⟩:Bs) none 0 0 0 0)::F) ((ad.add 1).add 4) [vi m]∧∀a:Nat,∀(b1:Nat) (I1:cS),cS.le I I1→I1 b1=some (Obj.cells #[vs (⟨#[115,117,98,109,105,116]⟩:Bs),vs (⟨#[97,109,101,110,100]⟩:Bs),vs (⟨#[99,97,110,99,101,108]⟩:Bs),vs (⟨#[115,101,116]⟩:Bs),vs (⟨#[103,111,116,111]⟩:Bs),vs (⟨#[104,97,108,116]⟩:Bs)] 9 (0,0))→cV P 23 (#[vp (some p),vl (some ⟨b1,0,none⟩) 6 6]) I1 ((ka b 0 0 (⟨#[]⟩:Bs) 0 0 0 0 0 (⟨#[]⟩:Bs) none 0 0 0 0 0 0 0 0 (⟨#[]⟩:Bs) none 0 0 0 0 0 0 0 0 (⟨#[]⟩:Bs) none 0 0 0 0 0 0 0 0 (⟨#[]⟩:Bs) none 0 0 0 0)::(ka a 0 0 (⟨#[]⟩:Bs) 0 0 0 0 0 (⟨#[]⟩:Bs) none 0 0 0 0 0 0 0 0 (⟨#[]⟩:Bs) none 0 0 0 0 0 0 0 0 (⟨#[]⟩:Bs) none 0 0 0 0 0 0 0 0 (⟨#[]⟩:Bs) none 0 0 0 m)::F) fun e1 I2 G1=>((∃(r:Int),e1=.returned (vi r)∧∃F1:cR,List.Perm G1 ((ka b 0 0 (⟨#[]⟩:Bs) 0 0 0 0 0 (⟨#[]⟩:Bs) none 0 0 0 0 0 0 0 0 (⟨#[]⟩:Bs) none 0 0 0 0 0 0 0 0 (⟨#[]⟩:Bs) none 0 0 0 0 0 0 0 0 (⟨#[]⟩:Bs) none 0 0 0 0)::(ka a 0 0 (⟨#[]⟩:Bs) 0 0 0 0 0 (⟨#[]⟩:Bs) none 0 0 0 0 0 0 0 0 (⟨#[]⟩:Bs) none 0 0 0 0 0 0 0 0 (⟨#[]⟩:Bs) none 0 0 0 0 0 0 0 0 (⟨#[]⟩:Bs) none 0 0 0 m)::F1)∧(It ((IntKind.wrap .u8 (1+(IntKind.wrap .u8 r)))==1) (cV P 13 (#[vp (some p),vi 0]) I2 ((ka b 0 0 (⟨#[]⟩:Bs) 0 0 0 0 0 (⟨#[]⟩:Bs) none 0 0 0 0 0 0 0 0 (⟨#[]⟩:Bs) none 0 0 0 0 0 0 0 0 (⟨#[]⟩:Bs) none 0 0 0 0 0 0 0 0 (⟨#[]⟩:Bs) none 0 0 0 0)::(ka a (IntKind.wrap .u8 (1+(IntKind.wrap .u8 r))) 0 (⟨#[]⟩:Bs) 0 0 0 0 0 (⟨#[]⟩:Bs) none 0 0 0 0 0 0 0 0 (⟨#[]⟩:Bs) none 0 0 0 0 0 0 0 0 (⟨#[]⟩:Bs) none 0 0 0 0 0 0 0 0 (⟨#[]⟩:Bs) none 0 0 0 m)::F1) fun e2 I3 G2=>((∃(s t u v w:Int) (x:Bs) (f:OA) (g h:Nat) (y:Int),e2=.returned (nV s t u v w x f g h y)∧∃F2:cR,List.Perm G2 ((ka b 0 0 (⟨#[]⟩:Bs) 0 0 0 0 0 (⟨#[]⟩:Bs) none 0 0 0 0 0 0 0 0 (⟨#[]⟩:Bs) none 0 0 0 0 0 0 0 0 (⟨#[]⟩:Bs) none 0 0 0 0 0 0 0 0 (⟨#[]⟩:Bs) none 0 0 0 0)::(ka a (IntKind.wrap .u8 (1+(IntKind.wrap .u8 r))) 0 (⟨#[]⟩:Bs) 0 0 0 0 0 (⟨#[]⟩:Bs) none 0 0 0 0 0 0 0 0 (⟨#[]⟩:Bs) none 0 0 0 0 0 0 0 0 (⟨#[]⟩:Bs) none 0 0 0 0 0 0 0 0 (⟨#[]⟩:Bs) none 0 0 0 m)::F2)∧∀(b2:Nat) (I4:cS),cS.le I3 I4→I4 b2=some (Obj.cells #[vs (⟨#[111,102]⟩:Bs)] 9 (0,0))→cV P 23 (#[vp (some p),vl (some ⟨b2,0,none⟩) 1 1]) I4 ((ka b 0 0 (⟨#[]⟩:Bs) 0 0 0 0 0 (⟨#[]⟩:Bs) none 0 0 0 0 0 0 0 0 (⟨#[]⟩:Bs) none 0 0 0 0 0 0 0 0 (⟨#[]⟩:Bs) none 0 0 0 0 0 0 0 0 (⟨#[]⟩:Bs) none 0 0 0 0)::(ka a (IntKind.wrap .u8 (1+(IntKind.wrap .u8 r))) 0 (⟨#[]⟩:Bs) s t u v w x f g h y 0 0 0 0 0 (⟨#[]⟩:Bs) none 0 0 0 0 0 0 0 0 (⟨#[]⟩:Bs) none 0 0 0 0 0 0 0 0 (⟨#[]⟩:Bs) none 0 0 0 m)::F2) fun e3 I5 G3=>((∃(r1:Int),e3=.returned (vi r1)∧∃F3:cR,List.Perm G3 ((ka b 0 0 (⟨#[]⟩:Bs) 0 0 0 0 0 (⟨#[]⟩:Bs) none 0 0 0 0 0 0 0 0 (⟨#[]⟩:Bs) none 0 0 0 0 0 0 0 0 (⟨#[]⟩:Bs) none 0 0 0 0 0 0 0 0 (⟨#[]⟩:Bs) none 0 0 0 0)::(ka a (IntKind.wrap .u8 (1+(IntKind.wrap .u8 r))) 0 (⟨#[]⟩:Bs) s t u v w x f g h y 0 0 0 0 0 (⟨#[]⟩:Bs) none 0 0 0 0 0 0 0 0 (⟨#[]⟩:Bs) none 0 0 0 0 0 0 0 0 (⟨#[]⟩:Bs) none 0 0 0 m)::F3)∧cV P 13 (#[vp (some p),vi 0]) I5 ((ka b 0 0 (⟨#[]⟩:Bs) 0 0 0 0 0 (⟨#[]⟩:Bs) none 0 0 0 0 0 0 0 0 (⟨#[]⟩:Bs) none 0 0 0 0 0 0 0 0 (⟨#[]⟩:Bs) none 0 0 0 0 0 0 0 0 (⟨#[]⟩:Bs) none 0 0 0 0)::(ka a (IntKind.wrap .u8 (1+(IntKind.wrap .u8 r))) 0 (⟨#[]⟩:Bs) s t u v w x f g h y 0 0 0 0 0 (⟨#[]⟩:Bs) none 0 0 0 0 0 0 0 0 (⟨#[]⟩:Bs) none 0 0 0 0 0 0 0 0 (⟨#[]⟩:Bs) none 0 0 0 m)::F3) fun e4 I6 G4=>((∃(i j k l n:Int) (o:Bs) (c:OA) (d e:Nat) (q:Int),e4=.returned (nV i j k l n o c d e q)∧∃F4:cR,List.Perm G4 ((ka b 0 0 (⟨#[]⟩:Bs) 0 0 0 0 0 (⟨#[]⟩:Bs) none 0 0 0 0 0 0 0 0 (⟨#[]⟩:Bs) none 0 0 0 0 0 0 0 0 (⟨#[]⟩:Bs) none 0 0 0 0 0 0 0 0 (⟨#[]⟩:Bs) none 0 0 0 0)::(ka a (IntKind.wrap .u8 (1+(IntKind.wrap .u8 r))) 0 (⟨#[]⟩:Bs) s t u v w x f g h y 0 0 0 0 0 (⟨#[]⟩:Bs) none 0 0 0 0 0 0 0 0 (⟨#[]⟩:Bs) none 0 0 0 0 0 0 0 0 (⟨#[]⟩:Bs) none 0 0 0 m)::F4)∧∀(b3:Nat) (I7:cS),cS.le I6 I7→I7 b3=some (Obj.cells #[vs (⟨#[109,97,114,107,101,116]⟩:Bs),vs (⟨#[97,116]⟩:Bs)] 9 (0,0))→cV P 23 (#[vp (some p),vl (some ⟨b3,0,none⟩) 2 2]) I7 ((ka b 0 0 (⟨#[]⟩:Bs) 0 0 0 0 0 (⟨#[]⟩:Bs) none 0 0 0 0 0 0 0 0 (⟨#[]⟩:Bs) none 0 0 0 0 0 0 0 0 (⟨#[]⟩:Bs) none 0 0 0 0 0 0 0 0 (⟨#[]⟩:Bs) none 0 0 0 0)::(ka a (IntKind.wrap .u8 (1+(IntKind.wrap .u8 r))) 2 (⟨#[]⟩:Bs) s t u v w x f g h y i j k l n o c d e q 0 0 0 0 0 (⟨#[]⟩:Bs) none 0 0 0 0 0 0 0 0 (⟨#[]⟩:Bs) none 0 0 0 m)::F4) fun e5 I8 G5=>((∃(r2:Int),e5=.returned (vi r2)∧∃F5:cR,List.Perm G5 ((ka b 0 0 (⟨#[]⟩:Bs) 0 0 0 0 0 (⟨#[]⟩:Bs) none 0 0 0 0 0 0 0 0 (⟨#[]⟩:Bs) none 0 0 0 0 0 0 0 0 (⟨#[]⟩:Bs) none 0 0 0 0 0 0 0 0 (⟨#[]⟩:Bs) none 0 0 0 0)::(ka a (IntKind.wrap .u8 (1+(IntKind.wrap .u8 r))) 2 (⟨#[]⟩:Bs) s t u v w x f g h y i j k l n o c d e q 0 0 0 0 0 (⟨#[]⟩:Bs) none 0 0 0 0 0 0 0 0 (⟨#[]⟩:Bs) none 0 0 0 m)::F5)∧(It (r2==1) (cV P 13 (#[vp (some p),vi 0]) I8 ((ka b 0 0 (⟨#[]⟩:Bs) 0 0 0 0 0 (⟨#[]⟩:Bs) none 0 0 0 0 0 0 0 0 (⟨#[]⟩:Bs) none 0 0 0 0 0 0 0 0 (⟨#[]⟩:Bs) none 0 0 0 0 0 0 0 0 (⟨#[]⟩:Bs) none 0 0 0 0)::(ka a (IntKind.wrap .u8 (1+(IntKind.wrap .u8 r))) 2 (⟨#[]⟩:Bs) s t u v w x f g h y i j k l n o c d e q 0 0 0 0 0 (⟨#[]⟩:Bs) none 0 0 0 0 0 0 0 0 (⟨#[]⟩:Bs) none 0 0 0 m)::F5) fun e6 I9 G6=>((∃(ac ae af ag ah:Int) (ai:Bs) (z:OA) (aa ab:Nat) (aj:Int),e6=.returned (nV ac ae af ag ah ai z aa ab aj)∧∃F6:cR,List.Perm G6 ((ka b 0 0 (⟨#[]⟩:Bs) 0 0 0 0 0 (⟨#[]⟩:Bs) none 0 0 0 0 0 0 0 0 (⟨#[]⟩:Bs) none 0 0 0 0 0 0 0 0 (⟨#[]⟩:Bs) none 0 0 0 0 0 0 0 0 (⟨#[]⟩:Bs) none 0 0 0 0)::(ka a (IntKind.wrap .u8 (1+(IntKind.wrap .u8 r))) 2 (⟨#[]⟩:Bs) s t u v w x f g h y i j k l n o c d e q 0 0 0 0 0 (⟨#[]⟩:Bs) none 0 0 0 0 0 0 0 0 (⟨#[]⟩:Bs) none 0 0 0 m)::F6)∧∀(b4:Nat) (I10:cS),cS.le I9 I10→I10 b4=some (Obj.cells #[vb 1,vb 3,vb 4,vb 5] 138 (0,0))→∀(b5:Nat) (I11:cS),cS.le I10 I11→I11 b5=some (Obj.cells #[vs (⟨#[108,105,109,105,116]⟩:Bs),vs (⟨#[105,111,99]⟩:Bs),vs (⟨#[102,111,107]⟩:Bs),vs (⟨#[112,111,115,116]⟩:Bs)] 9 (0,0))→cV P 23 (#[vp (some p),vl (some ⟨b5,0,none⟩) 4 4]) I11 ((ka b 0 0 (⟨#[]⟩:Bs) 0 0 0 0 0 (⟨#[]⟩:Bs) none 0 0 0 0 0 0 0 0 (⟨#[]⟩:Bs) none 0 0 0 0 0 0 0 0 (⟨#[]⟩:Bs) none 0 0 0 0 0 0 0 0 (⟨#[]⟩:Bs) none 0 0 0 0)::(ka a (IntKind.wrap .u8 (1+(IntKind.wrap .u8 r))) 2 (⟨#[]⟩:Bs) s t u v w x f g h y i j k l n o c d e q ac ae af ag ah ai z aa ab aj 0 0 0 0 0 (⟨#[]⟩:Bs) none 0 0 0 m)::F6) fun e7 I12 G7=>((∃(r3:Int),e7=.returned (vi r3)∧∃F7:cR,List.Perm G7 ((ka b 0 0 (⟨#[]⟩:Bs) 0 0 0 0 0 (⟨#[]⟩:Bs) none 0 0 0 0 0 0 0 0 (⟨#[]⟩:Bs) none 0 0 0 0 0 0 0 0 (⟨#[]⟩:Bs) none 0 0 0 0 0 0 0 0 (⟨#[]⟩:Bs) none 0 0 0 0)::(ka a (IntKind.wrap .u8 (1+(IntKind.wrap .u8 r))) 2 (⟨#[]⟩:Bs) s t u v w x f g h y i j k l n o c d e q ac ae af ag ah ai z aa ab aj 0 0 0 0 0 (⟨#[]⟩:Bs) none 0 0 0 m)::F7)∧((0≤r3∧r3<(4:Int))∧∃a2:Addr,some ⟨b4,0,none⟩=some a2∧∃(m1:Int),Rd I12 ((ka b 0 0 (⟨#[]⟩:Bs) 0 0 0 0 0 (⟨#[]⟩:Bs) none 0 0 0 0 0 0 0 0 (⟨#[]⟩:Bs) none 0 0 0 0 0 0 0 0 (⟨#[]⟩:Bs) none 0 0 0 0 0 0 0 0 (⟨#[]⟩:Bs) none 0 0 0 0)::(ka a (IntKind.wrap .u8 (1+(IntKind.wrap .u8 r))) 2 (⟨#[]⟩:Bs) s t u v w x f g h y i j k l n o c d e q ac ae af ag ah ai z aa ab aj 0 0 0 0 0 (⟨#[]⟩:Bs) none 0 0 0 m)::F7) (a2.add (Int.toNat r3*1)) [vb m1]∧k6 P 21 (#[vp (some p),vs (⟨#[97,115]⟩:Bs)]) I12 ((ka b 0 0 (⟨#[]⟩:Bs) 0 0 0 0 0 (⟨#[]⟩:Bs) none 0 0 0 0 0 0 0 0 (⟨#[]⟩:Bs) none 0 0 0 0 0 0 0 0 (⟨#[]⟩:Bs) none 0 0 0 0 0 0 0 0 (⟨#[]⟩:Bs) none 0 0 0 0)::(ka a (IntKind.wrap .u8 (1+(IntKind.wrap .u8 r))) m1 (⟨#[]⟩:Bs) s t u v w x f g h y i j k l n o c d e q ac ae af ag ah ai z aa ab aj 0 0 0 0 0 (⟨#[]⟩:Bs) none 0 0 0 m)::·) F7 .bool fun r4 I13 F8=>(It r4 (cV P 18 (#[vp (some p)]) I13 ((ka b 0 0 (⟨#[]⟩:Bs) 0 0 0 0 0 (⟨#[]⟩:Bs) none 0 0 0 0 0 0 0 0 (⟨#[]⟩:Bs) none 0 0 0 0 0 0 0 0 (⟨#[]⟩:Bs) none 0 0 0 0 0 0 0 0 (⟨#[]⟩:Bs) none 0 0 0 0)::(ka a (IntKind.wrap .u8 (1+(IntKind.wrap .u8 r))) m1 (⟨#[]⟩:Bs) s t u v w x f g h y i j k l n o c d e q ac ae af ag ah ai z aa ab aj 0 0 0 0 0 (⟨#[]⟩:Bs) none 0 0 0 m)::F8) fun e9 I14 G9=>((e9=.returned (.tuple #[])∧∃F9:cR,List.Perm G9 ((ka b 0 0 (⟨#[]⟩:Bs) 0 0 0 0 0 (⟨#[]⟩:Bs) none 0 0 0 0 0 0 0 0 (⟨#[]⟩:Bs) none 0 0 0 0 0 0 0 0 (⟨#[]⟩:Bs) none 0 0 0 0 0 0 0 0 (⟨#[]⟩:Bs) none 0 0 0 0)::(ka a (IntKind.wrap .u8 (1+(IntKind.wrap .u8 r))) m1 (⟨#[]⟩:Bs) s t u v w x f g h y i j k l n o c d e q ac ae af ag ah ai z aa ab aj 0 0 0 0 0 (⟨#[]⟩:Bs) none 0 0 0 m)::F9)∧cV P 29 (#[vp (some p)]) I14 ((ka b 0 0 (⟨#[]⟩:Bs) 0 0 0 0 0 (⟨#[]⟩:Bs) none 0 0 0 0 0 0 0 0 (⟨#[]⟩:Bs) none 0 0 0 0 0 0 0 0 (⟨#[]⟩:Bs) none 0 0 0 0 0 0 0 0 (⟨#[]⟩:Bs) none 0 0 0 0)::(ka a (IntKind.wrap .u8 (1+(IntKind.wrap .u8 r))) m1 (⟨#[]⟩:Bs) s t u v w x f g h y i j k l n o c d e q ac ae af ag ah ai z aa ab aj 0 0 0 0 0 (⟨#[]⟩:Bs) none 0 0 0 m)::F9) fun bc I15 G10=>((∃(r5:Bs),bc=.returned (vs r5)∧∃F10:cR,List.Perm G10 ((ka b 0 0 (⟨#[]⟩:Bs) 0 0 0 0 0 (⟨#[]⟩:Bs) none 0 0 0 0 0 0 0 0 (⟨#[]⟩:Bs) none 0 0 0 0 0 0 0 0 (⟨#[]⟩:Bs) none 0 0 0 0 0 0 0 0 (⟨#[]⟩:Bs) none 0 0 0 0)::(ka a (IntKind.wrap .u8 (1+(IntKind.wrap .u8 r))) m1 (⟨#[]⟩:Bs) s t u v w x f g h y i j k l n o c d e q ac ae af ag ah ai z aa ab aj 0 0 0 0 0 (⟨#[]⟩:Bs) none 0 0 0 m)::F10)∧Q (.returned ((kb (IntKind.wrap .u8 (1+(IntKind.wrap .u8 r))) m1 r5 s t u v w x f g h y i j k l n o c d e q ac ae af ag ah ai z aa ab aj 0 0 0 0 0 (⟨#[]⟩:Bs) none 0 0 0 m))) I15 F10)∨(∃ch:List PanicEntry,bc=.panicked ch∧∃F11:cR,List.Perm G10 ((ka b 0 0 (⟨#[]⟩:Bs) 0 0 0 0 0 (⟨#[]⟩:Bs) none 0 0 0 0 0 0 0 0 (⟨#[]⟩:Bs) none 0 0 0 0 0 0 0 0 (⟨#[]⟩:Bs) none 0 0 0 0 0 0 0 0 (⟨#[]⟩:Bs) none 0 0 0 0)::(ka a (IntKind.wrap .u8 (1+(IntKind.wrap .u8 r))) m1 (⟨#[]⟩:Bs) s t u v w x f g h y i j k l n o c d e q ac ae af ag ah ai z aa ab aj 0 0 0 0 0 (⟨#[]⟩:Bs) none 0 0 0 m)::F11)∧Q (.panicked ch) I15 F11)))∨(∃a3:List PanicEntry,e9=.panicked a3∧∃F12:cR,List.Perm G9 ((ka b 0 0 (⟨#[]⟩:Bs) 0 0 0 0 0 (⟨#[]⟩:Bs) none 0 0 0 0 0 0 0 0 (⟨#[]⟩:Bs) none 0 0 0 0 0 0 0 0 (⟨#[]⟩:Bs) none 0 0 0 0 0 0 0 0 (⟨#[]⟩:Bs) none 0 0 0 0)::(ka a (IntKind.wrap .u8 (1+(IntKind.wrap .u8 r))) m1 (⟨#[]⟩:Bs) s t u v w x f g h y i j k l n o c d e q ac ae af ag ah ai z aa ab aj 0 0 0 0 0 (⟨#[]⟩:Bs) none 0 0 0 m)::F12)∧Q (.panicked a3) I14 F12))) (Q (.returned ((kb (IntKind.wrap .u8 (1+(IntKind.wrap .u8 r))) m1 (⟨#[]⟩:Bs) s t u v w x f g h y i j k l n o c d e q ac ae af ag ah ai z aa ab aj 0 0 0 0 0 (⟨#[]⟩:Bs) none 0 0 0 m))) I13 F8))))∨(∃a4:List PanicEntry,e7=.panicked a4∧∃F13:cR,List.Perm G7 ((ka b 0 0 (⟨#[]⟩:Bs) 0 0 0 0 0 (⟨#[]⟩:Bs) none 0 0 0 0 0 0 0 0 (⟨#[]⟩:Bs) none 0 0 0 0 0 0 0 0 (⟨#[]⟩:Bs) none 0 0 0 0 0 0 0 0 (⟨#[]⟩:Bs) none 0 0 0 0)::(ka a (IntKind.wrap .u8 (1+(IntKind.wrap .u8 r))) 2 (⟨#[]⟩:Bs) s t u v w x f g h y i j k l n o c d e q ac ae af ag ah ai z aa ab aj 0 0 0 0 0 (⟨#[]⟩:Bs) none 0 0 0 m)::F13)∧Q (.panicked a4) I12 F13)))∨(∃a5:List PanicEntry,e6=.panicked a5∧∃F14:cR,List.Perm G6 ((ka b 0 0 (⟨#[]⟩:Bs) 0 0 0 0 0 (⟨#[]⟩:Bs) none 0 0 0 0 0 0 0 0 (⟨#[]⟩:Bs) none 0 0 0 0 0 0 0 0 (⟨#[]⟩:Bs) none 0 0 0 0 0 0 0 0 (⟨#[]⟩:Bs) none 0 0 0 0)::(ka a (IntKind.wrap .u8 (1+(IntKind.wrap .u8 r))) 2 (⟨#[]⟩:Bs) s t u v w x f g h y i j k l n o c d e q 0 0 0 0 0 (⟨#[]⟩:Bs) none 0 0 0 0 0 0 0 0 (⟨#[]⟩:Bs) none 0 0 0 m)::F14)∧Q (.panicked a5) I9 F14))) (k6 P 21 (#[vp (some p),vs (⟨#[97,115]⟩:Bs)]) I8 ((ka b 0 0 (⟨#[]⟩:Bs) 0 0 0 0 0 (⟨#[]⟩:Bs) none 0 0 0 0 0 0 0 0 (⟨#[]⟩:Bs) none 0 0 0 0 0 0 0 0 (⟨#[]⟩:Bs) none 0 0 0 0 0 0 0 0 (⟨#[]⟩:Bs) none 0 0 0 0)::(ka a (IntKind.wrap .u8 (1+(IntKind.wrap .u8 r))) 2 (⟨#[]⟩:Bs) s t u v w x f g h y i j k l n o c d e q 0 0 0 0 0 (⟨#[]⟩:Bs) none 0 0 0 0 0 0 0 0 (⟨#[]⟩:Bs) none 0 0 0 m)::·) F5 .bool fun r6 I16 F15=>(It r6 (cV P 18 (#[vp (some p)]) I16 ((ka b 0 0 (⟨#[]⟩:Bs) 0 0 0 0 0 (⟨#[]⟩:Bs) none 0 0 0 0 0 0 0 0 (⟨#[]⟩:Bs) none 0 0 0 0 0 0 0 0 (⟨#[]⟩:Bs) none 0 0 0 0 0 0 0 0 (⟨#[]⟩:Bs) none 0 0 0 0)::(ka a (IntKind.wrap .u8 (1+(IntKind.wrap .u8 r))) 2 (⟨#[]⟩:Bs) s t u v w x f g h y i j k l n o c d e q 0 0 0 0 0 (⟨#[]⟩:Bs) none 0 0 0 0 0 0 0 0 (⟨#[]⟩:Bs) none 0 0 0 m)::F15) fun bd I17 G12=>((bd=.returned (.tuple #[])∧∃F16:cR,List.Perm G12 ((ka b 0 0 (⟨#[]⟩:Bs) 0 0 0 0 0 (⟨#[]⟩:Bs) none 0 0 0 0 0 0 0 0 (⟨#[]⟩:Bs) none 0 0 0 0 0 0 0 0 (⟨#[]⟩:Bs) none 0 0 0 0 0 0 0 0 (⟨#[]⟩:Bs) none 0 0 0 0)::(ka a (IntKind.wrap .u8 (1+(IntKind.wrap .u8 r))) 2 (⟨#[]⟩:Bs) s t u v w x f g h y i j k l n o c d e q 0 0 0 0 0 (⟨#[]⟩:Bs) none 0 0 0 0 0 0 0 0 (⟨#[]⟩:Bs) none 0 0 0 m)::F16)∧cV P 29 (#[vp (some p)]) I17 ((ka b 0 0 (⟨#[]⟩:Bs) 0 0 0 0 0 (⟨#[]⟩:Bs) none 0 0 0 0 0 0 0 0 (⟨#[]⟩:Bs) none 0 0 0 0 0 0 0 0 (⟨#[]⟩:Bs) none 0 0 0 0 0 0 0 0 (⟨#[]⟩:Bs) none 0 0 0 0)::(ka a (IntKind.wrap .u8 (1+(IntKind.wrap .u8 r))) 2 (⟨#[]⟩:Bs) s t u v w x f g h y i j k l n o c d e q 0 0 0 0 0 (⟨#[]⟩:Bs) none 0 0 0 0 0 0 0 0 (⟨#[]⟩:Bs) none 0 0 0 m)::F16) fun be I18 G13=>((∃(r7:Bs),be=.returned (vs r7)∧∃F17:cR,List.Perm G13 ((ka b 0 0 (⟨#[]⟩:Bs) 0 0 0 0 0 (⟨#[]⟩:Bs) none 0 0 0 0 0 0 0 0 (⟨#[]⟩:Bs) none 0 0 0 0 0 0 0 0 (⟨#[]⟩:Bs) none 0 0 0 0 0 0 0 0 (⟨#[]⟩:Bs) none 0 0 0 0)::(ka a (IntKind.wrap .u8 (1+(IntKind.wrap .u8 r))) 2 (⟨#[]⟩:Bs) s t u v w x f g h y i j k l n o c d e q 0 0 0 0 0 (⟨#[]⟩:Bs) none 0 0 0 0 0 0 0 0 (⟨#[]⟩:Bs) none 0 0 0 m)::F17)∧Q (.returned ((kb (IntKind.wrap .u8 (1+(IntKind.wrap .u8 r))) 2 r7 s t u v w x f g h y i j k l n o c d e q 0 0 0 0 0 (⟨#[]⟩:Bs) none 0 0 0 0 0 0 0 0 (⟨#[]⟩:Bs) none 0 0 0 m))) I18 F17)∨(∃a6:List PanicEntry,be=.panicked a6∧∃F18:cR,List.Perm G13 ((ka b 0 0 (⟨#[]⟩:Bs) 0 0 0 0 0 (⟨#[]⟩:Bs) none 0 0 0 0 0 0 0 0 (⟨#[]⟩:Bs) none 0 0 0 0 0 0 0 0 (⟨#[]⟩:Bs) none 0 0 0 0 0 0 0 0 (⟨#[]⟩:Bs) none 0 0 0 0)::(ka a (IntKind.wrap .u8 (1+(IntKind.wrap .u8 r))) 2 (⟨#[]⟩:Bs) s t u v w x f g h y i j k l n o c d e q 0 0 0 0 0 (⟨#[]⟩:Bs) none 0 0 0 0 0 0 0 0 (⟨#[]⟩:Bs) none 0 0 0 m)::F18)∧Q (.panicked a6) I18 F18)))∨(∃a7:List PanicEntry,bd=.panicked a7∧∃F19:cR,List.Perm G12 ((ka b 0 0 (⟨#[]⟩:Bs) 0 0 0 0 0 (⟨#[]⟩:Bs) none 0 0 0 0 0 0 0 0 (⟨#[]⟩:Bs) none 0 0 0 0 0 0 0 0 (⟨#[]⟩:Bs) none 0 0 0 0 0 0 0 0 (⟨#[]⟩:Bs) none 0 0 0 0)::(ka a (IntKind.wrap .u8 (1+(IntKind.wrap .u8 r))) 2 (⟨#[]⟩:Bs) s t u v w x f g h y i j k l n o c d e q 0 0 0 0 0 (⟨#[]⟩:Bs) none 0 0 0 0 0 0 0 0 (⟨#[]⟩:Bs) none 0 0 0 m)::F19)∧Q (.panicked a7) I17 F19))) (Q (.returned ((kb (IntKind.wrap .u8 (1+(IntKind.wrap .u8 r))) 2 (⟨#[]⟩:Bs) s t u v w x f g h y i j k l n o c d e q 0 0 0 0 0 (⟨#[]⟩:Bs) none 0 0 0 0 0 0 0 0 (⟨#[]⟩:Bs) none 0 0 0 m))) I16 F15)))))∨(∃a8:List PanicEntry,e5=.panicked a8∧∃F20:cR,List.Perm G5 ((ka b 0 0 (⟨#[]⟩:Bs) 0 0 0 0 0 (⟨#[]⟩:Bs) none 0 0 0 0 0 0 0 0 (⟨#[]⟩:Bs) none 0 0 0 0 0 0 0 0 (⟨#[]⟩:Bs) none 0 0 0 0 0 0 0 0 (⟨#[]⟩:Bs) none 0 0 0 0)::(ka a (IntKind.wrap .u8 (1+(IntKind.wrap .u8 r))) 2 (⟨#[]⟩:Bs) s t u v w x f g h y i j k l n o c d e q 0 0 0 0 0 (⟨#[]⟩:Bs) none 0 0 0 0 0 0 0 0 (⟨#[]⟩:Bs) none 0 0 0 m)::F20)∧Q (.panicked a8) I8 F20)))∨(∃a9:List PanicEntry,e4=.panicked a9∧∃F21:cR,List.Perm G4 ((ka b 0 0 (⟨#[]⟩:Bs) 0 0 0 0 0 (⟨#[]⟩:Bs) none 0 0 0 0 0 0 0 0 (⟨#[]⟩:Bs) none 0 0 0 0 0 0 0 0 (⟨#[]⟩:Bs) none 0 0 0 0 0 0 0 0 (⟨#[]⟩:Bs) none 0 0 0 0)::(ka a (IntKind.wrap .u8 (1+(IntKind.wrap .u8 r))) 0 (⟨#[]⟩:Bs) s t u v w x f g h y 0 0 0 0 0 (⟨#[]⟩:Bs) none 0 0 0 0 0 0 0 0 (⟨#[]⟩:Bs) none 0 0 0 0 0 0 0 0 (⟨#[]⟩:Bs) none 0 0 0 m)::F21)∧Q (.panicked a9) I6 F21)))∨(∃ba:List PanicEntry,e3=.panicked ba∧∃F22:cR,List.Perm G3 ((ka b 0 0 (⟨#[]⟩:Bs) 0 0 0 0 0 (⟨#[]⟩:Bs) none 0 0 0 0 0 0 0 0 (⟨#[]⟩:Bs) none 0 0 0 0 0 0 0 0 (⟨#[]⟩:Bs) none 0 0 0 0 0 0 0 0 (⟨#[]⟩:Bs) none 0 0 0 0)::(ka a (IntKind.wrap .u8 (1+(IntKind.wrap .u8 r))) 0 (⟨#[]⟩:Bs) s t u v w x f g h y 0 0 0 0 0 (⟨#[]⟩:Bs) none 0 0 0 0 0 0 0 0 (⟨#[]⟩:Bs) none 0 0 0 0 0 0 0 0 (⟨#[]⟩:Bs) none 0 0 0 m)::F22)∧Q (.panicked ba) I5 F22)))∨(∃bb:List PanicEntry,e2=.panicked bb∧∃F23:cR,List.Perm G2 ((ka b 0 0 (⟨#[]⟩:Bs) 0 0 0 0 0 (⟨#[]⟩:Bs) none 0 0 0 0 0 0 0 0 (⟨#[]⟩:Bs) none 0 0 0 0 0 0 0 0 (⟨#[]⟩:Bs) none 0 0 0 0 0 0 0 0 (⟨#[]⟩:Bs) none 0 0 0 0)::(ka a (IntKind.wrap .u8 (1+(IntKind.wrap .u8 r))) 0 (⟨#[]⟩:Bs) 0 0 0 0 0 (⟨#[]⟩:Bs) none 0 0 0 0 0 0 0 0 (⟨#[]⟩:Bs) none 0 0 0 0 0 0 0 0 (⟨#[]⟩:Bs) none 0 0 0 0 0 0 0 0 (⟨#[]⟩:Bs) none 0 0 0 m)::F23)∧Q (.panicked bb) I3 F23))) (It ((IntKind.wrap .u8 (1+(IntKind.wrap .u8 r)))==2) (cV P 29 (#[vp (some p)]) I2 ((ka b 0 0 (⟨#[]⟩:Bs) 0 0 0 0 0 (⟨#[]⟩:Bs) none 0 0 0 0 0 0 0 0 (⟨#[]⟩:Bs) none 0 0 0 0 0 0 0 0 (⟨#[]⟩:Bs) none 0 0 0 0 0 0 0 0 (⟨#[]⟩:Bs) none 0 0 0 0)::(ka a (IntKind.wrap .u8 (1+(IntKind.wrap .u8 r))) 0 (⟨#[]⟩:Bs) 0 0 0 0 0 (⟨#[]⟩:Bs) none 0 0 0 0 0 0 0 0 (⟨#[]⟩:Bs) none 0 0 0 0 0 0 0 0 (⟨#[]⟩:Bs) none 0 0 0 0 0 0 0 0 (⟨#[]⟩:Bs) none 0 0 0 m)::F1) fun bf I19 G14=>((∃(r8:Bs),bf=.returned (vs r8)∧∃F24:cR,List.Perm G14 ((ka b 0 0 (⟨#[]⟩:Bs) 0 0 0 0 0 (⟨#[]⟩:Bs) none 0 0 0 0 0 0 0 0 (⟨#[]⟩:Bs) none 0 0 0 0 0 0 0 0 (⟨#[]⟩:Bs) none 0 0 0 0 0 0 0 0 (⟨#[]⟩:Bs) none 0 0 0 0)::(ka a (IntKind.wrap .u8 (1+(IntKind.wrap .u8 r))) 0 (⟨#[]⟩:Bs) 0 0 0 0 0 (⟨#[]⟩:Bs) none 0 0 0 0 0 0 0 0 (⟨#[]⟩:Bs) none 0 0 0 0 0 0 0 0 (⟨#[]⟩:Bs) none 0 0 0 0 0 0 0 0 (⟨#[]⟩:Bs) none 0 0 0 m)::F24)∧∀(b6:Nat) (I20:cS),cS.le I19 I20→I20 b6=some (Obj.cells #[vs (⟨#[116,111]⟩:Bs)] 9 (0,0))→cV P 23 (#[vp (some p),vl (some ⟨b6,0,none⟩) 1 1]) I20 ((ka b 0 0 (⟨#[]⟩:Bs) 0 0 0 0 0 (⟨#[]⟩:Bs) none 0 0 0 0 0 0 0 0 (⟨#[]⟩:Bs) none 0 0 0 0 0 0 0 0 (⟨#[]⟩:Bs) none 0 0 0 0 0 0 0 0 (⟨#[]⟩:Bs) none 0 0 0 0)::(ka a (IntKind.wrap .u8 (1+(IntKind.wrap .u8 r))) 0 r8 0 0 0 0 0 (⟨#[]⟩:Bs) none 0 0 0 0 0 0 0 0 (⟨#[]⟩:Bs) none 0 0 0 0 0 0 0 0 (⟨#[]⟩:Bs) none 0 0 0 0 0 0 0 0 (⟨#[]⟩:Bs) none 0 0 0 m)::F24) fun bg I21 G15=>((∃(r9:Int),bg=.returned (vi r9)∧∃F25:cR,List.Perm G15 ((ka b 0 0 (⟨#[]⟩:Bs) 0 0 0 0 0 (⟨#[]⟩:Bs) none 0 0 0 0 0 0 0 0 (⟨#[]⟩:Bs) none 0 0 0 0 0 0 0 0 (⟨#[]⟩:Bs) none 0 0 0 0 0 0 0 0 (⟨#[]⟩:Bs) none 0 0 0 0)::(ka a (IntKind.wrap .u8 (1+(IntKind.wrap .u8 r))) 0 r8 0 0 0 0 0 (⟨#[]⟩:Bs) none 0 0 0 0 0 0 0 0 (⟨#[]⟩:Bs) none 0 0 0 0 0 0 0 0 (⟨#[]⟩:Bs) none 0 0 0 0 0 0 0 0 (⟨#[]⟩:Bs) none 0 0 0 m)::F25)∧cV P 13 (#[vp (some p),vi 0]) I21 ((ka b 0 0 (⟨#[]⟩:Bs) 0 0 0 0 0 (⟨#[]⟩:Bs) none 0 0 0 0 0 0 0 0 (⟨#[]⟩:Bs) none 0 0 0 0 0 0 0 0 (⟨#[]⟩:Bs) none 0 0 0 0 0 0 0 0 (⟨#[]⟩:Bs) none 0 0 0 0)::(ka a (IntKind.wrap .u8 (1+(IntKind.wrap .u8 r))) 0 r8 0 0 0 0 0 (⟨#[]⟩:Bs) none 0 0 0 0 0 0 0 0 (⟨#[]⟩:Bs) none 0 0 0 0 0 0 0 0 (⟨#[]⟩:Bs) none 0 0 0 0 0 0 0 0 (⟨#[]⟩:Bs) none 0 0 0 m)::F25) fun bh I22 G16=>((∃(an ao ap aq ar:Int) (au:Bs) (ak:OA) (al am:Nat) (av:Int),bh=.returned (nV an ao ap aq ar au ak al am av)∧∃F26:cR,List.Perm G16 ((ka b 0 0 (⟨#[]⟩:Bs) 0 0 0 0 0 (⟨#[]⟩:Bs) none 0 0 0 0 0 0 0 0 (⟨#[]⟩:Bs) none 0 0 0 0 0 0 0 0 (⟨#[]⟩:Bs) none 0 0 0 0 0 0 0 0 (⟨#[]⟩:Bs) none 0 0 0 0)::(ka a (IntKind.wrap .u8 (1+(IntKind.wrap .u8 r))) 0 r8 0 0 0 0 0 (⟨#[]⟩:Bs) none 0 0 0 0 0 0 0 0 (⟨#[]⟩:Bs) none 0 0 0 0 0 0 0 0 (⟨#[]⟩:Bs) none 0 0 0 0 0 0 0 0 (⟨#[]⟩:Bs) none 0 0 0 m)::F26)∧∀(b7:Nat) (I23:cS),cS.le I22 I23→I23 b7=some (Obj.cells #[vs (⟨#[97,116]⟩:Bs)] 9 (0,0))→cV P 23 (#[vp (some p),vl (some ⟨b7,0,none⟩) 1 1]) I23 ((ka b 0 0 (⟨#[]⟩:Bs) 0 0 0 0 0 (⟨#[]⟩:Bs) none 0 0 0 0 0 0 0 0 (⟨#[]⟩:Bs) none 0 0 0 0 0 0 0 0 (⟨#[]⟩:Bs) none 0 0 0 0 0 0 0 0 (⟨#[]⟩:Bs) none 0 0 0 0)::(ka a (IntKind.wrap .u8 (1+(IntKind.wrap .u8 r))) 0 r8 0 0 0 0 0 (⟨#[]⟩:Bs) none 0 0 0 an ao ap aq ar au ak al am av 0 0 0 0 0 (⟨#[]⟩:Bs) none 0 0 0 0 0 0 0 0 (⟨#[]⟩:Bs) none 0 0 0 m)::F26) fun bi I24 G17=>((∃(bo:Int),bi=.returned (vi bo)∧∃F27:cR,List.Perm G17 ((ka b 0 0 (⟨#[]⟩:Bs) 0 0 0 0 0 (⟨#[]⟩:Bs) none 0 0 0 0 0 0 0 0 (⟨#[]⟩:Bs) none 0 0 0 0 0 0 0 0 (⟨#[]⟩:Bs) none 0 0 0 0 0 0 0 0 (⟨#[]⟩:Bs) none 0 0 0 0)::(ka a (IntKind.wrap .u8 (1+(IntKind.wrap .u8 r))) 0 r8 0 0 0 0 0 (⟨#[]⟩:Bs) none 0 0 0 an ao ap aq ar au ak al am av 0 0 0 0 0 (⟨#[]⟩:Bs) none 0 0 0 0 0 0 0 0 (⟨#[]⟩:Bs) none 0 0 0 m)::F27)∧cV P 13 (#[vp (some p),vi 0]) I24 ((ka b 0 0 (⟨#[]⟩:Bs) 0 0 0 0 0 (⟨#[]⟩:Bs) none 0 0 0 0 0 0 0 0 (⟨#[]⟩:Bs) none 0 0 0 0 0 0 0 0 (⟨#[]⟩:Bs) none 0 0 0 0 0 0 0 0 (⟨#[]⟩:Bs) none 0 0 0 0)::(ka a (IntKind.wrap .u8 (1+(IntKind.wrap .u8 r))) 0 r8 0 0 0 0 0 (⟨#[]⟩:Bs) none 0 0 0 an ao ap aq ar au ak al am av 0 0 0 0 0 (⟨#[]⟩:Bs) none 0 0 0 0 0 0 0 0 (⟨#[]⟩:Bs) none 0 0 0 m)::F27) fun bj I25 G18=>((∃(aD aE aF aG aH:Int) (aI:Bs) (ax:OA) (ay az:Nat) (aJ:Int),bj=.returned (nV aD aE aF aG aH aI ax ay az aJ)∧∃F28:cR,List.Perm G18 ((ka b 0 0 (⟨#[]⟩:Bs) 0 0 0 0 0 (⟨#[]⟩:Bs) none 0 0 0 0 0 0 0 0 (⟨#[]⟩:Bs) none 0 0 0 0 0 0 0 0 (⟨#[]⟩:Bs) none 0 0 0 0 0 0 0 0 (⟨#[]⟩:Bs) none 0 0 0 0)::(ka a (IntKind.wrap .u8 (1+(IntKind.wrap .u8 r))) 0 r8 0 0 0 0 0 (⟨#[]⟩:Bs) none 0 0 0 an ao ap aq ar au ak al am av 0 0 0 0 0 (⟨#[]⟩:Bs) none 0 0 0 0 0 0 0 0 (⟨#[]⟩:Bs) none 0 0 0 m)::F28)∧Q (.returned ((kb (IntKind.wrap .u8 (1+(IntKind.wrap .u8 r))) 0 r8 0 0 0 0 0 (⟨#[]⟩:Bs) none 0 0 0 an ao ap aq ar au ak al am av aD aE aF aG aH aI ax ay az aJ 0 0 0 0 0 (⟨#[]⟩:Bs) none 0 0 0 m))) I25 F28)∨(∃aR:List PanicEntry,bj=.panicked aR∧∃F29:cR,List.Perm G18 ((ka b 0 0 (⟨#[]⟩:Bs) 0 0 0 0 0 (⟨#[]⟩:Bs) none 0 0 0 0 0 0 0 0 (⟨#[]⟩:Bs) none 0 0 0 0 0 0 0 0 (⟨#[]⟩:Bs) none 0 0 0 0 0 0 0 0 (⟨#[]⟩:Bs) none 0 0 0 0)::(ka a (IntKind.wrap .u8 (1+(IntKind.wrap .u8 r))) 0 r8 0 0 0 0 0 (⟨#[]⟩:Bs) none 0 0 0 an ao ap aq ar au ak al am av 0 0 0 0 0 (⟨#[]⟩:Bs) none 0 0 0 0 0 0 0 0 (⟨#[]⟩:Bs) none 0 0 0 m)::F29)∧Q (.panicked aR) I25 F29)))∨(∃aS:List PanicEntry,bi=.panicked aS∧∃F30:cR,List.Perm G17 ((ka b 0 0 (⟨#[]⟩:Bs) 0 0 0 0 0 (⟨#[]⟩:Bs) none 0 0 0 0 0 0 0 0 (⟨#[]⟩:Bs) none 0 0 0 0 0 0 0 0 (⟨#[]⟩:Bs) none 0 0 0 0 0 0 0 0 (⟨#[]⟩:Bs) none 0 0 0 0)::(ka a (IntKind.wrap .u8 (1+(IntKind.wrap .u8 r))) 0 r8 0 0 0 0 0 (⟨#[]⟩:Bs) none 0 0 0 an ao ap aq ar au ak al am av 0 0 0 0 0 (⟨#[]⟩:Bs) none 0 0 0 0 0 0 0 0 (⟨#[]⟩:Bs) none 0 0 0 m)::F30)∧Q (.panicked aS) I24 F30)))∨(∃aT:List PanicEntry,bh=.panicked aT∧∃F31:cR,List.Perm G16 ((ka b 0 0 (⟨#[]⟩:Bs) 0 0 0 0 0 (⟨#[]⟩:Bs) none 0 0 0 0 0 0 0 0 (⟨#[]⟩:Bs) none 0 0 0 0 0 0 0 0 (⟨#[]⟩:Bs) none 0 0 0 0 0 0 0 0 (⟨#[]⟩:Bs) none 0 0 0 0)::(ka a (IntKind.wrap .u8 (1+(IntKind.wrap .u8 r))) 0 r8 0 0 0 0 0 (⟨#[]⟩:Bs) none 0 0 0 0 0 0 0 0 (⟨#[]⟩:Bs) none 0 0 0 0 0 0 0 0 (⟨#[]⟩:Bs) none 0 0 0 0 0 0 0 0 (⟨#[]⟩:Bs) none 0 0 0 m)::F31)∧Q (.panicked aT) I22 F31)))∨(∃aU:List PanicEntry,bg=.panicked aU∧∃F32:cR,List.Perm G15 ((ka b 0 0 (⟨#[]⟩:Bs) 0 0 0 0 0 (⟨#[]⟩:Bs) none 0 0 0 0 0 0 0 0 (⟨#[]⟩:Bs) none 0 0 0 0 0 0 0 0 (⟨#[]⟩:Bs) none 0 0 0 0 0 0 0 0 (⟨#[]⟩:Bs) none 0 0 0 0)::(ka a (IntKind.wrap .u8 (1+(IntKind.wrap .u8 r))) 0 r8 0 0 0 0 0 (⟨#[]⟩:Bs) none 0 0 0 0 0 0 0 0 (⟨#[]⟩:Bs) none 0 0 0 0 0 0 0 0 (⟨#[]⟩:Bs) none 0 0 0 0 0 0 0 0 (⟨#[]⟩:Bs) none 0 0 0 m)::F32)∧Q (.panicked aU) I21 F32)))∨(∃aV:List PanicEntry,bf=.panicked aV∧∃F33:cR,List.Perm G14 ((ka b 0 0 (⟨#[]⟩:Bs) 0 0 0 0 0 (⟨#[]⟩:Bs) none 0 0 0 0 0 0 0 0 (⟨#[]⟩:Bs) none 0 0 0 0 0 0 0 0 (⟨#[]⟩:Bs) none 0 0 0 0 0 0 0 0 (⟨#[]⟩:Bs) none 0 0 0 0)::(ka a (IntKind.wrap .u8 (1+(IntKind.wrap .u8 r))) 0 (⟨#[]⟩:Bs) 0 0 0 0 0 (⟨#[]⟩:Bs) none 0 0 0 0 0 0 0 0 (⟨#[]⟩:Bs) none 0 0 0 0 0 0 0 0 (⟨#[]⟩:Bs) none 0 0 0 0 0 0 0 0 (⟨#[]⟩:Bs) none 0 0 0 m)::F33)∧Q (.panicked aV) I19 F33))) (It ((IntKind.wrap .u8 (1+(IntKind.wrap .u8 r)))==4) (cV P 29 (#[vp (some p)]) I2 ((ka b 0 0 (⟨#[]⟩:Bs) 0 0 0 0 0 (⟨#[]⟩:Bs) none 0 0 0 0 0 0 0 0 (⟨#[]⟩:Bs) none 0 0 0 0 0 0 0 0 (⟨#[]⟩:Bs) none 0 0 0 0 0 0 0 0 (⟨#[]⟩:Bs) none 0 0 0 0)::(ka a (IntKind.wrap .u8 (1+(IntKind.wrap .u8 r))) 0 (⟨#[]⟩:Bs) 0 0 0 0 0 (⟨#[]⟩:Bs) none 0 0 0 0 0 0 0 0 (⟨#[]⟩:Bs) none 0 0 0 0 0 0 0 0 (⟨#[]⟩:Bs) none 0 0 0 0 0 0 0 0 (⟨#[]⟩:Bs) none 0 0 0 m)::F1) fun bk I26 G19=>((∃(aw:Bs),bk=.returned (vs aw)∧∃F34:cR,List.Perm G19 ((ka b 0 0 (⟨#[]⟩:Bs) 0 0 0 0 0 (⟨#[]⟩:Bs) none 0 0 0 0 0 0 0 0 (⟨#[]⟩:Bs) none 0 0 0 0 0 0 0 0 (⟨#[]⟩:Bs) none 0 0 0 0 0 0 0 0 (⟨#[]⟩:Bs) none 0 0 0 0)::(ka a (IntKind.wrap .u8 (1+(IntKind.wrap .u8 r))) 0 (⟨#[]⟩:Bs) 0 0 0 0 0 (⟨#[]⟩:Bs) none 0 0 0 0 0 0 0 0 (⟨#[]⟩:Bs) none 0 0 0 0 0 0 0 0 (⟨#[]⟩:Bs) none 0 0 0 0 0 0 0 0 (⟨#[]⟩:Bs) none 0 0 0 m)::F34)∧∀(b8:Nat) (I27:cS),cS.le I26 I27→I27 b8=some (Obj.cells #[vs (⟨#[61]⟩:Bs)] 9 (0,0))→cV P 23 (#[vp (some p),vl (some ⟨b8,0,none⟩) 1 1]) I27 ((ka b 0 0 (⟨#[]⟩:Bs) 0 0 0 0 0 (⟨#[]⟩:Bs) none 0 0 0 0 0 0 0 0 (⟨#[]⟩:Bs) none 0 0 0 0 0 0 0 0 (⟨#[]⟩:Bs) none 0 0 0 0 0 0 0 0 (⟨#[]⟩:Bs) none 0 0 0 0)::(ka a (IntKind.wrap .u8 (1+(IntKind.wrap .u8 r))) 0 aw 0 0 0 0 0 (⟨#[]⟩:Bs) none 0 0 0 0 0 0 0 0 (⟨#[]⟩:Bs) none 0 0 0 0 0 0 0 0 (⟨#[]⟩:Bs) none 0 0 0 0 0 0 0 0 (⟨#[]⟩:Bs) none 0 0 0 m)::F34) fun bl I28 G20=>((∃(bp:Int),bl=.returned (vi bp)∧∃F35:cR,List.Perm G20 ((ka b 0 0 (⟨#[]⟩:Bs) 0 0 0 0 0 (⟨#[]⟩:Bs) none 0 0 0 0 0 0 0 0 (⟨#[]⟩:Bs) none 0 0 0 0 0 0 0 0 (⟨#[]⟩:Bs) none 0 0 0 0 0 0 0 0 (⟨#[]⟩:Bs) none 0 0 0 0)::(ka a (IntKind.wrap .u8 (1+(IntKind.wrap .u8 r))) 0 aw 0 0 0 0 0 (⟨#[]⟩:Bs) none 0 0 0 0 0 0 0 0 (⟨#[]⟩:Bs) none 0 0 0 0 0 0 0 0 (⟨#[]⟩:Bs) none 0 0 0 0 0 0 0 0 (⟨#[]⟩:Bs) none 0 0 0 m)::F35)∧cV P 13 (#[vp (some p),vi 0]) I28 ((ka b 0 0 (⟨#[]⟩:Bs) 0 0 0 0 0 (⟨#[]⟩:Bs) none 0 0 0 0 0 0 0 0 (⟨#[]⟩:Bs) none 0 0 0 0 0 0 0 0 (⟨#[]⟩:Bs) none 0 0 0 0 0 0 0 0 (⟨#[]⟩:Bs) none 0 0 0 0)::(ka a (IntKind.wrap .u8 (1+(IntKind.wrap .u8 r))) 0 aw 0 0 0 0 0 (⟨#[]⟩:Bs) none 0 0 0 0 0 0 0 0 (⟨#[]⟩:Bs) none 0 0 0 0 0 0 0 0 (⟨#[]⟩:Bs) none 0 0 0 0 0 0 0 0 (⟨#[]⟩:Bs) none 0 0 0 m)::F35) fun bm I29 G21=>((∃(aK aL aM aN aO:Int) (aP:Bs) (aA:OA) (aB aC:Nat) (aQ:Int),bm=.returned (nV aK aL aM aN aO aP aA aB aC aQ)∧∃F36:cR,List.Perm G21 ((ka b 0 0 (⟨#[]⟩:Bs) 0 0 0 0 0 (⟨#[]⟩:Bs) none 0 0 0 0 0 0 0 0 (⟨#[]⟩:Bs) none 0 0 0 0 0 0 0 0 (⟨#[]⟩:Bs) none 0 0 0 0 0 0 0 0 (⟨#[]⟩:Bs) none 0 0 0 0)::(ka a (IntKind.wrap .u8 (1+(IntKind.wrap .u8 r))) 0 aw 0 0 0 0 0 (⟨#[]⟩:Bs) none 0 0 0 0 0 0 0 0 (⟨#[]⟩:Bs) none 0 0 0 0 0 0 0 0 (⟨#[]⟩:Bs) none 0 0 0 0 0 0 0 0 (⟨#[]⟩:Bs) none 0 0 0 m)::F36)∧Q (.returned ((kb (IntKind.wrap .u8 (1+(IntKind.wrap .u8 r))) 0 aw 0 0 0 0 0 (⟨#[]⟩:Bs) none 0 0 0 0 0 0 0 0 (⟨#[]⟩:Bs) none 0 0 0 0 0 0 0 0 (⟨#[]⟩:Bs) none 0 0 0 aK aL aM aN aO aP aA aB aC aQ m))) I29 F36)∨(∃aW:List PanicEntry,bm=.panicked aW∧∃F37:cR,List.Perm G21 ((ka b 0 0 (⟨#[]⟩:Bs) 0 0 0 0 0 (⟨#[]⟩:Bs) none 0 0 0 0 0 0 0 0 (⟨#[]⟩:Bs) none 0 0 0 0 0 0 0 0 (⟨#[]⟩:Bs) none 0 0 0 0 0 0 0 0 (⟨#[]⟩:Bs) none 0 0 0 0)::(ka a (IntKind.wrap .u8 (1+(IntKind.wrap .u8 r))) 0 aw 0 0 0 0 0 (⟨#[]⟩:Bs) none 0 0 0 0 0 0 0 0 (⟨#[]⟩:Bs) none 0 0 0 0 0 0 0 0 (⟨#[]⟩:Bs) none 0 0 0 0 0 0 0 0 (⟨#[]⟩:Bs) none 0 0 0 m)::F37)∧Q (.panicked aW) I29 F37)))∨(∃aX:List PanicEntry,bl=.panicked aX∧∃F38:cR,List.Perm G20 ((ka b 0 0 (⟨#[]⟩:Bs) 0 0 0 0 0 (⟨#[]⟩:Bs) none 0 0 0 0 0 0 0 0 (⟨#[]⟩:Bs) none 0 0 0 0 0 0 0 0 (⟨#[]⟩:Bs) none 0 0 0 0 0 0 0 0 (⟨#[]⟩:Bs) none 0 0 0 0)::(ka a (IntKind.wrap .u8 (1+(IntKind.wrap .u8 r))) 0 aw 0 0 0 0 0 (⟨#[]⟩:Bs) none 0 0 0 0 0 0 0 0 (⟨#[]⟩:Bs) none 0 0 0 0 0 0 0 0 (⟨#[]⟩:Bs) none 0 0 0 0 0 0 0 0 (⟨#[]⟩:Bs) none 0 0 0 m)::F38)∧Q (.panicked aX) I28 F38)))∨(∃aY:List PanicEntry,bk=.panicked aY∧∃F39:cR,List.Perm G19 ((ka b 0 0 (⟨#[]⟩:Bs) 0 0 0 0 0 (⟨#[]⟩:Bs) none 0 0 0 0 0 0 0 0 (⟨#[]⟩:Bs) none 0 0 0 0 0 0 0 0 (⟨#[]⟩:Bs) none 0 0 0 0 0 0 0 0 (⟨#[]⟩:Bs) none 0 0 0 0)::(ka a (IntKind.wrap .u8 (1+(IntKind.wrap .u8 r))) 0 (⟨#[]⟩:Bs) 0 0 0 0 0 (⟨#[]⟩:Bs) none 0 0 0 0 0 0 0 0 (⟨#[]⟩:Bs) none 0 0 0 0 0 0 0 0 (⟨#[]⟩:Bs) none 0 0 0 0 0 0 0 0 (⟨#[]⟩:Bs) none 0 0 0 m)::F39)∧Q (.panicked aY) I26 F39))) (It ((IntKind.wrap .u8 (1+(IntKind.wrap .u8 r)))==6) (Q (.returned ((kb (IntKind.wrap .u8 (1+(IntKind.wrap .u8 r))) 0 (⟨#[]⟩:Bs) 0 0 0 0 0 (⟨#[]⟩:Bs) none 0 0 0 0 0 0 0 0 (⟨#[]⟩:Bs) none 0 0 0 0 0 0 0 0 (⟨#[]⟩:Bs) none 0 0 0 0 0 0 0 0 (⟨#[]⟩:Bs) none 0 0 0 m))) I2 F1) (cV P 29 (#[vp (some p)]) I2 ((ka b 0 0 (⟨#[]⟩:Bs) 0 0 0 0 0 (⟨#[]⟩:Bs) none 0 0 0 0 0 0 0 0 (⟨#[]⟩:Bs) none 0 0 0 0 0 0 0 0 (⟨#[]⟩:Bs) none 0 0 0 0 0 0 0 0 (⟨#[]⟩:Bs) none 0 0 0 0)::(ka a (IntKind.wrap .u8 (1+(IntKind.wrap .u8 r))) 0 (⟨#[]⟩:Bs) 0 0 0 0 0 (⟨#[]⟩:Bs) none 0 0 0 0 0 0 0 0 (⟨#[]⟩:Bs) none 0 0 0 0 0 0 0 0 (⟨#[]⟩:Bs) none 0 0 0 0 0 0 0 0 (⟨#[]⟩:Bs) none 0 0 0 m)::F1) fun bn I30 G22=>((∃(a1:Bs),bn=.returned (vs a1)∧∃F40:cR,List.Perm G22 ((ka b 0 0 (⟨#[]⟩:Bs) 0 0 0 0 0 (⟨#[]⟩:Bs) none 0 0 0 0 0 0 0 0 (⟨#[]⟩:Bs) none 0 0 0 0 0 0 0 0 (⟨#[]⟩:Bs) none 0 0 0 0 0 0 0 0 (⟨#[]⟩:Bs) none 0 0 0 0)::(ka a (IntKind.wrap .u8 (1+(IntKind.wrap .u8 r))) 0 (⟨#[]⟩:Bs) 0 0 0 0 0 (⟨#[]⟩:Bs) none 0 0 0 0 0 0 0 0 (⟨#[]⟩:Bs) none 0 0 0 0 0 0 0 0 (⟨#[]⟩:Bs) none 0 0 0 0 0 0 0 0 (⟨#[]⟩:Bs) none 0 0 0 m)::F40)∧Q (.returned ((kb (IntKind.wrap .u8 (1+(IntKind.wrap .u8 r))) 0 a1 0 0 0 0 0 (⟨#[]⟩:Bs) none 0 0 0 0 0 0 0 0 (⟨#[]⟩:Bs) none 0 0 0 0 0 0 0 0 (⟨#[]⟩:Bs) none 0 0 0 0 0 0 0 0 (⟨#[]⟩:Bs) none 0 0 0 m))) I30 F40)∨(∃aZ:List PanicEntry,bn=.panicked aZ∧∃F41:cR,List.Perm G22 ((ka b 0 0 (⟨#[]⟩:Bs) 0 0 0 0 0 (⟨#[]⟩:Bs) none 0 0 0 0 0 0 0 0 (⟨#[]⟩:Bs) none 0 0 0 0 0 0 0 0 (⟨#[]⟩:Bs) none 0 0 0 0 0 0 0 0 (⟨#[]⟩:Bs) none 0 0 0 0)::(ka a (IntKind.wrap .u8 (1+(IntKind.wrap .u8 r))) 0 (⟨#[]⟩:Bs) 0 0 0 0 0 (⟨#[]⟩:Bs) none 0 0 0 0 0 0 0 0 (⟨#[]⟩:Bs) none 0 0 0 0 0 0 0 0 (⟨#[]⟩:Bs) none 0 0 0 0 0 0 0 0 (⟨#[]⟩:Bs) none 0 0 0 m)::F41)∧Q (.panicked aZ) I30 F41))))))))∨(∃a0:List PanicEntry,e1=.panicked a0∧∃F42:cR,List.Perm G1 ((ka b 0 0 (⟨#[]⟩:Bs) 0 0 0 0 0 (⟨#[]⟩:Bs) none 0 0 0 0 0 0 0 0 (⟨#[]⟩:Bs) none 0 0 0 0 0 0 0 0 (⟨#[]⟩:Bs) none 0 0 0 0 0 0 0 0 (⟨#[]⟩:Bs) none 0 0 0 0)::(ka a 0 0 (⟨#[]⟩:Bs) 0 0 0 0 0 (⟨#[]⟩:Bs) none 0 0 0 0 0 0 0 0 (⟨#[]⟩:Bs) none 0 0 0 0 0 0 0 0 (⟨#[]⟩:Bs) none 0 0 0 0 0 0 0 0 (⟨#[]⟩:Bs) none 0 0 0 m)::F42)∧Q (.panicked a0) I2 F42))
theorem fG.vc{p:Addr}{I:cS}{F:cR}{Q:cW}  (h:fG.V (fun W a b c d e f g h i j k l m n o p q r s t u v w x y z aa ab ac ad ae af ag ah ai aj ak al am an ao ap aq ar=>(W,Obj.cells #[.int .u8 a,.int .u8 b,.string c,.int .u8 d,.int .u8 e,.int .u8 f,.int .i64 g,.int .u8 h,.string i,.slice j k l,.int .i64 m,.int .u8 n,.int .u8 o,.int .u8 p,.int .i64 q,.int .u8 r,.string s,.slice t u v,.int .i64 w,.int .u8 x,.int .u8 y,.int .u8 z,.int .i64 aa,.int .u8 ab,.string ac,.slice ad ae af,.int .i64 ag,.int .u8 ah,.int .u8 ai,.int .u8 aj,.int .i64 ak,.int .u8 al,.string am,.slice an ao ap,.int .i64 aq,.int .i64 ar] 140 (0,0))) (fun a b c d e f g h i j k l m n o p q r s t u v w x y z aa ab ac ad ae af ag ah ai aj ak al am an ao ap aq ar=>.agg #[.int .u8 a,.int .u8 b,.string c,.int .u8 d,.int .u8 e,.int .u8 f,.int .i64 g,.int .u8 h,.string i,.slice j k l,.int .i64 m,.int .u8 n,.int .u8 o,.int .u8 p,.int .i64 q,.int .u8 r,.string s,.slice t u v,.int .i64 w,.int .u8 x,.int .u8 y,.int .u8 z,.int .i64 aa,.int .u8 ab,.string ac,.slice ad ae af,.int .i64 ag,.int .u8 ah,.int .u8 ai,.int .u8 aj,.int .i64 ak,.int .u8 al,.string am,.slice an ao ap,.int .i64 aq,.int .i64 ar]) (fun k o t n f s a l c q=>.agg #[.int .u8 k,.int .u8 o,.int .u8 t,.int .i64 n,.int .u8 f,.string s,.slice a l c,.int .i64 q]) (.int .u8) (.int .i64) .string .slice .pointer p I F Q):cV P 52 #[.pointer (some p)] I F Q :=
 tw (A:=(eU [5000,10003,13001,16000,22000,26000] [13,18,23,29] [13,18,21,23,29] iJ [] [2001,7001,10001,12000,12002,18001,20001,24001] [] [] [] [] [])) [13,18,21,23,29] func52 h
def fh.V(ka:Nat→Int→Int→Int→Int→Int→Bs→OA→Nat→Nat→Int→OA→Nat→Nat→Int→Nat×Obj)(vb vi:Int→Value)(vs:Bs→Value)(vl:OA→Nat→Nat→Value)(vp:OA→Value)(p:Addr)(I:cS)(F:cR)(Q:cW)(Inv14:Int→Int→Int→Int→Int→Bs→OA→Nat→Nat→Int→OA→Nat→Nat→Int→Nat→cS→cR→Prop):Prop:=∀b:Nat,∃ad:Addr,some p=some ad∧∃(m:Int),Rd I ((ka b 0 0 0 0 0 (⟨#[]⟩:Bs) none 0 0 0 none 0 0 0)::F) ((ad.add 1).add 4) [vi m]∧∀s:Nat,cV P 18 (#[vp (some p)]) I ((ka b 0 0 0 0 0 (⟨#[]⟩:Bs) none 0 0 0 none 0 0 0)::(ka s 0 0 0 0 0 (⟨#[]⟩:Bs) none 0 0 0 none 0 0 m)::F) fun e1 I1 G1=>((e1=.returned (.tuple #[])∧∃F1:cR,List.Perm G1 ((ka b 0 0 0 0 0 (⟨#[]⟩:Bs) none 0 0 0 none 0 0 0)::(ka s 0 0 0 0 0 (⟨#[]⟩:Bs) none 0 0 0 none 0 0 m)::F1)∧cV P 13 (#[vp (some p),vi 0]) I1 ((ka b 0 0 0 0 0 (⟨#[]⟩:Bs) none 0 0 0 none 0 0 0)::(ka s 0 0 0 0 0 (⟨#[]⟩:Bs) none 0 0 0 none 0 0 m)::F1) fun e2 I2 G2=>((∃(x y z aa ab:Int) (ac:Bs) (t:OA) (u w:Nat) (ae:Int),e2=.returned (.agg #[vb x,vb y,vb z,vi aa,vb ab,vs ac,vl t u w,vi ae])∧∃F2:cR,List.Perm G2 ((ka b 0 0 0 0 0 (⟨#[]⟩:Bs) none 0 0 0 none 0 0 0)::(ka s 0 0 0 0 0 (⟨#[]⟩:Bs) none 0 0 0 none 0 0 m)::F2)∧∀(b1:Nat) (I3:cS),cS.le I2 I3→I3 b1=some (Obj.cells #[vs (⟨#[100,111]⟩:Bs)] 9 (0,0))→cV P 23 (#[vp (some p),vl (some ⟨b1,0,none⟩) 1 1]) I3 ((ka b 0 0 0 0 0 (⟨#[]⟩:Bs) none 0 0 0 none 0 0 0)::(ka s x y z aa ab ac t u w ae none 0 0 m)::F2) fun e3 I4 G3=>((∃(r:Int),e3=.returned (vi r)∧∃F3:cR,List.Perm G3 ((ka b 0 0 0 0 0 (⟨#[]⟩:Bs) none 0 0 0 none 0 0 0)::(ka s x y z aa ab ac t u w ae none 0 0 m)::F3)∧cV P 52 (#[vp (some p)]) I4 ((ka b 0 0 0 0 0 (⟨#[]⟩:Bs) none 0 0 0 none 0 0 0)::(ka s x y z aa ab ac t u w ae none 0 0 m)::F3) fun e4 I5 G4=>((∃(bH bI:Int) (bJ:Bs) (bK bL bM cB bN:Int) (cC:Bs) (aO:OA) (aP aQ:Nat) (bO aR bP bQ bR bS:Int) (bT:Bs) (az:OA) (aA aB:Nat) (bU bV bW aS bX bY:Int) (bZ:Bs) (aC:OA) (aD aE:Nat) (b0 b6 b7 b8 b9 aT:Int) (ca:Bs) (aF:OA) (aG aH:Nat) (cb cc:Int),e4=.returned (.agg #[vb bH,vb bI,vs bJ,vb bK,vb bL,vb bM,vi cB,vb bN,vs cC,vl aO aP aQ,vi bO,vb aR,vb bP,vb bQ,vi bR,vb bS,vs bT,vl az aA aB,vi bU,vb bV,vb bW,vb aS,vi bX,vb bY,vs bZ,vl aC aD aE,vi b0,vb b6,vb b7,vb b8,vi b9,vb aT,vs ca,vl aF aG aH,vi cb,vi cc])∧∃F4:cR,List.Perm G4 ((ka b 0 0 0 0 0 (⟨#[]⟩:Bs) none 0 0 0 none 0 0 0)::(ka s x y z aa ab ac t u w ae none 0 0 m)::F4)∧∀(b2:Nat) (I6:cS),cS.le I5 I6→I6 b2=some (Obj.cells #[vb bH,vb bI,vs bJ,vb bK,vb bL,vb bM,vi cB,vb bN,vs cC,vl aO aP aQ,vi bO,vb aR,vb bP,vb bQ,vi bR,vb bS,vs bT,vl az aA aB,vi bU,vb bV,vb bW,vb aS,vi bX,vb bY,vs bZ,vl aC aD aE,vi b0,vb b6,vb b7,vb b8,vi b9,vb aT,vs ca,vl aF aG aH,vi cb,vi cc] 140 (0,0))→dW P (Builtin.append_ #[126,126] 126 #[vl none 0 0,vl (some ⟨b2,0,none⟩) 1 1]) I6 ((ka b 0 0 0 0 0 (⟨#[]⟩:Bs) none 0 0 0 none 0 0 0)::(ka s x y z aa ab ac t u w ae none 0 0 m)::F4) fun v I7 G5=>∃(cD:OA) (cE cF:Nat),v=vl cD cE cF∧∃F5:cR,List.Perm G5 ((ka b 0 0 0 0 0 (⟨#[]⟩:Bs) none 0 0 0 none 0 0 0)::(ka s x y z aa ab ac t u w ae none 0 0 m)::F5)∧(∃m1:Nat,Inv14 x y z aa ab ac t u w ae cD cE cF m m1 I7 F5)∧∀(h i j k l:Int) (n:Bs) (c:OA) (d e:Nat) (o:Int) (f:OA) (a g:Nat) (q:Int) (m2:Nat) (I8:cS) (F6:cR),cS.le I7 I8→Inv14 h i j k l n c d e o f a g q m2 I8 F6→k6 P 21 (#[vp (some p),vs (⟨#[44]⟩:Bs)]) I8 ((ka b 0 0 0 0 0 (⟨#[]⟩:Bs) none 0 0 0 none 0 0 0)::(ka s h i j k l n c d e o f a g q)::·) F6 .bool fun r1 I9 F7=>(It r1 (It ((a:Int)==8) (cV P 19 (#[vp (some p),vi 131]) I9 ((ka b 0 0 0 0 0 (⟨#[]⟩:Bs) none 0 0 0 none 0 0 0)::(ka s h i j k l n c d e o f a g q)::F7) fun e6 I10 G7=>((e6=.returned (.tuple #[])∧∃F8:cR,List.Perm G7 ((ka b 0 0 0 0 0 (⟨#[]⟩:Bs) none 0 0 0 none 0 0 0)::(ka s h i j k l n c d e o f a g q)::F8)∧cV P 18 (#[vp (some p)]) I10 ((ka b 0 0 0 0 0 (⟨#[]⟩:Bs) none 0 0 0 none 0 0 0)::(ka s h i j k l n c d e o f a g q)::F8) fun e7 I11 G8=>((e7=.returned (.tuple #[])∧∃F9:cR,List.Perm G8 ((ka b 0 0 0 0 0 (⟨#[]⟩:Bs) none 0 0 0 none 0 0 0)::(ka s h i j k l n c d e o f a g q)::F9)∧cV P 52 (#[vp (some p)]) I11 ((ka b 0 0 0 0 0 (⟨#[]⟩:Bs) none 0 0 0 none 0 0 0)::(ka s h i j k l n c d e o f a g q)::F9) fun e8 I12 G9=>((∃(cd ce:Int) (cf:Bs) (cg ci cj ck cl:Int) (cm:Bs) (aI:OA) (aJ aK:Nat) (aU aV aW aX aY aZ:Int) (a0:Bs) (af:OA) (ag ah:Nat) (a1 a2 a3 a4 a5 a6:Int) (a7:Bs) (ai:OA) (aj ak:Nat) (a8 a9 ba bb bc bd:Int) (be:Bs) (al:OA) (am an:Nat) (bf bg:Int),e8=.returned (.agg #[vb cd,vb ce,vs cf,vb cg,vb ci,vb cj,vi ck,vb cl,vs cm,vl aI aJ aK,vi aU,vb aV,vb aW,vb aX,vi aY,vb aZ,vs a0,vl af ag ah,vi a1,vb a2,vb a3,vb a4,vi a5,vb a6,vs a7,vl ai aj ak,vi a8,vb a9,vb ba,vb bb,vi bc,vb bd,vs be,vl al am an,vi bf,vi bg])∧∃F10:cR,List.Perm G9 ((ka b 0 0 0 0 0 (⟨#[]⟩:Bs) none 0 0 0 none 0 0 0)::(ka s h i j k l n c d e o f a g q)::F10)∧∀(b3:Nat) (I13:cS),cS.le I12 I13→I13 b3=some (Obj.cells #[vb cd,vb ce,vs cf,vb cg,vb ci,vb cj,vi ck,vb cl,vs cm,vl aI aJ aK,vi aU,vb aV,vb aW,vb aX,vi aY,vb aZ,vs a0,vl af ag ah,vi a1,vb a2,vb a3,vb a4,vi a5,vb a6,vs a7,vl ai aj ak,vi a8,vb a9,vb ba,vb bb,vi bc,vb bd,vs be,vl al am an,vi bf,vi bg] 140 (0,0))→dW P (Builtin.append_ #[126,126] 126 #[vl f a g,vl (some ⟨b3,0,none⟩) 1 1]) I13 ((ka b 0 0 0 0 0 (⟨#[]⟩:Bs) none 0 0 0 none 0 0 0)::(ka s h i j k l n c d e o f a g q)::F10) fun v1 I14 G10=>∃(co:OA) (cp cq:Nat),v1=vl co cp cq∧∃F11:cR,List.Perm G10 ((ka b 0 0 0 0 0 (⟨#[]⟩:Bs) none 0 0 0 none 0 0 0)::(ka s h i j k l n c d e o f a g q)::F11)∧(∃m3:Nat,m3<m2∧Inv14 h i j k l n c d e o co cp cq q m3 I14 F11))∨(∃ch:List PanicEntry,e8=.panicked ch∧∃F12:cR,List.Perm G9 ((ka b 0 0 0 0 0 (⟨#[]⟩:Bs) none 0 0 0 none 0 0 0)::(ka s h i j k l n c d e o f a g q)::F12)∧Q (.panicked ch) I12 F12)))∨(∃cG:List PanicEntry,e7=.panicked cG∧∃F13:cR,List.Perm G8 ((ka b 0 0 0 0 0 (⟨#[]⟩:Bs) none 0 0 0 none 0 0 0)::(ka s h i j k l n c d e o f a g q)::F13)∧Q (.panicked cG) I11 F13)))∨(∃cH:List PanicEntry,e6=.panicked cH∧∃F14:cR,List.Perm G7 ((ka b 0 0 0 0 0 (⟨#[]⟩:Bs) none 0 0 0 none 0 0 0)::(ka s h i j k l n c d e o f a g q)::F14)∧Q (.panicked cH) I10 F14))) (cV P 18 (#[vp (some p)]) I9 ((ka b 0 0 0 0 0 (⟨#[]⟩:Bs) none 0 0 0 none 0 0 0)::(ka s h i j k l n c d e o f a g q)::F7) fun e9 I15 G11=>((e9=.returned (.tuple #[])∧∃F15:cR,List.Perm G11 ((ka b 0 0 0 0 0 (⟨#[]⟩:Bs) none 0 0 0 none 0 0 0)::(ka s h i j k l n c d e o f a g q)::F15)∧cV P 52 (#[vp (some p)]) I15 ((ka b 0 0 0 0 0 (⟨#[]⟩:Bs) none 0 0 0 none 0 0 0)::(ka s h i j k l n c d e o f a g q)::F15) fun cP I16 G12=>((∃(cr bh:Int) (bi:Bs) (cs ct cu cv cw:Int) (cx:Bs) (aL:OA) (aM aN:Nat) (bj bk bl bm bn bo:Int) (bp:Bs) (ao:OA) (ap aq:Nat) (bq br bs bt bu bv:Int) (bw:Bs) (ar:OA) (au av:Nat) (bx bz bA bB bC bD:Int) (bE:Bs) (aw:OA) (ax ay:Nat) (bF bG:Int),cP=.returned (.agg #[vb cr,vb bh,vs bi,vb cs,vb ct,vb cu,vi cv,vb cw,vs cx,vl aL aM aN,vi bj,vb bk,vb bl,vb bm,vi bn,vb bo,vs bp,vl ao ap aq,vi bq,vb br,vb bs,vb bt,vi bu,vb bv,vs bw,vl ar au av,vi bx,vb bz,vb bA,vb bB,vi bC,vb bD,vs bE,vl aw ax ay,vi bF,vi bG])∧∃F16:cR,List.Perm G12 ((ka b 0 0 0 0 0 (⟨#[]⟩:Bs) none 0 0 0 none 0 0 0)::(ka s h i j k l n c d e o f a g q)::F16)∧∀(b4:Nat) (I17:cS),cS.le I16 I17→I17 b4=some (Obj.cells #[vb cr,vb bh,vs bi,vb cs,vb ct,vb cu,vi cv,vb cw,vs cx,vl aL aM aN,vi bj,vb bk,vb bl,vb bm,vi bn,vb bo,vs bp,vl ao ap aq,vi bq,vb br,vb bs,vb bt,vi bu,vb bv,vs bw,vl ar au av,vi bx,vb bz,vb bA,vb bB,vi bC,vb bD,vs bE,vl aw ax ay,vi bF,vi bG] 140 (0,0))→dW P (Builtin.append_ #[126,126] 126 #[vl f a g,vl (some ⟨b4,0,none⟩) 1 1]) I17 ((ka b 0 0 0 0 0 (⟨#[]⟩:Bs) none 0 0 0 none 0 0 0)::(ka s h i j k l n c d e o f a g q)::F16) fun v2 I18 G13=>∃(cy:OA) (cz cA:Nat),v2=vl cy cz cA∧∃F17:cR,List.Perm G13 ((ka b 0 0 0 0 0 (⟨#[]⟩:Bs) none 0 0 0 none 0 0 0)::(ka s h i j k l n c d e o f a g q)::F17)∧(∃m4:Nat,m4<m2∧Inv14 h i j k l n c d e o cy cz cA q m4 I18 F17))∨(∃cI:List PanicEntry,cP=.panicked cI∧∃F18:cR,List.Perm G12 ((ka b 0 0 0 0 0 (⟨#[]⟩:Bs) none 0 0 0 none 0 0 0)::(ka s h i j k l n c d e o f a g q)::F18)∧Q (.panicked cI) I16 F18)))∨(∃cJ:List PanicEntry,e9=.panicked cJ∧∃F19:cR,List.Perm G11 ((ka b 0 0 0 0 0 (⟨#[]⟩:Bs) none 0 0 0 none 0 0 0)::(ka s h i j k l n c d e o f a g q)::F19)∧Q (.panicked cJ) I15 F19)))) (∀(b5:Nat) (I19:cS),cS.le I9 I19→I19 b5=some (Obj.cells #[vs (⟨#[59]⟩:Bs)] 9 (0,0))→cV P 23 (#[vp (some p),vl (some ⟨b5,0,none⟩) 1 1]) I19 ((ka b 0 0 0 0 0 (⟨#[]⟩:Bs) none 0 0 0 none 0 0 0)::(ka s h i j k l n c d e o f a g q)::F7) fun cQ I20 G14=>((∃(r2:Int),cQ=.returned (vi r2)∧∃F20:cR,List.Perm G14 ((ka b 0 0 0 0 0 (⟨#[]⟩:Bs) none 0 0 0 none 0 0 0)::(ka s h i j k l n c d e o f a g q)::F20)∧Q (.returned (.agg #[vb h,vb i,vb j,vi k,vb l,vs n,vl c d e,vi o,vl f a g,vi q])) I20 F20)∨(∃cK:List PanicEntry,cQ=.panicked cK∧∃F21:cR,List.Perm G14 ((ka b 0 0 0 0 0 (⟨#[]⟩:Bs) none 0 0 0 none 0 0 0)::(ka s h i j k l n c d e o f a g q)::F21)∧Q (.panicked cK) I20 F21)))))∨(∃cL:List PanicEntry,e4=.panicked cL∧∃F22:cR,List.Perm G4 ((ka b 0 0 0 0 0 (⟨#[]⟩:Bs) none 0 0 0 none 0 0 0)::(ka s x y z aa ab ac t u w ae none 0 0 m)::F22)∧Q (.panicked cL) I5 F22)))∨(∃cM:List PanicEntry,e3=.panicked cM∧∃F23:cR,List.Perm G3 ((ka b 0 0 0 0 0 (⟨#[]⟩:Bs) none 0 0 0 none 0 0 0)::(ka s x y z aa ab ac t u w ae none 0 0 m)::F23)∧Q (.panicked cM) I4 F23)))∨(∃cN:List PanicEntry,e2=.panicked cN∧∃F24:cR,List.Perm G2 ((ka b 0 0 0 0 0 (⟨#[]⟩:Bs) none 0 0 0 none 0 0 0)::(ka s 0 0 0 0 0 (⟨#[]⟩:Bs) none 0 0 0 none 0 0 m)::F24)∧Q (.panicked cN) I2 F24)))∨(∃cO:List PanicEntry,e1=.panicked cO∧∃F25:cR,List.Perm G1 ((ka b 0 0 0 0 0 (⟨#[]⟩:Bs) none 0 0 0 none 0 0 0)::(ka s 0 0 0 0 0 (⟨#[]⟩:Bs) none 0 0 0 none 0 0 m)::F25)∧Q (.panicked cO) I1 F25))
theorem fh.vc{p:Addr}{I:cS}{F:cR}{Q:cW}(Inv14:Int→Int→Int→Int→Int→Bs→OA→Nat→Nat→Int→OA→Nat→Nat→Int→Nat→cS→cR→Prop)(h:fh.V (fun W a b c d e f g h i j k l m n=>(W,Obj.cells #[.int .u8 a,.int .u8 b,.int .u8 c,.int .i64 d,.int .u8 e,.string f,.slice g h i,.int .i64 j,.slice k l m,.int .i64 n] 128 (0,0))) (.int .u8) (.int .i64) .string .slice .pointer p I F Q Inv14):cV P 47 #[.pointer (some p)] I F Q :=
 tw (A:=(eU [6001,7003] [13,18,19,23,52] [13,18,19,21,23,52] iJ [(14,⟨[],[(1,[(.int .u8),(.int .u8),(.int .u8),(.int .i64),(.int .u8),.str,.slc,(.int .i64),.slc,(.int .i64)])],fun _ _ _ vs m I F=>match vs with | [.int _ y0,.int _ y1,.int _ y2,.int _ y3,.int _ y4,.string y5,.slice y6 y7 y8,.int _ y9,.slice y10 y11 y12,.int _ y13]=>Inv14 y0 y1 y2 y3 y4 y5 y6 y7 y8 y9 y10 y11 y12 y13 m I F | _=>False,[],[]⟩)] [4001,5004,10004,11001] [] [] [] [(5,[0,2,1,3,4,5,6,7]),(10,[0,2,1,3,4,5,6,7])] [] [] [(5,[1],7),(10,[1],7)])) [13,18,19,21,23,52] func47 h
def eR.V(ka:Nat→Bs→OA→Nat→Nat→Int→Nat×Obj)(vi:Int→Value)(vs:Bs→Value)(vl:OA→Nat→Nat→Value)(vp:OA→Value)(p:Addr)(I:cS)(F:cR)(Q:cW)  : Prop:=∀b:Nat,∃ad:Addr,some p=some ad∧∃(m:Int),Rd I ((ka b (⟨#[]⟩:Bs) none 0 0 0)::F) ((ad.add 1).add 4) [vi m]∧∀a:Nat,cV P 18 (#[vp (some p)]) I ((ka b (⟨#[]⟩:Bs) none 0 0 0)::(ka a (⟨#[]⟩:Bs) none 0 0 m)::F) fun e1 I1 G1=>((e1=.returned (.tuple #[])∧∃F1:cR,List.Perm G1 ((ka b (⟨#[]⟩:Bs) none 0 0 0)::(ka a (⟨#[]⟩:Bs) none 0 0 m)::F1)∧cV P 29 (#[vp (some p)]) I1 ((ka b (⟨#[]⟩:Bs) none 0 0 0)::(ka a (⟨#[]⟩:Bs) none 0 0 m)::F1) fun e2 I2 G2=>((∃(r:Bs),e2=.returned (vs r)∧∃F2:cR,List.Perm G2 ((ka b (⟨#[]⟩:Bs) none 0 0 0)::(ka a (⟨#[]⟩:Bs) none 0 0 m)::F2)∧∀(b1:Nat) (I3:cS),cS.le I2 I3→I3 b1=some (Obj.cells #[vs (⟨#[123]⟩:Bs)] 9 (0,0))→cV P 23 (#[vp (some p),vl (some ⟨b1,0,none⟩) 1 1]) I3 ((ka b (⟨#[]⟩:Bs) none 0 0 0)::(ka a r none 0 0 m)::F2) fun e3 I4 G3=>((∃(r1:Int),e3=.returned (vi r1)∧∃F3:cR,List.Perm G3 ((ka b (⟨#[]⟩:Bs) none 0 0 0)::(ka a r none 0 0 m)::F3)∧cV P 46 (#[vp (some p),vs (⟨#[119,104,101,110]⟩:Bs),vi 12,.func (.func 47) #[] #[]]) I4 ((ka b (⟨#[]⟩:Bs) none 0 0 0)::(ka a r none 0 0 m)::F3) fun e4 I5 G4=>((∃(c:OA) (d e:Nat),e4=.returned (vl c d e)∧∃F4:cR,List.Perm G4 ((ka b (⟨#[]⟩:Bs) none 0 0 0)::(ka a r none 0 0 m)::F4)∧∀(b2:Nat) (I6:cS),cS.le I5 I6→I6 b2=some (Obj.cells #[vs (⟨#[125]⟩:Bs)] 9 (0,0))→cV P 23 (#[vp (some p),vl (some ⟨b2,0,none⟩) 1 1]) I6 ((ka b (⟨#[]⟩:Bs) none 0 0 0)::(ka a r c d e m)::F4) fun e5 I7 G5=>((∃(r2:Int),e5=.returned (vi r2)∧∃F5:cR,List.Perm G5 ((ka b (⟨#[]⟩:Bs) none 0 0 0)::(ka a r c d e m)::F5)∧Q (.returned (.agg #[vs r,vl c d e,vi m])) I7 F5)∨(∃ch:List PanicEntry,e5=.panicked ch∧∃F6:cR,List.Perm G5 ((ka b (⟨#[]⟩:Bs) none 0 0 0)::(ka a r c d e m)::F6)∧Q (.panicked ch) I7 F6)))∨(∃f:List PanicEntry,e4=.panicked f∧∃F7:cR,List.Perm G4 ((ka b (⟨#[]⟩:Bs) none 0 0 0)::(ka a r none 0 0 m)::F7)∧Q (.panicked f) I5 F7)))∨(∃g:List PanicEntry,e3=.panicked g∧∃F8:cR,List.Perm G3 ((ka b (⟨#[]⟩:Bs) none 0 0 0)::(ka a r none 0 0 m)::F8)∧Q (.panicked g) I4 F8)))∨(∃h:List PanicEntry,e2=.panicked h∧∃F9:cR,List.Perm G2 ((ka b (⟨#[]⟩:Bs) none 0 0 0)::(ka a (⟨#[]⟩:Bs) none 0 0 m)::F9)∧Q (.panicked h) I2 F9)))∨(∃i:List PanicEntry,e1=.panicked i∧∃F10:cR,List.Perm G1 ((ka b (⟨#[]⟩:Bs) none 0 0 0)::(ka a (⟨#[]⟩:Bs) none 0 0 m)::F10)∧Q (.panicked i) I1 F10))
theorem eR.vc{p:Addr}{I:cS}{F:cR}{Q:cW}  (h:eR.V (fun W a b c d e=>(W,Obj.cells #[.string a,.slice b c d,.int .i64 e] 53 (0,0))) (.int .i64) .string .slice .pointer p I F Q):cV P 35 #[.pointer (some p)] I F Q :=
 tw (A:=(eU [] [18,23,29,46] [18,23,29,46] iJ [] [4001,6001] [] [] [] [] [])) [18,23,29,46] func35 h
def dZ.V(ka:Nat→Bs→OA→Nat→Nat→OA→Nat→Nat→OA→Nat→Nat→Nat×Obj)(vi:Int→Value)(vs:Bs→Value)(vl:OA→Nat→Nat→Value)(vp:OA→Value)(p:Addr)(I:cS)(F:cR)(Q:cW)  : Prop:=∀b:Nat,∀(b1:Nat) (I1:cS),cS.le I I1→I1 b1=some (Obj.cells #[vs (⟨#[115,116,114,97,116,101,103,121]⟩:Bs)] 9 (0,0))→cV P 23 (#[vp (some p),vl (some ⟨b1,0,none⟩) 1 1]) I1 ((ka b (⟨#[]⟩:Bs) none 0 0 none 0 0 none 0 0)::F) fun e1 I2 G1=>((∃(r:Int),e1=.returned (vi r)∧∃F1:cR,List.Perm G1 ((ka b (⟨#[]⟩:Bs) none 0 0 none 0 0 none 0 0)::F1)∧cV P 29 (#[vp (some p)]) I2 ((ka b (⟨#[]⟩:Bs) none 0 0 none 0 0 none 0 0)::F1) fun e2 I3 G2=>((∃(r1:Bs),e2=.returned (vs r1)∧∃F2:cR,List.Perm G2 ((ka b (⟨#[]⟩:Bs) none 0 0 none 0 0 none 0 0)::F2)∧∀a:Nat,∀(b2:Nat) (I4:cS),cS.le I3 I4→I4 b2=some (Obj.cells #[vs (⟨#[123]⟩:Bs)] 9 (0,0))→cV P 23 (#[vp (some p),vl (some ⟨b2,0,none⟩) 1 1]) I4 ((ka b (⟨#[]⟩:Bs) none 0 0 none 0 0 none 0 0)::(ka a r1 none 0 0 none 0 0 none 0 0)::F2) fun e3 I5 G3=>((∃(r2:Int),e3=.returned (vi r2)∧∃F3:cR,List.Perm G3 ((ka b (⟨#[]⟩:Bs) none 0 0 none 0 0 none 0 0)::(ka a r1 none 0 0 none 0 0 none 0 0)::F3)∧cV P 30 (#[vp (some p),vs (⟨#[114,101,103]⟩:Bs),vi 12,.func (.func 31) #[] #[]]) I5 ((ka b (⟨#[]⟩:Bs) none 0 0 none 0 0 none 0 0)::(ka a r1 none 0 0 none 0 0 none 0 0)::F3) fun e4 I6 G4=>((∃(g:OA) (h i:Nat),e4=.returned (vl g h i)∧∃F4:cR,List.Perm G4 ((ka b (⟨#[]⟩:Bs) none 0 0 none 0 0 none 0 0)::(ka a r1 none 0 0 none 0 0 none 0 0)::F4)∧cV P 32 (#[vp (some p),vs (⟨#[115,108,111,116]⟩:Bs),vi 4,.func (.func 33) #[] #[]]) I6 ((ka b (⟨#[]⟩:Bs) none 0 0 none 0 0 none 0 0)::(ka a r1 g h i none 0 0 none 0 0)::F4) fun e5 I7 G5=>((∃(c:OA) (d e:Nat),e5=.returned (vl c d e)∧∃F5:cR,List.Perm G5 ((ka b (⟨#[]⟩:Bs) none 0 0 none 0 0 none 0 0)::(ka a r1 g h i none 0 0 none 0 0)::F5)∧cV P 34 (#[vp (some p),vs (⟨#[115,116,97,116,101]⟩:Bs),vi 12,.func (.func 35) #[] #[]]) I7 ((ka b (⟨#[]⟩:Bs) none 0 0 none 0 0 none 0 0)::(ka a r1 g h i c d e none 0 0)::F5) fun e6 I8 G6=>((∃(j:OA) (f k:Nat),e6=.returned (vl j f k)∧∃F6:cR,List.Perm G6 ((ka b (⟨#[]⟩:Bs) none 0 0 none 0 0 none 0 0)::(ka a r1 g h i c d e none 0 0)::F6)∧(It ((f:Int)==0) (cV P 19 (#[vp (some p),vi 130]) I8 ((ka b (⟨#[]⟩:Bs) none 0 0 none 0 0 none 0 0)::(ka a r1 g h i c d e j f k)::F6) fun e7 I9 G7=>((e7=.returned (.tuple #[])∧∃F7:cR,List.Perm G7 ((ka b (⟨#[]⟩:Bs) none 0 0 none 0 0 none 0 0)::(ka a r1 g h i c d e j f k)::F7)∧∀(b3:Nat) (I10:cS),cS.le I9 I10→I10 b3=some (Obj.cells #[vs (⟨#[125]⟩:Bs)] 9 (0,0))→cV P 23 (#[vp (some p),vl (some ⟨b3,0,none⟩) 1 1]) I10 ((ka b (⟨#[]⟩:Bs) none 0 0 none 0 0 none 0 0)::(ka a r1 g h i c d e j f k)::F7) fun e8 I11 G8=>((∃(r3:Int),e8=.returned (vi r3)∧∃F8:cR,List.Perm G8 ((ka b (⟨#[]⟩:Bs) none 0 0 none 0 0 none 0 0)::(ka a r1 g h i c d e j f k)::F8)∧Q (.returned (.agg #[vs r1,vl g h i,vl c d e,vl j f k])) I11 F8)∨(∃ch:List PanicEntry,e8=.panicked ch∧∃F9:cR,List.Perm G8 ((ka b (⟨#[]⟩:Bs) none 0 0 none 0 0 none 0 0)::(ka a r1 g h i c d e j f k)::F9)∧Q (.panicked ch) I11 F9)))∨(∃l:List PanicEntry,e7=.panicked l∧∃F10:cR,List.Perm G7 ((ka b (⟨#[]⟩:Bs) none 0 0 none 0 0 none 0 0)::(ka a r1 g h i c d e j f k)::F10)∧Q (.panicked l) I9 F10))) (∀(b4:Nat) (I12:cS),cS.le I8 I12→I12 b4=some (Obj.cells #[vs (⟨#[125]⟩:Bs)] 9 (0,0))→cV P 23 (#[vp (some p),vl (some ⟨b4,0,none⟩) 1 1]) I12 ((ka b (⟨#[]⟩:Bs) none 0 0 none 0 0 none 0 0)::(ka a r1 g h i c d e j f k)::F6) fun e9 I13 G9=>((∃(r4:Int),e9=.returned (vi r4)∧∃F11:cR,List.Perm G9 ((ka b (⟨#[]⟩:Bs) none 0 0 none 0 0 none 0 0)::(ka a r1 g h i c d e j f k)::F11)∧Q (.returned (.agg #[vs r1,vl g h i,vl c d e,vl j f k])) I13 F11)∨(∃m:List PanicEntry,e9=.panicked m∧∃F12:cR,List.Perm G9 ((ka b (⟨#[]⟩:Bs) none 0 0 none 0 0 none 0 0)::(ka a r1 g h i c d e j f k)::F12)∧Q (.panicked m) I13 F12)))))∨(∃n:List PanicEntry,e6=.panicked n∧∃F13:cR,List.Perm G6 ((ka b (⟨#[]⟩:Bs) none 0 0 none 0 0 none 0 0)::(ka a r1 g h i c d e none 0 0)::F13)∧Q (.panicked n) I8 F13)))∨(∃o:List PanicEntry,e5=.panicked o∧∃F14:cR,List.Perm G5 ((ka b (⟨#[]⟩:Bs) none 0 0 none 0 0 none 0 0)::(ka a r1 g h i none 0 0 none 0 0)::F14)∧Q (.panicked o) I7 F14)))∨(∃q:List PanicEntry,e4=.panicked q∧∃F15:cR,List.Perm G4 ((ka b (⟨#[]⟩:Bs) none 0 0 none 0 0 none 0 0)::(ka a r1 none 0 0 none 0 0 none 0 0)::F15)∧Q (.panicked q) I6 F15)))∨(∃s:List PanicEntry,e3=.panicked s∧∃F16:cR,List.Perm G3 ((ka b (⟨#[]⟩:Bs) none 0 0 none 0 0 none 0 0)::(ka a r1 none 0 0 none 0 0 none 0 0)::F16)∧Q (.panicked s) I5 F16)))∨(∃t:List PanicEntry,e2=.panicked t∧∃F17:cR,List.Perm G2 ((ka b (⟨#[]⟩:Bs) none 0 0 none 0 0 none 0 0)::F17)∧Q (.panicked t) I3 F17)))∨(∃u:List PanicEntry,e1=.panicked u∧∃F18:cR,List.Perm G1 ((ka b (⟨#[]⟩:Bs) none 0 0 none 0 0 none 0 0)::F18)∧Q (.panicked u) I2 F18))
theorem dZ.vc{p:Addr}{I:cS}{F:cR}{Q:cW}  (h:dZ.V (fun W a b c d e f g h i j=>(W,Obj.cells #[.string a,.slice b c d,.slice e f g,.slice h i j] 48 (0,0))) (.int .i64) .string .slice .pointer p I F Q):cV P 16 #[.pointer (some p)] I F Q :=
 tw (A:=(eU [7003] [19,23,29,30,32,34] [19,23,29,30,32,34] iJ [] [1001,3001,9001] [] [] [] [] [])) [19,23,29,30,32,34] func16 h
def gT.V(vb vi:Int→Value)(vs:Bs→Value)(vl:OA→Nat→Nat→Value)(vp:OA→Value)(p:Addr)(aw:Bs)(o:Int)(q:Fn)(c d:Array Value)(I:cS)(F:cR)(Q:cW)(Inv6:OA→Nat→Nat→Nat→cS→cR→Prop):Prop:=(∃m:Nat,Inv6 none 0 0 m I F)∧∀(h:OA) (a i m1:Nat) (I1:cS) (F1:cR),cS.le I I1→Inv6 h a i m1 I1 F1→k6 P 21 (#[vp (some p),vs aw]) I1 (·) F1 .bool fun r I2 F2=>(It r (It ((a:Int)==o) (cV P 19 (#[vp (some p),vi 131]) I2 F2 fun e2 I3 G2=>((e2=.returned (.tuple #[])∧∃F3:cR,List.Perm G2 F3∧gj P (.func q c d) [vp (some p)] I3 F3 fun e3 I4 G3=>((∃(ag:Bs) (ah ai aj ak al am:Int) (an:Bs) (j:OA) (k l:Nat) (ao s:Int),e3=.returned (.agg #[vs ag,vb ah,vb ai,vb aj,vb ak,vi al,vb am,vs an,vl j k l,vi ao,vi s])∧∃F4:cR,List.Perm G3 F4∧∀(b:Nat) (I5:cS),cS.le I4 I5→I5 b=some (Obj.cells #[vs ag,vb ah,vb ai,vb aj,vb ak,vi al,vb am,vs an,vl j k l,vi ao,vi s] 92 (0,0))→dW P (Builtin.append_ #[44,44] 44 #[vl h a i,vl (some ⟨b,0,none⟩) 1 1]) I5 F4 fun v I6 G4=>∃(ap:OA) (aq ar:Nat),v=vl ap aq ar∧∃F5:cR,List.Perm G4 F5∧(∃m2:Nat,m2<m1∧Inv6 ap aq ar m2 I6 F5))∨(∃ch:List PanicEntry,e3=.panicked ch∧∃F6:cR,List.Perm G3 F6∧Q (.panicked ch) I4 F6)))∨(∃au:List PanicEntry,e2=.panicked au∧∃F7:cR,List.Perm G2 F7∧Q (.panicked au) I3 F7))) (gj P (.func q c d) [vp (some p)] I2 F2 fun e4 I7 G5=>((∃(t:Bs) (u w x y z aa:Int) (ab:Bs) (e:OA) (f g:Nat) (ac n:Int),e4=.returned (.agg #[vs t,vb u,vb w,vb x,vb y,vi z,vb aa,vs ab,vl e f g,vi ac,vi n])∧∃F8:cR,List.Perm G5 F8∧∀(b1:Nat) (I8:cS),cS.le I7 I8→I8 b1=some (Obj.cells #[vs t,vb u,vb w,vb x,vb y,vi z,vb aa,vs ab,vl e f g,vi ac,vi n] 92 (0,0))→dW P (Builtin.append_ #[44,44] 44 #[vl h a i,vl (some ⟨b1,0,none⟩) 1 1]) I8 F8 fun v1 I9 G6=>∃(ad:OA) (ae af:Nat),v1=vl ad ae af∧∃F9:cR,List.Perm G6 F9∧(∃m3:Nat,m3<m1∧Inv6 ad ae af m3 I9 F9))∨(∃av:List PanicEntry,e4=.panicked av∧∃F10:cR,List.Perm G5 F10∧Q (.panicked av) I7 F10)))) (Q (.returned (vl h a i)) I2 F2))
theorem gT.vc{p:Addr}{c:Bs}{d:Int}{e:Fn}{a b:Array Value}{I:cS}{F:cR}{Q:cW}(Inv6:OA→Nat→Nat→Nat→cS→cR→Prop)(h:gT.V (.int .u8) (.int .i64) .string .slice .pointer p c d e a b I F Q Inv6):cV P 30 #[.pointer (some p),.string c,.int .i64 d,.func e a b] I F Q :=
 tw (A:=(eU [2002,3003] [0,19] [19,21] iJ [(6,⟨[(9,.slc)],[],fun _ _ _ vs m I F=>match vs with | [.slice y0 y1 y2]=>Inv6 y0 y1 y2 m I F | _=>False,[],[]⟩)] [5004] [] [] [5003] [] [])) [19,21] func30 h
def gy.V(vi:Int→Value)(vs:Bs→Value)(vl:OA→Nat→Nat→Value)(vp:OA→Value)(p:Addr)(y:Bs)(g:Int)(h:Fn)(c d:Array Value)(I:cS)(F:cR)(Q:cW)(Inv6:OA→Nat→Nat→Nat→cS→cR→Prop):Prop:=(∃m:Nat,Inv6 none 0 0 m I F)∧∀(e:OA) (a f m1:Nat) (I1:cS) (F1:cR),cS.le I I1→Inv6 e a f m1 I1 F1→k6 P 21 (#[vp (some p),vs y]) I1 (·) F1 .bool fun r I2 F2=>(It r (It ((a:Int)==g) (cV P 19 (#[vp (some p),vi 131]) I2 F2 fun e2 I3 G2=>((e2=.returned (.tuple #[])∧∃F3:cR,List.Perm G2 F3∧gj P (.func h c d) [vp (some p)] I3 F3 fun e3 I4 G3=>((∃(o:Bs) (q:Int),e3=.returned (.agg #[vs o,vi q])∧∃F4:cR,List.Perm G3 F4∧∀(b:Nat) (I5:cS),cS.le I4 I5→I5 b=some (Obj.cells #[vs o,vi q] 97 (0,0))→dW P (Builtin.append_ #[45,45] 45 #[vl e a f,vl (some ⟨b,0,none⟩) 1 1]) I5 F4 fun v I6 G4=>∃(s:OA) (t u:Nat),v=vl s t u∧∃F5:cR,List.Perm G4 F5∧(∃m2:Nat,m2<m1∧Inv6 s t u m2 I6 F5))∨(∃ch:List PanicEntry,e3=.panicked ch∧∃F6:cR,List.Perm G3 F6∧Q (.panicked ch) I4 F6)))∨(∃w:List PanicEntry,e2=.panicked w∧∃F7:cR,List.Perm G2 F7∧Q (.panicked w) I3 F7))) (gj P (.func h c d) [vp (some p)] I2 F2 fun e4 I7 G5=>((∃(i:Bs) (j:Int),e4=.returned (.agg #[vs i,vi j])∧∃F8:cR,List.Perm G5 F8∧∀(b1:Nat) (I8:cS),cS.le I7 I8→I8 b1=some (Obj.cells #[vs i,vi j] 97 (0,0))→dW P (Builtin.append_ #[45,45] 45 #[vl e a f,vl (some ⟨b1,0,none⟩) 1 1]) I8 F8 fun v1 I9 G6=>∃(k:OA) (l n:Nat),v1=vl k l n∧∃F9:cR,List.Perm G6 F9∧(∃m3:Nat,m3<m1∧Inv6 k l n m3 I9 F9))∨(∃x:List PanicEntry,e4=.panicked x∧∃F10:cR,List.Perm G5 F10∧Q (.panicked x) I7 F10)))) (Q (.returned (vl e a f)) I2 F2))
theorem gy.vc{p:Addr}{c:Bs}{d:Int}{e:Fn}{a b:Array Value}{I:cS}{F:cR}{Q:cW}(Inv6:OA→Nat→Nat→Nat→cS→cR→Prop)(h:gy.V (.int .i64) .string .slice .pointer p c d e a b I F Q Inv6):cV P 32 #[.pointer (some p),.string c,.int .i64 d,.func e a b] I F Q :=
 tw (A:=(eU [2002,3003] [0,19] [19,21] iJ [(6,⟨[(9,.slc)],[],fun _ _ _ vs m I F=>match vs with | [.slice y0 y1 y2]=>Inv6 y0 y1 y2 m I F | _=>False,[],[]⟩)] [5004] [] [] [5003] [] [])) [19,21] func32 h
def gz.V(vb vi:Int→Value)(vs:Bs→Value)(vl:OA→Nat→Nat→Value)(vp:OA→Value)(p:Addr)(ay:Bs)(w:Int)(x:Fn)(c d:Array Value)(I:cS)(F:cR)(Q:cW)(Inv6:OA→Nat→Nat→Nat→cS→cR→Prop):Prop:=(∃m:Nat,Inv6 none 0 0 m I F)∧∀(k:OA) (a l m1:Nat) (I1:cS) (F1:cR),cS.le I I1→Inv6 k a l m1 I1 F1→k6 P 21 (#[vp (some p),vs ay]) I1 (·) F1 .bool fun r I2 F2=>(It r (It ((a:Int)==w) (cV P 19 (#[vp (some p),vi 131]) I2 F2 fun e2 I3 G2=>((e2=.returned (.tuple #[])∧∃F3:cR,List.Perm G2 F3∧gj P (.func x c d) [vp (some p)] I3 F3 fun e3 I4 G3=>((∃(aj ak al am an:Int) (ao:Bs) (n:OA) (o q:Nat) (ap:Int) (s:OA) (t u:Nat) (aq:Int),e3=.returned (.agg #[vb aj,vb ak,vb al,vi am,vb an,vs ao,vl n o q,vi ap,vl s t u,vi aq])∧∃F4:cR,List.Perm G3 F4∧∀(b:Nat) (I5:cS),cS.le I4 I5→I5 b=some (Obj.cells #[vb aj,vb ak,vb al,vi am,vb an,vs ao,vl n o q,vi ap,vl s t u,vi aq] 128 (0,0))→dW P (Builtin.append_ #[51,51] 51 #[vl k a l,vl (some ⟨b,0,none⟩) 1 1]) I5 F4 fun v I6 G4=>∃(ar:OA) (au av:Nat),v=vl ar au av∧∃F5:cR,List.Perm G4 F5∧(∃m2:Nat,m2<m1∧Inv6 ar au av m2 I6 F5))∨(∃ch:List PanicEntry,e3=.panicked ch∧∃F6:cR,List.Perm G3 F6∧Q (.panicked ch) I4 F6)))∨(∃aw:List PanicEntry,e2=.panicked aw∧∃F7:cR,List.Perm G2 F7∧Q (.panicked aw) I3 F7))) (gj P (.func x c d) [vp (some p)] I2 F2 fun e4 I7 G5=>((∃(y z aa ab ac:Int) (ad:Bs) (e:OA) (f g:Nat) (ae:Int) (h:OA) (i j:Nat) (af:Int),e4=.returned (.agg #[vb y,vb z,vb aa,vi ab,vb ac,vs ad,vl e f g,vi ae,vl h i j,vi af])∧∃F8:cR,List.Perm G5 F8∧∀(b1:Nat) (I8:cS),cS.le I7 I8→I8 b1=some (Obj.cells #[vb y,vb z,vb aa,vi ab,vb ac,vs ad,vl e f g,vi ae,vl h i j,vi af] 128 (0,0))→dW P (Builtin.append_ #[51,51] 51 #[vl k a l,vl (some ⟨b1,0,none⟩) 1 1]) I8 F8 fun v1 I9 G6=>∃(ag:OA) (ah ai:Nat),v1=vl ag ah ai∧∃F9:cR,List.Perm G6 F9∧(∃m3:Nat,m3<m1∧Inv6 ag ah ai m3 I9 F9))∨(∃ax:List PanicEntry,e4=.panicked ax∧∃F10:cR,List.Perm G5 F10∧Q (.panicked ax) I7 F10)))) (Q (.returned (vl k a l)) I2 F2))
theorem gz.vc{p:Addr}{c:Bs}{d:Int}{e:Fn}{a b:Array Value}{I:cS}{F:cR}{Q:cW}(Inv6:OA→Nat→Nat→Nat→cS→cR→Prop)(h:gz.V (.int .u8) (.int .i64) .string .slice .pointer p c d e a b I F Q Inv6):cV P 46 #[.pointer (some p),.string c,.int .i64 d,.func e a b] I F Q :=
 tw (A:=(eU [2002,3003] [0,19] [19,21] iJ [(6,⟨[(9,.slc)],[],fun _ _ _ vs m I F=>match vs with | [.slice y0 y1 y2]=>Inv6 y0 y1 y2 m I F | _=>False,[],[]⟩)] [5004] [] [] [5003] [] [])) [19,21] func46 h
def fY.V(vi:Int→Value)(vs:Bs→Value)(vl:OA→Nat→Nat→Value)(vp:OA→Value)(p:Addr)(ae:Bs)(n:Int)(o:Fn)(c d:Array Value)(I:cS)(F:cR)(Q:cW)(Inv6:OA→Nat→Nat→Nat→cS→cR→Prop):Prop:=(∃m:Nat,Inv6 none 0 0 m I F)∧∀(h:OA) (a i m1:Nat) (I1:cS) (F1:cR),cS.le I I1→Inv6 h a i m1 I1 F1→k6 P 21 (#[vp (some p),vs ae]) I1 (·) F1 .bool fun r I2 F2=>(It r (It ((a:Int)==n) (cV P 19 (#[vp (some p),vi 131]) I2 F2 fun e2 I3 G2=>((e2=.returned (.tuple #[])∧∃F3:cR,List.Perm G2 F3∧gj P (.func o c d) [vp (some p)] I3 F3 fun e3 I4 G3=>((∃(x:Bs) (j:OA) (k l:Nat) (y:Int),e3=.returned (.agg #[vs x,vl j k l,vi y])∧∃F4:cR,List.Perm G3 F4∧∀(b:Nat) (I5:cS),cS.le I4 I5→I5 b=some (Obj.cells #[vs x,vl j k l,vi y] 53 (0,0))→dW P (Builtin.append_ #[46,46] 46 #[vl h a i,vl (some ⟨b,0,none⟩) 1 1]) I5 F4 fun v I6 G4=>∃(z:OA) (aa ab:Nat),v=vl z aa ab∧∃F5:cR,List.Perm G4 F5∧(∃m2:Nat,m2<m1∧Inv6 z aa ab m2 I6 F5))∨(∃ch:List PanicEntry,e3=.panicked ch∧∃F6:cR,List.Perm G3 F6∧Q (.panicked ch) I4 F6)))∨(∃ac:List PanicEntry,e2=.panicked ac∧∃F7:cR,List.Perm G2 F7∧Q (.panicked ac) I3 F7))) (gj P (.func o c d) [vp (some p)] I2 F2 fun e4 I7 G5=>((∃(q:Bs) (e:OA) (f g:Nat) (s:Int),e4=.returned (.agg #[vs q,vl e f g,vi s])∧∃F8:cR,List.Perm G5 F8∧∀(b1:Nat) (I8:cS),cS.le I7 I8→I8 b1=some (Obj.cells #[vs q,vl e f g,vi s] 53 (0,0))→dW P (Builtin.append_ #[46,46] 46 #[vl h a i,vl (some ⟨b1,0,none⟩) 1 1]) I8 F8 fun v1 I9 G6=>∃(t:OA) (u w:Nat),v1=vl t u w∧∃F9:cR,List.Perm G6 F9∧(∃m3:Nat,m3<m1∧Inv6 t u w m3 I9 F9))∨(∃ad:List PanicEntry,e4=.panicked ad∧∃F10:cR,List.Perm G5 F10∧Q (.panicked ad) I7 F10)))) (Q (.returned (vl h a i)) I2 F2))
theorem fY.vc{p:Addr}{c:Bs}{d:Int}{e:Fn}{a b:Array Value}{I:cS}{F:cR}{Q:cW}(Inv6:OA→Nat→Nat→Nat→cS→cR→Prop)(h:fY.V (.int .i64) .string .slice .pointer p c d e a b I F Q Inv6):cV P 34 #[.pointer (some p),.string c,.int .i64 d,.func e a b] I F Q :=
 tw (A:=(eU [2002,3003] [0,19] [19,21] iJ [(6,⟨[(9,.slc)],[],fun _ _ _ vs m I F=>match vs with | [.slice y0 y1 y2]=>Inv6 y0 y1 y2 m I F | _=>False,[],[]⟩)] [5004] [] [] [5003] [] [])) [19,21] func34 h
end Go.Lx
namespace Go.Lx
open Go.Vc
theorem ec{G K A F0:cR}{X Y p:Nat×Obj}(h:G.Perm (p::(K++(X::Y::(A++F0))))):G.Perm (X::Y::(p::((K++A)++F0))):=h.trans (cT fun z=>by simp only[cU,cX,cY];omega)
theorem yW{G K A F0:cR}{X Y Z p:Nat×Obj}(h:G.Perm (p::(K++(X::Y::Z::(A++F0))))):G.Perm (X::Y::Z::(p::((K++A)++F0))):=h.trans (cT fun z=>by simp only[cU,cX,cY];omega)
section
variable {c:PC} {t:ByteArray} {s:PS} {b:Nat} {F F0:cR}
theorem dR{α:Type}{val:α→Value→cR→Prop}{f:PF}{r:α×PS}{X Y:Nat×Obj}{A:cR}{e:Ending}{I:cS}{G:cR}(hd:c.dw f r.2)(hf:c7 f (X::Y::(A++F0)) e G):∃ch,e=.panicked ch∧∃F2:cR,List.Perm G (X::Y::F2)∧cZ c t b val F0 r (.panicked ch) I F2 :=
 c7.dk (F0:=A++F0) [X,Y] hf fun e' G' hf'=>.inr ⟨f,hd,hf'.more⟩
theorem yf{α:Type}{val:α→Value→cR→Prop}{f:PF}{r:α×PS}{X Y Z:Nat×Obj}{A:cR}{e:Ending}{I:cS}{G:cR}(hd:c.dw f r.2)(hf:c7 f (X::Y::Z::(A++F0)) e G):∃ch,e=.panicked ch∧∃F2:cR,List.Perm G (X::Y::Z::F2)∧cZ c t b val F0 r (.panicked ch) I F2 :=
 c7.dk (F0:=A++F0) [X,Y,Z] hf fun e' G' hf'=>.inr ⟨f,hd,hf'.more⟩
theorem gE{w:ByteArray}(hl:c.Live s)(h:c.eM w s=true):(c.tok s.next).kind≠0:=fun hk=>by
 unfold PC.eM at h;rw[hl.now,hk] at h;simp at h
theorem lP{w:ByteArray}(hl:c.Live s)(h:c.eM w s=true):c.take w s=((c.tok s.next).pos,s.inc):=by
 unfold PC.take;rw[if_pos h,hl.now]
def zN(x:dY)(v:Value)(H:cR):Prop:=v=x.v∧H=[]
def zO(x:k9)(v:Value)(H:cR):Prop:=∃d:iG,v=d.v∧d.p=x∧gg false d H
theorem wX(hc:c.Of t)(hl:c.Live s)(hw:c.eM (⟨#[115,108,111,116]⟩:ByteArray) s=true){I:cS}(hF:F.Perm (c.px t b s::F0)) :
  cV P 33 #[.pointer (some ⟨b,0,none⟩)] I F (cZ c t b zN F0 (c.slot s)):=by
 have hp:=dA.of (I:=I) hF
 have e0:c.slot s=(⟨(c.name s.inc).1,(c.tok s.next).pos⟩,(c.take (⟨#[59]⟩:ByteArray) (c.name s.inc).2).2):=by unfold PC.slot;rw[lP hl hw]
 rw[e0]
 refine fg.vc ?_
 unfold fg.V
 intro b0
 refine⟨_,rfl,_,(hp.mono (cS.le_refl I) fun x hx=>.tail _ hx).rd.dp (p:=1) (q:=4) rfl,fun bx=>?_⟩
 refine cZ.use (dC hc hl (gE hl hw) (eW hF)) (fun v K I1 G l1 hL hv hG=>.inl ?_) fun f e I1 G l1 hd hf=>.inr (dR (A:=[]) (hd.name.take _) hf)
 obtain⟨rfl,rfl⟩:=hv
 refine⟨rfl,_,ec (A:=[]) hG, ?_⟩
 refine cZ.use (gx hc hL (eW (.refl _))) (fun v K I2 G l2 hL2 hv hG=>.inl ?_) fun f e I2 G l2 hd hf=>.inr (dR (A:=[]) (hd.take _) hf)
 obtain⟨rfl,rfl⟩:=hv
 refine⟨_,rfl,_,ec (A:=[]) hG,fun b1 I3 l3 hb1=>?_⟩
 refine cZ.use (dL hc hL2 hb1 (eW (.refl _))) (fun v K I4 G l4 hL4 hv hG=>.inl ?_) fun f e I4 G l4 hd hf=>.inr (dR (A:=[]) hd hf)
 obtain⟨⟨i,rfl⟩,rfl⟩:=hv
 exact⟨_,rfl,_,ec (A:=[]) hG,.inl ⟨hL4,_,[],rfl,⟨rfl,rfl⟩,.refl _⟩⟩
theorem any_zero{w:ByteArray}{ws:List ByteArray}(h:c.any (w::ws) s=0):c.eM w s=true:=by
 unfold PC.any at h
 rw[PC.gu] at h
 by_cases hw:c.eM w s=true
 ·exact hw
 ·rw[if_neg hw] at h
  have:=(qt (c:=c) (s:=s) (ws:=ws) (i:=0+1) (by decide) (by omega)).2.1
  omega
def PC.uV(c:PC)(i pos:Int)(s:PS):k9×PS:=if i=0 then c.rP (c.fK s).1 pos (c.fK s).2 else if i=5 then c.wb 6 ⟨#[]⟩ pos s else c.wb (1+i) (c.name s).1 pos (c.name s).2
theorem xm(hl:c.Live s)(h:0≤c.any rQ s):c.do s=c.uV (c.any rQ s) (c.tok s.next).pos s.inc:=by
 unfold PC.do PC.uV
 rw[if_neg (Int.not_lt.2 h),hl.now]
 split
 ·rename_i h0
  unfold PC.sZ
  rw[lP hl (any_zero (ws:=[(⟨#[97,109,101,110,100]⟩:ByteArray),(⟨#[99,97,110,99,101,108]⟩:ByteArray),(⟨#[115,101,116]⟩:ByteArray),(⟨#[103,111,116,111]⟩:ByteArray),(⟨#[104,97,108,116]⟩:ByteArray)]) h0)]
 ·rfl
theorem Kp.uV(i pos:Int)(f:PF):Kp c f (c.uV i pos):=fun s h=>by
 unfold PC.uV
 split
 ·exact Kp.rP _ _ _ (Kp.fK _ h)
 ·split
  ·exact Kp.wb _ _ _ _ h
  ·exact Kp.wb _ _ _ _ h.name
theorem gg.of{d:iG}{H1 H2 H3 H4:cR}(h1:dI 29 false d.side H1)(h2:dI 29 false d.qty H2)(h3:dI 29 false d.price H3)(h4:dI 29 false d.value H4):gg false d (H1++(H2++(H3++H4))):=⟨H1,H2,H3,H4,rfl,h1,h2,h3,h4⟩
theorem dM:dI 29 false jG []:=dI.leaf
end
end Go.Lx
namespace Go.Lx
open Go.Vc
section
variable {c:PC} {t:ByteArray} {s:PS} {b:Nat} {F F0:cR}
theorem uP{I:cS}{G:cR}{b4:Nat}{i:Int}(hb:I b4=some (.cells #[.int .u8 1,.int .u8 3,.int .u8 4,.int .u8 5] 138 (0,0)))(h0:0≤i)(h1:i<4) :
  Rd I G ((⟨b4,0,none⟩:Addr).add (i.toNat*1)) [.int .u8 (if i=0 then 1 else 2+i)]:=by
 rw[eE]
 refine Rd.sP hb G _ fun j hj=>?_
 have:j=0:=by simpa using hj
 subst this
 have:i=0∨i=1∨i=2∨i=3:=by omega
 rcases this with rfl | rfl | rfl | rfl<;>rfl
theorem uf{x y z:Px}{pos o:Int}(hl:c.Live s):c.pj x y pos z o s=if c.eM (⟨#[97,115]⟩:ByteArray) s then (⟨1,o,(c.name s.inc).1,x,y,z,fs,pos⟩,(c.name s.inc).2) else (⟨1,o,⟨#[]⟩,x,y,z,fs,pos⟩,s):=by
 unfold PC.pj PC.kO;split<;>rfl
theorem xn(hc:c.Of t)(hl:c.Live s){I:cS}(hF:F.Perm (c.px t b s::F0)):cV P 52 #[.pointer (some ⟨b,0,none⟩)] I F (cZ c t b zO F0 (c.do s)):=by
 have hp:=dA.of (I:=I) hF
 have hn:=hl.now
 refine fG.vc ?_
 unfold fG.V
 intro b0
 refine⟨_,rfl,_,(hp.mono (cS.le_refl I) fun x hx=>.tail _ hx).rd.dp (p:=1) (q:=4) rfl,fun bd b1 I1 l1 hb1=>?_⟩
 generalize hpos:(c.tok s.next).pos=pos
 refine cZ.use (mq hc hl (words (ws:=rQ) hb1 rfl) (by decide) (eW hF)) (fun v K I2 G l2 hL hv hG=>.inl ?_) fun f e I2 G l2 hd hf=>.inr (dR (A:=[]) ?_ hf)
 rotate_left
 ·by_cases h:c.any rQ s<0
  ·have e1:c.do s=(z6,c.c5 130 s):=by unfold PC.do;rw[if_pos h]
   have e2:(c.oneOf rQ s).2=c.c5 130 s:=if_pos h
   rw[e1];rw[e2] at hd;exact hd
  ·have e2:(c.oneOf rQ s).2=s.inc:=if_neg h
   rw[xm hl (Int.not_lt.1 h)];rw[e2] at hd;exact Kp.uV _ _ _ _ hd
 obtain⟨rfl,rfl⟩:=hv
 have hge:¬c.any rQ s<0:=fun hlt=>by
  have:(c.oneOf rQ s).2=c.c5 130 s:=if_pos hlt
  rw[this] at hL
  exact (hl.c5 (e:=130) (by decide)).2.live hL
 have e2:(c.oneOf rQ s).2=s.inc:=if_neg hge
 have h6:c.any rQ s<6:=(fq (Int.not_lt.1 hge)).2
 rw[e2] at hL hG
 rw[xm hl (Int.not_lt.1 hge),hpos]
 have e3:(c.oneOf rQ s).1=c.any rQ s:=rfl
 rw[e3]
 refine⟨_,rfl,_,ec (A:=[]) hG, ?_⟩
 clear hG
 generalize hi:c.any rQ s=i at hge h6
 have hw:IntKind.wrap .u8 (1+IntKind.wrap .u8 i)=1+i:=by rw[w8 (n:=i) (by omega),w8 (by omega)]
 rw[hw]
 have hi6:i=0∨i=1∨i=2∨i=3∨i=4∨i=5:=by omega
 have just:∀(k:Int),i=k-1→k=3∨k=5→c.uV i pos s.inc=(⟨k,0,(c.name s.inc).1,fs,fs,fs,fs,pos⟩,(c.name s.inc).2):=fun k h1 h2=>by
  unfold PC.uV PC.wb
  rw[if_neg (by omega),if_neg (by omega),if_neg (by omega),if_neg (by omega),h1,show 1+(k-1)=k by omega]
 refine⟨fun h=>?_,fun h1=>⟨fun h=>?_,fun h2=>⟨fun h=>?_,fun h4=>⟨fun h=>?_,fun h6'=>?_⟩⟩⟩⟩
 ·-- sZ
  have h:i=0:=by have:1+i=1:=by simpa using h
                 omega
  subst h
  have ed:c.uV 0 pos s.inc=c.rP (c.fK s.inc).1 pos (c.fK s.inc).2:=if_pos rfl
  rw[ed]
  refine cZ.use (jU hc b s.inc I2 _ _ hL (eW (.refl _))) (fun v K I3 G l3 hL3 hv hG=>.inl ?_) fun f e I3 G l3 hd hf=>.inr (dR (A:=[]) (Kp.rP _ _ _ hd) hf)
  obtain⟨n1,rfl,hp1,hO1⟩:=hv
  generalize c.fK s.inc=r1 at hL3 hp1 hG
  refine⟨_,_,_,_,_,_,_,_,_,_,rfl,_,ec (A:=[]) hG,fun b2 I4 l4 hb2=>?_⟩
  have ex_:c.rP r1.1 pos r1.2=c.qs r1.1 (c.fK (c.take (⟨#[111,102]⟩:ByteArray) r1.2).2).1 pos (c.fK (c.take (⟨#[111,102]⟩:ByteArray) r1.2).2).2:=rfl
  rw[ex_]
  refine cZ.use (dL hc hL3 hb2 (eW (.refl _))) (fun v L I5 G l5 hL5 hv hG=>.inl ?_) fun f e I5 G l5 hd hf=>.inr (dR (Kp.qs _ _ _ _ (Kp.fK _ hd)) hf)
  obtain⟨⟨i5,rfl⟩,rfl⟩:=hv
  refine⟨_,rfl,_,ec hG, ?_⟩
  refine cZ.use (jU hc b _ I5 _ _ hL5 (eW (.refl _))) (fun v L I6 G l6 hL6 hv hG=>.inl ?_) fun f e I6 G l6 hd hf=>.inr (dR (Kp.qs _ _ _ _ hd) hf)
  obtain⟨n2,rfl,hp2,hO2⟩:=hv
  generalize c.fK (c.take (⟨#[111,102]⟩:ByteArray) r1.2).2=r2 at hL6 hp2 hG
  refine⟨_,_,_,_,_,_,_,_,_,_,rfl,_,ec hG,fun b3 I7 l7 hb3=>?_⟩
  have ey:c.qs r1.1 r2.1 pos r2.2=if c.any sY r2.2<0 then (⟨1,0,⟨#[]⟩,r1.1,r2.1,fs,fs,pos⟩,c.c5 130 r2.2)
    else if c.any sY r2.2=1 then c.rO r1.1 r2.1 pos (c.fK r2.2.inc).1 (c.fK r2.2.inc).2 else c.pj r1.1 r2.1 pos fs 2 r2.2.inc:=rfl
  refine cZ.use (mq hc hL6 (words (ws:=sY) hb3 rfl) (by decide) (eW (.refl _))) (fun v M I8 G l8 hL8 hv hG=>.inl ?_) fun f e I8 G l8 hd hf=>.inr (dR ?_ hf)
  rotate_left
  ·rw[ey]
   by_cases h:c.any sY r2.2<0
   ·rw[if_pos h];rw[show (c.oneOf sY r2.2).2=c.c5 130 r2.2 from if_pos h] at hd;exact hd
   ·rw[if_neg h];rw[show (c.oneOf sY r2.2).2=r2.2.inc from if_neg h] at hd
    split
    ·exact Kp.rO _ _ _ _ _ (Kp.fK _ hd)
    ·exact Kp.pj _ _ _ _ _ _ hd
  obtain⟨rfl,rfl⟩:=hv
  have hg2:¬c.any sY r2.2<0:=fun hlt=>by
   rw[show (c.oneOf sY r2.2).2=c.c5 130 r2.2 from if_pos hlt] at hL8
   exact (hL6.c5 (e:=130) (by decide)).2.live hL8
  rw[show (c.oneOf sY r2.2).2=r2.2.inc from if_neg hg2] at hL8 hG
  rw[ey,if_neg hg2]
  have e4:(c.oneOf sY r2.2).1=c.any sY r2.2:=rfl
  rw[e4]
  refine⟨_,rfl,_,ec hG,fun h=>?_,fun h=>?_⟩
  ·have h:c.any sY r2.2=1:=by simpa using h
   rw[if_pos h]
   refine cZ.use (jU hc b _ I8 _ _ hL8 (eW (.refl _))) (fun v M I9 G l9 hL9 hv hG=>.inl ?_) fun f e I9 G l9 hd hf=>.inr (dR (Kp.rO _ _ _ _ _ hd) hf)
   obtain⟨n3,rfl,hp3,hO3⟩:=hv
   generalize c.fK r2.2.inc=r3 at hL9 hp3 hG
   refine⟨_,_,_,_,_,_,_,_,_,_,rfl,_,ec hG,fun b4 I10 l10 hb4 b5 I11 l11 hb5=>?_⟩
   have ez:c.rO r1.1 r2.1 pos r3.1 r3.2=if c.any eV r3.2<0 then (⟨1,2,⟨#[]⟩,r1.1,r2.1,r3.1,fs,pos⟩,c.c5 130 r3.2) else c.pj r1.1 r2.1 pos r3.1 (if c.any eV r3.2=0 then 1 else 2+c.any eV r3.2) r3.2.inc:=rfl
   refine cZ.use (mq hc hL9 (words (ws:=eV) hb5 rfl) (by decide) (eW (.refl _))) (fun v N I12 G l12 hL12 hv hG=>.inl ?_) fun f e I12 G l12 hd hf=>.inr (dR ?_ hf)
   rotate_left
   ·rw[ez]
    by_cases h:c.any eV r3.2<0
    ·rw[if_pos h];rw[show (c.oneOf eV r3.2).2=c.c5 130 r3.2 from if_pos h] at hd;exact hd
    ·rw[if_neg h];rw[show (c.oneOf eV r3.2).2=r3.2.inc from if_neg h] at hd;exact Kp.pj _ _ _ _ _ _ hd
   obtain⟨rfl,rfl⟩:=hv
   have hg3:¬c.any eV r3.2<0:=fun hlt=>by
    rw[show (c.oneOf eV r3.2).2=c.c5 130 r3.2 from if_pos hlt] at hL12
    exact (hL9.c5 (e:=130) (by decide)).2.live hL12
   rw[show (c.oneOf eV r3.2).2=r3.2.inc from if_neg hg3] at hL12 hG
   rw[ez,if_neg hg3]
   have e5:(c.oneOf eV r3.2).1=c.any eV r3.2:=rfl
   rw[e5]
   have hlo:0≤c.any eV r3.2∧c.any eV r3.2<4:=⟨Int.not_lt.1 hg3,(fq (Int.not_lt.1 hg3)).2⟩
   generalize c.any eV r3.2=k at hlo
   refine⟨_,rfl,_,ec hG,hlo,_,rfl,_,uP ((cS.le_trans l11 l12).at hb4) hlo.1 hlo.2, ?_⟩
   rw[uf hL12]
   refine cV.ret (lO hL12 (dA.of (eW (.refl _))) (⟨#[97,115]⟩:ByteArray)) fun I13 l13=>⟨_,rfl,_,.refl _,fun h=>?_,fun h=>?_⟩
   ·rw[if_pos h]
    refine cZ.use (dC hc hL12 (gE hL12 h) (eW (.refl _))) (fun v N I14 G l14 hL14 hv hG=>.inl ?_) fun f e I14 G l14 hd hf=>.inr (dR hd.name hf)
    obtain⟨rfl,rfl⟩:=hv
    refine⟨rfl,_,ec hG, ?_⟩
    refine cZ.use (gx hc hL14 (eW (.refl _))) (fun v N I15 G l15 hL15 hv hG=>.inl ?_) fun f e I15 G l15 hd hf=>.inr (dR hd hf)
    obtain⟨rfl,rfl⟩:=hv
    exact⟨_,rfl,_,ec hG,.inl ⟨hL15,_,_,rfl,⟨⟨1,if k=0 then 1 else 2+k,(c.name r3.2.inc.inc).1,n1,n2,n3,jG,pos⟩,rfl,by simp only[iG.p,hp1,hp2,hp3,jt],gg.of hO1 hO2 hO3 dM⟩,cT fun z=>by simp only[cU,cX,cY];omega⟩⟩
   ·rw[if_neg (by simp[h])]
    exact .inl ⟨hL12,_,_,rfl,⟨⟨1,if k=0 then 1 else 2+k,⟨#[]⟩,n1,n2,n3,jG,pos⟩,rfl,by simp only[iG.p,hp1,hp2,hp3,jt],gg.of hO1 hO2 hO3 dM⟩,cT fun z=>by simp only[cU,cX,cY];omega⟩
  ·have h:c.any sY r2.2≠1:=by simpa using h
   rw[if_neg h,uf hL8]
   refine cV.ret (lO hL8 (dA.of (eW (.refl _))) (⟨#[97,115]⟩:ByteArray)) fun I13 l13=>⟨_,rfl,_,.refl _,fun h=>?_,fun h=>?_⟩
   ·rw[if_pos h]
    refine cZ.use (dC hc hL8 (gE hL8 h) (eW (.refl _))) (fun v N I14 G l14 hL14 hv hG=>.inl ?_) fun f e I14 G l14 hd hf=>.inr (dR hd.name hf)
    obtain⟨rfl,rfl⟩:=hv
    refine⟨rfl,_,ec hG, ?_⟩
    refine cZ.use (gx hc hL14 (eW (.refl _))) (fun v N I15 G l15 hL15 hv hG=>.inl ?_) fun f e I15 G l15 hd hf=>.inr (dR hd hf)
    obtain⟨rfl,rfl⟩:=hv
    exact⟨_,rfl,_,ec hG,.inl ⟨hL15,_,_,rfl,⟨⟨1,2,(c.name r2.2.inc.inc).1,n1,n2,jG,jG,pos⟩,rfl,by simp only[iG.p,hp1,hp2,jt],gg.of hO1 hO2 dM dM⟩,cT fun z=>by simp only[cU,cX,cY];omega⟩⟩
   ·rw[if_neg (by simp[h])]
    exact .inl ⟨hL8,_,_,rfl,⟨⟨1,2,⟨#[]⟩,n1,n2,jG,jG,pos⟩,rfl,by simp only[iG.p,hp1,hp2,jt],gg.of hO1 hO2 dM dM⟩,cT fun z=>by simp only[cU,cX,cY];omega⟩
 ·-- amend
  have h:i=1:=by have:1+i=2:=by simpa using h
                 omega
  subst h
  have ed:c.uV 1 pos s.inc=c.wF (c.name s.inc).1 pos (c.fK (c.take (⟨#[116,111]⟩:ByteArray) (c.name s.inc).2).2).1 (c.fK (c.take (⟨#[116,111]⟩:ByteArray) (c.name s.inc).2).2).2:=rfl
  rw[ed]
  refine cZ.use (gx hc hL (eW (.refl _))) (fun v K I3 G l3 hL3 hv hG=>.inl ?_) fun f e I3 G l3 hd hf=>.inr (dR (A:=[]) (Kp.wF _ _ _ _ (Kp.fK _ (hd.take _))) hf)
  obtain⟨rfl,rfl⟩:=hv
  refine⟨_,rfl,_,ec (A:=[]) hG,fun b6 I4 l4 hb6=>?_⟩
  refine cZ.use (dL hc hL3 hb6 (eW (.refl _))) (fun v L I5 G l5 hL5 hv hG=>.inl ?_) fun f e I5 G l5 hd hf=>.inr (dR (Kp.wF _ _ _ _ (Kp.fK _ hd)) hf)
  obtain⟨⟨i5,rfl⟩,rfl⟩:=hv
  refine⟨_,rfl,_,ec hG, ?_⟩
  refine cZ.use (jU hc b _ I5 _ _ hL5 (eW (.refl _))) (fun v L I6 G l6 hL6 hv hG=>.inl ?_) fun f e I6 G l6 hd hf=>.inr (dR (Kp.wF _ _ _ _ hd) hf)
  obtain⟨n2,rfl,hp2,hO2⟩:=hv
  generalize c.fK (c.take (⟨#[116,111]⟩:ByteArray) (c.name s.inc).2).2=r2 at hL6 hp2 hG
  have ea:c.wF (c.name s.inc).1 pos r2.1 r2.2=(⟨2,0,(c.name s.inc).1,fs,r2.1,(c.fK (c.take (⟨#[97,116]⟩:ByteArray) r2.2).2).1,fs,pos⟩,(c.fK (c.take (⟨#[97,116]⟩:ByteArray) r2.2).2).2):=rfl
  rw[ea]
  refine⟨_,_,_,_,_,_,_,_,_,_,rfl,_,ec hG,fun b7 I7 l7 hb7=>?_⟩
  refine cZ.use (dL hc hL6 hb7 (eW (.refl _))) (fun v L I8 G l8 hL8 hv hG=>.inl ?_) fun f e I8 G l8 hd hf=>.inr (dR (Kp.fK _ hd) hf)
  obtain⟨⟨i8,rfl⟩,rfl⟩:=hv
  refine⟨_,rfl,_,ec hG, ?_⟩
  refine cZ.use (jU hc b _ I8 _ _ hL8 (eW (.refl _))) (fun v L I9 G l9 hL9 hv hG=>.inl ?_) fun f e I9 G l9 hd hf=>.inr (dR hd hf)
  obtain⟨n3,rfl,hp3,hO3⟩:=hv
  exact⟨_,_,_,_,_,_,_,_,_,_,rfl,_,ec hG,.inl ⟨hL9,_,_,rfl,⟨⟨2,0,(c.name s.inc).1,jG,n2,n3,jG,pos⟩,rfl,by simp only[iG.p,hp2,hp3,jt],gg.of dM hO2 hO3 dM⟩,cT fun z=>by simp only[cU,cX,cY];omega⟩⟩
 ·-- set
  have h:i=3:=by have:1+i=4:=by simpa using h
                 omega
  subst h
  have ed:c.uV 3 pos s.inc=(⟨4,0,(c.name s.inc).1,fs,fs,fs,(c.fK (c.take (⟨#[61]⟩:ByteArray) (c.name s.inc).2).2).1,pos⟩,(c.fK (c.take (⟨#[61]⟩:ByteArray) (c.name s.inc).2).2).2):=rfl
  rw[ed]
  refine cZ.use (gx hc hL (eW (.refl _))) (fun v K I3 G l3 hL3 hv hG=>.inl ?_) fun f e I3 G l3 hd hf=>.inr (dR (A:=[]) (Kp.fK _ (hd.take _)) hf)
  obtain⟨rfl,rfl⟩:=hv
  refine⟨_,rfl,_,ec (A:=[]) hG,fun b6 I4 l4 hb6=>?_⟩
  refine cZ.use (dL hc hL3 hb6 (eW (.refl _))) (fun v L I5 G l5 hL5 hv hG=>.inl ?_) fun f e I5 G l5 hd hf=>.inr (dR (Kp.fK _ hd) hf)
  obtain⟨⟨i5,rfl⟩,rfl⟩:=hv
  refine⟨_,rfl,_,ec hG, ?_⟩
  refine cZ.use (jU hc b _ I5 _ _ hL5 (eW (.refl _))) (fun v L I6 G l6 hL6 hv hG=>.inl ?_) fun f e I6 G l6 hd hf=>.inr (dR hd hf)
  obtain⟨n2,rfl,hp2,hO2⟩:=hv
  exact⟨_,_,_,_,_,_,_,_,_,_,rfl,_,ec hG,.inl ⟨hL6,_,_,rfl,⟨⟨4,0,(c.name s.inc).1,jG,jG,jG,n2,pos⟩,rfl,by simp only[iG.p,hp2,jt],gg.of dM dM dM hO2⟩,cT fun z=>by simp only[cU,cX,cY];omega⟩⟩
 ·-- halt
  have h:i=5:=by have:1+i=6:=by simpa using h
                 omega
  subst h
  have ed:c.uV 5 pos s.inc=(⟨6,0,⟨#[]⟩,fs,fs,fs,fs,pos⟩,s.inc):=rfl
  rw[ed]
  exact .inl ⟨hL,_,_,rfl,⟨⟨6,0,⟨#[]⟩,jG,jG,jG,jG,pos⟩,rfl,by simp only[iG.p,jt],gg.of dM dM dM dM⟩,.refl _⟩
 ·have h1:1+i≠1:=by simpa using h1
  have h2:1+i≠2:=by simpa using h2
  have h4:1+i≠4:=by simpa using h4
  have h6':1+i≠6:=by simpa using h6'
  rw[just (1+i) (by omega) (by omega)]
  refine cZ.use (gx hc hL (eW (.refl _))) (fun v K I3 G l3 hL3 hv hG=>.inl ?_) fun f e I3 G l3 hd hf=>.inr (dR (A:=[]) hd hf)
  obtain⟨rfl,rfl⟩:=hv
  exact⟨_,rfl,_,ec (A:=[]) hG,.inl ⟨hL3,_,_,rfl,⟨⟨1+i,0,(c.name s.inc).1,jG,jG,jG,jG,pos⟩,rfl,by simp only[iG.p,jt],gg.of dM dM dM dM⟩,.refl _⟩⟩
end
end Go.Lx
namespace Go.Lx
open Go.Vc
theorem zP(d:iG):∀u∈d.enc,u.oneCell'=true:=fun u hu=>by
 simp only[iG.enc,List.mem_cons,List.not_mem_nil,or_false] at hu
 rcases hu with rfl | rfl | rfl | rfl | rfl | rfl | rfl | rfl | rfl | rfl | rfl | rfl | rfl | rfl | rfl | rfl | rfl | rfl | rfl | rfl | rfl | rfl | rfl | rfl | rfl | rfl | rfl | rfl | rfl | rfl | rfl | rfl | rfl | rfl | rfl | rfl<;>rfl
theorem zQ(d:fC):∀u∈d.enc,u.oneCell'=true:=fun u hu=>by
 simp only[fC.enc,List.mem_cons,List.not_mem_nil,or_false] at hu
 rcases hu with rfl | rfl | rfl | rfl | rfl | rfl | rfl | rfl | rfl | rfl | rfl<;>rfl
theorem zR(d:dY):∀u∈d.enc,u.oneCell'=true:=fun u hu=>by
 simp only[dY.enc,List.mem_cons,List.not_mem_nil,or_false] at hu
 rcases hu with rfl | rfl<;>rfl
theorem zS(d:dQ):∀u∈d.enc,u.oneCell'=true:=fun u hu=>by
 simp only[dQ.enc,List.mem_cons,List.not_mem_nil,or_false] at hu
 rcases hu with rfl | rfl | rfl | rfl | rfl | rfl | rfl | rfl | rfl | rfl<;>rfl
theorem zT(d:dn):∀u∈d.enc,u.oneCell'=true:=fun u hu=>by
 simp only[dn.enc,List.mem_cons,List.not_mem_nil,or_false] at hu
 rcases hu with rfl | rfl | rfl<;>rfl
section
variable {F F1 F2 R0 Hx:cR} {a:Option Addr} {n k:Nat} {b:Nat} {I:cS}
theorem xo{l:List iG}{x:iG}{O:iG→cR→Prop}(h:Part 36 iG.enc 140 O a n k l F F1)(hb:I b=some (.cells x.enc.toArray 140 (0,0)))(hx:O x Hx)(hF2:F2.Perm (R0++(Hx++F1)))(hl:l.length≤1000000) :
  dW P (Builtin.append_ #[126,126] 126 #[.slice a n k,.slice (some ⟨b,0,none⟩) 1 1]) I F2 fun v I' G=>∃a' n' c',v=.slice a' n' c'∧∃F3,G.Perm (R0++F3)∧Part 36 iG.enc 140 O a' n' c' (l++[x]) F F3 :=
 gY (f:=iG.enc) (fun _=>rfl) (zv:=(⟨0,0,⟨#[]⟩,jG,jG,jG,jG,0⟩:iG).v) (by':=320) (by kernel_rfl) (by kernel_rfl) rfl (by decide) h (zP x) rfl hb hx hF2 (by omega)
theorem yX{l:List fC}{x:fC}{O:fC→cR→Prop}(h:Part 11 fC.enc 92 O a n k l F F1)(hb:I b=some (.cells x.enc.toArray 92 (0,0)))(hx:O x Hx)(hF2:F2.Perm (R0++(Hx++F1)))(hl:l.length≤1000000) :
  dW P (Builtin.append_ #[44,44] 44 #[.slice a n k,.slice (some ⟨b,0,none⟩) 1 1]) I F2 fun v I' G=>∃a' n' c',v=.slice a' n' c'∧∃F3,G.Perm (R0++F3)∧Part 11 fC.enc 92 O a' n' c' (l++[x]) F F3 :=
 gY (f:=fC.enc) (fun _=>rfl) (zv:=(⟨⟨#[]⟩,0,jG,0⟩:fC).v) (by':=104) (by kernel_rfl) (by kernel_rfl) rfl (by decide) h (zQ x) rfl hb hx hF2 (by omega)
theorem yY{l:List dY}{x:dY}{O:dY→cR→Prop}(h:Part 2 dY.enc 97 O a n k l F F1)(hb:I b=some (.cells x.enc.toArray 97 (0,0)))(hx:O x Hx)(hF2:F2.Perm (R0++(Hx++F1)))(hl:l.length≤1000000) :
  dW P (Builtin.append_ #[45,45] 45 #[.slice a n k,.slice (some ⟨b,0,none⟩) 1 1]) I F2 fun v I' G=>∃a' n' c',v=.slice a' n' c'∧∃F3,G.Perm (R0++F3)∧Part 2 dY.enc 97 O a' n' c' (l++[x]) F F3 :=
 gY (f:=dY.enc) (fun _=>rfl) (zv:=(⟨⟨#[]⟩,0⟩:dY).v) (by':=24) (by kernel_rfl) (by kernel_rfl) rfl (by decide) h (zR x) rfl hb hx hF2 (by omega)
theorem yZ{l:List dQ}{x:dQ}{O:dQ→cR→Prop}(h:Part 10 dQ.enc 128 O a n k l F F1)(hb:I b=some (.cells x.enc.toArray 128 (0,0)))(hx:O x Hx)(hF2:F2.Perm (R0++(Hx++F1)))(hl:l.length≤1000000) :
  dW P (Builtin.append_ #[51,51] 51 #[.slice a n k,.slice (some ⟨b,0,none⟩) 1 1]) I F2 fun v I' G=>∃a' n' c',v=.slice a' n' c'∧∃F3,G.Perm (R0++F3)∧Part 10 dQ.enc 128 O a' n' c' (l++[x]) F F3 :=
 gY (f:=dQ.enc) (fun _=>rfl) (zv:=(⟨jG,none,0,[],0⟩:dQ).v) (by':=104) (by kernel_rfl) (by kernel_rfl) rfl (by decide) h (zS x) rfl hb hx hF2 (by omega)
theorem za{l:List dn}{x:dn}{O:dn→cR→Prop}(h:Part 3 dn.enc 53 O a n k l F F1)(hb:I b=some (.cells x.enc.toArray 53 (0,0)))(hx:O x Hx)(hF2:F2.Perm (R0++(Hx++F1)))(hl:l.length≤1000000) :
  dW P (Builtin.append_ #[46,46] 46 #[.slice a n k,.slice (some ⟨b,0,none⟩) 1 1]) I F2 fun v I' G=>∃a' n' c',v=.slice a' n' c'∧∃F3,G.Perm (R0++F3)∧Part 3 dn.enc 53 O a' n' c' (l++[x]) F F3 :=
 gY (f:=dn.enc) (fun _=>rfl) (zv:=(⟨⟨#[]⟩,none,0,[],0⟩:dn).v) (by':=48) (by kernel_rfl) (by kernel_rfl) rfl (by decide) h (zT x) rfl hb hx hF2 (by omega)
end
def eX(c:PC)(res:List k9×PS)(ds:List k9)(s:PS):Prop :=
 res=if c.eM (⟨#[44]⟩:ByteArray) s then (if (c.many ds.length 8 s).over then (ds,c.many ds.length 8 s) else c.ki (8-ds.length) ds (c.many ds.length 8 s).inc) else (ds,s)
section
variable {c:PC} {t:ByteArray} {s:PS} {b:Nat} {F F0:cR} {res:List k9×PS} {ds:List k9}
theorem eX.start(s:PS):eX c (c.ki 8 [] s) [(c.do s).1] (c.do s).2:=by
 unfold eX;rw[PC.ki];rfl
theorem ug{n m:Nat}(h:n<m):c.many n m s=s:=by unfold PC.many;rw[if_neg (by omega)]
theorem mv{n:Nat}(hl:c.Live s):(c.many n n s).over=true∧c.dw ⟨131,(c.tok s.next).pos,false⟩ (c.many n n s):=by
 unfold PC.many;rw[if_pos (Nat.le_refl _)]
 have:=hl.c5 (e:=131) (by decide)
 exact⟨by rw[this.1];rfl,this.2⟩
theorem eX.stop(h:eX c res ds s)(hw:c.eM (⟨#[44]⟩:ByteArray) s=false):res=(ds,s):=by
 unfold eX at h;rw[hw] at h;exact h
theorem eX.full(h:eX c res ds s)(hl:c.Live s)(hw:c.eM (⟨#[44]⟩:ByteArray) s=true)(hd:ds.length=8):c.dw ⟨131,(c.tok s.next).pos,false⟩ res.2:=by
 unfold eX at h
 rw[if_pos hw,hd,(mv hl).1,if_pos rfl] at h
 rw[h];exact (mv hl).2
theorem eX.next(h:eX c res ds s)(hl:c.Live s)(hw:c.eM (⟨#[44]⟩:ByteArray) s=true)(hd:ds.length<8):res=c.ki (8-ds.length) ds s.inc∧eX c res (ds++[(c.do s.inc).1]) (c.do s.inc).2:=by
 unfold eX at h ⊢
 rw[if_pos hw,ug hd,hl.1,if_neg (by simp)] at h
 refine⟨h, ?_⟩
 obtain⟨m,hm⟩:∃m,8-ds.length=m+1:=⟨8-ds.length-1,by omega⟩
 rw[hm,PC.ki] at h
 rw[h,List.length_append,List.length_singleton,show 8-(ds.length+1)=m by omega]
theorem eX.dead(h:eX c res ds s){f:PF}(hd:c.dw f s):c.dw f res.2:=by
 rw[h.stop (hd.eM _)];exact hd
def zU(x:ix)(v:Value)(H:cR):Prop:=∃r:dQ,v=r.v∧r.p=x∧ju false r H
theorem wY(hc:c.Of t)(hl:c.Live s)(hw:c.eM (⟨#[119,104,101,110]⟩:ByteArray) s=true){I:cS}(hF:F.Perm (c.px t b s::F0)) :
  cV P 47 #[.pointer (some ⟨b,0,none⟩)] I F (cZ c t b zU F0 (c.js s)):=by
 have hp:=dA.of (I:=I) hF
 have er0:c.js s=c.jQ (c.fK s.inc).1 (c.tok s.next).pos (c.take (⟨#[100,111]⟩:ByteArray) (c.fK s.inc).2).2:=by unfold PC.js;rw[lP hl hw]
 generalize hpos:(c.tok s.next).pos=pos at er0
 rw[er0]
 refine fh.vc (fun k0 k1 k2 k3 k4 k5 ka kn kk k7 a n k ps m I' F'=>ps=pos∧∃(w:Nd) (K:cR) (dsN:List iG) (si:PS),k0=w.kind∧k1=w.oper∧k2=w.gX∧k3=w.n∧k4=w.field∧k5=w.name∧ka=w.a∧kn=w.kids.length∧kk=w.c∧k7=w.pos∧w.px=(c.fK s.inc).1∧dI 29 false w K∧c.Live si∧m=8-dsN.length∧0<dsN.length∧dsN.length≤8 ∧
  eX c (c.ki 8 [] (c.take (⟨#[100,111]⟩:ByteArray) (c.fK s.inc).2).2) (dsN.map iG.p) si∧Part 36 iG.enc 140 (gg false) a n k dsN (c.px t b si::(K++F0)) F') ?_
 unfold fh.V
 intro b0
 refine⟨_,rfl,_,(hp.mono (cS.le_refl I) fun x hx=>.tail _ hx).rd.dp (p:=1) (q:=4) rfl,fun br=>?_⟩
 rw[hpos]
 refine cZ.use (dC hc hl (gE hl hw) (eW hF)) (fun v K I1 G l1 hL hv hG=>.inl ?_) fun f e I1 G l1 hd hf=>.inr (dR (A:=[]) (Kp.jQ _ _ _ ((Kp.fK _ hd).take _)) hf)
 obtain⟨rfl,rfl⟩:=hv
 refine⟨rfl,_,ec (A:=[]) hG, ?_⟩
 refine cZ.use (jU hc b s.inc I1 _ _ hL (eW (.refl _))) (fun v K I2 G l2 hL2 hv hG=>.inl ?_) fun f e I2 G l2 hd hf=>.inr (dR (A:=[]) (Kp.jQ _ _ _ (hd.take _)) hf)
 obtain⟨w,rfl,hpw,hOw⟩:=hv
 refine⟨_,_,_,_,_,_,_,_,_,_,rfl,_,ec (A:=[]) hG,fun b1 I3 l3 hb1=>?_⟩
 refine cZ.use (dL hc hL2 hb1 (eW (.refl _))) (fun v L I4 G l4 hL4 hv hG=>.inl ?_) fun f e I4 G l4 hd hf=>.inr (dR (Kp.jQ _ _ _ hd) hf)
 obtain⟨⟨i4,rfl⟩,rfl⟩:=hv
 generalize hs4:(c.take (⟨#[100,111]⟩:ByteArray) (c.fK s.inc).2).2=s4 at hL4 hG
 have rel0:=eX.start (c:=c) s4
 have fin:∀{f:PF} {q:List k9×PS},q=c.ki 8 [] s4→c.dw f q.2→c.dw f (c.jQ (c.fK s.inc).1 pos s4).2:=fun e h=>by
  subst e;exact h.take _
 refine⟨_,rfl,_,ec hG, ?_⟩
 refine cZ.use (xn hc hL4 (eW (.refl _))) (fun v L I5 G l5 hL5 hv hG=>.inl ?_) fun f e I5 G l5 hd hf=>.inr (dR (fin rfl (rel0.dead hd)) hf)
 obtain⟨d0,rfl,hpd,hOd⟩:=hv
 have hnil:Part 36 iG.enc 140 (gg false) none 0 0 [] (c.px t b (c.do s4).2::(K++F0)) (c.px t b (c.do s4).2::(K++F0)):=Part.nil
 refine⟨_,_,_,_,_,_,_,_,_,_,_,_,_,_,_,_,_,_,_,_,_,_,_,_,_,_,_,_,_,_,_,_,_,_,_,_,_,_,_,_,_,_,_,_,rfl,L++(c.px t b (c.do s4).2::(K++F0)),hG.trans (cT fun z=>by simp only[cU,cX,cY];omega),fun b2 I6 l6 hb2=>?_⟩
 refine dW.mono (xo (R0:=[_,_]) (Hx:=L) hnil hb2 hOd (.refl _) (by decide)) fun v I7 G l7 ⟨ra,rn,rk,hv,F3,hG3,hP⟩=>?_
 refine⟨ra,rn,rk,hv,F3,hG3,⟨_,rfl,w,K,[d0],(c.do s4).2,rfl,rfl,rfl,rfl,rfl,rfl,rfl,rfl,rfl,rfl,hpw,hOw,hL5,rfl,by simp,by simp, ?_,hP⟩, ?_⟩
 ·rw[List.map_singleton,hpd];exact rel0
 intro k0 k1 k2 k3 k4 k5 ka kn kk k7 a n k ps m I8 F6 l8 ⟨gp,w,K,dsN,si,e0,e1,e2,e3,e4,e5,ea,en,ek,e7,hpw,hOw,hLi,gm,hpos1,hle,hR,hPt⟩
 subst gp e0 e1 e2 e3 e4 e5 ea en ek e7 gm
 obtain⟨A,hs,hA,hO,hFp⟩:=hPt
 have hnl:=hA.1
 have frame:F6.Perm (c.px t b si::((A++(dy dsN.length hs++K))++F0)):=hFp.trans (cT fun z=>by simp only[cU,cX,cY];omega)
 refine cV.ret (lO hLi (dA.of (eW frame)) (⟨#[44]⟩:ByteArray)) fun I9 l9=>⟨_,rfl,F6,.refl _,fun hw=>?_,fun hw=>?_⟩
 ·-- one more
  have key:∀(X Y:Nat×Obj) (I:cS) (F':cR) (Q':Ending→cS→cR→Prop),dsN.length<8→F'.Perm (c.px t b si.inc::((A++(dy dsN.length hs++K))++F0))→c.Live si.inc →
    (∀(d:iG) (I8:cS) (G F7:cR),G.Perm (X::Y::F7)→(∀(b3:Nat) (I9:cS),cS.le I8 I9→I9 b3=some (.cells d.enc.toArray 140 (0,0))→dW P (Builtin.append_ #[126,126] 126 #[.slice a n k,.slice (some ⟨b3,0,none⟩) 1 1]) I9 (X::Y::F7) fun v I10 G6=>∃(ra:Option Addr) (rn rc:Nat),v=.slice ra rn rc∧∃F8:cR,G6.Perm (X::Y::F8) ∧
     eX c (c.ki 8 [] s4) ((dsN++[d]).map iG.p) (c.do si.inc).2∧c.Live (c.do si.inc).2∧Part 36 iG.enc 140 (gg false) ra rn rc (dsN++[d]) (c.px t b (c.do si.inc).2::(K++F0)) F8)→Q' (.returned d.v) I8 G) →
    (∀(f:PF) (e:Ending) (I8:cS) (G:cR),c.dw f (c.jQ (c.fK s.inc).1 ps s4).2→c7 f (X::Y::((A++(dy dsN.length hs++K))++F0)) e G→Q' e I8 G) →
    cV P 52 #[.pointer (some ⟨b,0,none⟩)] I (X::Y::F') Q':=by
   intro X Y I F' Q' hlt hF' hLs k1 k2
   have hR2:=hR.next hLi hw (by rw[List.length_map];exact hlt)
   refine cZ.use (xn hc hLs (eW hF')) (fun v L I5 G l5 hL5 hv hG=>?_) fun f e I5 G l5 hd hf=>k2 f e I5 G (fin rfl (hR2.2.dead hd)) hf
   obtain⟨d,rfl,hpd,hOd⟩:=hv
   refine k1 d I5 G (L++(A++(dy dsN.length hs++(c.px t b (c.do si.inc).2::(K++F0))))) (hG.trans (cT fun z=>by simp only[cU,cX,cY];omega)) fun b3 I9 l9 hb3=>?_
   refine dW.mono (xo (R0:=[X,Y]) (Hx:=L) (F:=c.px t b (c.do si.inc).2::(K++F0)) ⟨A,hs,hA,hO,.refl _⟩ hb3 hOd (.refl _) (by omega)) fun v I7 G l7 ⟨ra,rn,rk,hv,F3,hG3,hP⟩=>⟨ra,rn,rk,hv,F3,hG3, ?_,hL5,hP⟩
   rw[List.map_append,List.map_singleton,hpd];exact hR2.2
  refine⟨fun h8=>?_,fun h8=>?_⟩
  ·have h8:dsN.length=8:=by have:(n:Int)=8:=by simpa using h8
                            omega
   refine (ej (dA.of (eW frame)) 131).mono fun e I10 G l10 hf=>.inr ?_
   have hd:=hR.full hLi hw (by rw[List.length_map];exact h8)
   exact dR (fin rfl hd) (hf.tail (eW frame))
  ·have h8:dsN.length<8:=by have:¬(n:Int)=8:=by simpa using h8
                            omega
   have hR2:=hR.next hLi hw (by rw[List.length_map];exact h8)
   refine cZ.use (dC hc hLi (gE hLi hw) (eW frame)) (fun v L I10 G l10 hL10 hv hG=>.inl ?_) fun f e I10 G l10 hd hf=>.inr (dR (fin hR2.1.symm (Kp.ki _ _ _ hd)) hf)
   obtain⟨rfl,rfl⟩:=hv
   refine⟨rfl,_,ec hG,key _ _ _ _ _ h8 (.refl _) hL10 (fun d I11 G F7 hG7 kA=>.inl ⟨_,_,_,_,_,_,_,_,_,_,_,_,_,_,_,_,_,_,_,_,_,_,_,_,_,_,_,_,_,_,_,_,_,_,_,_,_,_,_,_,_,_,_,_,rfl,F7,hG7,fun b3 I12 l12 hb3=>?_⟩) fun f e I11 G hd hf=>.inr (dR hd hf)⟩
   refine dW.mono (kA b3 I12 l12 hb3) fun v I13 G l13 ⟨ra,rn,rk,hv,F8,hG8,r1,r2,r3⟩=>⟨ra,rn,rk,hv,F8,hG8,8-(dsN.length+1),by omega,rfl,w,K,dsN++[d],_,rfl,rfl,rfl,rfl,rfl,rfl,rfl,rfl,rfl,rfl,hpw,hOw,r2,by rw[List.length_append,List.length_singleton],by rw[List.length_append,List.length_singleton];omega,by rw[List.length_append,List.length_singleton];omega,r1,r3⟩
 ·have hres:=hR.stop hw
  have er:c.jQ (c.fK s.inc).1 ps s4=(⟨(c.fK s.inc).1,dsN.map iG.p,ps⟩,(c.take (⟨#[59]⟩:ByteArray) si).2):=by unfold PC.jQ;rw[hres]
  rw[er]
  intro b5 I10 l10 hb5
  refine cZ.use (dL hc hLi hb5 (eW frame)) (fun v L I11 G l11 hL11 hv hG=>.inl ?_) fun f e I11 G l11 hd hf=>.inr (dR hd hf)
  obtain⟨⟨i11,rfl⟩,rfl⟩:=hv
  subst hnl
  refine⟨_,rfl,_,ec hG,.inl ⟨hL11,_,K++(A++dy dsN.length hs),rfl,⟨⟨w,a,k,dsN,ps⟩,rfl, ?_,K,A++dy dsN.length hs,rfl,hOw,A,hs,rfl,hA,fun h=>(by cases h),hO⟩,cT fun z=>by simp only[cU,cX,cY];omega⟩⟩
  simp only[dQ.p,hpw]
end
end Go.Lx
namespace Go.Lx
open Go.Vc
section
variable {c:PC} {t:ByteArray} {s:PS} {b:Nat} {F F0:cR}
def zV(x:gB)(v:Value)(H:cR):Prop:=∃r:fC,v=r.v∧r.p=x∧kS false r H
theorem vT(hc:c.Of t)(hl:c.Live s){f:PF}(hd:c.dw f (c.literal s).2):(c.literal s).1.2=true:=by
 cases h2:(c.literal s).1.2 with
 | true=>rfl
 | false=>rw[ke hc hl h2] at hd;exact (hd.live hl).elim
theorem yg(hc:c.Of t)(hl:c.Live s)(hw:c.eM (⟨#[114,101,103]⟩:ByteArray) s=true){I:cS}(hF:F.Perm (c.px t b s::F0)) :
  cV P 31 #[.pointer (some ⟨b,0,none⟩)] I F (cZ c t b zV F0 (c.qq s)):=by
 have hp:=dA.of (I:=I) hF
 have er0:c.qq s=c.rN (c.name s.inc).1 (c.tok s.next).pos (c.name s.inc).2:=by unfold PC.qq;rw[lP hl hw]
 generalize hpos:(c.tok s.next).pos=pos at er0
 rw[er0]
 refine fw.vc ?_
 unfold fw.V
 intro b0
 refine⟨_,rfl,_,(hp.mono (cS.le_refl I) fun x hx=>.tail _ hx).rd.dp (p:=1) (q:=4) rfl,fun br=>?_⟩
 rw[hpos]
 refine cZ.use (dC hc hl (gE hl hw) (eW hF)) (fun v K I1 G l1 hL hv hG=>.inl ?_) fun f e I1 G l1 hd hf=>.inr (dR (A:=[]) (Kp.rN _ _ _ hd.name) hf)
 obtain⟨rfl,rfl⟩:=hv
 refine⟨rfl,_,ec (A:=[]) hG, ?_⟩
 refine cZ.use (gx hc hL (eW (.refl _))) (fun v K I2 G l2 hL2 hv hG=>.inl ?_) fun f e I2 G l2 hd hf=>.inr (dR (A:=[]) (Kp.rN _ _ _ hd) hf)
 obtain⟨rfl,rfl⟩:=hv
 generalize (c.name s.inc).1=nm at hG
 generalize (c.name s.inc).2=s2 at hL2 hG
 refine⟨_,rfl,_,ec (A:=[]) hG,fun b1 I3 l3 hb1=>?_⟩
 have en:c.rN nm pos s2=if c.any gf s2<0 then (⟨nm,0,fs,pos⟩,c.c5 130 s2) else c.qp nm (1+c.any gf s2) pos (c.take (⟨#[61]⟩:ByteArray) s2.inc).2:=rfl
 refine cZ.use (mq hc hL2 (words (ws:=gf) hb1 rfl) (by decide) (eW (.refl _))) (fun v M I4 G l4 hL4 hv hG=>.inl ?_) fun f e I4 G l4 hd hf=>.inr (dR (A:=[]) ?_ hf)
 rotate_left
 ·rw[en]
  by_cases h:c.any gf s2<0
  ·rw[if_pos h];rw[show (c.oneOf gf s2).2=c.c5 130 s2 from if_pos h] at hd;exact hd
  ·rw[if_neg h];rw[show (c.oneOf gf s2).2=s2.inc from if_neg h] at hd;exact Kp.qp _ _ _ _ (hd.take _)
 obtain⟨rfl,rfl⟩:=hv
 have hg2:¬c.any gf s2<0:=fun hlt=>by
  rw[show (c.oneOf gf s2).2=c.c5 130 s2 from if_pos hlt] at hL4
  exact (hL2.c5 (e:=130) (by decide)).2.live hL4
 have h6:c.any gf s2<6:=(fq (Int.not_lt.1 hg2)).2
 rw[show (c.oneOf gf s2).2=s2.inc from if_neg hg2] at hL4 hG
 rw[if_neg hg2] at en
 rw[en]
 have e4:(c.oneOf gf s2).1=c.any gf s2:=rfl
 rw[e4]
 refine⟨_,rfl,_,ec (A:=[]) hG,fun b2 I5 l5 hb2=>?_⟩
 have hwr:IntKind.wrap .u8 (1+IntKind.wrap .u8 (c.any gf s2))=1+c.any gf s2:=by rw[w8 (n:=c.any gf s2) (by omega),w8 (by omega)]
 rw[hwr]
 generalize 1+c.any gf s2=ty
 refine cZ.use (dL hc hL4 hb2 (eW (.refl _))) (fun v L I6 G l6 hL6 hv hG=>.inl ?_) fun f e I6 G l6 hd hf=>.inr (dR (A:=[]) (Kp.qp _ _ _ _ hd) hf)
 obtain⟨⟨i6,rfl⟩,rfl⟩:=hv
 generalize (c.take (⟨#[61]⟩:ByteArray) s2.inc).2=s3 at hL6 hG
 have et:c.qp nm ty pos s3=c.mm nm ty pos (c.tok s3.next).pos (c.eM (⟨#[45]⟩:ByteArray) s3) (if c.eM (⟨#[45]⟩:ByteArray) s3 then s3.inc else s3):=by unfold PC.qp;rw[hL6.now]
 rw[et]
 refine⟨_,rfl,_,ec (A:=[]) hG,b,wS t (c.tok s3.next) (gh (c.tok s3.next)),F0,.refl _,_,rfl,_,dA.held.rd.dp (p:=1) (q:=4) rfl, ?_⟩
 refine cV.ret (lO hL6 dA.held (⟨#[45]⟩:ByteArray)) fun I7 l7=>⟨_,rfl,_,.refl _,fun hm=>?_,fun hm=>?_⟩
 ·-- a sign stands there
  rw[hm,if_pos rfl]
  refine cZ.use (dC hc hL6 (gE hL6 hm) (F:=_::_::(c.px t b s3::F0)) (eW (.refl _))) (fun v L I8 G l8 hL8 hv hG=>.inl ?_) fun f e I8 G l8 hd hf=>.inr (dR (A:=[]) (Kp.mm _ _ _ _ _ _ hd) hf)
  obtain⟨rfl,rfl⟩:=hv
  refine⟨rfl,_,ec (A:=[]) hG,_,rfl,_,(dA.of (I:=I8) (eW (.refl _))).rd.dp (p:=1) (q:=0) rfl,fun h3=>?_,fun h3=>?_⟩
  ·have h3:(c.tok s3.inc.next).kind≠3:=by simpa using h3
   have el:c.mm nm ty pos (c.tok s3.next).pos true s3.inc=(⟨nm,ty,fs,pos⟩,c.c5 130 s3.inc):=by unfold PC.mm;rw[hL8.now,if_pos ⟨rfl,h3⟩]
   rw[el]
   refine (ej (dA.of (eW (.refl _))) 130).mono fun e I9 G l9 hf=>.inr ?_
   exact dR (A:=[]) (hL8.c5 (by decide)).2 (hf.tail (eW (.refl _)))
  ·have h3:(c.tok s3.inc.next).kind=3:=by simpa using h3
   have ell:=qB hL8 h3
   have el:c.mm nm ty pos (c.tok s3.next).pos true s3.inc=c.qo nm ty pos (c.tok s3.next).pos true (c.literal s3.inc).1.1 (c.literal s3.inc).2:=by
    unfold PC.mm;rw[hL8.now,if_neg (fun h=>h.2 h3),ell,if_pos rfl]
   rw[el]
   refine cZ.use (kW hc hL8 (eW (.refl _))) (fun v L I9 G l9 hL9 hv hG=>.inl ?_) fun f e I9 G l9 hd hf=>.inr (dR (A:=[]) (Kp.qo _ _ _ _ _ _ _ hd) hf)
   obtain⟨n,rfl,hpn,hOn,rfl⟩:=hv
   have htr:(c.literal s3.inc).1.2=true:=by rw[ell]
   refine⟨_,_,_,_,_,_,_,_,_,_,_,rfl,_,ec (A:=[]) hG,fun bn=>⟨fun h=>?_,fun _=>⟨fun _=>fun b3 b4 I10 l10 hb4=>?_,fun h=>absurd h (by decide)⟩⟩⟩
   ·rw[htr] at h;exact absurd h (by decide)
   ·refine cZ.use (dL hc hL9 hb4 (F0:=_::_::_::([(b3,Obj.cells n.enc.toArray 29 (0,0))]++F0)) ((List.Perm.cons _ (List.Perm.cons _ (List.Perm.cons _ (List.Perm.swap _ _ _)))).trans (qz (.refl _)))) (fun v L I11 G l11 hL11 hv hG=>.inl ?_) fun f e I11 G l11 hd hf=>.inr (yf hd hf)
    obtain⟨⟨i11,rfl⟩,rfl⟩:=hv
    refine⟨_,rfl,_,yW hG,.inl ⟨hL11,_,(b3,Obj.cells n.enc.toArray 29 (0,0))::([]++[]),rfl,⟨⟨nm,ty,.mk 5 1 0 0 0 ⟨#[]⟩ (some ⟨b3,0,none⟩) 1 [n] (c.tok s3.next).pos,pos⟩,rfl, ?_,dI.z8 hOn⟩,.refl _⟩⟩
    show gB.mk _ _ _ _=gB.mk _ _ _ _
    simp only[Nd.px,Nd.rD,hpn];rfl
 ·rw[hm,if_neg (by simp)]
  have el:c.mm nm ty pos (c.tok s3.next).pos false s3=c.qo nm ty pos (c.tok s3.next).pos false (c.literal s3).1.1 (if (c.literal s3).1.2 then (c.literal s3).2 else c.c5 130 (c.literal s3).2):=by
   unfold PC.mm;rw[if_neg (fun h=>by cases h.1)]
  rw[el]
  refine cZ.use (kW hc hL6 (F:=_::_::(c.px t b s3::F0)) (eW (.refl _))) (fun v L I9 G l9 hL9 hv hG=>.inl ?_) fun f e I9 G l9 hd hf=>.inr (dR (A:=[]) (Kp.qo _ _ _ _ _ _ _ ?_) hf)
  rotate_left
  ·rw[vT hc hL6 hd,if_pos rfl];exact hd
  obtain⟨n,rfl,hpn,hOn,rfl⟩:=hv
  refine⟨_,_,_,_,_,_,_,_,_,_,_,rfl,_,ec (A:=[]) hG,fun bn=>⟨fun h=>?_,fun h=>⟨fun h=>absurd h (by decide),fun _=>fun b4 I10 l10 hb4=>?_⟩⟩⟩
  ·have h:(c.literal s3).1.2=false:=by simpa using h
   have hs:c.literal s3=((fs,false),s3):=ke hc hL6 h
   rw[h,if_neg (by simp),hs]
   refine (ej (k:=c.tok s3.next) (f:=gh (c.tok s3.next)) (t:=t) (dA.of (qz (.refl _))) 130).mono fun e I11 G l11 hf=>.inr ?_
   exact yf (A:=[]) (Kp.qo _ _ _ _ _ _ _ (hL6.c5 (by decide)).2) (hf.tail (qz (.refl _)))
  ·have h:(c.literal s3).1.2=true:=by simpa using h
   rw[h,if_pos rfl]
   refine cZ.use (dL hc hL9 hb4 (qz (.refl _))) (fun v L I11 G l11 hL11 hv hG=>.inl ?_) fun f e I11 G l11 hd hf=>.inr (yf (A:=[]) hd hf)
   obtain⟨⟨i11,rfl⟩,rfl⟩:=hv
   refine⟨_,rfl,_,yW (A:=[]) hG,.inl ⟨hL11,_,[],rfl,⟨⟨nm,ty,n,pos⟩,rfl, ?_,hOn⟩,.refl _⟩⟩
   show gB.mk _ _ _ _=gB.mk _ _ _ _
   rw[hpn];rfl
end
end Go.Lx
namespace Go.Lx
open Go.Vc
theorem gj.ym{P:Program}{f:FuncId}{args:List Value}{I:cS}{F:cR}{Q:Ending→cS→cR→Prop}(he:di P f)(h:cV P f args.toArray I F Q):gj P (.func (.func f) #[] #[]) args I F Q :=
 fun w hw=>.inl ⟨f,#[],#[],rfl,he,by rw[show (#[]:Array Value)++args.toArray++#[]=args.toArray by simp];exact h w hw⟩
section
variable {c:PC} {t:ByteArray} {s:PS} {b:Nat} {F F0:cR}
def dU(c:PC){α:Type}(w:ByteArray)(most:Nat)(one:PS→α×PS)(res:List α×PS)(xs:List α)(s:PS):Prop:=xs.length≤most∧res=c.jD w most one (most-xs.length) xs s
section
variable {α:Type} {w:ByteArray} {most:Nat} {one:PS→α×PS} {res:List α×PS} {xs:List α}
theorem dU.start(c:PC)(w:ByteArray)(most:Nat)(one:PS→α×PS)(s:PS):dU c w most one (c.list w most one s) [] s:=⟨Nat.zero_le _,rfl⟩
theorem dU.stop(h:dU c w most one res xs s)(hw:c.eM w s=false):res=(xs,s):=by
 rw[h.2]
 cases most-xs.length with
 | zero=>rw[PC.jD,hw];rfl
 | succ m=>rw[PC.jD,hw];rfl
theorem dU.full(h:dU c w most one res xs s)(hl:c.Live s)(hw:c.eM w s=true)(hx:xs.length=most):c.dw ⟨131,(c.tok s.next).pos,false⟩ res.2:=by
 rw[h.2,hx,Nat.sub_self,PC.jD,hw,if_pos rfl,hx];exact (mv hl).2
theorem dU.next(h:dU c w most one res xs s)(hl:c.Live s)(hw:c.eM w s=true)(hx:xs.length<most):dU c w most one res (xs++[(one s).1]) (one s).2:=by
 obtain⟨h1,h2⟩:=h
 obtain⟨m,hm⟩:∃m,most-xs.length=m+1:=⟨most-xs.length-1,by omega⟩
 rw[hm,PC.jD,if_pos hw,ug hx,hl.1,if_neg (by simp)] at h2
 exact⟨by rw[List.length_append,List.length_singleton];omega,by rw[h2,List.length_append,List.length_singleton,show most-(xs.length+1)=m by omega]⟩
theorem dU.dead(h:dU c w most one res xs s){f:PF}(hd:c.dw f s):c.dw f res.2:=by
 rw[h.stop (hd.eM _)];exact hd
end
theorem nw{α:Type}{z E:Nat}{f:α→List Value}{O:α→cR→Prop}{F F':cR}(h:F'.Perm F):Part z f E O none 0 0 ([]:List α) F F':=⟨[],fun _=>[],Acc.nil,fun i k h=>by simp at h,h⟩
def wZ(xs:List gB)(v:Value)(H:cR):Prop:=∃(a:Option Addr) (n k:Nat) (l:List fC),v=.slice a n k∧n=l.length∧l.map fC.p=xs∧nc false 11 fC.enc 92 (kS false) a n k l H
theorem th:di P 31:=mR [31] (by kernel_rfl) _ (by decide)
theorem uQ(hc:c.Of t)(hl:c.Live s){I:cS}(hF:F.Perm (c.px t b s::F0)) :
  cV P 30 #[.pointer (some ⟨b,0,none⟩),.string (⟨#[114,101,103]⟩:ByteArray),.int .i64 12,.func (.func 31) #[] #[]] I F (cZ c t b wZ F0 (c.list (⟨#[114,101,103]⟩:ByteArray) 12 c.qq s)):=by
 refine gT.vc (fun a n k m I' F'=>∃(xs:List fC) (si:PS),c.Live si∧m=12-xs.length∧dU c (⟨#[114,101,103]⟩:ByteArray) 12 c.qq (c.list (⟨#[114,101,103]⟩:ByteArray) 12 c.qq s) (xs.map fC.p) si∧Part 11 fC.enc 92 (kS false) a n k xs (c.px t b si::F0) F') ?_
 unfold gT.V
 refine⟨⟨_,[],s,hl,rfl,dU.start c _ _ _ s,nw hF⟩,fun a n k m I1 F1 l1 ⟨xs,si,hLi,gm,hR,hPt⟩=>?_⟩
 subst gm
 obtain⟨A,hs,hA,hO,hFp⟩:=hPt
 have hnl:=hA.1
 have hx:=hR.1
 rw[List.length_map] at hx
 have frame:F1.Perm (c.px t b si::((A++dy xs.length hs)++F0)):=hFp.trans (cT fun z=>by simp only[cU,cX,cY];omega)
 refine cV.ret (lO hLi (dA.of frame) (⟨#[114,101,103]⟩:ByteArray)) fun I2 l2=>⟨_,rfl,F1,.refl _,fun hw=>⟨fun h=>?_,fun h=>?_⟩,fun hw=>?_⟩
 ·have h':(n:Int)=12:=by simpa using h
  have h:xs.length=12:=by omega
  refine (ej (dA.of frame) 131).mono fun e I3 G l3 hf=>.inr ?_
  exact c7.pass hf fun e' hf'=>.inr ⟨_,hR.full hLi hw (by rw[List.length_map];exact h),(hf'.tail frame).more⟩
 ·have h':¬(n:Int)=12:=by simpa using h
  have h:xs.length<12:=by omega
  have hR2:=hR.next hLi hw (by rw[List.length_map];exact h)
  refine gj.ym th (cZ.use (yg hc hLi hw frame) (fun v L I3 G l3 hL3 hv hG=>.inl ?_) fun f e I3 G l3 hd hf=>.inr (c7.pass hf fun e' hf'=>.inr ⟨f,hR2.dead hd,hf'.more⟩))
  obtain⟨r,rfl,hpr,hOr⟩:=hv
  refine⟨_,_,_,_,_,_,_,_,_,_,_,_,_,rfl,L++(A++(dy xs.length hs++(c.px t b (c.qq si).2::F0))),hG.trans (cT fun z=>by simp only[cU,cX,cY];omega),fun b1 I4 l4 hb1=>?_⟩
  refine dW.mono (yX (R0:=[]) (Hx:=L) (x:=r) (F:=c.px t b (c.qq si).2::F0) ⟨A,hs,hA,hO,.refl _⟩ hb1 hOr (.refl _) (by omega)) fun v I5 G2 l5 ⟨ra,rn,rk,hv,F3,hG3,hP⟩=>?_
  refine⟨ra,rn,rk,hv,F3,hG3,12-(xs.length+1),by omega,xs++[r],(c.qq si).2,hL3,by rw[List.length_append,List.length_singleton], ?_,hP⟩
  rw[List.map_append,List.map_singleton,hpr];exact hR2
 ·have hres:=hR.stop hw
  rw[hres]
  exact .inl ⟨hLi,_,A++dy n hs,rfl,⟨a,n,k,xs,rfl,hnl,rfl,A,hs,rfl,hA,fun h=>(by cases h),hO⟩,by rw[hnl];exact frame⟩
def vU(xs:List dY)(v:Value)(H:cR):Prop:=∃(a:Option Addr) (n k:Nat) (l:List dY),v=.slice a n k∧n=l.length∧l.map id=xs∧nc false 2 dY.enc 97 qu a n k l H
theorem rW:di P 33:=mR [33] (by kernel_rfl) _ (by decide)
theorem tj(hc:c.Of t)(hl:c.Live s){I:cS}(hF:F.Perm (c.px t b s::F0)) :
  cV P 32 #[.pointer (some ⟨b,0,none⟩),.string (⟨#[115,108,111,116]⟩:ByteArray),.int .i64 4,.func (.func 33) #[] #[]] I F (cZ c t b vU F0 (c.list (⟨#[115,108,111,116]⟩:ByteArray) 4 c.slot s)):=by
 refine gy.vc (fun a n k m I' F'=>∃(xs:List dY) (si:PS),c.Live si∧m=4-xs.length∧dU c (⟨#[115,108,111,116]⟩:ByteArray) 4 c.slot (c.list (⟨#[115,108,111,116]⟩:ByteArray) 4 c.slot s) (xs.map id) si∧Part 2 dY.enc 97 qu a n k xs (c.px t b si::F0) F') ?_
 unfold gy.V
 refine⟨⟨_,[],s,hl,rfl,dU.start c _ _ _ s,nw hF⟩,fun a n k m I1 F1 l1 ⟨xs,si,hLi,gm,hR,hPt⟩=>?_⟩
 subst gm
 obtain⟨A,hs,hA,hO,hFp⟩:=hPt
 have hnl:=hA.1
 have hx:=hR.1
 rw[List.length_map] at hx
 have frame:F1.Perm (c.px t b si::((A++dy xs.length hs)++F0)):=hFp.trans (cT fun z=>by simp only[cU,cX,cY];omega)
 refine cV.ret (lO hLi (dA.of frame) (⟨#[115,108,111,116]⟩:ByteArray)) fun I2 l2=>⟨_,rfl,F1,.refl _,fun hw=>⟨fun h=>?_,fun h=>?_⟩,fun hw=>?_⟩
 ·have h':(n:Int)=4:=by simpa using h
  have h:xs.length=4:=by omega
  refine (ej (dA.of frame) 131).mono fun e I3 G l3 hf=>.inr ?_
  exact c7.pass hf fun e' hf'=>.inr ⟨_,hR.full hLi hw (by rw[List.length_map];exact h),(hf'.tail frame).more⟩
 ·have h':¬(n:Int)=4:=by simpa using h
  have h:xs.length<4:=by omega
  have hR2:=hR.next hLi hw (by rw[List.length_map];exact h)
  refine gj.ym rW (cZ.use (wX hc hLi hw frame) (fun v L I3 G l3 hL3 hv hG=>.inl ?_) fun f e I3 G l3 hd hf=>.inr (c7.pass hf fun e' hf'=>.inr ⟨f,hR2.dead hd,hf'.more⟩))
  obtain⟨rfl,rfl⟩:=hv
  refine⟨_,_,rfl,([]:cR)++(A++(dy xs.length hs++(c.px t b (c.slot si).2::F0))),hG.trans (cT fun z=>by simp only[cU,cX,cY];omega),fun b1 I4 l4 hb1=>?_⟩
  refine dW.mono (yY (R0:=[]) (Hx:=([]:cR)) (x:=(c.slot si).1) (F:=c.px t b (c.slot si).2::F0) ⟨A,hs,hA,hO,.refl _⟩ hb1 rfl (.refl _) (by omega)) fun v I5 G2 l5 ⟨ra,rn,rk,hv,F3,hG3,hP⟩=>?_
  refine⟨ra,rn,rk,hv,F3,hG3,4-(xs.length+1),by omega,xs++[(c.slot si).1],(c.slot si).2,hL3,by rw[List.length_append,List.length_singleton], ?_,hP⟩
  rw[List.map_append,List.map_singleton,id];exact hR2
 ·have hres:=hR.stop hw
  rw[hres]
  exact .inl ⟨hLi,_,A++dy n hs,rfl,⟨a,n,k,xs,rfl,hnl,rfl,A,hs,rfl,hA,fun h=>(by cases h),hO⟩,by rw[hnl];exact frame⟩
def vV(xs:List ix)(v:Value)(H:cR):Prop:=∃(a:Option Addr) (n k:Nat) (l:List dQ),v=.slice a n k∧n=l.length∧l.map dQ.p=xs∧nc false 10 dQ.enc 128 (ju false) a n k l H
theorem rX:di P 47:=mR [47] (by kernel_rfl) _ (by decide)
theorem tq(hc:c.Of t)(hl:c.Live s){I:cS}(hF:F.Perm (c.px t b s::F0)) :
  cV P 46 #[.pointer (some ⟨b,0,none⟩),.string (⟨#[119,104,101,110]⟩:ByteArray),.int .i64 12,.func (.func 47) #[] #[]] I F (cZ c t b vV F0 (c.list (⟨#[119,104,101,110]⟩:ByteArray) 12 c.js s)):=by
 refine gz.vc (fun a n k m I' F'=>∃(xs:List dQ) (si:PS),c.Live si∧m=12-xs.length∧dU c (⟨#[119,104,101,110]⟩:ByteArray) 12 c.js (c.list (⟨#[119,104,101,110]⟩:ByteArray) 12 c.js s) (xs.map dQ.p) si∧Part 10 dQ.enc 128 (ju false) a n k xs (c.px t b si::F0) F') ?_
 unfold gz.V
 refine⟨⟨_,[],s,hl,rfl,dU.start c _ _ _ s,nw hF⟩,fun a n k m I1 F1 l1 ⟨xs,si,hLi,gm,hR,hPt⟩=>?_⟩
 subst gm
 obtain⟨A,hs,hA,hO,hFp⟩:=hPt
 have hnl:=hA.1
 have hx:=hR.1
 rw[List.length_map] at hx
 have frame:F1.Perm (c.px t b si::((A++dy xs.length hs)++F0)):=hFp.trans (cT fun z=>by simp only[cU,cX,cY];omega)
 refine cV.ret (lO hLi (dA.of frame) (⟨#[119,104,101,110]⟩:ByteArray)) fun I2 l2=>⟨_,rfl,F1,.refl _,fun hw=>⟨fun h=>?_,fun h=>?_⟩,fun hw=>?_⟩
 ·have h':(n:Int)=12:=by simpa using h
  have h:xs.length=12:=by omega
  refine (ej (dA.of frame) 131).mono fun e I3 G l3 hf=>.inr ?_
  exact c7.pass hf fun e' hf'=>.inr ⟨_,hR.full hLi hw (by rw[List.length_map];exact h),(hf'.tail frame).more⟩
 ·have h':¬(n:Int)=12:=by simpa using h
  have h:xs.length<12:=by omega
  have hR2:=hR.next hLi hw (by rw[List.length_map];exact h)
  refine gj.ym rX (cZ.use (wY hc hLi hw frame) (fun v L I3 G l3 hL3 hv hG=>.inl ?_) fun f e I3 G l3 hd hf=>.inr (c7.pass hf fun e' hf'=>.inr ⟨f,hR2.dead hd,hf'.more⟩))
  obtain⟨r,rfl,hpr,hOr⟩:=hv
  refine⟨_,_,_,_,_,_,_,_,_,_,_,_,_,_,rfl,L++(A++(dy xs.length hs++(c.px t b (c.js si).2::F0))),hG.trans (cT fun z=>by simp only[cU,cX,cY];omega),fun b1 I4 l4 hb1=>?_⟩
  refine dW.mono (yZ (R0:=[]) (Hx:=L) (x:=r) (F:=c.px t b (c.js si).2::F0) ⟨A,hs,hA,hO,.refl _⟩ hb1 hOr (.refl _) (by omega)) fun v I5 G2 l5 ⟨ra,rn,rk,hv,F3,hG3,hP⟩=>?_
  refine⟨ra,rn,rk,hv,F3,hG3,12-(xs.length+1),by omega,xs++[r],(c.js si).2,hL3,by rw[List.length_append,List.length_singleton], ?_,hP⟩
  rw[List.map_append,List.map_singleton,hpr];exact hR2
 ·have hres:=hR.stop hw
  rw[hres]
  exact .inl ⟨hLi,_,A++dy n hs,rfl,⟨a,n,k,xs,rfl,hnl,rfl,A,hs,rfl,hA,fun h=>(by cases h),hO⟩,by rw[hnl];exact frame⟩
def zW(x:fX)(v:Value)(H:cR):Prop:=∃r:dn,v=r.v∧r.p=x∧ib false r H
theorem vW(hc:c.Of t)(hl:c.Live s)(hw:c.eM (⟨#[115,116,97,116,101]⟩:ByteArray) s=true){I:cS}(hF:F.Perm (c.px t b s::F0)) :
  cV P 35 #[.pointer (some ⟨b,0,none⟩)] I F (cZ c t b zW F0 (c.state s)):=by
 have hp:=dA.of (I:=I) hF
 have er0:c.state s=c.jR (c.name s.inc).1 (c.tok s.next).pos (c.take (⟨#[123]⟩:ByteArray) (c.name s.inc).2).2:=by unfold PC.state;rw[lP hl hw]
 generalize hpos:(c.tok s.next).pos=pos at er0
 rw[er0]
 refine eR.vc ?_
 unfold eR.V
 intro b0
 refine⟨_,rfl,_,(hp.mono (cS.le_refl I) fun x hx=>.tail _ hx).rd.dp (p:=1) (q:=4) rfl,fun bx=>?_⟩
 rw[hpos]
 refine cZ.use (dC hc hl (gE hl hw) (eW hF)) (fun v K I1 G l1 hL hv hG=>.inl ?_) fun f e I1 G l1 hd hf=>.inr (dR (A:=[]) (Kp.jR _ _ _ (hd.name.take _)) hf)
 obtain⟨rfl,rfl⟩:=hv
 refine⟨rfl,_,ec (A:=[]) hG, ?_⟩
 refine cZ.use (gx hc hL (eW (.refl _))) (fun v K I2 G l2 hL2 hv hG=>.inl ?_) fun f e I2 G l2 hd hf=>.inr (dR (A:=[]) (Kp.jR _ _ _ (hd.take _)) hf)
 obtain⟨rfl,rfl⟩:=hv
 refine⟨_,rfl,_,ec (A:=[]) hG,fun b1 I3 l3 hb1=>?_⟩
 refine cZ.use (dL hc hL2 hb1 (eW (.refl _))) (fun v K I4 G l4 hL4 hv hG=>.inl ?_) fun f e I4 G l4 hd hf=>.inr (dR (A:=[]) (Kp.jR _ _ _ hd) hf)
 obtain⟨⟨i,rfl⟩,rfl⟩:=hv
 generalize (c.take (⟨#[123]⟩:ByteArray) (c.name s.inc).2).2=s3 at hL4 hG
 have es:c.jR (c.name s.inc).1 pos s3=(⟨(c.name s.inc).1,(c.list (⟨#[119,104,101,110]⟩:ByteArray) 12 c.js s3).1,pos⟩,(c.take (⟨#[125]⟩:ByteArray) (c.list (⟨#[119,104,101,110]⟩:ByteArray) 12 c.js s3).2).2):=rfl
 rw[es]
 refine⟨_,rfl,_,ec (A:=[]) hG, ?_⟩
 refine cZ.use (tq hc hL4 (eW (.refl _))) (fun v K I5 G l5 hL5 hv hG=>.inl ?_) fun f e I5 G l5 hd hf=>.inr (dR (A:=[]) (hd.take _) hf)
 obtain⟨a,n,k,l,rfl,rfl,hlp,hOl⟩:=hv
 refine⟨_,_,_,rfl,_,ec (A:=[]) hG,fun b2 I6 l6 hb2=>?_⟩
 refine cZ.use (dL hc hL5 hb2 (eW (.refl _))) (fun v L I7 G l7 hL7 hv hG=>.inl ?_) fun f e I7 G l7 hd hf=>.inr (dR hd hf)
 obtain⟨⟨i7,rfl⟩,rfl⟩:=hv
 refine⟨_,rfl,_,ec hG,.inl ⟨hL7,_,K,rfl,⟨⟨(c.name s.inc).1,a,k,l,pos⟩,rfl, ?_,hOl⟩,cT fun z=>by simp only[cU,cX,cY];omega⟩⟩
 simp only[dn.p,hlp]
def uR(xs:List fX)(v:Value)(H:cR):Prop:=∃(a:Option Addr) (n k:Nat) (l:List dn),v=.slice a n k∧n=l.length∧l.map dn.p=xs∧nc false 3 dn.enc 53 (ib false) a n k l H
theorem qG:di P 35:=mR [35] (by kernel_rfl) _ (by decide)
theorem rY(hc:c.Of t)(hl:c.Live s){I:cS}(hF:F.Perm (c.px t b s::F0)) :
  cV P 34 #[.pointer (some ⟨b,0,none⟩),.string (⟨#[115,116,97,116,101]⟩:ByteArray),.int .i64 12,.func (.func 35) #[] #[]] I F (cZ c t b uR F0 (c.list (⟨#[115,116,97,116,101]⟩:ByteArray) 12 c.state s)):=by
 refine fY.vc (fun a n k m I' F'=>∃(xs:List dn) (si:PS),c.Live si∧m=12-xs.length∧dU c (⟨#[115,116,97,116,101]⟩:ByteArray) 12 c.state (c.list (⟨#[115,116,97,116,101]⟩:ByteArray) 12 c.state s) (xs.map dn.p) si∧Part 3 dn.enc 53 (ib false) a n k xs (c.px t b si::F0) F') ?_
 unfold fY.V
 refine⟨⟨_,[],s,hl,rfl,dU.start c _ _ _ s,nw hF⟩,fun a n k m I1 F1 l1 ⟨xs,si,hLi,gm,hR,hPt⟩=>?_⟩
 subst gm
 obtain⟨A,hs,hA,hO,hFp⟩:=hPt
 have hnl:=hA.1
 have hx:=hR.1
 rw[List.length_map] at hx
 have frame:F1.Perm (c.px t b si::((A++dy xs.length hs)++F0)):=hFp.trans (cT fun z=>by simp only[cU,cX,cY];omega)
 refine cV.ret (lO hLi (dA.of frame) (⟨#[115,116,97,116,101]⟩:ByteArray)) fun I2 l2=>⟨_,rfl,F1,.refl _,fun hw=>⟨fun h=>?_,fun h=>?_⟩,fun hw=>?_⟩
 ·have h':(n:Int)=12:=by simpa using h
  have h:xs.length=12:=by omega
  refine (ej (dA.of frame) 131).mono fun e I3 G l3 hf=>.inr ?_
  exact c7.pass hf fun e' hf'=>.inr ⟨_,hR.full hLi hw (by rw[List.length_map];exact h),(hf'.tail frame).more⟩
 ·have h':¬(n:Int)=12:=by simpa using h
  have h:xs.length<12:=by omega
  have hR2:=hR.next hLi hw (by rw[List.length_map];exact h)
  refine gj.ym qG (cZ.use (vW hc hLi hw frame) (fun v L I3 G l3 hL3 hv hG=>.inl ?_) fun f e I3 G l3 hd hf=>.inr (c7.pass hf fun e' hf'=>.inr ⟨f,hR2.dead hd,hf'.more⟩))
  obtain⟨r,rfl,hpr,hOr⟩:=hv
  refine⟨_,_,_,_,_,rfl,L++(A++(dy xs.length hs++(c.px t b (c.state si).2::F0))),hG.trans (cT fun z=>by simp only[cU,cX,cY];omega),fun b1 I4 l4 hb1=>?_⟩
  refine dW.mono (za (R0:=[]) (Hx:=L) (x:=r) (F:=c.px t b (c.state si).2::F0) ⟨A,hs,hA,hO,.refl _⟩ hb1 hOr (.refl _) (by omega)) fun v I5 G2 l5 ⟨ra,rn,rk,hv,F3,hG3,hP⟩=>?_
  refine⟨ra,rn,rk,hv,F3,hG3,12-(xs.length+1),by omega,xs++[r],(c.state si).2,hL3,by rw[List.length_append,List.length_singleton], ?_,hP⟩
  rw[List.map_append,List.map_singleton,hpr];exact hR2
 ·have hres:=hR.stop hw
  rw[hres]
  exact .inl ⟨hLi,_,A++dy n hs,rfl,⟨a,n,k,xs,rfl,hnl,rfl,A,hs,rfl,hA,fun h=>(by cases h),hO⟩,by rw[hnl];exact frame⟩
def zb(x:gO)(v:Value)(H:cR):Prop:=∃r:gQ,v=r.v∧r.p=x∧mn false r H
def PC.mX(c:PC)(nm:ByteArray)(rs:List gB)(ss:List dY)(ts:List fX)(s:PS):gO×PS:=(⟨nm,rs,ss,ts⟩,(c.take (⟨#[125]⟩:ByteArray) (if ts.length=0 then c.c5 130 s else s)).2)
def PC.oV(c:PC)(nm:ByteArray)(rs:List gB)(ss:List dY)(s:PS):gO×PS:=c.mX nm rs ss (c.list (⟨#[115,116,97,116,101]⟩:ByteArray) 12 c.state s).1 (c.list (⟨#[115,116,97,116,101]⟩:ByteArray) 12 c.state s).2
def PC.oW(c:PC)(nm:ByteArray)(rs:List gB)(s:PS):gO×PS:=c.oV nm rs (c.list (⟨#[115,108,111,116]⟩:ByteArray) 4 c.slot s).1 (c.list (⟨#[115,108,111,116]⟩:ByteArray) 4 c.slot s).2
def PC.mY(c:PC)(nm:ByteArray)(s:PS):gO×PS:=c.oW nm (c.list (⟨#[114,101,103]⟩:ByteArray) 12 c.qq s).1 (c.list (⟨#[114,101,103]⟩:ByteArray) 12 c.qq s).2
def PC.body(c:PC)(s:PS):gO×PS:=c.mY (c.name (c.take (⟨#[115,116,114,97,116,101,103,121]⟩:ByteArray) s).2).1 (c.take (⟨#[123]⟩:ByteArray) (c.name (c.take (⟨#[115,116,114,97,116,101,103,121]⟩:ByteArray) s).2).2).2
theorem Kp.mX(nm:ByteArray)(rs:List gB)(ss:List dY)(ts:List fX){f:PF}:Kp c f (c.mX nm rs ss ts):=fun s h=>by
 refine PC.dw.take ?_ _
 split
 ·exact h.c5 _
 ·exact h
theorem Kp.oV(nm:ByteArray)(rs:List gB)(ss:List dY){f:PF}:Kp c f (c.oV nm rs ss):=fun s h=>Kp.mX _ _ _ _ _ (Kp.list _ _ _ s h)
theorem Kp.oW(nm:ByteArray)(rs:List gB){f:PF}:Kp c f (c.oW nm rs):=fun s h=>Kp.oV _ _ _ _ (Kp.list _ _ _ s h)
theorem Kp.mY(nm:ByteArray){f:PF}:Kp c f (c.mY nm):=fun s h=>Kp.oW _ _ _ (Kp.list _ _ _ s h)
theorem rZ(hc:c.Of t)(hl:c.Live s){I:cS}(hF:F.Perm (c.px t b s::F0)) :
  cV P 16 #[.pointer (some ⟨b,0,none⟩)] I F (cZ c t b zb F0 (c.body s)):=by
 unfold PC.body
 refine dZ.vc ?_
 unfold dZ.V
 intro b0 b1 I1 l1 hb1
 refine cZ.use (dL hc hl hb1 (qy hF)) (fun v K I2 G l2 hL2 hv hG=>.inl ?_) fun f e I2 G l2 hd hf=>.inr (c7.dk [_] hf fun e' G' hf'=>.inr ⟨f,Kp.mY _ _ (hd.name.take _),hf'⟩)
 obtain⟨⟨i2,rfl⟩,rfl⟩:=hv
 refine⟨_,rfl,c.px t b (c.take (⟨#[115,116,114,97,116,101,103,121]⟩:ByteArray) s).2::F0,hG.trans (cT fun z=>by simp only[cU,cX,cY];omega), ?_⟩
 refine cZ.use (gx hc hL2 (qy (.refl _))) (fun v K I3 G l3 hL3 hv hG=>.inl ?_) fun f e I3 G l3 hd hf=>.inr (c7.dk [_] hf fun e' G' hf'=>.inr ⟨f,Kp.mY _ _ (hd.take _),hf'⟩)
 obtain⟨rfl,rfl⟩:=hv
 generalize hq:c.name (c.take (⟨#[115,116,114,97,116,101,103,121]⟩:ByteArray) s).2=q at hL3 hG
 obtain⟨nm,s3⟩:=q
 refine⟨_,rfl,c.px t b s3::F0,hG.trans (cT fun z=>by simp only[cU,cX,cY];omega),fun bs b2 I4 l4 hb2=>?_⟩
 refine cZ.use (dL hc hL3 hb2 (eW (.refl _))) (fun v K I5 G l5 hL5 hv hG=>.inl ?_) fun f e I5 G l5 hd hf=>.inr (dR (A:=[]) (Kp.mY _ _ hd) hf)
 obtain⟨⟨i5,rfl⟩,rfl⟩:=hv
 generalize (c.take (⟨#[123]⟩:ByteArray) s3).2=s4 at hL5 hG
 refine⟨_,rfl,_,ec (A:=[]) hG, ?_⟩
 have e1:c.mY nm s4=c.oW nm (c.list (⟨#[114,101,103]⟩:ByteArray) 12 c.qq s4).1 (c.list (⟨#[114,101,103]⟩:ByteArray) 12 c.qq s4).2:=rfl
 rw[e1]
 refine cZ.use (uQ hc hL5 (eW (.refl _))) (fun v K I6 G l6 hL6 hv hG=>.inl ?_) fun f e I6 G l6 hd hf=>.inr (dR (A:=[]) (Kp.oW _ _ _ hd) hf)
 obtain⟨a1,n1,k1,l1',rfl,rfl,hp1,hO1⟩:=hv
 generalize c.list (⟨#[114,101,103]⟩:ByteArray) 12 c.qq s4=r1 at hL6 hG hp1
 refine⟨_,_,_,rfl,_,ec (A:=[]) hG, ?_⟩
 have e2:c.oW nm r1.1 r1.2=c.oV nm r1.1 (c.list (⟨#[115,108,111,116]⟩:ByteArray) 4 c.slot r1.2).1 (c.list (⟨#[115,108,111,116]⟩:ByteArray) 4 c.slot r1.2).2:=rfl
 rw[e2]
 refine cZ.use (tj hc hL6 (eW (.refl _))) (fun v L I7 G l7 hL7 hv hG=>.inl ?_) fun f e I7 G l7 hd hf=>.inr (dR (Kp.oV _ _ _ _ hd) hf)
 obtain⟨a2,n2,k2,l2',rfl,rfl,hp2,hO2⟩:=hv
 generalize c.list (⟨#[115,108,111,116]⟩:ByteArray) 4 c.slot r1.2=r2 at hL7 hG hp2
 refine⟨_,_,_,rfl,_,ec hG, ?_⟩
 have e3:c.oV nm r1.1 r2.1 r2.2=c.mX nm r1.1 r2.1 (c.list (⟨#[115,116,97,116,101]⟩:ByteArray) 12 c.state r2.2).1 (c.list (⟨#[115,116,97,116,101]⟩:ByteArray) 12 c.state r2.2).2:=rfl
 rw[e3]
 refine cZ.use (rY hc hL7 (eW (.refl _))) (fun v M I8 G l8 hL8 hv hG=>.inl ?_) fun f e I8 G l8 hd hf=>.inr (dR (Kp.mX _ _ _ _ _ hd) hf)
 obtain⟨a3,n3,k3,l3',rfl,rfl,hp3,hO3⟩:=hv
 generalize c.list (⟨#[115,116,97,116,101]⟩:ByteArray) 12 c.state r2.2=r3 at hL8 hG hp3
 have hlen:r3.1.length=l3'.length:=by rw[←hp3,List.length_map]
 have e4:c.mX nm r1.1 r2.1 r3.1 r3.2=(⟨nm,r1.1,r2.1,r3.1⟩,(c.take (⟨#[125]⟩:ByteArray) (if l3'.length=0 then c.c5 130 r3.2 else r3.2)).2):=by unfold PC.mX;rw[hlen]
 rw[e4]
 refine⟨_,_,_,rfl,_,ec hG,fun h=>?_,fun h=>?_⟩
 ·have h':(l3'.length:Int)=0:=by simpa using h
  have h:l3'.length=0:=by omega
  rw[if_pos h]
  refine (ej (dA.of (eW (.refl _))) 130).mono fun e I9 G l9 hf=>.inr ?_
  exact dR ((hL8.c5 (by decide)).2.take _) (hf.tail (eW (.refl _)))
 ·have h:¬l3'.length=0:=fun h0=>by rw[h0] at h;exact absurd h (by decide)
  rw[if_neg h]
  intro b4 I9 l9 hb4
  refine cZ.use (dL hc hL8 hb4 (eW (.refl _))) (fun v N I10 G l10 hL10 hv hG=>.inl ?_) fun f e I10 G l10 hd hf=>.inr (dR hd hf)
  obtain⟨⟨i10,rfl⟩,rfl⟩:=hv
  refine⟨_,rfl,_,ec hG,.inl ⟨hL10,_,K++(L++M),rfl,⟨⟨nm,a1,k1,l1',a2,k2,l2',a3,k3,l3'⟩,rfl, ?_,K,L,M,rfl,hO1,hO2,hO3⟩,cT fun z=>by simp only[cU,cX,cY];omega⟩⟩
  rw[List.map_id] at hp2
  simp only[gQ.p,hp1,hp2,hp3]
end
end Go.Lx
namespace Go.Lx
open Go.Vc Go.Proofs.Tryd
def oX:List (Nat×List Sh):=[(0,[]),(9,[.one .str]),(29,[.agg [(.int .u8),(.int .u8),(.int .u8),(.int .i64),(.int .u8),.str,.slc,(.int .i64)]]),(31,[.one .any]),(32,[.agg [(.int .u8),(.int .u8),(.int .u8),(.int .i64),(.int .u8),.str,.slc,(.int .i64)],.one .any]),(48,[.agg [.str,.slc,.slc,.slc]]),(49,[.agg [.str,.slc,.slc,.slc],.one .any]),(68,[.one (.int .u8)])]
def eC.V(ka:Nat→Bs→OA→Nat→Nat→OA→Nat→Nat→OA→Nat→Nat→Nat×Obj)(e f:Nat→Nat×Obj)(vi:Int→Value)(vs:Bs→Value)(vl:OA→Nat→Nat→Value)(vp:OA→Value)(bf s:Bs)(be:Fn)(a5 a6:Array Value)(I:cS)(F:cR)(Q:cW)  : Prop:=∀a:Nat,∀c:Nat,∀d:Nat,∀b:Nat,cV P 18 (#[vp (some (⟨b,0,none⟩:Addr))]) I ((e a)::(ka c (⟨#[]⟩:Bs) none 0 0 none 0 0 none 0 0)::(f d)::((b,Obj.cells #[vs s,.int .u8 0,vs (⟨#[]⟩:Bs),.int .u8 0,vi 0,vi 0,vi 0] 72 (0,0))::F)) fun e1 I1 G1=>((e1=.returned (.tuple #[])∧∃F1:cR,List.Perm G1 ((e a)::(ka c (⟨#[]⟩:Bs) none 0 0 none 0 0 none 0 0)::(f d)::F1)∧gj P (.func be a5 a6) [vp (some (⟨b,0,none⟩:Addr))] I1 ((e a)::(ka c (⟨#[]⟩:Bs) none 0 0 none 0 0 none 0 0)::(f d)::F1) fun e2 I2 G2=>((∃(aG:Bs) (g:OA) (h i:Nat) (j:OA) (k l:Nat) (n:OA) (o p:Nat),e2=.returned (.agg #[vs aG,vl g h i,vl j k l,vl n o p])∧∃F2:cR,List.Perm G2 ((e a)::(ka c (⟨#[]⟩:Bs) none 0 0 none 0 0 none 0 0)::(f d)::F2)∧∃ad:Addr,some (⟨b,0,none⟩:Addr)=some ad∧∃(m:Int),Rd I2 ((e a)::(ka c aG g h i j k l n o p)::(f d)::F2) ((ad.add 1).add 0) [.int .u8 m]∧(It (m != 0) (cV P 19 (#[vp (some (⟨b,0,none⟩:Addr)),vi 130]) I2 ((e a)::(ka c aG g h i j k l n o p)::(f d)::F2) fun e3 I3 G3=>((e3=.returned (.tuple #[])∧∃F3:cR,List.Perm G3 ((e a)::(ka c aG g h i j k l n o p)::(f d)::F3)∧fB P 28 [vp (some ⟨a,0,none⟩),vp (some ⟨c,0,none⟩),vp (some ⟨d,0,none⟩)] .returning I3 ((e a)::(ka c aG g h i j k l n o p)::(f d)::F3) fun e4 u I4 G4=>∃v:Value,e4=.returned v∧∃(a4 aY:Bs) (aH:OA) (aI aJ:Nat) (aK:OA) (aL aM:Nat) (aN:OA) (aO aP:Nat) (aZ:Value),∃F4:cR,List.Perm G4 ((a,Obj.cells #[vs a4] 9 (0,0))::(ka c aY aH aI aJ aK aL aM aN aO aP)::(d,Obj.cells #[aZ] 31 (0,0))::F4)∧((settle u=.returning∧Q (.returned (.tuple #[.agg #[vs aY,vl aH aI aJ,vl aK aL aM,vl aN aO aP],aZ])) I4 F4)∨(∃ch:List PanicEntry,settle u=.panicking ch∧Q (.panicked ch) I4 F4)))∨(∃a7:List PanicEntry,e3=.panicked a7∧∃F5:cR,List.Perm G3 ((e a)::(ka c aG g h i j k l n o p)::(f d)::F5)∧fB P 28 [vp (some ⟨a,0,none⟩),vp (some ⟨c,0,none⟩),vp (some ⟨d,0,none⟩)] (.panicking a7) I3 ((e a)::(ka c aG g h i j k l n o p)::(f d)::F5) fun e5 u1 I5 G5=>∃v1:Value,e5=.returned v1∧∃(a0 aQ:Bs) (q:OA) (r t:Nat) (w:OA) (x y:Nat) (z:OA) (aa ab:Nat) (aR:Value),∃F6:cR,List.Perm G5 ((a,Obj.cells #[vs a0] 9 (0,0))::(ka c aQ q r t w x y z aa ab)::(d,Obj.cells #[aR] 31 (0,0))::F6)∧((settle u1=.returning∧Q (.returned (.tuple #[.agg #[vs aQ,vl q r t,vl w x y,vl z aa ab],aR])) I5 F6)∨(∃a8:List PanicEntry,settle u1=.panicking a8∧Q (.panicked a8) I5 F6))))) (fB P 28 [vp (some ⟨a,0,none⟩),vp (some ⟨c,0,none⟩),vp (some ⟨d,0,none⟩)] .returning I2 ((e a)::(ka c aG g h i j k l n o p)::(f d)::F2) fun e6 u2 I6 G6=>∃v2:Value,e6=.returned v2∧∃(a1 aS:Bs) (ac:OA) (ae af:Nat) (ag:OA) (ah ai:Nat) (aj:OA) (ak al:Nat) (aT:Value),∃F7:cR,List.Perm G6 ((a,Obj.cells #[vs a1] 9 (0,0))::(ka c aS ac ae af ag ah ai aj ak al)::(d,Obj.cells #[aT] 31 (0,0))::F7)∧((settle u2=.returning∧Q (.returned (.tuple #[.agg #[vs aS,vl ac ae af,vl ag ah ai,vl aj ak al],aT])) I6 F7)∨(∃a9:List PanicEntry,settle u2=.panicking a9∧Q (.panicked a9) I6 F7)))))∨(∃ba:List PanicEntry,e2=.panicked ba∧∃F8:cR,List.Perm G2 ((e a)::(ka c (⟨#[]⟩:Bs) none 0 0 none 0 0 none 0 0)::(f d)::F8)∧fB P 28 [vp (some ⟨a,0,none⟩),vp (some ⟨c,0,none⟩),vp (some ⟨d,0,none⟩)] (.panicking ba) I2 ((e a)::(ka c (⟨#[]⟩:Bs) none 0 0 none 0 0 none 0 0)::(f d)::F8) fun e7 u3 I7 G7=>∃v3:Value,e7=.returned v3∧∃(a2 aU:Bs) (am:OA) (an ao:Nat) (ap:OA) (aq ar:Nat) (au:OA) (av aw:Nat) (aV:Value),∃F9:cR,List.Perm G7 ((a,Obj.cells #[vs a2] 9 (0,0))::(ka c aU am an ao ap aq ar au av aw)::(d,Obj.cells #[aV] 31 (0,0))::F9)∧((settle u3=.returning∧Q (.returned (.tuple #[.agg #[vs aU,vl am an ao,vl ap aq ar,vl au av aw],aV])) I7 F9)∨(∃bb:List PanicEntry,settle u3=.panicking bb∧Q (.panicked bb) I7 F9)))))∨(∃bc:List PanicEntry,e1=.panicked bc∧∃F10:cR,List.Perm G1 ((e a)::(ka c (⟨#[]⟩:Bs) none 0 0 none 0 0 none 0 0)::(f d)::F10)∧fB P 28 [vp (some ⟨a,0,none⟩),vp (some ⟨c,0,none⟩),vp (some ⟨d,0,none⟩)] (.panicking bc) I1 ((e a)::(ka c (⟨#[]⟩:Bs) none 0 0 none 0 0 none 0 0)::(f d)::F10) fun e8 u4 I8 G8=>∃v4:Value,e8=.returned v4∧∃(a3 aW:Bs) (ax:OA) (ay az:Nat) (aA:OA) (aB aC:Nat) (aD:OA) (aE aF:Nat) (aX:Value),∃F11:cR,List.Perm G8 ((a,Obj.cells #[vs a3] 9 (0,0))::(ka c aW ax ay az aA aB aC aD aE aF)::(d,Obj.cells #[aX] 31 (0,0))::F11)∧((settle u4=.returning∧Q (.returned (.tuple #[.agg #[vs aW,vl ax ay az,vl aA aB aC,vl aD aE aF],aX])) I8 F11)∨(∃bd:List PanicEntry,settle u4=.panicking bd∧Q (.panicked bd) I8 F11))))
theorem eC.vc{m s:Bs}{n:Fn}{k l:Array Value}{I:cS}{F:cR}{Q:cW}  (h:eC.V (fun W a b c d e f g h i j=>(W,Obj.cells #[.string a,.slice b c d,.slice e f g,.slice h i j] 48 (0,0))) (fun b=>(b,Obj.cells #[.string m] 9 (0,0))) (fun b=>(b,Obj.cells #[Value.nilIface] 31 (0,0))) (.int .i64) .string .slice .pointer m s n k l I F Q):cV P 15 #[.string m,.string s,.func n k l] I F Q :=
 tw (A:=(eU [5005] [0,18,19] [18,19,28] oX [] [] [2002] [] [4002] [] [])) [18,19,28] func15 h
def fH.V(e f:Nat→Nat×Obj)(nV:Int→Int→Int→Int→Int→Bs→OA→Nat→Nat→Int→Value)(nO:Int→Int→Int→Int→Int→Bs→OA→Nat→Nat→Int→Obj)(vi:Int→Value)(vs:Bs→Value)(vp:OA→Value)(bf s:Bs)(be:Fn)(a5 a6:Array Value)(I:cS)(F:cR)(Q:cW)  : Prop:=∀a:Nat,∀c:Nat,∀d:Nat,∀b:Nat,cV P 18 (#[vp (some (⟨b,0,none⟩:Addr))]) I ((e a)::(c,nO 0 0 0 0 0 (⟨#[]⟩:Bs) none 0 0 0)::(f d)::((b,Obj.cells #[vs s,.int .u8 0,vs (⟨#[]⟩:Bs),.int .u8 0,vi 0,vi 0,vi 0] 72 (0,0))::F)) fun e1 I1 G1=>((e1=.returned (.tuple #[])∧∃F1:cR,List.Perm G1 ((e a)::(c,nO 0 0 0 0 0 (⟨#[]⟩:Bs) none 0 0 0)::(f d)::F1)∧gj P (.func be a5 a6) [vp (some (⟨b,0,none⟩:Addr))] I1 ((e a)::(c,nO 0 0 0 0 0 (⟨#[]⟩:Bs) none 0 0 0)::(f d)::F1) fun e2 I2 G2=>((∃(z aa ab ac ae:Int) (af:Bs) (g:OA) (h i:Nat) (ag:Int),e2=.returned (nV z aa ab ac ae af g h i ag)∧∃F2:cR,List.Perm G2 ((e a)::(c,nO 0 0 0 0 0 (⟨#[]⟩:Bs) none 0 0 0)::(f d)::F2)∧∃ad:Addr,some (⟨b,0,none⟩:Addr)=some ad∧∃(m:Int),Rd I2 ((e a)::(c,nO z aa ab ac ae af g h i ag)::(f d)::F2) ((ad.add 1).add 0) [.int .u8 m]∧(It (m != 0) (cV P 19 (#[vp (some (⟨b,0,none⟩:Addr)),vi 130]) I2 ((e a)::(c,nO z aa ab ac ae af g h i ag)::(f d)::F2) fun e3 I3 G3=>((e3=.returned (.tuple #[])∧∃F3:cR,List.Perm G3 ((e a)::(c,nO z aa ab ac ae af g h i ag)::(f d)::F3)∧fB P 17 [vp (some ⟨a,0,none⟩),vp (some ⟨c,0,none⟩),vp (some ⟨d,0,none⟩)] .returning I3 ((e a)::(c,nO z aa ab ac ae af g h i ag)::(f d)::F3) fun e4 u I4 G4=>∃v:Value,e4=.returned v∧∃(a4:Bs) (aS aT aU aV aW:Int) (aX:Bs) (ah:OA) (ai aj:Nat) (aY:Int) (aZ:Value),∃F4:cR,List.Perm G4 ((a,Obj.cells #[vs a4] 9 (0,0))::(c,nO aS aT aU aV aW aX ah ai aj aY)::(d,Obj.cells #[aZ] 31 (0,0))::F4)∧((settle u=.returning∧Q (.returned (.tuple #[nV aS aT aU aV aW aX ah ai aj aY,aZ])) I4 F4)∨(∃ch:List PanicEntry,settle u=.panicking ch∧Q (.panicked ch) I4 F4)))∨(∃a7:List PanicEntry,e3=.panicked a7∧∃F5:cR,List.Perm G3 ((e a)::(c,nO z aa ab ac ae af g h i ag)::(f d)::F5)∧fB P 17 [vp (some ⟨a,0,none⟩),vp (some ⟨c,0,none⟩),vp (some ⟨d,0,none⟩)] (.panicking a7) I3 ((e a)::(c,nO z aa ab ac ae af g h i ag)::(f d)::F5) fun e5 u1 I5 G5=>∃v1:Value,e5=.returned v1∧∃(a0:Bs) (ak al am an ao:Int) (ap:Bs) (j:OA) (k l:Nat) (aq:Int) (ar:Value),∃F6:cR,List.Perm G5 ((a,Obj.cells #[vs a0] 9 (0,0))::(c,nO ak al am an ao ap j k l aq)::(d,Obj.cells #[ar] 31 (0,0))::F6)∧((settle u1=.returning∧Q (.returned (.tuple #[nV ak al am an ao ap j k l aq,ar])) I5 F6)∨(∃a8:List PanicEntry,settle u1=.panicking a8∧Q (.panicked a8) I5 F6))))) (fB P 17 [vp (some ⟨a,0,none⟩),vp (some ⟨c,0,none⟩),vp (some ⟨d,0,none⟩)] .returning I2 ((e a)::(c,nO z aa ab ac ae af g h i ag)::(f d)::F2) fun e6 u2 I6 G6=>∃v2:Value,e6=.returned v2∧∃(a1:Bs) (au av aw ax ay:Int) (az:Bs) (n:OA) (o p:Nat) (aA:Int) (aB:Value),∃F7:cR,List.Perm G6 ((a,Obj.cells #[vs a1] 9 (0,0))::(c,nO au av aw ax ay az n o p aA)::(d,Obj.cells #[aB] 31 (0,0))::F7)∧((settle u2=.returning∧Q (.returned (.tuple #[nV au av aw ax ay az n o p aA,aB])) I6 F7)∨(∃a9:List PanicEntry,settle u2=.panicking a9∧Q (.panicked a9) I6 F7)))))∨(∃ba:List PanicEntry,e2=.panicked ba∧∃F8:cR,List.Perm G2 ((e a)::(c,nO 0 0 0 0 0 (⟨#[]⟩:Bs) none 0 0 0)::(f d)::F8)∧fB P 17 [vp (some ⟨a,0,none⟩),vp (some ⟨c,0,none⟩),vp (some ⟨d,0,none⟩)] (.panicking ba) I2 ((e a)::(c,nO 0 0 0 0 0 (⟨#[]⟩:Bs) none 0 0 0)::(f d)::F8) fun e7 u3 I7 G7=>∃v3:Value,e7=.returned v3∧∃(a2:Bs) (aC aD aE aF aG:Int) (aH:Bs) (q:OA) (r t:Nat) (aI:Int) (aJ:Value),∃F9:cR,List.Perm G7 ((a,Obj.cells #[vs a2] 9 (0,0))::(c,nO aC aD aE aF aG aH q r t aI)::(d,Obj.cells #[aJ] 31 (0,0))::F9)∧((settle u3=.returning∧Q (.returned (.tuple #[nV aC aD aE aF aG aH q r t aI,aJ])) I7 F9)∨(∃bb:List PanicEntry,settle u3=.panicking bb∧Q (.panicked bb) I7 F9)))))∨(∃bc:List PanicEntry,e1=.panicked bc∧∃F10:cR,List.Perm G1 ((e a)::(c,nO 0 0 0 0 0 (⟨#[]⟩:Bs) none 0 0 0)::(f d)::F10)∧fB P 17 [vp (some ⟨a,0,none⟩),vp (some ⟨c,0,none⟩),vp (some ⟨d,0,none⟩)] (.panicking bc) I1 ((e a)::(c,nO 0 0 0 0 0 (⟨#[]⟩:Bs) none 0 0 0)::(f d)::F10) fun e8 u4 I8 G8=>∃v4:Value,e8=.returned v4∧∃(a3:Bs) (aK aL aM aN aO:Int) (aP:Bs) (w:OA) (x y:Nat) (aQ:Int) (aR:Value),∃F11:cR,List.Perm G8 ((a,Obj.cells #[vs a3] 9 (0,0))::(c,nO aK aL aM aN aO aP w x y aQ)::(d,Obj.cells #[aR] 31 (0,0))::F11)∧((settle u4=.returning∧Q (.returned (.tuple #[nV aK aL aM aN aO aP w x y aQ,aR])) I8 F11)∨(∃bd:List PanicEntry,settle u4=.panicking bd∧Q (.panicked bd) I8 F11))))
theorem fH.vc{g s:Bs}{i:Fn}{d e:Array Value}{I:cS}{F:cR}{Q:cW}  (h:fH.V (fun b=>(b,Obj.cells #[.string g] 9 (0,0))) (fun b=>(b,Obj.cells #[Value.nilIface] 31 (0,0))) (fun k o t n f s a l c q=>.agg #[.int .u8 k,.int .u8 o,.int .u8 t,.int .i64 n,.int .u8 f,.string s,.slice a l c,.int .i64 q]) (fun k o t n f s a l c q=>.cells #[.int .u8 k,.int .u8 o,.int .u8 t,.int .i64 n,.int .u8 f,.string s,.slice a l c,.int .i64 q] 29 (0,0)) (.int .i64) .string .pointer g s i d e I F Q):cV P 11 #[.string g,.string s,.func i d e] I F Q :=
 tw (A:=(eU [5005] [0,18,19] [17,18,19] oX [] [] [2002] [] [4002] [] [])) [17,18,19] func11 h
def fZ.V(vs:Bs→Value)(vl:OA→Nat→Nat→Value)(s:Bs)(I:cS)(F:cR)(Q:cW)  : Prop:=∀b:Nat,sk P 15 (#[vs (⟨#[83,116,114,97,116,101,103,121]⟩:Bs),vs s,.func (.func 16) #[] #[]]) I ((b,Obj.cells #[vs (⟨#[]⟩:Bs),vl none 0 0,vl none 0 0,vl none 0 0] 48 (0,0))::·) F fun e1 I1 G1=>∃(k:Bs) (a:OA) (c d:Nat) (e:OA) (f g:Nat) (h:OA) (i j:Nat) (r1:Value),e1=.returned (.tuple #[.agg #[vs k,vl a c d,vl e f g,vl h i j],r1])∧G1 fun F1=>Q (.returned (.tuple #[.agg #[vs k,vl a c d,vl e f g,vl h i j],r1])) I1 (F1)
theorem fZ.vc{s:Bs}{I:cS}{F:cR}{Q:cW}  (h:fZ.V .string .slice s I F Q):cV P 10 #[.string s] I F Q :=
 tw (A:=(an [] [15] oX)) [15] func10 h
def jx.V(nV:Int→Int→Int→Int→Int→Bs→OA→Nat→Nat→Int→Value)(nO:Int→Int→Int→Int→Int→Bs→OA→Nat→Nat→Int→Obj)(s:Bs)(I:cS)(F:cR)(Q:cW)  : Prop:=∀b:Nat,sk P 11 (#[.string (⟨#[69,120,112,114]⟩:Bs),.string s,.func (.func 12) #[] #[]]) I ((b,nO 0 0 0 0 0 (⟨#[]⟩:Bs) none 0 0 0)::·) F fun e1 I1 G1=>∃(e f g h i:Int) (j:Bs) (a:OA) (c d:Nat) (k:Int) (r1:Value),e1=.returned (.tuple #[nV e f g h i j a c d k,r1])∧G1 fun F1=>Q (.returned (.tuple #[nV e f g h i j a c d k,r1])) I1 (F1)
theorem jx.vc{s:Bs}{I:cS}{F:cR}{Q:cW}  (h:jx.V (fun k o t n f s a l c q=>.agg #[.int .u8 k,.int .u8 o,.int .u8 t,.int .i64 n,.int .u8 f,.string s,.slice a l c,.int .i64 q]) (fun k o t n f s a l c q=>.cells #[.int .u8 k,.int .u8 o,.int .u8 t,.int .i64 n,.int .u8 f,.string s,.slice a l c,.int .i64 q] 29 (0,0)) s I F Q):cV P 6 #[.string s] I F Q :=
 tw (A:=(an [] [11] oX)) [11] func6 h
def gU.V(nV:Int→Int→Int→Int→Int→Bs→OA→Nat→Nat→Int→Value)(nO:Int→Int→Int→Int→Int→Bs→OA→Nat→Nat→Int→Obj)(p:Addr)(I:cS)(F:cR)(Q:cW)  : Prop:=∀b:Nat,cV P 13 (#[.pointer (some p),.int .i64 0]) I ((b,nO 0 0 0 0 0 (⟨#[]⟩:Bs) none 0 0 0)::F) fun e1 I1 G1=>((∃(e f g h i:Int) (j:Bs) (a:OA) (c d:Nat) (k:Int),e1=.returned (nV e f g h i j a c d k)∧∃F1:cR,List.Perm G1 ((b,nO 0 0 0 0 0 (⟨#[]⟩:Bs) none 0 0 0)::F1)∧Q (.returned (nV e f g h i j a c d k)) I1 F1)∨(∃ch:List PanicEntry,e1=.panicked ch∧∃F2:cR,List.Perm G1 ((b,nO 0 0 0 0 0 (⟨#[]⟩:Bs) none 0 0 0)::F2)∧Q (.panicked ch) I1 F2))
theorem gU.vc{p:Addr}{I:cS}{F:cR}{Q:cW}  (h:gU.V (fun k o t n f s a l c q=>.agg #[.int .u8 k,.int .u8 o,.int .u8 t,.int .i64 n,.int .u8 f,.string s,.slice a l c,.int .i64 q]) (fun k o t n f s a l c q=>.cells #[.int .u8 k,.int .u8 o,.int .u8 t,.int .i64 n,.int .u8 f,.string s,.slice a l c,.int .i64 q] 29 (0,0)) p I F Q):cV P 12 #[.pointer (some p)] I F Q :=
 tw (A:=(eU [] [13] [13] oX [] [] [] [] [] [] [])) [13] func12 h
def qH:List (Nat×List Sh):=[]
def fL.V(m:Nat)(c:Bs)(k:Nat)(n:Bs)(a:OA)(b d:Nat)(e:OA)(f g:Nat)(h:OA)(i j l:Nat)(c1:Value)(I:cS)(F:cR)(Q:cW)  : Prop:=Q (.returned (.tuple #[])) I ((m,Obj.cells #[.string c] 9 (0,0))::(k,Obj.cells #[.string n,.slice a b d,.slice e f g,.slice h i j] 48 (0,0))::(l,Obj.cells #[c1] 31 (0,0))::F)
theorem fL.vc{q:Nat}{c:Bs}{b:Nat}{r:Bs}{f:OA}{g i:Nat}{j:OA}{k l:Nat}{m:OA}{n o d:Nat}{c1:Value}{u u1:FrameMode}(s:jC u (Value.nilIface) u1){I:cS}{F:cR}{Q:cW}  (h:fL.V q c b r f g i j k l m n o d c1 I F Q):fB P 28 [.pointer (some ⟨q,0,none⟩),.pointer (some ⟨b,0,none⟩),.pointer (some ⟨d,0,none⟩)] u I ((q,Obj.cells #[.string c] 9 (0,0))::(b,Obj.cells #[.string r,.slice f g i,.slice j k l,.slice m n o] 48 (0,0))::(d,Obj.cells #[c1] 31 (0,0))::F) (fun e u' I' G=>u'=u1∧Q e I' G) :=
 j5 (A:=(an [] [] qH)) (args:=[.a (.p 0 q 0),.a (.p 1 b 0),.a (.p 2 d 0)]) (own:=[⟨q,9,false,[.a (.v (.string c))]⟩,⟨b,48,false,[.a (.v (.string r)),.a (.v (.slice f g i)),.a (.v (.slice j k l)),.a (.v (.slice m n o))]⟩,⟨d,31,false,[.a (.v c1)]⟩]) (keep:=[0,1,2]) [] func28 s h (by kernel_rfl) (by kernel_rfl) (by kernel_rfl) (by kernel_rfl) (by kernel_rfl) (by simp[AV.wf,At.wf]) (by simp[AV.wf,At.wf]) rfl
def fM.V(d:Nat)(c:Bs)(a:Nat)(o:Bs)(f:OA)(g h:Nat)(i:OA)(j k:Nat)(l:OA)(m n b:Nat)(c1:Value)(fb:Nat)(I:cS)(F:cR)(Q:cW)  : Prop:=∀e:Nat,∃ad:Addr,some ⟨fb,0,none⟩=some ad∧∃(cs:List Value) (el:Nat) (F1:cR),List.Perm F (((ad.add 0).block,Obj.cells cs.toArray el (0,0))::F1)∧(ad.add 0).spot=none∧(ad.add 0).off+1≤cs.length∧Q (.returned (.tuple #[])) I ((d,Obj.cells #[.string c] 9 (0,0))::(a,Obj.cells #[.string (⟨#[]⟩:Bs),.slice none 0 0,.slice none 0 0,.slice none 0 0] 48 (0,0))::(b,Obj.cells #[Value.iface 39 (.pointer (some ⟨fb,0,none⟩))] 31 (0,0))::(((ad.add 0).block,Obj.cells (c9 (ad.add 0).off [.string c] cs).toArray el (0,0))::F1))
theorem fM.vc{q:Nat}{c:Bs}{b:Nat}{r:Bs}{f:OA}{g i:Nat}{j:OA}{k l:Nat}{m:OA}{n o d:Nat}{c1:Value}{fb:Nat}{u u1:FrameMode}(s:jC u (Value.iface 39 (.pointer (some ⟨fb,0,none⟩))) u1){I:cS}{F:cR}{Q:cW}  (h:fM.V q c b r f g i j k l m n o d c1 fb I F Q):fB P 28 [.pointer (some ⟨q,0,none⟩),.pointer (some ⟨b,0,none⟩),.pointer (some ⟨d,0,none⟩)] u I ((q,Obj.cells #[.string c] 9 (0,0))::(b,Obj.cells #[.string r,.slice f g i,.slice j k l,.slice m n o] 48 (0,0))::(d,Obj.cells #[c1] 31 (0,0))::F) (fun e u' I' G=>u'=u1∧Q e I' G) :=
 j5 (A:=(an [] [] qH)) (args:=[.a (.p 0 q 0),.a (.p 1 b 0),.a (.p 2 d 0)]) (own:=[⟨q,9,false,[.a (.v (.string c))]⟩,⟨b,48,false,[.a (.v (.string r)),.a (.v (.slice f g i)),.a (.v (.slice j k l)),.a (.v (.slice m n o))]⟩,⟨d,31,false,[.a (.v c1)]⟩]) (keep:=[0,1,2]) [] func28 s h (by kernel_rfl) (by kernel_rfl) (by kernel_rfl) (by kernel_rfl) (by kernel_rfl) (by simp[AV.wf,At.wf]) (by simp[AV.wf,At.wf]) rfl
def ie.V(vb:Int→Value)(g:Nat)(c:Bs)(e:Nat)(h i j k l:Int)(m:Bs)(a:OA)(b d:Nat)(n:Int)(f:Nat)(c1:Value)(I:cS)(F:cR)(Q:cW)  : Prop:=Q (.returned (.tuple #[])) I ((g,Obj.cells #[.string c] 9 (0,0))::(e,Obj.cells #[vb h,vb i,vb j,.int .i64 k,vb l,.string m,.slice a b d,.int .i64 n] 29 (0,0))::(f,Obj.cells #[c1] 31 (0,0))::F)
theorem ie.vc{j:Nat}{c:Bs}{b:Nat}{k l m n o:Int}{q:Bs}{f:OA}{g i:Nat}{r:Int}{d:Nat}{c1:Value}{u u1:FrameMode}(s:jC u (Value.nilIface) u1){I:cS}{F:cR}{Q:cW}  (h:ie.V (.int .u8) j c b k l m n o q f g i r d c1 I F Q):fB P 17 [.pointer (some ⟨j,0,none⟩),.pointer (some ⟨b,0,none⟩),.pointer (some ⟨d,0,none⟩)] u I ((j,Obj.cells #[.string c] 9 (0,0))::(b,Obj.cells #[.int .u8 k,.int .u8 l,.int .u8 m,.int .i64 n,.int .u8 o,.string q,.slice f g i,.int .i64 r] 29 (0,0))::(d,Obj.cells #[c1] 31 (0,0))::F) (fun e u' I' G=>u'=u1∧Q e I' G) :=
 j5 (A:=(an [] [] qH)) (args:=[.a (.p 0 j 0),.a (.p 1 b 0),.a (.p 2 d 0)]) (own:=[⟨j,9,false,[.a (.v (.string c))]⟩,⟨b,29,false,[.a (.v (.int .u8 k)),.a (.v (.int .u8 l)),.a (.v (.int .u8 m)),.a (.v (.int .i64 n)),.a (.v (.int .u8 o)),.a (.v (.string q)),.a (.v (.slice f g i)),.a (.v (.int .i64 r))]⟩,⟨d,31,false,[.a (.v c1)]⟩]) (keep:=[0,1,2]) [] func17 s h (by kernel_rfl) (by kernel_rfl) (by kernel_rfl) (by kernel_rfl) (by kernel_rfl) (by simp[AV.wf,At.wf]) (by simp[AV.wf,At.wf]) rfl
def ig.V(vb:Int→Value)(d:Nat)(c:Bs)(a:Nat)(i j k l m:Int)(n:Bs)(f:OA)(g h:Nat)(o:Int)(b:Nat)(c1:Value)(fb:Nat)(I:cS)(F:cR)(Q:cW)  : Prop:=∀e:Nat,∃ad:Addr,some ⟨fb,0,none⟩=some ad∧∃(cs:List Value) (el:Nat) (F1:cR),List.Perm F (((ad.add 0).block,Obj.cells cs.toArray el (0,0))::F1)∧(ad.add 0).spot=none∧(ad.add 0).off+1≤cs.length∧Q (.returned (.tuple #[])) I ((d,Obj.cells #[.string c] 9 (0,0))::(a,Obj.cells #[vb 0,vb 0,vb 0,.int .i64 0,vb 0,.string (⟨#[]⟩:Bs),.slice none 0 0,.int .i64 0] 29 (0,0))::(b,Obj.cells #[Value.iface 39 (.pointer (some ⟨fb,0,none⟩))] 31 (0,0))::(((ad.add 0).block,Obj.cells (c9 (ad.add 0).off [.string c] cs).toArray el (0,0))::F1))
theorem ig.vc{j:Nat}{c:Bs}{b:Nat}{k l m n o:Int}{q:Bs}{f:OA}{g i:Nat}{r:Int}{d:Nat}{c1:Value}{fb:Nat}{u u1:FrameMode}(s:jC u (Value.iface 39 (.pointer (some ⟨fb,0,none⟩))) u1){I:cS}{F:cR}{Q:cW}  (h:ig.V (.int .u8) j c b k l m n o q f g i r d c1 fb I F Q):fB P 17 [.pointer (some ⟨j,0,none⟩),.pointer (some ⟨b,0,none⟩),.pointer (some ⟨d,0,none⟩)] u I ((j,Obj.cells #[.string c] 9 (0,0))::(b,Obj.cells #[.int .u8 k,.int .u8 l,.int .u8 m,.int .i64 n,.int .u8 o,.string q,.slice f g i,.int .i64 r] 29 (0,0))::(d,Obj.cells #[c1] 31 (0,0))::F) (fun e u' I' G=>u'=u1∧Q e I' G) :=
 j5 (A:=(an [] [] qH)) (args:=[.a (.p 0 j 0),.a (.p 1 b 0),.a (.p 2 d 0)]) (own:=[⟨j,9,false,[.a (.v (.string c))]⟩,⟨b,29,false,[.a (.v (.int .u8 k)),.a (.v (.int .u8 l)),.a (.v (.int .u8 m)),.a (.v (.int .i64 n)),.a (.v (.int .u8 o)),.a (.v (.string q)),.a (.v (.slice f g i)),.a (.v (.int .i64 r))]⟩,⟨d,31,false,[.a (.v c1)]⟩]) (keep:=[0,1,2]) [] func17 s h (by kernel_rfl) (by kernel_rfl) (by kernel_rfl) (by kernel_rfl) (by kernel_rfl) (by simp[AV.wf,At.wf]) (by simp[AV.wf,At.wf]) rfl
end Go.Lx
namespace Go.Lx
open Go.Vc
def uS(call:ByteArray)(f:PF)(v:Value)(B:cR):Prop :=
 (f.e=0→v=.nilIface∧B=[])∧(f.e≠0→∃(b:Nat) (u:Value) (B':cR),v=.iface 39 (.pointer (some ⟨b,0,none⟩))∧xj f u B'∧B=(b,.cells #[.string call,.int .i64 f.pos,u] 41 (0,0))::B')
def lQ{α:Type}(z:α)(g:PC→PS→α×PS)(t:ByteArray):α×PF :=
 if ((dz t).end (g (dz t) (fj t)).2).over then (z,((dz t).end (g (dz t) (fj t)).2).f) else ((g (dz t) (fj t)).1,zF)
theorem PC.dw.ends{c:PC}{f:PF}{s:PS}(h:c.dw f s):(c.end s).over=true∧(c.end s).f=f:=by
 by_cases ho:s.over=true
 ·have h1:=h.1
  unfold PC.fin at h1
  rw[if_pos ho] at h1
  have:c.end s=s:=by unfold PC.end;rw[if_pos ho]
  rw[this];exact⟨ho,Option.some.inj h1⟩
 ·have h1:=h.1
  have h2:=h.2 (by simpa using ho)
  unfold PC.fin at h1
  rw[if_neg ho] at h1
  split at h1
  ·rename_i hl
   have:c.end s=⟨s.next,⟨c.bad,c.pos,true⟩⟩:=by unfold PC.end PC.c5;rw[if_neg ho,if_pos (.inl hl),if_neg ho,if_pos hl]
   rw[this];exact⟨by simpa[PS.over] using h2,Option.some.inj h1⟩
  ·cases h1
theorem ny{c:PC}{f:PF}{s:PS}(h:c.dw f s):f.e≠0:=by
 have:=h.ends
 rw[←this.2];simpa[PS.over] using this.1
theorem kf{α:Type}{z:α}{g:PC→PS→α×PS}{t:ByteArray}{f:PF}(h:(dz t).dw f (g (dz t) (fj t)).2):lQ z g t=(z,f):=by
 unfold lQ;rw[h.ends.1,h.ends.2,if_pos rfl]
theorem pV{α:Type}{z:α}{g:PC→PS→α×PS}{t:ByteArray}(h:(dz t).Live (g (dz t) (fj t)).2)(hk:((dz t).tok (g (dz t) (fj t)).2.next).kind≠0):lQ z g t=(z,⟨130,((dz t).tok (g (dz t) (fj t)).2.next).pos,false⟩):=by
 have e:(dz t).end (g (dz t) (fj t)).2=(dz t).c5 130 (g (dz t) (fj t)).2:=by unfold PC.end;rw[h.1,if_neg (by simp),if_pos (.inr hk)]
 unfold lQ;rw[e,(h.c5 (by decide)).1];rfl
theorem uh{α:Type}{z:α}{g:PC→PS→α×PS}{t:ByteArray}(h:(dz t).Live (g (dz t) (fj t)).2)(hk:((dz t).tok (g (dz t) (fj t)).2.next).kind=0):lQ z g t=((g (dz t) (fj t)).1,zF):=by
 have e:(dz t).end (g (dz t) (fj t)).2=(g (dz t) (fj t)).2:=by
  unfold PC.end;rw[h.1,if_neg (by simp),if_neg (by rintro (h1 | h1);have:=h.2;omega;exact h1 hk)]
 unfold lQ;rw[e,h.1,if_neg (by simp)]
theorem vX{t:ByteArray}(h:4096<(t.size:Int)):(dz t).dw ⟨110,0,true⟩ (fj t):=by
 have e:fj t=⟨0,⟨110,0,true⟩⟩:=by unfold fj;rw[if_pos h]
 rw[e]
 exact⟨rfl,fun h=>by cases h⟩
theorem zc{t:ByteArray}(h:(t.size:Int)≤4096):fj t=⟨0,⟨0,0,false⟩⟩:=by unfold fj;rw[if_neg (by omega)]
theorem zd{x y z:Nat×Obj}{H F:cR}:(x::y::z::(H++F)).Perm (H++(x::y::z::F)):=cT fun z=>by simp only[cU,cX,cY];omega
theorem sb{t:ByteArray}(hs:ef t){b:Nat}{I:cS}{F F0:cR}(hF:F.Perm (pX t b (ik 0) 0::F0)) :
  cV P 18 #[.pointer (some ⟨b,0,none⟩)] I F fun e' I' G=>((t.size:Int)≤4096∧(dz t).Live (fj t)∧e'=.returned (.tuple #[])∧G.Perm ((dz t).px t b (fj t)::F0))∨∃f,(dz t).dw f (fj t)∧c7 f F0 e' G:=by
 by_cases h:(t.size:Int)≤4096
 ·have hc:=qx h
  have es:=zc h
  refine (uc h (Int.le_refl 0) (by omega) hF).mono fun e I1 G l1 hr=>?_
  rcases Nat.eq_zero_or_pos (dz t).l.length with h0 | h0
  ·obtain⟨hb,ht⟩:=hc.none h0
   rw[ht] at hr
   refine .inr ⟨_, ?_,hr⟩
   rw[es]
   exact⟨by unfold PC.fin;rw[if_neg (by decide),if_pos (by rw[h0];exact Nat.zero_le _)],fun _=>hb⟩
  ·have ht:=hc.tk h0
   have:jE (dz t).l 0 0=0:=rfl
   rw[this] at ht
   rw[ht] at hr
   exact .inl ⟨h,by rw[es];exact⟨rfl,h0⟩,hr.1,by rw[es];exact hr.2⟩
 ·have h:4096<(t.size:Int):=by omega
  exact (vQ h hs hF).mono fun e I1 G l1 hr=>.inr ⟨_,vX h,hr⟩
def qI(call:ByteArray)(x:Px)(f:PF)(F:cR)(e:Ending)(I:cS)(G:cR):Prop:=∃(n:Nd) (v:Value) (H B X:cR),e=.returned (.tuple #[n.v,v])∧n.px=x∧dI 29 false n H∧uS call f v B∧G.Perm (H++(B++(X++F)))
theorem jy{call:ByteArray}{f:PF}{bc bo be:Nat}{n:Nd}{u:Value}{F:cR}{I:cS}{e:Ending}{G:cR}(hf:c7 f ((bc,.cells #[.string call] 9 (0,0))::(bo,.cells n.enc.toArray 29 (0,0))::(be,.cells #[u] 31 (0,0))::F) e G)(hn:f.e≠0) :
  ∃ch,e=.panicked ch∧∃F8:cR,G.Perm ((bc,.cells #[.string call] 9 (0,0))::(bo,.cells n.enc.toArray 29 (0,0))::(be,.cells #[u] 31 (0,0))::F8) ∧
   fB P 17 [.pointer (some ⟨bc,0,none⟩),.pointer (some ⟨bo,0,none⟩),.pointer (some ⟨be,0,none⟩)] (.panicking ch) I ((bc,.cells #[.string call] 9 (0,0))::(bo,.cells n.enc.toArray 29 (0,0))::(be,.cells #[u] 31 (0,0))::F8)
    fun e u' I' G=>settle u'=.returning∧e=.returned (.tuple #[])∧∃(v:Value) (F9:cR),G=(bc,.cells #[.string call] 9 (0,0))::(bo,.cells jG.enc.toArray 29 (0,0))::(be,.cells #[v] 31 (0,0))::F9∧qI call fs f F (.returned (.tuple #[jG.v,v])) I' F9:=by
 obtain⟨b,w,B,X,he,hu,hG⟩:=hf
 refine⟨_,he,(b,.cells #[.string ⟨#[]⟩,.int .i64 f.pos,w] 41 (0,0))::(B++(X++F)),hG.trans (cT fun z=>by simp only[cX,cU,cY];omega), ?_⟩
 refine fB.mono (ig.vc (pM _) (Q:=fun e I' G=>e=.returned (.tuple #[])∧G=(bc,.cells #[.string call] 9 (0,0))::(bo,.cells jG.enc.toArray 29 (0,0))::(be,.cells #[.iface 39 (.pointer (some ⟨b,0,none⟩))] 31 (0,0))::(b,.cells #[.string call,.int .i64 f.pos,w] 41 (0,0))::(B++(X++F))) fun bn=>?_) fun e u' I' G l ⟨hu',he,hG⟩=>?_
 ·refine⟨_,rfl,[.string ⟨#[]⟩,.int .i64 f.pos,w],41,B++(X++F),.refl _,rfl,by rw[eE];exact (by decide:0+1≤3),rfl, ?_⟩
  rw[eE];rfl
 ·subst hu'
  exact⟨rfl,he,_,_,hG,jG,_,[],(b,.cells #[.string call,.int .i64 f.pos,w] 41 (0,0))::B,X,rfl,jt,dM,⟨fun h=>absurd h hn,fun _=>⟨b,w,B,rfl,hu,rfl⟩⟩,.refl _⟩
theorem qJ{t call:ByteArray}(hs:ef t){js:Fn}{rf rc:Array Value}{g:PC→PS→Px×PS}(hk:∀(c:PC) (f:PF),Kp c f (g c))
  (hr:∀(c:PC),c.Of t→∀(b:Nat) (s:PS) (I:cS) (F F0:cR),c.Live s→F.Perm (c.px t b s::F0)→gj P (.func js rf rc) [.pointer (some ⟨b,0,none⟩)] I F (cZ c t b lN F0 (g c s))) (I:cS) (F:cR) :
  cV P 11 #[.string call,.string t,.func js rf rc] I F (qI call (lQ fs g t).1 (lQ fs g t).2 F):=by
 refine fH.vc ?_
 unfold fH.V
 intro bc bo be b
 have kd:∀{f:PF} {n:Nd} {u:Value} {e:Ending} {I1:cS} {G:cR},lQ fs g t=(fs,f)→f.e≠0→c7 f ((bc,.cells #[.string call] 9 (0,0))::(bo,.cells n.enc.toArray 29 (0,0))::(be,.cells #[u] 31 (0,0))::F) e G→_:=fun {f n u e I1 G} h1 h2 h3=>jy (I:=I1) h3 h2
 refine (sb hs (qz (.refl _))).mono fun e I1 G l1 hd=>?_
 rcases hd with ⟨hsz,hL,rfl,hG⟩ | ⟨f,hd,hf⟩
 rotate_left
 ·have hdd:=hk (dz t) f _ hd
  obtain⟨ch,he,F8,hG,hT⟩:=jy (I:=I1) (n:=jG) hf (ny hd)
  refine .inr ⟨ch,he,F8,hG,fB.mono hT fun e u I2 G l2 ⟨hu,he,v,F9,hG,hB⟩=>?_⟩
  subst hG
  exact⟨_,he,_,_,_,_,_,_,_,_,_,_,_,_,F9,.refl _,.inl ⟨hu,by rw[kf hdd];exact hB⟩⟩
 have hc:=qx hsz
 refine .inl ⟨rfl,_,hG.trans (cT fun z=>by simp only[cU,cX,cY];omega:List.Perm _ (_::_::_::((dz t).px t b (fj t)::F))), ?_⟩
 refine gj.mono (hr _ hc b _ I1 _ _ hL (qz (.refl _))) fun e I2 G l2 hd=>?_
 rcases hd with ⟨hL2,v,H,rfl,hv,hG⟩ | ⟨f,hd,hf⟩
 rotate_left
 ·obtain⟨ch,he,F8,hG,hT⟩:=jy (I:=I2) (n:=jG) hf (ny hd)
  refine .inr ⟨ch,he,F8,hG,fB.mono hT fun e u I3 G l3 ⟨hu,he,v,F9,hG,hB⟩=>?_⟩
  subst hG
  exact⟨_,he,_,_,_,_,_,_,_,_,_,_,_,_,F9,.refl _,.inl ⟨hu,by rw[kf hd];exact hB⟩⟩
 obtain⟨n,rfl,hpx,hO⟩:=hv
 refine .inl ⟨_,_,_,_,_,_,_,_,_,_,rfl,(dz t).px t b (g (dz t) (fj t)).2::(H++F),hG.trans (cT fun z=>by simp only[cU,cX,cY];omega), ?_⟩
 refine⟨_,rfl,_,(dA.of (I:=I2) (qz (.refl _))).rd.dp (p:=1) (q:=0) rfl,fun h=>?_,fun h=>?_⟩
 ·have h:((dz t).tok (g (dz t) (fj t)).2.next).kind≠0:=by simpa using h
  refine (ej (dA.of (qz (.refl _))) 130).mono fun e I3 G l3 hf=>.inr ?_
  have hf:=hf.tail (qz (.refl _))
  have hf:c7 _ ((bc,.cells #[.string call] 9 (0,0))::(bo,.cells n.enc.toArray 29 (0,0))::(be,.cells #[.nilIface] 31 (0,0))::F) e G:=c7.more (A:=H) (hf.perm zd (.refl _))
  obtain⟨ch,he,F8,hG,hT⟩:=jy (I:=I3) hf (show (130:Int)≠0 by decide)
  refine⟨ch,he,F8,hG,fB.mono hT fun e u I4 G l4 ⟨hu,he,v,F9,hG,hB⟩=>?_⟩
  subst hG
  exact⟨_,he,_,_,_,_,_,_,_,_,_,_,_,_,F9,.refl _,.inl ⟨hu,by rw[pV hL2 h];exact hB⟩⟩
 ·have h:((dz t).tok (g (dz t) (fj t)).2.next).kind=0:=by simpa using h
  refine fB.mono (ie.vc pL (Q:=fun e I' G=>e=.returned (.tuple #[])∧G=(bc,.cells #[.string call] 9 (0,0))::(bo,.cells n.enc.toArray 29 (0,0))::(be,.cells #[.nilIface] 31 (0,0))::((dz t).px t b (g (dz t) (fj t)).2::(H++F))) ⟨rfl,rfl⟩) fun e u I3 G l3 ⟨hu,he,hG⟩=>?_
  subst hu hG
  refine⟨_,he,_,_,_,_,_,_,_,_,_,_,_,_,_,.refl _,.inl ⟨rfl, ?_⟩⟩
  rw[uh hL2 h]
  exact⟨n,_,H,[],[(dz t).px t b (g (dz t) (fj t)).2],rfl,hpx,hO,⟨fun _=>⟨rfl,rfl⟩,fun h=>absurd rfl h⟩,cT fun z=>by simp only[cU,cX,cY];omega⟩
def kv:gQ:=⟨⟨#[]⟩,none,0,[],none,0,[],none,0,[]⟩
def pW:gO:=⟨⟨#[]⟩,[],[],[]⟩
theorem vY:mn false kv []:=⟨[],[],[],rfl,⟨[],fun _=>[],rfl,Acc.nil,fun h=>(by cases h),fun i k h=>by simp[kv] at h⟩,⟨[],fun _=>[],rfl,Acc.nil,fun h=>(by cases h),fun i k h=>by simp[kv] at h⟩,[],fun _=>[],rfl,Acc.nil,fun h=>(by cases h),fun i k h=>by simp[kv] at h⟩
def jV(call:ByteArray)(x:gO)(f:PF)(F:cR)(e:Ending)(I:cS)(G:cR):Prop:=∃(n:gQ) (v:Value) (H B X:cR),e=.returned (.tuple #[n.v,v])∧n.p=x∧mn false n H∧uS call f v B∧G.Perm (H++(B++(X++F)))
theorem ga{call:ByteArray}{f:PF}{bc bo be:Nat}{n:gQ}{u:Value}{F:cR}{I:cS}{e:Ending}{G:cR}(hf:c7 f ((bc,.cells #[.string call] 9 (0,0))::(bo,.cells n.enc.toArray 48 (0,0))::(be,.cells #[u] 31 (0,0))::F) e G)(hn:f.e≠0) :
  ∃ch,e=.panicked ch∧∃F8:cR,G.Perm ((bc,.cells #[.string call] 9 (0,0))::(bo,.cells n.enc.toArray 48 (0,0))::(be,.cells #[u] 31 (0,0))::F8) ∧
   fB P 28 [.pointer (some ⟨bc,0,none⟩),.pointer (some ⟨bo,0,none⟩),.pointer (some ⟨be,0,none⟩)] (.panicking ch) I ((bc,.cells #[.string call] 9 (0,0))::(bo,.cells n.enc.toArray 48 (0,0))::(be,.cells #[u] 31 (0,0))::F8)
    fun e u' I' G=>settle u'=.returning∧e=.returned (.tuple #[])∧∃(v:Value) (F9:cR),G=(bc,.cells #[.string call] 9 (0,0))::(bo,.cells kv.enc.toArray 48 (0,0))::(be,.cells #[v] 31 (0,0))::F9∧jV call pW f F (.returned (.tuple #[kv.v,v])) I' F9:=by
 obtain⟨b,w,B,X,he,hu,hG⟩:=hf
 refine⟨_,he,(b,.cells #[.string ⟨#[]⟩,.int .i64 f.pos,w] 41 (0,0))::(B++(X++F)),hG.trans (cT fun z=>by simp only[cX,cU,cY];omega), ?_⟩
 refine fB.mono (fM.vc (pM _) (Q:=fun e I' G=>e=.returned (.tuple #[])∧G=(bc,.cells #[.string call] 9 (0,0))::(bo,.cells kv.enc.toArray 48 (0,0))::(be,.cells #[.iface 39 (.pointer (some ⟨b,0,none⟩))] 31 (0,0))::(b,.cells #[.string call,.int .i64 f.pos,w] 41 (0,0))::(B++(X++F))) fun bn=>?_) fun e u' I' G l ⟨hu',he,hG⟩=>?_
 ·refine⟨_,rfl,[.string ⟨#[]⟩,.int .i64 f.pos,w],41,B++(X++F),.refl _,rfl,by rw[eE];exact (by decide:0+1≤3),rfl, ?_⟩
  rw[eE];rfl
 ·subst hu'
  exact⟨rfl,he,_,_,hG,kv,_,[],(b,.cells #[.string call,.int .i64 f.pos,w] 41 (0,0))::B,X,rfl,rfl,vY,⟨fun h=>absurd h hn,fun _=>⟨b,w,B,rfl,hu,rfl⟩⟩,.refl _⟩
theorem mw{t call:ByteArray}(hs:ef t){js:Fn}{rf rc:Array Value}{g:PC→PS→gO×PS}(hk:∀(c:PC) (f:PF),Kp c f (g c))
  (hr:∀(c:PC),c.Of t→∀(b:Nat) (s:PS) (I:cS) (F F0:cR),c.Live s→F.Perm (c.px t b s::F0)→gj P (.func js rf rc) [.pointer (some ⟨b,0,none⟩)] I F (cZ c t b zb F0 (g c s))) (I:cS) (F:cR) :
  cV P 15 #[.string call,.string t,.func js rf rc] I F (jV call (lQ pW g t).1 (lQ pW g t).2 F):=by
 refine eC.vc ?_
 unfold eC.V
 intro bc bo be b
 have kd:∀{f:PF} {n:gQ} {u:Value} {e:Ending} {I1:cS} {G:cR},lQ pW g t=(pW,f)→f.e≠0→c7 f ((bc,.cells #[.string call] 9 (0,0))::(bo,.cells n.enc.toArray 48 (0,0))::(be,.cells #[u] 31 (0,0))::F) e G→_:=fun {f n u e I1 G} h1 h2 h3=>ga (I:=I1) h3 h2
 refine (sb hs (qz (.refl _))).mono fun e I1 G l1 hd=>?_
 rcases hd with ⟨hsz,hL,rfl,hG⟩ | ⟨f,hd,hf⟩
 rotate_left
 ·have hdd:=hk (dz t) f _ hd
  obtain⟨ch,he,F8,hG,hT⟩:=ga (I:=I1) (n:=kv) hf (ny hd)
  refine .inr ⟨ch,he,F8,hG,fB.mono hT fun e u I2 G l2 ⟨hu,he,v,F9,hG,hB⟩=>?_⟩
  subst hG
  exact⟨_,he,_,_,_,_,_,_,_,_,_,_,_,_,F9,.refl _,.inl ⟨hu,by rw[kf hdd];exact hB⟩⟩
 have hc:=qx hsz
 refine .inl ⟨rfl,_,hG.trans (cT fun z=>by simp only[cU,cX,cY];omega:List.Perm _ (_::_::_::((dz t).px t b (fj t)::F))), ?_⟩
 refine gj.mono (hr _ hc b _ I1 _ _ hL (qz (.refl _))) fun e I2 G l2 hd=>?_
 rcases hd with ⟨hL2,v,H,rfl,hv,hG⟩ | ⟨f,hd,hf⟩
 rotate_left
 ·obtain⟨ch,he,F8,hG,hT⟩:=ga (I:=I2) (n:=kv) hf (ny hd)
  refine .inr ⟨ch,he,F8,hG,fB.mono hT fun e u I3 G l3 ⟨hu,he,v,F9,hG,hB⟩=>?_⟩
  subst hG
  exact⟨_,he,_,_,_,_,_,_,_,_,_,_,_,_,F9,.refl _,.inl ⟨hu,by rw[kf hd];exact hB⟩⟩
 obtain⟨n,rfl,hpx,hO⟩:=hv
 refine .inl ⟨_,_,_,_,_,_,_,_,_,_,rfl,(dz t).px t b (g (dz t) (fj t)).2::(H++F),hG.trans (cT fun z=>by simp only[cU,cX,cY];omega), ?_⟩
 refine⟨_,rfl,_,(dA.of (I:=I2) (qz (.refl _))).rd.dp (p:=1) (q:=0) rfl,fun h=>?_,fun h=>?_⟩
 ·have h:((dz t).tok (g (dz t) (fj t)).2.next).kind≠0:=by simpa using h
  refine (ej (dA.of (qz (.refl _))) 130).mono fun e I3 G l3 hf=>.inr ?_
  have hf:=hf.tail (qz (.refl _))
  have hf:c7 _ ((bc,.cells #[.string call] 9 (0,0))::(bo,.cells n.enc.toArray 48 (0,0))::(be,.cells #[.nilIface] 31 (0,0))::F) e G:=c7.more (A:=H) (hf.perm zd (.refl _))
  obtain⟨ch,he,F8,hG,hT⟩:=ga (I:=I3) hf (show (130:Int)≠0 by decide)
  refine⟨ch,he,F8,hG,fB.mono hT fun e u I4 G l4 ⟨hu,he,v,F9,hG,hB⟩=>?_⟩
  subst hG
  exact⟨_,he,_,_,_,_,_,_,_,_,_,_,_,_,F9,.refl _,.inl ⟨hu,by rw[pV hL2 h];exact hB⟩⟩
 ·have h:((dz t).tok (g (dz t) (fj t)).2.next).kind=0:=by simpa using h
  refine fB.mono (fL.vc pL (Q:=fun e I' G=>e=.returned (.tuple #[])∧G=(bc,.cells #[.string call] 9 (0,0))::(bo,.cells n.enc.toArray 48 (0,0))::(be,.cells #[.nilIface] 31 (0,0))::((dz t).px t b (g (dz t) (fj t)).2::(H++F))) ⟨rfl,rfl⟩) fun e u I3 G l3 ⟨hu,he,hG⟩=>?_
  subst hu hG
  refine⟨_,he,_,_,_,_,_,_,_,_,_,_,_,_,_,.refl _,.inl ⟨rfl, ?_⟩⟩
  rw[uh hL2 h]
  exact⟨n,_,H,[],[(dz t).px t b (g (dz t) (fj t)).2],rfl,hpx,hO,⟨fun _=>⟨rfl,rfl⟩,fun h=>absurd rfl h⟩,cT fun z=>by simp only[cU,cX,cY];omega⟩
theorem tr(t:ByteArray):lQ fs (fun c=>c.fK) t=kR t:=rfl
theorem tt(t:ByteArray):lQ pW (fun c=>c.body) t=kQ t:=rfl
theorem Kp.body{c:PC}{f:PF}:Kp c f c.body:=fun s h=>Kp.mY _ _ ((((h.take _).name).take _))
theorem nf:di P 16:=mR [16] (by kernel_rfl) _ (by decide)
theorem qK:di P 12:=mR [12] (by kernel_rfl) _ (by decide)
theorem vZ{c:PC}{t:ByteArray}(hc:c.Of t){b:Nat}{s:PS}{I:cS}{F F0:cR}(hl:c.Live s)(hF:F.Perm (c.px t b s::F0)):cV P 12 #[.pointer (some ⟨b,0,none⟩)] I F (cZ c t b lN F0 (c.fK s)):=by
 refine gU.vc ?_
 unfold gU.V
 intro b0
 refine cZ.use (jU hc b s I _ _ hl (qy hF)) (fun v K I2 G l2 hL2 hv hG=>.inl ?_) fun f e I2 G l2 hd hf=>.inr (c7.dk [_] hf fun e' G' hf'=>.inr ⟨f,hd,hf'⟩)
 obtain⟨n,rfl,hv⟩:=hv
 exact⟨_,_,_,_,_,_,_,_,_,_,rfl,c.px t b (c.fK s).2::(K++F0),hG.trans (cT fun z=>by simp only[cU,cX,cY];omega),.inl ⟨hL2,_,K,rfl,⟨n,rfl,hv⟩,.refl _⟩⟩
theorem tu{t:ByteArray}(hs:ef t)(I:cS)(F:cR):cV P 6 #[.string t] I F (qI (⟨#[69,120,112,114]⟩:ByteArray) (kR t).1 (kR t).2 F):=by
 refine jx.vc ?_
 unfold jx.V
 intro b0
 refine (qJ hs (g:=fun c=>c.fK) (fun c f=>Kp.fK) (fun c hc b s I F F0 hl hF=>gj.ym qK (vZ hc hl hF)) I _).mono fun e I1 G l1 ⟨n,v,H,B,X,he,hpx,hO,hE,hG⟩=>?_
 subst he
 rw[tr] at hpx hE
 exact⟨_,_,_,_,_,_,_,_,_,_,_,rfl,H++(B++(X++F)),hG.trans (cT fun z=>by simp only[cU,cX,cY];omega),n,v,H,B,X,rfl,hpx,hO,hE,.refl _⟩
theorem oY{t:ByteArray}(hs:ef t)(I:cS)(F:cR):cV P 10 #[.string t] I F (jV (⟨#[83,116,114,97,116,101,103,121]⟩:ByteArray) (kQ t).1 (kQ t).2 F):=by
 refine fZ.vc ?_
 unfold fZ.V
 intro b0
 refine (mw hs (g:=fun c=>c.body) (fun c f=>Kp.body) (fun c hc b s I F F0 hl hF=>gj.ym nf (rZ hc hl hF)) I _).mono fun e I1 G l1 ⟨n,v,H,B,X,he,hpx,hO,hE,hG⟩=>?_
 subst he
 rw[tt] at hpx hE
 exact⟨_,_,_,_,_,_,_,_,_,_,_,rfl,H++(B++(X++F)),hG.trans (cT fun z=>by simp only[cU,cX,cY];omega),n,v,H,B,X,rfl,hpx,hO,hE,.refl _⟩
section
variable {I:cS} {l:List ByteArray} {i:Nat} {nm:ByteArray} {o:Obj} {m:Nat} {G R:cR}
end
section
variable (s:gQ) (hl:s.p.mV) {I:cS} {F:cR} (hok:s.Ok I F)
end
end Go.Lx
namespace Go.Lx
open Go.Vc
section
variable {s:gQ} (hl:s.p.wI) {I:cS} {F:cR} (hok:s.Ok I F)
include hl hok
end
end Go.Lx
namespace Go.Lx
open Go.Vc
section
variable {s:gQ} {I:cS} {F:cR} {c:Nat}
end
end Go.Lx
namespace Go.Lx
open Go.Vc
section
variable {s:gQ} {I:cS} {F:cR} {c:Nat}
end
end Go.Lx
namespace Go.Lx
open Go.Vc
end Go.Lx
namespace Go.Lx
open Go.Vc Go.Proofs.Tryd
def yh:List (Nat×List Sh):=[(3,[.one (.int .i64)]),(4,[.one .bool]),(34,[.one (.int .i64)]),(39,[.one .ptr])]
def dV.V(vi:Int→Value)(vp:OA→Value)(b:Value)(I:cS)(F:cR)(Q:cW)  : Prop:=∃q:Bool,eJ P .eql 31 (.tmp 7) (.const (Value.nilIface)) b Value.nilIface q∧(It q (Q (.returned (.tuple #[vi 0,vi 0])) I F) (∀a:Nat,∃(cs:List Value) (el:Nat) (F1:cR),List.Perm ((a,Obj.cells #[vi 0] 34 (0,0))::F) (((⟨a,0,none⟩:Addr).block,Obj.cells cs.toArray el (0,0))::F1)∧(⟨a,0,none⟩:Addr).spot=none∧(⟨a,0,none⟩:Addr).off+1≤cs.length∧∀c:Nat,cV P 14 (#[b,Value.iface 59 (vp (some (⟨c,0,none⟩:Addr)))]) I (((c,Obj.cells #[vp none] 39 (0,0))::(((⟨a,0,none⟩:Addr).block,Obj.cells (c9 (⟨a,0,none⟩:Addr).off [vi (-1)] cs).toArray el (0,0))::F1))) fun e1 I1 G1=>∃(r:Bool),e1=.returned (.bool r)∧∃F2:cR,List.Perm G1 F2∧(It r (∃(m:OA),Rd I1 F2 (⟨c,0,none⟩:Addr) [vp m]∧∃ad:Addr,m=some ad∧∃(m1:Int),Rd I1 F2 (ad.add 1) [vi m1]∧k6 P 14 (#[b,Value.iface 60 (vp (some (⟨a,0,none⟩:Addr)))]) I1 (·) F2 .bool fun r1 I2 F3=>∃(m2:Int),Rd I2 F3 (⟨a,0,none⟩:Addr) [vi m2]∧Q (.returned (.tuple #[vi m2,vi m1])) I2 F3) (k6 P 14 (#[b,Value.iface 60 (vp (some (⟨a,0,none⟩:Addr)))]) I1 (·) F2 .bool fun r2 I3 F4=>∃(m3:Int),Rd I3 F4 (⟨a,0,none⟩:Addr) [vi m3]∧Q (.returned (.tuple #[vi m3,vi 0])) I3 F4))))
theorem dV.vc{a:Value}{I:cS}{F:cR}{Q:cW}  (h:dV.V (.int .i64) .pointer a I F Q):cV P 7 #[a] I F Q :=
 tw (A:=(eU [1001,5002] [] [14] yh [] [] [3000,4000] [] [] [] [])) [14] func7 h
end Go.Lx
namespace Go.Lx
open Go.Vc
theorem oZ{I:cS}{G:cR}{b ty:Nat}{v:Value}(h:(b,Obj.cells #[v] ty (0,0))∈G):Rd I G (⟨b,0,none⟩:Addr) [v]:=Rd.vr h 0 fun j hj=>by
 have:j=0:=by simpa using hj
 subst this;rfl
theorem uT(I:cS)(F:cR):cV P 7 #[.nilIface] I F (k8 (.tuple #[.int .i64 0,.int .i64 0]) F):=by
 refine dV.vc ?_
 unfold dV.V
 exact⟨true,oN (by kernel_rfl),fun _=>⟨rfl,rfl⟩,fun h=>(by cases h)⟩
theorem jz{I:cS}(hg:Gl I){b:Nat}{call:ByteArray}{pos n:Int}{u:Value}(hb:I b=some (.cells #[.string call,.int .i64 pos,u] 41 (0,0)))
  (hE:∀J,cS.le I J→∀(G:cR) (t ty:Nat) (old:Value),cV P 14 #[.iface 39 (.pointer (some ⟨b,0,none⟩)),.iface 60 (.pointer (some ⟨t,0,none⟩))] J ((t,.cells #[old] ty (0,0))::G) (yb true ((t,.cells #[.int .i64 n] ty (0,0))::G))) (F:cR) :
  cV P 7 #[.iface 39 (.pointer (some ⟨b,0,none⟩))] I F (k8 (.tuple #[.int .i64 n,.int .i64 pos]) F):=by
 refine cV.clean ?_
 refine dV.vc ?_
 unfold dV.V
 refine⟨false,mo (by kernel_rfl),fun h=>(by cases h),fun _ b_e=>⟨[.int .i64 0],_,F,.refl _,rfl,by simp,fun b_f=>?_⟩⟩
 refine (ua hg b).mono fun e I1 G l1 ⟨he,hG⟩=>?_
 subst hG
 refine⟨true,he,_,.refl _,fun _=>⟨some ⟨b,0,none⟩,oZ (.head _),⟨b,0,none⟩,rfl,pos, ?_, ?_⟩,fun h=>(by cases h)⟩
 ·rw[xg]
  exact Rd.sP (l1.at hb) _ 1 fun j hj=>by
   have:j=0:=by simpa using hj
   subst this;rfl
 ·refine cV.perm ((hE I1 l1 ((b_f,.cells #[.pointer (some ⟨b,0,none⟩)] 39 (0,0))::F) b_e 34 (.int .i64 (-1))).mono fun e I2 G l2 ⟨he,hG⟩=>?_) (.swap ..)
  subst hG
  exact⟨true,he,_,.refl _,n,oZ (.head _),rfl,[_,_],.refl _⟩
end Go.Lx
namespace Go.Lx
open Go.Vc Go.Proofs.Tryd
def yi:List (Nat×List Sh):=[(3,[.one (.int .i64)]),(24,[.one (.int .u8)]),(32,[.agg [(.int .u8),(.int .u8),(.int .u8),(.int .i64),(.int .u8),.str,.slc,(.int .i64)],.one .any]),(35,[.one (.int .i64),.one (.int .i64)]),(49,[.agg [.str,.slc,.slc,.slc],.one .any])]
def iB.V(ka:Nat→Bs→OA→Nat→Nat→OA→Nat→Nat→OA→Nat→Nat→Nat×Obj)(nV:Int→Int→Int→Int→Int→Bs→OA→Nat→Nat→Int→Value)(nO:Int→Int→Int→Int→Int→Bs→OA→Nat→Nat→Int→Obj)(vi:Int→Value)(vs:Bs→Value)(vl:OA→Nat→Nat→Value)(vt:Bool→Value)(I:cS)(F:cR)(Q:cW)  : Prop:=sk P 6 (#[vs (⟨#[49,32,45,32,50,32,45,32,51]⟩:Bs)]) I (·) F fun e1 I1 G1=>∃(t u v w x:Int) (y:Bs) (c:OA) (b e:Nat) (j:Int) (r1:Value),e1=.returned (.tuple #[nV t u v w x y c b e j,r1])∧G1 fun F1=>∀aq:Nat,sk P 7 #[r1] I1 ((aq,nO t u v w x y c b e j)::·) F1 fun e2 I2 G2=>∃(r0 aC:Int),e2=.returned (.tuple #[vi r0,vi aC])∧G2 fun F2=>sk P 6 (#[vs (⟨#[40,49,32,43,32,38]⟩:Bs)]) I2 ((aq,nO t u v w x y c b e j)::·) F2 fun e3 I3 G3=>∃(k l n o p:Int) (r:Bs) (f:OA) (g h:Nat) (s:Int) (aD:Value),e3=.returned (.tuple #[nV k l n o p r f g h s,aD])∧G3 fun F3=>∀au:Nat,sk P 7 #[aD] I3 ((aq,nO t u v w x y c b e j)::(au,nO k l n o p r f g h s)::·) F3 fun e4 I4 G4=>∃(av aw:Int),e4=.returned (.tuple #[vi av,vi aw])∧G4 fun F4=>sk P 10 (#[vs (⟨#[115,116,114,97,116,101,103,121,32,115,123,115,116,97,116,101,32,97,123,125,125]⟩:Bs)]) I4 ((aq,nO t u v w x y c b e j)::(au,nO k l n o p r f g h s)::·) F4 fun e5 I5 G5=>∃(d:Bs) (aj:OA) (ak al:Nat) (am:OA) (an ao:Nat) (i:OA) (a ap:Nat) (aA:Value),e5=.returned (.tuple #[.agg #[vs d,vl aj ak al,vl am an ao,vl i a ap],aA])∧G5 fun F5=>∀az:Nat,sk P 10 (#[vs (⟨#[115,116,114,97,116,101,103,121,32,115,123,125]⟩:Bs)]) I5 ((aq,nO t u v w x y c b e j)::(au,nO k l n o p r f g h s)::(ka az d aj ak al am an ao i a ap)::·) F5 fun e6 I6 G6=>∃(ar:Bs) (z:OA) (aa ab:Nat) (ac:OA) (ae af:Nat) (ag:OA) (ah ai:Nat) (aE:Value),e6=.returned (.tuple #[.agg #[vs ar,vl z aa ab,vl ac ae af,vl ag ah ai],aE])∧G6 fun F6=>∀ay:Nat,sk P 7 #[aE] I6 ((aq,nO t u v w x y c b e j)::(au,nO k l n o p r f g h s)::(ka az d aj ak al am an ao i a ap)::(ka ay ar z aa ab ac ae af ag ah ai)::·) F6 fun e7 I7 G7=>∃(ax aB:Int),e7=.returned (.tuple #[vi ax,vi aB])∧G7 fun F7=>∃q:Bool,eJ P .eql 31 (.tmp 47) (.const (Value.nilIface)) r1 Value.nilIface q∧(It q (It (r0==0) (It (aC==0) (It (j==6) (It ((b:Int)==2) ((0≤(0:Int)∧(0:Int)<(b:Int))∧∃ad:Addr,c=some ad∧∃(m:Int),Rd I7 ((aq,nO t u v w x y c b e j)::(au,nO k l n o p r f g h s)::(ka az d aj ak al am an ao i a ap)::(ka ay ar z aa ab ac ae af ag ah ai)::F7) ((ad.add (Int.toNat 0*8)).add 1) [.int .u8 m]∧(It (m==7) ((0≤(0:Int)∧(0:Int)<(b:Int))∧∃aF:Addr,c=some aF∧∃(m1:Int),Rd I7 ((aq,nO t u v w x y c b e j)::(au,nO k l n o p r f g h s)::(ka az d aj ak al am an ao i a ap)::(ka ay ar z aa ab ac ae af ag ah ai)::F7) ((aF.add (Int.toNat 0*8)).add 7) [vi m1]∧(It (m1==2) (It (av==111) (It (aw==5) (∃q1:Bool,eJ P .eql 31 (.tmp 94) (.const (Value.nilIface)) aA Value.nilIface q1∧(It q1 (It (d.toList==(⟨#[115]⟩:Bs).toList) (It ((a:Int)==1) ((0≤(0:Int)∧(0:Int)<(a:Int))∧∃aG:Addr,i=some aG∧∃(m2:Int),Rd I7 ((aq,nO t u v w x y c b e j)::(au,nO k l n o p r f g h s)::(ka az d aj ak al am an ao i a ap)::(ka ay ar z aa ab ac ae af ag ah ai)::F7) ((aG.add (Int.toNat 0*3)).add 2) [vi m2]∧(It (m2==11) (It (ax==130) (Q (.returned (vt (aB==11))) I7 F7) (Q (.returned (vt false)) I7 F7)) (Q (.returned (vt false)) I7 F7))) (Q (.returned (vt false)) I7 F7)) (Q (.returned (vt false)) I7 F7)) (Q (.returned (vt false)) I7 F7))) (Q (.returned (vt false)) I7 F7)) (Q (.returned (vt false)) I7 F7)) (Q (.returned (vt false)) I7 F7))) (It false (It (av==111) (It (aw==5) (∃q2:Bool,eJ P .eql 31 (.tmp 94) (.const (Value.nilIface)) aA Value.nilIface q2∧(It q2 (It (d.toList==(⟨#[115]⟩:Bs).toList) (It ((a:Int)==1) ((0≤(0:Int)∧(0:Int)<(a:Int))∧∃aH:Addr,i=some aH∧∃(m3:Int),Rd I7 ((aq,nO t u v w x y c b e j)::(au,nO k l n o p r f g h s)::(ka az d aj ak al am an ao i a ap)::(ka ay ar z aa ab ac ae af ag ah ai)::F7) ((aH.add (Int.toNat 0*3)).add 2) [vi m3]∧(It (m3==11) (It (ax==130) (Q (.returned (vt (aB==11))) I7 F7) (Q (.returned (vt false)) I7 F7)) (Q (.returned (vt false)) I7 F7))) (Q (.returned (vt false)) I7 F7)) (Q (.returned (vt false)) I7 F7)) (Q (.returned (vt false)) I7 F7))) (Q (.returned (vt false)) I7 F7)) (Q (.returned (vt false)) I7 F7)) (Q (.returned (vt false)) I7 F7)))) (It false (It (av==111) (It (aw==5) (∃q3:Bool,eJ P .eql 31 (.tmp 94) (.const (Value.nilIface)) aA Value.nilIface q3∧(It q3 (It (d.toList==(⟨#[115]⟩:Bs).toList) (It ((a:Int)==1) ((0≤(0:Int)∧(0:Int)<(a:Int))∧∃aI:Addr,i=some aI∧∃(m4:Int),Rd I7 ((aq,nO t u v w x y c b e j)::(au,nO k l n o p r f g h s)::(ka az d aj ak al am an ao i a ap)::(ka ay ar z aa ab ac ae af ag ah ai)::F7) ((aI.add (Int.toNat 0*3)).add 2) [vi m4]∧(It (m4==11) (It (ax==130) (Q (.returned (vt (aB==11))) I7 F7) (Q (.returned (vt false)) I7 F7)) (Q (.returned (vt false)) I7 F7))) (Q (.returned (vt false)) I7 F7)) (Q (.returned (vt false)) I7 F7)) (Q (.returned (vt false)) I7 F7))) (Q (.returned (vt false)) I7 F7)) (Q (.returned (vt false)) I7 F7)) (Q (.returned (vt false)) I7 F7))) (It false (It (av==111) (It (aw==5) (∃q4:Bool,eJ P .eql 31 (.tmp 94) (.const (Value.nilIface)) aA Value.nilIface q4∧(It q4 (It (d.toList==(⟨#[115]⟩:Bs).toList) (It ((a:Int)==1) ((0≤(0:Int)∧(0:Int)<(a:Int))∧∃aJ:Addr,i=some aJ∧∃(m5:Int),Rd I7 ((aq,nO t u v w x y c b e j)::(au,nO k l n o p r f g h s)::(ka az d aj ak al am an ao i a ap)::(ka ay ar z aa ab ac ae af ag ah ai)::F7) ((aJ.add (Int.toNat 0*3)).add 2) [vi m5]∧(It (m5==11) (It (ax==130) (Q (.returned (vt (aB==11))) I7 F7) (Q (.returned (vt false)) I7 F7)) (Q (.returned (vt false)) I7 F7))) (Q (.returned (vt false)) I7 F7)) (Q (.returned (vt false)) I7 F7)) (Q (.returned (vt false)) I7 F7))) (Q (.returned (vt false)) I7 F7)) (Q (.returned (vt false)) I7 F7)) (Q (.returned (vt false)) I7 F7))) (It false (It (av==111) (It (aw==5) (∃q5:Bool,eJ P .eql 31 (.tmp 94) (.const (Value.nilIface)) aA Value.nilIface q5∧(It q5 (It (d.toList==(⟨#[115]⟩:Bs).toList) (It ((a:Int)==1) ((0≤(0:Int)∧(0:Int)<(a:Int))∧∃aK:Addr,i=some aK∧∃(m6:Int),Rd I7 ((aq,nO t u v w x y c b e j)::(au,nO k l n o p r f g h s)::(ka az d aj ak al am an ao i a ap)::(ka ay ar z aa ab ac ae af ag ah ai)::F7) ((aK.add (Int.toNat 0*3)).add 2) [vi m6]∧(It (m6==11) (It (ax==130) (Q (.returned (vt (aB==11))) I7 F7) (Q (.returned (vt false)) I7 F7)) (Q (.returned (vt false)) I7 F7))) (Q (.returned (vt false)) I7 F7)) (Q (.returned (vt false)) I7 F7)) (Q (.returned (vt false)) I7 F7))) (Q (.returned (vt false)) I7 F7)) (Q (.returned (vt false)) I7 F7)) (Q (.returned (vt false)) I7 F7))) (It false (It (av==111) (It (aw==5) (∃q6:Bool,eJ P .eql 31 (.tmp 94) (.const (Value.nilIface)) aA Value.nilIface q6∧(It q6 (It (d.toList==(⟨#[115]⟩:Bs).toList) (It ((a:Int)==1) ((0≤(0:Int)∧(0:Int)<(a:Int))∧∃aL:Addr,i=some aL∧∃(m7:Int),Rd I7 ((aq,nO t u v w x y c b e j)::(au,nO k l n o p r f g h s)::(ka az d aj ak al am an ao i a ap)::(ka ay ar z aa ab ac ae af ag ah ai)::F7) ((aL.add (Int.toNat 0*3)).add 2) [vi m7]∧(It (m7==11) (It (ax==130) (Q (.returned (vt (aB==11))) I7 F7) (Q (.returned (vt false)) I7 F7)) (Q (.returned (vt false)) I7 F7))) (Q (.returned (vt false)) I7 F7)) (Q (.returned (vt false)) I7 F7)) (Q (.returned (vt false)) I7 F7))) (Q (.returned (vt false)) I7 F7)) (Q (.returned (vt false)) I7 F7)) (Q (.returned (vt false)) I7 F7))) (It false (It (av==111) (It (aw==5) (∃q7:Bool,eJ P .eql 31 (.tmp 94) (.const (Value.nilIface)) aA Value.nilIface q7∧(It q7 (It (d.toList==(⟨#[115]⟩:Bs).toList) (It ((a:Int)==1) ((0≤(0:Int)∧(0:Int)<(a:Int))∧∃aM:Addr,i=some aM∧∃(m8:Int),Rd I7 ((aq,nO t u v w x y c b e j)::(au,nO k l n o p r f g h s)::(ka az d aj ak al am an ao i a ap)::(ka ay ar z aa ab ac ae af ag ah ai)::F7) ((aM.add (Int.toNat 0*3)).add 2) [vi m8]∧(It (m8==11) (It (ax==130) (Q (.returned (vt (aB==11))) I7 F7) (Q (.returned (vt false)) I7 F7)) (Q (.returned (vt false)) I7 F7))) (Q (.returned (vt false)) I7 F7)) (Q (.returned (vt false)) I7 F7)) (Q (.returned (vt false)) I7 F7))) (Q (.returned (vt false)) I7 F7)) (Q (.returned (vt false)) I7 F7)) (Q (.returned (vt false)) I7 F7)))
theorem iB.vc  {I:cS}{F:cR}{Q:cW}  (h:iB.V (fun W a b c d e f g h i j=>(W,Obj.cells #[.string a,.slice b c d,.slice e f g,.slice h i j] 48 (0,0))) (fun k o t n f s a l c q=>.agg #[.int .u8 k,.int .u8 o,.int .u8 t,.int .i64 n,.int .u8 f,.string s,.slice a l c,.int .i64 q]) (fun k o t n f s a l c q=>.cells #[.int .u8 k,.int .u8 o,.int .u8 t,.int .i64 n,.int .u8 f,.string s,.slice a l c,.int .i64 q] 29 (0,0)) (.int .i64) .string .slice .bool I F Q):cV P 5 #[] I F Q :=
 tw (A:=(an [8001,8004,8008,8013,8019,8027,9000,9003,9007,9011,9016,9022,9030,9034] [6,7,10] yi)) [6,7,10] func5 h
end Go.Lx
namespace Go.Lx
open Go.Vc
def w6(I:cS)(call:ByteArray)(f:PF)(v:Value):Prop:=(f.e=0→v=.nilIface)∧(f.e≠0→match f.tok with
 | true=>∃u,s8 I (⟨#[84,111,107,101,110,115]⟩:ByteArray) f.pos (lM f.e) u∧s8 I call f.pos u v
 | false=>s8 I call f.pos (lM f.e) v)
theorem uS.keep{I:cS}{call:ByteArray}{f:PF}{v:Value}{B X G:cR}{w:World}(h:uS call f v B)(hw:Sat I (B++(X++G)) w):∃J,cS.le I J∧Sat J G w∧w6 J call f v:=by
 by_cases he:f.e=0
 ·obtain⟨rfl,rfl⟩:=h.1 he
  exact⟨I,cS.le_refl I,Sat.drop (A:=X) hw,fun _=>rfl,fun h=>absurd he h⟩
 ·obtain⟨b,u,B',rfl,hu,rfl⟩:=h.2 he
  obtain⟨l1,s1⟩:=hw.gK
  obtain⟨e,p,tk⟩:=f
  cases tk with
  | false =>
    obtain⟨rfl,rfl⟩:=hu
    exact⟨_,l1,Sat.drop (A:=X) s1,fun h=>absurd h he,fun _=>⟨b,rfl,by simp[cS.put]⟩⟩
  | true =>
    obtain⟨b2,rfl,rfl⟩:=hu
    obtain⟨l2,s2⟩:=s1.gK
    exact⟨_,cS.le_trans l1 l2,Sat.drop (A:=X) s2,fun h=>absurd h he,fun _=>⟨_,⟨b2,rfl,by simp[cS.put]⟩,⟨b,rfl,l2.at (by simp[cS.put])⟩⟩⟩
theorem o0{t:ByteArray}(hs:ef t)(I:cS)(F:cR):cV P 6 #[.string t] I F fun e I' G=>∃(n:Nd) (v:Value) (H:cR),e=.returned (.tuple #[n.v,v])∧n.px=(kR t).1∧dI 29 false n H∧w6 I' (⟨#[69,120,112,114]⟩:ByteArray) (kR t).2 v∧G=H++F :=
 (tu hs I F).keep fun e I' G w l hw ⟨n,v,H,B,X,he,hpx,hO,hE,hG⟩=>by
   obtain⟨J,h1,h2,h3⟩:=uS.keep (X:=X) (G:=H++F) hE (hw.perm (cT fun z=>by have q:=qi hG z;simp only[cX] at q ⊢;omega))
   exact⟨J,_,h1,h2,n,v,H,he,hpx,hO,h3,rfl⟩
theorem jW{t:ByteArray}(hs:ef t)(I:cS)(F:cR):cV P 10 #[.string t] I F fun e I' G=>∃(n:gQ) (v:Value) (H:cR),e=.returned (.tuple #[n.v,v])∧n.p=(kQ t).1∧mn false n H∧w6 I' (⟨#[83,116,114,97,116,101,103,121]⟩:ByteArray) (kQ t).2 v∧G=H++F :=
 (oY hs I F).keep fun e I' G w l hw ⟨n,v,H,B,X,he,hpx,hO,hE,hG⟩=>by
   obtain⟨J,h1,h2,h3⟩:=uS.keep (X:=X) (G:=H++F) hE (hw.perm (cT fun z=>by have q:=qi hG z;simp only[cX] at q ⊢;omega))
   exact⟨J,_,h1,h2,n,v,H,he,hpx,hO,h3,rfl⟩
def PF.w(f:PF):Value:=.tuple #[.int .i64 f.e,.int .i64 f.pos]
theorem my{I:cS}(hg:Gl I){call:ByteArray}{f:PF}(hz:f.e=0→f.pos=0){v:Value}(h:w6 I call f v)(F:cR):cV P 7 #[v] I F (k8 f.w F):=by
 by_cases he:f.e=0
 ·unfold PF.w
  rw[h.1 he,hz he,he];exact uT I F
 ·have h2:=h.2 he
  split at h2
  ·obtain⟨u,hu,hv⟩:=h2
   obtain⟨b,rfl,hb⟩:=id hv
   exact jz hg hb (fun J hJ G t ty old=>xi (hg.mono hJ) (hv.mono hJ) (hu.mono hJ)) F
  ·obtain⟨b,rfl,hb⟩:=id h2
   exact jz hg hb (fun J hJ G t ty old=>xh (hg.mono hJ) (h2.mono hJ)) F
theorem ze:kR (⟨#[49,32,45,32,50,32,45,32,51]⟩:ByteArray)=(.mk 6 7 0 0 0 ⟨#[]⟩ [.mk 6 7 0 0 0 ⟨#[]⟩ [.mk 1 0 1 1 0 ⟨#[]⟩ [] 0,.mk 1 0 1 2 0 ⟨#[]⟩ [] 4] 2,.mk 1 0 1 3 0 ⟨#[]⟩ [] 8] 6,zF):=by kernel_rfl
theorem zf:(kR (⟨#[40,49,32,43,32,38]⟩:ByteArray)).2=⟨111,5,true⟩:=by kernel_rfl
theorem zg:kQ (⟨#[115,116,114,97,116,101,103,121,32,115,123,115,116,97,116,101,32,97,123,125,125]⟩:ByteArray)=(⟨(⟨#[115]⟩:ByteArray),[],[],[⟨(⟨#[97]⟩:ByteArray),[],11⟩]⟩,zF):=by kernel_rfl
theorem zh:(kQ (⟨#[115,116,114,97,116,101,103,121,32,115,123,125]⟩:ByteArray)).2=⟨130,11,false⟩:=by kernel_rfl
theorem zi{n:Nd}{k o ty v f p:Int}{w:ByteArray}{x y:Px}(h:n.px=.mk k o ty v f w [x,y] p):∃a b:Nd,n.kids=[a,b]∧a.px=x∧b.px=y∧n.pos=p:=by
 have hk:=Nd.wv n
 rw[h] at hk
 have hp:n.px.pos=p:=by rw[h];rfl
 have hk:[x,y]=n.kids.map Nd.px:=hk
 match hn:n.kids,hk with
 | [a,b],hk =>
   simp only[List.map_cons,List.map_nil,List.cons.injEq,and_true] at hk
   exact⟨a,b,rfl,hk.1.symm,hk.2.symm,by rw[←hp,Nd.vw]⟩
 | [],hk=>simp at hk
 | [a],hk=>simp at hk
 | a::b::c::r,hk=>simp at hk
theorem qL{I:cS}(hg:Gl I)(F:cR):cV P 5 #[] I F fun e I' G=>e=.returned (.bool true)∧∃X,G.Perm (X++F):=by
 refine iB.vc ?_
 unfold iB.V
 refine (o0 (t:=(⟨#[49,32,45,32,50,32,45,32,51]⟩:ByteArray)) (by unfold ef;decide) I F).mono fun e I1 G l1 ⟨n,v,H,he,hpx,hO,hE,hG⟩=>?_
 subst he hG
 rw[ze] at hpx hE
 obtain⟨ka,kb,hk,hka,hkb,hnp⟩:=zi hpx
 refine⟨_,_,_,_,_,_,_,_,_,_,_,rfl,H++F,.refl _,fun bn=>?_⟩
 refine cV.ret (my (hg.mono l1) (fun _=>rfl) hE _) fun I2 l2=>⟨_,_,rfl,_,.refl _, ?_⟩
 have hg2:=hg.mono (cS.le_trans l1 l2)
 refine (o0 (t:=(⟨#[40,49,32,43,32,38]⟩:ByteArray)) (by unfold ef;decide) I2 _).mono fun e I3 G l3 ⟨n2,v2,H2,he,hpx2,hO2,hE2,hG⟩=>?_
 subst he hG
 rw[zf] at hE2
 refine⟨_,_,_,_,_,_,_,_,_,_,_,rfl,H2++(H++F),cT fun z=>by simp only[cU,cX,cY];omega,fun b_=>?_⟩
 refine cV.ret (my (hg2.mono l3) (fun h=>absurd h (show ¬(111:Int)=0 by decide)) hE2 _) fun I4 l4=>⟨_,_,rfl,_,.refl _, ?_⟩
 have hg4:=hg2.mono (cS.le_trans l3 l4)
 refine (jW (t:=(⟨#[115,116,114,97,116,101,103,121,32,115,123,115,116,97,116,101,32,97,123,125,125]⟩:ByteArray)) (by unfold ef;decide) I4 _).mono fun e I5 G l5 ⟨n3,v3,H3,he,hpx3,hO3,hE3,hG⟩=>?_
 subst he hG
 rw[zg] at hpx3 hE3
 refine⟨_,_,_,_,_,_,_,_,_,_,_,rfl,H3++(H2++(H++F)),cT fun z=>by simp only[cU,cX,cY];omega,fun bs=>?_⟩
 refine (jW (t:=(⟨#[115,116,114,97,116,101,103,121,32,115,123,125]⟩:ByteArray)) (by unfold ef;decide) I5 _).mono fun e I6 G l6 ⟨n4,v4,H4,he,hpx4,hO4,hE4,hG⟩=>?_
 subst he hG
 rw[zh] at hE4
 refine⟨_,_,_,_,_,_,_,_,_,_,_,rfl,H4++(H3++(H2++(H++F))),cT fun z=>by simp only[cU,cX,cY];omega,fun b__=>?_⟩
 refine cV.ret (my (hg4.mono (cS.le_trans l5 l6)) (fun h=>absurd h (show ¬(130:Int)=0 by decide)) hE4 _) fun I7 l7=>⟨_,_,rfl,_,.refl _, ?_⟩
 have hin:∀{Z:cR} x,x∈H→x∈Z++(H4++(H3++(H2++(H++F)))):=fun x hx=>by simp[hx]
 have okn:∀{Z:cR},jn I7 (Z++(H4++(H3++(H2++(H++F))))) n:=fun {Z}=>hO.ok hin
 have hlen:n.kids.length=2:=by rw[hk];rfl
 have zz:∀{Z:cR},∃ad,n.a=some ad∧Rd I7 (Z++(H4++(H3++(H2++(H++F))))) (ad.add (Int.toNat 0*8)) ka.enc:=fun {Z}=>by
  obtain⟨ad,x,had,hx,hr,_,_⟩:=(okn (Z:=Z)).kids.at (i:=0) (by decide) (by rw[hlen];decide)
  have:x=ka:=by
   have h0:n.kids[0]? = some x:=hx
   rw[hk] at h0;exact (Option.some.inj h0).symm
  subst this
  exact⟨ad,had,hr⟩
 have hko:ka.oper=7:=by rw[←Nd.wz,hka];rfl
 have hkp:ka.pos=2:=by rw[←Nd.vw,hka];rfl
 obtain rfl:=hE.1 rfl
 obtain rfl:=hE3.1 rfl
 have hst:n3.states.map dn.p=[⟨(⟨#[97]⟩:ByteArray),[],11⟩]:=by have:n3.p.states=[⟨(⟨#[97]⟩:ByteArray),[],11⟩]:=by { rw[hpx3] };exact this
 have hnm:n3.name=(⟨#[115]⟩:ByteArray):=by have:n3.p.name=(⟨#[115]⟩:ByteArray):=by { rw[hpx3] };exact this
 obtain⟨x,hx,hxp⟩:∃x,n3.states=[x]∧x.pos=11:=by
  match hn:n3.states,hst with
  | [x],h =>
    simp only[List.map_cons,List.map_nil,List.cons.injEq,and_true] at h
    exact⟨x,rfl,by have:x.p.pos=11:=by { rw[h] };exact this⟩
  | [],h=>simp at h
  | x::y::r,h=>simp at h
 have hl3:n3.states.length=1:=by rw[hx];rfl
 have ok3:∀{Z:cR},n3.Ok I7 (Z++(H4++(H3++(H2++(H++F))))):=fun {Z}=>hO3.ok fun y hy=>by simp[hy]
 have st3:∀{Z:cR},∃ad,n3.ta=some ad∧Rd I7 (Z++(H4++(H3++(H2++(H++F))))) (ad.add (Int.toNat 0*3)) x.enc:=fun {Z}=>by
  obtain⟨ad,y,had,hy,hr,_⟩:=qM.Aa (ok3 (Z:=Z)).states (i:=0) (by decide) (by rw[hl3];decide)
  have:y=x:=by
   have h0:n3.states[0]? = some y:=hy
   rw[hx] at h0;exact (Option.some.inj h0).symm
  subst this
  exact⟨ad,had,hr⟩
 refine⟨true,oN (by kernel_rfl),fun _=>⟨fun _=>⟨fun _=>⟨fun _=>⟨fun _=>⟨⟨by decide,by rw[hlen];decide⟩, ?_⟩,fun h=>?_⟩,fun h=>?_⟩,fun h=>absurd h (by decide)⟩,fun h=>absurd h (by decide)⟩,fun h=>absurd h (by decide)⟩
 rotate_left
 ·rw[hlen] at h;exact absurd h (by decide)
 ·rw[hnp] at h;exact absurd h (by decide)
 obtain⟨ad,had,hr⟩:=zz (Z:=[_,_,_,_])
 refine⟨ad,had,_,hr.field (o:=1) rfl,fun _=>⟨⟨by decide,by rw[hlen];decide⟩,ad,had,_,hr.field (o:=7) rfl,fun _=>⟨fun _=>⟨fun _=>⟨true,oN (by kernel_rfl),fun _=>⟨fun _=>⟨fun _=>⟨⟨by decide,by rw[hl3];decide⟩, ?_⟩,fun h=>?_⟩,fun h=>?_⟩,fun h=>absurd h (by decide)⟩,fun h=>absurd h (by decide)⟩,fun h=>absurd h (by decide)⟩,fun h=>?_⟩,fun h=>?_⟩
 rotate_left
 ·rw[hl3] at h;exact absurd h (by decide)
 ·rw[hnm] at h;exact absurd h (by simp)
 ·rw[hkp] at h;exact absurd h (by decide)
 ·rw[hko] at h;exact absurd h (by decide)
 obtain⟨ad2,had2,hr2⟩:=st3 (Z:=[_,_,_,_])
 refine⟨ad2,had2,_,hr2.field (o:=2) rfl,fun _=>⟨fun _=>⟨rfl,H4++(H3++(H2++H)),cT fun z=>by simp only[cX];omega⟩,fun h=>absurd h (by decide)⟩,fun h=>?_⟩
 rw[hxp] at h;exact absurd h (by decide)
theorem sd{I:cS}(hg:Gl I)(F:cR):cV P 5 #[] I F (k8 (.bool true) F):=cV.clean (qL hg F)
end Go.Lx
namespace Go.Lx
open Go.Vc Go.Proofs.Tryd
def yj:List (Nat×List Sh):=[]
def jA.V(a:Bs)(I:cS)(F:cR)(Q:cW)  : Prop:=∀b:Nat,Q (.returned (Value.iface 61 (.pointer (some ⟨b,0,none⟩)))) I (F)
theorem jA.vc{a:Bs}{I:cS}{F:cR}{Q:cW}  (h:jA.V a I F Q):cV P 9 #[.string a] I F Q :=
 tw (A:=(an [] [] yj)) [] func9 h
end Go.Lx
namespace Go.As
open Go.RowKit Go.Extern.Stop Go.Stop Go.Extern
theorem w7(v:Value)(w:World):(ReflectliteType.typeOf #[.iface 61 v]).run Go.Proofs.Tryd.prog w=.ok (.iface 110 (.agg #[.pointer (some ⟨1,61,none⟩)])) w:=by kernel_rfl
theorem v5(w:World):(ReflectliteType.relation "AssignableTo" ReflectliteType.assignableTo #[.agg #[.pointer (some ⟨1,61,none⟩)],.iface 110 (.agg #[.pointer (some ⟨1,34,none⟩)])]).run Go.Proofs.Tryd.prog w=.ok (.bool false) w:=by kernel_rfl
theorem zj(v:Value)(xT:TypeId)(w:World):(Instr.typeAssert (.iface 61 v) xT 115 true).run Go.Proofs.Tryd.prog w=.ok (.tuple #[.nilIface,.bool false]) w:=run_typeAssert_lacksB Go.Proofs.Tryd.underlying115 (by kernel_rfl) (by kernel_rfl) v xT w
theorem zk(v:Value)(xT:TypeId)(w:World):(Instr.typeAssert (.iface 61 v) xT 118 true).run Go.Proofs.Tryd.prog w=.ok (.tuple #[.nilIface,.bool false]) w:=run_typeAssert_lacksB Go.Proofs.Tryd.underlying118 (by kernel_rfl) (by kernel_rfl) v xT w
theorem zl(v:Value)(xT:TypeId)(w:World):(Instr.typeAssert (.iface 61 v) xT 120 true).run Go.Proofs.Tryd.prog w=.ok (.tuple #[.nilIface,.bool false]) w:=run_typeAssert_lacksB Go.Proofs.Tryd.underlying120 (by kernel_rfl) (by kernel_rfl) v xT w
set_option maxHeartbeats 4000000 in
theorem yk(b:Nat)(v:Value)(a:Addr)(tgt:Value)(w:World)(he:w.cell? ⟨b,2,none⟩=some (.iface 61 v)) :
  Calls Go.Proofs.Tryd.prog 27 #[.iface 39 (.pointer (some ⟨b,0,none⟩)),tgt,.agg #[.pointer (some ⟨1,60,none⟩),.pointer (some a),.int .u64 150],yN] w fun ev w'=>ev=.returned (.bool false) ∧
   w'=w.alloc (nt 60 a):=by
 have hTO:=@run_callFunc_extern Go.Proofs.Tryd.prog 42 _ ReflectliteType.typeOf Go.Proofs.Tryd.func42 (by kernel_rfl) (by kernel_rfl) (by kernel_rfl) (by kernel_rfl)
 have hA:=@run_callFunc_extern Go.Proofs.Tryd.prog 93 _ (ReflectliteType.relation "AssignableTo" ReflectliteType.assignableTo) Go.Proofs.Tryd.func93 (by kernel_rfl) (by kernel_rfl) (by kernel_rfl) (by kernel_rfl)
 have tO:=w7
 have tO2:=nr
 have mA:=dE
 have aS:=v5
 have aF:=oQ
 have t1:=vO
 have t2:=vP
 have t3:=zj
 have t4:=zk
 have t5:=zl
 have mU:=jv
 have hel:b<w.heap.size:=by
  rcases Nat.lt_or_ge b w.heap.size with h | h
  ·exact h
  ·simp[World.cell?,Array.getElem?_eq_none h] at he
 have he1:(w.alloc (nt 60 a)).cell? ⟨b,2,none⟩=some (.iface 61 v):=by rw[World.cell?_alloc_lt _ _ _ hel];exact he
 go_enter Go.Proofs.Tryd.func27,Go.Proofs.Tryd.ntmps27
 go_wp2
 refine wp_loop_rounds 2 ?_
 rw[rounds_succ]
 go_wp2_with (first | (go_at_call 87;refine (qw b _ _ he1).mono ?_;rintro e w' ⟨rfl,rfl⟩))
 rw[rounds_succ]
 go_wp2
 go_ret
 exact⟨rfl,rfl⟩
end Go.As
namespace Go.Vc
theorem cV.w9{P:Program}{f:FuncId}{args:Array Value}{v:Value}{I:cS}{F:cR}{b:Nat}{o:Obj}(h:∀J,cS.le I J→J b=some o→cV P f args J F (Go.Lx.k8 v F)):cV P f args I ((b,o)::F) (Go.Lx.k8 v ((b,o)::F)):=fun w hw=>by
 have hb:=hw.off b o (List.mem_cons_self ..)
 obtain⟨hl,hs⟩:=hw.gK
 refine (h (I.put b o) hl (cS.jH I b o) w hs).mono fun e w' ⟨I',F',g1,g2,g3,g4⟩=>?_
 subst g4
 obtain⟨d1,d2⟩:=Sat.sI hb g1 g2
 exact⟨I'.del b,(b,o)::F',d1,d2,g3,rfl⟩
end Go.Vc
namespace Go.Lx
open Go.Vc
theorem v7(s:ByteArray)(I:cS)(F:cR):cV P 9 #[.string s] I F fun e I' G=>(∃v,e=.returned (.iface 61 v))∧G=F:=by
 refine jA.vc ?_
 unfold jA.V
 exact fun b=>⟨⟨_,rfl⟩,rfl⟩
theorem yl{I:cS}{F:cR}{t:Nat}(hg:Gl I){call:ByteArray}{pos:Int}{u v:Value}(h:s8 I call pos (.iface 61 u) v):cV P 14 #[v,.iface 60 (.pointer (some ⟨t,0,none⟩))] I F (yb false F):=fun w hw=>by
 obtain⟨b,rfl,hb⟩:=h
 refine (Go.As.wP _ _ _ w _ false (hg.cell hw) (Go.As.yk b u ⟨w.heap.size,0,none⟩ _ _ (gD (s8.cell hb hw)))).mono fun e w' ⟨he,hw'⟩=>⟨I,_,cS.le_refl I, ?_,he,rfl⟩
 rw[hw']
 exact ((hw.eb _).eb _).eb _
theorem se{I:cS}(hg:Gl I)(n:Int)(F:cR):cV P 7 #[lM n] I F (k8 (.tuple #[.int .i64 n,.int .i64 0]) F):=by
 refine cV.clean ?_
 refine dV.vc ?_
 unfold dV.V
 refine⟨false,mo (by kernel_rfl),fun h=>(by cases h),fun _ b_e=>⟨[.int .i64 0],_,F,.refl _,rfl,by simp,fun b_f=>?_⟩⟩
 refine (yc hg n).mono fun e I1 G l1 ⟨he,hG⟩=>?_
 subst hG
 refine⟨false,he,_,.refl _,fun h=>(by cases h),fun _=>?_⟩
 refine cV.perm ((yS (hg.mono l1) n).mono fun e I2 G l2 ⟨he,hG⟩=>?_) (.swap ..)
 subst hG
 exact⟨true,he,_,.refl _,n,oZ (.head _),rfl,[_,_],.refl _⟩
theorem tx{I:cS}(hg:Gl I){b:Nat}{call:ByteArray}{pos:Int}{u:Value}(hb:I b=some (.cells #[.string call,.int .i64 pos,.iface 61 u] 41 (0,0)))(F:cR) :
  cV P 7 #[.iface 39 (.pointer (some ⟨b,0,none⟩))] I F (k8 (.tuple #[.int .i64 (-1),.int .i64 pos]) F):=by
 refine cV.clean ?_
 refine dV.vc ?_
 unfold dV.V
 refine⟨false,mo (by kernel_rfl),fun h=>(by cases h),fun _ b_e=>⟨[.int .i64 0],_,F,.refl _,rfl,by simp,fun b_f=>?_⟩⟩
 refine (ua hg b).mono fun e I1 G l1 ⟨he,hG⟩=>?_
 subst hG
 refine⟨true,he,_,.refl _,fun _=>⟨some ⟨b,0,none⟩,oZ (.head _),⟨b,0,none⟩,rfl,pos, ?_, ?_⟩,fun h=>(by cases h)⟩
 ·rw[xg]
  exact Rd.sP (l1.at hb) _ 1 fun j hj=>by
   have:j=0:=by simpa using hj
   subst this;rfl
 ·refine (yl (hg.mono l1) ⟨b,rfl,l1.at hb⟩).mono fun e I2 G l2 ⟨he,hG⟩=>?_
  subst hG
  exact⟨false,he,_,.refl _, -1,oZ (.tail _ (.head _)),rfl,[_,_],.refl _⟩
end Go.Lx
namespace Go.Lx
open Go.Vc Go.Proofs.Tryd
def mz:List (Nat×List Sh):=[(4,[.one .bool]),(31,[.one .ifc]),(35,[.one (.int .i64),.one (.int .i64)])]
def fi.V(vi:Int→Value)(vs:Bs→Value)(vt:Bool→Value)(vp:OA→Value)(n c to:Int)(a:Bs)(I:cS)(F:cR)(Q:cW)  : Prop:=k6 P 5 #[] I (·) F vt fun r I1 F1=>(It (!r) (Q (.returned (vt r)) I1 F1) (Dt ((a.size:Int)>1048576) (Q (.returned (vt r)) I1 F1) (sk P 7 (#[Value.iface 34 (vi n)]) I1 (·) F1 fun e2 I2 G2=>∃(r0 r1:Int),e2=.returned (.tuple #[vi r0,vi r1])∧G2 fun F2=>∀b:Nat,cV P 7 (#[Value.iface 39 (vp (some (⟨b,0,none⟩:Addr)))]) I2 (((b,Obj.cells #[vs a,vi c,Value.iface 34 (vi n)] 41 (0,0))::F2)) fun e3 I3 G3=>∃(d e:Int),e3=.returned (.tuple #[vi d,vi e])∧∃F3:cR,List.Perm G3 F3∧∀b1:Nat,∀b2:Nat,cV P 7 (#[Value.iface 39 (vp (some (⟨b2,0,none⟩:Addr)))]) I3 (((b2,Obj.cells #[vs a,vi to,Value.iface 39 (vp (some (⟨b1,0,none⟩:Addr)))] 41 (0,0))::((b1,Obj.cells #[vs (⟨#[120]⟩:Bs),vi c,Value.iface 34 (vi n)] 41 (0,0))::F3))) fun e4 I4 G4=>∃(f g:Int),e4=.returned (.tuple #[vi f,vi g])∧∃F4:cR,List.Perm G4 F4∧sk P 9 #[vs a] I4 (·) F4 fun e5 I5 G5=>∃(i:TypeId) (j:Value),e5=.returned (Value.iface i j)∧G5 fun F5=>∀b3:Nat,cV P 7 (#[Value.iface 39 (vp (some (⟨b3,0,none⟩:Addr)))]) I5 (((b3,Obj.cells #[vs a,vi to,Value.iface i j] 41 (0,0))::F5)) fun e6 I6 G6=>∃(h k:Int),e6=.returned (.tuple #[vi h,vi k])∧∃F6:cR,List.Perm G6 F6∧(It (r0==n) (It (r1==0) (It (d==n) (It (e==c) (It (f==n) (It (g==to) (It (h==(-1)) (Q (.returned (vt (k==to))) I6 F6) (Q (.returned (vt false)) I6 F6)) (Q (.returned (vt false)) I6 F6)) (Q (.returned (vt false)) I6 F6)) (Q (.returned (vt false)) I6 F6)) (Q (.returned (vt false)) I6 F6)) (Q (.returned (vt false)) I6 F6)) (Q (.returned (vt false)) I6 F6)))))
theorem fi.vc{n b to:Int}{a:Bs}{I:cS}{F:cR}{Q:cW}  (h:fi.V (.int .i64) .string .bool .pointer n b to a I F Q):cV P 4 #[.int .i64 n,.int .i64 b,.int .i64 to,.string a] I F Q :=
 tw (A:=(eU [2001,2005,9002,9005,9010,9015,9020,9025,9029] [] [5,7,9] mz [] [] [6005,7006,7009,8005] [] [] [] [])) [5,7,9] func4 h
end Go.Lx
namespace Go.Lx
open Go.Vc
theorem mB(n at' to:Int)(call:ByteArray)(I:cS)(hg:Gl I)(F:cR):cV P 4 #[.int .i64 n,.int .i64 at',.int .i64 to,.string call] I F fun e I' G=>e=.returned (.bool true):=by
 refine fi.vc ?_
 unfold fi.V
 refine cV.ret (sd hg F) fun I1 l1=>⟨_,rfl,F,.refl _,fun h=>absurd h (by decide),fun _=>⟨fun _=>rfl,fun hc=>?_⟩⟩
 have g1:=hg.mono l1
 refine cV.ret (se g1 n F) fun I2 l2=>⟨_,_,rfl,F,.refl _,fun b=>?_⟩
 have g2:=g1.mono l2
 refine cV.ret (cV.w9 fun J hJ hb=>jz (g2.mono hJ) hb (fun K hK G t ty old=>xh ((g2.mono hJ).mono hK) ⟨b,rfl,hK.at hb⟩) F) fun I3 l3=>⟨_,_,rfl,_,.refl _,fun b1 b2=>?_⟩
 have g3:=g2.mono l3
 refine cV.ret (cV.w9 fun J2 h2 hb2=>cV.w9 fun J3 h3 hb1=>jz ((g3.mono h2).mono h3) (h3.at hb2) (fun K hK G t ty old=>xi (((g3.mono h2).mono h3).mono hK) ⟨b2,rfl,hK.at (h3.at hb2)⟩ ⟨b1,rfl,hK.at hb1⟩) _) fun I4 l4=>⟨_,_,rfl,_,.refl _, ?_⟩
 have g4:=g3.mono l4
 refine (v7 call I4 _).mono fun e I5 G l5 ⟨⟨v,he⟩,hG⟩=>?_
 subst he hG
 have g5:=g4.mono l5
 refine⟨_,_,rfl,_,.refl _,fun b3=>?_⟩
 refine cV.ret (cV.w9 fun J hJ hb3=>tx (g5.mono hJ) hb3 _) fun I6 l6=>⟨_,_,rfl,_,.refl _, ?_⟩
 refine⟨fun _=>⟨fun _=>⟨fun _=>⟨fun _=>⟨fun _=>⟨fun _=>⟨fun _=>?_,fun h=>?_⟩,fun h=>?_⟩,fun h=>?_⟩,fun h=>?_⟩,fun h=>?_⟩,fun h=>?_⟩,fun h=>?_⟩
 ·show Ending.returned (.bool (to==to))=_
  rw[beq_self_eq_true]
 all_goals simp at h
end Go.Lx
namespace Go.Vc
open Go.ChangeShapes Go.WideShapes Go.ChangeAt Go.RowKit
theorem iz.cell{w w':World}(h:iz w w'){a:Addr}(ha:a.block<w.heap.size):w'.cell? a=w.cell? a:=by
 unfold World.cell?;rw[h.heap _ ha]
theorem iz.same{w w':World}(h:iz w w'){p:MemPlace}(hp:p.block<w.heap.size):w.sameAt w' p:=by
 cases p with
 | cell b off=>exact h.cell (a:=⟨b,off,none⟩) hp
 | map b=>exact h.heap b hp
theorem kx{H:Type}{enc:TypeId×Value→H}{P:Program}{T:TypeId→Prop}{w w':World}(K:Kids P T)(hsz:∀{t e:TypeId},T t→P.underlying t=some (.slice e)→0<P.cellsOf e)(st:iz w w'){sp':Nat→Bool} :
  ∀{ts:List TypeId} {vs:List Value} {ds:List (DataW H)} {ps:List MemPlace},(∀t∈ts,T t)→DataW.TrodAll enc P w 0 (fun _=>true) true ts vs ds ps→(∀p∈ps,sp' p.block=true)→DataW.TrodAll enc P w' 0 sp' true ts vs ds ps
 | [],[],[],ps,_,h,_=>h
 | t::ts,v::vs,d::ds,ps,ht,⟨p,q,⟨n,h1⟩,h2,e⟩,hs=>by
   subst e
   have hlt:∀x∈p,x.block<w.heap.size:=DataW.trod_lt n t v.cells.toList (d,p) h1
   refine⟨p,q,⟨n, ?_⟩,kx K hsz st (fun t' ht'=>ht t' (List.mem_cons_of_mem _ ht')) h2 (fun x hx=>hs x (List.mem_append_right _ hx)),rfl⟩
   exact DataW.trod_stays K hsz (fun h=>by cases h) (ht t (List.mem_cons_self ..)) h1 (fun x hx=>st.same (hlt x hx)) (fun x hx=>hs x (List.mem_append_left _ hx))
 | [],_::_,_,_,_,h,_=>h.elim
 | [],[],_::_,_,_,h,_=>h.elim
 | _::_,[],_,_,_,h,_=>h.elim
 | _::_,_::_,[],_,_,h,_=>h.elim
end Go.Vc
