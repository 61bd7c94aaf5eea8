import Derived.Test.YtcbilbkafjnenaaGreatDoorTypesTextsB6
set_option linter.unusedVariables false
set_option linter.unusedSimpArgs false
set_option linter.unusedSectionVars false
set_option maxRecDepth 100000
namespace Go.Lx
open Go.Vc Go.Proofs.Tryz
def shT_y3:List (Nat×List Sh):=[(3,[.one (.int .i64)]),(4,[.one .bool]),(22,[.one .slc]),(23,[.one .slc]),(24,[.one .slc]),(33,[.one .slc]),(35,[.agg [(.int .u8),(.int .u8),(.int .u8),(.int .i64),(.int .u8),.str,.slc,(.int .i64)]]),(38,[.one .any]),(41,[.one (.int .i64),.one (.int .i64)]),(50,[.agg [.str,.slc,.slc,.slc],.agg [(.int .i64),(.int .i64),.bool]]),(54,[.one (.int .u8),.one .any]),(68,[.agg [.str,(.int .u8),(.int .u8),(.int .u8),(.int .u8),(.int .i64),(.int .u8),.str,.slc,(.int .i64),(.int .i64)]]),(72,[.one .slc]),(74,[.agg [.str,.slc,(.int .i64)]]),(76,[.agg [(.int .u8),(.int .u8),(.int .u8),(.int .i64),(.int .u8),.str,.slc,(.int .i64)],.agg [(.int .i64),(.int .i64),.bool]]),(85,[.one .slc]),(87,[.agg [(.int .u8),(.int .u8),(.int .u8),(.int .i64),(.int .u8),.str,.slc,(.int .i64),.slc,(.int .i64)]]),(95,[.agg [(.int .u8),(.int .u8),.str,(.int .u8),(.int .u8),(.int .u8),(.int .i64),(.int .u8),.str,.slc,(.int .i64),(.int .u8),(.int .u8),(.int .u8),(.int .i64),(.int .u8),.str,.slc,(.int .i64),(.int .u8),(.int .u8),(.int .u8),(.int .i64),(.int .u8),.str,.slc,(.int .i64),(.int .u8),(.int .u8),(.int .u8),(.int .i64),(.int .u8),.str,.slc,(.int .i64),(.int .i64)]])]
def law15_awake.V(ka:Nat→Int→Int→Bool→Nat×Obj)(kb:Nat→Bs→OA→Nat→Nat→OA→Nat→Nat→OA→Nat→Nat→Nat×Obj)(nV:Int→Int→Int→Int→Int→Bs→OA→Nat→Nat→Int→Value)(nO:Int→Int→Int→Int→Int→Bs→OA→Nat→Nat→Int→Obj)(vi:Int→Value)(vs:Bs→Value)(vl:OA→Nat→Nat→Value)(vt:Bool→Value)(I:Imm)(F:Heap)(Q:PostQ)  : Prop:=Tcn P 17 (#[vs (⟨#[115,116,114,97,116,101,103,121,32,115,32,123,32,114,101,103,32,110,32,105,110,116,32,61,32,49,59,32,114,101,103,32,100,111,110,101,32,98,111,111,108,32,61,32,116,114,117,101,59,32,115,116,97,116,101,32,97,32,123,32,119,104,101,110,32,100,111,110,101,32,100,111,32,103,111,116,111,32,97,59,32,125,32,125]⟩:Bs)]) I (·) F fun e1 I1 G1=>∃(ab:Bs) (a:OA) (b c:Nat) (d:OA) (e f:Nat) (g:OA) (h i:Nat) (ag ah:Int) (ai:Bool),e1=.returned (.tuple #[.agg #[vs ab,vl a b c,vl d e f,vl g h i],.agg #[vi ag,vi ah,vt ai]])∧G1 fun F1=>∀aG:Nat,∀aH:Nat,Tcn P 17 (#[vs (⟨#[115,116,114,97,116,101,103,121,32,115,32,123,32,115,116,97,116,101,32,97,32,123,32,119,104,101,110,32,116,114,117,101,32,100,111,32,103,111,116,111,32,98,59,32,125,32,125]⟩:Bs)]) I1 ((kb aG ab a b c d e f g h i)::(ka aH ag ah ai)::·) F1 fun e2 I2 G2=>∃(aa:Bs) (j:OA) (k l:Nat) (m:OA) (n o:Nat) (p:OA) (s t:Nat) (ac ad:Int) (ae:Bool),e2=.returned (.tuple #[.agg #[vs aa,vl j k l,vl m n o,vl p s t],.agg #[vi ac,vi ad,vt ae]])∧G2 fun F2=>∀aJ:Nat,∀aE:Nat,Tcn P 27 (#[vs (⟨#[98,105,100,32,47,32,110]⟩:Bs)]) I2 ((kb aG ab a b c d e f g h i)::(ka aH ag ah ai)::(kb aJ aa j k l m n o p s t)::(ka aE ac ad ae)::·) F2 fun e3 I3 G3=>∃(af ay az aA aB:Int) (aC:Bs) (x:OA) (y z:Nat) (aD aj ak:Int) (al:Bool),e3=.returned (.tuple #[nV af ay az aA aB aC x y z aD,.agg #[vi aj,vi ak,vt al]])∧G3 fun F3=>∀aK:Nat,∀aF:Nat,Tcn P 27 (#[vs (⟨#[98,105,100,32,43,32,49]⟩:Bs)]) I3 ((kb aG ab a b c d e f g h i)::(ka aH ag ah ai)::(kb aJ aa j k l m n o p s t)::(ka aE ac ad ae)::(aK,nO af ay az aA aB aC x y z aD)::(ka aF aj ak al)::·) F3 fun e4 I4 G4=>∃(am an ao ap aq:Int) (ar:Bs) (u:OA) (v w:Nat) (au av aw:Int) (ax:Bool),e4=.returned (.tuple #[nV am an ao ap aq ar u v w au,.agg #[vi av,vi aw,vt ax]])∧G4 fun F4=>∀aL:Nat,∀aI:Nat,Tcn P 13 #[.agg #[vs ab,vl a b c,vl d e f,vl g h i]] I4 ((kb aG ab a b c d e f g h i)::(ka aH ag ah ai)::(kb aJ aa j k l m n o p s t)::(ka aE ac ad ae)::(aK,nO af ay az aA aB aC x y z aD)::(ka aF aj ak al)::(aL,nO am an ao ap aq ar u v w au)::(ka aI av aw ax)::·) F4 fun e5 I5 G5=>∃(r:Value),e5=.returned r∧G5 fun F5=>Tcn P 13 #[.agg #[vs aa,vl j k l,vl m n o,vl p s t]] I5 ((kb aG ab a b c d e f g h i)::(ka aH ag ah ai)::(kb aJ aa j k l m n o p s t)::(ka aE ac ad ae)::(aK,nO af ay az aA aB aC x y z aD)::(ka aF aj ak al)::(aL,nO am an ao ap aq ar u v w au)::(ka aI av aw ax)::·) F5 fun e6 I6 G6=>∃(r1:Value),e6=.returned r1∧G6 fun F6=>Tcn P 14 #[r1] I6 ((kb aG ab a b c d e f g h i)::(ka aH ag ah ai)::(kb aJ aa j k l m n o p s t)::(ka aE ac ad ae)::(aK,nO af ay az aA aB aC x y z aD)::(ka aF aj ak al)::(aL,nO am an ao ap aq ar u v w au)::(ka aI av aw ax)::·) F6 fun e7 I7 G7=>∃(r0 aM:Int),e7=.returned (.tuple #[vi r0,vi aM])∧G7 fun F7=>Tcn P 19 #[.agg #[vs ab,vl a b c,vl d e f,vl g h i],nV af ay az aA aB aC x y z aD] I7 ((kb aG ab a b c d e f g h i)::(ka aH ag ah ai)::(kb aJ aa j k l m n o p s t)::(ka aE ac ad ae)::(aK,nO af ay az aA aB aC x y z aD)::(ka aF aj ak al)::(aL,nO am an ao ap aq ar u v w au)::(ka aI av aw ax)::·) F7 fun e8 I8 G8=>∃(aN:Int) (aP:Value),e8=.returned (.tuple #[.int .u8 aN,aP])∧G8 fun F8=>Tcn P 19 #[.agg #[vs ab,vl a b c,vl d e f,vl g h i],nV am an ao ap aq ar u v w au] I8 ((kb aG ab a b c d e f g h i)::(ka aH ag ah ai)::(kb aJ aa j k l m n o p s t)::(ka aE ac ad ae)::(aK,nO af ay az aA aB aC x y z aD)::(ka aF aj ak al)::(aL,nO am an ao ap aq ar u v w au)::(ka aI av aw ax)::·) F8 fun e9 I9 G9=>∃(aS:Int) (aQ:Value),e9=.returned (.tuple #[.int .u8 aS,aQ])∧G9 fun F9=>Tcn P 14 #[aQ] I9 ((kb aG ab a b c d e f g h i)::(ka aH ag ah ai)::(kb aJ aa j k l m n o p s t)::(ka aE ac ad ae)::(aK,nO af ay az aA aB aC x y z aD)::(ka aF aj ak al)::(aL,nO am an ao ap aq ar u v w au)::(ka aI av aw ax)::·) F9 fun aT I10 G10=>∃(aO aR:Int),aT=.returned (.tuple #[vi aO,vi aR])∧G10 fun F10=>∃q:Bool,BinRun P .eql 38 (.tmp 59) (.const (Value.nilIface)) r Value.nilIface q∧(It q (It (r0==151) (It (aM==36) (∃q1:Bool,BinRun P .eql 38 (.tmp 70) (.const (Value.nilIface)) aP Value.nilIface q1∧(It q1 (It (aN==3) (It (aO==152) (Q (.returned (vt (aR==4))) I10 F10) (Q (.returned (vt false)) I10 F10)) (Q (.returned (vt false)) I10 F10)) (Q (.returned (vt false)) I10 F10))) (Q (.returned (vt false)) I10 F10)) (Q (.returned (vt false)) I10 F10)) (Q (.returned (vt false)) I10 F10))
theorem law15_awake.vc  {I:Imm}{F:Heap}{Q:PostQ}  (h:law15_awake.V (fun W a b c=>(W,Obj.cells #[.int .i64 a,.int .i64 b,.bool c] 49 (0,0))) (fun W a b c d e f g h i j=>(W,Obj.cells #[.string a,.slice b c d,.slice e f g,.slice h i j] 26 (0,0))) (fun k o t n f s a l c q=>.agg #[.int .u8 k,.int .u8 o,.int .u8 t,.int .i64 n,.int .u8 f,.string s,.slice a l c,.int .i64 q]) (fun k o t n f s a l c q=>.cells #[.int .u8 k,.int .u8 o,.int .u8 t,.int .i64 n,.int .u8 f,.string s,.slice a l c,.int .i64 q] 35 (0,0)) (.int .i64) .string .slice .bool I F Q):Tri P 10 #[] I F Q :=
 tw (A:=(an [10001,10004,10008,10012,10016,10020] [13,14,17,19,27] shT_y3)) [13,14,17,19,27] func10 h
def law15_far.V(a b:Nat→Nat×Obj)(vb vi:Int→Value)(vl:OA→Nat→Nat→Value)(q:Bs)(e:OA)(f g:Nat)(h:OA)(i j:Nat)(k:OA)(l m:Nat)(s t u v w:Int)(x:Bs)(n:OA)(o p:Nat)(y:Int)(I:Imm)(F:Heap)(Q:PostQ)  : Prop:=∀c:Nat,∀d:Nat,Tc1 P 28 #[.agg #[.string q,vl e f g,vl h i j,vl k l m]] I ((b c)::(a d)::·) F vi fun r I1 F1=>(Dt (r>1048576) (Q (.returned (.bool true)) I1 F1) (Tc1 P 29 #[.agg #[vb s,vb t,vb u,vi v,vb w,.string x,vl n o p,vi y],vi r,vi 0] I1 ((b c)::(a d)::·) F1 vi fun r1 I2 F2=>Q (.returned (.bool (decide (r1>1048576)))) I2 F2))
theorem law15_far.vc{o:Bs}{a:OA}{c d:Nat}{e:OA}{f g:Nat}{i:OA}{j k:Nat}{p q r s t:Int}{u:Bs}{l:OA}{m n:Nat}{v:Int}{I:Imm}{F:Heap}{Q:PostQ}  (h:law15_far.V (fun b=>(b,Obj.cells #[.int .u8 p,.int .u8 q,.int .u8 r,.int .i64 s,.int .u8 t,.string u,.slice l m n,.int .i64 v] 35 (0,0))) (fun b=>(b,Obj.cells #[.string o,.slice a c d,.slice e f g,.slice i j k] 26 (0,0))) (.int .u8) (.int .i64) .slice o a c d e f g i j k p q r s t u l m n v I F Q):Tri P 11 #[.agg #[.string o,.slice a c d,.slice e f g,.slice i j k],.agg #[.int .u8 p,.int .u8 q,.int .u8 r,.int .i64 s,.int .u8 t,.string u,.slice l m n,.int .i64 v]] I F Q :=
 tw (A:=(an [2001] [28,29] shT_y3)) [28,29] func11 h
def law15_types3.V(a b c d:Nat→Nat×Obj)(nV:Int→Int→Int→Int→Int→Bs→OA→Nat→Nat→Int→Value)(vb:Int→Value)(vl:OA→Nat→Nat→Value)(u:Bs)(i:OA)(j k:Nat)(l:OA)(m n:Nat)(o:OA)(p r:Nat)(ag ah ai aj ak:Int)(al:Bs)(v:OA)(w x:Nat)(am an ao ap aq ar:Int)(au:Bs)(y:OA)(z aa:Nat)(av aw ax ay az aA:Int)(aB:Bs)(ab:OA)(ac ad:Nat)(aC:Int)(I:Imm)(F:Heap)(Q:PostQ)  : Prop:=∀e:Nat,∀f:Nat,∀g:Nat,∀h:Nat,Tcn P 19 #[.agg #[.string u,vl i j k,vl l m n,vl o p r],nV ag ah ai aj ak al v w x am] I ((d e)::(c f)::(a g)::(b h)::·) F fun e1 I1 G1=>∃(r0:Int) (r1:Value),e1=.returned (.tuple #[vb r0,r1])∧G1 fun F1=>Tcn P 19 #[.agg #[.string u,vl i j k,vl l m n,vl o p r],nV an ao ap aq ar au y z aa av] I1 ((d e)::(c f)::(a g)::(b h)::·) F1 fun e2 I2 G2=>∃(s:Int) (ae:Value),e2=.returned (.tuple #[vb s,ae])∧G2 fun F2=>Tcn P 19 #[.agg #[.string u,vl i j k,vl l m n,vl o p r],nV aw ax ay az aA aB ab ac ad aC] I2 ((d e)::(c f)::(a g)::(b h)::·) F2 fun e3 I3 G3=>∃(t:Int) (af:Value),e3=.returned (.tuple #[vb t,af])∧G3 fun F3=>∃q:Bool,BinRun P .eql 38 (.tmp 39) (.const (Value.nilIface)) r1 Value.nilIface q∧(It q (∃q1:Bool,BinRun P .eql 38 (.tmp 42) (.const (Value.nilIface)) ae Value.nilIface q1∧(It q1 (∃q2:Bool,BinRun P .eql 38 (.tmp 46) (.const (Value.nilIface)) af Value.nilIface q2∧Q (.returned (.tuple #[vb r0,vb s,vb t,.bool q2])) I3 F3) (Q (.returned (.tuple #[vb r0,vb s,vb t,.bool false])) I3 F3))) (Q (.returned (.tuple #[vb r0,vb s,vb t,.bool false])) I3 F3))
theorem law15_types3.vc{ae:Bs}{d:OA}{e g:Nat}{i:OA}{j m:Nat}{p:OA}{r u:Nat}{af ag ah ai aj:Int}{ak:Bs}{v:OA}{w x:Nat}{al am ao ap aq ar:Int}{au:Bs}{y:OA}{z aa:Nat}{av aw ax ay az aA:Int}{aB:Bs}{ab:OA}{ac ad:Nat}{aC:Int}{I:Imm}{F:Heap}{Q:PostQ}  (h:law15_types3.V (fun b=>(b,Obj.cells #[.int .u8 am,.int .u8 ao,.int .u8 ap,.int .i64 aq,.int .u8 ar,.string au,.slice y z aa,.int .i64 av] 35 (0,0))) (fun b=>(b,Obj.cells #[.int .u8 aw,.int .u8 ax,.int .u8 ay,.int .i64 az,.int .u8 aA,.string aB,.slice ab ac ad,.int .i64 aC] 35 (0,0))) (fun b=>(b,Obj.cells #[.int .u8 af,.int .u8 ag,.int .u8 ah,.int .i64 ai,.int .u8 aj,.string ak,.slice v w x,.int .i64 al] 35 (0,0))) (fun b=>(b,Obj.cells #[.string ae,.slice d e g,.slice i j m,.slice p r u] 26 (0,0))) (fun k o t n f s a l c q=>.agg #[.int .u8 k,.int .u8 o,.int .u8 t,.int .i64 n,.int .u8 f,.string s,.slice a l c,.int .i64 q]) (.int .u8) .slice ae d e g i j m p r u af ag ah ai aj ak v w x al am ao ap aq ar au y z aa av aw ax ay az aA aB ab ac ad aC I F Q):Tri P 23 #[.agg #[.string ae,.slice d e g,.slice i j m,.slice p r u],.agg #[.int .u8 af,.int .u8 ag,.int .u8 ah,.int .i64 ai,.int .u8 aj,.string ak,.slice v w x,.int .i64 al],.agg #[.int .u8 am,.int .u8 ao,.int .u8 ap,.int .i64 aq,.int .u8 ar,.string au,.slice y z aa,.int .i64 av],.agg #[.int .u8 aw,.int .u8 ax,.int .u8 ay,.int .i64 az,.int .u8 aA,.string aB,.slice ab ac ad,.int .i64 aC]] I F Q :=
 tw (A:=(an [4004,4007] [19] shT_y3)) [19] func23 h
def law15_turned.V(nV:Int→Int→Int→Int→Int→Bs→OA→Nat→Nat→Int→Value)(nO:Int→Int→Int→Int→Int→Bs→OA→Nat→Nat→Int→Obj)(vb:Int→Value)(vl:OA→Nat→Nat→Value)(r aa ab ac ae:Int)(n:Bs)(o:OA)(p q:Nat)(af:Int)(I:Imm)(F:Heap)(Q:PostQ)(Inv2:Int→Int→Int→Int→Int→Bs→OA→Nat→Nat→Int→Imm→Heap→Prop)(Inv14:OA→Nat→Nat→Int→Nat→Imm→Heap→Prop):Prop:=∀s:Nat,∀b:Nat,((((r==2)=true→((decide ((n.size:Int)<15)=true→(((((⟨#[122]⟩:Bs).size+n.size:Nat):Int)≤IntKind.i64.max)∧Inv2 r aa ab ac ae ((⟨#[122]⟩:Bs)++n) o p q af I F))∧(decide ((n.size:Int)<15)=false→Inv2 r aa ab ac ae n o p q af I F)))∧((r==2)=false→Inv2 r aa ab ac ae n o p q af I F)))∧∀(e f g h j:Int) (k:Bs) (c:OA) (a d:Nat) (l:Int) (I1:Imm) (F1:Heap),Imm.le I I1→Inv2 e f g h j k c a d l I1 F1→(∃m:Nat,Inv14 none 0 0 0 m I1 F1)∧∀(ag:OA) (ah ai:Nat) (i:Int) (m1:Nat) (I2:Imm) (F2:Heap),Imm.le I1 I2→Inv14 ag ah ai i m1 I2 F2→((decide (i<(a:Int))=true→((0≤i∧i<(a:Int))∧∃ad:Addr,c=some ad∧∃(aj ak al am an:Int) (ao:Bs) (t:OA) (u w:Nat) (ap:Int),Rd I2 ((s,nO e f g h j k c a d l)::(b,nO 0 0 0 0 0 (⟨#[]⟩:Bs) none 0 0 0)::F2) (ad.add (Int.toNat i*8)) [vb aj,vb ak,vb al,.int .i64 am,vb an,.string ao,vl t u w,.int .i64 ap]∧Tri P 25 #[nV aj ak al am an ao t u w ap] I2 ((s,nO e f g h j k c a d l)::(b,nO 0 0 0 0 0 (⟨#[]⟩:Bs) none 0 0 0)::F2) fun e1 I3 G1=>∃(aq ar au av aw:Int) (ax:Bs) (x:OA) (y z:Nat) (ay:Int),e1=.returned (nV aq ar au av aw ax x y z ay)∧∃F3:Heap,List.Perm G1 ((s,nO e f g h j k c a d l)::(b,nO 0 0 0 0 0 (⟨#[]⟩:Bs) none 0 0 0)::F3)∧∀(b1:Nat) (I4:Imm),Imm.le I3 I4→I4 b1=some (nO aq ar au av aw ax x y z ay)→TriE P (Builtin.append_ #[33,33] 33 #[vl ag ah ai,vl (some ⟨b1,0,none⟩) 1 1]) I4 ((s,nO e f g h j k c a d l)::(b,nO 0 0 0 0 0 (⟨#[]⟩:Bs) none 0 0 0)::F3) fun v I5 G2=>∃(az:OA) (aA aB:Nat),v=vl az aA aB∧∃F4:Heap,List.Perm G2 ((s,nO e f g h j k c a d l)::(b,nO 0 0 0 0 0 (⟨#[]⟩:Bs) none 0 0 0)::F4)∧(∃m2:Nat,m2<m1∧Inv14 az aA aB (IntKind.wrap .i64 (i+1)) m2 I5 F4)))∧(decide (i<(a:Int))=false→Q (.returned (nV e f g h j k ag ah ai l)) I2 F2))
theorem law15_turned.vc{g i j p r:Int}{u:Bs}{b:OA}{d e:Nat}{v:Int}{I:Imm}{F:Heap}{Q:PostQ}(Inv2:Int→Int→Int→Int→Int→Bs→OA→Nat→Nat→Int→Imm→Heap→Prop)(Inv14:OA→Nat→Nat→Int→Nat→Imm→Heap→Prop)(h:law15_turned.V (fun k o t n f s a l c q=>.agg #[.int .u8 k,.int .u8 o,.int .u8 t,.int .i64 n,.int .u8 f,.string s,.slice a l c,.int .i64 q]) (fun k o t n f s a l c q=>.cells #[.int .u8 k,.int .u8 o,.int .u8 t,.int .i64 n,.int .u8 f,.string s,.slice a l c,.int .i64 q] 35 (0,0)) (.int .u8) .slice g i j p r u b d e v I F Q Inv2 Inv14):Tri P 25 #[.agg #[.int .u8 g,.int .u8 i,.int .u8 j,.int .i64 p,.int .u8 r,.string u,.slice b d e,.int .i64 v]] I F Q :=
 tw (A:=(annL [1002,1007,5004] [] [25] shT_y3 [(2,⟨[],[(0,[(.int .u8),(.int .u8),(.int .u8),(.int .i64),(.int .u8),.str,.slc,(.int .i64)])],fun _ _ _ vs m I F=>match vs with | [.int _ y0,.int _ y1,.int _ y2,.int _ y3,.int _ y4,.string y5,.slice y6 y7 y8,.int _ y9]=>Inv2 y0 y1 y2 y3 y4 y5 y6 y7 y8 y9 I F | _=>False,[],[]⟩),(14,⟨[(3,.slc),(4,(.int .i64))],[],fun _ _ _ vs m I F=>match vs with | [.slice y0 y1 y2,.int _ y3]=>Inv14 y0 y1 y2 y3 m I F | _=>False,[],[]⟩)] [7007] [] [] [] [] [])) [25] func25 h
def law15_longer.V(b c:Nat→Nat×Obj)(vb vi:Int→Value)(vs:Bs→Value)(vl:OA→Nat→Nat→Value)(vt:Bool→Value)(v ai aj ak al:Int)(w:Bs)(j:OA)(a ah:Nat)(am:Int)(ag:Bs)(k:OA)(l n:Nat)(o:OA)(p q:Nat)(s:OA)(t u:Nat)(I:Imm)(F:Heap)(Q:PostQ)(Inv16:Bool→Int→Nat→Imm→Heap→Prop):Prop:=∀d:Nat,∀e:Nat,(((v==2)=true→Tri P 55 #[vs w] I ((b d)::(c e)::F) fun e1 I1 G1=>∃(r:Bool),e1=.returned (vt r)∧∃F1:Heap,List.Perm G1 ((b d)::(c e)::F1)∧((r=true→Q (.returned (vt true)) I1 F1)∧(r=false→Q (.returned (vt (decide ((w.size:Int)≥15)))) I1 F1)))∧((v==2)=false→(∃m:Nat,Inv16 false 0 m I F)∧∀(x:Bool) (i:Int) (m1:Nat) (I2:Imm) (F2:Heap),Imm.le I I2→Inv16 x i m1 I2 F2→((decide (i<(a:Int))=true→((0≤i∧i<(a:Int))∧∃ad:Addr,j=some ad∧∃(y z aa ab ac:Int) (ae:Bs) (f:OA) (g h:Nat) (af:Int),Rd I2 ((b d)::(c e)::F2) (ad.add (Int.toNat i*8)) [vb y,vb z,vb aa,vi ab,vb ac,vs ae,vl f g h,vi af]∧∃(r1:Bool),(Tri P 26 #[.agg #[vb y,vb z,vb aa,vi ab,vb ac,vs ae,vl f g h,vi af],.agg #[vs ag,vl k l n,vl o p q,vl s t u]] I2 ((b d)::(c e)::F2) fun e2 I3 G2=>e2=.returned (vt r1)∧List.Perm G2 ((b d)::(c e)::F2))∧((r1=true→Q (.returned (vt true)) I2 F2)∧(r1=false→(∃m2:Nat,m2<m1∧Inv16 x (IntKind.wrap .i64 (i+1)) m2 I2 F2)))))∧(decide (i<(a:Int))=false→Q (.returned (vt false)) I2 F2))))
theorem law15_longer.vc{p q r s t:Int}{u:Bs}{a:OA}{c d:Nat}{v:Int}{w:Bs}{e:OA}{f g:Nat}{i:OA}{j k:Nat}{l:OA}{n o:Nat}{I:Imm}{F:Heap}{Q:PostQ}(Inv16:Bool→Int→Nat→Imm→Heap→Prop)(h:law15_longer.V (fun b=>(b,Obj.cells #[.int .u8 p,.int .u8 q,.int .u8 r,.int .i64 s,.int .u8 t,.string u,.slice a c d,.int .i64 v] 35 (0,0))) (fun b=>(b,Obj.cells #[.string w,.slice e f g,.slice i j k,.slice l n o] 26 (0,0))) (.int .u8) (.int .i64) .string .slice .bool p q r s t u a c d v w e f g i j k l n o I F Q Inv16):Tri P 26 #[.agg #[.int .u8 p,.int .u8 q,.int .u8 r,.int .i64 s,.int .u8 t,.string u,.slice a c d,.int .i64 v],.agg #[.string w,.slice e f g,.slice i j k,.slice l n o]] I F Q :=
 tw (A:=(annL [1002,3000,5004,8000] [] [26,55] shT_y3 [(16,⟨[(4,.bool),(6,(.int .i64))],[],fun _ _ _ vs m I F=>match vs with | [.bool y0,.int _ y1]=>Inv16 y0 y1 m I F | _=>False,[],[]⟩)] [] [] [] [] [] [])) [26,55] func26 h
def ref00_CopyStrategy.V(y:Nat→Nat×Obj)(nV:Int→Int→Int→Int→Int→Bs→OA→Nat→Nat→Int→Value)(vb vi:Int→Value)(vs:Bs→Value)(vl:OA→Nat→Nat→Value)(a3:Bs)(aU:OA)(al a4:Nat)(aV:OA)(aW aX:Nat)(aY:OA)(am a5:Nat)(I:Imm)(F:Heap)(Q:PostQ)(Inv8:Int→Bs→OA→Nat→Nat→OA→Nat→Nat→OA→Nat→Nat→Nat→Imm→Heap→Prop)(Inv29:Int→Bs→OA→Nat→Nat→OA→Nat→Nat→OA→Nat→Nat→Nat→Imm→Heap→Prop):Prop:=∀z:Nat,∀b:Nat,∀aa:Nat,(∃m:Nat,Inv8 0 a3 none 0 0 none 0 0 none 0 0 m I F)∧∀(i:Int) (w:Bs) (a:OA) (c d:Nat) (e:OA) (f g:Nat) (h:OA) (j k m1:Nat) (I1:Imm) (F1:Heap),Imm.le I I1→Inv8 i w a c d e f g h j k m1 I1 F1→((decide (i<(al:Int))=true→((0≤i∧i<(al:Int))∧∃ad:Addr,aU=some ad∧∃(aj:Bs) (ak an ao ap aq ar:Int) (au:Bs) (ac:OA) (ae af:Nat) (av ab:Int),Rd I1 ((y z)::(b,Obj.cells #[vs (⟨#[]⟩:Bs),vl none 0 0,vl none 0 0,vl none 0 0] 26 (0,0))::(aa,Obj.cells #[vs w,vl a c d,vl e f g,vl h j k] 26 (0,0))::F1) (ad.add (Int.toNat i*11)) [vs aj,vb ak,vb an,vb ao,vb ap,vi aq,vb ar,vs au,vl ac ae af,vi av,vi ab]∧∀aJ:Nat,Tri P 53 #[nV an ao ap aq ar au ac ae af av] I1 ((y z)::(b,Obj.cells #[vs (⟨#[]⟩:Bs),vl none 0 0,vl none 0 0,vl none 0 0] 26 (0,0))::(aa,Obj.cells #[vs w,vl a c d,vl e f g,vl h j k] 26 (0,0))::(aJ,Obj.cells #[vs aj,vb ak,vb an,vb ao,vb ap,vi aq,vb ar,vs au,vl ac ae af,vi av,vi ab] 68 (0,0))::F1) fun e1 I2 G1=>∃(aw ax ay az aA:Int) (aB:Bs) (ag:OA) (ah ai:Nat) (aC:Int),e1=.returned (nV aw ax ay az aA aB ag ah ai aC)∧∃F2:Heap,List.Perm G1 ((y z)::(b,Obj.cells #[vs (⟨#[]⟩:Bs),vl none 0 0,vl none 0 0,vl none 0 0] 26 (0,0))::(aa,Obj.cells #[vs w,vl a c d,vl e f g,vl h j k] 26 (0,0))::(aJ,Obj.cells #[vs aj,vb ak,vb an,vb ao,vb ap,vi aq,vb ar,vs au,vl ac ae af,vi av,vi ab] 68 (0,0))::F2)∧∀(b1:Nat) (I3:Imm),Imm.le I2 I3→I3 b1=some (Obj.cells #[vs aj,vb ak,vb aw,vb ax,vb ay,vi az,vb aA,vs aB,vl ag ah ai,vi aC,vi ab] 68 (0,0))→TriE P (Builtin.append_ #[22,22] 22 #[vl a c d,vl (some ⟨b1,0,none⟩) 1 1]) I3 ((y z)::(b,Obj.cells #[vs (⟨#[]⟩:Bs),vl none 0 0,vl none 0 0,vl none 0 0] 26 (0,0))::(aa,Obj.cells #[vs w,vl a c d,vl e f g,vl h j k] 26 (0,0))::(aJ,Obj.cells #[vs aj,vb ak,vb aw,vb ax,vb ay,vi az,vb aA,vs aB,vl ag ah ai,vi aC,vi ab] 68 (0,0))::F2) fun v I4 G2=>∃(aZ:OA) (a0 a1:Nat),v=vl aZ a0 a1∧∃F3:Heap,List.Perm G2 ((y z)::(b,Obj.cells #[vs (⟨#[]⟩:Bs),vl none 0 0,vl none 0 0,vl none 0 0] 26 (0,0))::(aa,Obj.cells #[vs w,vl a c d,vl e f g,vl h j k] 26 (0,0))::(aJ,Obj.cells #[vs aj,vb ak,vb aw,vb ax,vb ay,vi az,vb aA,vs aB,vl ag ah ai,vi aC,vi ab] 68 (0,0))::F3)∧(∃m2:Nat,m2<m1∧Inv8 (IntKind.wrap .i64 (i+1)) w aZ a0 a1 e f g h j k m2 I4 F3)))∧(decide (i<(al:Int))=false→TriE P (Builtin.append_ #[23,23] 23 #[vl e f g,vl aV aW aX]) I1 ((y z)::(b,Obj.cells #[vs (⟨#[]⟩:Bs),vl none 0 0,vl none 0 0,vl none 0 0] 26 (0,0))::(aa,Obj.cells #[vs w,vl a c d,vl e f g,vl h j k] 26 (0,0))::F1) fun v1 I5 G3=>∃(aK:OA) (aL aM:Nat),v1=vl aK aL aM∧∃F4:Heap,List.Perm G3 ((y z)::(b,Obj.cells #[vs (⟨#[]⟩:Bs),vl none 0 0,vl none 0 0,vl none 0 0] 26 (0,0))::(aa,Obj.cells #[vs w,vl a c d,vl e f g,vl h j k] 26 (0,0))::F4)∧(∃m3:Nat,Inv29 0 w a c d aK aL aM h j k m3 I5 F4)∧∀(i1:Int) (x:Bs) (l:OA) (n o:Nat) (p:OA) (q r:Nat) (s:OA) (t u m4:Nat) (I6:Imm) (F5:Heap),Imm.le I5 I6→Inv29 i1 x l n o p q r s t u m4 I6 F5→((decide (i1<(am:Int))=true→((0≤i1∧i1<(am:Int))∧∃a2:Addr,aY=some a2∧∃(aN:Bs) (aD:OA) (aE aF:Nat) (aO:Int),Rd I6 ((y z)::(b,Obj.cells #[vs (⟨#[]⟩:Bs),vl none 0 0,vl none 0 0,vl none 0 0] 26 (0,0))::(aa,Obj.cells #[vs x,vl l n o,vl p q r,vl s t u] 26 (0,0))::F5) (a2.add (Int.toNat i1*3)) [vs aN,vl aD aE aF,vi aO]∧Tri P 54 #[.agg #[vs aN,vl aD aE aF,vi aO]] I6 ((y z)::(b,Obj.cells #[vs (⟨#[]⟩:Bs),vl none 0 0,vl none 0 0,vl none 0 0] 26 (0,0))::(aa,Obj.cells #[vs x,vl l n o,vl p q r,vl s t u] 26 (0,0))::F5) fun e2 I7 G4=>∃(aP:Bs) (aG:OA) (aH aI:Nat) (aQ:Int),e2=.returned (.agg #[vs aP,vl aG aH aI,vi aQ])∧∃F6:Heap,List.Perm G4 ((y z)::(b,Obj.cells #[vs (⟨#[]⟩:Bs),vl none 0 0,vl none 0 0,vl none 0 0] 26 (0,0))::(aa,Obj.cells #[vs x,vl l n o,vl p q r,vl s t u] 26 (0,0))::F6)∧∀(b2:Nat) (I8:Imm),Imm.le I7 I8→I8 b2=some (Obj.cells #[vs aP,vl aG aH aI,vi aQ] 74 (0,0))→TriE P (Builtin.append_ #[24,24] 24 #[vl s t u,vl (some ⟨b2,0,none⟩) 1 1]) I8 ((y z)::(b,Obj.cells #[vs (⟨#[]⟩:Bs),vl none 0 0,vl none 0 0,vl none 0 0] 26 (0,0))::(aa,Obj.cells #[vs x,vl l n o,vl p q r,vl s t u] 26 (0,0))::F6) fun v2 I9 G5=>∃(aR:OA) (aS aT:Nat),v2=vl aR aS aT∧∃F7:Heap,List.Perm G5 ((y z)::(b,Obj.cells #[vs (⟨#[]⟩:Bs),vl none 0 0,vl none 0 0,vl none 0 0] 26 (0,0))::(aa,Obj.cells #[vs x,vl l n o,vl p q r,vl s t u] 26 (0,0))::F7)∧(∃m5:Nat,m5<m4∧Inv29 (IntKind.wrap .i64 (i1+1)) x l n o p q r aR aS aT m5 I9 F7)))∧(decide (i1<(am:Int))=false→Q (.returned (.agg #[vs x,vl l n o,vl p q r,vl s t u])) I6 F5))))
theorem ref00_CopyStrategy.vc{w:Bs}{d:OA}{e g:Nat}{i:OA}{j p:Nat}{r:OA}{u v:Nat}{I:Imm}{F:Heap}{Q:PostQ}(Inv8:Int→Bs→OA→Nat→Nat→OA→Nat→Nat→OA→Nat→Nat→Nat→Imm→Heap→Prop)(Inv29:Int→Bs→OA→Nat→Nat→OA→Nat→Nat→OA→Nat→Nat→Nat→Imm→Heap→Prop)(h:ref00_CopyStrategy.V (fun b=>(b,Obj.cells #[.string w,.slice d e g,.slice i j p,.slice r u v] 26 (0,0))) (fun k o t n f s a l c q=>.agg #[.int .u8 k,.int .u8 o,.int .u8 t,.int .i64 n,.int .u8 f,.string s,.slice a l c,.int .i64 q]) (.int .u8) (.int .i64) .string .slice w d e g i j p r u v I F Q Inv8 Inv29):Tri P 24 #[.agg #[.string w,.slice d e g,.slice i j p,.slice r u v]] I F Q :=
 tw (A:=(annL [3004,10004] [] [53,54] shT_y3 [(8,⟨[(4,(.int .i64))],[(2,[.str,.slc,.slc,.slc])],fun _ _ _ vs m I F=>match vs with | [.int _ y0,.string y1,.slice y2 y3 y4,.slice y5 y6 y7,.slice y8 y9 y10]=>Inv8 y0 y1 y2 y3 y4 y5 y6 y7 y8 y9 y10 m I F | _=>False,[],[]⟩),(29,⟨[(6,(.int .i64))],[(2,[.str,.slc,.slc,.slc])],fun _ _ _ vs m I F=>match vs with | [.int _ y0,.string y1,.slice y2 y3 y4,.slice y5 y6 y7,.slice y8 y9 y10]=>Inv29 y0 y1 y2 y3 y4 y5 y6 y7 y8 y9 y10 m I F | _=>False,[],[]⟩)] [7003,12008] [] [] [] [(12,[0,2,4,1,3,5,6,7,8,9,10,11])] [] [] [(12,[1],11)])) [53,54] func24 h
def ref00_copyState.V(s:Nat→Nat×Obj)(nV:Int→Int→Int→Int→Int→Bs→OA→Nat→Nat→Int→Value)(vb vi:Int→Value)(vs:Bs→Value)(vl:OA→Nat→Nat→Value)(bZ:Bs)(bJ:OA)(w b3:Nat)(b0:Int)(I:Imm)(F:Heap)(Q:PostQ)(Inv8:OA→Nat→Nat→Int→Nat→Imm→Heap→Imm→Heap→Prop)(Inv25:Int→OA→Nat→Nat→Int→Nat→Imm→Heap→Imm→Heap→Prop):Prop:=∀t:Nat,∀b:Nat,(∃m:Nat,Inv8 none 0 0 0 m I F I F)∧∀(aH:OA) (aI aJ:Nat) (i:Int) (m1:Nat) (I1:Imm) (F1:Heap),Imm.le I I1→Inv8 aH aI aJ i m1 I F I1 F1→((decide (i<(w:Int))=true→((0≤i∧i<(w:Int))∧∃ad:Addr,bJ=some ad∧∃(h j l n o:Int) (p:Bs) (c:OA) (d e:Nat) (q:Int) (f:OA) (a g:Nat) (r:Int),Rd I1 ((s t)::(b,Obj.cells #[vs (⟨#[]⟩:Bs),vl none 0 0,vi 0] 74 (0,0))::F1) (ad.add (Int.toNat i*10)) [vb h,vb j,vb l,vi n,vb o,vs p,vl c d e,vi q,vl f a g,vi r]∧∀u:Nat,(∃m2:Nat,Inv25 i none 0 0 0 m2 I1 F1 I1 F1)∧∀(x:OA) (y z:Nat) (k:Int) (m3:Nat) (I2:Imm) (F2:Heap),Imm.le I1 I2→Inv25 i x y z k m3 I1 F1 I2 F2→((decide (k<(a:Int))=true→((0≤k∧k<(a:Int))∧∃bY:Addr,f=some bY∧∃(aK aL:Int) (aM:Bs) (aN aO aP bK aQ:Int) (bL:Bs) (av:OA) (aw ax:Nat) (aR ay aS aT aU aV:Int) (aW:Bs) (aa:OA) (ab ac:Nat) (aX aY aZ az a0 a1:Int) (a2:Bs) (ae:OA) (af ag:Nat) (a3 a4 a5 a6 a7 aA:Int) (a8:Bs) (ah:OA) (ai aj:Nat) (a9 ba:Int),Rd I2 ((s t)::(b,Obj.cells #[vs (⟨#[]⟩:Bs),vl none 0 0,vi 0] 74 (0,0))::(u,Obj.cells #[vb h,vb j,vb l,vi n,vb o,vs p,vl c d e,vi q,vl f a g,vi r] 87 (0,0))::F2) (bY.add (Int.toNat k*36)) [vb aK,vb aL,vs aM,vb aN,vb aO,vb aP,vi bK,vb aQ,vs bL,vl av aw ax,vi aR,vb ay,vb aS,vb aT,vi aU,vb aV,vs aW,vl aa ab ac,vi aX,vb aY,vb aZ,vb az,vi a0,vb a1,vs a2,vl ae af ag,vi a3,vb a4,vb a5,vb a6,vi a7,vb aA,vs a8,vl ah ai aj,vi a9,vi ba]∧Tri P 97 #[.agg #[vb aK,vb aL,vs aM,vb aN,vb aO,vb aP,vi bK,vb aQ,vs bL,vl av aw ax,vi aR,vb ay,vb aS,vb aT,vi aU,vb aV,vs aW,vl aa ab ac,vi aX,vb aY,vb aZ,vb az,vi a0,vb a1,vs a2,vl ae af ag,vi a3,vb a4,vb a5,vb a6,vi a7,vb aA,vs a8,vl ah ai aj,vi a9,vi ba]] I2 ((s t)::(b,Obj.cells #[vs (⟨#[]⟩:Bs),vl none 0 0,vi 0] 74 (0,0))::(u,Obj.cells #[vb h,vb j,vb l,vi n,vb o,vs p,vl c d e,vi q,vl f a g,vi r] 87 (0,0))::F2) fun e1 I3 G1=>∃(bM bN:Int) (bO:Bs) (bP bQ bR bS bT:Int) (bU:Bs) (aB:OA) (aC aD:Nat) (bb bc bd be bf bg:Int) (bh:Bs) (ak:OA) (al am:Nat) (bi bj bk bl bm bn:Int) (bo:Bs) (an:OA) (ao ap:Nat) (bp bq br bs bt bu:Int) (bv:Bs) (aq:OA) (ar au:Nat) (bw bx:Int),e1=.returned (.agg #[vb bM,vb bN,vs bO,vb bP,vb bQ,vb bR,vi bS,vb bT,vs bU,vl aB aC aD,vi bb,vb bc,vb bd,vb be,vi bf,vb bg,vs bh,vl ak al am,vi bi,vb bj,vb bk,vb bl,vi bm,vb bn,vs bo,vl an ao ap,vi bp,vb bq,vb br,vb bs,vi bt,vb bu,vs bv,vl aq ar au,vi bw,vi bx])∧∃F3:Heap,List.Perm G1 ((s t)::(b,Obj.cells #[vs (⟨#[]⟩:Bs),vl none 0 0,vi 0] 74 (0,0))::(u,Obj.cells #[vb h,vb j,vb l,vi n,vb o,vs p,vl c d e,vi q,vl f a g,vi r] 87 (0,0))::F3)∧∀(b1:Nat) (I4:Imm),Imm.le I3 I4→I4 b1=some (Obj.cells #[vb bM,vb bN,vs bO,vb bP,vb bQ,vb bR,vi bS,vb bT,vs bU,vl aB aC aD,vi bb,vb bc,vb bd,vb be,vi bf,vb bg,vs bh,vl ak al am,vi bi,vb bj,vb bk,vb bl,vi bm,vb bn,vs bo,vl an ao ap,vi bp,vb bq,vb br,vb bs,vi bt,vb bu,vs bv,vl aq ar au,vi bw,vi bx] 95 (0,0))→TriE P (Builtin.append_ #[85,85] 85 #[vl x y z,vl (some ⟨b1,0,none⟩) 1 1]) I4 ((s t)::(b,Obj.cells #[vs (⟨#[]⟩:Bs),vl none 0 0,vi 0] 74 (0,0))::(u,Obj.cells #[vb h,vb j,vb l,vi n,vb o,vs p,vl c d e,vi q,vl f a g,vi r] 87 (0,0))::F3) fun v I5 G2=>∃(bV:OA) (bW bX:Nat),v=vl bV bW bX∧∃F4:Heap,List.Perm G2 ((s t)::(b,Obj.cells #[vs (⟨#[]⟩:Bs),vl none 0 0,vi 0] 74 (0,0))::(u,Obj.cells #[vb h,vb j,vb l,vi n,vb o,vs p,vl c d e,vi q,vl f a g,vi r] 87 (0,0))::F4)∧(∃m4:Nat,m4<m3∧Inv25 i bV bW bX (IntKind.wrap .i64 (k+1)) m4 I1 F1 I5 F4)))∧(decide (k<(a:Int))=false→Tri P 53 #[nV h j l n o p c d e q] I2 ((s t)::(b,Obj.cells #[vs (⟨#[]⟩:Bs),vl none 0 0,vi 0] 74 (0,0))::(u,Obj.cells #[vb h,vb j,vb l,vi n,vb o,vs p,vl c d e,vi q,vl f a g,vi r] 87 (0,0))::F2) fun e2 I6 G3=>∃(bz bA bB bC bD:Int) (bE:Bs) (aE:OA) (aF aG:Nat) (bF:Int),e2=.returned (nV bz bA bB bC bD bE aE aF aG bF)∧∃F5:Heap,List.Perm G3 ((s t)::(b,Obj.cells #[vs (⟨#[]⟩:Bs),vl none 0 0,vi 0] 74 (0,0))::(u,Obj.cells #[vb h,vb j,vb l,vi n,vb o,vs p,vl c d e,vi q,vl f a g,vi r] 87 (0,0))::F5)∧∀(b2:Nat) (I7:Imm),Imm.le I6 I7→I7 b2=some (Obj.cells #[vb bz,vb bA,vb bB,vi bC,vb bD,vs bE,vl aE aF aG,vi bF,vl x y z,vi r] 87 (0,0))→TriE P (Builtin.append_ #[72,72] 72 #[vl aH aI aJ,vl (some ⟨b2,0,none⟩) 1 1]) I7 ((s t)::(b,Obj.cells #[vs (⟨#[]⟩:Bs),vl none 0 0,vi 0] 74 (0,0))::(u,Obj.cells #[vb h,vb j,vb l,vi n,vb o,vs p,vl c d e,vi q,vl f a g,vi r] 87 (0,0))::F5) fun v1 I8 G4=>∃(bG:OA) (bH bI:Nat),v1=vl bG bH bI∧∃F6:Heap,List.Perm G4 ((s t)::(b,Obj.cells #[vs (⟨#[]⟩:Bs),vl none 0 0,vi 0] 74 (0,0))::(u,Obj.cells #[vb h,vb j,vb l,vi n,vb o,vs p,vl c d e,vi q,vl f a g,vi r] 87 (0,0))::F6)∧(∃m5:Nat,m5<m1∧Inv8 bG bH bI (IntKind.wrap .i64 (i+1)) m5 I F I8 F6)))))∧(decide (i<(w:Int))=false→Q (.returned (.agg #[vs bZ,vl aH aI aJ,vi b0])) I1 F1))
theorem ref00_copyState.vc{i:Bs}{d:OA}{e g:Nat}{j:Int}{I:Imm}{F:Heap}{Q:PostQ}(Inv8:OA→Nat→Nat→Int→Nat→Imm→Heap→Imm→Heap→Prop)(Inv25:Int→OA→Nat→Nat→Int→Nat→Imm→Heap→Imm→Heap→Prop)(h:ref00_copyState.V (fun b=>(b,Obj.cells #[.string i,.slice d e g,.int .i64 j] 74 (0,0))) (fun k o t n f s a l c q=>.agg #[.int .u8 k,.int .u8 o,.int .u8 t,.int .i64 n,.int .u8 f,.string s,.slice a l c,.int .i64 q]) (.int .u8) (.int .i64) .string .slice i d e g j I F Q Inv8 Inv25):Tri P 54 #[.agg #[.string i,.slice d e g,.int .i64 j]] I F Q :=
 tw (A:=(annL [3004,8004] [] [53,97] shT_y3 [(8,⟨[(3,.slc),(4,(.int .i64))],[],fun fs I0 F0 vs m I F=>match fs,vs with | [],[.slice y0 y1 y2,.int _ y3]=>Inv8 y0 y1 y2 y3 m I0 F0 I F | _,_=>False,[],[]⟩),(25,⟨[(6,.slc),(7,(.int .i64))],[],fun fs I0 F0 vs m I F=>match fs,vs with | [.int _ y0],[.slice y1 y2 y3,.int _ y4]=>Inv25 y0 y1 y2 y3 y4 m I0 F0 I F | _,_=>False,[4],[]⟩)] [10007,11008] [] [] [] [(11,[0,1,4,5,6,2,3,7,8,9,10])] [] [] [(11,[6],11)])) [53,97] func54 h
def ref00_copyDo.V(nV:Int→Int→Int→Int→Int→Bs→OA→Nat→Nat→Int→Value)(vb vi:Int→Value)(vs:Bs→Value)(vl:OA→Nat→Nat→Value)(af ag:Int)(ah:Bs)(aX aY aZ a0 a1:Int)(a2:Bs)(aJ:OA)(aK aL:Nat)(aW aC aD aE aF aG:Int)(aH:Bs)(v:OA)(w x:Nat)(aI y z aa ab ac:Int)(ad:Bs)(e:OA)(f g:Nat)(ae n o p q r:Int)(s:Bs)(a:OA)(c d:Nat)(t u:Int)(I:Imm)(F:Heap)(Q:PostQ)  : Prop:=∀aB:Nat,∀b:Nat,Tri P 53 #[nV aX aY aZ a0 a1 a2 aJ aK aL aW] I ((aB,Obj.cells #[vb af,vb ag,vs ah,vb aX,vb aY,vb aZ,vi a0,vb a1,vs a2,vl aJ aK aL,vi aW,vb aC,vb aD,vb aE,vi aF,vb aG,vs aH,vl v w x,vi aI,vb y,vb z,vb aa,vi ab,vb ac,vs ad,vl e f g,vi ae,vb n,vb o,vb p,vi q,vb r,vs s,vl a c d,vi t,vi u] 95 (0,0))::(b,Obj.cells #[vb 0,vb 0,vs (⟨#[]⟩:Bs),vb 0,vb 0,vb 0,vi 0,vb 0,vs (⟨#[]⟩:Bs),vl none 0 0,vi 0,vb 0,vb 0,vb 0,vi 0,vb 0,vs (⟨#[]⟩:Bs),vl none 0 0,vi 0,vb 0,vb 0,vb 0,vi 0,vb 0,vs (⟨#[]⟩:Bs),vl none 0 0,vi 0,vb 0,vb 0,vb 0,vi 0,vb 0,vs (⟨#[]⟩:Bs),vl none 0 0,vi 0,vi 0] 95 (0,0))::F) fun e1 I1 G1=>∃(au av aw ax ay:Int) (az:Bs) (h:OA) (i j:Nat) (aA:Int),e1=.returned (nV au av aw ax ay az h i j aA)∧∃F1:Heap,List.Perm G1 ((aB,Obj.cells #[vb af,vb ag,vs ah,vb aX,vb aY,vb aZ,vi a0,vb a1,vs a2,vl aJ aK aL,vi aW,vb aC,vb aD,vb aE,vi aF,vb aG,vs aH,vl v w x,vi aI,vb y,vb z,vb aa,vi ab,vb ac,vs ad,vl e f g,vi ae,vb n,vb o,vb p,vi q,vb r,vs s,vl a c d,vi t,vi u] 95 (0,0))::(b,Obj.cells #[vb 0,vb 0,vs (⟨#[]⟩:Bs),vb 0,vb 0,vb 0,vi 0,vb 0,vs (⟨#[]⟩:Bs),vl none 0 0,vi 0,vb 0,vb 0,vb 0,vi 0,vb 0,vs (⟨#[]⟩:Bs),vl none 0 0,vi 0,vb 0,vb 0,vb 0,vi 0,vb 0,vs (⟨#[]⟩:Bs),vl none 0 0,vi 0,vb 0,vb 0,vb 0,vi 0,vb 0,vs (⟨#[]⟩:Bs),vl none 0 0,vi 0,vi 0] 95 (0,0))::F1)∧Tri P 53 #[nV aC aD aE aF aG aH v w x aI] I1 ((aB,Obj.cells #[vb af,vb ag,vs ah,vb au,vb av,vb aw,vi ax,vb ay,vs az,vl h i j,vi aA,vb aC,vb aD,vb aE,vi aF,vb aG,vs aH,vl v w x,vi aI,vb y,vb z,vb aa,vi ab,vb ac,vs ad,vl e f g,vi ae,vb n,vb o,vb p,vi q,vb r,vs s,vl a c d,vi t,vi u] 95 (0,0))::(b,Obj.cells #[vb 0,vb 0,vs (⟨#[]⟩:Bs),vb 0,vb 0,vb 0,vi 0,vb 0,vs (⟨#[]⟩:Bs),vl none 0 0,vi 0,vb 0,vb 0,vb 0,vi 0,vb 0,vs (⟨#[]⟩:Bs),vl none 0 0,vi 0,vb 0,vb 0,vb 0,vi 0,vb 0,vs (⟨#[]⟩:Bs),vl none 0 0,vi 0,vb 0,vb 0,vb 0,vi 0,vb 0,vs (⟨#[]⟩:Bs),vl none 0 0,vi 0,vi 0] 95 (0,0))::F1) fun e2 I2 G2=>∃(al am an ao ap:Int) (aq:Bs) (k:OA) (l m:Nat) (ar:Int),e2=.returned (nV al am an ao ap aq k l m ar)∧∃F2:Heap,List.Perm G2 ((aB,Obj.cells #[vb af,vb ag,vs ah,vb au,vb av,vb aw,vi ax,vb ay,vs az,vl h i j,vi aA,vb aC,vb aD,vb aE,vi aF,vb aG,vs aH,vl v w x,vi aI,vb y,vb z,vb aa,vi ab,vb ac,vs ad,vl e f g,vi ae,vb n,vb o,vb p,vi q,vb r,vs s,vl a c d,vi t,vi u] 95 (0,0))::(b,Obj.cells #[vb 0,vb 0,vs (⟨#[]⟩:Bs),vb 0,vb 0,vb 0,vi 0,vb 0,vs (⟨#[]⟩:Bs),vl none 0 0,vi 0,vb 0,vb 0,vb 0,vi 0,vb 0,vs (⟨#[]⟩:Bs),vl none 0 0,vi 0,vb 0,vb 0,vb 0,vi 0,vb 0,vs (⟨#[]⟩:Bs),vl none 0 0,vi 0,vb 0,vb 0,vb 0,vi 0,vb 0,vs (⟨#[]⟩:Bs),vl none 0 0,vi 0,vi 0] 95 (0,0))::F2)∧Tri P 53 #[nV y z aa ab ac ad e f g ae] I2 ((aB,Obj.cells #[vb af,vb ag,vs ah,vb au,vb av,vb aw,vi ax,vb ay,vs az,vl h i j,vi aA,vb al,vb am,vb an,vi ao,vb ap,vs aq,vl k l m,vi ar,vb y,vb z,vb aa,vi ab,vb ac,vs ad,vl e f g,vi ae,vb n,vb o,vb p,vi q,vb r,vs s,vl a c d,vi t,vi u] 95 (0,0))::(b,Obj.cells #[vb 0,vb 0,vs (⟨#[]⟩:Bs),vb 0,vb 0,vb 0,vi 0,vb 0,vs (⟨#[]⟩:Bs),vl none 0 0,vi 0,vb 0,vb 0,vb 0,vi 0,vb 0,vs (⟨#[]⟩:Bs),vl none 0 0,vi 0,vb 0,vb 0,vb 0,vi 0,vb 0,vs (⟨#[]⟩:Bs),vl none 0 0,vi 0,vb 0,vb 0,vb 0,vi 0,vb 0,vs (⟨#[]⟩:Bs),vl none 0 0,vi 0,vi 0] 95 (0,0))::F2) fun e3 I3 G3=>∃(aM aN aO aP aQ:Int) (aR:Bs) (ai:OA) (aj ak:Nat) (aS:Int),e3=.returned (nV aM aN aO aP aQ aR ai aj ak aS)∧∃F3:Heap,List.Perm G3 ((aB,Obj.cells #[vb af,vb ag,vs ah,vb au,vb av,vb aw,vi ax,vb ay,vs az,vl h i j,vi aA,vb al,vb am,vb an,vi ao,vb ap,vs aq,vl k l m,vi ar,vb y,vb z,vb aa,vi ab,vb ac,vs ad,vl e f g,vi ae,vb n,vb o,vb p,vi q,vb r,vs s,vl a c d,vi t,vi u] 95 (0,0))::(b,Obj.cells #[vb 0,vb 0,vs (⟨#[]⟩:Bs),vb 0,vb 0,vb 0,vi 0,vb 0,vs (⟨#[]⟩:Bs),vl none 0 0,vi 0,vb 0,vb 0,vb 0,vi 0,vb 0,vs (⟨#[]⟩:Bs),vl none 0 0,vi 0,vb 0,vb 0,vb 0,vi 0,vb 0,vs (⟨#[]⟩:Bs),vl none 0 0,vi 0,vb 0,vb 0,vb 0,vi 0,vb 0,vs (⟨#[]⟩:Bs),vl none 0 0,vi 0,vi 0] 95 (0,0))::F3)∧Tri P 53 #[nV n o p q r s a c d t] I3 ((aB,Obj.cells #[vb af,vb ag,vs ah,vb au,vb av,vb aw,vi ax,vb ay,vs az,vl h i j,vi aA,vb al,vb am,vb an,vi ao,vb ap,vs aq,vl k l m,vi ar,vb aM,vb aN,vb aO,vi aP,vb aQ,vs aR,vl ai aj ak,vi aS,vb n,vb o,vb p,vi q,vb r,vs s,vl a c d,vi t,vi u] 95 (0,0))::(b,Obj.cells #[vb 0,vb 0,vs (⟨#[]⟩:Bs),vb 0,vb 0,vb 0,vi 0,vb 0,vs (⟨#[]⟩:Bs),vl none 0 0,vi 0,vb 0,vb 0,vb 0,vi 0,vb 0,vs (⟨#[]⟩:Bs),vl none 0 0,vi 0,vb 0,vb 0,vb 0,vi 0,vb 0,vs (⟨#[]⟩:Bs),vl none 0 0,vi 0,vb 0,vb 0,vb 0,vi 0,vb 0,vs (⟨#[]⟩:Bs),vl none 0 0,vi 0,vi 0] 95 (0,0))::F3) fun e4 I4 G4=>∃(a3 a4 a5 a6 a7:Int) (a8:Bs) (aT:OA) (aU aV:Nat) (a9:Int),e4=.returned (nV a3 a4 a5 a6 a7 a8 aT aU aV a9)∧∃F4:Heap,List.Perm G4 ((aB,Obj.cells #[vb af,vb ag,vs ah,vb au,vb av,vb aw,vi ax,vb ay,vs az,vl h i j,vi aA,vb al,vb am,vb an,vi ao,vb ap,vs aq,vl k l m,vi ar,vb aM,vb aN,vb aO,vi aP,vb aQ,vs aR,vl ai aj ak,vi aS,vb n,vb o,vb p,vi q,vb r,vs s,vl a c d,vi t,vi u] 95 (0,0))::(b,Obj.cells #[vb 0,vb 0,vs (⟨#[]⟩:Bs),vb 0,vb 0,vb 0,vi 0,vb 0,vs (⟨#[]⟩:Bs),vl none 0 0,vi 0,vb 0,vb 0,vb 0,vi 0,vb 0,vs (⟨#[]⟩:Bs),vl none 0 0,vi 0,vb 0,vb 0,vb 0,vi 0,vb 0,vs (⟨#[]⟩:Bs),vl none 0 0,vi 0,vb 0,vb 0,vb 0,vi 0,vb 0,vs (⟨#[]⟩:Bs),vl none 0 0,vi 0,vi 0] 95 (0,0))::F4)∧Q (.returned (.agg #[vb af,vb ag,vs ah,vb au,vb av,vb aw,vi ax,vb ay,vs az,vl h i j,vi aA,vb al,vb am,vb an,vi ao,vb ap,vs aq,vl k l m,vi ar,vb aM,vb aN,vb aO,vi aP,vb aQ,vs aR,vl ai aj ak,vi aS,vb a3,vb a4,vb a5,vi a6,vb a7,vs a8,vl aT aU aV,vi a9,vi u])) I4 (F4)
theorem ref00_copyDo.vc{ax ay:Int}{az:Bs}{aA aB aC aD aE:Int}{aF:Bs}{u:OA}{v w:Nat}{x y z aa ab ac:Int}{ad:Bs}{b:OA}{d e:Nat}{ae af ag ah ai aj:Int}{ak:Bs}{g:OA}{i j:Nat}{al am ao ap aq ar:Int}{au:Bs}{m:OA}{p r:Nat}{av aw:Int}{I:Imm}{F:Heap}{Q:PostQ}  (h:ref00_copyDo.V (fun k o t n f s a l c q=>.agg #[.int .u8 k,.int .u8 o,.int .u8 t,.int .i64 n,.int .u8 f,.string s,.slice a l c,.int .i64 q]) (.int .u8) (.int .i64) .string .slice ax ay az aA aB aC aD aE aF u v w x y z aa ab ac ad b d e ae af ag ah ai aj ak g i j al am ao ap aq ar au m p r av aw I F Q):Tri P 97 #[.agg #[.int .u8 ax,.int .u8 ay,.string az,.int .u8 aA,.int .u8 aB,.int .u8 aC,.int .i64 aD,.int .u8 aE,.string aF,.slice u v w,.int .i64 x,.int .u8 y,.int .u8 z,.int .u8 aa,.int .i64 ab,.int .u8 ac,.string ad,.slice b d e,.int .i64 ae,.int .u8 af,.int .u8 ag,.int .u8 ah,.int .i64 ai,.int .u8 aj,.string ak,.slice g i j,.int .i64 al,.int .u8 am,.int .u8 ao,.int .u8 ap,.int .i64 aq,.int .u8 ar,.string au,.slice m p r,.int .i64 av,.int .i64 aw]] I F Q :=
 tw (A:=(an [] [53] shT_y3)) [53] func97 h
def ref15_Word.V(vt:Bool→Value)(s:Bs)(I:Imm)(F:Heap)(Q:PostQ)  : Prop:=Tri P 67 #[.string s] I F fun e1 I1 G1=>∃(r:Bool),e1=.returned (vt r)∧∃F1:Heap,List.Perm G1 F1∧(((((⟨#[122]⟩:Bs).size+s.size:Nat):Int)≤IntKind.i64.max)∧Tri P 67 (#[.string ((⟨#[122]⟩:Bs)++s)]) I1 F1 fun e2 I2 G2=>∃(r1:Bool),e2=.returned (vt r1)∧∃F2:Heap,List.Perm G2 F2∧(((!r)=true→Q (.returned (vt true)) I2 F2)∧((!r)=false→Q (.returned (vt (!r1))) I2 F2)))
theorem ref15_Word.vc{s:Bs}{I:Imm}{F:Heap}{Q:PostQ}  (h:ref15_Word.V .bool s I F Q):Tri P 55 #[.string s] I F Q :=
 tw (A:=(an [3001] [67] shT_y3)) [67] func55 h
end Go.Lx
namespace Go.Lx
open Go.Vc
abbrev awS:StgP:=(parseS exS).1
abbrev awT:StgP:=(parseS exT).1
theorem aw_s:awS.types=zTF:=by kernel_rfl
theorem aw_t:awT.types=⟨151,36,false⟩:=by kernel_rfl
theorem aw_n:typeOf awS (parseE exN).1=(3,zTF):=by kernel_rfl
theorem aw_m:(typeOf awS (parseE exM).1).2=⟨152,4,true⟩:=by kernel_rfl
theorem aw_ls:awS.Light:=StgP.light (of_decide_eq_true (by kernel_rfl))
theorem aw_lt:awT.Light:=StgP.light (of_decide_eq_true (by kernel_rfl))
theorem aw_zn:(parseE exN).1.size≤1048576:=of_decide_eq_true (by kernel_rfl)
theorem aw_zm:(parseE exM).1.size≤1048576:=of_decide_eq_true (by kernel_rfl)
theorem sub0{F:Heap}:∀x,x∈([]:Heap)→x∈F:=fun x hx=>absurd hx (by simp)
theorem awake15_spec{I:Imm}(hg:Gl I)(F:Heap):Tri P 10 #[] I F (Ret (.bool true) F):=by
 refine law15_awake.vc ?_
 unfold law15_awake.V
 refine (rStrategy_spec exS (by unfold Short;decide) I _).mono fun e I1 G l1 ⟨s,he,hs,oks,hG⟩=>?_
 refine⟨_,_,_,_,_,_,_,_,_,_,_,_,_,he,F,by rw[hG],fun b_s b_=>?_⟩
 refine (rStrategy_spec exT (by unfold Short;decide) I1 _).mono fun e I2 G l2 ⟨t,he,ht,okt,hG⟩=>?_
 refine⟨_,_,_,_,_,_,_,_,_,_,_,_,_,he,F,by rw[hG],fun b_t b_1=>?_⟩
 refine (rExpr_spec exN (by unfold Short;decide) I2 _).mono fun e I3 G l3 ⟨n,he,hn,okn,hG⟩=>?_
 refine⟨_,_,_,_,_,_,_,_,_,_,_,_,_,he,F,by rw[hG],fun b_n b_2=>?_⟩
 refine (rExpr_spec exM (by unfold Short;decide) I3 _).mono fun e I4 G l4 ⟨m,he,hm,okm,hG⟩=>?_
 refine⟨_,_,_,_,_,_,_,_,_,_,_,_,_,he,F,by rw[hG],fun b_m b_3=>?_⟩
 have ls:s.p.Light:=hs▸aw_ls
 have lt:t.p.Light:=ht▸aw_lt
 have lr:=ls.regs
 simp only[StgN.p,List.length_map] at lr
 have l24:=Imm.le_trans l2 (Imm.le_trans l3 l4)
 have l34:=Imm.le_trans l3 l4
 have hg4:=hg.mono (Imm.le_trans l1 l24)
 refine Tri.retV (pCheck_spec s ls (oks.mono l24 sub0) hg4) fun v5 I5 l5 hv5=>⟨v5,rfl,F,.refl _, ?_⟩
 refine Tri.retV (pCheck_spec t lt (okt.mono (Imm.le_trans l34 l5) sub0) (hg4.mono l5)) fun v6 I6 l6 hv6=>⟨v6,rfl,F,.refl _, ?_⟩
 have l56:=Imm.le_trans l5 l6
 refine Tri.ret (Wrong_chk (hg4.mono l56) (types_Z t.p) hv6 _) fun I7 l7=>⟨_,_,rfl,F,.refl _, ?_⟩
 have l57:=Imm.le_trans l56 l7
 refine Tri.retV (pOf_spec s lr n (by rw[hn];exact aw_zn) I7 _ (oks.mono (Imm.le_trans l24 l57) sub0) (okn.mono (Imm.le_trans l4 l57) sub0)) fun v8 I8 l8 ⟨w8,hv8,hw8⟩=>⟨_,_,congrArg Ending.returned hv8,F,.refl _, ?_⟩
 have l58:=Imm.le_trans l57 l8
 refine Tri.retV (pOf_spec s lr m (by rw[hm];exact aw_zm) I8 _ (oks.mono (Imm.le_trans l24 l58) sub0) (okm.mono l58 sub0)) fun v9 I9 l9 ⟨w9,hv9,hw9⟩=>⟨_,_,congrArg Ending.returned hv9,F,.refl _, ?_⟩
 refine Tri.ret (Wrong_of (hg4.mono (Imm.le_trans l58 l9)) (typeOf_Z s.p m.px) hw9 _) fun I10 l10=>⟨_,_,rfl,F,.refl _, ?_⟩
 have e5:v5=.nilIface:=hv5.1 (by rw[hs];show awS.types.e=0;rw[aw_s];rfl)
 have e8:w8=.nilIface:=hw8.1 (by rw[hs,hn];show (typeOf awS (parseE exN).1).2.e=0;rw[aw_n];rfl)
 have et:t.p.types=⟨151,36,false⟩:=by rw[ht];exact aw_t
 have em:(typeOf s.p m.px).2=⟨152,4,true⟩:=by rw[hs,hm];exact aw_m
 have en:(typeOf s.p n.px).1=3:=by rw[hs,hn];show (typeOf awS (parseE exN).1).1=3;rw[aw_n]
 rw[e5,e8,et,em,en]
 refine⟨true,nil_nil' (by kernel_rfl),fun _=>⟨fun _=>⟨fun _=>⟨true,nil_nil' (by kernel_rfl),fun _=>⟨fun _=>⟨fun _=>⟨rfl,rfl⟩,fun h=>(by cases h)⟩,fun h=>(by cases h)⟩,fun h=>(by cases h)⟩,fun h=>(by cases h)⟩,fun h=>(by cases h)⟩,fun h=>(by cases h)⟩
end Go.Lx
namespace Go.Lx
open Go.Vc Go.Proofs.Tryz
def shT_lTypesTexts:List (Nat×List Sh):=[(4,[.one .bool]),(38,[.one .any]),(41,[.one (.int .i64),.one (.int .i64)]),(44,[.agg [(.int .i64),(.int .i64),.bool]]),(50,[.agg [.str,.slc,.slc,.slc],.agg [(.int .i64),(.int .i64),.bool]])]
def law15_TypesTexts.V(ka:Nat→Int→Int→Bool→Nat×Obj)(kb:Nat→Bs→OA→Nat→Nat→OA→Nat→Nat→OA→Nat→Nat→Nat×Obj)(vi:Int→Value)(vs:Bs→Value)(vl:OA→Nat→Nat→Value)(vt:Bool→Value)(p:Bs)(I:Imm)(F:Heap)(Q:PostQ)  : Prop:=Tc1 P 10 #[] I (·) F vt fun r I1 F1=>(It (!r) (Q (.returned (vt r)) I1 F1) (Dt ((p.size:Int)>4096) (Q (.returned (vt r)) I1 F1) (Tcn P 17 #[vs p] I1 (·) F1 fun e2 I2 G2=>∃(j:Bs) (a:OA) (b c:Nat) (d:OA) (e f:Nat) (g:OA) (h i:Nat) (k l:Int) (m:Bool),e2=.returned (.tuple #[.agg #[vs j,vl a b c,vl d e f,vl g h i],.agg #[vi k,vi l,vt m]])∧G2 fun F2=>∀n:Nat,∀o:Nat,Tcn P 13 #[.agg #[vs j,vl a b c,vl d e f,vl g h i]] I2 ((kb n j a b c d e f g h i)::(ka o k l m)::·) F2 fun e3 I3 G3=>∃(r1:Value),e3=.returned r1∧G3 fun F3=>Tcn P 14 #[r1] I3 ((kb n j a b c d e f g h i)::(ka o k l m)::·) F3 fun e4 I4 G4=>∃(r0 s:Int),e4=.returned (.tuple #[vi r0,vi s])∧G4 fun F4=>Tcn P 15 #[.agg #[vs j,vl a b c,vl d e f,vl g h i]] I4 ((kb n j a b c d e f g h i)::(ka o k l m)::·) F4 fun e5 I5 G5=>∃(t q:Int) (u:Bool),e5=.returned (.agg #[vi t,vi q,vt u])∧G5 fun F5=>∀v:Nat,(It (r0==t) (It (s==q) (Q (.returned (vt (decide (q≤(p.size:Int))))) I5 F5) (Q (.returned (vt false)) I5 F5)) (Q (.returned (vt false)) I5 F5)))))
theorem law15_TypesTexts.vc{k:Bs}{I:Imm}{F:Heap}{Q:PostQ}  (h:law15_TypesTexts.V (fun W a b c=>(W,Obj.cells #[.int .i64 a,.int .i64 b,.bool c] 49 (0,0))) (fun W a b c d e f g h i j=>(W,Obj.cells #[.string a,.slice b c d,.slice e f g,.slice h i j] 26 (0,0))) (.int .i64) .string .slice .bool k I F Q):Tri P 4 #[.string k] I F Q :=
 tw (A:=(an [2001,2005,7003,7008] [10,13,14,15,17] shT_lTypesTexts)) [10,13,14,15,17] func4 h
end Go.Lx
namespace Go.Lx
open Go.Vc
theorem TypesTexts_spec(t:ByteArray)(I:Imm)(hg:Gl I)(F:Heap):Tri P 4 #[.string t] I F fun e I' G=>e=.returned (.bool true):=by
 refine law15_TypesTexts.vc ?_
 unfold law15_TypesTexts.V
 refine Tri.ret (awake15_spec hg _) fun I1 l1=>⟨_,rfl,F,.refl _,fun h=>(by cases h),fun _=>⟨fun _=>rfl,fun hsz=>?_⟩⟩
 have hsz:=of_decide_eq_false hsz
 refine (rStrategy_spec t (by unfold Short;omega) I1 _).mono fun e I2 G l2 ⟨s,he,px,hok,hG⟩=>?_
 subst hG
 refine⟨_,_,_,_,_,_,_,_,_,_,_,_,_,he,G,.refl _,fun b_s b_x=>?_⟩
 have hin:=parseS_in t
 rw[←px] at hin
 have hth:=hin.thin
 have hg2:=hg.mono (Imm.le_trans l1 l2)
 refine Tri.retV (pCheck_specT s hth (hok.mono (Imm.le_refl I2) sub0) hg2) fun v3 I3 l3 hv3=>⟨v3,rfl,G,.refl _, ?_⟩
 refine Tri.ret (Wrong_chk (hg2.mono l3) (types_Z s.p) hv3 _) fun I4 l4=>⟨_,_,rfl,G,.refl _, ?_⟩
 refine Tri.ret (Check15_specT s hth (hok.mono (Imm.le_trans l3 l4) sub0)) fun I5 l5=>⟨_,_,_,rfl,G,.refl _,fun b_f=>?_⟩
 refine⟨fun _=>⟨fun _=>?_,fun h=>?_⟩,fun h=>?_⟩
 ·rw[decide_eq_true (types_pos (by omega) hin)]
 ·simp at h
 ·simp at h
end Go.Lx
namespace Go.Vc
open Go.ChangeShapes Go.WideShapes Go.ChangeAt Go.RowKit
theorem Stays.cell{w w':World}(h:Stays w w'){a:Addr}(ha:a.block<w.heap.size):w'.cell? a=w.cell? a:=by
 unfold World.cell?;rw[h.heap _ ha]
theorem Stays.same{w w':World}(h:Stays w w'){p:MemPlace}(hp:p.block<w.heap.size):w.sameAt w' p:=by
 cases p with
 | cell b off=>exact h.cell (a:=⟨b,off,none⟩) hp
 | map b=>exact h.heap b hp
theorem trodAll_stays{H:Type}{enc:TypeId×Value→H}{P:Program}{T:TypeId→Prop}{w w':World}(K:Kids P T)(hsz:∀{t e:TypeId},T t→P.underlying t=some (.slice e)→0<P.cellsOf e)(st:Stays w w'){sp':Nat→Bool} :
  ∀{ts:List TypeId} {vs:List Value} {ds:List (DataW H)} {ps:List MemPlace},(∀t∈ts,T t)→DataW.TrodAll enc P w 0 (fun _=>true) true ts vs ds ps→(∀p∈ps,sp' p.block=true)→DataW.TrodAll enc P w' 0 sp' true ts vs ds ps
 | [],[],[],ps,_,h,_=>h
 | t::ts,v::vs,d::ds,ps,ht,⟨p,q,⟨n,h1⟩,h2,e⟩,hs=>by
   subst e
   have hlt:∀x∈p,x.block<w.heap.size:=DataW.trod_lt n t v.cells.toList (d,p) h1
   refine⟨p,q,⟨n, ?_⟩,trodAll_stays K hsz st (fun t' ht'=>ht t' (List.mem_cons_of_mem _ ht')) h2 (fun x hx=>hs x (List.mem_append_right _ hx)),rfl⟩
   exact DataW.trod_stays K hsz (fun h=>by cases h) (ht t (List.mem_cons_self ..)) h1 (fun x hx=>st.same (hlt x hx)) (fun x hx=>hs x (List.mem_append_left _ hx))
 | [],_::_,_,_,_,h,_=>h.elim
 | [],[],_::_,_,_,h,_=>h.elim
 | _::_,[],_,_,_,h,_=>h.elim
 | _::_,_::_,[],_,_,h,_=>h.elim
theorem Rd.of_cell{W:World}{ad:Addr}{v:Value}(h:W.cell? ad=some v)(G:Heap):Rd (Imm.all W) G ad [v]:=by
 unfold World.cell? at h
 cases hb:W.heap[ad.block]? with
 | none=>rw[hb] at h;cases h
 | some o =>
   rw[hb] at h
   cases o with
   | cells c e fz =>
     simp only at h
     cases hs:ad.spot with
     | some x=>rw[hs] at h;simp at h
     | none =>
       rw[hs] at h
       refine⟨hs,c,e,fz,.inl hb,fun j hj=>?_⟩
       have:j=0:=by simpa using hj
       subst this
       simpa using h
   | _=>cases h
end Go.Vc
namespace Go.Vc
open Go.ChangeShapes Go.WideShapes Go.ChangeAt Go.RowKit
theorem list_choice{α:Type}{p:Nat→α→Prop}:∀(n:Nat),(∀i,i<n→∃x,p i x)→∃l:List α,l.length=n∧∀(i:Nat) (x:α),l[i]? = some x→p i x
 | 0,_=>⟨[],rfl,fun i x h=>by simp at h⟩
 | n+1,h=>by
   obtain⟨l,hl,hp⟩:=list_choice n fun i hi=>h i (by omega)
   obtain⟨x,hx⟩:=h n (by omega)
   refine⟨l++[x],by simp[hl],fun i y hy=>?_⟩
   rw[List.getElem?_append] at hy
   split at hy
   ·exact hp i y hy
   ·rename_i hi
    have:i-l.length=0:=by
     rcases Nat.eq_zero_or_pos (i-l.length) with h | h
     ·exact h
     ·rw[List.getElem?_eq_none (by simp;omega)] at hy;cases hy
    rw[this] at hy
    simp only[List.getElem?_cons_zero,Option.some.injEq] at hy
    subst hy
    have:i=n:=by omega
    rw[this];exact hx
theorem Rd.of_row{W:World}{ad:Addr}{n:Nat}{cs:List Value}{base:Nat}(h:W.cells? base ad n=some cs)(hn:0<n)(G:Heap):ad.spot=none→Rd (Imm.all W) G ad cs:=by
 intro hsp
 obtain⟨_,hl,hc⟩:=World.cells?_some h
 have h0:W.cell? ad=cs[0]?:=by have:=hc 0 hn;rwa [show ad.add 0=ad from rfl] at this
 have hlen:cs.length=n:=hl
 unfold World.cell? at h0
 cases hb:W.heap[ad.block]? with
 | none=>rw[hb] at h0;simp only at h0;rw[List.getElem?_eq_getElem (by omega)] at h0;cases h0
 | some o =>
   cases o with
   | cells c e fz =>
     refine⟨hsp,c,e,fz,.inl hb,fun j hj=>?_⟩
     have h1:=hc j (by omega)
     have hadd:ad.add j=⟨ad.block,ad.off+j,none⟩:=by
      obtain⟨b,off,sp⟩:=ad
      simp only at hsp;subst hsp
      unfold Addr.add;split<;>simp_all
     rw[hadd] at h1
     unfold World.cell? at h1
     simp only[hb] at h1
     simpa using h1
   | _=>rw[hb] at h0;simp only at h0;rw[List.getElem?_eq_getElem (by omega)] at h0;cases h0
end Go.Vc
namespace Go.Vc
open Go.ChangeShapes Go.WideShapes Go.ChangeAt Go.RowKit
def Opens{H α:Type}(en:TypeId×Value→H)(P:Program)(W:World)(sp:Nat→Bool)(hd:Bool)(n:Nat)(t:TypeId)(f:α→List Value)(R S:α→Prop):Prop :=
 ∀cs d ps,DataW.trod en P W 0 sp hd n t cs=some (d,ps)→∃x,cs=f x∧R x∧((∀m∈d.weights P t,m≤reachBytes)→S x)
def OpensF{H α:Type}(en:TypeId×Value→H)(P:Program)(W:World)(sp:Nat→Bool)(hd:Bool)(n:Nat)(z:Nat)(fs:List (TypeId×Nat))(o:Nat)(f:α→List Value)(R S:α→Prop):Prop :=
 ∀(cs:List Value) (xs:List (DataW H×List MemPlace)),(fs.mapM fun p=>DataW.trod en P W 0 sp hd n p.1 ((cs.drop p.2).take (P.cellsOf p.1)))=some xs→cs.length=z→∃x,cs.drop o=f x∧R x∧((∀m∈DataW.weightsEach P (fs.map Prod.fst) (xs.map Prod.fst),m≤reachBytes)→S x)
def structB(P:Program)(t:TypeId)(l:List (TypeId×Nat))(z:Nat):Bool:=match P.underlying t with
 | some (.struct fs)=>(fs.toList.map fun f=>(f.type,f.offset))==l&&P.cellsOf t==z
 | _=>false
theorem mapM_via{α β γ:Type}(h:α→β)(g:β→Option γ):∀l:List α,(l.map h).mapM g=l.mapM fun x=>g (h x)
 | []=>rfl
 | x::l=>by simp[List.mapM_cons,mapM_via h g l]
section
variable {H:Type} {en:TypeId×Value→H} {P:Program} {W:World} {sp:Nat→Bool} {hd:Bool} {n:Nat}
theorem OpensF.nil{z:Nat}:OpensF en P W sp hd n z [] z (fun _:Unit=>[]) (fun _=>True) (fun _=>True):=by
 intro cs xs h hl
 exact⟨(),List.drop_eq_nil_of_le (by omega),trivial,fun _=>trivial⟩
theorem OpensF.cons{α β:Type}{z o k:Nat}{t:TypeId}{fs:List (TypeId×Nat)}{f:α→List Value}{g:β→List Value}{R S:α→Prop}{R' S':β→Prop}(h:Opens en P W sp hd n t f R S)(hc:P.cellsOf t=k)
  (hs:OpensF en P W sp hd n z fs (o+k) g R' S'):OpensF en P W sp hd n z ((t,o)::fs) o (fun x:α×β=>f x.1++g x.2) (fun x=>R x.1∧R' x.2) (fun x=>S x.1∧S' x.2):=by
 intro cs xs hm hl
 rw[List.mapM_cons] at hm
 cases h0:DataW.trod en P W 0 sp hd n t ((cs.drop o).take (P.cellsOf t)) with
 | none=>simp[h0] at hm
 | some x0 =>
   cases h1:(fs.mapM fun p=>DataW.trod en P W 0 sp hd n p.1 ((cs.drop p.2).take (P.cellsOf p.1))) with
   | none=>simp[h0,h1] at hm
   | some ys =>
     simp[h0,h1] at hm
     subst hm
     obtain⟨d0,p0⟩:=x0
     obtain⟨x,e1,r1,s1⟩:=h _ _ _ h0
     obtain⟨y,e2,r2,s2⟩:=hs _ _ h1 hl
     refine⟨(x,y), ?_,⟨r1,r2⟩,fun hw=>⟨s1 fun m hm=>hw m ?_,s2 fun m hm=>hw m ?_⟩⟩
     ·show cs.drop o=f x++g y
      rw[←e1,←e2,hc,←List.drop_drop,List.take_append_drop]
     ·simp only[List.map_cons,DataW.weightsEach,List.mem_append];exact .inl hm
     ·simp only[List.map_cons,DataW.weightsEach,List.mem_append];exact .inr hm
theorem Opens.struct{α:Type}{z:Nat}{t:TypeId}{fs:List (TypeId×Nat)}{f:α→List Value}{R S:α→Prop}(ht:structB P t fs z=true)(h:OpensF en P W sp hd n z fs 0 f R S):Opens en P W sp hd (n+1) t f R S:=by
 intro cs d ps hr
 unfold structB at ht
 split at ht
 ·rename_i gs hg
  simp only[Bool.and_eq_true,beq_iff_eq] at ht
  obtain⟨ht,hz⟩:=ht
  simp only[DataW.trod,hg] at hr
  split at hr
  ·rename_i hl
   rw[hz] at hl
   cases hm:gs.toList.mapM fun f=>DataW.trod en P W 0 sp hd n f.type ((cs.drop f.offset).take (P.cellsOf f.type)) with
   | none=>rw[hm] at hr;cases hr
   | some xs =>
     rw[hm] at hr
     simp only[Option.map_some,Option.some.injEq,Prod.mk.injEq] at hr
     have hm':(fs.mapM fun p=>DataW.trod en P W 0 sp hd n p.1 ((cs.drop p.2).take (P.cellsOf p.1)))=some xs:=by rw[←ht,mapM_via];exact hm
     obtain⟨x,e,r,s⟩:=h cs xs hm' hl
     refine⟨x,by simpa using e,r,fun hw=>s fun m hmm=>hw m ?_⟩
     rw[←hr.1]
     simp only[DataW.weights,hg]
     have:gs.toList.map (fun f=>f.type)=fs.map Prod.fst:=by rw[←ht,List.map_map];rfl
     rw[this];exact hmm
  ·cases hr
 ·cases ht
theorem Opens.map{α β:Type}{t:TypeId}{f:α→List Value}{g:β→List Value}{R S:α→Prop}{R' S':β→Prop}(h:Opens en P W sp hd n t f R S)(φ:α→β)(hf:∀x,R x→f x=g (φ x))(hr:∀x,R x→R' (φ x))(hs:∀x,R x→S x→S' (φ x)):Opens en P W sp hd n t g R' S':=by
 intro cs d ps hd
 obtain⟨x,e,r,s⟩:=h cs d ps hd
 exact⟨φ x,e.trans (hf x r),hr x r,fun hw=>hs x r (s hw)⟩
theorem Opens.int{k:IntKind}{t:TypeId}(ht:P.underlying t=some (.int k)):Opens en P W sp hd n t (fun x:Int=>[.int k x]) (fun x=>(Lit.int k x).wf=true) (fun _=>True):=by
 intro cs d ps h
 obtain⟨x,e,_,hw⟩:=DataW.trod_int ht h
 exact⟨x,e,hw,fun _=>trivial⟩
theorem Opens.str{t:TypeId}(ht:P.underlying t=some .string):Opens en P W sp hd n t (fun x:ByteArray=>[.string x]) (fun x=>x.size≤maxLen) (fun x=>x.size≤reachBytes):=by
 intro cs d ps h
 obtain⟨s,e,hx,hl⟩:=DataW.trod_string ht h
 refine⟨s,e,hl,fun hw=>?_⟩
 simp only[Prod.mk.injEq] at hx
 have:=hw s.data.toList.length (by rw[hx.1];simp[DataW.weights])
 simpa using this
structure SlV (β:Type) where
 a:Option Addr
 n:Nat
 c:Nat
 l:List β
theorem Opens.slice{β:Type}{z by':Nat}{t e:TypeId}{f:β→List Value}{R S:β→Prop}(ht:P.underlying t=some (.slice e))(hc:P.cellsOf e=z)(hz:0<z)(hb:P.bytesOf e=by')(hb1:1≤by')(hf:∀x,(f x).length=z)(h:Opens en P W sp hd n e f R S) :
  Opens en P W sp hd (n+1) t (fun s:SlV β=>[.slice s.a s.n s.c]) (fun s=>SlG (Imm.all W) [] z f s.a s.n s.l∧∀x∈s.l,R x) (fun s=>s.l.length≤reachBytes∧∀x∈s.l,S x):=by
 intro cs d ps hr
 rcases DataW.trod_slice ht hr with ⟨h1,h2⟩ | ⟨ad,len,cap,elems,rest,n',hn,hcs,hx,_,_,_,hlen,hel,_,_⟩
 ·exact⟨⟨none,0,0,[]⟩,h1,⟨⟨rfl,fun h=>absurd rfl h⟩,fun x hx=>by cases hx⟩,fun _=>⟨by simp,fun x hx=>by cases hx⟩⟩
 ·cases hn
  simp only[Prod.mk.injEq] at hx
  obtain⟨hdd,hps⟩:=hx
  clear hps
  subst hcs
  have hone:∀i,i<len→∃x,Rd (Imm.all W) [] (ad.add (i*z)) (f x)∧R x∧((∀y∈elems,∀m∈y.1.weights P e,m≤reachBytes)→S x):=by
   intro i hi
   have hfy:=hel i hi
   obtain⟨y,hy⟩:∃y,elems[i]? = some y:=⟨_,List.getElem?_eq_getElem (by omega)⟩
   rw[hc,hy] at hfy
   cases hcs:W.cells? 0 (ad.add (i*z)) z with
   | none=>rw[hcs] at hfy;cases hfy
   | some cs =>
     rw[hcs] at hfy
     simp only[Option.bind_some] at hfy
     obtain⟨x,e1,r1,s1⟩:=h cs y.1 y.2 hfy
     subst e1
     have hspk:(ad.add (i*z)).spot=none:=by
      obtain⟨_,hl,hc'⟩:=World.cells?_some hcs
      have h0:=hc' 0 hz
      rw[show (ad.add (i*z)).add 0=ad.add (i*z) from rfl,List.getElem?_eq_getElem (by rw[hf];omega)] at h0
      cases hs:(ad.add (i*z)).spot with
      | none=>rfl
      | some q =>
        unfold World.cell? at h0
        split at h0<;>simp_all
     refine⟨x,Rd.of_row hcs hz [] hspk,r1,fun hw=>s1 fun m hm=>hw y (List.mem_of_getElem? hy) m hm⟩
  obtain⟨l,hll,hlx⟩:=list_choice len hone
  refine⟨⟨some ad,len,cap,l⟩,rfl,⟨⟨hll.symm,fun _=>⟨ad,rfl,fun i x hx=>(hlx i x hx).1⟩⟩,fun x hx=>?_⟩,fun hw=>⟨?_,fun x hx=>?_⟩⟩
  ·obtain⟨i,hi,rfl⟩:=List.mem_iff_getElem.1 hx
   exact (hlx i _ (List.getElem?_eq_getElem hi)).2.1
  ·have h1:=hw ((elems.length+rest.length)*by') (by rw[hdd];simp only[DataW.weights,ht,List.length_map,hb];exact List.mem_cons_self ..)
   have h2:elems.length+rest.length≤(elems.length+rest.length)*by':=Nat.le_mul_of_pos_right _ hb1
   show l.length≤reachBytes
   omega
  ·obtain⟨i,hi,rfl⟩:=List.mem_iff_getElem.1 hx
   refine (hlx i _ (List.getElem?_eq_getElem hi)).2.2 fun y hy m hm=>hw m ?_
   rw[hdd]
   simp only[DataW.weights,ht]
   refine List.mem_cons_of_mem _ (List.mem_append_left _ ?_)
   clear hx hlen hel hone hlx hdd hr hw hi hll
   induction elems with
   | nil=>cases hy
   | cons q qs ihq =>
     simp only[List.map_cons,DataW.weightsAll,List.mem_append]
     rcases List.mem_cons.1 hy with rfl | hy
     ·exact .inl hm
     ·exact .inr (ihq hy)
theorem Opens.zero{α:Type}{t:TypeId}{f:α→List Value}{R S:α→Prop}:Opens en P W sp hd 0 t f R S:=fun cs d ps h=>by cases h
end
end Go.Vc
namespace Go.Lx
open Go.Vc Go.ChangeShapes Go.WideShapes Go.ChangeAt Go.RowKit
theorem Wf.mk{t:Nd}(h:t.px.Fit)(hk:∀k∈t.kids,k.px.Wf):t.px.Wf:=by
 intro y hy
 rw[←nodes_px] at hy
 obtain⟨x,hx,rfl⟩:=List.mem_map.1 hy
 rw[Nd.nodes_eq] at hx
 rcases List.mem_cons.1 hx with rfl | hx
 ·exact h
 ·have hL:∀l:List Nd,(∀k∈l,k.px.Wf)→x∈Nd.nodesL l→x.px.Fit:=by
   intro l
   induction l with
   | nil=>intro _ h;rw[Nd.nodesL] at h;cases h
   | cons z r ih =>
     intro hz h
     rw[Nd.nodesL] at h
     rcases List.mem_append.1 h with h | h
     ·exact Wf.nd (hz z (List.mem_cons_self ..)) x h
     ·exact ih (fun k hk=>hz k (List.mem_cons_of_mem _ hk)) h
  exact hL _ hk hx
end Go.Lx
namespace Go.Lx
open Go.Vc Go.ChangeShapes Go.WideShapes Go.ChangeAt Go.RowKit
def i64B(x:Int):Prop:=-9223372036854775808≤x∧x≤9223372036854775807
def u8B(x:Int):Prop:=0≤x∧x≤255
def DoP.Wf(d:DoP):Prop:=(u8B d.kind∧u8B d.order∧i64B d.pos)∧d.side.Wf∧d.qty.Wf∧d.price.Wf∧d.value.Wf
def RuleP.Wf(r:RuleP):Prop:=i64B r.pos∧r.when.Wf∧∀d∈r.dos,d.Wf
def StateP.Wf(x:StateP):Prop:=i64B x.pos∧∀r∈x.rules,r.Wf
def RegP.Wf(r:RegP):Prop:=(u8B r.typ∧i64B r.pos)∧r.init.Wf
def SlotP.Wf(r:SlotP):Prop:=i64B r.pos
def StgP.Wf(s:StgP):Prop:=(∀r∈s.regs,r.Wf)∧(∀r∈s.slots,r.Wf)∧∀x∈s.states,x.Wf
section
variable {H:Type} {en:TypeId×Value→H} {W:World} {sp:Nat→Bool} {hd:Bool}
end
end Go.Lx
