import Derived.Test.YtmbkaikdndflbaaGreatDoorCostMoreB2
set_option linter.unusedVariables false
set_option linter.unusedSimpArgs false
set_option linter.unusedSectionVars false
set_option maxRecDepth 100000
namespace Go.Vc
def pM:FrameMode→Value→FrameMode→Prop
 | .returning,v,u=>v=.nilIface∧u=.returning
 | .panicking ({ v:=x,recovered:=false,goexit:=false }::older),v,u=>v=x∧u=.panicking ({ v:=x,recovered:=true }::older)
 | _,_,_=>False
theorem Dc:pM .returning .nilIface .returning:=⟨rfl,rfl⟩
theorem Dd(v:Value):pM (.panicking [{ v:=v,recovered:=false }]) v (.panicking [{ v:=v,recovered:=true }]):=⟨rfl,rfl⟩
def Hk(o:Oper):Bool:=match o.op,o.guard with
 | .call { callee:=.builtin .recover,args:=_,argTypes:=_ },none=>true
 | _,_=>false
theorem pM.at{c:Frame}{cs:List Frame}{u u1:FrameMode}{v:Value}(hu:c.mode=u)(h:pM u v u1) :
  recoverD (c::cs)=some (v,{ c with mode:=u1 }::cs)∨(recoverD (c::cs)=none∧v=.nilIface∧{ c with mode:=u1 }::cs=c::cs):=by
 subst hu
 unfold pM at h
 split at h
 ·rename_i hm
  obtain⟨h1,h2⟩:=h
  refine .inr ⟨by simp[recoverD,hm],h1, ?_⟩
  subst h2
  rw[←hm]
 ·rename_i hm
  obtain⟨h1,h2⟩:=h
  subst h1 h2
  exact .inl (by simp[recoverD,hm])
 ·exact h.elim
theorem De{P:Program}{id:Nat}{ops:Array Oper}{o:Oper}{r:List Oper}{Q:Exit→Act→List Frame→World→Prop}{a:Act}{cs cs':List Frame}{w:World}{v:Value}(hl:ops.toList=o::r)(ho:Hk o=true)
  (hrec:recoverD cs=some (v,cs')∨(recoverD cs=none∧v=.nilIface∧cs'=cs)) (h:wpListIn Fence.wide 0 P ops (fun e a' w'=>Q e a' cs' w') r (a.put o.dst v) w) :
  (Code.region id ops false).wpSIn Fence.wide 0 P Q a cs w:=by
 intro b k hb hr hF hroom
 have hsz:ops.size=r.length+1:=by rw[←Array.length_toList,hl];rfl
 have h0:ops[0]? = some o:=by rw[←Array.getElem?_toList,hl];rfl
 have hrest:∀j,r[j]? = ops[1+j]?:=fun j=>by rw[←Array.getElem?_toList,hl,Nat.add_comm];rfl
 rw[←wpOpsIn_eq_wpListIn r 1 hrest] at h
 have hex:∀ci,o.op=.call ci→True:=fun _ _=>trivial
 have hop:∃ci,o.op=.call ci∧ci.callee=.builtin .recover∧o.guard=none:=by
  unfold Hk at ho
  split at ho
  ·rename_i h1 h2;exact⟨_,h1,rfl,h2⟩
  ·cases ho
 obtain⟨ci,hci,hcal,hgd⟩:=hop
 have hw:Region.wanted o (yielded ops a.tmps)=true:=by unfold Region.wanted;rw[hgd]
 have hrun:(execOp a.eval o).run P w=.ok .recover w:=by
  obtain⟨cal,args,tys⟩:=ci
  simp only at hcal
  subst hcal
  simp only[execOp,hci]
  rfl
 have hlen:cs'.length=cs.length:=by
  rcases hrec with hrec | ⟨_,_,rfl⟩
  ·exact recoverD_length hrec
  ·rfl
 obtain⟨e,a',w',q,harr⟩:=wp_opsIn _ _ _ h b k cs' (hr.trans rfl) hF (hlen▸hroom)
 refine⟨e,a',cs',w',hlen,q,.of_steps (.one (fenced_calm hF hroom rfl) stepR_region) ?_⟩
 rw[List.range_eq_range',hsz,List.range'_succ]
 have hg:=stepGR_op (P:=P) (b:=b) (k:=k) (cs:=cs) (w:=w) (rest:=List.range' (0+1) r.length) h0 hw
 rw[hr,Oper.semAt_none] at hg
 have hfin:∀v,(b.atR a (.inRegion ops (0::List.range' (0+1) r.length)::k)).finish v=b.atR (a.put o.dst v) (.inRegion ops (List.range' (0+1) r.length)::k):=by
  intro v;rw[Frame.finish_atR,h0];rfl
 have hk:(b.atR a (.inRegion ops (0::List.range' (0+1) r.length)::k)).kind=.deferred:=hb
 have htr:=tryRecover_deferred hk cs
 refine .of_steps (.one (fenced_oper hF hroom h0 fun f _=>trivial) (step_lone_go ?_)) harr
 rw[hg,←hfin]
 simp only[Frame.atR,hr] at htr ⊢
 rcases hrec with hrec | ⟨hrec,rfl,rfl⟩
 ·simp[stepG.apply,hrun,htr,hrec]
 ·simp[stepG.apply,hrun,htr,hrec]
def zm(P:Program)(rs:List ResultVar)(keep:List Nat)(Q:Ending→cc→b8→Prop)(u:Option (List PanicEntry))(σ:S)(I:cc)(F:b8):Prop:=match σ.df with
 | []=>match u with
   | none=>(match p7 P σ rs with
     | some vs=>Q (.returned (AK vs)) I (cK (pick σ.own keep)++F)
     | none=>False)
   | some ch=>Q (.panicked ch) I (cK (pick σ.own keep)++F)
 | _=>False
def Bb(P:Program)(rs:List ResultVar)(keep:List Nat)(Q:Ending→cc→b8→Prop):Kt
 | .normal,σ,I,F=>zm P rs keep Q none σ I F
 | .ret,σ,I,F=>zm P rs keep Q none σ I F
 | .panic ch,σ,I,F=>zm P rs keep Q (some ch) σ I F
 | _,_,_,_=>False
def Hl(P:Program)(A:po)(v:Value)(rs:List ResultVar)(keep:List Nat)(Q:Ending→cc→b8→Prop)(σ:S)(I:cc)(F:b8):Code→Prop
 | .seq (.region id ops false) rest=>match ops.toList with
   | o::r=>cond (Hk o) (xr P A id ops r 1 (σ.put o.dst (some (.a (.v v)))) I F (W P A none rest 2 (Bb P rs keep Q)) (fun ch=>Bb P rs keep Q (.panic ch))) False
   | []=>False
 | _=>False
section
variable {P:Program} {A:po}
theorem Ip{fn:Func}{keep:List Nat}(hk:Fs 0 keep=true){Q:Ending→cc→b8→Prop}{c0:Frame}{cs:List Frame}{u1:FrameMode}{R:Ending→FrameMode→World→Prop}{I0:cc}
  (hR:∀e I' F' w',cc.le I0 I'→Sat I' F' w'→Q e I' F'→R e u1 w') {e:Exit} {σ:S} {I:cc} {F:b8} {a:Act} {w:World} (hr:Rel σ I F a w) (hl:cc.le I0 I)
  (h:Bb P fn.results.toList keep Q e σ I F):bodyPostS P fn c0 cs R e a ({ c0 with mode:=u1 }::cs) w:=by
 have hsub:Sat I (cK (pick σ.own keep)++F) w:=by
  have h5:=uA keep 0 σ.own hk
  rw[List.drop_zero] at h5
  exact hr.sat.sub ((h5.map _).append (List.Sublist.refl F))
 have key:∀u,zm P fn.results.toList keep Q u σ I F→a.defers=[]∧match u with
   | none=>∃v,(results fn a.tmps).run P w=.ok v w∧Q (.returned v) I (cK (pick σ.own keep)++F)
   | some ch=>Q (.panicked ch) I (cK (pick σ.own keep)++F):=by
  intro u h
  unfold zm at h
  split at h
  ·rename_i hd
   refine⟨by rw[hr.defers,hd];rfl, ?_⟩
   cases u with
   | none =>
     simp only at h ⊢
     split at h
     ·rename_i vs hvs;exact⟨_,sE hr hvs,h⟩
     ·exact h.elim
   | some ch=>exact h
  ·exact h.elim
 cases e with
 | normal=>obtain⟨h1,v,h2,h3⟩:=key none h;exact⟨h1,u1,rfl,v,h2,hR _ _ _ _ hl hsub h3⟩
 | ret=>obtain⟨h1,v,h2,h3⟩:=key none h;exact⟨h1,u1,rfl,v,h2,hR _ _ _ _ hl hsub h3⟩
 | panic ch=>obtain⟨h1,h2⟩:=key (some ch) h;exact⟨h1,u1,rfl,hR _ _ _ _ hl hsub h2⟩
 | exit id=>exact h.elim
 | goto l=>exact h.elim
 | outgrown=>exact h.elim
theorem Dg(hP:∀f,A.good f=true→dw P f){f:FuncId}{fn:Func}{c:Code}(hf:P.funcs[f]? = some fn)(hb:fn.body=some c){args:List AV}{own:List di}
  {I:cc} {F:b8} {keep:List Nat} {Q:Ending→cc→b8→Prop} (hk:Fs 0 keep=true) (hwa:∀x∈args,AV.wf own x) (hwo:∀b∈own,∀x∈b.cells,AV.wf own x) {u u1:FrameMode} {v:Value} (hrec:pM u v u1)
  (h:Hl P A v fn.results.toList keep Q ⟨kI args fn.ntmps,own,[]⟩ I F c) {vs:List Value} (hv:vs=args.map AV.g):vW P f vs u I (cK own++F) fun e u' I' G=>u'=u1∧Q e I' G:=by
 subst hv
 intro w hw
 unfold Hl at h
 split at h
 ·rename_i id ops rest
  split at h
  ·rename_i o r hl
   obtain⟨ho,h⟩:=cG h
   refine callsDIn_of_wpSIn hf hb trivial fun c0 cs hu=>?_
   refine wpSIn_seq (De hl ho (pM.at hu hrec) ?_)
   have hrel:Rel ⟨kI args fn.ntmps,own,[]⟩ I F { tmps:=(args.map AV.g).toArray++Array.replicate (fn.ntmps-(args.map AV.g).toArray.size) undef,defers:=[] } w:=by
    refine⟨by simp[kI], ?_,rfl, ?_, ?_,hw⟩
    ·intro t av ht
     simp only[kI,List.getElem?_append] at ht
     split at ht
     ·rename_i hlt
      simp only[List.getElem?_map] at ht
      cases ha:args[t]? with
      | none=>rw[ha] at ht;simp at ht
      | some x =>
        rw[ha] at ht
        simp only[Option.map_some,Option.some.injEq] at ht
        subst ht
        simp at hlt
        rw[Array.getElem?_append_left (by simpa using hlt)]
        simp[ha]
     ·rw[List.getElem?_replicate] at ht;split at ht<;>cases ht
    ·intro t av ht
     simp only[kI,List.getElem?_append] at ht
     split at ht
     ·simp only[List.getElem?_map] at ht
      cases ha:args[t]? with
      | none=>rw[ha] at ht;simp at ht
      | some x =>
        rw[ha] at ht
        simp only[Option.map_some,Option.some.injEq] at ht
        subst ht
        exact hwa _ (List.mem_of_getElem? ha)
     ·rw[List.getElem?_replicate] at ht;split at ht<;>cases ht
    ·exact fun i b hb' x hx=>hwo b (List.mem_of_getElem? hb') x hx
   have hrel2:=hrel.put o.dst (av:=.a (.v v)) (v:=v) rfl trivial
   refine j9 (ro:=none) hP r 1 _ I F _ w (.inl rfl) h hrel2 ?_ ?_
   ·intro σ' I' F' a' w' h1 h2 h3 _
    refine wpSIn_of_wpIn rfl (wpIn_mono (Ci hP rest 2 _ none none σ' I' F' a' w' rfl h3 h1) ?_)
    intro e a2 w2 ⟨σ2,I2,F2,g1,g2,g3,_⟩
    exact Ip (fn:=fn) hk (fun e I3 F3 w3 hl3 hs3 hq3=>⟨I3,F3,hl3,hs3,rfl,hq3⟩) g1 (cc.le_trans h2 g2) g3
   ·intro ch σ' I' F' a' w' h1 h2 h3 _
    show bodyPostS P fn c0 cs (fun e u' w'=>∃I' F',I.le I'∧Sat I' F' w'∧u'=u1∧Q e I' F') (.panic ch) a' _ w'
    exact Ip (fn:=fn) hk (e:=.panic ch) (fun e I3 F3 w3 hl3 hs3 hq3=>⟨I3,F3,hl3,hs3,rfl,hq3⟩) h1 h2 h3
  ·exact h.elim
 ·exact h.elim
theorem wQ{f:FuncId}{fn:Func}{args:List AV}{own:List di}{I:cc}{F:b8}{keep:List Nat}{Q:cf}{V:Prop}{u u1:FrameMode}{v:Value}(gd:List Nat)(hf:P.funcs[f]? = some fn)(hrec:pM u v u1)(h:V)
  (e:Hl P A v fn.results.toList keep Q ⟨kI args fn.ntmps,own,[]⟩ I F (fn.body.getD .skip)=V) (hg:A.good=qJ gd) (hG:gd.all (uB P)=true) (hb:fn.body=some (fn.body.getD .skip)) (hk:Fs 0 keep=true)
  (hwa:∀x∈args,AV.wf own x) (hwo:∀b∈own,∀x∈b.cells,AV.wf own x) {vs:List Value} (hv:vs=args.map AV.g):vW P f vs u I (cK own++F) fun e u' I' G=>u'=u1∧Q e I' G :=
 Dg (fun f hf'=>yR gd hG f (by rw[←hg];exact hf')) hf hb hk hwa hwo hrec (by rw[←e] at h;exact h) hv
end
end Go.Vc
namespace Go.Lx
open Go.Vc Go.Proofs.Tryz
def Eu:List (Nat×List Sh):=[]
def gX.V(a:Nat)(c:Int)(I:cc)(F:b8)(Q:cf)  : Prop:=∀b:Nat,Q (.returned (.tuple #[])) I ((a,Obj.cells #[.int .i64 c] 47 (0,0))::F)
theorem gX.vc{b:Nat}{c:Int}{u u1:FrameMode}(d:pM u (Value.nilIface) u1){I:cc}{F:b8}{Q:cf}  (h:gX.V b c I F Q):vW P 96 [.pointer (some ⟨b,0,none⟩)] u I ((b,Obj.cells #[.int .i64 c] 47 (0,0))::F) (fun e u' I' G=>u'=u1∧Q e I' G) :=
 wQ (A:=(an [] [] Eu)) (args:=[.a (.p 0 b 0)]) (own:=[⟨b,47,false,[.a (.v (.int .i64 c))]⟩]) (keep:=[0]) [] func96 d h (by kernel_rfl) (by kernel_rfl) (by kernel_rfl) (by kernel_rfl) (by kernel_rfl) (by simp[AV.wf,At.wf]) (by simp[AV.wf,At.wf]) rfl
def gY.V(a:Nat)(c b:Int)(I:cc)(F:b8)(Q:cf)  : Prop:=∀d:Nat,Q (.returned (.tuple #[])) I ((a,Obj.cells #[.int .i64 b] 47 (0,0))::F)
theorem gY.vc{b:Nat}{c d:Int}{u u1:FrameMode}(f:pM u (Value.iface 155 (.agg #[.int .i64 d])) u1){I:cc}{F:b8}{Q:cf}  (h:gY.V b c d I F Q):vW P 96 [.pointer (some ⟨b,0,none⟩)] u I ((b,Obj.cells #[.int .i64 c] 47 (0,0))::F) (fun e u' I' G=>u'=u1∧Q e I' G) :=
 wQ (A:=(an [] [] Eu)) (args:=[.a (.p 0 b 0)]) (own:=[⟨b,47,false,[.a (.v (.int .i64 c))]⟩]) (keep:=[0]) [] func96 f h (by kernel_rfl) (by kernel_rfl) (by kernel_rfl) (by kernel_rfl) (by kernel_rfl) (by simp[AV.wf,At.wf]) (by simp[AV.wf,At.wf]) rfl
end Go.Lx
namespace Go.Vc
theorem rJ.fn{P:Program}{f:FuncId}{fr cap:Array Value}{args:List Value}{I:cc}{F:b8}{Q:Ending→cc→b8→Prop}(he:dw P f){vs:Array Value}(hv:fr++args.toArray++cap=vs)(h:cg P f vs I F Q):rJ P (.func (.func f) fr cap) args I F Q :=
 fun w hw=>.inl ⟨f,fr,cap,rfl,he,by rw[hv];exact h w hw⟩
theorem vW.mono{P:Program}{f:FuncId}{args:List Value}{u:FrameMode}{I:cc}{F:b8}{Q Q':Ending→FrameMode→cc→b8→Prop}(h:vW P f args u I F Q)(k:∀e u' I' G,cc.le I I'→Q e u' I' G→Q' e u' I' G):vW P f args u I F Q' :=
 fun w hw=>(h w hw).mono fun e u' w' ⟨I',F',h1,h2,h3⟩=>⟨I',F',h1,h2,k _ _ _ _ h1 h3⟩
end Go.Vc
namespace Go.Lx
open Go.Vc
abbrev qS(n:Int):Ending:=if n=0 then .returned (.tuple #[]) else .panicked (mM n)
theorem sM{look:Fn}{lf lc:Array Value}{n:Int}{I:cc}{F:b8}(h:∀b:Nat,rJ P (.func look lf lc) [] I ((b,.cells #[.int .i64 0] 47 (0,0))::F) fun e I' G=>e=qS n∧G=(b,.cells #[.int .i64 0] 47 (0,0))::F) :
  cg P 57 #[.func look lf lc] I F (eg (.int .i64 n) F):=by
 refine kM.vc ?_
 unfold kM.V
 intro b_e
 refine (h b_e).mono fun e I1 G hI1 ⟨he,hG⟩=>?_
 subst hG
 by_cases hn:n=0
 ·subst hn
  refine .inl ⟨he,F,.refl _,(gX.vc Dc (Q:=fun e I' G=>e=.returned (.tuple #[])∧G=(b_e,.cells #[.int .i64 0] 47 (0,0))::F) fun b_x=>⟨rfl,rfl⟩).mono fun e u I2 G _ ⟨hu,he,hG⟩=>?_⟩
  subst hu
  exact⟨_,he,0,F,by rw[hG],.inl ⟨rfl,rfl,rfl⟩⟩
 ·rw[qS,if_neg hn] at he
  refine .inr ⟨_,he,F,.refl _,(gY.vc (Dd _) (Q:=fun e I' G=>e=.returned (.tuple #[])∧G=(b_e,.cells #[.int .i64 n] 47 (0,0))::F) fun b_x=>⟨rfl,rfl⟩).mono fun e u I2 G _ ⟨hu,he,hG⟩=>?_⟩
  subst hu
  exact⟨_,he,n,F,by rw[hG],.inl ⟨rfl,rfl,rfl⟩⟩
theorem Bc:dw P 58:=yR [58] (by kernel_rfl) _ (by decide)
theorem Iq{b:Nat}{t:Nd}{I:cc}{G:b8}(h:(b,Obj.cells #[.int .u8 t.kind,.int .u8 t.oper,.int .u8 t.cx,.int .i64 t.n,.int .u8 t.field,.string t.name,.slice t.a t.kids.length t.c,.int .i64 t.pos] 28 (0,0))∈G):Rd I G (⟨b,0,none⟩:Addr) t.enc:=Rd.uE h 0 fun j hj=>by simp
theorem tg(t:Nd)(hs:t.px.size≤4194304)(I:cc)(F:b8)(ht:cH I F t):cg P 31 #[t.v] I F (eg (.int .i64 t.px.db) F):=by
 refine ix.vc ?_
 unfold ix.V
 intro b_n
 refine (sM (n:=t.px.db) fun b=>rJ.fn Bc (by simp) (zk hs (ht.cons.cons) (Iq (List.mem_cons_of_mem _ (List.mem_cons_self ..))))).mono fun e I1 G hI1 ⟨he,hG⟩=>?_
 subst hG
 exact⟨_,he,_,_,_,_,_,_,_,_,_,_,F,.refl _,rfl,rfl⟩
end Go.Lx
namespace Go.Vc
open Go.MapKept
def kq{κ β:Type}(key:κ→Value)(val:β→Value)(g:κ→Option β)(es:Array MapEntry)(clock:Nat):Prop :=
 Stamped es clock∧(∀x∈es.toList,∃k b,x.key=key k∧x.val=val b∧g k=some b)∧(∀k b,g k=some b→∃x∈es.toList,x.key=key k)
theorem kq.nil{κ β:Type}{key:κ→Value}{val:β→Value}(c:Nat):kq key val (fun _=>none) #[] c:=⟨stamped_empty c,by simp,fun k b h=>by cases h⟩
theorem kq.congr{κ β:Type}{key:κ→Value}{val:β→Value}{g g':κ→Option β}{es:Array MapEntry}{clock:Nat}(h:kq key val g es clock)(e:∀k,g k=g' k):kq key val g' es clock:=by
 rw[←funext e];exact h
theorem uP{α:Type}:∀{l:List α} {i j:Nat} {x:α},l.Nodup→i<j→l[i]? = some x→l[j]? = some x→False
 | [],_,_,_,_,_,h,_=>by simp at h
 | y::l,0,j+1,x,hn,_,h1,h2=>by
   simp only[List.getElem?_cons_zero,Option.some.injEq] at h1
   subst h1
   exact (List.nodup_cons.1 hn).1 (List.mem_of_getElem? (by simpa using h2))
 | y::l,i+1,j+1,x,hn,hl,h1,h2=>uP (l:=l) (x:=x) (i:=i) (j:=j) (List.nodup_cons.1 hn).2 (by omega) (by simpa using h1) (by simpa using h2)
def qf{κ β:Type}[DecidableEq κ](g:κ→Option β)(k:κ)(b:β):κ→Option β:=fun j=>if j=k then some b else g j
section
variable {P:Program} {κ β:Type} {d:TypeDesc} {key:κ→Value} {val:β→Value} {g:κ→Option β} {es:Array MapEntry} {clock:Nat} {t kt et:TypeId} {I:cc} {F:b8} {r:Nat} {k:κ} {z:Value}
theorem kq.find(hk:∀k,IsKey d (key k))(hi:∀k k',key k=key k'→k=k')(h:kq key val g es clock)(k:κ) :
  (Instr.findNow d (key k) es.toList 0=some none∧(∀x∈es.toList,x.key≠key k)∧g k=none) ∨
  ∃j e b,Instr.findNow d (key k) es.toList 0=some (some (j,val b))∧es[j]? = some e∧e.key=key k∧e.val=val b∧g k=some b:=by
 obtain⟨hs,h1,h2⟩:=h
 have hks:∀x∈es.toList,IsKey d x.key:=fun x hx=>by obtain⟨k',b,e,_⟩:=h1 x hx;rw[e];exact hk k'
 rcases findNow_spec (hk k) es.toList 0 hks with ⟨g1,g2⟩ | ⟨j,e,g1,g2,g3⟩
 ·refine .inl ⟨g1,g2, ?_⟩
  cases hg:g k with
  | none=>rfl
  | some b=>obtain⟨x,hx,e⟩:=h2 k b hg;exact absurd e (g2 x hx)
 ·obtain⟨k',b,e1,e2,e3⟩:=h1 e (List.mem_of_getElem? g2)
  obtain rfl:k'=k:=hi _ _ (e1.symm.trans g3)
  refine .inr ⟨j,e,b, ?_,by simpa using g2,g3,e2,e3⟩
  rw[g1,e2,Nat.zero_add]
theorem zn{et:TypeId}{z:Value}(hz:(P.info? et).map (·.zero)=some (some z))(w:World):(zeroValue et).run P w=.ok z w:=by
 cases h:P.info? et with
 | none=>rw[h] at hz;cases hz
 | some i =>
   rw[h] at hz
   simp only[Option.map_some,Option.some.injEq] at hz
   simp[zeroValue,typeInfo,h,hz,Result.andThen]
theorem Ev(hm:I r=some (.map es clock)∨(r,Obj.map es clock)∈F){w:World}(hw:Sat I F w):w.heap[r]? = some (.map es clock):=hm.elim (hw.imm _ _) (hw.own _ _)
theorem rZ(ht:P.underlying t=some (.map kt et))(hd:P.underlying kt=some d)(hk:∀k,IsKey d (key k))(hi:∀k k',key k=key k'→k=k')(hz:(P.info? et).map (·.zero)=some (some z))
  (h:kq key val g es clock) (hm:I r=some (.map es clock)∨(r,Obj.map es clock)∈F) (k:κ) :
  cE P (Instr.lookup t (.map (some r)) (key k) true) I F fun v I' G=>v=.tuple #[(g k).elim z val,.bool (g k).isSome]∧I'=I∧G=F:=by
 intro w hw
 have hb:=Ev hm hw
 rcases h.find hk hi k with ⟨h1,_,hg⟩ | ⟨j,e,b,h1,_,_,_,hg⟩
 ·refine⟨_,w,I,F, ?_,cc.le_refl I,hw,rfl,rfl,rfl⟩
  simp[Instr.lookup,run_underlying ht,MapKept.run_getObj_map hb,run_checkKey hd (hk k),run_findKey hd h1,zn hz,Result.andThen,hg]
 ·refine⟨_,w,I,F, ?_,cc.le_refl I,hw,rfl,rfl,rfl⟩
  simp[Instr.lookup,run_underlying ht,MapKept.run_getObj_map hb,run_checkKey hd (hk k),run_findKey hd h1,Result.andThen,hg]
theorem qg(ht:P.underlying t=some (.map kt et))(hd:P.underlying kt=some d)(hk:∀k,IsKey d (key k))(hi:∀k k',key k=key k'→k=k')(hz:(P.info? et).map (·.zero)=some (some z))
  (h:kq key val g es clock) (hm:I r=some (.map es clock)∨(r,Obj.map es clock)∈F) (k:κ) :
  cE P (Instr.lookup t (.map (some r)) (key k) false) I F fun v I' G=>v=(g k).elim z val∧I'=I∧G=F:=by
 intro w hw
 have hb:=Ev hm hw
 rcases h.find hk hi k with ⟨h1,_,hg⟩ | ⟨j,e,b,h1,_,_,_,hg⟩
 ·refine⟨_,w,I,F, ?_,cc.le_refl I,hw,rfl,rfl,rfl⟩
  simp[Instr.lookup,run_underlying ht,MapKept.run_getObj_map hb,run_checkKey hd (hk k),run_findKey hd h1,zn hz,Result.andThen,hg]
 ·refine⟨_,w,I,F, ?_,cc.le_refl I,hw,rfl,rfl,rfl⟩
  simp[Instr.lookup,run_underlying ht,MapKept.run_getObj_map hb,run_checkKey hd (hk k),run_findKey hd h1,Result.andThen,hg]
theorem jP:cE P (Instr.makeMap t none) I F fun v I' G=>∃b,v=.map (some b)∧I'=I∧G=(b,Obj.map #[] 0)::F:=by
 intro w hw
 exact⟨_,_,I,_,rfl,cc.le_refl I,hw.alloc _,_,rfl,rfl,rfl⟩
variable [DecidableEq κ]
theorem kq.push(hi:∀k k',key k=key k'→k=k')(h:kq key val g es clock)(hno:∀x∈es.toList,x.key≠key k)(b:β):kq key val (qf g k b) (es.push { key:=key k,val:=val b,born:=clock }) (clock+1):=by
 obtain⟨hs,h1,h2⟩:=h
 refine⟨stamped_push hs hno,fun x hx=>?_,fun k' b' hg=>?_⟩
 ·simp only[Array.toList_push,List.mem_append,List.mem_singleton] at hx
  rcases hx with hx | rfl
  ·obtain⟨k',b',e1,e2,e3⟩:=h1 x hx
   refine⟨k',b',e1,e2, ?_⟩
   unfold qf;rw[if_neg]
   ·exact e3
   ·intro e;subst e;exact hno x hx e1
  ·exact⟨k,b,rfl,rfl,if_pos rfl⟩
 ·unfold qf at hg
  by_cases e:k'=k
  ·subst e;exact⟨_,by simp;exact .inr rfl,rfl⟩
  ·rw[if_neg e] at hg
   obtain⟨x,hx,e⟩:=h2 k' b' hg
   exact⟨x,by simp only[Array.toList_push,List.mem_append];exact .inl hx,e⟩
theorem kq.modify(hi:∀k k',key k=key k'→k=k')(h:kq key val g es clock){j:Nat}{e:MapEntry}(hj:es[j]? = some e)(he:e.key=key k)(b:β){f:MapEntry→MapEntry}(hf:∀x,(f x).born=x.born)
  (hfk:∀x,x.key=key k→(f x).key=key k) (hv:∀x,(f x).val=val b):kq key val (qf g k b) (es.modify j f) clock:=by
 obtain⟨hs,h1,h2⟩:=h
 have hkey:∀e',es[j]? = some e'→(f e').key=e'.key:=fun e' he'=>by rw[hj] at he';cases he';rw[hfk _ he,he]
 refine⟨stamped_modify hs _ _ (fun x _=>hf x) fun x _ hx=>hkey x hx,fun x hx=>?_,fun k' b' hg=>?_⟩
 ·obtain⟨i,hx'⟩:=List.mem_iff_getElem?.1 hx
  simp only[Array.getElem?_toList,Array.getElem?_modify] at hx'
  by_cases hij:j=i
  ·subst hij
   rw[if_pos rfl,hj] at hx'
   simp only[Option.map_some,Option.some.injEq] at hx'
   subst hx'
   exact⟨k,b,hfk _ he,hv _,if_pos rfl⟩
  ·rw[if_neg hij] at hx'
   obtain⟨k',b',e1,e2,e3⟩:=h1 x (List.mem_of_getElem? (by simpa using hx'))
   refine⟨k',b',e1,e2, ?_⟩
   unfold qf;rw[if_neg]
   ·exact e3
   ·intro ek;subst ek
    have hnd:=hs.2.2
    have:i<es.size:=(Array.getElem?_eq_some_iff.1 hx').1
    have:j<es.size:=(Array.getElem?_eq_some_iff.1 hj).1
    rcases Nat.lt_or_gt_of_ne hij with hlt | hlt
    ·exact uP hnd hlt (by simp[hj];exact he) (by simp[hx'];exact e1)
    ·exact uP hnd hlt (by simp[hx'];exact e1) (by simp[hj];exact he)
 ·have hk':key k'∈es.toList.map (·.key):=by
   by_cases e':k'=k
   ·subst e';exact List.mem_map.2 ⟨e,List.mem_of_getElem? (by simpa using hj),he⟩
   ·unfold qf at hg
    rw[if_neg e'] at hg
    obtain⟨x,hx,ex⟩:=h2 k' b' hg
    exact List.mem_map.2 ⟨x,hx,ex⟩
  rw[←modify_keys j f hkey] at hk'
  obtain⟨x,hx,ex⟩:=List.mem_map.1 hk'
  exact⟨x,hx,ex⟩
theorem sN(ht:P.underlying t=some (.map kt et))(hd:P.underlying kt=some d)(hk:∀k,IsKey d (key k))(hi:∀k k',key k=key k'→k=k')(h:kq key val g es clock)(k:κ)(b:β) :
  lF P (Instr.mapUpdate t (.map (some r)) (key k) (val b)) I ((r,Obj.map es clock)::F) fun I' G=>I'=I∧∃es' c',G=(r,Obj.map es' c')::F∧kq key val (qf g k b) es' c':=by
 intro w hw
 have hb:w.heap[r]? = some (.map es clock):=hw.own _ _ (List.mem_cons_self ..)
 rcases h.find hk hi k with ⟨h1,h2,hg⟩ | ⟨j,e,b',h1,h2,h3,h4,hg⟩
 ·refine⟨_,I,_, ?_,cc.le_refl I,hw.set (w':={ w with heap:=w.heap.setIfInBounds r (.map (es.push { key:=key k,val:=val b,born:=clock }) (clock+1)) }) rfl ⟨rfl,rfl⟩,rfl,_,_,rfl,h.push hi h2 b⟩
  simp[Instr.mapUpdate,run_underlying ht,MapKept.run_getObj_map hb,run_checkKey hd (hk k),run_findKey hd h1,run_setObj_map _ hb,Result.andThen]
 ·refine⟨_,I,_, ?_,cc.le_refl I,hw.set (w':={ w with heap:=w.heap.setIfInBounds r (.map (es.modify j fun e=>{ e with key:=key k,val:=val b }) clock) }) rfl ⟨rfl,rfl⟩,rfl,_,_,rfl,h.modify hi h2 h3 b (fun _=>rfl) (fun _ _=>rfl) (fun _=>rfl)⟩
  simp[Instr.mapUpdate,run_underlying ht,MapKept.run_getObj_map hb,run_checkKey hd (hk k),run_findKey hd h1,h2,h3,run_keyThatStays (hk k),run_setObj_map _ hb,Result.andThen]
end
end Go.Vc
namespace Go.Vc
theorem lF.perm{P:Program}{s:Sem Unit}{I:cc}{F G:b8}{Q:cc→b8→Prop}(h:lF P s I F Q)(p:G.Perm F):lF P s I G Q:=fun w hw=>h w (hw.perm p)
theorem lF.mono{P:Program}{s:Sem Unit}{I:cc}{F:b8}{Q Q':cc→b8→Prop}(h:lF P s I F Q)(k:∀I' F',cc.le I I'→Q I' F'→Q' I' F'):lF P s I F Q' :=
 fun w hw=>let ⟨w',I',F',hr,hl,hs,hq⟩:=h w hw;⟨w',I',F',hr,hl,hs,k _ _ hl hq⟩
theorem kN:∀s:ByteArray,MapKept.IsKey .string (Value.string s):=fun _=>trivial
theorem str_inj:∀s t:ByteArray,Value.string s=Value.string t→s=t:=fun _ _ h=>by cases h;rfl
end Go.Vc
namespace Go.Lx
open Go.Vc
def Ak(l:List ByteArray)(k:Nat)(g:ByteArray→Option Int):Prop:=∀s,(iy l s=true→∃m,g s=some m∧1≤m∧m≤k)∧(iy l s=false→g s=none)
theorem Ak.nil:Ak [] 0 fun _=>none:=fun s=>⟨fun h=>by simp[iy] at h,fun _=>rfl⟩
theorem Ak.mono{l:List ByteArray}{k:Nat}{g:ByteArray→Option Int}(h:Ak l k g):Ak l (k+1) g:=fun s=>⟨fun hs=>let ⟨m,h1,h2,h3⟩:=(h s).1 hs;⟨m,h1,h2,by omega⟩,(h s).2⟩
theorem Ak.new{l:List ByteArray}{k:Nat}{g:ByteArray→Option Int}(h:Ak l k g){s:ByteArray}:Ak (l++[s]) (k+1) (qf g s 1):=fun t=>by
 have e:iy (l++[s]) t=(iy l t||decide (s=t)):=by unfold iy;rw[List.any_append];simp
 rw[e]
 unfold qf
 by_cases hts:t=s
 ·subst hts;rw[if_pos rfl];exact⟨fun _=>⟨1,rfl,by omega,by omega⟩,fun h=>by simp at h⟩
 ·rw[if_neg hts]
  have:decide (s=t)=false:=decide_eq_false fun e=>hts e.symm
  rw[this,Bool.or_false];exact h.mono t
theorem Ak.more{l:List ByteArray}{k:Nat}{g:ByteArray→Option Int}(h:Ak l k g){s:ByteArray}{m:Int}(hs:iy l s=true)(h1:1≤m)(h2:m≤k):Ak l (k+1) (qf g s (m+1)):=fun t=>by
 unfold qf
 by_cases hts:t=s
 ·subst hts;rw[if_pos rfl];exact⟨fun _=>⟨_,rfl,by omega,by omega⟩,fun h=>by rw[hs] at h;cases h⟩
 ·rw[if_neg hts];exact h.mono t
structure dg where
 name:ByteArray
 cx:Int
 init:Px
 pos:Int
structure cI where
 name:ByteArray
 pos:Int
structure dS where
 kind:Int
 order:Int
 name:ByteArray
 side:Px
 qty:Px
 price:Px
 value:Px
 pos:Int
structure cM where
 when:Px
 dos:List dS
 pos:Int
structure cq where
 name:ByteArray
 rules:List cM
 pos:Int
structure cu where
 name:ByteArray
 regs:List dg
 slots:List cI
 cd:List cq
structure cJ where
 name:ByteArray
 cx:Int
 init:Nd
 pos:Int
structure dG where
 kind:Int
 order:Int
 name:ByteArray
 side:Nd
 qty:Nd
 price:Nd
 value:Nd
 pos:Int
structure cr where
 when:Nd
 a:Option Addr
 c:Nat
 dos:List dG
 pos:Int
structure cj where
 name:ByteArray
 a:Option Addr
 c:Nat
 rules:List cr
 pos:Int
structure cB where
 name:ByteArray
 ra:Option Addr
 rc:Nat
 regs:List cJ
 sa:Option Addr
 sc:Nat
 slots:List cI
 ta:Option Addr
 tc:Nat
 cd:List cj
def cJ.p(r:cJ):dg:=⟨r.name,r.cx,r.init.px,r.pos⟩
def dG.p(d:dG):dS:=⟨d.kind,d.order,d.name,d.side.px,d.qty.px,d.price.px,d.value.px,d.pos⟩
def cr.p(r:cr):cM:=⟨r.when.px,r.dos.map dG.p,r.pos⟩
def cj.p(s:cj):cq:=⟨s.name,s.rules.map cr.p,s.pos⟩
def cB.p(s:cB):cu:=⟨s.name,s.regs.map cJ.p,s.slots,s.cd.map cj.p⟩
abbrev cJ.enc(r:cJ):List Value:=[.string r.name,.int .u8 r.cx,.int .u8 r.init.kind,.int .u8 r.init.oper,.int .u8 r.init.cx,.int .i64 r.init.n,.int .u8 r.init.field,.string r.init.name,.slice r.init.a r.init.kids.length r.init.c,.int .i64 r.init.pos,.int .i64 r.pos]
abbrev cI.enc(r:cI):List Value:=[.string r.name,.int .i64 r.pos]
abbrev dG.enc(d:dG):List Value:=[.int .u8 d.kind,.int .u8 d.order,.string d.name,.int .u8 d.side.kind,.int .u8 d.side.oper,.int .u8 d.side.cx,.int .i64 d.side.n,.int .u8 d.side.field,.string d.side.name,.slice d.side.a d.side.kids.length d.side.c,.int .i64 d.side.pos,.int .u8 d.qty.kind,.int .u8 d.qty.oper,.int .u8 d.qty.cx,.int .i64 d.qty.n,.int .u8 d.qty.field,.string d.qty.name,.slice d.qty.a d.qty.kids.length d.qty.c,.int .i64 d.qty.pos,.int .u8 d.price.kind,.int .u8 d.price.oper,.int .u8 d.price.cx,.int .i64 d.price.n,.int .u8 d.price.field,.string d.price.name,.slice d.price.a d.price.kids.length d.price.c,.int .i64 d.price.pos,.int .u8 d.value.kind,.int .u8 d.value.oper,.int .u8 d.value.cx,.int .i64 d.value.n,.int .u8 d.value.field,.string d.value.name,.slice d.value.a d.value.kids.length d.value.c,.int .i64 d.value.pos,.int .i64 d.pos]
abbrev cr.enc(r:cr):List Value:=[.int .u8 r.when.kind,.int .u8 r.when.oper,.int .u8 r.when.cx,.int .i64 r.when.n,.int .u8 r.when.field,.string r.when.name,.slice r.when.a r.when.kids.length r.when.c,.int .i64 r.when.pos,.slice r.a r.dos.length r.c,.int .i64 r.pos]
abbrev cj.enc(s:cj):List Value:=[.string s.name,.slice s.a s.rules.length s.c,.int .i64 s.pos]
abbrev cJ.v(r:cJ):Value:=.agg #[.string r.name,.int .u8 r.cx,.int .u8 r.init.kind,.int .u8 r.init.oper,.int .u8 r.init.cx,.int .i64 r.init.n,.int .u8 r.init.field,.string r.init.name,.slice r.init.a r.init.kids.length r.init.c,.int .i64 r.init.pos,.int .i64 r.pos]
abbrev cI.v(r:cI):Value:=.agg #[.string r.name,.int .i64 r.pos]
abbrev dG.v(d:dG):Value:=.agg #[.int .u8 d.kind,.int .u8 d.order,.string d.name,.int .u8 d.side.kind,.int .u8 d.side.oper,.int .u8 d.side.cx,.int .i64 d.side.n,.int .u8 d.side.field,.string d.side.name,.slice d.side.a d.side.kids.length d.side.c,.int .i64 d.side.pos,.int .u8 d.qty.kind,.int .u8 d.qty.oper,.int .u8 d.qty.cx,.int .i64 d.qty.n,.int .u8 d.qty.field,.string d.qty.name,.slice d.qty.a d.qty.kids.length d.qty.c,.int .i64 d.qty.pos,.int .u8 d.price.kind,.int .u8 d.price.oper,.int .u8 d.price.cx,.int .i64 d.price.n,.int .u8 d.price.field,.string d.price.name,.slice d.price.a d.price.kids.length d.price.c,.int .i64 d.price.pos,.int .u8 d.value.kind,.int .u8 d.value.oper,.int .u8 d.value.cx,.int .i64 d.value.n,.int .u8 d.value.field,.string d.value.name,.slice d.value.a d.value.kids.length d.value.c,.int .i64 d.value.pos,.int .i64 d.pos]
abbrev cr.v(r:cr):Value:=.agg #[.int .u8 r.when.kind,.int .u8 r.when.oper,.int .u8 r.when.cx,.int .i64 r.when.n,.int .u8 r.when.field,.string r.when.name,.slice r.when.a r.when.kids.length r.when.c,.int .i64 r.when.pos,.slice r.a r.dos.length r.c,.int .i64 r.pos]
abbrev cj.v(s:cj):Value:=.agg #[.string s.name,.slice s.a s.rules.length s.c,.int .i64 s.pos]
abbrev cB.enc(s:cB):List Value:=[.string s.name,.slice s.ra s.regs.length s.rc,.slice s.sa s.slots.length s.sc,.slice s.ta s.cd.length s.tc]
abbrev cB.v(s:cB):Value:=.agg #[.string s.name,.slice s.ra s.regs.length s.rc,.slice s.sa s.slots.length s.sc,.slice s.ta s.cd.length s.tc]
def cJ.Ok(I:cc)(G:b8)(r:cJ):Prop:=cH I G r.init
def dG.Ok(I:cc)(G:b8)(d:dG):Prop:=cH I G d.side∧cH I G d.qty∧cH I G d.price∧cH I G d.value
def cr.Ok(I:cc)(G:b8)(r:cr):Prop:=cH I G r.when∧dy I G 36 dG.enc r.a r.dos.length r.dos∧∀d∈r.dos,d.Ok I G
def cj.Ok(I:cc)(G:b8)(s:cj):Prop:=dy I G 10 cr.enc s.a s.rules.length s.rules∧∀r∈s.rules,r.Ok I G
structure cB.Ok (I:cc) (G:b8) (s:cB):Prop where
 regs:dy I G 11 cJ.enc s.ra s.regs.length s.regs
 eX:∀r∈s.regs,r.Ok I G
 slots:dy I G 2 cI.enc s.sa s.slots.length s.slots
 cd:dy I G 3 cj.enc s.ta s.cd.length s.cd
 state:∀x∈s.cd,x.Ok I G
section
variable {I J:cc} {G H:b8}
theorem cJ.Ok.mono{r:cJ}(h:r.Ok I G)(hl:cc.le I J)(hs:∀x,x∈G→x∈H):r.Ok J H:=cH.mono h hl hs
theorem dG.Ok.mono{d:dG}(h:d.Ok I G)(hl:cc.le I J)(hs:∀x,x∈G→x∈H):d.Ok J H:=⟨h.1.mono hl hs,h.2.1.mono hl hs,h.2.2.1.mono hl hs,h.2.2.2.mono hl hs⟩
theorem cr.Ok.mono{r:cr}(h:r.Ok I G)(hl:cc.le I J)(hs:∀x,x∈G→x∈H):r.Ok J H:=⟨h.1.mono hl hs,h.2.1.mono hl hs,fun d hd=>(h.2.2 d hd).mono hl hs⟩
theorem cj.Ok.mono{s:cj}(h:s.Ok I G)(hl:cc.le I J)(hs:∀x,x∈G→x∈H):s.Ok J H:=⟨h.1.mono hl hs,fun r hr=>(h.2 r hr).mono hl hs⟩
theorem cB.Ok.mono{s:cB}(h:s.Ok I G)(hl:cc.le I J)(hs:∀x,x∈G→x∈H):s.Ok J H :=
 ⟨h.regs.mono hl hs,fun r hr=>(h.eX r hr).mono hl hs,h.slots.mono hl hs,h.cd.mono hl hs,fun r hr=>(h.state r hr).mono hl hs⟩
theorem cB.Ok.cons{s:cB}(h:s.Ok I G){x:Nat×Obj}:s.Ok I (x::G):=h.mono (cc.le_refl I) fun _ h=>List.mem_cons_of_mem _ h
theorem cr.Ok.cons{s:cr}(h:s.Ok I G){x:Nat×Obj}:s.Ok I (x::G):=h.mono (cc.le_refl I) fun _ h=>List.mem_cons_of_mem _ h
theorem cj.Ok.cons{s:cj}(h:s.Ok I G){x:Nat×Obj}:s.Ok I (x::G):=h.mono (cc.le_refl I) fun _ h=>List.mem_cons_of_mem _ h
theorem dG.Ok.cons{s:dG}(h:s.Ok I G){x:Nat×Obj}:s.Ok I (x::G):=h.mono (cc.le_refl I) fun _ h=>List.mem_cons_of_mem _ h
end
def dS.nG(d:dS):List Px:=[d.side,d.qty,d.price,d.value]
def cM.nG(r:cM):List Px:=r.when::r.dos.flatMap dS.nG
def cu.nG(s:cu):List Px:=s.regs.map dg.init++s.cd.flatMap fun x=>x.rules.flatMap cM.nG
def cT(b:Bool)(n:Int):Int:=if b then 0 else n
def cm(a b:Int):Int:=if a=0 then b else a
def Px.sO(x:Px):Bool:=x.kind==0&&(x.oper==0&&(x.cx==0&&(x.n==0&&(x.field==0&&(x.name.toList==[])))))&&decide (x.kids.length=0)
def cN(is:Bool)(x:Px):Int:=if is then x.db else cT x.sO 120
def Px.mN(x:Px):Bool:=if x.kind=5∧x.oper=1 then (match x.kids with | k::_=>decide (k.kind=1∧k.cx≤4) | []=>false) else decide (x.kind=1)
def dg.check(r:dg):Int:=cT (cY r.name&&(decide (1≤r.cx∧r.cx≤6)&&(r.init.formed&&r.init.mN))) 120
def dS.lQ(d:dS):Bool:=decide (1≤d.kind∧d.kind≤6)
def dS.kr(d:dS):Bool:=decide (d.kind=1∧1≤d.order∧d.order≤5∨d.kind≠1∧d.order=0)
def dS.cY(d:dS):Bool:=if d.kind=6 then d.name.toList==[] else if d.kind≠1∨d.name.toList≠[] then Lx.cY d.name else true
def dS.check(d:dS):Int:=cm (cT d.lQ 120) (cm (cT d.kr 120) (cm (cT d.cY 120) (cm (cN (decide (d.kind=1)) d.side) (cm (cN (decide (d.kind=1∨d.kind=2)) d.qty)
 (cm (cN (decide (d.kind=1∧d.order≠2∨d.kind=2)) d.price) (cN (decide (d.kind=4)) d.value))))))
def cD{α:Type}(f:α→Int):List α→Int
 | []=>0
 | x::r=>cm (f x) (cD f r)
def cM.check(r:cM):Int:=cm r.when.db (cm (cT (decide (0<r.dos.length)) 120) (cm (cT (decide (r.dos.length≤8)) 121) (cD dS.check r.dos)))
def cq.check(s:cq):Int:=cm (cT (cY s.name) 120) (cm (cT (decide (s.rules.length≤12)) 121) (cD cM.check s.rules))
def cI.check(s:cI):Int:=cT (cY s.name) 120
def cu.check(s:cu):Int:=cm (cT (cY s.name) 120) (cm (cT (decide (s.regs.length≤12)) 121) (cm (cD dg.check s.regs) (cm (cT (decide (s.slots.length≤4)) 121) (cm (cD cI.check s.slots)
 (cm (cT (decide (0<s.cd.length)) 120) (cm (cT (decide (s.cd.length≤12)) 121) (cD cq.check s.cd)))))))
theorem sP{α:Type}(f:α→Int){l:List α}{i:Nat}{x:α}(h:l[i]? = some x):cD f (l.drop i)=cm (f x) (cD f (l.drop (i+1))):=by
 obtain⟨hk,rfl⟩:=List.getElem?_eq_some_iff.1 h
 rw[List.drop_eq_getElem_cons hk,cD]
theorem cw(b:Int):cm 0 b=b:=rfl
theorem lR{a:Int}(h:a≠0)(b:Int):cm a b=a:=if_neg h
theorem jw(a b c:Int):cm (cm a b) c=cm a (cm b c):=by unfold cm;split<;>simp[*]
end Go.Lx
namespace Go.Lx
open Go.Vc Go.Proofs.Tryz
def nW:List (Nat×List Sh):=[(0,[]),(4,[.one .bool]),(9,[.one .str]),(28,[.agg [(.int .u8),(.int .u8),(.int .u8),(.int .i64),(.int .u8),.str,.slc,(.int .i64)]]),(35,[.one .slc]),(36,[.one .slc]),(37,[.one .slc]),(39,[.agg [.str,.slc,.slc,.slc]]),(47,[.one (.int .i64)]),(65,[.agg [.str,.slc,(.int .i64)]]),(77,[.agg [.str,(.int .u8),(.int .u8),(.int .u8),(.int .u8),(.int .i64),(.int .u8),.str,.slc,(.int .i64),(.int .i64)]]),(79,[.agg [.str,(.int .i64)]]),(84,[.agg [(.int .u8),(.int .u8),(.int .u8),(.int .i64),(.int .u8),.str,.slc,(.int .i64),.slc,(.int .i64)]]),(99,[.agg [(.int .u8),(.int .u8),.str,(.int .u8),(.int .u8),(.int .u8),(.int .i64),(.int .u8),.str,.slc,(.int .i64),(.int .u8),(.int .u8),(.int .u8),(.int .i64),(.int .u8),.str,.slc,(.int .i64),(.int .u8),(.int .u8),(.int .u8),(.int .i64),(.int .u8),.str,.slc,(.int .i64),(.int .u8),(.int .u8),(.int .u8),(.int .i64),(.int .u8),.str,.slc,(.int .i64),(.int .i64)]]),(199,[.agg [(.int .u8),(.int .u8),(.int .u8),(.int .i64),(.int .u8),.str]])]
def mO.V(vl:OA→Nat→Nat→Value)(v:Bs)(k:OA)(l m:Nat)(n:OA)(o p:Nat)(q:OA)(s t:Nat)(I:cc)(F:b8)(Q:cf)  : Prop:=∀j:Nat,cg P 57 (#[.func (.func 103) #[] #[.pointer (some ⟨j,0,none⟩)]]) I ((j,Obj.cells #[.string v,vl k l m,vl n o p,vl q s t] 39 (0,0))::F) fun e1 I1 G1=>∃(r:Int),e1=.returned (.int .i64 r)∧∃(u:Bs) (a:OA) (b c:Nat) (d:OA) (e f:Nat) (g:OA) (h i:Nat),∃F1:b8,List.Perm G1 ((j,Obj.cells #[.string u,vl a b c,vl d e f,vl g h i] 39 (0,0))::F1)∧Q (.returned (.int .i64 r)) I1 (F1)
theorem mO.vc{k:Bs}{a:OA}{b c:Nat}{d:OA}{e f:Nat}{g:OA}{i j:Nat}{I:cc}{F:b8}{Q:cf}  (h:mO.V .slice k a b c d e f g i j I F Q):cg P 64 #[.agg #[.string k,.slice a b c,.slice d e f,.slice g i j]] I F Q :=
 tw (A:=(an [] [57] nW)) [57] func64 h
def jQ.V(ka:Nat→Bs→Int→Int→Int→Int→Int→Int→Bs→OA→Nat→Nat→Int→Int→Nat×Obj)(kb:Nat→Bs→OA→Nat→Nat→Int→Nat×Obj)(nV:Int→Int→Int→Int→Int→Bs→OA→Nat→Nat→Int→Value)(vb vi:Int→Value)(vs:Bs→Value)(vl:OA→Nat→Nat→Value)(vt:Bool→Value)(wr:Int→Int)(c:Addr)(I:cc)(F:b8)(Q:cf)(Inv8:Int→Nat→cc→b8→cc→b8→Prop)(Inv31:Int→Nat→cc→b8→cc→b8→Prop)(Inv51:Int→Nat→cc→b8→cc→b8→Prop)(Inv69:Int→Int→Nat→cc→b8→cc→b8→Prop):Prop:=∃(m:Bs),Rd I F (c.add 0) [vs m]∧cg P 104 #[vs m] I F fun e1 I1 G1=>((e1=.returned (.tuple #[])∧∃F1:b8,List.Perm G1 F1∧∃(a9:OA) (aF ba:Nat),Rd I1 F1 (c.add 1) [vl a9 aF ba]∧cg P 98 (#[vt (decide ((aF:Int)≤12)),vi 121]) I1 F1 fun e2 I2 G2=>((e2=.returned (.tuple #[])∧∃F2:b8,List.Perm G2 F2∧∃(au:OA) (an a0:Nat),Rd I2 F2 (c.add 1) [vl au an a0]∧(∃m1:Nat,Inv8 0 m1 I2 F2 I2 F2)∧∀(x:Int) (m2:Nat) (I3:cc) (F3:b8),cc.le I2 I3→Inv8 x m2 I2 F2 I3 F3→(Dt (x<(an:Int)) ((0≤x∧x<(an:Int))∧∃ad:Addr,au=some ad∧∃(r:Bs) (h j k l n o:Int) (p:Bs) (a:OA) (b d:Nat) (q f:Int),Rd I3 F3 (ad.add (Int.toNat x*11)) [vs r,vb h,vb j,vb k,vb l,vi n,vb o,vs p,vl a b d,vi q,vi f]∧∀u:Nat,cg P 104 #[vs r] I3 ((ka u r h j k l n o p a b d q f)::F3) fun e3 I4 G3=>((e3=.returned (.tuple #[])∧∃F4:b8,List.Perm G3 ((ka u r h j k l n o p a b d q f)::F4)∧(Dt (1≤h) (cg P 98 (#[vt (decide (h≤6)),vi 120]) I4 ((ka u r h j k l n o p a b d q f)::F4) fun e4 I5 G4=>((e4=.returned (.tuple #[])∧∃F5:b8,List.Perm G4 ((ka u r h j k l n o p a b d q f)::F5)∧cg P 105 #[nV j k l n o p a b d q] I5 ((ka u r h j k l n o p a b d q f)::F5) fun e5 I6 G5=>((e5=.returned (.tuple #[])∧∃F6:b8,List.Perm G5 ((ka u r h j k l n o p a b d q f)::F6)∧(∃m3:Nat,m3<m2∧Inv8 (wr (x+1)) m3 I2 F2 I6 F6))∨(∃ch:List PanicEntry,e5=.panicked ch∧∃F7:b8,List.Perm G5 ((ka u r h j k l n o p a b d q f)::F7)∧Q (.panicked ch) I6 F7)))∨(∃aH:List PanicEntry,e4=.panicked aH∧∃F8:b8,List.Perm G4 ((ka u r h j k l n o p a b d q f)::F8)∧Q (.panicked aH) I5 F8))) (cg P 98 #[vt false,vi 120] I4 ((ka u r h j k l n o p a b d q f)::F4) fun e6 I7 G6=>((e6=.returned (.tuple #[])∧∃F9:b8,List.Perm G6 ((ka u r h j k l n o p a b d q f)::F9)∧cg P 105 #[nV j k l n o p a b d q] I7 ((ka u r h j k l n o p a b d q f)::F9) fun e7 I8 G7=>((e7=.returned (.tuple #[])∧∃F10:b8,List.Perm G7 ((ka u r h j k l n o p a b d q f)::F10)∧(∃m4:Nat,m4<m2∧Inv8 (wr (x+1)) m4 I2 F2 I8 F10))∨(∃aI:List PanicEntry,e7=.panicked aI∧∃F11:b8,List.Perm G7 ((ka u r h j k l n o p a b d q f)::F11)∧Q (.panicked aI) I8 F11)))∨(∃aJ:List PanicEntry,e6=.panicked aJ∧∃F12:b8,List.Perm G6 ((ka u r h j k l n o p a b d q f)::F12)∧Q (.panicked aJ) I7 F12)))))∨(∃aK:List PanicEntry,e3=.panicked aK∧∃F13:b8,List.Perm G3 ((ka u r h j k l n o p a b d q f)::F13)∧Q (.panicked aK) I4 F13))) (∃(a1:OA) (av a2:Nat),Rd I3 F3 (c.add 2) [vl a1 av a2]∧cg P 98 (#[vt (decide ((av:Int)≤4)),vi 121]) I3 F3 fun e8 I9 G8=>((e8=.returned (.tuple #[])∧∃F14:b8,List.Perm G8 F14∧∃(aw:OA) (ao a3:Nat),Rd I9 F14 (c.add 2) [vl aw ao a3]∧(∃m5:Nat,Inv31 0 m5 I9 F14 I9 F14)∧∀(x1:Int) (m6:Nat) (I10:cc) (F15:b8),cc.le I9 I10→Inv31 x1 m6 I9 F14 I10 F15→(Dt (x1<(ao:Int)) ((0≤x1∧x1<(ao:Int))∧∃aL:Addr,aw=some aL∧∃(ae:Bs) (ap:Int),Rd I10 F15 (aL.add (Int.toNat x1*2)) [vs ae,vi ap]∧∀aA:Nat,cg P 104 #[vs ae] I10 ((aA,Obj.cells #[vs ae,vi ap] 79 (0,0))::F15) fun e9 I11 G9=>((e9=.returned (.tuple #[])∧∃F16:b8,List.Perm G9 ((aA,Obj.cells #[vs ae,vi ap] 79 (0,0))::F16)∧(∃m7:Nat,m7<m6∧Inv31 (wr (x1+1)) m7 I9 F14 I11 F16))∨(∃aM:List PanicEntry,e9=.panicked aM∧∃F17:b8,List.Perm G9 ((aA,Obj.cells #[vs ae,vi ap] 79 (0,0))::F17)∧Q (.panicked aM) I11 F17))) (∃(a4:OA) (ax a5:Nat),Rd I10 F15 (c.add 3) [vl a4 ax a5]∧cg P 98 (#[vt (decide ((ax:Int)>0)),vi 120]) I10 F15 fun aV I12 G10=>((aV=.returned (.tuple #[])∧∃F18:b8,List.Perm G10 F18∧∃(a6:OA) (ay a7:Nat),Rd I12 F18 (c.add 3) [vl a6 ay a7]∧cg P 98 (#[vt (decide ((ay:Int)≤12)),vi 121]) I12 F18 fun aW I13 G11=>((aW=.returned (.tuple #[])∧∃F19:b8,List.Perm G11 F19∧∃(az:OA) (aq a8:Nat),Rd I13 F19 (c.add 3) [vl az aq a8]∧(∃m8:Nat,Inv51 0 m8 I13 F19 I13 F19)∧∀(x2:Int) (m9:Nat) (I14:cc) (F20:b8),cc.le I13 I14→Inv51 x2 m9 I13 F19 I14 F20→(Dt (x2<(aq:Int)) ((0≤x2∧x2<(aq:Int))∧∃aN:Addr,az=some aN∧∃(s:Bs) (g:OA) (e i:Nat) (t:Int),Rd I14 F20 (aN.add (Int.toNat x2*3)) [vs s,vl g e i,vi t]∧∀v:Nat,cg P 104 #[vs s] I14 ((kb v s g e i t)::F20) fun aX I15 G12=>((aX=.returned (.tuple #[])∧∃F21:b8,List.Perm G12 ((kb v s g e i t)::F21)∧cg P 98 (#[vt (decide ((e:Int)≤12)),vi 121]) I15 ((kb v s g e i t)::F21) fun aY I16 G13=>((aY=.returned (.tuple #[])∧∃F22:b8,List.Perm G13 ((kb v s g e i t)::F22)∧(∃bb:Nat,Inv69 x2 0 bb I16 F22 I16 F22)∧∀(x3:Int) (aG:Nat) (I17:cc) (F23:b8),cc.le I16 I17→Inv69 x2 x3 aG I16 F22 I17 F23→(Dt (x3<(e:Int)) ((0≤x3∧x3<(e:Int))∧∃aO:Addr,g=some aO∧∃(af ag ah ai aj:Int) (ak:Bs) (aa:OA) (ab ac:Nat) (al:Int) (w:OA) (y z:Nat) (am:Int),Rd I17 ((kb v s g e i t)::F23) (aO.add (Int.toNat x3*10)) [vb af,vb ag,vb ah,vi ai,vb aj,vs ak,vl aa ab ac,vi al,vl w y z,vi am]∧∀ar:Nat,cg P 106 #[.agg #[vb af,vb ag,vb ah,vi ai,vb aj,vs ak,vl aa ab ac,vi al,vl w y z,vi am]] I17 ((kb v s g e i t)::(ar,Obj.cells #[vb af,vb ag,vb ah,vi ai,vb aj,vs ak,vl aa ab ac,vi al,vl w y z,vi am] 84 (0,0))::F23) fun aZ I18 G14=>((aZ=.returned (.tuple #[])∧∃F24:b8,List.Perm G14 ((kb v s g e i t)::(ar,Obj.cells #[vb af,vb ag,vb ah,vi ai,vb aj,vs ak,vl aa ab ac,vi al,vl w y z,vi am] 84 (0,0))::F24)∧(∃aP:Nat,aP<aG∧Inv69 x2 (wr (x3+1)) aP I16 F22 I18 F24))∨(∃aQ:List PanicEntry,aZ=.panicked aQ∧∃F25:b8,List.Perm G14 ((kb v s g e i t)::(ar,Obj.cells #[vb af,vb ag,vb ah,vi ai,vb aj,vs ak,vl aa ab ac,vi al,vl w y z,vi am] 84 (0,0))::F25)∧Q (.panicked aQ) I18 F25))) (∃aR:Nat,aR<m9∧Inv51 (wr (x2+1)) aR I13 F19 I17 F23)))∨(∃aS:List PanicEntry,aY=.panicked aS∧∃F26:b8,List.Perm G13 ((kb v s g e i t)::F26)∧Q (.panicked aS) I16 F26)))∨(∃aT:List PanicEntry,aX=.panicked aT∧∃F27:b8,List.Perm G12 ((kb v s g e i t)::F27)∧Q (.panicked aT) I15 F27))) (Q (.returned (.tuple #[])) I14 F20)))∨(∃aU:List PanicEntry,aW=.panicked aU∧∃F28:b8,List.Perm G11 F28∧Q (.panicked aU) I13 F28)))∨(∃aB:List PanicEntry,aV=.panicked aB∧∃F29:b8,List.Perm G10 F29∧Q (.panicked aB) I12 F29)))))∨(∃aC:List PanicEntry,e8=.panicked aC∧∃F30:b8,List.Perm G8 F30∧Q (.panicked aC) I9 F30)))))∨(∃aD:List PanicEntry,e2=.panicked aD∧∃F31:b8,List.Perm G2 F31∧Q (.panicked aD) I2 F31)))∨(∃aE:List PanicEntry,e1=.panicked aE∧∃F32:b8,List.Perm G1 F32∧Q (.panicked aE) I1 F32))
theorem jQ.vc{c:Addr}{I:cc}{F:b8}{Q:cf}(Inv8:Int→Nat→cc→b8→cc→b8→Prop)(Inv31:Int→Nat→cc→b8→cc→b8→Prop)(Inv51:Int→Nat→cc→b8→cc→b8→Prop)(Inv69:Int→Int→Nat→cc→b8→cc→b8→Prop)(h:jQ.V (fun W a b c d e f g h i j k l m=>(W,Obj.cells #[.string a,.int .u8 b,.int .u8 c,.int .u8 d,.int .u8 e,.int .i64 f,.int .u8 g,.string h,.slice i j k,.int .i64 l,.int .i64 m] 77 (0,0))) (fun W a b c d e=>(W,Obj.cells #[.string a,.slice b c d,.int .i64 e] 65 (0,0))) (fun k o t n f s a l c q=>.agg #[.int .u8 k,.int .u8 o,.int .u8 t,.int .i64 n,.int .u8 f,.string s,.slice a l c,.int .i64 q]) (.int .u8) (.int .i64) .string .slice .bool (IntKind.wrap .i64) c I F Q Inv8 Inv31 Inv51 Inv69):cg P 103 #[.pointer (some c)] I F Q :=
 tw (A:=(cQ [3000,6002,11000,18000,23000] [98,104,105,106] [98,104,105,106] nW [(8,⟨[(20,(.int .i64))],[],fun fs I0 F0 vs m I F=>match fs,vs with | [],[.int _ y0]=>Inv8 y0 m I0 F0 I F | _,_=>False,[],[]⟩),(31,⟨[(48,(.int .i64))],[],fun fs I0 F0 vs m I F=>match fs,vs with | [],[.int _ y0]=>Inv31 y0 m I0 F0 I F | _,_=>False,[],[]⟩),(51,⟨[(69,(.int .i64))],[],fun fs I0 F0 vs m I F=>match fs,vs with | [],[.int _ y0]=>Inv51 y0 m I0 F0 I F | _,_=>False,[],[]⟩),(69,⟨[(84,(.int .i64))],[],fun fs I0 F0 vs m I F=>match fs,vs with | [.int _ y0],[.int _ y1]=>Inv69 y0 y1 m I0 F0 I F | _,_=>False,[69],[]⟩)] [] [] [] [] [] [])) [98,104,105,106] func103 h
def mP.V(s:Bs)(I:cc)(F:b8)(Q:cf)  : Prop:=cF P 126 #[.string s] I (·) F .bool fun r I1 F1=>cg P 98 #[.bool r,.int .i64 120] I1 F1 fun e2 I2 G2=>((e2=.returned (.tuple #[])∧∃F2:b8,List.Perm G2 F2∧Q (.returned (.tuple #[])) I2 F2)∨(∃ch:List PanicEntry,e2=.panicked ch∧∃F3:b8,List.Perm G2 F3∧Q (.panicked ch) I2 F3))
theorem mP.vc{s:Bs}{I:cc}{F:b8}{Q:cf}  (h:mP.V s I F Q):cg P 104 #[.string s] I F Q :=
 tw (A:=(cQ [] [98] [98,126] nW [] [] [] [] [] [] [])) [98,126] func104 h
def jR.V(a:Nat→Nat×Obj)(vb vi:Int→Value)(vs:Bs→Value)(m n o p r:Int)(s:Bs)(d:OA)(c e:Nat)(t:Int)(I:cc)(F:b8)(Q:cf)  : Prop:=∀b:Nat,de P 127 #[.agg #[vb m,vb n,vb o,vi p,vb r,vs s,.slice d c e,vi t]] I ((a b)::·) F fun e1 I1 G1=>∃(f g h i j:Int) (k:Bs),e1=.returned (.agg #[vb f,vb g,vb h,vi i,vb j,vs k])∧G1 fun F1=>∃q:Bool,cP P .eql 199 (.tmp 3) (.tmp 4) (.agg #[vb f,vb g,vb h,vi i,vb j,vs k]) (.agg #[vb 0,vb 0,vb 0,vi 0,vb 0,vs (⟨#[]⟩:Bs)]) q∧(It q (cg P 98 (#[.bool ((c:Int)==0),vi 120]) I1 ((a b)::F1) fun e2 I2 G2=>((e2=.returned (.tuple #[])∧∃F2:b8,List.Perm G2 ((a b)::F2)∧Q (.returned (.tuple #[])) I2 F2)∨(∃ch:List PanicEntry,e2=.panicked ch∧∃F3:b8,List.Perm G2 ((a b)::F3)∧Q (.panicked ch) I2 F3))) (cg P 98 #[.bool false,vi 120] I1 ((a b)::F1) fun e3 I3 G3=>((e3=.returned (.tuple #[])∧∃F4:b8,List.Perm G3 ((a b)::F4)∧Q (.returned (.tuple #[])) I3 F4)∨(∃l:List PanicEntry,e3=.panicked l∧∃F5:b8,List.Perm G3 ((a b)::F5)∧Q (.panicked l) I3 F5))))
theorem jR.vc{e f g i j:Int}{k:Bs}{a:OA}{c d:Nat}{l:Int}{I:cc}{F:b8}{Q:cf}  (h:jR.V (fun b=>(b,Obj.cells #[.int .u8 e,.int .u8 f,.int .u8 g,.int .i64 i,.int .u8 j,.string k,.slice a c d,.int .i64 l] 28 (0,0))) (.int .u8) (.int .i64) .string e f g i j k a c d l I F Q):cg P 162 #[.agg #[.int .u8 e,.int .u8 f,.int .u8 g,.int .i64 i,.int .u8 j,.string k,.slice a c d,.int .i64 l]] I F Q :=
 tw (A:=(cQ [1003] [98] [98,127] nW [] [] [] [] [] [] [])) [98,127] func162 h
def oO.V(a:Nat→Nat×Obj)(nV:Int→Int→Int→Int→Int→Bs→OA→Nat→Nat→Int→Value)(is:Bool)(f g h i j:Int)(k:Bs)(c:OA)(d e:Nat)(l:Int)(I:cc)(F:b8)(Q:cf)  : Prop:=∀b:Nat,(It is (cg P 59 #[nV f g h i j k c d e l] I ((a b)::F) fun e1 I1 G1=>((e1=.returned (.tuple #[])∧∃F1:b8,List.Perm G1 ((a b)::F1)∧Q (.returned (.tuple #[])) I1 F1)∨(∃ch:List PanicEntry,e1=.panicked ch∧∃F2:b8,List.Perm G1 ((a b)::F2)∧Q (.panicked ch) I1 F2))) (cg P 162 #[nV f g h i j k c d e l] I ((a b)::F) fun e2 I2 G2=>((e2=.returned (.tuple #[])∧∃F3:b8,List.Perm G2 ((a b)::F3)∧Q (.returned (.tuple #[])) I2 F3)∨(∃m:List PanicEntry,e2=.panicked m∧∃F4:b8,List.Perm G2 ((a b)::F4)∧Q (.panicked m) I2 F4))))
theorem oO.vc{is:Bool}{i j m p r:Int}{u:Bs}{d:OA}{e g:Nat}{v:Int}{I:cc}{F:b8}{Q:cf}  (h:oO.V (fun b=>(b,Obj.cells #[.int .u8 i,.int .u8 j,.int .u8 m,.int .i64 p,.int .u8 r,.string u,.slice d e g,.int .i64 v] 28 (0,0))) (fun k o t n f s a l c q=>.agg #[.int .u8 k,.int .u8 o,.int .u8 t,.int .i64 n,.int .u8 f,.string s,.slice a l c,.int .i64 q]) is i j m p r u d e g v I F Q):cg P 150 #[.bool is,.agg #[.int .u8 i,.int .u8 j,.int .u8 m,.int .i64 p,.int .u8 r,.string u,.slice d e g,.int .i64 v]] I F Q :=
 tw (A:=(cQ [1000] [59,162] [59,162] nW [] [] [] [] [] [] [])) [59,162] func150 h
def tA.V(a:Nat→Nat×Obj)(nV:Int→Int→Int→Int→Int→Bs→OA→Nat→Nat→Int→Value)(vi:Int→Value)(vt:Bool→Value)(c d:Int)(h:Bs)(aR aS aT aU aV:Int)(aW:Bs)(al:OA)(am an:Nat)(aJ s t u v w:Int)(x:Bs)(i:OA)(j k:Nat)(y l m n o p:Int)(q:Bs)(e:OA)(f g:Nat)(r aK aL aM aN aO:Int)(aP:Bs)(z:OA)(aa ab:Nat)(aQ aX:Int)(I:cc)(F:b8)(Q:cf)(Inv4:cc→b8→Prop)(Inv6:cc→b8→Prop)(Inv8:cc→b8→Prop)(Inv19:cc→b8→Prop)(Inv21:cc→b8→Prop)(Inv23:cc→b8→Prop):Prop:=∀b:Nat,((Dt (1≤c) (cg P 98 (#[vt (decide (c≤6)),vi 120]) I ((a b)::F) fun e1 I1 G1=>((e1=.returned (.tuple #[])∧∃F1:b8,List.Perm G1 ((a b)::F1)∧Inv4 I1 F1)∨(∃ch:List PanicEntry,e1=.panicked ch∧∃F2:b8,List.Perm G1 ((a b)::F2)∧Q (.panicked ch) I1 F2))) (cg P 98 #[vt false,vi 120] I ((a b)::F) fun e2 I2 G2=>((e2=.returned (.tuple #[])∧∃F3:b8,List.Perm G2 ((a b)::F3)∧Inv4 I2 F3)∨(∃ao:List PanicEntry,e2=.panicked ao∧∃F4:b8,List.Perm G2 ((a b)::F4)∧Q (.panicked ao) I2 F4)))))∧∀(I3:cc) (F5:b8),cc.le I I3→Inv4 I3 F5→((It (c==1) (Dt (1≤d) (Dt (d≤5) (cg P 98 #[vt true,vi 120] I3 ((a b)::F5) fun e3 I4 G3=>((e3=.returned (.tuple #[])∧∃F6:b8,List.Perm G3 ((a b)::F6)∧Inv6 I4 F6)∨(∃ap:List PanicEntry,e3=.panicked ap∧∃F7:b8,List.Perm G3 ((a b)::F7)∧Q (.panicked ap) I4 F7))) (It (!(c==1)) (cg P 98 (#[vt (d==0),vi 120]) I3 ((a b)::F5) fun e4 I5 G4=>((e4=.returned (.tuple #[])∧∃F8:b8,List.Perm G4 ((a b)::F8)∧Inv6 I5 F8)∨(∃aq:List PanicEntry,e4=.panicked aq∧∃F9:b8,List.Perm G4 ((a b)::F9)∧Q (.panicked aq) I5 F9))) (cg P 98 #[vt false,vi 120] I3 ((a b)::F5) fun e5 I6 G5=>((e5=.returned (.tuple #[])∧∃F10:b8,List.Perm G5 ((a b)::F10)∧Inv6 I6 F10)∨(∃ar:List PanicEntry,e5=.panicked ar∧∃F11:b8,List.Perm G5 ((a b)::F11)∧Q (.panicked ar) I6 F11))))) (It (!(c==1)) (cg P 98 (#[vt (d==0),vi 120]) I3 ((a b)::F5) fun e6 I7 G6=>((e6=.returned (.tuple #[])∧∃F12:b8,List.Perm G6 ((a b)::F12)∧Inv6 I7 F12)∨(∃au:List PanicEntry,e6=.panicked au∧∃F13:b8,List.Perm G6 ((a b)::F13)∧Q (.panicked au) I7 F13))) (cg P 98 #[vt false,vi 120] I3 ((a b)::F5) fun e7 I8 G7=>((e7=.returned (.tuple #[])∧∃F14:b8,List.Perm G7 ((a b)::F14)∧Inv6 I8 F14)∨(∃av:List PanicEntry,e7=.panicked av∧∃F15:b8,List.Perm G7 ((a b)::F15)∧Q (.panicked av) I8 F15))))) (It (!(c==1)) (cg P 98 (#[vt (d==0),vi 120]) I3 ((a b)::F5) fun e8 I9 G8=>((e8=.returned (.tuple #[])∧∃F16:b8,List.Perm G8 ((a b)::F16)∧Inv6 I9 F16)∨(∃aw:List PanicEntry,e8=.panicked aw∧∃F17:b8,List.Perm G8 ((a b)::F17)∧Q (.panicked aw) I9 F17))) (cg P 98 #[vt false,vi 120] I3 ((a b)::F5) fun e9 I10 G9=>((e9=.returned (.tuple #[])∧∃F18:b8,List.Perm G9 ((a b)::F18)∧Inv6 I10 F18)∨(∃ax:List PanicEntry,e9=.panicked ax∧∃F19:b8,List.Perm G9 ((a b)::F19)∧Q (.panicked ax) I10 F19))))))∧∀(I11:cc) (F20:b8),cc.le I3 I11→Inv6 I11 F20→((It (c==6) (cg P 98 (#[vt (h.toList==(⟨#[]⟩:Bs).toList),vi 120]) I11 ((a b)::F20) fun az I12 G10=>((az=.returned (.tuple #[])∧∃F21:b8,List.Perm G10 ((a b)::F21)∧Inv8 I12 F21)∨(∃ay:List PanicEntry,az=.panicked ay∧∃F22:b8,List.Perm G10 ((a b)::F22)∧Q (.panicked ay) I12 F22))) (It (!(c==1)) (cg P 104 #[.string h] I11 ((a b)::F20) fun aA I13 G11=>((aA=.returned (.tuple #[])∧∃F23:b8,List.Perm G11 ((a b)::F23)∧Inv8 I13 F23)∨(∃ac:List PanicEntry,aA=.panicked ac∧∃F24:b8,List.Perm G11 ((a b)::F24)∧Q (.panicked ac) I13 F24))) (It (!(h.toList==(⟨#[]⟩:Bs).toList)) (cg P 104 #[.string h] I11 ((a b)::F20) fun aB I14 G12=>((aB=.returned (.tuple #[])∧∃F25:b8,List.Perm G12 ((a b)::F25)∧Inv8 I14 F25)∨(∃ad:List PanicEntry,aB=.panicked ad∧∃F26:b8,List.Perm G12 ((a b)::F26)∧Q (.panicked ad) I14 F26))) (Inv8 I11 F20)))))∧∀(I15:cc) (F27:b8),cc.le I11 I15→Inv8 I15 F27→(cg P 150 (#[vt (c==1),nV aR aS aT aU aV aW al am an aJ]) I15 ((a b)::F27) fun aC I16 G13=>((aC=.returned (.tuple #[])∧∃F28:b8,List.Perm G13 ((a b)::F28)∧Inv19 I16 F28)∨(∃ae:List PanicEntry,aC=.panicked ae∧∃F29:b8,List.Perm G13 ((a b)::F29)∧Q (.panicked ae) I16 F29)))∧∀(I17:cc) (F30:b8),cc.le I15 I17→Inv19 I17 F30→((It (c==1) (cg P 150 #[vt true,nV s t u v w x i j k y] I17 ((a b)::F30) fun aD I18 G14=>((aD=.returned (.tuple #[])∧∃F31:b8,List.Perm G14 ((a b)::F31)∧Inv21 I18 F31)∨(∃af:List PanicEntry,aD=.panicked af∧∃F32:b8,List.Perm G14 ((a b)::F32)∧Q (.panicked af) I18 F32))) (cg P 150 (#[vt (c==2),nV s t u v w x i j k y]) I17 ((a b)::F30) fun aE I19 G15=>((aE=.returned (.tuple #[])∧∃F33:b8,List.Perm G15 ((a b)::F33)∧Inv21 I19 F33)∨(∃ag:List PanicEntry,aE=.panicked ag∧∃F34:b8,List.Perm G15 ((a b)::F34)∧Q (.panicked ag) I19 F34)))))∧∀(I20:cc) (F35:b8),cc.le I17 I20→Inv21 I20 F35→((It (c==1) (It (d != 2) (cg P 150 #[vt true,nV l m n o p q e f g r] I20 ((a b)::F35) fun aF I21 G16=>((aF=.returned (.tuple #[])∧∃F36:b8,List.Perm G16 ((a b)::F36)∧Inv23 I21 F36)∨(∃ah:List PanicEntry,aF=.panicked ah∧∃F37:b8,List.Perm G16 ((a b)::F37)∧Q (.panicked ah) I21 F37))) (cg P 150 (#[vt (c==2),nV l m n o p q e f g r]) I20 ((a b)::F35) fun aG I22 G17=>((aG=.returned (.tuple #[])∧∃F38:b8,List.Perm G17 ((a b)::F38)∧Inv23 I22 F38)∨(∃ai:List PanicEntry,aG=.panicked ai∧∃F39:b8,List.Perm G17 ((a b)::F39)∧Q (.panicked ai) I22 F39)))) (cg P 150 (#[vt (c==2),nV l m n o p q e f g r]) I20 ((a b)::F35) fun aH I23 G18=>((aH=.returned (.tuple #[])∧∃F40:b8,List.Perm G18 ((a b)::F40)∧Inv23 I23 F40)∨(∃aj:List PanicEntry,aH=.panicked aj∧∃F41:b8,List.Perm G18 ((a b)::F41)∧Q (.panicked aj) I23 F41)))))∧∀(I24:cc) (F42:b8),cc.le I20 I24→Inv23 I24 F42→cg P 150 (#[vt (c==4),nV aK aL aM aN aO aP z aa ab aQ]) I24 ((a b)::F42) fun aI I25 G19=>((aI=.returned (.tuple #[])∧∃F43:b8,List.Perm G19 ((a b)::F43)∧Q (.returned (.tuple #[])) I25 F43)∨(∃ak:List PanicEntry,aI=.panicked ak∧∃F44:b8,List.Perm G19 ((a b)::F44)∧Q (.panicked ak) I25 F44))
theorem tA.vc{ay az:Int}{aA:Bs}{aB aC aD aE aF:Int}{aG:Bs}{w:OA}{x y:Nat}{z aa ab ac ad ae:Int}{af:Bs}{d:OA}{e g:Nat}{ag ah ai aj ak al:Int}{am:Bs}{i:OA}{j p:Nat}{an ao ap aq ar au:Int}{av:Bs}{r:OA}{u v:Nat}{aw ax:Int}{I:cc}{F:b8}{Q:cf}(Inv4:cc→b8→Prop)(Inv6:cc→b8→Prop)(Inv8:cc→b8→Prop)(Inv19:cc→b8→Prop)(Inv21:cc→b8→Prop)(Inv23:cc→b8→Prop)(h:tA.V (fun b=>(b,Obj.cells #[.int .u8 ay,.int .u8 az,.string aA,.int .u8 aB,.int .u8 aC,.int .u8 aD,.int .i64 aE,.int .u8 aF,.string aG,.slice w x y,.int .i64 z,.int .u8 aa,.int .u8 ab,.int .u8 ac,.int .i64 ad,.int .u8 ae,.string af,.slice d e g,.int .i64 ag,.int .u8 ah,.int .u8 ai,.int .u8 aj,.int .i64 ak,.int .u8 al,.string am,.slice i j p,.int .i64 an,.int .u8 ao,.int .u8 ap,.int .u8 aq,.int .i64 ar,.int .u8 au,.string av,.slice r u v,.int .i64 aw,.int .i64 ax] 99 (0,0))) (fun k o t n f s a l c q=>.agg #[.int .u8 k,.int .u8 o,.int .u8 t,.int .i64 n,.int .u8 f,.string s,.slice a l c,.int .i64 q]) (.int .i64) .bool ay az aA aB aC aD aE aF aG w x y z aa ab ac ad ae af d e g ag ah ai aj ak al am i j p an ao ap aq ar au av r u v aw ax I F Q Inv4 Inv6 Inv8 Inv19 Inv21 Inv23):cg P 132 #[.agg #[.int .u8 ay,.int .u8 az,.string aA,.int .u8 aB,.int .u8 aC,.int .u8 aD,.int .i64 aE,.int .u8 aF,.string aG,.slice w x y,.int .i64 z,.int .u8 aa,.int .u8 ab,.int .u8 ac,.int .i64 ad,.int .u8 ae,.string af,.slice d e g,.int .i64 ag,.int .u8 ah,.int .u8 ai,.int .u8 aj,.int .i64 ak,.int .u8 al,.string am,.slice i j p,.int .i64 an,.int .u8 ao,.int .u8 ap,.int .u8 aq,.int .i64 ar,.int .u8 au,.string av,.slice r u v,.int .i64 aw,.int .i64 ax]] I F Q :=
 tw (A:=(cQ [2002,3000,3004,3009,3013,4002,6001,6005,9000,10000,10004] [98,104,150] [98,104,150] nW [(4,⟨[],[],fun _ _ _ vs m I F=>match vs with | []=>Inv4  I F | _=>False,[],[]⟩),(6,⟨[],[],fun _ _ _ vs m I F=>match vs with | []=>Inv6  I F | _=>False,[],[]⟩),(8,⟨[],[],fun _ _ _ vs m I F=>match vs with | []=>Inv8  I F | _=>False,[],[]⟩),(19,⟨[],[],fun _ _ _ vs m I F=>match vs with | []=>Inv19  I F | _=>False,[],[]⟩),(21,⟨[],[],fun _ _ _ vs m I F=>match vs with | []=>Inv21  I F | _=>False,[],[]⟩),(23,⟨[],[],fun _ _ _ vs m I F=>match vs with | []=>Inv23  I F | _=>False,[],[]⟩)] [] [] [] [] [] [])) [98,104,150] func132 h
def mQ.V(l:Nat→Nat×Obj)(nO:Int→Int→Int→Int→Int→Bs→OA→Nat→Nat→Int→Obj)(vb vi:Int→Value)(vt:Bool→Value)(m p x y z:Int)(aa:Bs)(n:OA)(o q:Nat)(ab:Int)(I:cc)(F:b8)(Q:cf)  : Prop:=∀d:Nat,cg P 97 #[.agg #[vb m,vb p,vb x,vi y,vb z,.string aa,.slice n o q,vi ab]] I ((l d)::F) fun e1 I1 G1=>((e1=.returned (.tuple #[])∧∃F1:b8,List.Perm G1 ((l d)::F1)∧(It (m==5) (It (p==1) ((0≤(0:Int)∧(0:Int)<(o:Int))∧∃ad:Addr,n=some ad∧∃(e g f h i:Int) (j:Bs) (a:OA) (b c:Nat) (k:Int),Rd I1 ((l d)::F1) (ad.add (Int.toNat 0*8)) [vb e,vb g,vb f,vi h,vb i,.string j,.slice a b c,vi k]∧(It (e==1) (cg P 98 (#[vt (decide (f≤4)),vi 120]) I1 ((d,nO e g f h i j a b c k)::F1) fun e2 I2 G2=>((e2=.returned (.tuple #[])∧∃F2:b8,List.Perm G2 ((d,nO e g f h i j a b c k)::F2)∧cg P 98 (#[vt (e==1),vi 120]) I2 ((d,nO e g f h i j a b c k)::F2) fun e3 I3 G3=>((e3=.returned (.tuple #[])∧∃F3:b8,List.Perm G3 ((d,nO e g f h i j a b c k)::F3)∧Q (.returned (.tuple #[])) I3 F3)∨(∃ch:List PanicEntry,e3=.panicked ch∧∃F4:b8,List.Perm G3 ((d,nO e g f h i j a b c k)::F4)∧Q (.panicked ch) I3 F4)))∨(∃r:List PanicEntry,e2=.panicked r∧∃F5:b8,List.Perm G2 ((d,nO e g f h i j a b c k)::F5)∧Q (.panicked r) I2 F5))) (cg P 98 #[vt false,vi 120] I1 ((d,nO e g f h i j a b c k)::F1) fun e4 I4 G4=>((e4=.returned (.tuple #[])∧∃F6:b8,List.Perm G4 ((d,nO e g f h i j a b c k)::F6)∧cg P 98 (#[vt (e==1),vi 120]) I4 ((d,nO e g f h i j a b c k)::F6) fun e5 I5 G5=>((e5=.returned (.tuple #[])∧∃F7:b8,List.Perm G5 ((d,nO e g f h i j a b c k)::F7)∧Q (.returned (.tuple #[])) I5 F7)∨(∃s:List PanicEntry,e5=.panicked s∧∃F8:b8,List.Perm G5 ((d,nO e g f h i j a b c k)::F8)∧Q (.panicked s) I5 F8)))∨(∃t:List PanicEntry,e4=.panicked t∧∃F9:b8,List.Perm G4 ((d,nO e g f h i j a b c k)::F9)∧Q (.panicked t) I4 F9))))) (cg P 98 (#[vt (m==1),vi 120]) I1 ((l d)::F1) fun e6 I6 G6=>((e6=.returned (.tuple #[])∧∃F10:b8,List.Perm G6 ((l d)::F10)∧Q (.returned (.tuple #[])) I6 F10)∨(∃u:List PanicEntry,e6=.panicked u∧∃F11:b8,List.Perm G6 ((l d)::F11)∧Q (.panicked u) I6 F11)))) (cg P 98 (#[vt (m==1),vi 120]) I1 ((l d)::F1) fun e7 I7 G7=>((e7=.returned (.tuple #[])∧∃F12:b8,List.Perm G7 ((l d)::F12)∧Q (.returned (.tuple #[])) I7 F12)∨(∃v:List PanicEntry,e7=.panicked v∧∃F13:b8,List.Perm G7 ((l d)::F13)∧Q (.panicked v) I7 F13)))))∨(∃w:List PanicEntry,e1=.panicked w∧∃F14:b8,List.Perm G1 ((l d)::F14)∧Q (.panicked w) I1 F14))
theorem mQ.vc{i j m p r:Int}{u:Bs}{d:OA}{e g:Nat}{v:Int}{I:cc}{F:b8}{Q:cf}  (h:mQ.V (fun b=>(b,Obj.cells #[.int .u8 i,.int .u8 j,.int .u8 m,.int .i64 p,.int .u8 r,.string u,.slice d e g,.int .i64 v] 28 (0,0))) (fun k o t n f s a l c q=>.cells #[.int .u8 k,.int .u8 o,.int .u8 t,.int .i64 n,.int .u8 f,.string s,.slice a l c,.int .i64 q] 28 (0,0)) (.int .u8) (.int .i64) .bool i j m p r u d e g v I F Q):cg P 105 #[.agg #[.int .u8 i,.int .u8 j,.int .u8 m,.int .i64 p,.int .u8 r,.string u,.slice d e g,.int .i64 v]] I F Q :=
 tw (A:=(cQ [2002,2006,4002] [97,98] [97,98] nW [] [] [] [] [] [] [])) [97,98] func105 h
def oP.V(a:Nat→Nat×Obj)(vb vi:Int→Value)(vs:Bs→Value)(vl:OA→Nat→Nat→Value)(aI aJ aK aL aM:Int)(aN:Bs)(aB:OA)(aC aD:Nat)(aO:Int)(aE:OA)(l aP:Nat)(aQ:Int)(I:cc)(F:b8)(Q:cf)(Inv11:Int→Nat→cc→b8→Prop):Prop:=∀b:Nat,cg P 59 #[.agg #[vb aI,vb aJ,vb aK,vi aL,vb aM,vs aN,vl aB aC aD,vi aO]] I ((a b)::F) fun e1 I1 G1=>((e1=.returned (.tuple #[])∧∃F1:b8,List.Perm G1 ((a b)::F1)∧cg P 98 (#[.bool (decide ((l:Int)>0)),vi 120]) I1 ((a b)::F1) fun e2 I2 G2=>((e2=.returned (.tuple #[])∧∃F2:b8,List.Perm G2 ((a b)::F2)∧cg P 98 (#[.bool (decide ((l:Int)≤8)),vi 121]) I2 ((a b)::F2) fun e3 I3 G3=>((e3=.returned (.tuple #[])∧∃F3:b8,List.Perm G3 ((a b)::F3)∧(∃m:Nat,Inv11 0 m I3 F3)∧∀(x:Int) (m1:Nat) (I4:cc) (F4:b8),cc.le I3 I4→Inv11 x m1 I4 F4→(Dt (x<(l:Int)) ((0≤x∧x<(l:Int))∧∃ad:Addr,aE=some ad∧∃(ap aq:Int) (ar:Bs) (au av aw ax ay:Int) (az:Bs) (n:OA) (o p:Nat) (q r s t u v:Int) (w:Bs) (c:OA) (d e:Nat) (y z aa ab ac ae:Int) (af:Bs) (f:OA) (g h:Nat) (ag ah ai aj ak al:Int) (am:Bs) (i:OA) (j k:Nat) (an ao:Int),Rd I4 ((a b)::F4) (ad.add (Int.toNat x*36)) [vb ap,vb aq,vs ar,vb au,vb av,vb aw,vi ax,vb ay,vs az,vl n o p,vi q,vb r,vb s,vb t,vi u,vb v,vs w,vl c d e,vi y,vb z,vb aa,vb ab,vi ac,vb ae,vs af,vl f g h,vi ag,vb ah,vb ai,vb aj,vi ak,vb al,vs am,vl i j k,vi an,vi ao]∧∀aA:Nat,cg P 132 #[.agg #[vb ap,vb aq,vs ar,vb au,vb av,vb aw,vi ax,vb ay,vs az,vl n o p,vi q,vb r,vb s,vb t,vi u,vb v,vs w,vl c d e,vi y,vb z,vb aa,vb ab,vi ac,vb ae,vs af,vl f g h,vi ag,vb ah,vb ai,vb aj,vi ak,vb al,vs am,vl i j k,vi an,vi ao]] I4 ((a b)::(aA,Obj.cells #[vb ap,vb aq,vs ar,vb au,vb av,vb aw,vi ax,vb ay,vs az,vl n o p,vi q,vb r,vb s,vb t,vi u,vb v,vs w,vl c d e,vi y,vb z,vb aa,vb ab,vi ac,vb ae,vs af,vl f g h,vi ag,vb ah,vb ai,vb aj,vi ak,vb al,vs am,vl i j k,vi an,vi ao] 99 (0,0))::F4) fun e4 I5 G4=>((e4=.returned (.tuple #[])∧∃F5:b8,List.Perm G4 ((a b)::(aA,Obj.cells #[vb ap,vb aq,vs ar,vb au,vb av,vb aw,vi ax,vb ay,vs az,vl n o p,vi q,vb r,vb s,vb t,vi u,vb v,vs w,vl c d e,vi y,vb z,vb aa,vb ab,vi ac,vb ae,vs af,vl f g h,vi ag,vb ah,vb ai,vb aj,vi ak,vb al,vs am,vl i j k,vi an,vi ao] 99 (0,0))::F5)∧(∃m2:Nat,m2<m1∧Inv11 (IntKind.wrap .i64 (x+1)) m2 I5 F5))∨(∃ch:List PanicEntry,e4=.panicked ch∧∃F6:b8,List.Perm G4 ((a b)::(aA,Obj.cells #[vb ap,vb aq,vs ar,vb au,vb av,vb aw,vi ax,vb ay,vs az,vl n o p,vi q,vb r,vb s,vb t,vi u,vb v,vs w,vl c d e,vi y,vb z,vb aa,vb ab,vi ac,vb ae,vs af,vl f g h,vi ag,vb ah,vb ai,vb aj,vi ak,vb al,vs am,vl i j k,vi an,vi ao] 99 (0,0))::F6)∧Q (.panicked ch) I5 F6))) (Q (.returned (.tuple #[])) I4 F4)))∨(∃aF:List PanicEntry,e3=.panicked aF∧∃F7:b8,List.Perm G3 ((a b)::F7)∧Q (.panicked aF) I3 F7)))∨(∃aG:List PanicEntry,e2=.panicked aG∧∃F8:b8,List.Perm G2 ((a b)::F8)∧Q (.panicked aG) I2 F8)))∨(∃aH:List PanicEntry,e1=.panicked aH∧∃F9:b8,List.Perm G1 ((a b)::F9)∧Q (.panicked aH) I1 F9))
theorem oP.vc{i j k l n:Int}{o:Bs}{a:OA}{c d:Nat}{p:Int}{e:OA}{f g:Nat}{q:Int}{I:cc}{F:b8}{Q:cf}(Inv11:Int→Nat→cc→b8→Prop)(h:oP.V (fun b=>(b,Obj.cells #[.int .u8 i,.int .u8 j,.int .u8 k,.int .i64 l,.int .u8 n,.string o,.slice a c d,.int .i64 p,.slice e f g,.int .i64 q] 84 (0,0))) (.int .u8) (.int .i64) .string .slice i j k l n o a c d p e f g q I F Q Inv11):cg P 106 #[.agg #[.int .u8 i,.int .u8 j,.int .u8 k,.int .i64 l,.int .u8 n,.string o,.slice a c d,.int .i64 p,.slice e f g,.int .i64 q]] I F Q :=
 tw (A:=(cQ [5000] [59,98,132] [59,98,132] nW [(11,⟨[(20,(.int .i64))],[],fun _ _ _ vs m I F=>match vs with | [.int _ y0]=>Inv11 y0 m I F | _=>False,[],[]⟩)] [] [] [] [] [] [])) [59,98,132] func106 h
end Go.Lx
namespace Go.Lx
open Go.Vc
def dx(n:Int)(F:b8)(e:Ending)(I:cc)(G:b8):Prop:=e=qS n∧G=F
theorem dx.use{Pr:Program}{f:FuncId}{args:Array Value}{I:cc}{F:b8}{n:Int}{Q:Ending→cc→b8→Prop}(h:cg Pr f args I F (dx n F))
  (k1:n=0→∀I',cc.le I I'→Q (.returned (.tuple #[])) I' F) (k2:n≠0→∀I',cc.le I I'→Q (.panicked (mM n)) I' F):cg Pr f args I F Q :=
 h.mono fun e I' G hl ⟨he,hG⟩=>by
  subst hG
  by_cases hn:n=0
  ·rw[qS,if_pos hn] at he;subst he;exact k1 hn I' hl
  ·rw[qS,if_neg hn] at he;subst he;exact k2 hn I' hl
theorem dx.fail{n b N:Int}{F:b8}{I:cc}(h:N=cm n b)(hn:n≠0):dx N F (.panicked (mM n)) I F:=⟨by rw[h,lR hn,qS,if_neg hn],rfl⟩
theorem dx.nX{n N:Int}{F:b8}{I:cc}(h:N=n)(hn:n≠0):dx N F (.panicked (mM n)) I F:=⟨by rw[h,qS,if_neg hn],rfl⟩
theorem dx.done{N:Int}{F:b8}{I:cc}(h:N=0):dx N F (.returned (.tuple #[])) I F:=⟨by rw[h,qS,if_pos rfl],rfl⟩
theorem dx.look{b:Bool}{err:Int}(he:err≠0){Pr:Program}{f:FuncId}{args:Array Value}{I:cc}{F:b8}(h:cg Pr f args I F (tf b err F)):cg Pr f args I F (dx (cT b err) F) :=
 h.mono fun e I' G _ ⟨h1,h2⟩=>⟨by rw[h1];cases b<;>simp[cT,qS,he],h2⟩
theorem c6(b:Bool){err:Int}(he:err≠0)(I:cc)(F:b8):cg P 98 #[.bool b,.int .i64 err] I F (dx (cT b err) F):=dx.look he (lP b err I F)
theorem iS(s:ByteArray)(I:cc)(F:b8):cg P 104 #[.string s] I F (dx (cT (cY s) 120) F):=by
 refine mP.vc ?_
 unfold mP.V
 exact cg.ret (wN (t:=s) I _) fun I1 _=>⟨_,rfl,F,.refl _,dx.use (c6 _ (by decide) I1 _) (fun q I2 _=>.inl ⟨rfl,F,.refl _,.done q⟩) (fun q I2 _=>.inr ⟨_,rfl,F,.refl _,.nX rfl q⟩)⟩
theorem FI(t:Nd):t.px.sO=(H8 t.kind t.oper t.cx t.n t.field t.name 0 0 0 0 0 ⟨#[]⟩&&decide (t.kids.length=0)):=by
 unfold Px.sO H8
 rw[Nd.cO,Nd.fD,Nd.ir,Nd.yY,Nd.jt,Nd.gL,Nd.jB,dB]
 simp only[Bool.and_true]
theorem xH(t:Nd)(I:cc)(F:b8):cg P 162 #[t.v] I F (dx (cT t.px.sO 120) F):=by
 refine jR.vc ?_
 unfold jR.V
 intro b_n
 rw[FI]
 refine (uM t I _).mono fun e I1 G hI1 ⟨he,hG⟩=>?_
 subst hG
 refine⟨_,_,_,_,_,_,he,F,.refl _,_,zi t.kind t.oper t.cx t.n t.field t.name 0 0 0 0 0 ⟨#[]⟩,fun hq=>?_,fun hq=>?_⟩
 ·rw[hq,Bool.true_and]
  have e:(((t.kids.length:Nat):Int)==0)=decide (t.kids.length=0):=by rw[Bool.eq_iff_iff];simp
  rw[e]
  refine dx.use (c6 _ (by decide) I1 _) (fun q2 I2 hI2=>.inl ⟨rfl,_,.refl _, ?_⟩) (fun q2 I2 hI2=>.inr ⟨_,rfl,_,.refl _, ?_⟩)
  ·exact .done q2
  ·exact .nX rfl q2
 ·rw[hq,Bool.false_and]
  refine dx.use (c6 _ (by decide) I1 _) (fun q2 I2 hI2=>.inl ⟨rfl,_,.refl _, ?_⟩) (fun q2 I2 hI2=>.inr ⟨_,rfl,_,.refl _, ?_⟩)
  ·exact .done q2
  ·exact .nX rfl q2
theorem oQ(is:Bool)(t:Nd)(hs:t.px.size≤1048576)(I:cc)(F:b8)(ht:cH I F t):cg P 150 #[.bool is,t.v] I F (dx (cN is t.px) F):=by
 refine oO.vc ?_
 unfold oO.V cN
 intro b_n
 refine⟨fun h=>?_,fun h=>?_⟩
 ·rw[h]
  refine dx.use (wP t hs I _ ht.cons) (fun q1 I1 hI1=>.inl ⟨rfl,_,.refl _, ?_⟩) (fun q1 I1 hI1=>.inr ⟨_,rfl,_,.refl _, ?_⟩)
  ·exact .done q1
  ·exact .nX rfl q1
 ·rw[h]
  refine dx.use (xH t I _) (fun q1 I1 hI1=>.inl ⟨rfl,_,.refl _, ?_⟩) (fun q1 I1 hI1=>.inr ⟨_,rfl,_,.refl _, ?_⟩)
  ·exact .done q1
  ·exact .nX rfl q1
theorem oR{b:Bool}{n:Int}(hn:n≠0)(h:cT b n=0):b=true:=by
 unfold cT at h;cases b<;>simp_all
theorem oS{b:Bool}{n:Int}(h:cT b n≠0):b=false∧cT b n=n:=by
 unfold cT at h ⊢;cases b<;>simp_all
theorem Bd(t:Nd)(hs:t.px.size≤1048576)(I:cc)(F:b8)(ht:cH I F t):cg P 105 #[t.v] I F (dx (cT (t.px.formed&&t.px.mN) 120) F):=by
 refine mQ.vc ?_
 unfold mQ.V
 intro b_n
 refine dx.use (dx.look (by decide) (Da t hs I _ ht.cons)) (fun q1 I1 hI1=>.inl ⟨rfl,_,.refl _, ?_⟩) (fun q1 I1 hI1=>.inr ⟨_,rfl,_,.refl _, ?_⟩)
 ·have hf:=oR (by decide) q1
  rw[hf,Bool.true_and]
  unfold Px.mN
  rw[Nd.cO,Nd.fD]
  have hk1:(t.kind==1)=decide (t.kind=1):=rfl
  refine⟨fun h5=>⟨fun h1=>?_,fun h1=>?_⟩,fun h5=>?_⟩
  ·have h5:t.kind=5:=by simpa using h5
   have h1:t.oper=1:=by simpa using h1
   have hlen:t.kids.length=1:=by
    have:=Px.eD t.px
    rw[hf] at this
    have h2:=(Bool.and_eq_true _ _▸this.symm).1
    unfold Px.ig at h2
    simp only[Bool.and_eq_true,decide_eq_true_eq] at h2
    have h3:=h2.2
    unfold Px.arity at h3
    rw[Nd.cO,if_pos (.inl h5),Nd.jB] at h3
    exact h3
   obtain⟨ad,x,had,hx,hrd,hxo,hxm⟩:=((ht.mono hI1 fun _ h=>h).cons (x:=(b_n,Obj.cells #[.int .u8 t.kind,.int .u8 t.oper,.int .u8 t.cx,.int .i64 t.n,.int .u8 t.field,.string t.name,.slice t.a t.kids.length t.c,.int .i64 t.pos] 28 (0,0)))).kids.at (i:=0) (by decide) (by omega)
   have hks:t.px.kids=[x.px]:=by
    rw[Nd.dv]
    match hk:t.kids with
    | [y]=>rw[hk] at hx;simp at hx;rw[hx];rfl
    | []=>rw[hk] at hlen;simp at hlen
    | y::z::r=>rw[hk] at hlen;simp at hlen
   rw[if_pos ⟨h5,h1⟩,hks]
   simp only
   rw[Nd.cO,Nd.ir]
   refine⟨⟨by omega,by omega⟩,ad,had,_,_,_,_,_,_,_,_,_,_,hrd,fun hk=>?_,fun hk=>?_⟩
   ·have hk':x.kind=1:=by simpa using hk
    refine dx.use (c6 _ (by decide) I1 _) (fun q2 I2 hI2=>.inl ⟨rfl,_,.refl _, ?_⟩) (fun q2 I2 hI2=>.inr ⟨_,rfl,_,.refl _, ?_⟩)
    ·have:=oR (by decide) q2
     have h2:decide (x.kind=1∧x.cx≤4)=true:=decide_eq_true ⟨hk',of_decide_eq_true this⟩
     rw[h2,hk]
     refine dx.use (c6 _ (by decide) I2 _) (fun q3 I3 hI3=>.inl ⟨rfl,_,.refl _, ?_⟩) (fun q3 I3 hI3=>.inr ⟨_,rfl,_,.refl _, ?_⟩)
     ·exact .done rfl
     ·exact absurd rfl q3
    ·have h2:decide (x.kind=1∧x.cx≤4)=false:=decide_eq_false fun h=>by
      have:=(oS q2).1;rw[decide_eq_true h.2] at this;cases this
     rw[h2]
     exact .nX (oS q2).2.symm q2
   ·have hk':x.kind≠1:=by simpa using hk
    have h2:decide (x.kind=1∧x.cx≤4)=false:=decide_eq_false fun h=>hk' h.1
    rw[h2]
    refine dx.use (c6 _ (by decide) I1 _) (fun q2 I2 hI2=>.inl ⟨rfl,_,.refl _, ?_⟩) (fun q2 I2 hI2=>.inr ⟨_,rfl,_,.refl _, ?_⟩)
    ·cases q2
    ·exact .nX rfl q2
  ·have h1:t.oper≠1:=by simpa using h1
   rw[if_neg fun h=>h1 h.2,←hk1]
   refine dx.use (c6 _ (by decide) I1 _) (fun q2 I2 hI2=>.inl ⟨rfl,_,.refl _, ?_⟩) (fun q2 I2 hI2=>.inr ⟨_,rfl,_,.refl _, ?_⟩)
   ·exact .done q2
   ·exact .nX rfl q2
  ·have h5:t.kind≠5:=by simpa using h5
   rw[if_neg fun h=>h5 h.1,←hk1]
   refine dx.use (c6 _ (by decide) I1 _) (fun q2 I2 hI2=>.inl ⟨rfl,_,.refl _, ?_⟩) (fun q2 I2 hI2=>.inr ⟨_,rfl,_,.refl _, ?_⟩)
   ·exact .done q2
   ·exact .nX rfl q2
 ·exact .nX (by rw[(oS q1).1];rfl) q1
theorem zo(s:ByteArray)(i:Int):0≤ki s i∧ki s i≤2:=by
 unfold ki;simp only;repeat' split
 all_goals decide
theorem Ew{s:ByteArray}{i:Int}(h:i<(s.size:Int)):i+ki s i≤s.size:=by
 have hb:cX s (i+1)≠0→i+1<(s.size:Int):=fun hne=>by
  unfold cX at hne;split at hne
  ·assumption
  ·exact absurd rfl hne
 unfold ki;simp only
 split
 ·omega
 ·split
  ·rename_i hc;split
   ·rename_i hd;have:=hb (by omega);omega
   ·omega
  ·split
   ·split
    ·rename_i hd;have:=hb (by omega);omega
    ·omega
   ·omega
def pA(c:Int):List Value:=[.int .u8 c]
def bytesOf(s:ByteArray):List Int:=s.data.toList.map fun b=>(b.toNat:Int)
theorem qT{s:ByteArray}{i j:Int}(h0:0≤i)(h1:i≤j)(h2:j≤s.size):((cut s i j).size:Int)=j-i:=by
 unfold cut;rw[ByteArray.size_extract];omega
theorem Be{s:ByteArray}{i j k:Int}(h0:0≤i)(hk:0≤k)(h1:i+k<j)(h2:j≤s.size):bt (cut s i j) k=bt s (i+k):=by
 have hsz:=qT (s:=s) (i:=i) (j:=j) h0 (by omega) h2
 unfold bt
 have e1:(cut s i j)[k.toNat]? = s[(i+k).toNat]?:=by
  have hk':k.toNat<(s.extract i.toNat j.toNat).size:=by unfold cut at hsz;omega
  have hi':(i+k).toNat<s.size:=by omega
  have a1:(s.extract i.toNat j.toNat)[k.toNat]? = some (s.extract i.toNat j.toNat)[k.toNat]:=by simp[hk']
  have a2:s[(i+k).toNat]? = some s[(i+k).toNat]:=by simp[hi']
  show (s.extract i.toNat j.toNat)[k.toNat]? = _
  rw[a1,a2,ByteArray.getElem_extract]
  congr 2
  omega
 rw[e1]
def TR.v2:TR→Value
 | .ok t=>.tuple #[t.v,.int .i64 0]
 | .bad e p=>.tuple #[(yW 0).v,.int .i64 e]
theorem Hm{α:Type}{C:Prop}[d:Decidable C]{x y z:α}(h:z=if C then x else y):∃C':Prop,(C'∧z=x)∨(¬C'∧z=y) :=
 ⟨C,(Classical.em C).imp (fun c=>⟨c,by rw[h,if_pos c]⟩) fun c=>⟨c,by rw[h,if_neg c]⟩⟩
theorem Cp(s:ByteArray)(i:Int):∃C:Prop,(C∧rT s i=.bad 113 i)∨(¬C∧rT s i =
  .ok ⟨3,cut s i (if kh (cX s (eW dE s i))=1 then eW dE s i else eW dE s i+1),kh (cX s (eW dE s i)),iq s i 0,i⟩):=by
 exact Hm rfl
theorem Bf(s:ByteArray)(i:Int):(∃t,rT s i=.ok t∧t.pos=i)∨rT s i=.bad 113 i:=by
 obtain⟨C,⟨_,h⟩ | ⟨_,h⟩⟩:=Cp s i
 ·exact .inr h
 ·exact .inl ⟨_,h,rfl⟩
def wR(s:ByteArray)(i:Int)(t:Tok):Prop :=
 t.pos=i∧t.pos+t.text.size≤s.size∧t.text=cut s t.pos (t.pos+t.text.size)∧((t.kind=0∧i=s.size∧t=yW s.size)∨(0<t.kind∧t.kind≤4∧0<t.text.size))
theorem wR.mk'{s:ByteArray}{i e k y n:Int}(h0:0≤i)(h:i<e)(h1:e≤s.size)(hk:0<k∧k≤4):wR s i ⟨k,cut s i e,y,n,i⟩:=by
 have hc:=qT h0 (by omega:i≤e) h1
 refine⟨rfl, ?_, ?_,.inr ⟨hk.1,hk.2, ?_⟩⟩
 ·show i+((cut s i e).size:Int)≤_;omega
 ·show cut s i e=cut s i (i+(cut s i e).size);rw[hc];congr 1;omega
 ·show 0<(cut s i e).size;omega
theorem Ex(s:ByteArray)(i:Int):cut s i i=⟨#[]⟩:=by
 unfold cut
 have:(s.extract i.toNat i.toNat).size=0:=by rw[ByteArray.size_extract];omega
 exact ByteArray.size_eq_zero_iff.1 this
theorem uQ{s:ByteArray}{f:Int}(h0:0≤f)(h1:f≤s.size) :
  (∃t,te s f=.ok t∧wR s (jA s f) t)∨(∃e,te s f=.bad e (jA s f)∧(e=111∨e=112∨e=113)):=by
 have ho:=rS (s:=s) h1
 unfold te
 simp only
 generalize jA s f=i at ho ⊢
 by_cases hi:i=s.size
 ·rw[if_pos hi]
  refine .inl ⟨_,rfl,rfl, ?_, ?_,.inl ⟨rfl,hi,by rw[hi]⟩⟩
  ·show i+((0:Nat):Int)≤_;omega
  ·show (⟨#[]⟩:ByteArray)=cut s i (i+((0:Nat):Int))
   rw[show i+((0:Nat):Int)=i by omega,Ex]
 ·have hlt:i<s.size:=by omega
  rw[if_neg hi]
  by_cases hd:dE (bt s i)=true
  ·rw[if_pos hd]
   obtain⟨C,⟨_,h⟩ | ⟨_,h⟩⟩:=Cp s i
   ·exact .inr ⟨_,h,by simp⟩
   ·refine .inl ⟨_,h, ?_⟩
    have hr:=eO (p:=dE) hlt
    rw[if_pos hd] at hr
    have:=nP (p:=dE) (s:=s) (i:=i+1) (by omega)
    refine wR.mk' (by omega) ?_ ?_ (by decide)
    ·split<;>omega
    ·split
     ·omega
     ·rename_i hne
      have:eW dE s i<s.size:=by
       rcases Int.lt_or_le (eW dE s i) s.size with h | h
       ·exact h
       ·rw[show cX s (eW dE s i)=0 by unfold cX;rw[if_neg (by omega)]] at hne
        exact absurd rfl hne
      omega
  ·rw[if_neg hd]
   by_cases hm:gB (bt s i)=true
   ·rw[if_pos hm]
    have hr:=eO (p:=dA) hlt
    rw[if_pos (by simp[dA,hm])] at hr
    have:=nP (p:=dA) (s:=s) (i:=i+1) (by omega)
    unfold sF
    simp only
    split
    ·exact .inr ⟨_,rfl,by simp⟩
    ·exact .inl ⟨_,rfl,wR.mk' (by omega) (by omega) (by omega) (by split<;>decide)⟩
   ·rw[if_neg hm]
    have hr:=zo s i
    have hl:=Ew hlt
    unfold sG
    split
    ·exact .inr ⟨_,rfl,by simp⟩
    ·exact .inl ⟨_,rfl,wR.mk' (by omega) (by omega) (by omega) (by decide)⟩
end Go.Lx
namespace Go.Lx
open Go.Vc Go.Proofs.Tryz
def sd:List (Nat×List Sh):=[(3,[.one (.int .i64)]),(4,[.one .bool]),(9,[.one .str]),(105,[.one .slc]),(190,[.agg [(.int .u8),.str,(.int .u8),(.int .i64),(.int .i64)],.one (.int .i64),.one (.int .i64)]),(214,[.agg [(.int .u8),.str,(.int .u8),(.int .i64),(.int .i64)],.one (.int .i64)])]
def mR.V(vi:Int→Value)(wr:Int→Int)(s:Bs)(p:Int)(I:cc)(F:b8)(Q:cf)(Inv8:Int→Bool→Int→Nat→cc→b8→Prop):Prop:=(∃m:Nat,Inv8 0 false p m I F)∧∀(x:Int) (a:Bool) (i:Int) (m1:Nat) (I1:cc) (F1:b8),cc.le I I1→Inv8 x a i m1 I1 F1→(Dt (i<(s.size:Int)) ((0≤i∧i<(s.size:Int))∧(It ((bt s i)==10) (It ((bt s i)==35) (It false (It ((bt s i)!=32) (It ((bt s i)!=9) (It ((bt s i)!=10) (It ((bt s i)!=13) (Q (.returned (vi i)) I1 F1) (∃m2:Nat,m2<m1∧Inv8 x true (wr (i+1)) m2 I1 F1)) (∃m3:Nat,m3<m1∧Inv8 x true (wr (i+1)) m3 I1 F1)) (∃m4:Nat,m4<m1∧Inv8 x true (wr (i+1)) m4 I1 F1)) (∃m5:Nat,m5<m1∧Inv8 x true (wr (i+1)) m5 I1 F1)) (∃m6:Nat,m6<m1∧Inv8 x true (wr (i+1)) m6 I1 F1)) (It true (It ((bt s i)!=32) (It ((bt s i)!=9) (It ((bt s i)!=10) (It ((bt s i)!=13) (Q (.returned (vi i)) I1 F1) (∃m7:Nat,m7<m1∧Inv8 x false (wr (i+1)) m7 I1 F1)) (∃m8:Nat,m8<m1∧Inv8 x false (wr (i+1)) m8 I1 F1)) (∃m9:Nat,m9<m1∧Inv8 x false (wr (i+1)) m9 I1 F1)) (∃b:Nat,b<m1∧Inv8 x false (wr (i+1)) b I1 F1)) (∃c:Nat,c<m1∧Inv8 x false (wr (i+1)) c I1 F1))) (It ((bt s i)==35) (It false (It ((bt s i)!=32) (It ((bt s i)!=9) (It ((bt s i)!=10) (It ((bt s i)!=13) (Q (.returned (vi i)) I1 F1) (∃d:Nat,d<m1∧Inv8 x true (wr (i+1)) d I1 F1)) (∃e:Nat,e<m1∧Inv8 x true (wr (i+1)) e I1 F1)) (∃f:Nat,f<m1∧Inv8 x true (wr (i+1)) f I1 F1)) (∃g:Nat,g<m1∧Inv8 x true (wr (i+1)) g I1 F1)) (∃h:Nat,h<m1∧Inv8 x true (wr (i+1)) h I1 F1)) (It (!a) (It ((bt s i)!=32) (It ((bt s i)!=9) (It ((bt s i)!=10) (It ((bt s i)!=13) (Q (.returned (vi i)) I1 F1) (∃j:Nat,j<m1∧Inv8 x a (wr (i+1)) j I1 F1)) (∃k:Nat,k<m1∧Inv8 x a (wr (i+1)) k I1 F1)) (∃l:Nat,l<m1∧Inv8 x a (wr (i+1)) l I1 F1)) (∃n:Nat,n<m1∧Inv8 x a (wr (i+1)) n I1 F1)) (∃o:Nat,o<m1∧Inv8 x a (wr (i+1)) o I1 F1))))) (Q (.returned (vi (s.size:Int))) I1 F1))
theorem mR.vc{s:Bs}{a:Int}{I:cc}{F:b8}{Q:cf}(Inv8:Int→Bool→Int→Nat→cc→b8→Prop)(h:mR.V (.int .i64) (IntKind.wrap .i64) s a I F Q Inv8):cg P 141 #[.string s,.int .i64 a] I F Q :=
 tw (A:=(cQ [3003,6001,8001,10001,10004,10008,10012,10016] [] [] sd [(8,⟨[(4,(.int .i64)),(5,.bool),(6,(.int .i64))],[],fun _ _ _ vs m I F=>match vs with | [.int _ y0,.bool y1,.int _ y2]=>Inv8 y0 y1 y2 m I F | _=>False,[],[]⟩)] [] [] [] [] [] [])) [] func141 h
def kO.V(ka:Nat→Int→Bs→Int→Int→Int→Nat×Obj)(vb vi:Int→Value)(vs:Bs→Value)(wr:Int→Int)(s:Bs)(c:Int)(I:cc)(F:b8)(Q:cf)(Inv6:Int→Nat→cc→b8→Prop):Prop:=∀b:Nat,(∃m:Nat,Inv6 c m I F)∧∀(a:Int) (m1:Nat) (I1:cc) (F1:b8),cc.le I I1→Inv6 a m1 I1 F1→(Dt (a<(s.size:Int)) ((0≤a∧a<(s.size:Int))∧cF P 102 (#[vb (bt s a)]) I1 ((ka b 0 (⟨#[]⟩:Bs) 0 0 0)::·) F1 .bool fun r I2 F2=>(It r (∃m2:Nat,m2<m1∧Inv6 (wr (a+1)) m2 I2 F2) ((0≤c∧c≤a∧a≤(s.size:Int))∧∀e:Nat,(Dt ((wr (a-c))>16) (Q (.returned (.tuple #[.agg #[vb 0,vs (⟨#[]⟩:Bs),vb 0,vi 0,vi 0],vi 112])) I2 F2) (cF P 100 (#[vs (s.extract (Int.toNat c) (Int.toNat a))]) I2 ((ka b 0 (⟨#[]⟩:Bs) 0 0 0)::(ka e 2 (s.extract (Int.toNat c) (Int.toNat a)) 0 0 c)::·) F2 .bool fun r1 I3 F3=>(It r1 (Q (.returned (.tuple #[.agg #[vb 1,vs (s.extract (Int.toNat c) (Int.toNat a)),vb 0,vi 0,vi c],vi 0])) I3 F3) (Q (.returned (.tuple #[.agg #[vb 2,vs (s.extract (Int.toNat c) (Int.toNat a)),vb 0,vi 0,vi c],vi 0])) I3 F3))))))) ((0≤c∧c≤a∧a≤(s.size:Int))∧∀d:Nat,(Dt ((wr (a-c))>16) (Q (.returned (.tuple #[.agg #[vb 0,vs (⟨#[]⟩:Bs),vb 0,vi 0,vi 0],vi 112])) I1 F1) (cF P 100 (#[vs (s.extract (Int.toNat c) (Int.toNat a))]) I1 ((ka b 0 (⟨#[]⟩:Bs) 0 0 0)::(ka d 2 (s.extract (Int.toNat c) (Int.toNat a)) 0 0 c)::·) F1 .bool fun r2 I4 F4=>(It r2 (Q (.returned (.tuple #[.agg #[vb 1,vs (s.extract (Int.toNat c) (Int.toNat a)),vb 0,vi 0,vi c],vi 0])) I4 F4) (Q (.returned (.tuple #[.agg #[vb 2,vs (s.extract (Int.toNat c) (Int.toNat a)),vb 0,vi 0,vi c],vi 0])) I4 F4))))))
theorem kO.vc{s:Bs}{f:Int}{I:cc}{F:b8}{Q:cf}(Inv6:Int→Nat→cc→b8→Prop)(h:kO.V (fun W a b c d e=>(W,Obj.cells #[.int .u8 a,.string b,.int .u8 c,.int .i64 d,.int .i64 e] 145 (0,0))) (.int .u8) (.int .i64) .string (IntKind.wrap .i64) s f I F Q Inv6):cg P 142 #[.string s,.int .i64 f] I F Q :=
 tw (A:=(cQ [2003,2008,5003,8000] [] [100,102] sd [(6,⟨[(6,(.int .i64))],[],fun _ _ _ vs m I F=>match vs with | [.int _ y0]=>Inv6 y0 m I F | _=>False,[],[]⟩)] [] [] [] [] [] [])) [100,102] func142 h
def jS.V(ka:Nat→Int→Bs→Int→Int→Int→Nat×Obj)(kb:Int→Bs→Int→Int→Int→Value)(vb vi:Int→Value)(vs:Bs→Value)(wr:Int→Int)(s:Bs)(d:Int)(I:cc)(F:b8)(Q:cf)(Inv8:Int→Int→Int→Int→Bs→Int→Int→Int→cc→b8→Prop)(Inv10:Int→Int→Int→Int→Bs→Int→Int→Int→Nat→cc→b8→Prop)(Inv29:Int→Int→Bs→Int→Int→Int→cc→b8→Prop)(Inv39:Int→Bs→Int→Int→Int→cc→b8→Prop)(Inv45:Int→Bs→Int→Int→Int→cc→b8→Prop)(Inv51:Int→Bs→Int→Int→Int→cc→b8→Prop)(Inv57:Int→cc→b8→Prop):Prop:=∀b:Nat,∀ao:Nat,((∃m:Nat,Inv10 0 d 0 0 (⟨#[]⟩:Bs) 0 0 0 m I F)∧∀(x f n y:Int) (z:Bs) (aa ab ac:Int) (m1:Nat) (I1:cc) (F1:b8),cc.le I I1→Inv10 x f n y z aa ab ac m1 I1 F1→(Dt (f<(s.size:Int)) ((0≤f∧f<(s.size:Int))∧cF P 131 (#[vb (bt s f)]) I1 ((ka b y z aa ab ac)::(ka ao 3 (⟨#[]⟩:Bs) 1 0 d)::·) F1 .bool fun r I2 F2=>(It r (Dt (n>922337203685477580) (Q (.returned (.tuple #[(kb 0 (⟨#[]⟩:Bs) 0 0 0),vi 113])) I2 F2) ((0≤f∧f<(s.size:Int))∧(∃m2:Nat,m2<m1∧Inv10 x (wr (f+1)) (IntKind.wrap .u64 ((IntKind.wrap .u64 (10*n))+(IntKind.wrap .u64 (IntKind.wrap .u8 ((bt s f)-48))))) y z aa ab ac m2 I2 F2))) (Inv8 x f n y z aa ab ac I2 F2))) (Inv8 x f n y z aa ab ac I1 F1)))∧∀(x1 a n1 ae:Int) (af:Bs) (ag ah ai:Int) (I3:cc) (F3:b8),cc.le I I3→Inv8 x1 a n1 ae af ag ah ai I3 F3→((Dt (n1>9223372036854775807) (Q (.returned (.tuple #[(kb 0 (⟨#[]⟩:Bs) 0 0 0),vi 113])) I3 F3) (Dt ((wr (a-d))>1) ((0≤d∧d<(s.size:Int))∧(It ((bt s d)==48) (Q (.returned (.tuple #[(kb 0 (⟨#[]⟩:Bs) 0 0 0),vi 113])) I3 F3) (Inv29 x1 ae af ag ah ai I3 F3))) (Inv29 x1 ae af ag ah ai I3 F3))))∧∀(x2 aj:Int) (ak:Bs) (al am an:Int) (I4:cc) (F4:b8),cc.le I3 I4→Inv29 x2 aj ak al am an I4 F4→((Dt (a<(s.size:Int)) ((0≤a∧a<(s.size:Int))∧(It ((bt s a)==113) (Inv39 3 (⟨#[]⟩:Bs) 2 (wr n1) d I4 F4) (Inv39 3 (⟨#[]⟩:Bs) 1 (wr n1) d I4 F4))) (Inv39 3 (⟨#[]⟩:Bs) 1 (wr n1) d I4 F4)))∧∀(p:Int) (q:Bs) (ad t u:Int) (I5:cc) (F5:b8),cc.le I4 I5→Inv39 p q ad t u I5 F5→((Dt (a<(s.size:Int)) ((0≤a∧a<(s.size:Int))∧(It ((bt s a)==112) (Inv45 p q 3 t u I5 F5) (Inv45 p q ad t u I5 F5))) (Inv45 p q ad t u I5 F5)))∧∀(j:Int) (k:Bs) (v l o:Int) (I6:cc) (F6:b8),cc.le I5 I6→Inv45 j k v l o I6 F6→((Dt (a<(s.size:Int)) ((0≤a∧a<(s.size:Int))∧(It ((bt s a)==116) (Inv51 j k 4 l o I6 F6) (Inv51 j k v l o I6 F6))) (Inv51 j k v l o I6 F6)))∧∀(g:Int) (w:Bs) (e h i:Int) (I7:cc) (F7:b8),cc.le I6 I7→Inv51 g w e h i I7 F7→((It (e != 1) (Inv57 (wr (a+1)) I7 F7) (Inv57 a I7 F7)))∧∀(c:Int) (I8:cc) (F8:b8),cc.le I7 I8→Inv57 c I8 F8→(Dt (c<(s.size:Int)) ((0≤c∧c<(s.size:Int))∧cF P 102 (#[vb (bt s c)]) I8 ((ka b aj ak al am an)::(ka ao g w e h i)::·) F8 .bool fun r1 I9 F9=>(It r1 (Q (.returned (.tuple #[(kb 0 (⟨#[]⟩:Bs) 0 0 0),vi 113])) I9 F9) ((0≤c∧c<(s.size:Int))∧(Dt ((bt s c)≥65) ((0≤c∧c<(s.size:Int))∧(Dt ((bt s c)≤90) (Q (.returned (.tuple #[(kb 0 (⟨#[]⟩:Bs) 0 0 0),vi 113])) I9 F9) ((0≤d∧d≤c∧c≤(s.size:Int))∧Q (.returned (.tuple #[(kb g (s.extract (Int.toNat d) (Int.toNat c)) e h i),vi 0])) I9 F9))) ((0≤d∧d≤c∧c≤(s.size:Int))∧Q (.returned (.tuple #[(kb g (s.extract (Int.toNat d) (Int.toNat c)) e h i),vi 0])) I9 F9))))) ((0≤d∧d≤c∧c≤(s.size:Int))∧Q (.returned (.tuple #[(kb g (s.extract (Int.toNat d) (Int.toNat c)) e h i),vi 0])) I8 F8))
theorem jS.vc{s:Bs}{f:Int}{I:cc}{F:b8}{Q:cf}(Inv8:Int→Int→Int→Int→Bs→Int→Int→Int→cc→b8→Prop)(Inv10:Int→Int→Int→Int→Bs→Int→Int→Int→Nat→cc→b8→Prop)(Inv29:Int→Int→Bs→Int→Int→Int→cc→b8→Prop)(Inv39:Int→Bs→Int→Int→Int→cc→b8→Prop)(Inv45:Int→Bs→Int→Int→Int→cc→b8→Prop)(Inv51:Int→Bs→Int→Int→Int→cc→b8→Prop)(Inv57:Int→cc→b8→Prop)(h:jS.V (fun W a b c d e=>(W,Obj.cells #[.int .u8 a,.string b,.int .u8 c,.int .i64 d,.int .i64 e] 145 (0,0))) (fun a b c d e=>.agg #[.int .u8 a,.string b,.int .u8 c,.int .i64 d,.int .i64 e]) (.int .u8) (.int .i64) .string (IntKind.wrap .i64) s f I F Q Inv8 Inv10 Inv29 Inv39 Inv45 Inv51 Inv57):cg P 143 #[.string s,.int .i64 f] I F Q :=
 tw (A:=(cQ [4003,4008,5001,9001,9006,9011,12003,12008,14003,14008,16003,16008,18002,20003,20008,20013,20018] [] [102,131] sd [(8,⟨[(5,(.int .i64)),(7,(.int .i64)),(8,(.int .u64))],[(0,[(.int .u8),.str,(.int .u8),(.int .i64),(.int .i64)])],fun _ _ _ vs m I F=>match vs with | [.int _ y0,.int _ y1,.int _ y2,.int _ y3,.string y4,.int _ y5,.int _ y6,.int _ y7]=>Inv8 y0 y1 y2 y3 y4 y5 y6 y7 I F | _=>False,[],[]⟩),(10,⟨[(5,(.int .i64)),(7,(.int .i64)),(8,(.int .u64))],[(0,[(.int .u8),.str,(.int .u8),(.int .i64),(.int .i64)])],fun _ _ _ vs m I F=>match vs with | [.int _ y0,.int _ y1,.int _ y2,.int _ y3,.string y4,.int _ y5,.int _ y6,.int _ y7]=>Inv10 y0 y1 y2 y3 y4 y5 y6 y7 m I F | _=>False,[],[]⟩),(29,⟨[(5,(.int .i64))],[(0,[(.int .u8),.str,(.int .u8),(.int .i64),(.int .i64)])],fun _ _ _ vs m I F=>match vs with | [.int _ y0,.int _ y1,.string y2,.int _ y3,.int _ y4,.int _ y5]=>Inv29 y0 y1 y2 y3 y4 y5 I F | _=>False,[],[]⟩),(39,⟨[],[(1,[(.int .u8),.str,(.int .u8),(.int .i64),(.int .i64)])],fun _ _ _ vs m I F=>match vs with | [.int _ y0,.string y1,.int _ y2,.int _ y3,.int _ y4]=>Inv39 y0 y1 y2 y3 y4 I F | _=>False,[],[]⟩),(45,⟨[],[(1,[(.int .u8),.str,(.int .u8),(.int .i64),(.int .i64)])],fun _ _ _ vs m I F=>match vs with | [.int _ y0,.string y1,.int _ y2,.int _ y3,.int _ y4]=>Inv45 y0 y1 y2 y3 y4 I F | _=>False,[],[]⟩),(51,⟨[],[(1,[(.int .u8),.str,(.int .u8),(.int .i64),(.int .i64)])],fun _ _ _ vs m I F=>match vs with | [.int _ y0,.string y1,.int _ y2,.int _ y3,.int _ y4]=>Inv51 y0 y1 y2 y3 y4 I F | _=>False,[],[]⟩),(57,⟨[(7,(.int .i64))],[],fun _ _ _ vs m I F=>match vs with | [.int _ y0]=>Inv57 y0 I F | _=>False,[],[]⟩)] [] [] [] [] [] [])) [102,131] func143 h
def mS.V(vb vi:Int→Value)(vs:Bs→Value)(wr:Int→Int)(s:Bs)(a:Int)(I:cc)(F:b8)(Q:cf)(Inv8:Int→Int→Int→Bs→Int→Int→Int→Nat→cc→b8→Prop):Prop:=∀b:Nat,∀(b1:Nat) (I1:cc),cc.le I I1→I1 b1=some (Obj.cells #[vs (⟨#[61,61]⟩:Bs),vs (⟨#[33,61]⟩:Bs),vs (⟨#[60,61]⟩:Bs),vs (⟨#[62,61]⟩:Bs),vs (⟨#[38,38]⟩:Bs),vs (⟨#[124,124]⟩:Bs),vs (⟨#[123]⟩:Bs),vs (⟨#[125]⟩:Bs),vs (⟨#[40]⟩:Bs),vs (⟨#[41]⟩:Bs),vs (⟨#[44]⟩:Bs),vs (⟨#[59]⟩:Bs),vs (⟨#[63]⟩:Bs),vs (⟨#[58]⟩:Bs),vs (⟨#[61]⟩:Bs),vs (⟨#[33]⟩:Bs),vs (⟨#[60]⟩:Bs),vs (⟨#[62]⟩:Bs),vs (⟨#[43]⟩:Bs),vs (⟨#[45]⟩:Bs),vs (⟨#[42]⟩:Bs),vs (⟨#[47]⟩:Bs),vs (⟨#[37]⟩:Bs)] 9 (0,0))→(∃m:Nat,Inv8 0 0 0 (⟨#[]⟩:Bs) 0 0 0 m I1 F)∧∀(x i c:Int) (d:Bs) (e f g:Int) (m1:Nat) (I2:cc) (F1:b8),cc.le I1 I2→Inv8 x i c d e f g m1 I2 F1→(Dt (i<(23:Int)) ((0≤i∧i<(23:Int))∧∃ad:Addr,some ⟨b1,0,none⟩=some ad∧∃(m2:Bs),Rd I2 ((b,Obj.cells #[vb c,vs d,vb e,vi f,vi g] 145 (0,0))::F1) (ad.add (Int.toNat i*1)) [vs m2]∧(Dt ((wr (a+(m2.size:Int)))≤(s.size:Int)) ((0≤a∧a≤(wr (a+(m2.size:Int)))∧(wr (a+(m2.size:Int)))≤(s.size:Int))∧((0≤i∧i<(23:Int))∧∃h:Addr,some ⟨b1,0,none⟩=some h∧∃(m3:Bs),Rd I2 ((b,Obj.cells #[vb c,vs d,vb e,vi f,vi g] 145 (0,0))::F1) (h.add (Int.toNat i*1)) [vs m3]∧(It ((s.extract (Int.toNat a) (Int.toNat ((wr (a+(m2.size:Int)))))).toList==m3.toList) ((0≤i∧i<(23:Int))∧∃j:Addr,some ⟨b1,0,none⟩=some j∧∃(m4:Bs),Rd I2 ((b,Obj.cells #[vb c,vs d,vb e,vi f,vi g] 145 (0,0))::F1) (j.add (Int.toNat i*1)) [vs m4]∧Q (.returned (.tuple #[.agg #[vb 4,vs m4,vb 0,vi 0,vi a],vi 0])) I2 F1) (∃m5:Nat,m5<m1∧Inv8 x (wr (i+1)) c d e f g m5 I2 F1)))) (∃m6:Nat,m6<m1∧Inv8 x (wr (i+1)) c d e f g m6 I2 F1))) (Q (.returned (.tuple #[.agg #[vb 0,vs (⟨#[]⟩:Bs),vb 0,vi 0,vi 0],vi 111])) I2 F1))
theorem mS.vc{s:Bs}{a:Int}{I:cc}{F:b8}{Q:cf}(Inv8:Int→Int→Int→Bs→Int→Int→Int→Nat→cc→b8→Prop)(h:mS.V (.int .u8) (.int .i64) .string (IntKind.wrap .i64) s a I F Q Inv8):cg P 144 #[.string s,.int .i64 a] I F Q :=
 tw (A:=(cQ [3003,6005,6017] [] [] sd [(8,⟨[(5,(.int .i64)),(7,(.int .i64))],[(0,[(.int .u8),.str,(.int .u8),(.int .i64),(.int .i64)])],fun _ _ _ vs m I F=>match vs with | [.int _ y0,.int _ y1,.int _ y2,.string y3,.int _ y4,.int _ y5,.int _ y6]=>Inv8 y0 y1 y2 y3 y4 y5 y6 m I F | _=>False,[],[]⟩)] [1000] [] [] [] [] [])) [] func144 h
def oT.V(ka:Nat→Int→Bs→Int→Int→Int→Nat×Obj)(kb:Int→Bs→Int→Int→Int→Value)(vb vi:Int→Value)(vs:Bs→Value)(s:Bs)(w:Int)(I:cc)(F:b8)(Q:cf)  : Prop:=∀b:Nat,cF P 141 #[vs s,vi w] I ((ka b 0 (⟨#[]⟩:Bs) 0 0 0)::·) F vi fun r I1 F1=>(It (r==(s.size:Int)) (Q (.returned (.tuple #[(kb 0 (⟨#[]⟩:Bs) 0 0 r),vi 0,vi 0])) I1 F1) (∀a:Nat,((0≤r∧r<(s.size:Int))∧cF P 101 (#[vb (bt s r)]) I1 ((ka b 0 (⟨#[]⟩:Bs) 0 0 0)::(ka a 0 (⟨#[]⟩:Bs) 0 0 0)::·) F1 .bool fun r1 I2 F2=>(It r1 (de P 142 #[vs s,vi r] I2 ((ka b 0 (⟨#[]⟩:Bs) 0 0 0)::(ka a 0 (⟨#[]⟩:Bs) 0 0 0)::·) F2 fun e3 I3 G3=>∃(p:Int) (q:Bs) (t u v m:Int),e3=.returned (.tuple #[(kb p q t u v),vi m])∧G3 fun F3=>(It (m != 0) (Q (.returned (.tuple #[(kb p q t u v),vi m,vi r])) I3 F3) (Q (.returned (.tuple #[(kb p q t u v),vi m,vi 0])) I3 F3))) ((0≤r∧r<(s.size:Int))∧cF P 131 (#[vb (bt s r)]) I2 ((ka b 0 (⟨#[]⟩:Bs) 0 0 0)::(ka a 0 (⟨#[]⟩:Bs) 0 0 0)::·) F2 .bool fun r2 I4 F4=>(It r2 (de P 143 #[vs s,vi r] I4 ((ka b 0 (⟨#[]⟩:Bs) 0 0 0)::(ka a 0 (⟨#[]⟩:Bs) 0 0 0)::·) F4 fun e5 I5 G5=>∃(c:Int) (d:Bs) (e f g n:Int),e5=.returned (.tuple #[(kb c d e f g),vi n])∧G5 fun F5=>(It (n != 0) (Q (.returned (.tuple #[(kb c d e f g),vi n,vi r])) I5 F5) (Q (.returned (.tuple #[(kb c d e f g),vi n,vi 0])) I5 F5))) (de P 144 #[vs s,vi r] I4 ((ka b 0 (⟨#[]⟩:Bs) 0 0 0)::(ka a 0 (⟨#[]⟩:Bs) 0 0 0)::·) F4 fun e6 I6 G6=>∃(h:Int) (i:Bs) (j k l o:Int),e6=.returned (.tuple #[(kb h i j k l),vi o])∧G6 fun F6=>(It (o != 0) (Q (.returned (.tuple #[(kb h i j k l),vi o,vi r])) I6 F6) (Q (.returned (.tuple #[(kb h i j k l),vi o,vi 0])) I6 F6)))))))))
theorem oT.vc{s:Bs}{f:Int}{I:cc}{F:b8}{Q:cf}  (h:oT.V (fun W a b c d e=>(W,Obj.cells #[.int .u8 a,.string b,.int .u8 c,.int .i64 d,.int .i64 e] 145 (0,0))) (fun a b c d e=>.agg #[.int .u8 a,.string b,.int .u8 c,.int .i64 d,.int .i64 e]) (.int .u8) (.int .i64) .string s f I F Q):cg P 119 #[.string s,.int .i64 f] I F Q :=
 tw (A:=(an [2003,7003,9003,11001] [101,131,141,142,143,144] sd)) [101,131,141,142,143,144] func119 h
def kQ.V(vb vi:Int→Value)(vs:Bs→Value)(vl:OA→Nat→Nat→Value)(s:Bs)(I:cc)(F:b8)(Q:cf)(Inv7:OA→Nat→Nat→Int→Int→OA→Nat→Nat→Int→Nat→cc→b8→Prop):Prop:=(∃m:Nat,Inv7 none 0 0 0 0 none 0 0 0 m I F)∧∀(n:OA) (o p:Nat) (x x1:Int) (g:OA) (h i:Nat) (q:Int) (m1:Nat) (I1:cc) (F1:b8),cc.le I I1→Inv7 n o p x x1 g h i q m1 I1 F1→de P 119 #[vs s,vi q] I1 (·) F1 fun e1 I2 G1=>∃(a:Int) (c:Bs) (e f d r1 r2:Int),e1=.returned (.tuple #[.agg #[vb a,vs c,vb e,vi f,vi d],vi r1,vi r2])∧G1 fun F2=>∀r:Nat,(It (r1 != 0) (Q (.returned (.tuple #[vl g h i,vi r1,vi r2])) I2 F2) (∀(b:Nat) (I3:cc),cc.le I2 I3→I3 b=some (Obj.cells #[vb a,vs c,vb e,vi f,vi d] 145 (0,0))→cE P (Builtin.append_ #[105,105] 105 #[vl g h i,vl (some ⟨b,0,none⟩) 1 1]) I3 ((r,Obj.cells #[vb a,vs c,vb e,vi f,vi d] 145 (0,0))::F2) fun v I4 G2=>∃(j:OA) (k l:Nat),v=vl j k l∧∃F3:b8,List.Perm G2 ((r,Obj.cells #[vb a,vs c,vb e,vi f,vi d] 145 (0,0))::F3)∧(It (a==0) (Q (.returned (.tuple #[vl j k l,vi 0,vi 0])) I4 F3) (∃m2:Nat,m2<m1∧Inv7 n o p x x1 j k l (IntKind.wrap .i64 (d+(c.size:Int))) m2 I4 F3))))
theorem kQ.vc{s:Bs}{I:cc}{F:b8}{Q:cf}(Inv7:OA→Nat→Nat→Int→Int→OA→Nat→Nat→Int→Nat→cc→b8→Prop)(h:kQ.V (.int .u8) (.int .i64) .string .slice s I F Q Inv7):cg P 84 #[.string s] I F Q :=
 tw (A:=(cQ [4001,7002] [] [119] sd [(7,⟨[(2,.slc),(3,(.int .i64)),(4,(.int .i64)),(5,.slc),(6,(.int .i64))],[],fun _ _ _ vs m I F=>match vs with | [.slice y0 y1 y2,.int _ y3,.int _ y4,.slice y5 y6 y7,.int _ y8]=>Inv7 y0 y1 y2 y3 y4 y5 y6 y7 y8 m I F | _=>False,[],[]⟩)] [6002] [] [] [] [] [])) [119] func84 h
end Go.Lx
namespace Go.Lx
open Go.Vc
theorem Bg{s:ByteArray}(hs:c9 s){i:Int}(h0:0≤i)(h1:i≤s.size)(I:cc)(F:b8) :
  cg P 141 #[.string s,.int .i64 i] I F (eg (.int .i64 (jA s i)) F):=by
 have hs':=hs
 unfold c9 at hs'
 refine mR.vc (fun x r j m I' F'=>0≤j∧j≤s.size∧m=(s.size-j).toNat∧qK s r j=jA s i∧F'=F) ?_
 unfold mR.V
 refine⟨⟨_,h0,h1,rfl,rfl,rfl⟩,fun x r j m I1 F1 hI ⟨g0,g1,gm,gr,gF⟩=>⟨fun hlt=>?_,fun hlt=>?_⟩⟩
 ·have hlt:j<(s.size:Int):=by simpa using hlt
  subst gF
  have step:=AU (r:=r) hlt
  have stop:∀J:cc,xD (bt s j) r=false→blank (bt s j)=false→eg (.int .i64 (jA s i)) F1 (.returned (.int .i64 j)) J F1:=fun J a b=>by
   rw[a,b,gr] at step
   exact⟨by rw[step];rfl,rfl⟩
  have cont:∀r',xD (bt s j) r=r'→(r'=true∨blank (bt s j)=true)→∃m2:Nat,m2<m∧(0≤IntKind.wrap .i64 (j+1)∧IntKind.wrap .i64 (j+1)≤s.size∧m2=(s.size-IntKind.wrap .i64 (j+1)).toNat ∧
    qK s r' (IntKind.wrap .i64 (j+1))=jA s i∧F1=F1):=fun r' a b=>by
   rw[du (by omega)]
   refine⟨_,by omega,by omega,by omega,rfl, ?_,rfl⟩
   rw[a,gr] at step
   rw[step,if_neg]
   rcases b with b | b<;>simp[b]
  refine⟨⟨g0,hlt⟩, ?_⟩
  clear step gr
  repeat' (first | (with_reducible apply And.intro) | (with_reducible intro h))
  all_goals first
   | (refine stop I1 ?_ ?_<;>simp_all [xD,blank];done)
   | (refine cont _ ?_ ?_<;>simp_all [xD,blank];done)
   | (exfalso;simp_all;done)
 ·have hlt:¬j<(s.size:Int):=by simpa using hlt
  refine⟨?_,gF⟩
  rw[CY (by omega)] at gr
  rw[←gr]
  have:j=s.size:=by omega
  rw[this]
theorem zp{s:ByteArray}(hs:c9 s){i:Int}(h0:0≤i)(h1:i<s.size)(I:cc)(F:b8):cg P 142 #[.string s,.int .i64 i] I F (eg (sF s i).v2 F):=by
 have hs':=hs
 unfold c9 at hs'
 have hE:=nP (p:=dA) (s:=s) (i:=i) (by omega)
 refine kO.vc (fun j m I' F'=>i≤j∧j≤s.size∧m=(s.size-j).toNat∧eW dA s j=eW dA s i∧F'=F) ?_
 unfold kO.V
 intro b
 refine⟨⟨_,by omega,by omega,rfl,rfl,rfl⟩,fun j m I1 F1 hI ⟨g0,g1,gm,gr,gF⟩=>⟨fun hlt=>?_,fun hlt=>?_⟩⟩
 ·have hlt:j<(s.size:Int):=of_decide_eq_true hlt
  subst gF
  refine⟨⟨by omega,hlt⟩, ?_⟩
  refine cg.ret (qb (bt s j) I1 _) fun I2 hI2=>⟨_,rfl,F1,.refl _,fun hc=>?_,fun hc=>⟨⟨h0,g0,g1⟩,fun b_t=>?_⟩⟩
  ·refine⟨m-1,by omega, ?_⟩
   rw[du (by omega)]
   rw[eO hlt,if_pos hc] at gr
   exact⟨by omega,by omega,by omega,gr,rfl⟩
  ·rw[eO hlt,if_neg (by rw[hc];exact Bool.false_ne_true)] at gr
   unfold sF
   simp only[←gr]
   rw[du (by omega)]
   refine⟨fun h=>⟨?_,rfl⟩,fun h=>?_⟩
   ·rw[if_pos (of_decide_eq_true h)];rfl
   ·rw[if_neg (of_decide_eq_false h)]
    refine cg.ret (qc (cut s i j) I2 _) fun I3 hI3=>⟨_,rfl,F1,.refl _,fun hw=>⟨?_,rfl⟩,fun hw=>⟨?_,rfl⟩⟩
    ·rw[if_pos hw];rfl
    ·rw[if_neg (by rw[hw];exact Bool.false_ne_true)];rfl
 ·have hlt:¬j<(s.size:Int):=of_decide_eq_false hlt
  subst gF
  refine⟨⟨h0,g0,g1⟩,fun b_t=>?_⟩
  rw[oG (by omega)] at gr
  unfold sF
  simp only[←gr]
  rw[du (by omega)]
  refine⟨fun h=>⟨?_,rfl⟩,fun h=>?_⟩
  ·rw[if_pos (of_decide_eq_true h)];rfl
  ·rw[if_neg (of_decide_eq_false h)]
   refine cg.ret (qc (cut s i j) I1 _) fun I3 hI3=>⟨_,rfl,F1,.refl _,fun hw=>⟨?_,rfl⟩,fun hw=>⟨?_,rfl⟩⟩
   ·rw[if_pos hw];rfl
   ·rw[if_neg (by rw[hw];exact Bool.false_ne_true)];rfl
theorem Dh{c:Int}(h:dE c=true):IntKind.wrap .u64 (IntKind.wrap .u8 (c-48))=c-48∧48≤c∧c≤57:=by
 simp only[dE,Bool.and_eq_true,decide_eq_true_eq] at h
 rw[w8 (by omega),FH (by omega)]
 exact⟨rfl,h⟩
theorem xI{s:ByteArray}(hs:c9 s){i:Int}(h0:0≤i)(h1:i<s.size)(I:cc)(F:b8):cg P 143 #[.string s,.int .i64 i] I F (eg (rT s i).v2 F):=by
 have hs':=hs
 unfold c9 at hs'
 have hE:=nP (p:=dE) (s:=s) (i:=i) (by omega)
 generalize hEd:eW dE s i=E at hE
 let e2:Int:=if kh (cX s E)=1 then E else E+1
 have hbad:(iq s i 0>9223372036854775807∨(E-i>1∧bt s i=48)∨(e2<s.size∧(dA (bt s e2)=true∨(65≤bt s e2∧bt s e2≤90)))) →
   (rT s i).v2=.tuple #[(yW 0).v,.int .i64 113]:=fun h=>by
  unfold rT;simp only[hEd];rw[if_pos h];rfl
 have hok:¬(iq s i 0>9223372036854775807∨(E-i>1∧bt s i=48)∨(e2<s.size∧(dA (bt s e2)=true∨(65≤bt s e2∧bt s e2≤90)))) →
   (rT s i).v2=.tuple #[(⟨3,cut s i e2,kh (cX s E),iq s i 0,i⟩:Tok).v,.int .i64 0]:=fun h=>by
  unfold rT;simp only[hEd];rw[if_neg h];rfl
 have he2r:e2≤s.size∧E≤e2∧e2≤E+1:=by
  show (if kh (cX s E)=1 then E else E+1)≤_∧_≤(if kh (cX s E)=1 then E else E+1)∧(if kh (cX s E)=1 then E else E+1)≤_
  split
  ·omega
  ·rename_i hne
   have:E<s.size:=by
    rcases Int.lt_or_le E s.size with h | h
    ·exact h
    ·rw[show cX s E=0 by unfold cX;rw[if_neg (by omega)]] at hne
     exact absurd rfl hne
   omega
 refine jS.vc (fun x en n b0 b1 b2 b3 b4 I' F'=>en=E∧n=iq s i 0∧F'=F)
  (fun x j n b0 b1 b2 b3 b4 m I' F'=>i≤j∧j≤E∧m=(E-j).toNat∧0≤n∧n≤18446744073709551615∧eW dE s j=E∧iq s j n=iq s i 0∧F'=F)
  (fun x b0 b1 b2 b3 b4 I' F'=>¬(E-i>1∧bt s i=48)∧¬iq s i 0>9223372036854775807∧F'=F)
  (fun t0 t1 t2 t3 t4 I' F'=>t0=3∧t2=(if cX s E=113 then 2 else 1)∧t3=iq s i 0∧t4=i∧F'=F)
  (fun t0 t1 t2 t3 t4 I' F'=>t0=3∧t2=(if cX s E=112 then 3 else if cX s E=113 then 2 else 1)∧t3=iq s i 0∧t4=i∧F'=F)
  (fun t0 t1 t2 t3 t4 I' F'=>t0=3∧t2=kh (cX s E)∧t3=iq s i 0∧t4=i∧F'=F)
  (fun en I' F'=>en=e2∧F'=F) ?_
 unfold jS.V
 intro b b_t
 refine⟨⟨⟨_,by omega,by omega,rfl,by omega,by omega,hEd,rfl,rfl⟩, ?_⟩, ?_⟩
 ·intro x j n b0 b1 b2 b3 b4 m I1 F1 hI1 ⟨g0,g1,gm,gn0,gn1,gr,gv,gF⟩
  subst gF
  refine⟨fun hlt=>?_,fun hlt=>?_⟩
  ·have hlt:j<s.size:=of_decide_eq_true hlt
   refine⟨⟨by omega,hlt⟩, ?_⟩
   refine cg.ret (nT (bt s j) I1 _) fun I2 hI2=>⟨_,rfl,F1,.refl _,fun hd=>?_,fun hd=>?_⟩
   ·obtain⟨hw,hc0,hc1⟩:=Dh hd
    rw[eO hlt,if_pos hd] at gr
    rw[uF hlt,if_pos hd] at gv
    have hr2:=nP (p:=dE) (s:=s) (i:=j+1) (by omega)
    refine⟨fun hgt=>⟨?_,rfl⟩,fun hgt=>⟨⟨by omega,hlt⟩, ?_⟩⟩
    ·refine (congrArg Ending.returned (hbad (.inl ?_)).symm)
     have hgt:=of_decide_eq_true hgt
     have:=yX (s:=s) (i:=j+1) (v:=10*n+(bt s j-48)) (by omega)
     omega
    ·have hgt:=of_decide_eq_false hgt
     rw[hw,FH (n:=10*n) (by omega),FH (n:=10*n+_) (by omega),du (by omega)]
     exact⟨_,by omega,by omega,by omega,rfl,by omega,by omega,gr,gv,rfl⟩
   ·rw[eO hlt,if_neg (by rw[hd];exact Bool.false_ne_true)] at gr
    rw[uF hlt,if_neg (by rw[hd];exact Bool.false_ne_true)] at gv
    exact⟨gr,gv,rfl⟩
  ·have hlt:¬j<s.size:=of_decide_eq_false hlt
   rw[oG (by omega)] at gr
   rw[CZ (by omega)] at gv
   exact⟨gr,gv,rfl⟩
 intro x en n b0 b1 b2 b3 b4 I3 F3 hI3 ⟨hen,hn,hF3⟩
 subst hen hF3
 rw[du (n:=en-i) (by omega)]
 refine⟨⟨fun h=>⟨?_,rfl⟩,fun h=>⟨fun hl=>⟨⟨h0,h1⟩,fun h48=>⟨?_,rfl⟩,fun h48=>⟨?_, ?_,rfl⟩⟩,fun hl=>⟨?_, ?_,rfl⟩⟩⟩, ?_⟩
 ·exact congrArg Ending.returned (hbad (.inl (by have:=of_decide_eq_true h;omega))).symm
 ·exact congrArg Ending.returned (hbad (.inr (.inl ⟨of_decide_eq_true hl,by simpa using h48⟩))).symm
 ·intro hc;rw[hc.2] at h48;simp at h48
 ·have:=of_decide_eq_false h;omega
 ·intro hc;exact absurd hc.1 (of_decide_eq_false hl)
 ·have:=of_decide_eq_false h;omega
 intro x2 c0 c1 c2 c3 c4 I4 F4 hI4 ⟨hz,nov,hF4⟩
 subst hF4
 have hv0:=yX (s:=s) (i:=i) (v:=0) (by omega)
 rw[du (n:=n) (by omega)]
 have hpos:en<s.size→cX s en=bt s en:=fun h=>by unfold cX;rw[if_pos h]
 have hneg:¬en<s.size→cX s en=0:=fun h=>by unfold cX;rw[if_neg h]
 refine⟨⟨fun hl=>⟨⟨by omega,of_decide_eq_true hl⟩,fun h=>⟨rfl, ?_,hn,rfl,rfl⟩,fun h=>⟨rfl, ?_,hn,rfl,rfl⟩⟩,fun hl=>⟨rfl, ?_,hn,rfl,rfl⟩⟩, ?_⟩
 ·rw[hpos (of_decide_eq_true hl),if_pos (by simpa using h)]
 ·rw[hpos (of_decide_eq_true hl),if_neg (by simpa using h)]
 ·rw[hneg (of_decide_eq_false hl)];rfl
 intro t0 t1 t2 t3 t4 I5 F5 hI5 ⟨ht0,ht2,ht3,ht4,hF5⟩
 subst hF5
 refine⟨⟨fun hl=>⟨⟨by omega,of_decide_eq_true hl⟩,fun h=>⟨ht0, ?_,ht3,ht4,rfl⟩,fun h=>⟨ht0, ?_,ht3,ht4,rfl⟩⟩,fun hl=>⟨ht0, ?_,ht3,ht4,rfl⟩⟩, ?_⟩
 ·rw[hpos (of_decide_eq_true hl),if_pos (by simpa using h)]
 ·rw[ht2,hpos (of_decide_eq_true hl),if_neg (c:=bt s en=112) (by simpa using h)]
 ·rw[ht2,hneg (of_decide_eq_false hl)];rfl
 clear ht0 ht2 ht3 ht4
 intro t0 t1 t2 t3 t4 I6 F6 hI6 ⟨ht0,ht2,ht3,ht4,hF6⟩
 subst hF6
 refine⟨⟨fun hl=>⟨⟨by omega,of_decide_eq_true hl⟩,fun h=>⟨ht0, ?_,ht3,ht4,rfl⟩,fun h=>⟨ht0, ?_,ht3,ht4,rfl⟩⟩,fun hl=>⟨ht0, ?_,ht3,ht4,rfl⟩⟩, ?_⟩
 ·unfold kh;rw[hpos (of_decide_eq_true hl),if_pos (by simpa using h)]
 ·unfold kh;rw[ht2,hpos (of_decide_eq_true hl),if_neg (c:=bt s en=116) (by simpa using h)]
 ·unfold kh;rw[ht2,hneg (of_decide_eq_false hl)];rfl
 clear ht0 ht2 ht3 ht4
 intro u0 u1 u2 u3 u4 I7 F7 hI7 ⟨hu0,hu2,hu3,hu4,hF7⟩
 subst hu0 hu2 hF7
 obtain rfl:i=u4:=hu4.symm
 refine⟨⟨fun h=>⟨?_,rfl⟩,fun h=>⟨?_,rfl⟩⟩, ?_⟩
 ·show _=if kh (cX s en)=1 then en else en+1
  rw[if_neg (by simpa using h),du (by omega)]
 ·show _=if kh (cX s en)=1 then en else en+1
  rw[if_pos (by simpa using h)]
 intro e3 I8 F8 hI8 ⟨he3,hF8⟩
 subst he3 hF8
 have okk:¬(e2<s.size∧(dA (bt s e2)=true∨(65≤bt s e2∧bt s e2≤90))) →
   (0≤i∧i≤e2∧e2≤(s.size:Int))∧∀(J:cc),eg (rT s i).v2 F8 (.returned (Value.tuple #[Value.agg #[Value.int .u8 3,Value.string (s.extract (Int.toNat (i)) (Int.toNat (e2))),Value.int .u8 (kh (cX s en)),Value.int .i64 u3,Value.int .i64 i],Value.int .i64 0])) J F8:=fun h=>by
  refine⟨by omega,fun J=>⟨?_,rfl⟩⟩
  rw[hok (fun h'=>h'.elim nov fun h'=>h'.elim hz h),hu3]
  rfl
 refine⟨fun hl=>⟨⟨by omega,of_decide_eq_true hl⟩, ?_⟩,fun hl=>?_⟩
 ·have hl:=of_decide_eq_true hl
  refine cg.ret (qb (bt s e2) I8 _) fun I9 hI9=>⟨_,rfl,F8,.refl _,fun hi=>⟨?_,rfl⟩,fun hi=>⟨⟨by omega,hl⟩,fun h65=>⟨⟨by omega,hl⟩,fun h90=>⟨?_,rfl⟩,fun h90=>?_⟩,fun h65=>?_⟩⟩
  ·exact congrArg Ending.returned (hbad (.inr (.inr ⟨hl,.inl hi⟩))).symm
  ·exact congrArg Ending.returned (hbad (.inr (.inr ⟨hl,.inr ⟨of_decide_eq_true h65,of_decide_eq_true h90⟩⟩))).symm
  ·obtain⟨a1,a2⟩:=okk (fun h=>h.2.elim (fun h=>by rw[hi] at h;cases h) fun h=>of_decide_eq_false h90 h.2)
   exact⟨a1,a2 _⟩
  ·obtain⟨a1,a2⟩:=okk (fun h=>h.2.elim (fun h=>by rw[hi] at h;cases h) fun h=>of_decide_eq_false h65 h.1)
   exact⟨a1,a2 _⟩
 ·obtain⟨a1,a2⟩:=okk (fun h=>of_decide_eq_false hl h.1)
  exact⟨a1,a2 _⟩
def iU:List ByteArray:=[⟨#[61,61]⟩,⟨#[33,61]⟩,⟨#[60,61]⟩,⟨#[62,61]⟩,⟨#[38,38]⟩,⟨#[124,124]⟩,⟨#[123]⟩,⟨#[125]⟩,⟨#[40]⟩,⟨#[41]⟩,⟨#[44]⟩,⟨#[59]⟩,⟨#[63]⟩,⟨#[58]⟩,⟨#[61]⟩,⟨#[33]⟩,⟨#[60]⟩,⟨#[62]⟩,⟨#[43]⟩,⟨#[45]⟩,⟨#[42]⟩,⟨#[47]⟩,⟨#[37]⟩]
def nY(s:ByteArray)(i:Int)(m:ByteArray):Bool:=decide (i+(m.size:Int)≤s.size)&&((cut s i (i+(m.size:Int))).toList==m.toList)
theorem GC{a b:ByteArray}(h:a.toList=b.toList):a=b:=by
 rw[Lib.toList_data,Lib.toList_data] at h
 have:a.data=b.data:=Array.toList_inj.1 h
 cases a;cases b;simp_all
theorem Ey{a:ByteArray}{k:Nat}(h:k<a.size):bt a k=(a.data[k].toNat:Int):=by
 have h2:a[k]? = some a[k]:=by simp[h]
 unfold bt
 rw[Int.toNat_natCast,h2]
 rfl
theorem Ez{a b:ByteArray}(hs:a.size=b.size)(h:∀k:Nat,k<a.size→bt a k=bt b k):a=b:=by
 have:a.data=b.data:=by
  refine Array.ext hs fun k h1 h2=>?_
  have:=h k h1
  rw[Ey h1,Ey h2] at this
  exact UInt8.toNat_inj.1 (by omega)
 cases a;cases b;simp_all
theorem xJ{s:ByteArray}{i:Int}(h0:0≤i)(m:ByteArray):nY s i m=true↔i+m.size≤s.size∧∀k:Nat,k<m.size→bt s (i+k)=bt m k:=by
 unfold nY
 simp only[Bool.and_eq_true,decide_eq_true_eq,beq_iff_eq]
 refine⟨fun ⟨h1,h2⟩=>⟨h1,fun k hk=>?_⟩,fun ⟨h1,h2⟩=>⟨h1, ?_⟩⟩
 ·have:=GC h2
  rw[←Be (j:=i+m.size) h0 (by omega) (by omega) h1,this]
 ·have hc:=qT (s:=s) h0 (by omega:i≤i+m.size) h1
  have:cut s i (i+m.size)=m:=Ez (by omega) fun k hk=>by
   rw[Be h0 (by omega) (by omega) h1]
   exact h2 k (by omega)
  rw[this]
theorem Jq{s:ByteArray}{i:Int}(h0:0≤i)(h:i<s.size)(c:UInt8):nY s i ⟨#[c]⟩=(bt s i==(c.toNat:Int)):=by
 rw[Bool.eq_iff_iff,xJ h0,beq_iff_eq]
 refine⟨fun ⟨_,h⟩=>by have:=h 0 (Nat.lt_succ_self 0);rwa [Int.natCast_zero,Int.add_zero] at this,fun hc=>⟨by show i+((1:Nat):Int)≤_;omega,fun k hk=>?_⟩⟩
 have:k=0:=by have:k<1:=hk;omega
 subst this
 rw[Int.natCast_zero,Int.add_zero,hc];rfl
theorem Hn{s:ByteArray}{i:Int}(h0:0≤i)(c d:UInt8)(hd:d.toNat≠0):nY s i ⟨#[c,d]⟩=(bt s i==(c.toNat:Int)&&cX s (i+1)==(d.toNat:Int)):=by
 rw[Bool.eq_iff_iff,xJ h0]
 simp only[Bool.and_eq_true,beq_iff_eq]
 refine⟨fun ⟨h1,h⟩=>⟨?_, ?_⟩,fun ⟨hc,hd'⟩=>?_⟩
 ·have:=h 0 (show 0<2 by decide);rwa [Int.natCast_zero,Int.add_zero] at this
 ·have h1:i+((2:Nat):Int)≤s.size:=h1
  unfold cX
  rw[if_pos (by omega)]
  exact h 1 (show 1<2 by decide)
 ·have hl:i+1<s.size:=by
   rcases Int.lt_or_le (i+1) s.size with h | h
   ·exact h
   ·unfold cX at hd';rw[if_neg (by omega)] at hd';omega
  unfold cX at hd'
  rw[if_pos hl] at hd'
  refine⟨by show i+((2:Nat):Int)≤_;omega,fun k hk=>?_⟩
  have hk:k<2:=hk
  rcases (by omega:k=0∨k=1) with rfl | rfl
  ·rw[Int.natCast_zero,Int.add_zero,hc];rfl
  ·exact hd'
theorem Di{s:ByteArray}{i:Int}(h0:0≤i)(h:i<s.size) :
  (iU.find? (nY s i)=none∧ki s i=0)∨(∃m,iU.find? (nY s i)=some m∧(m.size:Int)=ki s i∧0<ki s i∧cut s i (i+ki s i)=m):=by
 have key:(iU.find? (nY s i)=none∧ki s i=0)∨(∃m,iU.find? (nY s i)=some m∧(m.size:Int)=ki s i∧0<ki s i):=by
  unfold iU
  simp only[List.find?_cons,List.find?_nil,Jq h0 h,Hn h0 _ 61 (by decide),Hn h0 _ 38 (by decide),Hn h0 _ 124 (by decide)]
  unfold ki
  generalize bt s i=c
  generalize cX s (i+1)=d
  clear h h0
  repeat' split
  all_goals first | (simp_all [single];done) | (simp_all [single];rfl) | (simp_all [single];omega)
 rcases key with hk | ⟨m,hm,hs,hp⟩
 ·exact .inl hk
 ·refine .inr ⟨m,hm,hs,hp, ?_⟩
  have:=List.find?_some hm
  rw[xJ h0] at this
  rw[←hs]
  have hc:=qT (s:=s) h0 (by omega:i≤i+m.size) this.1
  refine Ez (by omega) fun k hk=>?_
  rw[Be h0 (by omega) (by omega) this.1]
  exact this.2 k (by omega)
theorem zq{k:Nat}{m:ByteArray}(h:iU[k]? = some m):m.size≤2:=by
 have:=List.mem_of_getElem? h
 simp only[iU,List.mem_cons,List.not_mem_nil,or_false] at this
 rcases this with h | h | h | h | h | h | h | h | h | h | h | h | h | h | h | h | h | h | h | h | h | h | h<;>(subst h;decide)
theorem Bh{s:ByteArray}(hs:c9 s){i:Int}(h0:0≤i)(h1:i<s.size)(I:cc)(F:b8):cg P 144 #[.string s,.int .i64 i] I F (eg (sG s i).v2 F):=by
 unfold c9 at hs
 have hm:=Di h0 h1
 refine mS.vc (fun x k b0 b1 b2 b3 b4 m I' F'=>0≤k∧k≤23∧m=(23-k).toNat∧iU.find? (nY s i)=(iU.drop k.toNat).find? (nY s i)∧F'=F) ?_
 unfold mS.V
 intro b b1 I1 hI1 hb1
 have hS:Sl I1 1 uJ (some ⟨b1,0,none⟩) 23 iU:=Sl.kg (f:=uJ) (z:=1) (l:=iU) (fun _=>rfl) hb1 (by kernel_rfl)
 refine⟨⟨_,by omega,by omega,rfl,rfl,rfl⟩,fun x k c0 c1 c2 c3 c4 m I2 F2 hI2 ⟨g0,g1,gm,gf,gF⟩=>⟨fun hlt=>?_,fun hlt=>?_⟩⟩
 ·have hlt:k<23:=of_decide_eq_true hlt
  obtain⟨ad,w,ha,hw,hrd⟩:=(hS.mono hI2).at (i:=k) g0 hlt
  have hwz:=zq hw
  subst gF
  rw[C7 hw] at gf
  have cont:nY s i w=false→∃m6,m6<m∧(0≤IntKind.wrap .i64 (k+1)∧IntKind.wrap .i64 (k+1)≤23∧m6=(23-IntKind.wrap .i64 (k+1)).toNat ∧
    iU.find? (nY s i)=(iU.drop (IntKind.wrap .i64 (k+1)).toNat).find? (nY s i)∧F2=F2):=fun h=>by
   rw[du (by omega)]
   refine⟨(23-(k+1)).toNat,by omega,by omega,by omega,rfl, ?_,rfl⟩
   rw[gf,h,show (k+1).toNat=k.toNat+1 by omega];rfl
  refine⟨⟨g0,hlt⟩,ad,ha,w,hrd _, ?_⟩
  rw[du (n:=i+w.size) (by omega)]
  refine⟨fun hle=>⟨⟨h0,by omega,of_decide_eq_true hle⟩,⟨g0,hlt⟩,ad,ha,w,hrd _,fun he=>⟨⟨g0,hlt⟩,ad,ha,w,hrd _, ?_,rfl⟩,fun he=>cont ?_⟩,fun hle=>cont ?_⟩
  ·have hhit:nY s i w=true:=by
    unfold nY;rw[hle,Bool.true_and];exact he
   rw[hhit,if_pos rfl] at gf
   rcases hm with ⟨h,_⟩ | ⟨w',h,hsz,hp,hcut⟩
   ·rw[h] at gf;cases gf
   ·rw[h] at gf;cases gf
    unfold sG
    rw[if_neg (by omega),hcut];rfl
  ·unfold nY;rw[hle,Bool.true_and];exact he
  ·unfold nY;rw[hle];rfl
 ·have hlt:¬k<23:=of_decide_eq_false hlt
  refine⟨?_,gF⟩
  rw[List.drop_eq_nil_of_le (by show 23≤_;omega)] at gf
  rcases hm with ⟨h,hz⟩ | ⟨w',h,_⟩
  ·unfold sG
   rw[if_pos hz];rfl
  ·rw[h] at gf;cases gf
def TR.v3:TR→Value
 | .ok t=>.tuple #[t.v,.int .i64 0,.int .i64 0]
 | .bad e p=>.tuple #[(yW 0).v,.int .i64 e,.int .i64 p]
theorem EA(s:ByteArray)(i:Int):(∃t,rT s i=.ok t)∨∃e,rT s i=.bad e i∧(e != 0)=true:=by
 rcases Bf s i with ⟨t,h,_⟩ | h
 ·exact .inl ⟨t,h⟩
 ·exact .inr ⟨_,h,rfl⟩
theorem Dj(s:ByteArray)(i:Int):(∃t,sF s i=.ok t)∨∃e,sF s i=.bad e i∧(e != 0)=true:=by
 unfold sF;simp only;split
 ·exact .inr ⟨_,rfl,rfl⟩
 ·exact .inl ⟨_,rfl⟩
theorem Dk(s:ByteArray)(i:Int):(∃t,sG s i=.ok t)∨∃e,sG s i=.bad e i∧(e != 0)=true:=by
 unfold sG;split
 ·exact .inr ⟨_,rfl,rfl⟩
 ·exact .inl ⟨_,rfl⟩
theorem EB{c:Int}(h:gB c=true):dE c=false:=by
 simp only[gB,dE,Bool.and_eq_true,decide_eq_true_eq,Bool.and_eq_false_iff,decide_eq_false_iff_not] at h ⊢
 omega
theorem EC{s:ByteArray}(hs:c9 s){f:Int}(h0:0≤f)(h1:f≤s.size)(I:cc)(F:b8):cg P 119 #[.string s,.int .i64 f] I F (eg (te s f).v3 F):=by
 have hs':=hs
 unfold c9 at hs'
 refine oT.vc ?_
 unfold oT.V
 intro b
 have ho:=rS (s:=s) h1
 refine cg.ret (Bg hs h0 h1 I _) fun I1 hI1=>⟨_,rfl,F,.refl _, ?_⟩
 unfold te
 simp only
 generalize jA s f=r at ho ⊢
 refine⟨fun h=>⟨?_,rfl⟩,fun h b_t=>?_⟩
 ·rw[if_pos (by simpa using h)];rfl
 ·have hne:r≠s.size:=by simpa using h
  have hlt:r<s.size:=by omega
  rw[if_neg hne]
  refine⟨⟨by omega,hlt⟩, ?_⟩
  refine cg.ret (mz (bt s r) I1 _) fun I2 hI2=>⟨_,rfl,F,.refl _,fun hm=>?_,fun hm=>⟨⟨by omega,hlt⟩, ?_⟩⟩
  ·rw[if_neg (by rw[EB hm];exact Bool.false_ne_true),if_pos hm]
   refine cg.ret (zp hs (by omega) hlt I2 _) fun I3 hI3=>?_
   rcases Dj s r with ⟨t,ht⟩ | ⟨e,ht,he⟩
   ·rw[ht];exact⟨_,_,_,_,_,_,rfl,F,.refl _,fun h=>absurd h (by decide),fun _=>⟨rfl,rfl⟩⟩
   ·rw[ht];exact⟨_,_,_,_,_,_,rfl,F,.refl _,fun h=>⟨rfl,rfl⟩,fun h=>by rw[he] at h;cases h⟩
  ·rw[if_neg (c:=gB (bt s r)=true) (by rw[hm];exact Bool.false_ne_true)]
   refine cg.ret (nT (bt s r) I2 _) fun I3 hI3=>⟨_,rfl,F,.refl _,fun hd=>?_,fun hd=>?_⟩
   ·rw[if_pos hd]
    refine cg.ret (xI hs (by omega) hlt I3 _) fun I4 hI4=>?_
    rcases EA s r with ⟨t,ht⟩ | ⟨e,ht,he⟩
    ·rw[ht];exact⟨_,_,_,_,_,_,rfl,F,.refl _,fun h=>absurd h (by decide),fun _=>⟨rfl,rfl⟩⟩
    ·rw[ht];exact⟨_,_,_,_,_,_,rfl,F,.refl _,fun h=>⟨rfl,rfl⟩,fun h=>by rw[he] at h;cases h⟩
   ·rw[if_neg (by rw[hd];exact Bool.false_ne_true)]
    refine cg.ret (Bh hs (by omega) hlt I3 _) fun I4 hI4=>?_
    rcases Dk s r with ⟨t,ht⟩ | ⟨e,ht,he⟩
    ·rw[ht];exact⟨_,_,_,_,_,_,rfl,F,.refl _,fun h=>absurd h (by decide),fun _=>⟨rfl,rfl⟩⟩
    ·rw[ht];exact⟨_,_,_,_,_,_,rfl,F,.refl _,fun h=>⟨rfl,rfl⟩,fun h=>by rw[he] at h;cases h⟩
def pN(s:ByteArray):Nat→Int→List Tok×Option (Int×Int)
 | 0,_=>([],none)
 | n+1,f=>match te s f with
   | .bad e p=>([],some (e,p))
   | .ok t=>if t.kind=0 then ([t],none) else (t::(pN s n (t.pos+t.text.size)).1,(pN s n (t.pos+t.text.size)).2)
def se(s:ByteArray)(f:Int):List Tok×Option (Int×Int):=pN s (s.size-f+1).toNat f
theorem uR{s:ByteArray}{f:Int}(h0:0≤f)(h1:f≤s.size){t:Tok}(ht:te s f=.ok t):t.pos+t.text.size≤s.size∧f≤t.pos∧(t.kind≠0→f+1≤t.pos+t.text.size):=by
 have ho:=rS (s:=s) h1
 rcases uQ h0 h1 with ⟨t',ht',hp,hl,_,hk⟩ | ⟨e,ht',_⟩
 ·rw[ht] at ht';cases ht'
  refine⟨hl,by omega,fun hne=>?_⟩
  rcases hk with ⟨h,_⟩ | ⟨_,_,h⟩
  ·exact absurd h hne
  ·omega
 ·rw[ht] at ht';cases ht'
theorem uS(s:ByteArray):∀(n n':Nat) (f:Int),0≤f→f≤s.size→(s.size-f+1).toNat≤n→(s.size-f+1).toNat≤n'→pN s n f=pN s n' f
 | 0,n',f,h0,h1,hn,hn'=>by omega
 | n+1,0,f,h0,h1,hn,hn'=>by omega
 | n+1,n'+1,f,h0,h1,hn,hn'=>by
   unfold pN
   cases ht:te s f with
   | bad e p=>rfl
   | ok t =>
     have:=uR h0 h1 ht
     by_cases hk:t.kind=0
     ·simp[hk]
     ·have:=this.2.2 hk
      simp only[hk,if_false]
      rw[uS s n n' _ (by omega) (by omega) (by omega) (by omega)]
theorem Dl{s:ByteArray}{f:Int}(h0:0≤f)(h1:f≤s.size):se s f=match te s f with
  | .bad e p=>([],some (e,p))
  | .ok t=>if t.kind=0 then ([t],none) else (t::(se s (t.pos+t.text.size)).1,(se s (t.pos+t.text.size)).2):=by
 unfold se
 obtain⟨n,hn⟩:∃n,(s.size-f+1).toNat=n+1:=⟨(s.size-f+1).toNat-1,by omega⟩
 rw[hn]
 show (match te s f with
  | .bad e p=>([],some (e,p))
  | .ok t=>if t.kind=0 then ([t],none) else (t::(pN s n (t.pos+t.text.size)).1,(pN s n (t.pos+t.text.size)).2))=_
 cases ht:te s f with
 | bad e p=>rfl
 | ok t =>
   have:=uR h0 h1 ht
   by_cases hk:t.kind=0
   ·simp[hk]
   ·have:=this.2.2 hk
    simp only[hk,if_false]
    rw[uS s n _ _ (by omega) (by omega) (by omega) (Nat.le_refl _)]
def Tok.enc(t:Tok):List Value:=[.int .u8 t.kind,.string t.text,.int .u8 t.cx,.int .i64 t.n,.int .i64 t.pos]
theorem FJ:∀(t:Tok),∀u∈t.enc,u.oneCell'=true:=by
 intro t u hu
 simp only[Tok.enc,List.mem_cons,List.not_mem_nil,or_false] at hu
 rcases hu with h | h | h | h | h<;>(subst h;rfl)
theorem Bi{a:Option Addr}{n c:Nat}{l:List Tok}{A F:b8}(hA:Acc 5 Tok.enc 145 a n c l A)(hl:l.length≤1000000000)(t:Tok){b:Nat}{I:cc}(hb:I b=some (.cells t.enc.toArray 145 (0,0))) :
  cE P (Builtin.append_ #[105,105] 105 #[.slice a n c,.slice (some ⟨b,0,none⟩) 1 1]) I (A++F) fun v I' G=>∃a' n' c' A',v=.slice a' n' c'∧Acc 5 Tok.enc 145 a' n' c' (l++[t]) A'∧G=A'++F:=by
 refine (eF (f:=Tok.enc) (zv:=(yW 0).v) (fun _=>rfl) (by':=48) (by kernel_rfl) (by kernel_rfl) rfl (by decide) hA (xs:=[t]) (fun x _=>FJ x) (by simp) rfl ?_ (by simp only[List.length_cons,List.length_nil];omega)).mono
  fun v I' G _ ⟨a',n',c',A',h1,h2,h3,_⟩=>⟨a',n',c',A',h1,h2,h3⟩
 exact⟨rfl,_,_,_,.inl hb,fun j hj=>by simp⟩
def ED(r:List Tok×Option (Int×Int))(F:b8)(e:Ending)(I:cc)(G:b8):Prop :=
 ∃a n c A,e=.returned (.tuple #[.slice a n c,.int .i64 ((r.2.map Prod.fst).getD 0),.int .i64 ((r.2.map Prod.snd).getD 0)])∧Acc 5 Tok.enc 145 a n c r.1 A∧G=A++F
theorem Bj{s:ByteArray}(hs:c9 s)(hs2:(s.size:Int)≤1000000000)(I:cc)(F:b8):cg P 84 #[.string s] I F (ED (se s 0) F):=by
 refine kQ.vc (fun x_a x_n x_c x x1 a n c f m I' F'=>0≤f∧f≤s.size∧m=(s.size-f).toNat∧∃l A,Acc 5 Tok.enc 145 a n c l A∧F'=A++F∧l.length≤f ∧
  se s 0=(l++(se s f).1,(se s f).2)) ?_
 unfold kQ.V
 have h:True:=trivial
 refine⟨⟨_,by omega,by omega,rfl,[],[],Acc.nil,rfl,by decide,rfl⟩, ?_⟩
 intro x_a x_n x_c x x1 a n c f m I1 F1 hI1 ⟨h0,h1,gm,l,A,hA,hF,hl,ht⟩
 subst hF
 rw[Dl h0 h1] at ht
 refine cg.ret (EC hs h0 h1 I1 _) fun I2 hI2=>?_
 rcases uQ h0 h1 with ⟨t,htok,htat⟩ | ⟨e,htok,he⟩
 ·rw[htok] at ht ⊢
  have hnx:=uR h0 h1 htok
  refine⟨_,_,_,_,_,_,_,rfl,_,.refl _,fun b_t=>⟨fun h=>absurd h (by decide),fun _=>?_⟩⟩
  intro b I3 hI3 hb
  refine cE.perm ((Bi hA (by omega) t hb (F:=(b_t,_)::F)).mono fun v I4 G2 hI4 ⟨a',n',c',A',hv,hA',hG⟩=>?_) List.perm_middle.symm
  subst hG
  refine⟨_,_,_,hv,A'++F,List.perm_middle,fun hk=>?_,fun hk=>?_⟩
  ·have hk:t.kind=0:=by simpa using hk
   simp only[hk,if_true] at ht
   rw[ht]
   exact⟨_,_,_,_,rfl,hA',rfl⟩
  ·have hk:t.kind≠0:=by simpa using hk
   have:=hnx.2.2 hk
   simp only[hk,if_false] at ht
   rw[du (by omega)]
   refine⟨_, ?_,by omega,by omega,rfl,_,_,hA',rfl, ?_, ?_⟩
   ·omega
   ·rw[List.length_append,List.length_singleton];omega
   ·rw[ht,List.append_assoc];rfl
 ·rw[htok] at ht ⊢
  refine⟨_,_,_,_,_,_,_,rfl,_,.refl _,fun b_t=>⟨fun _=>?_,fun h=>?_⟩⟩
  ·rw[ht]
   exact⟨_,_,_,A,rfl,by simpa using hA,rfl⟩
  ·rcases he with rfl | rfl | rfl<;>exact absurd h (by decide)
structure PF where
 e:Int
 pos:Int
 tok:Bool
structure PS where
 next:Nat
 f:PF
structure PC where
 l:List Tok
 bad:Int
 pos:Int
def nZ:Px:=.mk 0 0 0 0 0 ⟨#[]⟩ [] 0
def PS.over(s:PS):Bool:=s.f.e != 0
def PS.inc(s:PS):PS:=⟨s.next+1,s.f⟩
section
variable (c:PC)
def PC.tok(i:Nat):Tok:=(c.l[i]?).getD (yW 0)
def PC.now(s:PS):Tok:=if s.over||decide (c.l.length≤s.next) then yW 0 else c.tok s.next
def PC.cZ(e:Int)(s:PS):PS:=if s.over then s else if c.l.length≤s.next then ⟨s.next,⟨c.bad,c.pos,true⟩⟩ else ⟨s.next,⟨e,(c.tok s.next).pos,false⟩⟩
def PC.kB(w:ByteArray)(s:PS):Bool:=(c.now s).text.toList==w.toList&&((c.now s).kind==1||(c.now s).kind==4)
def PC.vZ(s:PS):List ByteArray→Int→Int
 | [],_=>-1
 | w::r,i=>if c.kB w s then i else PC.vZ s r (i+1)
def PC.any(ws:List ByteArray)(s:PS):Int:=c.vZ s ws 0
def PC.take(w:ByteArray)(s:PS):Int×PS:=if c.kB w s then ((c.now s).pos,s.inc) else (0,c.cZ 130 s)
def PC.name(s:PS):ByteArray×PS:=if (c.now s).kind=2 then ((c.now s).text,s.inc) else (⟨#[]⟩,c.cZ 130 s)
def PC.cU(d:Int)(s:PS):PS:=if 24<d+1 then c.cZ 132 s else s
def FK(cx n pos:Int):Px:=.mk 1 0 cx n 0 ⟨#[]⟩ [] pos
def PC.literal(s:PS):(Px×Bool)×PS :=
 if (c.now s).kind=3 then ((FK (c.now s).cx (c.now s).n (c.now s).pos,true),s.inc)
 else if (c.now s).kind=1∧((c.now s).text.toList=(⟨#[116,114,117,101]⟩:ByteArray).toList∨(c.now s).text.toList=(⟨#[102,97,108,115,101]⟩:ByteArray).toList) then ((FK 5 (if (c.now s).text.toList=(⟨#[116,114,117,101]⟩:ByteArray).toList then 1 else 0) (c.now s).pos,true),s.inc)
 else if (c.now s).kind=1∧((c.now s).text.toList=(⟨#[98,117,121]⟩:ByteArray).toList∨(c.now s).text.toList=(⟨#[115,101,108,108]⟩:ByteArray).toList) then ((FK 6 (if (c.now s).text.toList=(⟨#[115,101,108,108]⟩:ByteArray).toList then 2 else 1) (c.now s).pos,true),s.inc)
 else ((nZ,false),s)
structure Lv where
 ex:PS→Px×PS
 un:PS→Px×PS
def PC.oc(nx:Lv):Nat→Bool→PS→List Px×PS
 | 0,_,s=>([],s)
 | n+1,first,s =>
   let r:=nx.ex (if first then s else (c.take (⟨#[44]⟩:ByteArray) s).2)
   let q:=PC.oc nx n false r.2
   (r.1::q.1,q.2)
def PC.call(nx:Lv)(d:Int)(kind oper cx pos:Int)(many:Nat)(s:PS):Px×PS :=
 if (c.cU d s).over then (nZ,c.cU d s)
 else
  let q:=c.oc nx many true (c.take (⟨#[40]⟩:ByteArray) (c.cU d s).inc).2
  (.mk kind oper cx 0 0 ⟨#[]⟩ q.1 pos,(c.take (⟨#[41]⟩:ByteArray) q.2).2)
def PC.rest(nx:Lv)(d:Int)(s:PS):Px×PS :=
 if c.kB (⟨#[104,97,115]⟩:ByteArray) s then
  if c.any [(⟨#[98,105,100]⟩:ByteArray),(⟨#[97,115,107]⟩:ByteArray),(⟨#[108,97,115,116]⟩:ByteArray)] s.inc<0 then (nZ,c.cZ 130 s.inc) else (.mk 4 0 0 0 (c.any [(⟨#[98,105,100]⟩:ByteArray),(⟨#[97,115,107]⟩:ByteArray),(⟨#[108,97,115,116]⟩:ByteArray)] s.inc+1) ⟨#[]⟩ [] (c.now s).pos,s.inc.inc)
 else if c.kB (⟨#[40]⟩:ByteArray) s then
  if (c.cU d s).over then (nZ,c.cU d s)
  else
   let r:=nx.ex (c.cU d s).inc
   (r.1,(c.take (⟨#[41]⟩:ByteArray) r.2).2)
 else (nZ,c.cZ 130 s)
def xK:List ByteArray:=[(⟨#[98,105,100]⟩:ByteArray),(⟨#[97,115,107]⟩:ByteArray),(⟨#[108,97,115,116]⟩:ByteArray),(⟨#[118,111,108,117,109,101]⟩:ByteArray),(⟨#[110,111,119]⟩:ByteArray),(⟨#[111,112,101,110]⟩:ByteArray)]
def nz:List ByteArray:=[(⟨#[97,98,115]⟩:ByteArray),(⟨#[109,105,110]⟩:ByteArray),(⟨#[109,97,120]⟩:ByteArray)]
def uT:List ByteArray:=[(⟨#[105,110,116]⟩:ByteArray),(⟨#[113,116,121]⟩:ByteArray),(⟨#[112,114,105,99,101]⟩:ByteArray),(⟨#[116,105,109,101]⟩:ByteArray)]
def PC.one(nx:Lv)(d:Int)(s:PS):Px×PS :=
 if (c.literal s).1.2 then ((c.literal s).1.1,(c.literal s).2)
 else if (c.now s).kind=2 then (.mk 2 0 0 0 0 (c.now s).text [] (c.now s).pos,s.inc)
 else if 0≤c.any xK s then (.mk 3 0 0 0 (c.any xK s+1) ⟨#[]⟩ [] (c.now s).pos,s.inc)
 else if 0≤c.any nz s then c.call nx d 8 (3+c.any nz s) 0 (c.now s).pos (if c.any nz s=0 then 1 else 2) s
 else if 0≤c.any uT s then c.call nx d 9 0 (1+c.any uT s) (c.now s).pos 1 s
 else c.rest nx d s
def sQ:List ByteArray:=[(⟨#[45]⟩:ByteArray),(⟨#[33]⟩:ByteArray)]
def PC.unary(nx:Lv)(d:Int)(s:PS):Px×PS :=
 if c.any sQ s<0 then c.one nx d s
 else if (c.cU d s).over then (nZ,c.cU d s)
 else
  let r:=nx.un (c.cU d s).inc
  (.mk 5 (1+c.any sQ s) 0 0 0 ⟨#[]⟩ [r.1] (c.now (c.cU d s)).pos,r.2)
def Ho(o pos:Int)(a b:Px):Px:=.mk 6 o 0 0 0 ⟨#[]⟩ [a,b] pos
def PC.jx(ws:List ByteArray)(o:Int)(sub:PS→Px×PS):Nat→Px→PS→Px×PS
 | 0,n,s=>(n,s)
 | m+1,n,s=>if c.any ws s<0 then (n,s) else
   let k:=sub s.inc
   PC.jx ws o sub m (Ho (o+c.any ws s) (c.now s).pos n k.1) k.2
def PC.loop(ws:List ByteArray)(o:Int)(sub:PS→Px×PS)(s:PS):Px×PS:=c.jx ws o sub c.l.length (sub s).1 (sub s).2
def zr:List ByteArray:=[(⟨#[42]⟩:ByteArray),(⟨#[47]⟩:ByteArray),(⟨#[37]⟩:ByteArray)]
def zt:List ByteArray:=[(⟨#[43]⟩:ByteArray),(⟨#[45]⟩:ByteArray)]
def xL:List ByteArray:=[(⟨#[61,61]⟩:ByteArray),(⟨#[33,61]⟩:ByteArray),(⟨#[60]⟩:ByteArray),(⟨#[60,61]⟩:ByteArray),(⟨#[62]⟩:ByteArray),(⟨#[62,61]⟩:ByteArray)]
def zu:List ByteArray:=[(⟨#[38,38]⟩:ByteArray)]
def GD:List ByteArray:=[(⟨#[124,124]⟩:ByteArray)]
def PC.product(nx:Lv)(d:Int)(s:PS):Px×PS:=c.loop zr 8 (c.unary nx d) s
def PC.sum(nx:Lv)(d:Int)(s:PS):Px×PS:=c.loop zt 6 (c.product nx d) s
def PC.compare(nx:Lv)(d:Int)(s:PS):Px×PS :=
 let n:=c.sum nx d s
 if c.any xL n.2<0 then n else
  let k:=c.sum nx d n.2.inc
  (Ho (11+c.any xL n.2) (c.now n.2).pos n.1 k.1,k.2)
def PC.and(nx:Lv)(d:Int)(s:PS):Px×PS:=c.loop zu 17 (c.compare nx d) s
def PC.or(nx:Lv)(d:Int)(s:PS):Px×PS:=c.loop GD 18 (c.and nx d) s
def PC.expr(nx:Lv)(d:Int)(s:PS):Px×PS :=
 let n:=c.or nx d s
 if c.kB (⟨#[63]⟩:ByteArray) n.2 then
  if (c.cU d n.2).over then (nZ,c.cU d n.2)
  else
   let a:=nx.ex (c.cU d n.2).inc
   let b:=nx.ex (c.take (⟨#[58]⟩:ByteArray) a.2).2
   (.mk 7 0 0 0 0 ⟨#[]⟩ [n.1,a.1,b.1] (c.now (c.cU d n.2)).pos,b.2)
 else n
def PC.lv(nx:Lv)(d:Int):Lv:=⟨c.expr nx d,c.unary nx d⟩
def PC.lvl:Nat→Int→Lv
 | 0,d=>c.lv ⟨fun s=>(nZ,s),fun s=>(nZ,s)⟩ d
 | k+1,d=>c.lv (PC.lvl k (d+1)) d
def PC.ij(s:PS):Px×PS:=(c.lvl 24 0).ex s
def sR:List ByteArray:=[(⟨#[105,110,116]⟩:ByteArray),(⟨#[113,116,121]⟩:ByteArray),(⟨#[112,114,105,99,101]⟩:ByteArray),(⟨#[116,105,109,101]⟩:ByteArray),(⟨#[98,111,111,108]⟩:ByteArray),(⟨#[115,105,100,101]⟩:ByteArray)]
def PC.EE(nm:ByteArray)(t pos pos2:Int)(minus:Bool)(n:Px)(s:PS):dg×PS:=(⟨nm,t,if minus then .mk 5 1 0 0 0 ⟨#[]⟩ [n] pos2 else n,pos⟩,(c.take (⟨#[59]⟩:ByteArray) s).2)
def PC.qU(nm:ByteArray)(t pos pos2:Int)(minus:Bool)(s:PS):dg×PS :=
 if minus=true∧(c.now s).kind≠3 then (⟨nm,t,nZ,pos⟩,c.cZ 130 s) else c.EE nm t pos pos2 minus (c.literal s).1.1 (if (c.literal s).1.2 then (c.literal s).2 else c.cZ 130 (c.literal s).2)
def PC.iz(nm:ByteArray)(t pos:Int)(s:PS):dg×PS:=c.qU nm t pos (c.now s).pos (c.kB (⟨#[45]⟩:ByteArray) s) (if c.kB (⟨#[45]⟩:ByteArray) s then s.inc else s)
def PC.Bk(nm:ByteArray)(pos:Int)(s:PS):dg×PS:=if c.any sR s<0 then (⟨nm,0,nZ,pos⟩,c.cZ 130 s) else c.iz nm (1+c.any sR s) pos (c.take (⟨#[61]⟩:ByteArray) s.inc).2
def PC.eX(s:PS):dg×PS:=c.Bk (c.name (c.take (⟨#[114,101,103]⟩:ByteArray) s).2).1 (c.take (⟨#[114,101,103]⟩:ByteArray) s).1 (c.name (c.take (⟨#[114,101,103]⟩:ByteArray) s).2).2
def oe:List ByteArray:=[(⟨#[108,105,109,105,116]⟩:ByteArray),(⟨#[105,111,99]⟩:ByteArray),(⟨#[102,111,107]⟩:ByteArray),(⟨#[112,111,115,116]⟩:ByteArray)]
def PC.og(s:PS):ByteArray×PS:=if c.kB (⟨#[97,115]⟩:ByteArray) s then c.name s.inc else (⟨#[]⟩,s)
def PC.zw(x y:Px)(pos:Int)(z:Px)(o:Int)(s:PS):dS×PS:=(⟨1,o,(c.og s).1,x,y,z,nZ,pos⟩,(c.og s).2)
def PC.Dm(x y:Px)(pos:Int)(z:Px)(s:PS):dS×PS:=if c.any oe s<0 then (⟨1,2,⟨#[]⟩,x,y,z,nZ,pos⟩,c.cZ 130 s) else c.zw x y pos z (if c.any oe s=0 then 1 else 2+c.any oe s) s.inc
def Ir:List ByteArray:=[(⟨#[109,97,114,107,101,116]⟩:ByteArray),(⟨#[97,116]⟩:ByteArray)]
def PC.Dn(x y:Px)(pos:Int)(s:PS):dS×PS:=if c.any Ir s<0 then (⟨1,0,⟨#[]⟩,x,y,nZ,nZ,pos⟩,c.cZ 130 s)
 else if c.any Ir s=1 then c.Dm x y pos (c.ij s.inc).1 (c.ij s.inc).2 else c.zw x y pos nZ 2 s.inc
def PC.Is(x:Px)(pos:Int)(s:PS):dS×PS:=c.Dn x (c.ij (c.take (⟨#[111,102]⟩:ByteArray) s).2).1 pos (c.ij (c.take (⟨#[111,102]⟩:ByteArray) s).2).2
def PC.qh(s:PS):dS×PS:=c.Is (c.ij (c.take (⟨#[115,117,98,109,105,116]⟩:ByteArray) s).2).1 (c.take (⟨#[115,117,98,109,105,116]⟩:ByteArray) s).1 (c.ij (c.take (⟨#[115,117,98,109,105,116]⟩:ByteArray) s).2).2
def Ft:List ByteArray:=[(⟨#[115,117,98,109,105,116]⟩:ByteArray),(⟨#[97,109,101,110,100]⟩:ByteArray),(⟨#[99,97,110,99,101,108]⟩:ByteArray),(⟨#[115,101,116]⟩:ByteArray),(⟨#[103,111,116,111]⟩:ByteArray),(⟨#[104,97,108,116]⟩:ByteArray)]
def JQ:dS:=⟨0,0,⟨#[]⟩,nZ,nZ,nZ,nZ,0⟩
def PC.JJ(nm:ByteArray)(pos:Int)(x:Px)(s:PS):dS×PS:=(⟨2,0,nm,nZ,x,(c.ij (c.take (⟨#[97,116]⟩:ByteArray) s).2).1,nZ,pos⟩,(c.ij (c.take (⟨#[97,116]⟩:ByteArray) s).2).2)
def PC.JK(nm:ByteArray)(pos:Int)(s:PS):dS×PS:=(⟨4,0,nm,nZ,nZ,nZ,(c.ij (c.take (⟨#[61]⟩:ByteArray) s).2).1,pos⟩,(c.ij (c.take (⟨#[61]⟩:ByteArray) s).2).2)
def PC.FL(k:Int)(nm:ByteArray)(pos:Int)(s:PS):dS×PS:=if k=2 then c.JJ nm pos (c.ij (c.take (⟨#[116,111]⟩:ByteArray) s).2).1 (c.ij (c.take (⟨#[116,111]⟩:ByteArray) s).2).2 else if k=4 then c.JK nm pos s else (⟨k,0,nm,nZ,nZ,nZ,nZ,pos⟩,s)
def PC.do(s:PS):dS×PS :=
 if c.any Ft s<0 then (JQ,c.cZ 130 s)
 else if c.any Ft s=0 then c.qh s
 else if c.any Ft s=5 then c.FL 6 ⟨#[]⟩ (c.now s).pos s.inc
 else c.FL (1+c.any Ft s) (c.name s.inc).1 (c.now s).pos (c.name s.inc).2
def PC.many(n most:Nat)(s:PS):PS:=if most≤n then c.cZ 131 s else s
def PC.lS:Nat→List dS→PS→List dS×PS
 | 0,l,s=>(l,s)
 | m+1,l,s =>
   if c.kB (⟨#[44]⟩:ByteArray) (c.do s).2 then
    if (c.many (l.length+1) 8 (c.do s).2).over then (l++[(c.do s).1],c.many (l.length+1) 8 (c.do s).2) else PC.lS m (l++[(c.do s).1]) (c.many (l.length+1) 8 (c.do s).2).inc
   else (l++[(c.do s).1],(c.do s).2)
def PC.GF(w:Px)(pos:Int)(s:PS):cM×PS:=(⟨w,(c.lS 8 [] s).1,pos⟩,(c.take (⟨#[59]⟩:ByteArray) (c.lS 8 [] s).2).2)
def PC.pB(s:PS):cM×PS:=c.GF (c.ij (c.take (⟨#[119,104,101,110]⟩:ByteArray) s).2).1 (c.take (⟨#[119,104,101,110]⟩:ByteArray) s).1 (c.take (⟨#[100,111]⟩:ByteArray) (c.ij (c.take (⟨#[119,104,101,110]⟩:ByteArray) s).2).2).2
def PC.iA{α:Type}(w:ByteArray)(most:Nat)(one:PS→α×PS):Nat→List α→PS→List α×PS
 | 0,l,s=>(l,if c.kB w s then c.many l.length most s else s)
 | m+1,l,s=>if c.kB w s then
    if (c.many l.length most s).over then (l,c.many l.length most s) else PC.iA w most one m (l++[(one (c.many l.length most s)).1]) (one (c.many l.length most s)).2
   else (l,s)
def PC.list{α:Type}(w:ByteArray)(most:Nat)(one:PS→α×PS)(s:PS):List α×PS:=c.iA w most one most [] s
def PC.EF(nm:ByteArray)(pos:Int)(s:PS):cq×PS:=(⟨nm,(c.list (⟨#[119,104,101,110]⟩:ByteArray) 12 c.pB s).1,pos⟩,(c.take (⟨#[125]⟩:ByteArray) (c.list (⟨#[119,104,101,110]⟩:ByteArray) 12 c.pB s).2).2)
def PC.state(s:PS):cq×PS:=c.EF (c.name (c.take (⟨#[115,116,97,116,101]⟩:ByteArray) s).2).1 (c.take (⟨#[115,116,97,116,101]⟩:ByteArray) s).1 (c.take (⟨#[123]⟩:ByteArray) (c.name (c.take (⟨#[115,116,97,116,101]⟩:ByteArray) s).2).2).2
def PC.slot(s:PS):cI×PS:=(⟨(c.name (c.take (⟨#[115,108,111,116]⟩:ByteArray) s).2).1,(c.take (⟨#[115,108,111,116]⟩:ByteArray) s).1⟩,(c.take (⟨#[59]⟩:ByteArray) (c.name (c.take (⟨#[115,108,111,116]⟩:ByteArray) s).2).2).2)
def PC.end(s:PS):PS:=if s.over then s else if c.l.length≤s.next∨(c.tok s.next).kind≠0 then c.cZ 130 s else s
def PC.EG(nm:ByteArray)(rs:List dg)(ss:List cI)(ts:List cq)(s:PS):cu×PS:=(⟨nm,rs,ss,ts⟩,c.end (c.take (⟨#[125]⟩:ByteArray) (if ts.length=0 then c.cZ 130 s else s)).2)
def PC.EH(nm:ByteArray)(rs:List dg)(ss:List cI)(s:PS):cu×PS:=c.EG nm rs ss (c.list (⟨#[115,116,97,116,101]⟩:ByteArray) 12 c.state s).1 (c.list (⟨#[115,116,97,116,101]⟩:ByteArray) 12 c.state s).2
def PC.EI(nm:ByteArray)(rs:List dg)(s:PS):cu×PS:=c.EH nm rs (c.list (⟨#[115,108,111,116]⟩:ByteArray) 4 c.slot s).1 (c.list (⟨#[115,108,111,116]⟩:ByteArray) 4 c.slot s).2
def PC.EJ(nm:ByteArray)(s:PS):cu×PS:=c.EI nm (c.list (⟨#[114,101,103]⟩:ByteArray) 12 c.eX s).1 (c.list (⟨#[114,101,103]⟩:ByteArray) 12 c.eX s).2
def PC.whole(s:PS):cu×PS:=c.EJ (c.name (c.take (⟨#[115,116,114,97,116,101,103,121]⟩:ByteArray) s).2).1 (c.take (⟨#[123]⟩:ByteArray) (c.name (c.take (⟨#[115,116,114,97,116,101,103,121]⟩:ByteArray) s).2).2).2
end
def sf(t:ByteArray):PC:=if 4096<(t.size:Int) then ⟨[],0,0⟩ else ⟨(se t 0).1,((se t 0).2.map Prod.fst).getD 0,((se t 0).2.map Prod.snd).getD 0⟩
def gH(t:ByteArray):PS:=⟨0,if 4096<(t.size:Int) then ⟨110,0,true⟩ else ⟨0,0,false⟩⟩
def zF:PF:=⟨0,0,false⟩
def mT(t:ByteArray):cu×PF :=
 let r:=(sf t).whole (gH t)
 if r.2.over then (⟨⟨#[]⟩,[],[],[]⟩,r.2.f) else (r.1,zF)
def mV(t:ByteArray):Px×PF :=
 let n:=(sf t).ij (gH t)
 let s:=(sf t).end n.2
 if s.over then (nZ,s.f) else (n.1,zF)
end Go.Lx
namespace Go.Lx
open Go.Vc Go.Proofs.Tryz
def jD:List (Nat×List Sh):=[(0,[]),(3,[.one (.int .i64)]),(4,[.one .bool]),(9,[.one .str]),(47,[.one (.int .i64)]),(105,[.one .slc]),(140,[.one .slc,.one (.int .i64),.one (.int .i64)]),(143,[.one (.int .u8)]),(145,[.agg [(.int .u8),.str,(.int .u8),(.int .i64),(.int .i64)]])]
def fE.V(p:Addr)(I:cc)(F:b8)(Q:cf)  : Prop:=∃ad:Addr,some p=some ad∧∃(m:Int),Rd I F ((ad.add 4).add 0) [.int .i64 m]∧Q (.returned (.bool (m != 0))) I (F)
theorem fE.vc{p:Addr}{I:cc}{F:b8}{Q:cf}  (h:fE.V p I F Q):cg P 55 #[.pointer (some p)] I F Q :=
 tw (A:=(an [] [] jD)) [] func55 h
def fU.V(ka:Nat→Int→Bs→Int→Int→Int→Nat×Obj)(vb vi:Int→Value)(vs:Bs→Value)(p:Addr)(I:cc)(F:b8)(Q:cf)  : Prop:=∀b:Nat,∃(r:Bool),(cg P 55 (#[.pointer (some p)]) I ((ka b 0 (⟨#[]⟩:Bs) 0 0 0)::F) fun e1 I1 G1=>e1=.returned (.bool r)∧List.Perm G1 ((ka b 0 (⟨#[]⟩:Bs) 0 0 0)::F))∧(It r (Q (.returned (.agg #[vb 0,vs (⟨#[]⟩:Bs),vb 0,vi 0,vi 0])) I F) (∃ad:Addr,some p=some ad∧∃(m:Int),Rd I ((ka b 0 (⟨#[]⟩:Bs) 0 0 0)::F) (ad.add 3) [vi m]∧∃j:Addr,some p=some j∧∃(q:OA) (a s:Nat),Rd I ((ka b 0 (⟨#[]⟩:Bs) 0 0 0)::F) (j.add 0) [.slice q a s]∧(Dt (m≥(a:Int)) (Q (.returned (.agg #[vb 0,vs (⟨#[]⟩:Bs),vb 0,vi 0,vi 0])) I F) (∃k:Addr,some p=some k∧∃(c:OA) (d o:Nat),Rd I ((ka b 0 (⟨#[]⟩:Bs) 0 0 0)::F) (k.add 0) [.slice c d o]∧∃l:Addr,some p=some l∧∃(m1:Int),Rd I ((ka b 0 (⟨#[]⟩:Bs) 0 0 0)::F) (l.add 3) [vi m1]∧((0≤m1∧m1<(d:Int))∧∃n:Addr,c=some n∧∃(e:Int) (f:Bs) (g h i:Int),Rd I ((ka b 0 (⟨#[]⟩:Bs) 0 0 0)::F) (n.add (Int.toNat m1*5)) [vb e,vs f,vb g,vi h,vi i]∧Q (.returned (.agg #[vb e,vs f,vb g,vi h,vi i])) I F)))))
theorem fU.vc{p:Addr}{I:cc}{F:b8}{Q:cf}  (h:fU.V (fun W a b c d e=>(W,Obj.cells #[.int .u8 a,.string b,.int .u8 c,.int .i64 d,.int .i64 e] 145 (0,0))) (.int .u8) (.int .i64) .string p I F Q):cg P 88 #[.pointer (some p)] I F Q :=
 tw (A:=(cQ [1001,1012] [] [55] jD [] [] [] [(3,10,[0])] [] [] [])) [55] func88 h
def fc.V(vi:Int→Value)(p:Addr)(e1:Int)(I:cc)(F:b8)(Q:cf)  : Prop:=cF P 55 (#[.pointer (some p)]) I (·) F .bool fun r I1 F1=>(It r (Q (.returned (.tuple #[])) I1 F1) (∃ad:Addr,some p=some ad∧∃(m:Int),Rd I1 F1 (ad.add 3) [vi m]∧∃h:Addr,some p=some h∧∃(q:OA) (c s:Nat),Rd I1 F1 (h.add 0) [.slice q c s]∧(Dt (m≥(c:Int)) (∃i:Addr,some p=some i∧∃(m1:Int),Rd I1 F1 (i.add 1) [vi m1]∧∃j:Addr,some p=some j∧∃(m2:Int),Rd I1 F1 (j.add 2) [vi m2]∧∃a:Addr,some p=some a∧∃(cs:List Value) (el:Nat) (F2:b8),List.Perm F1 (((a.add 4).block,Obj.cells cs.toArray el (0,0))::F2)∧(a.add 4).spot=none∧(a.add 4).off+3≤cs.length∧Q (.returned (.tuple #[])) I1 ((((a.add 4).block,Obj.cells (cp (a.add 4).off [vi m1,vi m2,.bool true] cs).toArray el (0,0))::F2))) (∃k:Addr,some p=some k∧∃(d:OA) (e o:Nat),Rd I1 F1 (k.add 0) [.slice d e o]∧∃l:Addr,some p=some l∧∃(m3:Int),Rd I1 F1 (l.add 3) [vi m3]∧((0≤m3∧m3<(e:Int))∧∃n:Addr,d=some n∧∃(m4:Int),Rd I1 F1 ((n.add (Int.toNat m3*5)).add 4) [vi m4]∧∃b:Addr,some p=some b∧∃(f:List Value) (g:Nat) (F3:b8),List.Perm F1 (((b.add 4).block,Obj.cells f.toArray g (0,0))::F3)∧(b.add 4).spot=none∧(b.add 4).off+3≤f.length∧Q (.returned (.tuple #[])) I1 ((((b.add 4).block,Obj.cells (cp (b.add 4).off [vi e1,vi m4,.bool false] f).toArray g (0,0))::F3)))))))
theorem fc.vc{p:Addr}{e1:Int}{I:cc}{F:b8}{Q:cf}  (h:fc.V (.int .i64) p e1 I F Q):cg P 90 #[.pointer (some p),.int .i64 e1] I F Q :=
 tw (A:=(cQ [1,1009] [] [55] jD [] [] [] [(2,12,[]),(3,16,[])] [] [] [])) [55] func90 h
def gR.V(p:Addr)(s:Bs)(I:cc)(F:b8)(Q:cf)  : Prop:=de P 88 (#[.pointer (some p)]) I (·) F fun e1 I1 G1=>∃(a:Int) (b:Bs) (c d e:Int),e1=.returned (.agg #[.int .u8 a,.string b,.int .u8 c,.int .i64 d,.int .i64 e])∧G1 fun F1=>∀f:Nat,(It (b.toList==s.toList) (It (a==1) (Q (.returned (.bool true)) I1 F1) (Q (.returned (.bool (a==4))) I1 F1)) (Q (.returned (.bool false)) I1 F1))
theorem gR.vc{p:Addr}{s:Bs}{I:cc}{F:b8}{Q:cf}  (h:gR.V p s I F Q):cg P 86 #[.pointer (some p),.string s] I F Q :=
 tw (A:=(an [2003,2007] [88] jD)) [88] func86 h
def fV.V(p:Addr)(b:OA)(a c:Nat)(I:cc)(F:b8)(Q:cf)(Inv6:Int→Int→Nat→cc→b8→Prop):Prop:=(∃m:Nat,Inv6 0 0 m I F)∧∀(x i:Int) (m1:Nat) (I1:cc) (F1:b8),cc.le I I1→Inv6 x i m1 I1 F1→(Dt (i<(a:Int)) ((0≤i∧i<(a:Int))∧∃ad:Addr,b=some ad∧∃(m2:Bs),Rd I1 F1 (ad.add (Int.toNat i*1)) [.string m2]∧cF P 86 (#[.pointer (some p),.string m2]) I1 (·) F1 .bool fun r I2 F2=>(It r (Q (.returned (.int .i64 i)) I2 F2) (∃m3:Nat,m3<m1∧Inv6 x (IntKind.wrap .i64 (i+1)) m3 I2 F2))) (Q (.returned (.int .i64 (-1))) I1 F1))
theorem fV.vc{p:Addr}{a:OA}{b c:Nat}{I:cc}{F:b8}{Q:cf}(Inv6:Int→Int→Nat→cc→b8→Prop)(h:fV.V p a b c I F Q Inv6):cg P 122 #[.pointer (some p),.slice a b c] I F Q :=
 tw (A:=(cQ [2003,5000] [] [86] jD [(6,⟨[(4,(.int .i64)),(5,(.int .i64))],[],fun _ _ _ vs m I F=>match vs with | [.int _ y0,.int _ y1]=>Inv6 y0 y1 m I F | _=>False,[],[]⟩)] [] [] [] [] [] [])) [86] func122 h
def fF.V(vi:Int→Value)(p:Addr)(s:Bs)(I:cc)(F:b8)(Q:cf)  : Prop:=cF P 86 (#[.pointer (some p),.string s]) I (·) F .bool fun r I1 F1=>(It (!r) (de P 90 (#[.pointer (some p),vi 130]) I1 (·) F1 fun e2 I2 G2=>e2=.returned (.tuple #[])∧G2 fun F2=>Q (.returned (vi 0)) I2 F2) (de P 88 (#[.pointer (some p)]) I1 (·) F1 fun e3 I3 G3=>∃(c:Int) (d:Bs) (e f b:Int),e3=.returned (.agg #[.int .u8 c,.string d,.int .u8 e,vi f,vi b])∧G3 fun F3=>∃ad:Addr,some p=some ad∧∃(m:Int),Rd I3 F3 (ad.add 3) [vi m]∧∃a:Addr,some p=some a∧∃(cs:List Value) (el:Nat) (F4:b8),List.Perm F3 (((a.add 3).block,Obj.cells cs.toArray el (0,0))::F4)∧(a.add 3).spot=none∧(a.add 3).off+1≤cs.length∧Q (.returned (vi b)) I3 ((((a.add 3).block,Obj.cells (cp (a.add 3).off [vi (IntKind.wrap .i64 (m+1))] cs).toArray el (0,0))::F4))))
theorem fF.vc{p:Addr}{s:Bs}{I:cc}{F:b8}{Q:cf}  (h:fF.V (.int .i64) p s I F Q):cg P 89 #[.pointer (some p),.string s] I F Q :=
 tw (A:=(an [2001] [86,88,90] jD)) [86,88,90] func89 h
def fG.V(vb vi:Int→Value)(vs:Bs→Value)(p:Addr)(I:cc)(F:b8)(Q:cf)  : Prop:=de P 88 (#[.pointer (some p)]) I (·) F fun e1 I1 G1=>∃(a:Int) (c:Bs) (d e f:Int),e1=.returned (.agg #[vb a,vs c,vb d,vi e,vi f])∧G1 fun F1=>∀g:Nat,(It (a != 2) (de P 90 (#[.pointer (some p),vi 130]) I1 ((g,Obj.cells #[vb a,vs c,vb d,vi e,vi f] 145 (0,0))::·) F1 fun e2 I2 G2=>e2=.returned (.tuple #[])∧G2 fun F2=>Q (.returned (vs (⟨#[]⟩:Bs))) I2 F2) (∃ad:Addr,some p=some ad∧∃(m:Int),Rd I1 ((g,Obj.cells #[vb a,vs c,vb d,vi e,vi f] 145 (0,0))::F1) (ad.add 3) [vi m]∧∃b:Addr,some p=some b∧∃(cs:List Value) (el:Nat) (F3:b8),List.Perm F1 (((b.add 3).block,Obj.cells cs.toArray el (0,0))::F3)∧(b.add 3).spot=none∧(b.add 3).off+1≤cs.length∧Q (.returned (vs c)) I1 ((((b.add 3).block,Obj.cells (cp (b.add 3).off [vi (IntKind.wrap .i64 (m+1))] cs).toArray el (0,0))::F3))))
theorem fG.vc{p:Addr}{I:cc}{F:b8}{Q:cf}  (h:fG.V (.int .u8) (.int .i64) .string p I F Q):cg P 91 #[.pointer (some p)] I F Q :=
 tw (A:=(an [2002] [88,90] jD)) [88,90] func91 h
def eR.V(vt:Bool→Value)(p:Addr)(d:Int)(I:cc)(F:b8)(Q:cf)  : Prop:=(Dt ((IntKind.wrap .i64 (d+1))>24) (de P 90 (#[.pointer (some p),.int .i64 132]) I (·) F fun e1 I1 G1=>e1=.returned (.tuple #[])∧G1 fun F1=>cF P 55 (#[.pointer (some p)]) I1 (·) F1 vt fun r I2 F2=>Q (.returned (vt (!r))) I2 F2) (cF P 55 (#[.pointer (some p)]) I (·) F vt fun r1 I3 F3=>Q (.returned (vt (!r1))) I3 F3))
theorem eR.vc{p:Addr}{d:Int}{I:cc}{F:b8}{Q:cf}  (h:eR.V .bool p d I F Q):cg P 87 #[.pointer (some p),.int .i64 d] I F Q :=
 tw (A:=(an [1002] [55,90] jD)) [55,90] func87 h
def eG.V(nV:Int→Int→Int→Int→Int→Bs→OA→Nat→Nat→Int→Value)(nO:Int→Int→Int→Int→Int→Bs→OA→Nat→Nat→Int→Obj)(vb vi:Int→Value)(vt:Bool→Value)(p:Addr)(I:cc)(F:b8)(Q:cf)(Inv6:Bool→Int→Int→Int→Int→Int→Bs→OA→Nat→Nat→Int→Int→Int→Int→Int→Int→Bs→OA→Nat→Nat→Int→cc→b8→Prop):Prop:=∀b:Nat,de P 88 (#[.pointer (some p)]) I ((b,nO 0 0 0 0 0 (⟨#[]⟩:Bs) none 0 0 0)::·) F fun e1 I1 G1=>∃(d:Int) (a:Bs) (u v c:Int),e1=.returned (.agg #[vb d,.string a,vb u,vi v,vi c])∧G1 fun F1=>∀af:Nat,∀ag:Nat,((It (d==3) (Inv6 false 0 0 0 0 0 (⟨#[]⟩:Bs) none 0 0 0 1 0 u v 0 (⟨#[]⟩:Bs) none 0 0 c I1 F1) (It (d==1) (It (a.toList==(⟨#[116,114,117,101]⟩:Bs).toList) (It (a.toList==(⟨#[116,114,117,101]⟩:Bs).toList) (Inv6 false 0 0 0 0 0 (⟨#[]⟩:Bs) none 0 0 0 1 0 5 1 0 (⟨#[]⟩:Bs) none 0 0 c I1 F1) (Inv6 false 0 0 0 0 0 (⟨#[]⟩:Bs) none 0 0 0 1 0 5 0 0 (⟨#[]⟩:Bs) none 0 0 c I1 F1)) (It (a.toList==(⟨#[102,97,108,115,101]⟩:Bs).toList) (It (a.toList==(⟨#[116,114,117,101]⟩:Bs).toList) (Inv6 false 0 0 0 0 0 (⟨#[]⟩:Bs) none 0 0 0 1 0 5 1 0 (⟨#[]⟩:Bs) none 0 0 c I1 F1) (Inv6 false 0 0 0 0 0 (⟨#[]⟩:Bs) none 0 0 0 1 0 5 0 0 (⟨#[]⟩:Bs) none 0 0 c I1 F1)) (It (d==1) (It (a.toList==(⟨#[98,117,121]⟩:Bs).toList) (It (a.toList==(⟨#[115,101,108,108]⟩:Bs).toList) (Inv6 false 0 0 0 0 0 (⟨#[]⟩:Bs) none 0 0 0 1 0 6 2 0 (⟨#[]⟩:Bs) none 0 0 c I1 F1) (Inv6 false 0 0 0 0 0 (⟨#[]⟩:Bs) none 0 0 0 1 0 6 1 0 (⟨#[]⟩:Bs) none 0 0 c I1 F1)) (It (a.toList==(⟨#[115,101,108,108]⟩:Bs).toList) (It (a.toList==(⟨#[115,101,108,108]⟩:Bs).toList) (Inv6 false 0 0 0 0 0 (⟨#[]⟩:Bs) none 0 0 0 1 0 6 2 0 (⟨#[]⟩:Bs) none 0 0 c I1 F1) (Inv6 false 0 0 0 0 0 (⟨#[]⟩:Bs) none 0 0 0 1 0 6 1 0 (⟨#[]⟩:Bs) none 0 0 c I1 F1)) (Q (.returned (.tuple #[nV 0 0 0 0 0 (⟨#[]⟩:Bs) none 0 0 0,vt false])) I1 F1))) (Q (.returned (.tuple #[nV 0 0 0 0 0 (⟨#[]⟩:Bs) none 0 0 0,vt false])) I1 F1)))) (It (d==1) (It (a.toList==(⟨#[98,117,121]⟩:Bs).toList) (It (a.toList==(⟨#[115,101,108,108]⟩:Bs).toList) (Inv6 false 0 0 0 0 0 (⟨#[]⟩:Bs) none 0 0 0 1 0 6 2 0 (⟨#[]⟩:Bs) none 0 0 c I1 F1) (Inv6 false 0 0 0 0 0 (⟨#[]⟩:Bs) none 0 0 0 1 0 6 1 0 (⟨#[]⟩:Bs) none 0 0 c I1 F1)) (It (a.toList==(⟨#[115,101,108,108]⟩:Bs).toList) (It (a.toList==(⟨#[115,101,108,108]⟩:Bs).toList) (Inv6 false 0 0 0 0 0 (⟨#[]⟩:Bs) none 0 0 0 1 0 6 2 0 (⟨#[]⟩:Bs) none 0 0 c I1 F1) (Inv6 false 0 0 0 0 0 (⟨#[]⟩:Bs) none 0 0 0 1 0 6 1 0 (⟨#[]⟩:Bs) none 0 0 c I1 F1)) (Q (.returned (.tuple #[nV 0 0 0 0 0 (⟨#[]⟩:Bs) none 0 0 0,vt false])) I1 F1))) (Q (.returned (.tuple #[nV 0 0 0 0 0 (⟨#[]⟩:Bs) none 0 0 0,vt false])) I1 F1)))))∧∀(x:Bool) (w y z aa ab:Int) (ac:Bs) (r:OA) (s t:Nat) (ae i j k l n:Int) (o:Bs) (e:OA) (f g:Nat) (q:Int) (I2:cc) (F2:b8),cc.le I1 I2→Inv6 x w y z aa ab ac r s t ae i j k l n o e f g q I2 F2→∃ad:Addr,some p=some ad∧∃(m:Int),Rd I2 ((b,nO w y z aa ab ac r s t ae)::(af,Obj.cells #[vb d,.string a,vb u,vi v,vi c] 145 (0,0))::(ag,nO i j k l n o e f g q)::F2) (ad.add 3) [vi m]∧∃h:Addr,some p=some h∧∃(cs:List Value) (el:Nat) (F3:b8),List.Perm F2 (((h.add 3).block,Obj.cells cs.toArray el (0,0))::F3)∧(h.add 3).spot=none∧(h.add 3).off+1≤cs.length∧Q (.returned (.tuple #[nV i j k l n o e f g q,vt true])) I2 ((((h.add 3).block,Obj.cells (cp (h.add 3).off [vi (IntKind.wrap .i64 (m+1))] cs).toArray el (0,0))::F3))
theorem eG.vc{p:Addr}{I:cc}{F:b8}{Q:cf}(Inv6:Bool→Int→Int→Int→Int→Int→Bs→OA→Nat→Nat→Int→Int→Int→Int→Int→Int→Bs→OA→Nat→Nat→Int→cc→b8→Prop)(h:eG.V (fun k o t n f s a l c q=>.agg #[.int .u8 k,.int .u8 o,.int .u8 t,.int .i64 n,.int .u8 f,.string s,.slice a l c,.int .i64 q]) (fun k o t n f s a l c q=>.cells #[.int .u8 k,.int .u8 o,.int .u8 t,.int .i64 n,.int .u8 f,.string s,.slice a l c,.int .i64 q] 28 (0,0)) (.int .u8) (.int .i64) .bool p I F Q Inv6):cg P 123 #[.pointer (some p)] I F Q :=
 tw (A:=(cQ [4002,7002,7006,7010,9002,11002,11006,11010,14002] [] [88] jD [(6,⟨[(3,.bool)],[(0,[(.int .u8),(.int .u8),(.int .u8),(.int .i64),(.int .u8),.str,.slc,(.int .i64)]),(2,[(.int .u8),(.int .u8),(.int .u8),(.int .i64),(.int .u8),.str,.slc,(.int .i64)])],fun _ _ _ vs m I F=>match vs with | [.bool y0,.int _ y1,.int _ y2,.int _ y3,.int _ y4,.int _ y5,.string y6,.slice y7 y8 y9,.int _ y10,.int _ y11,.int _ y12,.int _ y13,.int _ y14,.int _ y15,.string y16,.slice y17 y18 y19,.int _ y20]=>Inv6 y0 y1 y2 y3 y4 y5 y6 y7 y8 y9 y10 y11 y12 y13 y14 y15 y16 y17 y18 y19 y20 I F | _=>False,[],[]⟩)] [] [] [] [] [] [])) [88] func123 h
def fW.V(vi:Int→Value)(p:Addr)(I:cc)(F:b8)(Q:cf)  : Prop:=cF P 55 (#[.pointer (some p)]) I (·) F .bool fun r I1 F1=>(It r (Q (.returned (.tuple #[])) I1 F1) (∃ad:Addr,some p=some ad∧∃(m:Int),Rd I1 F1 (ad.add 3) [vi m]∧∃d:Addr,some p=some d∧∃(i:OA) (a j:Nat),Rd I1 F1 (d.add 0) [.slice i a j]∧(Dt (m≥(a:Int)) (de P 90 (#[.pointer (some p),vi 130]) I1 (·) F1 fun e2 I2 G2=>e2=.returned (.tuple #[])∧G2 fun F2=>Q (.returned (.tuple #[])) I2 F2) (∃e:Addr,some p=some e∧∃(b:OA) (c h:Nat),Rd I1 F1 (e.add 0) [.slice b c h]∧∃f:Addr,some p=some f∧∃(m1:Int),Rd I1 F1 (f.add 3) [vi m1]∧((0≤m1∧m1<(c:Int))∧∃g:Addr,b=some g∧∃(m2:Int),Rd I1 F1 ((g.add (Int.toNat m1*5)).add 0) [.int .u8 m2]∧(It (m2 != 0) (de P 90 (#[.pointer (some p),vi 130]) I1 (·) F1 fun e3 I3 G3=>e3=.returned (.tuple #[])∧G3 fun F3=>Q (.returned (.tuple #[])) I3 F3) (Q (.returned (.tuple #[])) I1 F1)))))))
theorem fW.vc{p:Addr}{I:cc}{F:b8}{Q:cf}  (h:fW.V (.int .i64) p I F Q):cg P 54 #[.pointer (some p)] I F Q :=
 tw (A:=(an [1,1009,1022] [55,90] jD)) [55,90] func54 h
def fH.V(vt:Bool→Value)(p:Addr)(n a:Int)(I:cc)(F:b8)(Q:cf)  : Prop:=(Dt (n≥a) (de P 90 (#[.pointer (some p),.int .i64 131]) I (·) F fun e1 I1 G1=>e1=.returned (.tuple #[])∧G1 fun F1=>cF P 55 (#[.pointer (some p)]) I1 (·) F1 vt fun r I2 F2=>Q (.returned (vt (!r))) I2 F2) (cF P 55 (#[.pointer (some p)]) I (·) F vt fun r1 I3 F3=>Q (.returned (vt (!r1))) I3 F3))
theorem fH.vc{p:Addr}{n a:Int}{I:cc}{F:b8}{Q:cf}  (h:fH.V .bool p n a I F Q):cg P 92 #[.pointer (some p),.int .i64 n,.int .i64 a] I F Q :=
 tw (A:=(an [1002] [55,90] jD)) [55,90] func92 h
def kR.V(vi:Int→Value)(s:Bs)(I:cc)(F:b8)(Q:cf)  : Prop:=(Dt ((s.size:Int)>4096) (∀b:Nat,Q (.returned (.pointer (some (⟨b,0,none⟩:Addr)))) I (((b,Obj.cells #[.slice none 0 0,vi 0,vi 0,vi 0,vi 110,vi 0,.bool true] 107 (0,0))::F))) (de P 84 #[.string s] I (·) F fun e1 I1 G1=>∃(a:OA) (c d:Nat) (r1 r2:Int),e1=.returned (.tuple #[.slice a c d,vi r1,vi r2])∧G1 fun F1=>∀b1:Nat,Q (.returned (.pointer (some (⟨b1,0,none⟩:Addr)))) I1 (((b1,Obj.cells #[.slice a c d,vi r1,vi r2,vi 0,vi 0,vi 0,.bool false] 107 (0,0))::F1))))
theorem kR.vc{s:Bs}{I:cc}{F:b8}{Q:cf}  (h:kR.V (.int .i64) s I F Q):cg P 52 #[.string s] I F Q :=
 tw (A:=(cQ [1002] [] [84] jD [] [] [2002,4004] [] [] [] [])) [84] func52 h
end Go.Lx
namespace Go.Lx
open Go.Vc
structure PQ where
 c:PC
 a:Option Addr
 cap:Nat
def PQ.cl(q:PQ)(s:PS):List Value:=[.slice q.a q.c.l.length q.cap,.int .i64 q.c.bad,.int .i64 q.c.pos,.int .i64 s.next,.int .i64 s.f.e,.int .i64 s.f.pos,.bool s.f.tok]
def PQ.cy(q:PQ)(b:Nat)(s:PS):Nat×Obj:=(b,.cells (q.cl s).toArray 107 (0,0))
structure PQ.ok (q:PQ) (I:cc):Prop where
 sl:Sl I 5 Tok.enc q.a q.c.l.length q.c.l
 len:q.c.l.length≤1000000
theorem PQ.ok.mono{q:PQ}{I J:cc}(h:q.ok I)(hl:cc.le I J):q.ok J:=⟨h.sl.mono hl,h.len⟩
theorem PQ.rd{q:PQ}{b:Nat}{s:PS}{I:cc}{G:b8}(h:q.cy b s∈G){k:Nat}{v:Value}(hv:(q.cl s)[k]? = some v):Rd I G ((⟨b,0,none⟩:Addr).add k) [v]:=by
 rw[js]
 refine⟨rfl,_,_,_,.inr h,fun j hj=>?_⟩
 have:j=0:=by simpa using hj
 subst this
 simpa using hv
theorem PQ.eh{q:PQ}{b:Nat}{s:PS}(hn:s.next≤2000000) :
  (((⟨b,0,none⟩:Addr).add 3).block,Obj.cells (cp ((⟨b,0,none⟩:Addr).add 3).off [.int .i64 (IntKind.wrap .i64 ((s.next:Int)+1))] (q.cl s)).toArray 107 (0,0))=q.cy b s.inc:=by
 rw[js,du (by omega)]
 rfl
theorem PQ.Iu{q:PQ}{b:Nat}{s:PS}{e p:Int}{t:Bool} :
  (((⟨b,0,none⟩:Addr).add 4).block,Obj.cells (cp ((⟨b,0,none⟩:Addr).add 4).off [.int .i64 e,.int .i64 p,.bool t] (q.cl s)).toArray 107 (0,0))=q.cy b ⟨s.next,⟨e,p,t⟩⟩:=by
 rw[js]
 rfl
theorem PQ.spot(b k:Nat):((⟨b,0,none⟩:Addr).add k).spot=none:=by rw[js]
theorem PQ.off(b k:Nat):((⟨b,0,none⟩:Addr).add k).off=k:=by rw[js]
variable {q:PQ} {b:Nat} {s:PS} {I:cc}
theorem mW{F:b8}(hm:q.cy b s∈F):cg P 55 #[.pointer (some ⟨b,0,none⟩)] I F (eg (.bool s.over) F):=by
 refine fE.vc ?_
 unfold fE.V
 exact⟨_,rfl,_,(PQ.rd hm (k:=4) rfl).field (o:=0) rfl,rfl,rfl⟩
theorem jJ(hq:q.ok I){F:b8}(hm:q.cy b s∈F):cg P 88 #[.pointer (some ⟨b,0,none⟩)] I F (eg (q.c.now s).v F):=by
 refine fU.vc ?_
 unfold fU.V
 intro b1
 refine⟨s.over,cg.ret (mW (.tail _ hm)) fun I1 l1=>⟨rfl,.refl _⟩,fun h=>⟨?_,rfl⟩,fun h=>⟨_,rfl,_,PQ.rd (.tail _ hm) rfl,_,rfl,_,_,_,PQ.rd (.tail _ hm) rfl,fun hn=>⟨?_,rfl⟩,fun hn=>⟨_,rfl,_,_,_,PQ.rd (.tail _ hm) rfl,_,rfl,_,PQ.rd (.tail _ hm) rfl, ?_⟩⟩⟩
 ·unfold PC.now;rw[h];rfl
 ·have hn:=of_decide_eq_true hn
  unfold PC.now;rw[h,if_pos (by simp;omega)];rfl
 ·have hn:=of_decide_eq_false hn
  obtain⟨ad,t,ha,ht,hr⟩:=hq.sl.at (i:=(s.next:Int)) (by omega) (by omega)
  refine⟨⟨by omega,by omega⟩,ad,ha,_,_,_,_,_,hr _, ?_,rfl⟩
  have ht:q.c.l[s.next]? = some t:=ht
  unfold PC.now PC.tok;rw[h,if_neg (by simp;omega),ht];rfl
theorem fe(hq:q.ok I)(e:Int){F F0:b8}(hF:F.Perm (q.cy b s::F0)):cg P 90 #[.pointer (some ⟨b,0,none⟩),.int .i64 e] I F fun e1 I' G=>e1=.returned (.tuple #[])∧G.Perm (q.cy b (q.c.cZ e s)::F0):=by
 have hm:q.cy b s∈F:=hF.mem_iff.2 (.head _)
 refine fc.vc ?_
 unfold fc.V
 refine cg.ret (mW hm) fun I1 l1=>⟨_,rfl,F,.refl _,fun h=>⟨rfl, ?_⟩,fun h=>⟨_,rfl,_,PQ.rd hm rfl,_,rfl,_,_,_,PQ.rd hm rfl,fun hn=>⟨_,rfl,_,PQ.rd hm rfl,_,rfl,_,PQ.rd hm rfl,_,rfl,q.cl s,107,F0,hF,PQ.spot _ _,by rw[PQ.off];exact (by decide:4+3≤7),rfl, ?_⟩,
  fun hn=>⟨_,rfl,_,_,_,PQ.rd hm rfl,_,rfl,_,PQ.rd hm rfl, ?_⟩⟩⟩
 ·unfold PC.cZ;rw[if_pos h];exact hF
 ·have hn:=of_decide_eq_true hn
  unfold PC.cZ;rw[if_neg (by simp[h]),if_pos (by omega),PQ.Iu]
 ·have hn:=of_decide_eq_false hn
  obtain⟨ad,t,ha,ht,hr⟩:=(hq.mono l1).sl.at (i:=(s.next:Int)) (by omega) (by omega)
  refine⟨⟨by omega,by omega⟩,ad,ha,t.pos,(hr _).field (o:=4) rfl,_,rfl,q.cl s,107,F0,hF,PQ.spot _ _,by rw[PQ.off];exact (by decide:4+3≤7),rfl, ?_⟩
  have ht:q.c.l[s.next]? = some t:=ht
  unfold PC.cZ PC.tok;rw[if_neg (by simp[h]),if_neg (by omega),ht,PQ.Iu];exact .refl _
theorem qi(hq:q.ok I)(w:ByteArray){F:b8}(hm:q.cy b s∈F):cg P 86 #[.pointer (some ⟨b,0,none⟩),.string w] I F (eg (.bool (q.c.kB w s)) F):=by
 refine gR.vc ?_
 unfold gR.V
 refine cg.ret (jJ hq hm) fun I1 l1=>⟨_,_,_,_,_,rfl,F,.refl _,fun b_t=>⟨fun h=>⟨fun h1=>⟨?_,rfl⟩,fun h1=>⟨?_,rfl⟩⟩,fun h=>⟨?_,rfl⟩⟩⟩<;>unfold PC.kB<;>simp_all
theorem nC(hq:q.ok I){a:Option Addr}{n k:Nat}{ws:List ByteArray}(hS:Sl I 1 uJ a n ws)(hl:n≤100){F:b8}(hm:q.cy b s∈F):cg P 122 #[.pointer (some ⟨b,0,none⟩),.slice a n k] I F (eg (.int .i64 (q.c.any ws s)) F):=by
 have hn:=hS.1
 refine fV.vc (fun x i m I' F'=>F'=F∧0≤i∧i≤n∧m=(n-i).toNat∧q.c.any ws s=q.c.vZ s (ws.drop i.toNat) i) ?_
 unfold fV.V
 refine⟨⟨_,rfl,by omega,by omega,rfl,rfl⟩,fun x i m1 I1 F1 l1 ⟨gF,g0,g1,gm,ge⟩=>⟨fun hlt=>?_,fun hlt=>⟨?_,gF⟩⟩⟩
 ·subst gF
  have hlt:=of_decide_eq_true hlt
  obtain⟨ad,w,ha,hw,hr⟩:=(hS.mono l1).at g0 hlt
  obtain⟨hk,rfl⟩:=List.getElem?_eq_some_iff.1 hw
  rw[List.drop_eq_getElem_cons hk,PC.vZ] at ge
  refine⟨⟨g0,hlt⟩,ad,ha,_,hr _,cg.ret (qi (hq.mono l1) _ hm) fun I2 l2=>⟨_,rfl,F1,.refl _,fun h=>⟨?_,rfl⟩,fun h=>⟨(n-(i+1)).toNat,by omega,rfl, ?_⟩⟩⟩
  ·rw[ge,if_pos h]
  ·rw[du (n:=i+1) (by omega)]
   refine⟨by omega,by omega,rfl, ?_⟩
   rw[ge,if_neg (by simp[h]),show (i+1).toNat=i.toNat+1 by omega]
 ·have hlt:=of_decide_eq_false hlt
  rw[ge,List.drop_eq_nil_of_le (by omega),PC.vZ]
theorem lC{c:PC}{s:PS}(h:(c.now s).kind≠0):s.next<c.l.length:=by
 unfold PC.now at h
 split at h
 ·exact absurd rfl h
 ·rename_i h1
  simp only[Bool.or_eq_true,decide_eq_true_eq,not_or] at h1
  omega
theorem dY{c:PC}{s:PS}{w:ByteArray}(h:c.kB w s=true):s.next<c.l.length:=by
 refine lC fun hk=>?_
 unfold PC.kB at h
 rw[hk] at h
 simp at h
theorem Cq{c:PC}{s:PS}:∀{ws:List ByteArray} {i:Int},0≤i→0≤c.vZ s ws i→s.next<c.l.length∧i≤c.vZ s ws i∧c.vZ s ws i<i+ws.length
 | [],i,h0,h=>by rw[PC.vZ] at h;omega
 | w::r,i,h0,h=>by
   rw[PC.vZ] at h ⊢
   split at h
   ·rename_i hw
    rw[if_pos hw]
    exact⟨dY hw,Int.le_refl _,by rw[List.length_cons];omega⟩
   ·rename_i hw
    rw[if_neg hw]
    have:=Cq (ws:=r) (i:=i+1) (by omega) h
    rw[List.length_cons];exact⟨this.1,by omega,by omega⟩
theorem dZ{c:PC}{s:PS}{ws:List ByteArray}(h:0≤c.any ws s):s.next<c.l.length∧c.any ws s<ws.length:=by
 have:=Cq (Int.le_refl 0) h
 exact⟨this.1,by have:=this.2.2;unfold PC.any;omega⟩
theorem dT(hq:q.ok I)(w:ByteArray){F F0:b8}(hF:F.Perm (q.cy b s::F0)):cg P 89 #[.pointer (some ⟨b,0,none⟩),.string w] I F fun e1 I' G=>e1=.returned (.int .i64 (q.c.take w s).1)∧G.Perm (q.cy b (q.c.take w s).2::F0):=by
 have hm:q.cy b s∈F:=hF.mem_iff.2 (.head _)
 have hl:=hq.len
 refine fF.vc ?_
 unfold fF.V
 refine cg.ret (qi hq w hm) fun I1 l1=>⟨_,rfl,F,.refl _,fun h=>?_,fun h=>?_⟩
 ·have h:q.c.kB w s=false:=by simpa using h
  refine (fe (hq.mono l1) 130 hF).mono fun e I2 G l2 ⟨he,hG⟩=>?_
  refine⟨he,G,.refl _, ?_⟩
  unfold PC.take
  rw[if_neg (by simp[h])]
  exact⟨rfl,hG⟩
 ·have h:q.c.kB w s=true:=by simpa using h
  have hlt:=dY h
  refine cg.ret (jJ (hq.mono l1) hm) fun I2 l2=>⟨_,_,_,_,_,rfl,F,.refl _,_,rfl,_,PQ.rd (k:=3) hm rfl,_,rfl,q.cl s,107,F0,hF,PQ.spot _ _,by rw[PQ.off];exact (by decide:3+1≤7), ?_⟩
  rw[PQ.eh (by omega)]
  unfold PC.take
  rw[if_pos h]
  exact⟨rfl,.refl _⟩
theorem qj(hq:q.ok I){F F0:b8}(hF:F.Perm (q.cy b s::F0)):cg P 91 #[.pointer (some ⟨b,0,none⟩)] I F fun e1 I' G=>e1=.returned (.string (q.c.name s).1)∧G.Perm (q.cy b (q.c.name s).2::F0):=by
 have hm:q.cy b s∈F:=hF.mem_iff.2 (.head _)
 have hl:=hq.len
 refine fG.vc ?_
 unfold fG.V
 refine cg.ret (jJ hq hm) fun I1 l1=>⟨_,_,_,_,_,rfl,F,.refl _,fun b_t=>⟨fun h=>?_,fun h=>?_⟩⟩
 ·have h:(q.c.now s).kind≠2:=by simpa using h
  refine (fe (hq.mono l1) 130 (F0:=_::F0) ((List.Perm.cons _ hF).trans (List.Perm.swap _ _ _))).mono fun e I2 G l2 ⟨he,hG⟩=>?_
  refine⟨he,q.cy b (q.c.cZ 130 s)::F0,hG.trans (List.Perm.swap _ _ _), ?_⟩
  unfold PC.name
  rw[if_neg h]
  exact⟨rfl,.refl _⟩
 ·have h:(q.c.now s).kind=2:=by simpa using h
  have hlt:=lC (by rw[h];decide:(q.c.now s).kind≠0)
  refine⟨_,rfl,_,PQ.rd (k:=3) (.tail _ hm) rfl,_,rfl,q.cl s,107,F0,hF,PQ.spot _ _,by rw[PQ.off];exact (by decide:3+1≤7), ?_⟩
  rw[PQ.eh (by omega)]
  unfold PC.name
  rw[if_pos h]
  exact⟨rfl,.refl _⟩
theorem qV(hq:q.ok I)(d:Int)(h0:0≤d)(h1:d≤1000){F F0:b8}(hF:F.Perm (q.cy b s::F0)):cg P 87 #[.pointer (some ⟨b,0,none⟩),.int .i64 d] I F fun e1 I' G=>e1=.returned (.bool (!(q.c.cU d s).over))∧G.Perm (q.cy b (q.c.cU d s)::F0):=by
 have hm:q.cy b s∈F:=hF.mem_iff.2 (.head _)
 refine eR.vc ?_
 unfold eR.V
 rw[du (n:=d+1) (by omega)]
 unfold PC.cU
 refine⟨fun h=>?_,fun h=>?_⟩
 ·have h:=of_decide_eq_true h
  rw[if_pos (by omega)]
  refine (fe hq 132 hF).mono fun e I2 G l2 ⟨he,hG⟩=>⟨he,G,.refl _,cg.ret (mW (hG.mem_iff.2 (.head _))) fun I3 l3=>⟨_,rfl,G,.refl _,rfl,hG⟩⟩
 ·have h:=of_decide_eq_false h
  rw[if_neg (by omega)]
  exact cg.ret (mW hm) fun I3 l3=>⟨_,rfl,F,.refl _,rfl,hF⟩
theorem uU(hq:q.ok I)(n most:Nat){F F0:b8}(hF:F.Perm (q.cy b s::F0)):cg P 92 #[.pointer (some ⟨b,0,none⟩),.int .i64 n,.int .i64 most] I F fun e1 I' G=>e1=.returned (.bool (!(q.c.many n most s).over))∧G.Perm (q.cy b (q.c.many n most s)::F0):=by
 have hm:q.cy b s∈F:=hF.mem_iff.2 (.head _)
 refine fH.vc ?_
 unfold fH.V
 unfold PC.many
 refine⟨fun h=>?_,fun h=>?_⟩
 ·have h:=of_decide_eq_true h
  rw[if_pos (by omega)]
  refine (fe hq 131 hF).mono fun e I2 G l2 ⟨he,hG⟩=>⟨he,G,.refl _,cg.ret (mW (hG.mem_iff.2 (.head _))) fun I3 l3=>⟨_,rfl,G,.refl _,rfl,hG⟩⟩
 ·have h:=of_decide_eq_false h
  rw[if_neg (by omega)]
  exact cg.ret (mW hm) fun I3 l3=>⟨_,rfl,F,.refl _,rfl,hF⟩
theorem EK(hq:q.ok I){F F0:b8}(hF:F.Perm (q.cy b s::F0)):cg P 54 #[.pointer (some ⟨b,0,none⟩)] I F fun e1 I' G=>e1=.returned (.tuple #[])∧G.Perm (q.cy b (q.c.end s)::F0):=by
 have hm:q.cy b s∈F:=hF.mem_iff.2 (.head _)
 refine fW.vc ?_
 unfold fW.V
 unfold PC.end
 refine cg.ret (mW hm) fun I1 l1=>⟨_,rfl,F,.refl _,fun h=>?_,fun h=>⟨_,rfl,_,PQ.rd hm rfl,_,rfl,_,_,_,PQ.rd hm rfl,fun hn=>?_,fun hn=>⟨_,rfl,_,_,_,PQ.rd hm rfl,_,rfl,_,PQ.rd hm rfl, ?_⟩⟩⟩
 ·rw[if_pos h];exact⟨rfl,hF⟩
 ·have hn:=of_decide_eq_true hn
  rw[if_neg (by simp[h]),if_pos (.inl (by omega))]
  exact (fe (hq.mono l1) 130 hF).mono fun e I2 G l2 ⟨he,hG⟩=>⟨he,G,.refl _,rfl,hG⟩
 ·have hn:=of_decide_eq_false hn
  obtain⟨ad,t,ha,ht,hr⟩:=(hq.mono l1).sl.at (i:=(s.next:Int)) (by omega) (by omega)
  have ht:q.c.l[s.next]? = some t:=ht
  have htk:q.c.tok s.next=t:=by unfold PC.tok;rw[ht];rfl
  refine⟨⟨by omega,by omega⟩,ad,ha,t.kind,(hr _).field (o:=0) rfl,fun h2=>?_,fun h2=>?_⟩
  ·rw[if_neg (by simp[h]),if_pos (.inr (by rw[htk];simpa using h2))]
   exact (fe (hq.mono l1) 130 hF).mono fun e I2 G l2 ⟨he,hG⟩=>⟨he,G,.refl _,rfl,hG⟩
  ·rw[if_neg (by simp[h]),if_neg (by rw[htk];simp at h2;omega)]
   exact⟨rfl,hF⟩
end Go.Lx
namespace Go.Lx
open Go.Vc
def Small(l:List Px):Prop:=∀x∈l,x.size≤1048576
theorem sg(s:ByteArray):(s.toList==(⟨#[]⟩:ByteArray).toList)=(s.toList==[]):=by rw[dB]
theorem FM(d:dG)(hs:Small d.p.nG)(I:cc)(F:b8)(hd:d.Ok I F):cg P 132 #[d.v] I F (dx d.p.check F):=by
 have hs1:=hs d.side.px (by simp[dS.nG,dG.p])
 have hs2:=hs d.qty.px (by simp[dS.nG,dG.p])
 have hs3:=hs d.price.px (by simp[dS.nG,dG.p])
 have hs4:=hs d.value.px (by simp[dS.nG,dG.p])
 have hn:d.p.check=cm (cT d.p.lQ 120) (cm (cT d.p.kr 120) (cm (cT d.p.cY 120) (cm (cN (decide (d.kind=1)) d.side.px) (cm (cN (decide (d.kind=1∨d.kind=2)) d.qty.px)
  (cm (cN (decide (d.kind=1∧d.order≠2∨d.kind=2)) d.price.px) (cN (decide (d.kind=4)) d.value.px)))))):=rfl
 refine tA.vc (fun I' F'=>cc.le I I'∧F'=F∧d.p.check=cm (cT d.p.kr 120) (cm (cT d.p.cY 120) (cm (cN (decide (d.kind=1)) d.side.px) (cm (cN (decide (d.kind=1∨d.kind=2)) d.qty.px)
  (cm (cN (decide (d.kind=1∧d.order≠2∨d.kind=2)) d.price.px) (cN (decide (d.kind=4)) d.value.px))))))
  (fun I' F'=>cc.le I I'∧F'=F∧d.p.check=cm (cT d.p.cY 120) (cm (cN (decide (d.kind=1)) d.side.px) (cm (cN (decide (d.kind=1∨d.kind=2)) d.qty.px)
  (cm (cN (decide (d.kind=1∧d.order≠2∨d.kind=2)) d.price.px) (cN (decide (d.kind=4)) d.value.px)))))
  (fun I' F'=>cc.le I I'∧F'=F∧d.p.check=(cm (cN (decide (d.kind=1)) d.side.px) (cm (cN (decide (d.kind=1∨d.kind=2)) d.qty.px)
  (cm (cN (decide (d.kind=1∧d.order≠2∨d.kind=2)) d.price.px) (cN (decide (d.kind=4)) d.value.px)))))
  (fun I' F'=>cc.le I I'∧F'=F∧d.p.check=((cm (cN (decide (d.kind=1∨d.kind=2)) d.qty.px)
  (cm (cN (decide (d.kind=1∧d.order≠2∨d.kind=2)) d.price.px) (cN (decide (d.kind=4)) d.value.px)))))
  (fun I' F'=>cc.le I I'∧F'=F∧d.p.check=((cm (cN (decide (d.kind=1∧d.order≠2∨d.kind=2)) d.price.px) (cN (decide (d.kind=4)) d.value.px))))
  (fun I' F'=>cc.le I I'∧F'=F∧d.p.check=cN (decide (d.kind=4)) d.value.px) ?_
 unfold tA.V
 intro b_d
 have k1:(d.kind==1)=decide (d.kind=1):=rfl
 have k2:(d.kind==2)=decide (d.kind=2):=rfl
 have k4:(d.kind==4)=decide (d.kind=4):=rfl
 refine⟨⟨fun h=>?_,fun h=>?_⟩,fun I1 F1 hI1 ⟨hl1,hF1,hc1⟩=>?_⟩
 ·have e:d.p.lQ=decide (d.kind≤6):=by
   have h:=of_decide_eq_true h
   unfold dS.lQ;rw[Bool.eq_iff_iff];simp only[decide_eq_true_eq];exact⟨fun h=>h.2,fun h'=>⟨h,h'⟩⟩
  rw[e] at hn
  refine dx.use (c6 _ (by decide) I _) (fun q2 I2 hI2=>.inl ⟨rfl,_,.refl _, ?_⟩) (fun q2 I2 hI2=>.inr ⟨_,rfl,_,.refl _, ?_⟩)
  ·rw[q2,cw] at hn
   exact⟨hI2,rfl,hn⟩
  ·exact .fail hn q2
 ·have e:d.p.lQ=false:=by
   have h:=of_decide_eq_false h
   exact decide_eq_false fun h'=>h h'.1
  rw[e] at hn
  refine dx.use (c6 _ (by decide) I _) (fun q2 I2 hI2=>.inl ⟨rfl,_,.refl _, ?_⟩) (fun q2 I2 hI2=>.inr ⟨_,rfl,_,.refl _, ?_⟩)
  ·cases q2
  ·exact .fail hn q2
 subst hF1
 clear hn
 refine⟨?_,fun I2 F2 hI2 ⟨hl2,hF2,hc2⟩=>?_⟩
 ·have key:∀b:Bool,b=d.p.kr→cg P 98 #[.bool b,.int .i64 120] I1 ((b_d,Obj.cells #[.int .u8 d.kind,.int .u8 d.order,.string d.name,.int .u8 d.side.kind,.int .u8 d.side.oper,.int .u8 d.side.cx,.int .i64 d.side.n,.int .u8 d.side.field,.string d.side.name,.slice d.side.a d.side.kids.length d.side.c,.int .i64 d.side.pos,.int .u8 d.qty.kind,.int .u8 d.qty.oper,.int .u8 d.qty.cx,.int .i64 d.qty.n,.int .u8 d.qty.field,.string d.qty.name,.slice d.qty.a d.qty.kids.length d.qty.c,.int .i64 d.qty.pos,.int .u8 d.price.kind,.int .u8 d.price.oper,.int .u8 d.price.cx,.int .i64 d.price.n,.int .u8 d.price.field,.string d.price.name,.slice d.price.a d.price.kids.length d.price.c,.int .i64 d.price.pos,.int .u8 d.value.kind,.int .u8 d.value.oper,.int .u8 d.value.cx,.int .i64 d.value.n,.int .u8 d.value.field,.string d.value.name,.slice d.value.a d.value.kids.length d.value.c,.int .i64 d.value.pos,.int .i64 d.pos] 99 (0,0))::F1) fun e1 I2 G1=>(e1=.returned (.tuple #[])∧∃F1':b8,List.Perm G1 ((b_d,Obj.cells #[.int .u8 d.kind,.int .u8 d.order,.string d.name,.int .u8 d.side.kind,.int .u8 d.side.oper,.int .u8 d.side.cx,.int .i64 d.side.n,.int .u8 d.side.field,.string d.side.name,.slice d.side.a d.side.kids.length d.side.c,.int .i64 d.side.pos,.int .u8 d.qty.kind,.int .u8 d.qty.oper,.int .u8 d.qty.cx,.int .i64 d.qty.n,.int .u8 d.qty.field,.string d.qty.name,.slice d.qty.a d.qty.kids.length d.qty.c,.int .i64 d.qty.pos,.int .u8 d.price.kind,.int .u8 d.price.oper,.int .u8 d.price.cx,.int .i64 d.price.n,.int .u8 d.price.field,.string d.price.name,.slice d.price.a d.price.kids.length d.price.c,.int .i64 d.price.pos,.int .u8 d.value.kind,.int .u8 d.value.oper,.int .u8 d.value.cx,.int .i64 d.value.n,.int .u8 d.value.field,.string d.value.name,.slice d.value.a d.value.kids.length d.value.c,.int .i64 d.value.pos,.int .i64 d.pos] 99 (0,0))::F1')∧(cc.le I I2∧F1'=F1∧d.p.check=cm (cT d.p.cY 120) (cm (cN (decide (d.kind=1)) d.side.px) (cm (cN (decide (d.kind=1∨d.kind=2)) d.qty.px)
    (cm (cN (decide (d.kind=1∧d.order≠2∨d.kind=2)) d.price.px) (cN (decide (d.kind=4)) d.value.px))))))∨(∃ch:List PanicEntry,e1=.panicked ch∧∃F2:b8,List.Perm G1 ((b_d,Obj.cells #[.int .u8 d.kind,.int .u8 d.order,.string d.name,.int .u8 d.side.kind,.int .u8 d.side.oper,.int .u8 d.side.cx,.int .i64 d.side.n,.int .u8 d.side.field,.string d.side.name,.slice d.side.a d.side.kids.length d.side.c,.int .i64 d.side.pos,.int .u8 d.qty.kind,.int .u8 d.qty.oper,.int .u8 d.qty.cx,.int .i64 d.qty.n,.int .u8 d.qty.field,.string d.qty.name,.slice d.qty.a d.qty.kids.length d.qty.c,.int .i64 d.qty.pos,.int .u8 d.price.kind,.int .u8 d.price.oper,.int .u8 d.price.cx,.int .i64 d.price.n,.int .u8 d.price.field,.string d.price.name,.slice d.price.a d.price.kids.length d.price.c,.int .i64 d.price.pos,.int .u8 d.value.kind,.int .u8 d.value.oper,.int .u8 d.value.cx,.int .i64 d.value.n,.int .u8 d.value.field,.string d.value.name,.slice d.value.a d.value.kids.length d.value.c,.int .i64 d.value.pos,.int .i64 d.pos] 99 (0,0))::F2)∧dx d.p.check F1 (.panicked ch) I2 F2):=fun b hb=>by
   subst hb
   refine dx.use (c6 _ (by decide) I1 _) (fun q2 I2 hI2=>.inl ⟨rfl,_,.refl _, ?_⟩) (fun q2 I2 hI2=>.inr ⟨_,rfl,_,.refl _, ?_⟩)
   ·rw[q2,cw] at hc1
    exact⟨cc.le_trans hl1 hI2,rfl,hc1⟩
   ·exact .fail hc1 q2
  have eo:d.p.kr=decide (d.kind=1∧1≤d.order∧d.order≤5∨d.kind≠1∧d.order=0):=rfl
  refine⟨fun h=>⟨fun h2=>⟨fun h3=>key _ ?_,fun h3=>⟨fun h4=>key _ ?_,fun h4=>key _ ?_⟩⟩,fun h2=>⟨fun h4=>key _ ?_,fun h4=>key _ ?_⟩⟩,fun h=>⟨fun h4=>key _ ?_,fun h4=>key _ ?_⟩⟩
  all_goals
   rw[eo,Bool.eq_iff_iff]
   simp only[decide_eq_true_eq,decide_eq_false_iff_not,beq_iff_eq,beq_eq_false_iff_ne,Bool.not_eq_true',Bool.not_eq_false',iff_true,true_iff,false_iff,Bool.false_eq_true] at *
   omega
 subst hF2
 clear hc1
 have en:d.p.cY=if d.kind=6 then d.name.toList==[] else if d.kind≠1∨d.name.toList≠[] then Lx.cY d.name else true:=rfl
 refine⟨⟨fun h=>?_,fun h=>⟨fun h2=>?_,fun h2=>⟨fun h3=>?_,fun h3=>?_⟩⟩⟩,fun I3 F3 hI3 ⟨hl3,hF3,hc3⟩=>?_⟩
 ·have h:d.kind=6:=by simpa using h
  rw[if_pos h] at en
  rw[sg,←en]
  refine dx.use (c6 _ (by decide) I2 _) (fun q3 I3 hI3=>.inl ⟨rfl,_,.refl _, ?_⟩) (fun q3 I3 hI3=>.inr ⟨_,rfl,_,.refl _, ?_⟩)
  ·rw[q3,cw] at hc2;exact⟨cc.le_trans hl2 hI3,rfl,hc2⟩
  ·exact .fail hc2 q3
 ·have h:d.kind≠6:=by simpa using h
  have h2:d.kind≠1:=by simpa using h2
  rw[if_neg h,if_pos (.inl h2)] at en
  refine dx.use (iS d.name I2 _) (fun q3 I3 hI3=>.inl ⟨rfl,_,.refl _, ?_⟩) (fun q3 I3 hI3=>.inr ⟨_,rfl,_,.refl _, ?_⟩)
  ·rw[en,q3,cw] at hc2;exact⟨cc.le_trans hl2 hI3,rfl,hc2⟩
  ·rw[en] at hc2;exact .fail hc2 q3
 ·have h:d.kind≠6:=by simpa using h
  rw[sg] at h3
  rw[if_neg h,if_pos (.inr (by simpa using h3))] at en
  refine dx.use (iS d.name I2 _) (fun q3 I3 hI3=>.inl ⟨rfl,_,.refl _, ?_⟩) (fun q3 I3 hI3=>.inr ⟨_,rfl,_,.refl _, ?_⟩)
  ·rw[en,q3,cw] at hc2;exact⟨cc.le_trans hl2 hI3,rfl,hc2⟩
  ·rw[en] at hc2;exact .fail hc2 q3
 ·have h:d.kind≠6:=by simpa using h
  have h2:d.kind=1:=by simpa using h2
  rw[sg] at h3
  have h3:d.name.toList=[]:=by simpa using h3
  rw[if_neg h,if_neg (by simp[h2,h3])] at en
  rw[en] at hc2
  exact⟨hl2,rfl,hc2⟩
 subst hF3
 clear hc2 en
 have ok:∀{J:cc},cc.le I J→d.Ok J ((b_d,Obj.cells #[.int .u8 d.kind,.int .u8 d.order,.string d.name,.int .u8 d.side.kind,.int .u8 d.side.oper,.int .u8 d.side.cx,.int .i64 d.side.n,.int .u8 d.side.field,.string d.side.name,.slice d.side.a d.side.kids.length d.side.c,.int .i64 d.side.pos,.int .u8 d.qty.kind,.int .u8 d.qty.oper,.int .u8 d.qty.cx,.int .i64 d.qty.n,.int .u8 d.qty.field,.string d.qty.name,.slice d.qty.a d.qty.kids.length d.qty.c,.int .i64 d.qty.pos,.int .u8 d.price.kind,.int .u8 d.price.oper,.int .u8 d.price.cx,.int .i64 d.price.n,.int .u8 d.price.field,.string d.price.name,.slice d.price.a d.price.kids.length d.price.c,.int .i64 d.price.pos,.int .u8 d.value.kind,.int .u8 d.value.oper,.int .u8 d.value.cx,.int .i64 d.value.n,.int .u8 d.value.field,.string d.value.name,.slice d.value.a d.value.kids.length d.value.c,.int .i64 d.value.pos,.int .i64 d.pos] 99 (0,0))::F3):=fun hJ=>(hd.mono hJ fun _ h=>h).cons
 refine⟨?_,fun I4 F4 hI4 ⟨hl4,hF4,hc4⟩=>?_⟩
 ·rw[k1]
  refine dx.use (oQ _ d.side hs1 I3 _ (ok hl3).1) (fun q4 I4 hI4=>.inl ⟨rfl,_,.refl _, ?_⟩) (fun q4 I4 hI4=>.inr ⟨_,rfl,_,.refl _, ?_⟩)
  ·rw[q4,cw] at hc3;exact⟨cc.le_trans hl3 hI4,rfl,hc3⟩
  ·exact .fail hc3 q4
 subst hF4
 refine⟨?_,fun I5 F5 hI5 ⟨hl5,hF5,hc5⟩=>?_⟩
 ·have key:∀b:Bool,b=decide (d.kind=1∨d.kind=2)→cg P 150 #[.bool b,d.qty.v] I4 ((b_d,Obj.cells #[.int .u8 d.kind,.int .u8 d.order,.string d.name,.int .u8 d.side.kind,.int .u8 d.side.oper,.int .u8 d.side.cx,.int .i64 d.side.n,.int .u8 d.side.field,.string d.side.name,.slice d.side.a d.side.kids.length d.side.c,.int .i64 d.side.pos,.int .u8 d.qty.kind,.int .u8 d.qty.oper,.int .u8 d.qty.cx,.int .i64 d.qty.n,.int .u8 d.qty.field,.string d.qty.name,.slice d.qty.a d.qty.kids.length d.qty.c,.int .i64 d.qty.pos,.int .u8 d.price.kind,.int .u8 d.price.oper,.int .u8 d.price.cx,.int .i64 d.price.n,.int .u8 d.price.field,.string d.price.name,.slice d.price.a d.price.kids.length d.price.c,.int .i64 d.price.pos,.int .u8 d.value.kind,.int .u8 d.value.oper,.int .u8 d.value.cx,.int .i64 d.value.n,.int .u8 d.value.field,.string d.value.name,.slice d.value.a d.value.kids.length d.value.c,.int .i64 d.value.pos,.int .i64 d.pos] 99 (0,0))::F4) fun e1 I2 G1=>(e1=.returned (.tuple #[])∧∃F1':b8,List.Perm G1 ((b_d,Obj.cells #[.int .u8 d.kind,.int .u8 d.order,.string d.name,.int .u8 d.side.kind,.int .u8 d.side.oper,.int .u8 d.side.cx,.int .i64 d.side.n,.int .u8 d.side.field,.string d.side.name,.slice d.side.a d.side.kids.length d.side.c,.int .i64 d.side.pos,.int .u8 d.qty.kind,.int .u8 d.qty.oper,.int .u8 d.qty.cx,.int .i64 d.qty.n,.int .u8 d.qty.field,.string d.qty.name,.slice d.qty.a d.qty.kids.length d.qty.c,.int .i64 d.qty.pos,.int .u8 d.price.kind,.int .u8 d.price.oper,.int .u8 d.price.cx,.int .i64 d.price.n,.int .u8 d.price.field,.string d.price.name,.slice d.price.a d.price.kids.length d.price.c,.int .i64 d.price.pos,.int .u8 d.value.kind,.int .u8 d.value.oper,.int .u8 d.value.cx,.int .i64 d.value.n,.int .u8 d.value.field,.string d.value.name,.slice d.value.a d.value.kids.length d.value.c,.int .i64 d.value.pos,.int .i64 d.pos] 99 (0,0))::F1')∧(cc.le I I2∧F1'=F4∧d.p.check =
    (cm (cN (decide (d.kind=1∧d.order≠2∨d.kind=2)) d.price.px) (cN (decide (d.kind=4)) d.value.px))))∨(∃ch:List PanicEntry,e1=.panicked ch∧∃F2:b8,List.Perm G1 ((b_d,Obj.cells #[.int .u8 d.kind,.int .u8 d.order,.string d.name,.int .u8 d.side.kind,.int .u8 d.side.oper,.int .u8 d.side.cx,.int .i64 d.side.n,.int .u8 d.side.field,.string d.side.name,.slice d.side.a d.side.kids.length d.side.c,.int .i64 d.side.pos,.int .u8 d.qty.kind,.int .u8 d.qty.oper,.int .u8 d.qty.cx,.int .i64 d.qty.n,.int .u8 d.qty.field,.string d.qty.name,.slice d.qty.a d.qty.kids.length d.qty.c,.int .i64 d.qty.pos,.int .u8 d.price.kind,.int .u8 d.price.oper,.int .u8 d.price.cx,.int .i64 d.price.n,.int .u8 d.price.field,.string d.price.name,.slice d.price.a d.price.kids.length d.price.c,.int .i64 d.price.pos,.int .u8 d.value.kind,.int .u8 d.value.oper,.int .u8 d.value.cx,.int .i64 d.value.n,.int .u8 d.value.field,.string d.value.name,.slice d.value.a d.value.kids.length d.value.c,.int .i64 d.value.pos,.int .i64 d.pos] 99 (0,0))::F2)∧dx d.p.check F4 (.panicked ch) I2 F2):=fun b hb=>by
   subst hb
   refine dx.use (oQ _ d.qty hs2 I4 _ (ok hl4).2.1) (fun q5 I5 hI5=>.inl ⟨rfl,_,.refl _, ?_⟩) (fun q5 I5 hI5=>.inr ⟨_,rfl,_,.refl _, ?_⟩)
   ·rw[q5,cw] at hc4;exact⟨cc.le_trans hl4 hI5,rfl,hc4⟩
   ·exact .fail hc4 q5
  refine⟨fun h=>key _ ?_,fun h=>key _ ?_⟩
  ·simp only[beq_iff_eq] at h;simp[h]
  ·simp only[beq_eq_false_iff_ne] at h;rw[Bool.eq_iff_iff];simp[h]
 subst hF5
 refine⟨?_,fun I6 F6 hI6 ⟨hl6,hF6,hc6⟩=>?_⟩
 ·have key:∀b:Bool,b=decide (d.kind=1∧d.order≠2∨d.kind=2)→cg P 150 #[.bool b,d.price.v] I5 ((b_d,Obj.cells #[.int .u8 d.kind,.int .u8 d.order,.string d.name,.int .u8 d.side.kind,.int .u8 d.side.oper,.int .u8 d.side.cx,.int .i64 d.side.n,.int .u8 d.side.field,.string d.side.name,.slice d.side.a d.side.kids.length d.side.c,.int .i64 d.side.pos,.int .u8 d.qty.kind,.int .u8 d.qty.oper,.int .u8 d.qty.cx,.int .i64 d.qty.n,.int .u8 d.qty.field,.string d.qty.name,.slice d.qty.a d.qty.kids.length d.qty.c,.int .i64 d.qty.pos,.int .u8 d.price.kind,.int .u8 d.price.oper,.int .u8 d.price.cx,.int .i64 d.price.n,.int .u8 d.price.field,.string d.price.name,.slice d.price.a d.price.kids.length d.price.c,.int .i64 d.price.pos,.int .u8 d.value.kind,.int .u8 d.value.oper,.int .u8 d.value.cx,.int .i64 d.value.n,.int .u8 d.value.field,.string d.value.name,.slice d.value.a d.value.kids.length d.value.c,.int .i64 d.value.pos,.int .i64 d.pos] 99 (0,0))::F5) fun e1 I2 G1=>(e1=.returned (.tuple #[])∧∃F1':b8,List.Perm G1 ((b_d,Obj.cells #[.int .u8 d.kind,.int .u8 d.order,.string d.name,.int .u8 d.side.kind,.int .u8 d.side.oper,.int .u8 d.side.cx,.int .i64 d.side.n,.int .u8 d.side.field,.string d.side.name,.slice d.side.a d.side.kids.length d.side.c,.int .i64 d.side.pos,.int .u8 d.qty.kind,.int .u8 d.qty.oper,.int .u8 d.qty.cx,.int .i64 d.qty.n,.int .u8 d.qty.field,.string d.qty.name,.slice d.qty.a d.qty.kids.length d.qty.c,.int .i64 d.qty.pos,.int .u8 d.price.kind,.int .u8 d.price.oper,.int .u8 d.price.cx,.int .i64 d.price.n,.int .u8 d.price.field,.string d.price.name,.slice d.price.a d.price.kids.length d.price.c,.int .i64 d.price.pos,.int .u8 d.value.kind,.int .u8 d.value.oper,.int .u8 d.value.cx,.int .i64 d.value.n,.int .u8 d.value.field,.string d.value.name,.slice d.value.a d.value.kids.length d.value.c,.int .i64 d.value.pos,.int .i64 d.pos] 99 (0,0))::F1')∧(cc.le I I2∧F1'=F5∧d.p.check =
    cN (decide (d.kind=4)) d.value.px))∨(∃ch:List PanicEntry,e1=.panicked ch∧∃F2:b8,List.Perm G1 ((b_d,Obj.cells #[.int .u8 d.kind,.int .u8 d.order,.string d.name,.int .u8 d.side.kind,.int .u8 d.side.oper,.int .u8 d.side.cx,.int .i64 d.side.n,.int .u8 d.side.field,.string d.side.name,.slice d.side.a d.side.kids.length d.side.c,.int .i64 d.side.pos,.int .u8 d.qty.kind,.int .u8 d.qty.oper,.int .u8 d.qty.cx,.int .i64 d.qty.n,.int .u8 d.qty.field,.string d.qty.name,.slice d.qty.a d.qty.kids.length d.qty.c,.int .i64 d.qty.pos,.int .u8 d.price.kind,.int .u8 d.price.oper,.int .u8 d.price.cx,.int .i64 d.price.n,.int .u8 d.price.field,.string d.price.name,.slice d.price.a d.price.kids.length d.price.c,.int .i64 d.price.pos,.int .u8 d.value.kind,.int .u8 d.value.oper,.int .u8 d.value.cx,.int .i64 d.value.n,.int .u8 d.value.field,.string d.value.name,.slice d.value.a d.value.kids.length d.value.c,.int .i64 d.value.pos,.int .i64 d.pos] 99 (0,0))::F2)∧dx d.p.check F5 (.panicked ch) I2 F2):=fun b hb=>by
   subst hb
   refine dx.use (oQ _ d.price hs3 I5 _ (ok hl5).2.2.1) (fun q6 I6 hI6=>.inl ⟨rfl,_,.refl _, ?_⟩) (fun q6 I6 hI6=>.inr ⟨_,rfl,_,.refl _, ?_⟩)
   ·rw[q6,cw] at hc5;exact⟨cc.le_trans hl5 hI6,rfl,hc5⟩
   ·exact .fail hc5 q6
  refine⟨fun h=>⟨fun h2=>key _ ?_,fun h2=>key _ ?_⟩,fun h=>key _ ?_⟩
  all_goals simp only[beq_iff_eq,beq_eq_false_iff_ne,bne_iff_ne,bne_eq_false_iff_eq] at *
  ·simp[h,h2]
  ·rw[Bool.eq_iff_iff];simp[h,h2]
  ·rw[Bool.eq_iff_iff];simp[h]
 subst hF6
 rw[k4]
 refine dx.use (oQ _ d.value hs4 I6 _ (ok hl6).2.2.2) (fun q7 I7 hI7=>.inl ⟨rfl,_,.refl _, ?_⟩) (fun q7 I7 hI7=>.inr ⟨_,rfl,_,.refl _, ?_⟩)
 ·rw[q7] at hc6;exact .done hc6
 ·exact .nX hc6 q7
theorem dq{α β:Type}(f:β→Int)(g:α→β){l:List α}{i:Nat}{x:α}(h:l[i]? = some x):cD f ((l.drop i).map g)=cm (f (g x)) (cD f ((l.drop (i+1)).map g)):=by
 obtain⟨hk,rfl⟩:=List.getElem?_eq_some_iff.1 h
 rw[List.drop_eq_getElem_cons hk,List.map_cons,cD]
theorem dL{α β:Type}(f:β→Int)(g:α→β){l:List α}{i:Nat}(h:l.length≤i):cD f ((l.drop i).map g)=0:=by rw[List.drop_eq_nil_of_le h];rfl
theorem dy.j3{α:Type}{I:cc}{G:b8}{z:Nat}{f:α→List Value}{a:Option Addr}{n:Nat}{l:List α}(h:dy I G z f a n l){i:Int}(h0:0≤i)(h1:i<n) :
  ∃ad x,a=some ad∧l[i.toNat]? = some x∧Rd I G (ad.add (Int.toNat i*z)) (f x)∧x∈l:=by
 obtain⟨ad,x,g1,g2,g3⟩:=h.at h0 h1
 exact⟨ad,x,g1,g2,g3,List.mem_of_getElem? g2⟩
theorem Dp(r:cr)(hs:Small r.p.nG)(I:cc)(F:b8)(hr:r.Ok I F)(hlen:r.dos.length≤1000000000):cg P 106 #[r.v] I F (dx r.p.check F):=by
 have hsw:=hs r.when.px (by simp[cM.nG,cr.p])
 have hsd:∀d∈r.dos,Small d.p.nG:=fun d hd x hx=>hs x (by
  simp only[cM.nG,cr.p,List.mem_cons,List.mem_flatMap,List.mem_map]
  exact .inr ⟨_,⟨d,hd,rfl⟩,hx⟩)
 have hc:r.p.check=cm r.when.px.db (cm (cT (decide (0<r.dos.length)) 120) (cm (cT (decide (r.dos.length≤8)) 121) (cD dS.check (r.dos.map dG.p)))):=by
  show cm _ (cm (cT (decide (0<(r.dos.map dG.p).length)) 120) (cm (cT (decide ((r.dos.map dG.p).length≤8)) 121) _))=_
  rw[List.length_map];rfl
 refine oP.vc (fun i m I' F'=>0≤i∧i≤r.dos.length∧m=(r.dos.length-i).toNat∧cc.le I I'∧F'=F∧r.p.check=cD dS.check ((r.dos.drop i.toNat).map dG.p)) ?_
 unfold oP.V
 intro b_r
 refine dx.use (wP r.when hsw I _ hr.1.cons) (fun q1 I1 hI1=>.inl ⟨rfl,_,.refl _, ?_⟩) (fun q1 I1 hI1=>.inr ⟨_,rfl,_,.refl _, ?_⟩)
 ·rw[q1,cw] at hc
  have e1:decide (((r.dos.length:Nat):Int)>0)=decide (0<r.dos.length):=by rw[Bool.eq_iff_iff];simp only[decide_eq_true_eq];omega
  have e2:decide (((r.dos.length:Nat):Int)≤8)=decide (r.dos.length≤8):=by rw[Bool.eq_iff_iff];simp only[decide_eq_true_eq];omega
  rw[e1,e2]
  refine dx.use (c6 _ (by decide) I1 _) (fun q2 I2 hI2=>.inl ⟨rfl,_,.refl _, ?_⟩) (fun q2 I2 hI2=>.inr ⟨_,rfl,_,.refl _, ?_⟩)
  ·rw[q2,cw] at hc
   refine dx.use (c6 _ (by decide) I2 _) (fun q3 I3 hI3=>.inl ⟨rfl,_,.refl _, ?_⟩) (fun q3 I3 hI3=>.inr ⟨_,rfl,_,.refl _, ?_⟩)
   ·rw[q3,cw] at hc
    refine⟨⟨_,by omega,by omega,rfl,cc.le_trans hI1 (cc.le_trans hI2 hI3),rfl,hc⟩,fun i m I4 F4 hI4 ⟨g0,g1,gm,hl,hF,gc⟩=>⟨fun hlt=>?_,fun hlt=>?_⟩⟩
    ·have hlt:=of_decide_eq_true hlt
     subst hF
     have hr4:=(hr.mono hl fun _ h=>h).cons (x:=(b_r,Obj.cells #[.int .u8 r.when.kind,.int .u8 r.when.oper,.int .u8 r.when.cx,.int .i64 r.when.n,.int .u8 r.when.field,.string r.when.name,.slice r.when.a r.when.kids.length r.when.c,.int .i64 r.when.pos,.slice r.a r.dos.length r.c,.int .i64 r.pos] 84 (0,0)))
     obtain⟨ad,d,had,hd,hrd,hdm⟩:=dy.j3 hr4.2.1 g0 hlt
     refine⟨⟨g0,hlt⟩,ad,had,_,_,_,_,_,_,_,_,_,_,_,_,_,_,_,_,_,_,_,_,_,_,_,_,_,_,_,_,_,_,_,_,_,_,_,_,_,_,_,_,_,_,_,_,hrd,fun b_d=>?_⟩
     rw[dq _ _ hd] at gc
     have hd4:d.Ok I4 ((b_r,Obj.cells #[.int .u8 r.when.kind,.int .u8 r.when.oper,.int .u8 r.when.cx,.int .i64 r.when.n,.int .u8 r.when.field,.string r.when.name,.slice r.when.a r.when.kids.length r.when.c,.int .i64 r.when.pos,.slice r.a r.dos.length r.c,.int .i64 r.pos] 84 (0,0))::(b_d,Obj.cells #[.int .u8 d.kind,.int .u8 d.order,.string d.name,.int .u8 d.side.kind,.int .u8 d.side.oper,.int .u8 d.side.cx,.int .i64 d.side.n,.int .u8 d.side.field,.string d.side.name,.slice d.side.a d.side.kids.length d.side.c,.int .i64 d.side.pos,.int .u8 d.qty.kind,.int .u8 d.qty.oper,.int .u8 d.qty.cx,.int .i64 d.qty.n,.int .u8 d.qty.field,.string d.qty.name,.slice d.qty.a d.qty.kids.length d.qty.c,.int .i64 d.qty.pos,.int .u8 d.price.kind,.int .u8 d.price.oper,.int .u8 d.price.cx,.int .i64 d.price.n,.int .u8 d.price.field,.string d.price.name,.slice d.price.a d.price.kids.length d.price.c,.int .i64 d.price.pos,.int .u8 d.value.kind,.int .u8 d.value.oper,.int .u8 d.value.cx,.int .i64 d.value.n,.int .u8 d.value.field,.string d.value.name,.slice d.value.a d.value.kids.length d.value.c,.int .i64 d.value.pos,.int .i64 d.pos] 99 (0,0))::F4):=((hr.2.2 d hdm).mono hl fun _ h=>h).cons.cons
     refine dx.use (FM d (hsd d hdm) I4 _ hd4) (fun q5 I5 hI5=>.inl ⟨rfl,_,.refl _, ?_⟩) (fun q5 I5 hI5=>.inr ⟨_,rfl,_,.refl _, ?_⟩)
     ·rw[q5,cw] at gc
      refine⟨(r.dos.length-(i+1)).toNat,by omega, ?_⟩
      rw[du (n:=i+1) (by omega)]
      exact⟨by omega,by omega,rfl,cc.le_trans hl hI5,rfl,by rw[gc,show (i+1).toNat=i.toNat+1 by omega]⟩
     ·exact .fail gc q5
    ·have hlt:=of_decide_eq_false hlt
     subst hF
     rw[dL _ _ (by omega)] at gc
     exact .done gc
   ·exact .fail hc q3
  ·exact .fail hc q2
 ·exact .fail hc q1
structure cB.FN (s:cB):Prop where
 regs:s.regs.length≤1000000000
 slots:s.slots.length≤1000000000
 cd:s.cd.length≤1000000000
 rules:∀x∈s.cd,x.rules.length≤1000000000
 dos:∀x∈s.cd,∀r∈x.rules,r.dos.length≤1000000000
theorem xM(s:cB)(hs:Small s.p.nG)(hl:s.FN)(I:cc)(F:b8)(hok:s.Ok I F){c:Addr}(hc:Rd I F c s.enc):cg P 103 #[.pointer (some c)] I F (dx s.p.check F):=by
 have hsr:∀r∈s.regs,r.init.px.size≤1048576:=fun r hr=>hs _ (by
  simp only[cu.nG,cB.p,List.mem_append,List.mem_map]
  exact .inl ⟨_,⟨r,hr,rfl⟩,rfl⟩)
 have hss:∀x∈s.cd,∀r∈x.rules,Small r.p.nG:=fun x hx r hr y hy=>hs y (by
  simp only[cu.nG,cB.p,List.mem_append,List.mem_flatMap,List.mem_map]
  exact .inr ⟨_,⟨x,hx,rfl⟩,_,by simp only[cj.p,List.mem_map];exact⟨r,hr,rfl⟩,hy⟩)
 have hck:s.p.check=cm (cT (cY s.name) 120) (cm (cT (decide (s.regs.length≤12)) 121) (cm (cD dg.check (s.regs.map cJ.p)) (cm (cT (decide (s.slots.length≤4)) 121) (cm (cD cI.check s.slots)
   (cm (cT (decide (0<s.cd.length)) 120) (cm (cT (decide (s.cd.length≤12)) 121) (cD cq.check (s.cd.map cj.p)))))))):=by
  show cm _ (cm (cT (decide ((s.regs.map cJ.p).length≤12)) 121) (cm _ (cm _ (cm _ (cm (cT (decide (0<(s.cd.map cj.p).length)) 120) (cm (cT (decide ((s.cd.map cj.p).length≤12)) 121) _))))))=_
  rw[List.length_map,List.length_map];rfl
 refine jQ.vc
  (fun i m _ _ I' F'=>0≤i∧i≤s.regs.length∧m=(s.regs.length-i).toNat∧cc.le I I'∧F'=F∧s.p.check=cm (cD dg.check ((s.regs.drop i.toNat).map cJ.p)) (cm (cT (decide (s.slots.length≤4)) 121) (cm (cD cI.check s.slots)
    (cm (cT (decide (0<s.cd.length)) 120) (cm (cT (decide (s.cd.length≤12)) 121) (cD cq.check (s.cd.map cj.p)))))))
  (fun i m _ _ I' F'=>0≤i∧i≤s.slots.length∧m=(s.slots.length-i).toNat∧cc.le I I'∧F'=F∧s.p.check=cm (cD cI.check ((s.slots.drop i.toNat).map id))
    (cm (cT (decide (0<s.cd.length)) 120) (cm (cT (decide (s.cd.length≤12)) 121) (cD cq.check (s.cd.map cj.p)))))
  (fun i m _ _ I' F'=>0≤i∧i≤s.cd.length∧m=(s.cd.length-i).toNat∧cc.le I I'∧F'=F∧s.p.check=cD cq.check ((s.cd.drop i.toNat).map cj.p))
  (fun i j n _ _ I' F'=>cc.le I I'∧F'=F∧0≤j∧∃x:cj,s.cd[i.toNat]? = some x∧j≤x.rules.length∧n=(x.rules.length-j).toNat∧s.p.check=cm (cD cM.check ((x.rules.drop j.toNat).map cr.p)) (cD cq.check ((s.cd.drop (i.toNat+1)).map cj.p))) ?_
 unfold jQ.V
 have rd:∀{J:cc},cc.le I J→∀(o:Nat) (v:Value),s.enc[o]? = some v→Rd J F (c.add o) [v]:=fun hJ o v hv=>(hc.sub hJ fun _ h=>h).field hv
 have ok:∀{J:cc},cc.le I J→s.Ok J F:=fun hJ=>hok.mono hJ fun _ h=>h
 have e12:∀n:Nat,decide ((n:Int)≤12)=decide (n≤12):=fun n=>by rw[Bool.eq_iff_iff];simp only[decide_eq_true_eq];omega
 have e4:∀n:Nat,decide ((n:Int)≤4)=decide (n≤4):=fun n=>by rw[Bool.eq_iff_iff];simp only[decide_eq_true_eq];omega
 have e0:∀n:Nat,decide ((n:Int)>0)=decide (0<n):=fun n=>by rw[Bool.eq_iff_iff];simp only[decide_eq_true_eq];omega
 have hlr:=hl.regs
 have hls:=hl.slots
 have hlt':=hl.cd
 refine⟨s.name,rd (cc.le_refl I) 0 _ rfl,dx.use (iS s.name I _) (fun q1 I1 hI1=>.inl ⟨rfl,_,.refl _, ?_⟩) (fun q1 I1 hI1=>.inr ⟨_,rfl,_,.refl _, ?_⟩)⟩
 case refine_2=>exact .fail hck q1
 rw[q1,cw] at hck
 refine⟨_,_,_,rd hI1 1 _ rfl, ?_⟩
 rw[e12]
 refine dx.use (c6 _ (by decide) I1 _) (fun q2 I2 hI2=>.inl ⟨rfl,_,.refl _, ?_⟩) (fun q2 I2 hI2=>.inr ⟨_,rfl,_,.refl _, ?_⟩)
 case refine_2=>exact .fail hck q2
 rw[q2,cw] at hck
 have hl2:=cc.le_trans hI1 hI2
 refine⟨_,_,_,rd hl2 1 _ rfl,⟨_,by omega,by omega,rfl,hl2,rfl,hck⟩, ?_⟩
 clear hck
 intro i m I3 F3 hI3 ⟨g0,g1,gm,hl3,hF3,gc⟩
 subst hF3
 refine⟨fun hlt=>?_,fun hlt=>?_⟩
 ·have hlt:=of_decide_eq_true hlt
  obtain⟨ad,r,had,hr,hrd,hrm⟩:=dy.j3 (ok hl3).regs g0 hlt
  rw[dq _ _ hr,jw] at gc
  have rc:r.p.check=cT (cY r.name&&(decide (1≤r.cx∧r.cx≤6)&&(r.init.px.formed&&r.init.px.mN))) 120:=rfl
  refine⟨⟨g0,hlt⟩,ad,had,_,_,_,_,_,_,_,_,_,_,_,_,_,hrd,fun b_r=>dx.use (iS r.name I3 _) (fun q4 I4 hI4=>.inl ⟨rfl,_,.refl _, ?_⟩) (fun q4 I4 hI4=>.inr ⟨_,rfl,_,.refl _, ?_⟩)⟩
  ·have h4:=oR (by decide) q4
   rw[h4,Bool.true_and] at rc
   have bad:(decide (1≤r.cx∧r.cx≤6))=false→s.p.check=cm 120 (cm (cD dg.check ((s.regs.drop (i.toNat+1)).map cJ.p)) (cm (cT (decide (s.slots.length≤4)) 121) (cm (cD cI.check s.slots)
     (cm (cT (decide (0<s.cd.length)) 120) (cm (cT (decide (s.cd.length≤12)) 121) (cD cq.check (s.cd.map cj.p))))))):=fun h=>by
    rw[gc,rc,h];rfl
   refine⟨fun h1=>?_,fun h1=>?_⟩
   ·have h1:=of_decide_eq_true h1
    refine dx.use (c6 _ (by decide) I4 _) (fun q5 I5 hI5=>.inl ⟨rfl,_,.refl _, ?_⟩) (fun q5 I5 hI5=>.inr ⟨_,rfl,_,.refl _, ?_⟩)
    ·have h5:=of_decide_eq_true (oR (by decide) q5)
     rw[decide_eq_true ⟨h1,h5⟩,Bool.true_and] at rc
     have hl5:=cc.le_trans hl3 (cc.le_trans hI4 hI5)
     refine dx.use (Bd r.init (hsr r hrm) I5 _ (((ok hl5).eX r hrm:cH _ _ _).cons)) (fun q6 I6 hI6=>.inl ⟨rfl,_,.refl _, ?_⟩) (fun q6 I6 hI6=>.inr ⟨_,rfl,_,.refl _, ?_⟩)
     ·rw[rc,q6,cw] at gc
      refine⟨(s.regs.length-(i+1)).toNat,by omega, ?_⟩
      rw[du (n:=i+1) (by omega)]
      exact⟨by omega,by omega,rfl,cc.le_trans hl5 hI6,rfl,by rw[gc,show (i+1).toNat=i.toNat+1 by omega]⟩
     ·rw[rc] at gc;exact .fail gc q6
    ·have h5:=(oS q5).1
     have h6:=(oS q5).2
     rw[h6] at q5 ⊢
     exact .fail (bad (decide_eq_false fun h=>by rw[decide_eq_true h.2] at h5;cases h5)) q5
   ·have h1:=of_decide_eq_false h1
    refine dx.use (c6 _ (by decide) I4 _) (fun q5 I5 hI5=>.inl ⟨rfl,_,.refl _, ?_⟩) (fun q5 I5 hI5=>.inr ⟨_,rfl,_,.refl _, ?_⟩)
    ·cases q5
    ·exact .fail (bad (decide_eq_false fun h=>h1 h.1)) q5
  ·have h4:=oS q4
   rw[h4.2] at q4 ⊢
   rw[h4.1,Bool.false_and] at rc
   rw[rc] at gc
   exact .fail gc q4
 have hlt:=of_decide_eq_false hlt
 rw[dL _ _ (by omega),cw] at gc
 refine⟨_,_,_,rd hl3 2 _ rfl, ?_⟩
 rw[e4]
 refine dx.use (c6 _ (by decide) I3 _) (fun q4 I4 hI4=>.inl ⟨rfl,_,.refl _, ?_⟩) (fun q4 I4 hI4=>.inr ⟨_,rfl,_,.refl _, ?_⟩)
 case refine_2=>exact .fail gc q4
 rw[q4,cw] at gc
 have hl4:=cc.le_trans hl3 hI4
 refine⟨_,_,_,rd hl4 2 _ rfl,⟨_,by omega,by omega,rfl,hl4,rfl,by rw[gc];simp⟩, ?_⟩
 clear gc
 clear gm
 intro i m I5 F5 hI5 ⟨g0,g1,gm,hl5,hF5,gc⟩
 subst hF5
 refine⟨fun hlt=>?_,fun hlt=>?_⟩
 ·have hlt:=of_decide_eq_true hlt
  obtain⟨ad,x,had,hx,hrd,hxm⟩:=dy.j3 (ok hl5).slots g0 hlt
  rw[dq _ _ hx,jw] at gc
  refine⟨⟨g0,hlt⟩,ad,had,_,_,hrd,fun b_x=>dx.use (iS x.name I5 _) (fun q6 I6 hI6=>.inl ⟨rfl,_,.refl _, ?_⟩) (fun q6 I6 hI6=>.inr ⟨_,rfl,_,.refl _, ?_⟩)⟩
  ·have e:cI.check (id x)=cT (cY x.name) 120:=rfl
   rw[e,q6,cw] at gc
   refine⟨(s.slots.length-(i+1)).toNat,by omega, ?_⟩
   rw[du (n:=i+1) (by omega)]
   exact⟨by omega,by omega,rfl,cc.le_trans hl5 hI6,rfl,by rw[gc,show (i+1).toNat=i.toNat+1 by omega]⟩
  ·exact .fail gc q6
 have hlt:=of_decide_eq_false hlt
 rw[dL _ _ (by omega),cw] at gc
 refine⟨_,_,_,rd hl5 3 _ rfl, ?_⟩
 rw[e0]
 refine dx.use (c6 _ (by decide) I5 _) (fun q6 I6 hI6=>.inl ⟨rfl,_,.refl _, ?_⟩) (fun q6 I6 hI6=>.inr ⟨_,rfl,_,.refl _, ?_⟩)
 case refine_2=>exact .fail gc q6
 rw[q6,cw] at gc
 have hl6:=cc.le_trans hl5 hI6
 refine⟨_,_,_,rd hl6 3 _ rfl, ?_⟩
 rw[e12]
 refine dx.use (c6 _ (by decide) I6 _) (fun q7 I7 hI7=>.inl ⟨rfl,_,.refl _, ?_⟩) (fun q7 I7 hI7=>.inr ⟨_,rfl,_,.refl _, ?_⟩)
 case refine_2=>exact .fail gc q7
 rw[q7,cw] at gc
 have hl7:=cc.le_trans hl6 hI7
 refine⟨_,_,_,rd hl7 3 _ rfl,⟨_,by omega,by omega,rfl,hl7,rfl,gc⟩, ?_⟩
 clear gc
 clear gm
 intro i m I8 F8 hI8 ⟨g0,g1,gm,hl8,hF8,gc⟩
 subst hF8
 refine⟨fun hlt=>?_,fun hlt=>?_⟩
 ·have hlt:=of_decide_eq_true hlt
  obtain⟨ad,x,had,hx,hrd,hxm⟩:=dy.j3 (ok hl8).cd g0 hlt
  have hxl:=hl.rules x hxm
  rw[dq _ _ hx] at gc
  have ec:x.p.check=cm (cT (cY x.name) 120) (cm (cT (decide (x.rules.length≤12)) 121) (cD cM.check (x.rules.map cr.p))):=by
   show cm _ (cm (cT (decide ((x.rules.map cr.p).length≤12)) 121) _)=_
   rw[List.length_map];rfl
  rw[ec,jw,jw] at gc
  refine⟨⟨g0,hlt⟩,ad,had,_,_,_,_,_,hrd,fun b_x=>dx.use (iS x.name I8 _) (fun q9 I9 hI9=>.inl ⟨rfl,_,.refl _, ?_⟩) (fun q9 I9 hI9=>.inr ⟨_,rfl,_,.refl _, ?_⟩)⟩
  case refine_2=>exact .fail gc q9
  rw[q9,cw] at gc
  rw[e12]
  refine dx.use (c6 _ (by decide) I9 _) (fun q10 I10 hI10=>.inl ⟨rfl,_,.refl _, ?_⟩) (fun q10 I10 hI10=>.inr ⟨_,rfl,_,.refl _, ?_⟩)
  case refine_2=>exact .fail gc q10
  rw[q10,cw] at gc
  have hl10:=cc.le_trans hl8 (cc.le_trans hI9 hI10)
  refine⟨⟨_,hl10,rfl,by omega,x,hx,by omega,rfl,gc⟩, ?_⟩
  clear gc
  intro j n I11 F11 hI11 ⟨hl11,hF11,j0,y,hy,j1,gn,gc⟩
  subst hF11
  rw[hx] at hy
  cases hy
  refine⟨fun hlt2=>?_,fun hlt2=>?_⟩
  ·have hlt2:=of_decide_eq_true hlt2
   have hok11:=((ok hl11).state x hxm).cons (x:=(b_x,Obj.cells #[.string x.name,.slice x.a x.rules.length x.c,.int .i64 x.pos] 65 (0,0)))
   obtain⟨ad3,r,had3,hr,hrd3,hrm⟩:=dy.j3 hok11.1 j0 hlt2
   rw[dq _ _ hr,jw] at gc
   refine⟨⟨j0,hlt2⟩,ad3,had3,_,_,_,_,_,_,_,_,_,_,_,_,_,_,hrd3,fun b_r=>dx.use (Dp r (hss x hxm r hrm) I11 _ ((((ok hl11).state x hxm).2 r hrm).cons.cons) (hl.dos x hxm r hrm)) (fun q12 I12 hI12=>.inl ⟨rfl,_,.refl _, ?_⟩) (fun q12 I12 hI12=>.inr ⟨_,rfl,_,.refl _, ?_⟩)⟩
   ·rw[q12,cw] at gc
    refine⟨(x.rules.length-(j+1)).toNat,by omega, ?_⟩
    rw[du (n:=j+1) (by omega)]
    exact⟨cc.le_trans hl11 hI12,rfl,by omega,x,hx,by omega,rfl,by rw[gc,show (j+1).toNat=j.toNat+1 by omega]⟩
   ·exact .fail gc q12
  ·have hlt2:=of_decide_eq_false hlt2
   rw[dL _ _ (by omega),cw] at gc
   refine⟨(s.cd.length-(i+1)).toNat,by omega, ?_⟩
   rw[du (n:=i+1) (by omega)]
   exact⟨by omega,by omega,rfl,hl11,rfl,by rw[gc,show (i+1).toNat=i.toNat+1 by omega]⟩
 ·have hlt:=of_decide_eq_false hlt
  rw[dL _ _ (by omega)] at gc
  exact .done gc
theorem Bl:dw P 103:=yR [103] (by kernel_rfl) _ (by decide)
theorem Bm(s:cB)(hs:Small s.p.nG)(hl:s.FN)(I:cc)(F:b8)(hok:s.Ok I F):cg P 64 #[s.v] I F (eg (.int .i64 s.p.check) F):=by
 refine mO.vc ?_
 unfold mO.V
 intro b_s
 have hrd:∀{b:Nat} {I:cc} {G:b8},(b,Obj.cells #[.string s.name,.slice s.ra s.regs.length s.rc,.slice s.sa s.slots.length s.sc,.slice s.ta s.cd.length s.tc] 39 (0,0))∈G→Rd I G (⟨b,0,none⟩:Addr) s.enc:=fun h=>Rd.uE h 0 fun j hj=>by simp
 refine (sM (n:=s.p.check) fun b=>rJ.fn Bl (by simp) (xM s hs hl I _ hok.cons.cons (hrd (List.mem_cons_of_mem _ (List.mem_cons_self ..))))).mono fun e I1 G hI1 ⟨he,hG⟩=>?_
 subst hG
 exact⟨_,he,_,_,_,_,_,_,_,_,_,_,F,.refl _,rfl,rfl⟩
theorem dy.nil{α:Type}{I:cc}{G:b8}{z:Nat}{f:α→List Value}{a:Option Addr}:dy I G z f a 0 ([]:List α):=⟨rfl,fun h=>absurd rfl h⟩
theorem cH.leaf{I:cc}{G:b8}{k o ty n f:Int}{s:ByteArray}{a:Option Addr}{c:Nat}{q:Int}:cH I G (.mk k o ty n f s a c [] q):=.mk dy.nil fun k hk=>by cases hk
end Go.Lx
namespace Go.Lx
open Go.Vc Go.Proofs.Tryz
def kv:List (Nat×List Sh):=[(0,[]),(3,[.one (.int .i64)]),(4,[.one .bool]),(26,[.one .slc]),(28,[.agg [(.int .u8),(.int .u8),(.int .u8),(.int .i64),(.int .u8),.str,.slc,(.int .i64)]]),(145,[.agg [(.int .u8),.str,(.int .u8),(.int .i64),(.int .i64)]]),(195,[.agg [(.int .u8),(.int .u8),(.int .u8),(.int .i64),(.int .u8),.str,.slc,(.int .i64)],.one .bool])]
def fI.V(ah:Nat→Nat×Obj)(nV:Int→Int→Int→Int→Int→Bs→OA→Nat→Nat→Int→Value)(nO:Int→Int→Int→Int→Int→Bs→OA→Nat→Nat→Int→Obj)(vi:Int→Value)(vl:OA→Nat→Nat→Value)(vp:OA→Value)(wr:Int→Int)(p:Addr)(aD aE aF aG aH:Int)(aI:Bs)(aw:OA)(ax ay:Nat)(aJ ap d:Int)(I:cc)(F:b8)(Q:cf)(Inv20:Int→Int→Int→Int→Int→Int→Bs→OA→Nat→Nat→Int→Nat→cc→b8→Prop):Prop:=∀o:Nat,∀b:Nat,cF P 87 (#[vp (some p),vi d]) I ((ah o)::(b,nO 0 0 0 0 0 (⟨#[]⟩:Bs) none 0 0 0)::·) F .bool fun r I1 F1=>(It (!r) (Q (.returned (nV 0 0 0 0 0 (⟨#[]⟩:Bs) none 0 0 0)) I1 F1) (∃ad:Addr,some p=some ad∧∃(m:Int),Rd I1 ((ah o)::(b,nO 0 0 0 0 0 (⟨#[]⟩:Bs) none 0 0 0)::F1) (ad.add 3) [vi m]∧∃y:Addr,some p=some y∧∃(cs:List Value) (el:Nat) (F2:b8),List.Perm F1 (((y.add 3).block,Obj.cells cs.toArray el (0,0))::F2)∧(y.add 3).spot=none∧(y.add 3).off+1≤cs.length∧cg P 89 (#[vp (some p),.string (⟨#[40]⟩:Bs)]) I1 ((ah o)::(b,nO 0 0 0 0 0 (⟨#[]⟩:Bs) none 0 0 0)::(((y.add 3).block,Obj.cells (cp (y.add 3).off [vi (wr (m+1))] cs).toArray el (0,0))::F2)) fun e2 I2 G2=>∃(r1:Int),e2=.returned (vi r1)∧∃F3:b8,List.Perm G2 ((ah o)::(b,nO 0 0 0 0 0 (⟨#[]⟩:Bs) none 0 0 0)::F3)∧(∃m1:Nat,Inv20 0 aD aE aF aG aH aI aw ax ay aJ m1 I2 F3)∧∀(i f g h j k:Int) (l:Bs) (a:OA) (c e:Nat) (n:Int) (m2:Nat) (I3:cc) (F4:b8),cc.le I2 I3→Inv20 i f g h j k l a c e n m2 I3 F4→(Dt (i<ap) (Dt (i>0) (cF P 89 (#[vp (some p),.string (⟨#[44]⟩:Bs)]) I3 ((o,nO f g h j k l a c e n)::(b,nO 0 0 0 0 0 (⟨#[]⟩:Bs) none 0 0 0)::·) F4 vi fun r2 I4 F5=>de P 53 (#[vp (some p),vi (wr (d+1))]) I4 ((o,nO f g h j k l a c e n)::(b,nO 0 0 0 0 0 (⟨#[]⟩:Bs) none 0 0 0)::·) F5 fun e4 I5 G4=>∃(ai aj ak al am:Int) (an:Bs) (u:OA) (w x:Nat) (ao:Int),e4=.returned (nV ai aj ak al am an u w x ao)∧G4 fun F6=>∀aC:Nat,∀(b1:Nat) (I6:cc),cc.le I5 I6→I6 b1=some (nO ai aj ak al am an u w x ao)→cE P (Builtin.append_ #[26,26] 26 #[vl a c e,vl (some ⟨b1,0,none⟩) 1 1]) I6 ((o,nO f g h j k l a c e n)::(b,nO 0 0 0 0 0 (⟨#[]⟩:Bs) none 0 0 0)::(aC,nO ai aj ak al am an u w x ao)::F6) fun v I7 G5=>∃(az:OA) (aA aB:Nat),v=vl az aA aB∧∃F7:b8,List.Perm G5 ((o,nO f g h j k l a c e n)::(b,nO 0 0 0 0 0 (⟨#[]⟩:Bs) none 0 0 0)::(aC,nO ai aj ak al am an u w x ao)::F7)∧(∃m3:Nat,m3<m2∧Inv20 (wr (i+1)) f g h j k l az aA aB n m3 I7 F7)) (de P 53 (#[vp (some p),vi (wr (d+1))]) I3 ((o,nO f g h j k l a c e n)::(b,nO 0 0 0 0 0 (⟨#[]⟩:Bs) none 0 0 0)::·) F4 fun e5 I8 G6=>∃(z aa ab ac ae:Int) (af:Bs) (q:OA) (s t:Nat) (ag:Int),e5=.returned (nV z aa ab ac ae af q s t ag)∧G6 fun F8=>∀av:Nat,∀(b2:Nat) (I9:cc),cc.le I8 I9→I9 b2=some (nO z aa ab ac ae af q s t ag)→cE P (Builtin.append_ #[26,26] 26 #[vl a c e,vl (some ⟨b2,0,none⟩) 1 1]) I9 ((o,nO f g h j k l a c e n)::(b,nO 0 0 0 0 0 (⟨#[]⟩:Bs) none 0 0 0)::(av,nO z aa ab ac ae af q s t ag)::F8) fun v1 I10 G7=>∃(aq:OA) (ar au:Nat),v1=vl aq ar au∧∃F9:b8,List.Perm G7 ((o,nO f g h j k l a c e n)::(b,nO 0 0 0 0 0 (⟨#[]⟩:Bs) none 0 0 0)::(av,nO z aa ab ac ae af q s t ag)::F9)∧(∃m4:Nat,m4<m2∧Inv20 (wr (i+1)) f g h j k l aq ar au n m4 I10 F9))) (cF P 89 (#[vp (some p),.string (⟨#[41]⟩:Bs)]) I3 ((o,nO f g h j k l a c e n)::(b,nO 0 0 0 0 0 (⟨#[]⟩:Bs) none 0 0 0)::·) F4 vi fun r3 I11 F10=>Q (.returned (nV f g h j k l a c e n)) I11 F10))))
theorem fI.vc{p:Addr}{j r u v w:Int}{x:Bs}{e:OA}{g i:Nat}{y z d:Int}{I:cc}{F:b8}{Q:cf}(Inv20:Int→Int→Int→Int→Int→Int→Bs→OA→Nat→Nat→Int→Nat→cc→b8→Prop)(h:fI.V (fun b=>(b,Obj.cells #[.int .u8 j,.int .u8 r,.int .u8 u,.int .i64 v,.int .u8 w,.string x,.slice e g i,.int .i64 y] 28 (0,0))) (fun k o t n f s a l c q=>.agg #[.int .u8 k,.int .u8 o,.int .u8 t,.int .i64 n,.int .u8 f,.string s,.slice a l c,.int .i64 q]) (fun k o t n f s a l c q=>.cells #[.int .u8 k,.int .u8 o,.int .u8 t,.int .i64 n,.int .u8 f,.string s,.slice a l c,.int .i64 q] 28 (0,0)) (.int .i64) .slice .pointer (IntKind.wrap .i64) p j r u v w x e g i y z d I F Q Inv20):cg P 173 #[.pointer (some p),.agg #[.int .u8 j,.int .u8 r,.int .u8 u,.int .i64 v,.int .u8 w,.string x,.slice e g i,.int .i64 y],.int .i64 z,.int .i64 d] I F Q :=
 tw (A:=(cQ [2001,7002,9001] [] [53,87,89] kv [(20,⟨[(10,(.int .i64))],[(0,[(.int .u8),(.int .u8),(.int .u8),(.int .i64),(.int .u8),.str,.slc,(.int .i64)])],fun _ _ _ vs m I F=>match vs with | [.int _ y0,.int _ y1,.int _ y2,.int _ y3,.int _ y4,.int _ y5,.string y6,.slice y7 y8 y9,.int _ y10]=>Inv20 y0 y1 y2 y3 y4 y5 y6 y7 y8 y9 y10 m I F | _=>False,[],[]⟩)] [12003] [] [] [] [] [])) [53,87,89] func173 h
def fX.V(ka:Nat→Int→Bs→Int→Int→Int→Nat×Obj)(nV:Int→Int→Int→Int→Int→Bs→OA→Nat→Nat→Int→Value)(nO:Int→Int→Int→Int→Int→Bs→OA→Nat→Nat→Int→Obj)(vb vi:Int→Value)(vs:Bs→Value)(vl:OA→Nat→Nat→Value)(vp:OA→Value)(p:Addr)(d:Int)(I:cc)(F:b8)(Q:cf)  : Prop:=∀b:Nat,de P 123 (#[vp (some p)]) I ((b,nO 0 0 0 0 0 (⟨#[]⟩:Bs) none 0 0 0)::·) F fun e1 I1 G1=>∃(f g h i j:Int) (k:Bs) (a:OA) (c e:Nat) (l:Int) (r1:Bool),e1=.returned (.tuple #[nV f g h i j k a c e l,.bool r1])∧G1 fun F1=>∀s:Nat,(It r1 (Q (.returned (nV f g h i j k a c e l)) I1 F1) (de P 88 (#[vp (some p)]) I1 ((b,nO 0 0 0 0 0 (⟨#[]⟩:Bs) none 0 0 0)::(s,nO f g h i j k a c e l)::·) F1 fun e2 I2 G2=>∃(o:Int) (q:Bs) (t u n:Int),e2=.returned (.agg #[vb o,vs q,vb t,vi u,vi n])∧G2 fun F2=>∀v:Nat,(It (o==2) (∃ad:Addr,some p=some ad∧∃(m:Int),Rd I2 ((b,nO 0 0 0 0 0 (⟨#[]⟩:Bs) none 0 0 0)::(s,nO f g h i j k a c e l)::(ka v o q t u n)::F2) (ad.add 3) [vi m]∧∃w:Addr,some p=some w∧∃(cs:List Value) (el:Nat) (F3:b8),List.Perm F2 (((w.add 3).block,Obj.cells cs.toArray el (0,0))::F3)∧(w.add 3).spot=none∧(w.add 3).off+1≤cs.length∧Q (.returned (nV 2 0 0 0 0 q none 0 0 n)) I2 ((((w.add 3).block,Obj.cells (cp (w.add 3).off [vi (IntKind.wrap .i64 (m+1))] cs).toArray el (0,0))::F3))) (∀(b1:Nat) (I3:cc),cc.le I2 I3→I3 b1=some (Obj.cells #[vs (⟨#[98,105,100]⟩:Bs),vs (⟨#[97,115,107]⟩:Bs),vs (⟨#[108,97,115,116]⟩:Bs),vs (⟨#[118,111,108,117,109,101]⟩:Bs),vs (⟨#[110,111,119]⟩:Bs),vs (⟨#[111,112,101,110]⟩:Bs)] 9 (0,0))→cF P 122 (#[vp (some p),vl (some ⟨b1,0,none⟩) 6 6]) I3 ((b,nO 0 0 0 0 0 (⟨#[]⟩:Bs) none 0 0 0)::(s,nO f g h i j k a c e l)::(ka v o q t u n)::·) F2 vi fun r I4 F4=>(Dt (r≥0) (∃aR:Addr,some p=some aR∧∃(m1:Int),Rd I4 ((b,nO 0 0 0 0 0 (⟨#[]⟩:Bs) none 0 0 0)::(s,nO f g h i j k a c e l)::(ka v o q t u n)::F4) (aR.add 3) [vi m1]∧∃x:Addr,some p=some x∧∃(al:List Value) (aO:Nat) (F5:b8),List.Perm F4 (((x.add 3).block,Obj.cells al.toArray aO (0,0))::F5)∧(x.add 3).spot=none∧(x.add 3).off+1≤al.length∧Q (.returned (.agg #[vb 3,vb 0,vb 0,vi 0,vb (IntKind.wrap .u8 (IntKind.wrap .i64 (r+1))),vs (⟨#[]⟩:Bs),vl none 0 0,vi n])) I4 ((((x.add 3).block,Obj.cells (cp (x.add 3).off [vi (IntKind.wrap .i64 (m1+1))] al).toArray aO (0,0))::F5))) (∀(b2:Nat) (I5:cc),cc.le I4 I5→I5 b2=some (Obj.cells #[vs (⟨#[97,98,115]⟩:Bs),vs (⟨#[109,105,110]⟩:Bs),vs (⟨#[109,97,120]⟩:Bs)] 9 (0,0))→cF P 122 (#[vp (some p),vl (some ⟨b2,0,none⟩) 3 3]) I5 ((b,nO 0 0 0 0 0 (⟨#[]⟩:Bs) none 0 0 0)::(s,nO f g h i j k a c e l)::(ka v o q t u n)::·) F4 vi fun r2 I6 F6=>(Dt (r2≥0) (It (r2==0) (de P 173 (#[vp (some p),.agg #[vb 8,vb (IntKind.wrap .u8 (3+(IntKind.wrap .u8 r2))),vb 0,vi 0,vb 0,vs (⟨#[]⟩:Bs),vl none 0 0,vi n],vi 1,vi d]) I6 ((b,nO 0 0 0 0 0 (⟨#[]⟩:Bs) none 0 0 0)::(s,nO f g h i j k a c e l)::(ka v o q t u n)::·) F6 fun e5 I7 G5=>∃(am an ao ap aq:Int) (aP:Bs) (ai:OA) (aj ak:Nat) (aQ:Int),e5=.returned (nV am an ao ap aq aP ai aj ak aQ)∧G5 fun F7=>Q (.returned (nV am an ao ap aq aP ai aj ak aQ)) I7 F7) (de P 173 (#[vp (some p),.agg #[vb 8,vb (IntKind.wrap .u8 (3+(IntKind.wrap .u8 r2))),vb 0,vi 0,vb 0,vs (⟨#[]⟩:Bs),vl none 0 0,vi n],vi 2,vi d]) I6 ((b,nO 0 0 0 0 0 (⟨#[]⟩:Bs) none 0 0 0)::(s,nO f g h i j k a c e l)::(ka v o q t u n)::·) F6 fun e6 I8 G6=>∃(ar au av aw ax:Int) (ay:Bs) (y:OA) (z aa:Nat) (az:Int),e6=.returned (nV ar au av aw ax ay y z aa az)∧G6 fun F8=>Q (.returned (nV ar au av aw ax ay y z aa az)) I8 F8)) (∀(b3:Nat) (I9:cc),cc.le I6 I9→I9 b3=some (Obj.cells #[vs (⟨#[105,110,116]⟩:Bs),vs (⟨#[113,116,121]⟩:Bs),vs (⟨#[112,114,105,99,101]⟩:Bs),vs (⟨#[116,105,109,101]⟩:Bs)] 9 (0,0))→cF P 122 (#[vp (some p),vl (some ⟨b3,0,none⟩) 4 4]) I9 ((b,nO 0 0 0 0 0 (⟨#[]⟩:Bs) none 0 0 0)::(s,nO f g h i j k a c e l)::(ka v o q t u n)::·) F6 vi fun r3 I10 F9=>(Dt (r3≥0) (de P 173 (#[vp (some p),.agg #[vb 9,vb 0,vb (IntKind.wrap .u8 (1+(IntKind.wrap .u8 r3))),vi 0,vb 0,vs (⟨#[]⟩:Bs),vl none 0 0,vi n],vi 1,vi d]) I10 ((b,nO 0 0 0 0 0 (⟨#[]⟩:Bs) none 0 0 0)::(s,nO f g h i j k a c e l)::(ka v o q t u n)::·) F9 fun e8 I11 G8=>∃(aA aB aC aD aE:Int) (aF:Bs) (ab:OA) (ac ae:Nat) (aG:Int),e8=.returned (nV aA aB aC aD aE aF ab ac ae aG)∧G8 fun F10=>Q (.returned (nV aA aB aC aD aE aF ab ac ae aG)) I11 F10) (de P 174 (#[vp (some p),vi d]) I10 ((b,nO 0 0 0 0 0 (⟨#[]⟩:Bs) none 0 0 0)::(s,nO f g h i j k a c e l)::(ka v o q t u n)::·) F9 fun e9 I12 G9=>∃(aH aI aJ aK aL:Int) (aM:Bs) (af:OA) (ag ah:Nat) (aN:Int),e9=.returned (nV aH aI aJ aK aL aM af ag ah aN)∧G9 fun F11=>Q (.returned (nV aH aI aJ aK aL aM af ag ah aN)) I12 F11))))))))))
theorem fX.vc{p:Addr}{d:Int}{I:cc}{F:b8}{Q:cf}  (h:fX.V (fun W a b c d e=>(W,Obj.cells #[.int .u8 a,.string b,.int .u8 c,.int .i64 d,.int .i64 e] 145 (0,0))) (fun k o t n f s a l c q=>.agg #[.int .u8 k,.int .u8 o,.int .u8 t,.int .i64 n,.int .u8 f,.string s,.slice a l c,.int .i64 q]) (fun k o t n f s a l c q=>.cells #[.int .u8 k,.int .u8 o,.int .u8 t,.int .i64 n,.int .u8 f,.string s,.slice a l c,.int .i64 q] 28 (0,0)) (.int .u8) (.int .i64) .string .slice .pointer p d I F Q):cg P 172 #[.pointer (some p),.int .i64 d] I F Q :=
 tw (A:=(cQ [2000,5002,9001,13001,15001,19001] [] [88,122,123,173,174] kv [] [8001,12001,18001] [] [] [] [] [])) [88,122,123,173,174] func172 h
def fJ.V(nV:Int→Int→Int→Int→Int→Bs→OA→Nat→Nat→Int→Value)(nO:Int→Int→Int→Int→Int→Bs→OA→Nat→Nat→Int→Obj)(vb vi:Int→Value)(vs:Bs→Value)(vp:OA→Value)(wr:Int→Int)(p:Addr)(d:Int)(I:cc)(F:b8)(Q:cf)  : Prop:=∀b:Nat,de P 88 (#[vp (some p)]) I ((b,nO 0 0 0 0 0 (⟨#[]⟩:Bs) none 0 0 0)::·) F fun e1 I1 G1=>∃(aa:Int) (ab:Bs) (ac ae u:Int),e1=.returned (.agg #[vb aa,vs ab,vb ac,vi ae,vi u])∧G1 fun F1=>cF P 86 (#[vp (some p),vs (⟨#[104,97,115]⟩:Bs)]) I1 ((b,nO 0 0 0 0 0 (⟨#[]⟩:Bs) none 0 0 0)::·) F1 .bool fun r I2 F2=>(It r (∃ad:Addr,some p=some ad∧∃(m:Int),Rd I2 ((b,nO 0 0 0 0 0 (⟨#[]⟩:Bs) none 0 0 0)::F2) (ad.add 3) [vi m]∧∃f:Addr,some p=some f∧∃(cs:List Value) (el:Nat) (F3:b8),List.Perm F2 (((f.add 3).block,Obj.cells cs.toArray el (0,0))::F3)∧(f.add 3).spot=none∧(f.add 3).off+1≤cs.length∧∀(b1:Nat) (I3:cc),cc.le I2 I3→I3 b1=some (Obj.cells #[vs (⟨#[98,105,100]⟩:Bs),vs (⟨#[97,115,107]⟩:Bs),vs (⟨#[108,97,115,116]⟩:Bs)] 9 (0,0))→cg P 122 (#[vp (some p),.slice (some ⟨b1,0,none⟩) 3 3]) I3 ((b,nO 0 0 0 0 0 (⟨#[]⟩:Bs) none 0 0 0)::(((f.add 3).block,Obj.cells (cp (f.add 3).off [vi (wr (m+1))] cs).toArray el (0,0))::F3)) fun e3 I4 G3=>∃(r1:Int),e3=.returned (vi r1)∧∃F4:b8,List.Perm G3 ((b,nO 0 0 0 0 0 (⟨#[]⟩:Bs) none 0 0 0)::F4)∧(Dt (r1<0) (de P 90 (#[vp (some p),vi 130]) I4 ((b,nO 0 0 0 0 0 (⟨#[]⟩:Bs) none 0 0 0)::·) F4 fun e4 I5 G4=>e4=.returned (.tuple #[])∧G4 fun F5=>Q (.returned (nV 0 0 0 0 0 (⟨#[]⟩:Bs) none 0 0 0)) I5 F5) (∃x:Addr,some p=some x∧∃(m1:Int),Rd I4 ((b,nO 0 0 0 0 0 (⟨#[]⟩:Bs) none 0 0 0)::F4) (x.add 3) [vi m1]∧∃g:Addr,some p=some g∧∃(s:List Value) (v:Nat) (F6:b8),List.Perm F4 (((g.add 3).block,Obj.cells s.toArray v (0,0))::F6)∧(g.add 3).spot=none∧(g.add 3).off+1≤s.length∧Q (.returned (.agg #[vb 4,vb 0,vb 0,vi 0,vb (IntKind.wrap .u8 (wr (r1+1))),vs (⟨#[]⟩:Bs),.slice none 0 0,vi u])) I4 ((((g.add 3).block,Obj.cells (cp (g.add 3).off [vi (wr (m1+1))] s).toArray v (0,0))::F6))))) (cF P 86 (#[vp (some p),vs (⟨#[40]⟩:Bs)]) I2 ((b,nO 0 0 0 0 0 (⟨#[]⟩:Bs) none 0 0 0)::·) F2 .bool fun r2 I6 F7=>(It (!r2) (de P 90 (#[vp (some p),vi 130]) I6 ((b,nO 0 0 0 0 0 (⟨#[]⟩:Bs) none 0 0 0)::·) F7 fun e6 I7 G6=>e6=.returned (.tuple #[])∧G6 fun F8=>Q (.returned (nV 0 0 0 0 0 (⟨#[]⟩:Bs) none 0 0 0)) I7 F8) (cF P 87 (#[vp (some p),vi d]) I6 ((b,nO 0 0 0 0 0 (⟨#[]⟩:Bs) none 0 0 0)::·) F7 .bool fun r3 I8 F9=>(It (!r3) (Q (.returned (nV 0 0 0 0 0 (⟨#[]⟩:Bs) none 0 0 0)) I8 F9) (∃y:Addr,some p=some y∧∃(m2:Int),Rd I8 ((b,nO 0 0 0 0 0 (⟨#[]⟩:Bs) none 0 0 0)::F9) (y.add 3) [vi m2]∧∃h:Addr,some p=some h∧∃(t:List Value) (w:Nat) (F10:b8),List.Perm F9 (((h.add 3).block,Obj.cells t.toArray w (0,0))::F10)∧(h.add 3).spot=none∧(h.add 3).off+1≤t.length∧cg P 53 (#[vp (some p),vi (wr (d+1))]) I8 ((b,nO 0 0 0 0 0 (⟨#[]⟩:Bs) none 0 0 0)::(((h.add 3).block,Obj.cells (cp (h.add 3).off [vi (wr (m2+1))] t).toArray w (0,0))::F10)) fun e8 I9 G8=>∃(i j k l n:Int) (o:Bs) (a:OA) (c e:Nat) (q:Int),e8=.returned (nV i j k l n o a c e q)∧∃F11:b8,List.Perm G8 ((b,nO 0 0 0 0 0 (⟨#[]⟩:Bs) none 0 0 0)::F11)∧∀z:Nat,cF P 89 (#[vp (some p),vs (⟨#[41]⟩:Bs)]) I9 ((b,nO 0 0 0 0 0 (⟨#[]⟩:Bs) none 0 0 0)::(z,nO i j k l n o a c e q)::·) F11 vi fun r4 I10 F12=>Q (.returned (nV i j k l n o a c e q)) I10 F12))))))
theorem fJ.vc{p:Addr}{d:Int}{I:cc}{F:b8}{Q:cf}  (h:fJ.V (fun k o t n f s a l c q=>.agg #[.int .u8 k,.int .u8 o,.int .u8 t,.int .i64 n,.int .u8 f,.string s,.slice a l c,.int .i64 q]) (fun k o t n f s a l c q=>.cells #[.int .u8 k,.int .u8 o,.int .u8 t,.int .i64 n,.int .u8 f,.string s,.slice a l c,.int .i64 q] 28 (0,0)) (.int .u8) (.int .i64) .string .pointer (IntKind.wrap .i64) p d I F Q):cg P 174 #[.pointer (some p),.int .i64 d] I F Q :=
 tw (A:=(cQ [3000,6001,12001,16001] [] [53,86,87,88,89,90,122] kv [] [5001] [] [] [] [] [])) [53,86,87,88,89,90,122] func174 h
def ff.V(ka:Nat→Int→Int→Int→Int→Int→Bs→OA→Nat→Nat→Int→Nat×Obj)(nV:Int→Int→Int→Int→Int→Bs→OA→Nat→Nat→Int→Value)(nO:Int→Int→Int→Int→Int→Bs→OA→Nat→Nat→Int→Obj)(vb vi:Int→Value)(vs:Bs→Value)(vl:OA→Nat→Nat→Value)(vp:OA→Value)(p:Addr)(d:Int)(I:cc)(F:b8)(Q:cf)  : Prop:=∀b:Nat,∀(b1:Nat) (I1:cc),cc.le I I1→I1 b1=some (Obj.cells #[vs (⟨#[45]⟩:Bs),vs (⟨#[33]⟩:Bs)] 9 (0,0))→cF P 122 (#[vp (some p),vl (some ⟨b1,0,none⟩) 2 2]) I1 ((b,nO 0 0 0 0 0 (⟨#[]⟩:Bs) none 0 0 0)::·) F vi fun r I2 F1=>(Dt (r<0) (de P 172 (#[vp (some p),vi d]) I2 ((b,nO 0 0 0 0 0 (⟨#[]⟩:Bs) none 0 0 0)::·) F1 fun e2 I3 G2=>∃(w x y z aa:Int) (ab:Bs) (s:OA) (t u:Nat) (ac:Int),e2=.returned (nV w x y z aa ab s t u ac)∧G2 fun F2=>Q (.returned (nV w x y z aa ab s t u ac)) I3 F2) (cF P 87 (#[vp (some p),vi d]) I2 ((b,nO 0 0 0 0 0 (⟨#[]⟩:Bs) none 0 0 0)::·) F1 .bool fun r1 I4 F3=>(It (!r1) (Q (.returned (nV 0 0 0 0 0 (⟨#[]⟩:Bs) none 0 0 0)) I4 F3) (de P 88 (#[vp (some p)]) I4 ((b,nO 0 0 0 0 0 (⟨#[]⟩:Bs) none 0 0 0)::·) F3 fun e4 I5 G4=>∃(ai:Int) (aj:Bs) (ak al a:Int),e4=.returned (.agg #[vb ai,vs aj,vb ak,vi al,vi a])∧G4 fun F4=>∀q:Nat,∃ad:Addr,some p=some ad∧∃(m:Int),Rd I5 ((b,nO 0 0 0 0 0 (⟨#[]⟩:Bs) none 0 0 0)::(ka q 5 (IntKind.wrap .u8 (1+(IntKind.wrap .u8 r))) 0 0 0 (⟨#[]⟩:Bs) none 0 0 a)::F4) (ad.add 3) [vi m]∧∃g:Addr,some p=some g∧∃(cs:List Value) (el:Nat) (F5:b8),List.Perm F4 (((g.add 3).block,Obj.cells cs.toArray el (0,0))::F5)∧(g.add 3).spot=none∧(g.add 3).off+1≤cs.length∧cg P 170 (#[vp (some p),vi (IntKind.wrap .i64 (d+1))]) I5 ((b,nO 0 0 0 0 0 (⟨#[]⟩:Bs) none 0 0 0)::(ka q 5 (IntKind.wrap .u8 (1+(IntKind.wrap .u8 r))) 0 0 0 (⟨#[]⟩:Bs) none 0 0 a)::(((g.add 3).block,Obj.cells (cp (g.add 3).off [vi (IntKind.wrap .i64 (m+1))] cs).toArray el (0,0))::F5)) fun e5 I6 G5=>∃(h i j k l:Int) (n:Bs) (c:OA) (e f:Nat) (o:Int),e5=.returned (nV h i j k l n c e f o)∧∃F6:b8,List.Perm G5 ((b,nO 0 0 0 0 0 (⟨#[]⟩:Bs) none 0 0 0)::(ka q 5 (IntKind.wrap .u8 (1+(IntKind.wrap .u8 r))) 0 0 0 (⟨#[]⟩:Bs) none 0 0 a)::F6)∧∀ah:Nat,∀(b2:Nat) (I7:cc),cc.le I6 I7→I7 b2=some (nO h i j k l n c e f o)→cE P (Builtin.append_ #[26,26] 26 #[vl none 0 0,vl (some ⟨b2,0,none⟩) 1 1]) I7 ((b,nO 0 0 0 0 0 (⟨#[]⟩:Bs) none 0 0 0)::(ka q 5 (IntKind.wrap .u8 (1+(IntKind.wrap .u8 r))) 0 0 0 (⟨#[]⟩:Bs) none 0 0 a)::(ah,nO h i j k l n c e f o)::F6) fun v I8 G6=>∃(ae:OA) (af ag:Nat),v=vl ae af ag∧∃F7:b8,List.Perm G6 ((b,nO 0 0 0 0 0 (⟨#[]⟩:Bs) none 0 0 0)::(ka q 5 (IntKind.wrap .u8 (1+(IntKind.wrap .u8 r))) 0 0 0 (⟨#[]⟩:Bs) none 0 0 a)::(ah,nO h i j k l n c e f o)::F7)∧Q (.returned (.agg #[vb 5,vb (IntKind.wrap .u8 (1+(IntKind.wrap .u8 r))),vb 0,vi 0,vb 0,vs (⟨#[]⟩:Bs),vl ae af ag,vi a])) I8 F7))))
theorem ff.vc{p:Addr}{d:Int}{I:cc}{F:b8}{Q:cf}  (h:ff.V (fun W a b c d e f g h i j=>(W,Obj.cells #[.int .u8 a,.int .u8 b,.int .u8 c,.int .i64 d,.int .u8 e,.string f,.slice g h i,.int .i64 j] 28 (0,0))) (fun k o t n f s a l c q=>.agg #[.int .u8 k,.int .u8 o,.int .u8 t,.int .i64 n,.int .u8 f,.string s,.slice a l c,.int .i64 q]) (fun k o t n f s a l c q=>.cells #[.int .u8 k,.int .u8 o,.int .u8 t,.int .i64 n,.int .u8 f,.string s,.slice a l c,.int .i64 q] 28 (0,0)) (.int .u8) (.int .i64) .string .slice .pointer p d I F Q):cg P 170 #[.pointer (some p),.int .i64 d] I F Q :=
 tw (A:=(cQ [2001,5001] [] [87,88,122,170,172] kv [] [1001,10003] [] [] [] [] [])) [87,88,122,170,172] func170 h
def eH.V(nV:Int→Int→Int→Int→Int→Bs→OA→Nat→Nat→Int→Value)(nO:Int→Int→Int→Int→Int→Bs→OA→Nat→Nat→Int→Obj)(vi:Int→Value)(vs:Bs→Value)(vp:OA→Value)(p:Addr)(d:Int)(I:cc)(F:b8)(Q:cf)(Inv5:Int→Int→Int→Int→Int→Bs→OA→Nat→Nat→Int→Int→Int→Int→Int→Int→Bs→OA→Nat→Nat→Int→Nat→cc→b8→Prop):Prop:=∀b:Nat,de P 170 (#[vp (some p),vi d]) I ((b,nO 0 0 0 0 0 (⟨#[]⟩:Bs) none 0 0 0)::·) F fun e1 I1 G1=>∃(aC aD aE aF aG:Int) (aH:Bs) (ap:OA) (aq ar:Nat) (aI:Int),e1=.returned (nV aC aD aE aF aG aH ap aq ar aI)∧G1 fun F1=>∀ac:Nat,(∃m:Nat,Inv5 0 0 0 0 0 (⟨#[]⟩:Bs) none 0 0 0 aC aD aE aF aG aH ap aq ar aI m I1 F1)∧∀(s t u v w:Int) (x:Bs) (n:OA) (o q:Nat) (y f g h i j:Int) (k:Bs) (a:OA) (c e:Nat) (l:Int) (m1:Nat) (I2:cc) (F2:b8),cc.le I1 I2→Inv5 s t u v w x n o q y f g h i j k a c e l m1 I2 F2→∀(b1:Nat) (I3:cc),cc.le I2 I3→I3 b1=some (Obj.cells #[vs (⟨#[42]⟩:Bs),vs (⟨#[47]⟩:Bs),vs (⟨#[37]⟩:Bs)] 9 (0,0))→cF P 122 (#[vp (some p),.slice (some ⟨b1,0,none⟩) 3 3]) I3 ((b,nO s t u v w x n o q y)::(ac,nO f g h i j k a c e l)::·) F2 vi fun r I4 F3=>(Dt (r<0) (Q (.returned (nV f g h i j k a c e l)) I4 F3) (de P 88 (#[vp (some p)]) I4 ((b,nO s t u v w x n o q y)::(ac,nO f g h i j k a c e l)::·) F3 fun e3 I5 G3=>∃(aK:Int) (aL:Bs) (aM aN au:Int),e3=.returned (.agg #[.int .u8 aK,vs aL,.int .u8 aM,vi aN,vi au])∧G3 fun F4=>∃ad:Addr,some p=some ad∧∃(m2:Int),Rd I5 ((b,nO s t u v w x n o q y)::(ac,nO f g h i j k a c e l)::F4) (ad.add 3) [vi m2]∧∃ae:Addr,some p=some ae∧∃(cs:List Value) (el:Nat) (F5:b8),List.Perm F4 (((ae.add 3).block,Obj.cells cs.toArray el (0,0))::F5)∧(ae.add 3).spot=none∧(ae.add 3).off+1≤cs.length∧cg P 170 (#[vp (some p),vi d]) I5 ((b,nO s t u v w x n o q y)::(ac,nO f g h i j k a c e l)::(((ae.add 3).block,Obj.cells (cp (ae.add 3).off [vi (IntKind.wrap .i64 (m2+1))] cs).toArray el (0,0))::F5)) fun e4 I6 G4=>∃(af ag ah ai aj:Int) (ak:Bs) (z:OA) (aa ab:Nat) (al:Int),e4=.returned (nV af ag ah ai aj ak z aa ab al)∧∃F6:b8,List.Perm G4 ((b,nO s t u v w x n o q y)::(ac,nO f g h i j k a c e l)::F6)∧∀aJ:Nat,de P 121 (#[.int .u8 (IntKind.wrap .u8 (8+(IntKind.wrap .u8 r))),vi au,nV f g h i j k a c e l,nV af ag ah ai aj ak z aa ab al]) I6 ((b,nO s t u v w x n o q y)::(ac,nO f g h i j k a c e l)::(aJ,nO af ag ah ai aj ak z aa ab al)::·) F6 fun e5 I7 G5=>∃(av aw ax ay az:Int) (aA:Bs) (am:OA) (an ao:Nat) (aB:Int),e5=.returned (nV av aw ax ay az aA am an ao aB)∧G5 fun F7=>(∃m3:Nat,m3<m1∧Inv5 s t u v w x n o q y av aw ax ay az aA am an ao aB m3 I7 F7)))
theorem eH.vc{p:Addr}{d:Int}{I:cc}{F:b8}{Q:cf}(Inv5:Int→Int→Int→Int→Int→Bs→OA→Nat→Nat→Int→Int→Int→Int→Int→Int→Bs→OA→Nat→Nat→Int→Nat→cc→b8→Prop)(h:eH.V (fun k o t n f s a l c q=>.agg #[.int .u8 k,.int .u8 o,.int .u8 t,.int .i64 n,.int .u8 f,.string s,.slice a l c,.int .i64 q]) (fun k o t n f s a l c q=>.cells #[.int .u8 k,.int .u8 o,.int .u8 t,.int .i64 n,.int .u8 f,.string s,.slice a l c,.int .i64 q] 28 (0,0)) (.int .i64) .string .pointer p d I F Q Inv5):cg P 165 #[.pointer (some p),.int .i64 d] I F Q :=
 tw (A:=(cQ [3001] [] [88,121,122,170] kv [(5,⟨[],[(0,[(.int .u8),(.int .u8),(.int .u8),(.int .i64),(.int .u8),.str,.slc,(.int .i64)]),(1,[(.int .u8),(.int .u8),(.int .u8),(.int .i64),(.int .u8),.str,.slc,(.int .i64)])],fun _ _ _ vs m I F=>match vs with | [.int _ y0,.int _ y1,.int _ y2,.int _ y3,.int _ y4,.string y5,.slice y6 y7 y8,.int _ y9,.int _ y10,.int _ y11,.int _ y12,.int _ y13,.int _ y14,.string y15,.slice y16 y17 y18,.int _ y19]=>Inv5 y0 y1 y2 y3 y4 y5 y6 y7 y8 y9 y10 y11 y12 y13 y14 y15 y16 y17 y18 y19 m I F | _=>False,[],[]⟩)] [2001] [] [] [] [] [])) [88,121,122,170] func165 h
def fY.V(nV:Int→Int→Int→Int→Int→Bs→OA→Nat→Nat→Int→Value)(nO:Int→Int→Int→Int→Int→Bs→OA→Nat→Nat→Int→Obj)(vi:Int→Value)(vp:OA→Value)(p:Addr)(d:Int)(I:cc)(F:b8)(Q:cf)(Inv5:Int→Int→Int→Int→Int→Bs→OA→Nat→Nat→Int→Int→Int→Int→Int→Int→Bs→OA→Nat→Nat→Int→Nat→cc→b8→Prop):Prop:=∀b:Nat,de P 165 (#[vp (some p),vi d]) I ((b,nO 0 0 0 0 0 (⟨#[]⟩:Bs) none 0 0 0)::·) F fun e1 I1 G1=>∃(aC aD aE aF aG:Int) (aH:Bs) (ap:OA) (aq ar:Nat) (aI:Int),e1=.returned (nV aC aD aE aF aG aH ap aq ar aI)∧G1 fun F1=>∀ac:Nat,(∃m:Nat,Inv5 0 0 0 0 0 (⟨#[]⟩:Bs) none 0 0 0 aC aD aE aF aG aH ap aq ar aI m I1 F1)∧∀(s t u v w:Int) (x:Bs) (n:OA) (o q:Nat) (y f g h i j:Int) (k:Bs) (a:OA) (c e:Nat) (l:Int) (m1:Nat) (I2:cc) (F2:b8),cc.le I1 I2→Inv5 s t u v w x n o q y f g h i j k a c e l m1 I2 F2→∀(b1:Nat) (I3:cc),cc.le I2 I3→I3 b1=some (Obj.cells #[.string (⟨#[43]⟩:Bs),.string (⟨#[45]⟩:Bs)] 9 (0,0))→cF P 122 (#[vp (some p),.slice (some ⟨b1,0,none⟩) 2 2]) I3 ((b,nO s t u v w x n o q y)::(ac,nO f g h i j k a c e l)::·) F2 vi fun r I4 F3=>(Dt (r<0) (Q (.returned (nV f g h i j k a c e l)) I4 F3) (de P 88 (#[vp (some p)]) I4 ((b,nO s t u v w x n o q y)::(ac,nO f g h i j k a c e l)::·) F3 fun e3 I5 G3=>∃(aK:Int) (aL:Bs) (aM aN au:Int),e3=.returned (.agg #[.int .u8 aK,.string aL,.int .u8 aM,vi aN,vi au])∧G3 fun F4=>∃ad:Addr,some p=some ad∧∃(m2:Int),Rd I5 ((b,nO s t u v w x n o q y)::(ac,nO f g h i j k a c e l)::F4) (ad.add 3) [vi m2]∧∃ae:Addr,some p=some ae∧∃(cs:List Value) (el:Nat) (F5:b8),List.Perm F4 (((ae.add 3).block,Obj.cells cs.toArray el (0,0))::F5)∧(ae.add 3).spot=none∧(ae.add 3).off+1≤cs.length∧cg P 165 (#[vp (some p),vi d]) I5 ((b,nO s t u v w x n o q y)::(ac,nO f g h i j k a c e l)::(((ae.add 3).block,Obj.cells (cp (ae.add 3).off [vi (IntKind.wrap .i64 (m2+1))] cs).toArray el (0,0))::F5)) fun e4 I6 G4=>∃(af ag ah ai aj:Int) (ak:Bs) (z:OA) (aa ab:Nat) (al:Int),e4=.returned (nV af ag ah ai aj ak z aa ab al)∧∃F6:b8,List.Perm G4 ((b,nO s t u v w x n o q y)::(ac,nO f g h i j k a c e l)::F6)∧∀aJ:Nat,de P 121 (#[.int .u8 (IntKind.wrap .u8 (6+(IntKind.wrap .u8 r))),vi au,nV f g h i j k a c e l,nV af ag ah ai aj ak z aa ab al]) I6 ((b,nO s t u v w x n o q y)::(ac,nO f g h i j k a c e l)::(aJ,nO af ag ah ai aj ak z aa ab al)::·) F6 fun e5 I7 G5=>∃(av aw ax ay az:Int) (aA:Bs) (am:OA) (an ao:Nat) (aB:Int),e5=.returned (nV av aw ax ay az aA am an ao aB)∧G5 fun F7=>(∃m3:Nat,m3<m1∧Inv5 s t u v w x n o q y av aw ax ay az aA am an ao aB m3 I7 F7)))
theorem fY.vc{p:Addr}{d:Int}{I:cc}{F:b8}{Q:cf}(Inv5:Int→Int→Int→Int→Int→Bs→OA→Nat→Nat→Int→Int→Int→Int→Int→Int→Bs→OA→Nat→Nat→Int→Nat→cc→b8→Prop)(h:fY.V (fun k o t n f s a l c q=>.agg #[.int .u8 k,.int .u8 o,.int .u8 t,.int .i64 n,.int .u8 f,.string s,.slice a l c,.int .i64 q]) (fun k o t n f s a l c q=>.cells #[.int .u8 k,.int .u8 o,.int .u8 t,.int .i64 n,.int .u8 f,.string s,.slice a l c,.int .i64 q] 28 (0,0)) (.int .i64) .pointer p d I F Q Inv5):cg P 157 #[.pointer (some p),.int .i64 d] I F Q :=
 tw (A:=(cQ [3001] [] [88,121,122,165] kv [(5,⟨[],[(0,[(.int .u8),(.int .u8),(.int .u8),(.int .i64),(.int .u8),.str,.slc,(.int .i64)]),(1,[(.int .u8),(.int .u8),(.int .u8),(.int .i64),(.int .u8),.str,.slc,(.int .i64)])],fun _ _ _ vs m I F=>match vs with | [.int _ y0,.int _ y1,.int _ y2,.int _ y3,.int _ y4,.string y5,.slice y6 y7 y8,.int _ y9,.int _ y10,.int _ y11,.int _ y12,.int _ y13,.int _ y14,.string y15,.slice y16 y17 y18,.int _ y19]=>Inv5 y0 y1 y2 y3 y4 y5 y6 y7 y8 y9 y10 y11 y12 y13 y14 y15 y16 y17 y18 y19 m I F | _=>False,[],[]⟩)] [2001] [] [] [] [] [])) [88,121,122,165] func157 h
def eI.V(nV:Int→Int→Int→Int→Int→Bs→OA→Nat→Nat→Int→Value)(nO:Int→Int→Int→Int→Int→Bs→OA→Nat→Nat→Int→Obj)(vi:Int→Value)(vs:Bs→Value)(vp:OA→Value)(p:Addr)(d:Int)(I:cc)(F:b8)(Q:cf)  : Prop:=∀b:Nat,de P 157 (#[vp (some p),vi d]) I ((b,nO 0 0 0 0 0 (⟨#[]⟩:Bs) none 0 0 0)::·) F fun e1 I1 G1=>∃(f g h i j:Int) (k:Bs) (a:OA) (c e:Nat) (l:Int),e1=.returned (nV f g h i j k a c e l)∧G1 fun F1=>∀s:Nat,∀(b1:Nat) (I2:cc),cc.le I1 I2→I2 b1=some (Obj.cells #[vs (⟨#[61,61]⟩:Bs),vs (⟨#[33,61]⟩:Bs),vs (⟨#[60]⟩:Bs),vs (⟨#[60,61]⟩:Bs),vs (⟨#[62]⟩:Bs),vs (⟨#[62,61]⟩:Bs)] 9 (0,0))→cF P 122 (#[vp (some p),.slice (some ⟨b1,0,none⟩) 6 6]) I2 ((b,nO 0 0 0 0 0 (⟨#[]⟩:Bs) none 0 0 0)::(s,nO f g h i j k a c e l)::·) F1 vi fun r I3 F2=>(Dt (r<0) (Q (.returned (nV f g h i j k a c e l)) I3 F2) (de P 88 (#[vp (some p)]) I3 ((b,nO 0 0 0 0 0 (⟨#[]⟩:Bs) none 0 0 0)::(s,nO f g h i j k a c e l)::·) F2 fun e3 I4 G3=>∃(ao:Int) (ap:Bs) (aq ar af:Int),e3=.returned (.agg #[.int .u8 ao,vs ap,.int .u8 aq,vi ar,vi af])∧G3 fun F3=>∃ad:Addr,some p=some ad∧∃(m:Int),Rd I4 ((b,nO 0 0 0 0 0 (⟨#[]⟩:Bs) none 0 0 0)::(s,nO f g h i j k a c e l)::F3) (ad.add 3) [vi m]∧∃t:Addr,some p=some t∧∃(cs:List Value) (el:Nat) (F4:b8),List.Perm F3 (((t.add 3).block,Obj.cells cs.toArray el (0,0))::F4)∧(t.add 3).spot=none∧(t.add 3).off+1≤cs.length∧cg P 157 (#[vp (some p),vi d]) I4 ((b,nO 0 0 0 0 0 (⟨#[]⟩:Bs) none 0 0 0)::(s,nO f g h i j k a c e l)::(((t.add 3).block,Obj.cells (cp (t.add 3).off [vi (IntKind.wrap .i64 (m+1))] cs).toArray el (0,0))::F4)) fun e4 I5 G4=>∃(u v w x y:Int) (z:Bs) (n:OA) (o q:Nat) (aa:Int),e4=.returned (nV u v w x y z n o q aa)∧∃F5:b8,List.Perm G4 ((b,nO 0 0 0 0 0 (⟨#[]⟩:Bs) none 0 0 0)::(s,nO f g h i j k a c e l)::F5)∧∀an:Nat,de P 121 (#[.int .u8 (IntKind.wrap .u8 (11+(IntKind.wrap .u8 r))),vi af,nV f g h i j k a c e l,nV u v w x y z n o q aa]) I5 ((b,nO 0 0 0 0 0 (⟨#[]⟩:Bs) none 0 0 0)::(s,nO f g h i j k a c e l)::(an,nO u v w x y z n o q aa)::·) F5 fun e5 I6 G5=>∃(ag ah ai aj ak:Int) (al:Bs) (ab:OA) (ac ae:Nat) (am:Int),e5=.returned (nV ag ah ai aj ak al ab ac ae am)∧G5 fun F6=>Q (.returned (nV ag ah ai aj ak al ab ac ae am)) I6 F6))
theorem eI.vc{p:Addr}{d:Int}{I:cc}{F:b8}{Q:cf}  (h:eI.V (fun k o t n f s a l c q=>.agg #[.int .u8 k,.int .u8 o,.int .u8 t,.int .i64 n,.int .u8 f,.string s,.slice a l c,.int .i64 q]) (fun k o t n f s a l c q=>.cells #[.int .u8 k,.int .u8 o,.int .u8 t,.int .i64 n,.int .u8 f,.string s,.slice a l c,.int .i64 q] 28 (0,0)) (.int .i64) .string .pointer p d I F Q):cg P 145 #[.pointer (some p),.int .i64 d] I F Q :=
 tw (A:=(cQ [3001] [] [88,121,122,157] kv [] [2001] [] [] [] [] [])) [88,121,122,157] func145 h
def fZ.V(nV:Int→Int→Int→Int→Int→Bs→OA→Nat→Nat→Int→Value)(nO:Int→Int→Int→Int→Int→Bs→OA→Nat→Nat→Int→Obj)(vi:Int→Value)(vp:OA→Value)(p:Addr)(d:Int)(I:cc)(F:b8)(Q:cf)(Inv5:Int→Int→Int→Int→Int→Bs→OA→Nat→Nat→Int→Int→Int→Int→Int→Int→Bs→OA→Nat→Nat→Int→Nat→cc→b8→Prop):Prop:=∀b:Nat,de P 145 (#[vp (some p),vi d]) I ((b,nO 0 0 0 0 0 (⟨#[]⟩:Bs) none 0 0 0)::·) F fun e1 I1 G1=>∃(aC aD aE aF aG:Int) (aH:Bs) (ap:OA) (aq ar:Nat) (aI:Int),e1=.returned (nV aC aD aE aF aG aH ap aq ar aI)∧G1 fun F1=>∀ac:Nat,(∃m:Nat,Inv5 0 0 0 0 0 (⟨#[]⟩:Bs) none 0 0 0 aC aD aE aF aG aH ap aq ar aI m I1 F1)∧∀(s t u v w:Int) (x:Bs) (n:OA) (o q:Nat) (y f g h i j:Int) (k:Bs) (a:OA) (c e:Nat) (l:Int) (m1:Nat) (I2:cc) (F2:b8),cc.le I1 I2→Inv5 s t u v w x n o q y f g h i j k a c e l m1 I2 F2→cF P 86 (#[vp (some p),.string (⟨#[38,38]⟩:Bs)]) I2 ((b,nO s t u v w x n o q y)::(ac,nO f g h i j k a c e l)::·) F2 .bool fun r I3 F3=>(It (!r) (Q (.returned (nV f g h i j k a c e l)) I3 F3) (de P 88 (#[vp (some p)]) I3 ((b,nO s t u v w x n o q y)::(ac,nO f g h i j k a c e l)::·) F3 fun e3 I4 G3=>∃(aK:Int) (aL:Bs) (aM aN au:Int),e3=.returned (.agg #[.int .u8 aK,.string aL,.int .u8 aM,vi aN,vi au])∧G3 fun F4=>∃ad:Addr,some p=some ad∧∃(m2:Int),Rd I4 ((b,nO s t u v w x n o q y)::(ac,nO f g h i j k a c e l)::F4) (ad.add 3) [vi m2]∧∃ae:Addr,some p=some ae∧∃(cs:List Value) (el:Nat) (F5:b8),List.Perm F4 (((ae.add 3).block,Obj.cells cs.toArray el (0,0))::F5)∧(ae.add 3).spot=none∧(ae.add 3).off+1≤cs.length∧cg P 145 (#[vp (some p),vi d]) I4 ((b,nO s t u v w x n o q y)::(ac,nO f g h i j k a c e l)::(((ae.add 3).block,Obj.cells (cp (ae.add 3).off [vi (IntKind.wrap .i64 (m2+1))] cs).toArray el (0,0))::F5)) fun e4 I5 G4=>∃(af ag ah ai aj:Int) (ak:Bs) (z:OA) (aa ab:Nat) (al:Int),e4=.returned (nV af ag ah ai aj ak z aa ab al)∧∃F6:b8,List.Perm G4 ((b,nO s t u v w x n o q y)::(ac,nO f g h i j k a c e l)::F6)∧∀aJ:Nat,de P 121 #[.int .u8 17,vi au,nV f g h i j k a c e l,nV af ag ah ai aj ak z aa ab al] I5 ((b,nO s t u v w x n o q y)::(ac,nO f g h i j k a c e l)::(aJ,nO af ag ah ai aj ak z aa ab al)::·) F6 fun e5 I6 G5=>∃(av aw ax ay az:Int) (aA:Bs) (am:OA) (an ao:Nat) (aB:Int),e5=.returned (nV av aw ax ay az aA am an ao aB)∧G5 fun F7=>(∃m3:Nat,m3<m1∧Inv5 s t u v w x n o q y av aw ax ay az aA am an ao aB m3 I6 F7)))
theorem fZ.vc{p:Addr}{d:Int}{I:cc}{F:b8}{Q:cf}(Inv5:Int→Int→Int→Int→Int→Bs→OA→Nat→Nat→Int→Int→Int→Int→Int→Int→Bs→OA→Nat→Nat→Int→Nat→cc→b8→Prop)(h:fZ.V (fun k o t n f s a l c q=>.agg #[.int .u8 k,.int .u8 o,.int .u8 t,.int .i64 n,.int .u8 f,.string s,.slice a l c,.int .i64 q]) (fun k o t n f s a l c q=>.cells #[.int .u8 k,.int .u8 o,.int .u8 t,.int .i64 n,.int .u8 f,.string s,.slice a l c,.int .i64 q] 28 (0,0)) (.int .i64) .pointer p d I F Q Inv5):cg P 120 #[.pointer (some p),.int .i64 d] I F Q :=
 tw (A:=(cQ [3001] [] [86,88,121,145] kv [(5,⟨[],[(0,[(.int .u8),(.int .u8),(.int .u8),(.int .i64),(.int .u8),.str,.slc,(.int .i64)]),(1,[(.int .u8),(.int .u8),(.int .u8),(.int .i64),(.int .u8),.str,.slc,(.int .i64)])],fun _ _ _ vs m I F=>match vs with | [.int _ y0,.int _ y1,.int _ y2,.int _ y3,.int _ y4,.string y5,.slice y6 y7 y8,.int _ y9,.int _ y10,.int _ y11,.int _ y12,.int _ y13,.int _ y14,.string y15,.slice y16 y17 y18,.int _ y19]=>Inv5 y0 y1 y2 y3 y4 y5 y6 y7 y8 y9 y10 y11 y12 y13 y14 y15 y16 y17 y18 y19 m I F | _=>False,[],[]⟩)] [] [] [] [] [] [])) [86,88,121,145] func120 h
def gS.V(nV:Int→Int→Int→Int→Int→Bs→OA→Nat→Nat→Int→Value)(nO:Int→Int→Int→Int→Int→Bs→OA→Nat→Nat→Int→Obj)(vi:Int→Value)(vp:OA→Value)(p:Addr)(d:Int)(I:cc)(F:b8)(Q:cf)(Inv5:Int→Int→Int→Int→Int→Bs→OA→Nat→Nat→Int→Int→Int→Int→Int→Int→Bs→OA→Nat→Nat→Int→Nat→cc→b8→Prop):Prop:=∀b:Nat,de P 120 (#[vp (some p),vi d]) I ((b,nO 0 0 0 0 0 (⟨#[]⟩:Bs) none 0 0 0)::·) F fun e1 I1 G1=>∃(aC aD aE aF aG:Int) (aH:Bs) (ap:OA) (aq ar:Nat) (aI:Int),e1=.returned (nV aC aD aE aF aG aH ap aq ar aI)∧G1 fun F1=>∀ac:Nat,(∃m:Nat,Inv5 0 0 0 0 0 (⟨#[]⟩:Bs) none 0 0 0 aC aD aE aF aG aH ap aq ar aI m I1 F1)∧∀(s t u v w:Int) (x:Bs) (n:OA) (o q:Nat) (y f g h i j:Int) (k:Bs) (a:OA) (c e:Nat) (l:Int) (m1:Nat) (I2:cc) (F2:b8),cc.le I1 I2→Inv5 s t u v w x n o q y f g h i j k a c e l m1 I2 F2→cF P 86 (#[vp (some p),.string (⟨#[124,124]⟩:Bs)]) I2 ((b,nO s t u v w x n o q y)::(ac,nO f g h i j k a c e l)::·) F2 .bool fun r I3 F3=>(It (!r) (Q (.returned (nV f g h i j k a c e l)) I3 F3) (de P 88 (#[vp (some p)]) I3 ((b,nO s t u v w x n o q y)::(ac,nO f g h i j k a c e l)::·) F3 fun e3 I4 G3=>∃(aK:Int) (aL:Bs) (aM aN au:Int),e3=.returned (.agg #[.int .u8 aK,.string aL,.int .u8 aM,vi aN,vi au])∧G3 fun F4=>∃ad:Addr,some p=some ad∧∃(m2:Int),Rd I4 ((b,nO s t u v w x n o q y)::(ac,nO f g h i j k a c e l)::F4) (ad.add 3) [vi m2]∧∃ae:Addr,some p=some ae∧∃(cs:List Value) (el:Nat) (F5:b8),List.Perm F4 (((ae.add 3).block,Obj.cells cs.toArray el (0,0))::F5)∧(ae.add 3).spot=none∧(ae.add 3).off+1≤cs.length∧cg P 120 (#[vp (some p),vi d]) I4 ((b,nO s t u v w x n o q y)::(ac,nO f g h i j k a c e l)::(((ae.add 3).block,Obj.cells (cp (ae.add 3).off [vi (IntKind.wrap .i64 (m2+1))] cs).toArray el (0,0))::F5)) fun e4 I5 G4=>∃(af ag ah ai aj:Int) (ak:Bs) (z:OA) (aa ab:Nat) (al:Int),e4=.returned (nV af ag ah ai aj ak z aa ab al)∧∃F6:b8,List.Perm G4 ((b,nO s t u v w x n o q y)::(ac,nO f g h i j k a c e l)::F6)∧∀aJ:Nat,de P 121 #[.int .u8 18,vi au,nV f g h i j k a c e l,nV af ag ah ai aj ak z aa ab al] I5 ((b,nO s t u v w x n o q y)::(ac,nO f g h i j k a c e l)::(aJ,nO af ag ah ai aj ak z aa ab al)::·) F6 fun e5 I6 G5=>∃(av aw ax ay az:Int) (aA:Bs) (am:OA) (an ao:Nat) (aB:Int),e5=.returned (nV av aw ax ay az aA am an ao aB)∧G5 fun F7=>(∃m3:Nat,m3<m1∧Inv5 s t u v w x n o q y av aw ax ay az aA am an ao aB m3 I6 F7)))
theorem gS.vc{p:Addr}{d:Int}{I:cc}{F:b8}{Q:cf}(Inv5:Int→Int→Int→Int→Int→Bs→OA→Nat→Nat→Int→Int→Int→Int→Int→Int→Bs→OA→Nat→Nat→Int→Nat→cc→b8→Prop)(h:gS.V (fun k o t n f s a l c q=>.agg #[.int .u8 k,.int .u8 o,.int .u8 t,.int .i64 n,.int .u8 f,.string s,.slice a l c,.int .i64 q]) (fun k o t n f s a l c q=>.cells #[.int .u8 k,.int .u8 o,.int .u8 t,.int .i64 n,.int .u8 f,.string s,.slice a l c,.int .i64 q] 28 (0,0)) (.int .i64) .pointer p d I F Q Inv5):cg P 85 #[.pointer (some p),.int .i64 d] I F Q :=
 tw (A:=(cQ [3001] [] [86,88,120,121] kv [(5,⟨[],[(0,[(.int .u8),(.int .u8),(.int .u8),(.int .i64),(.int .u8),.str,.slc,(.int .i64)]),(1,[(.int .u8),(.int .u8),(.int .u8),(.int .i64),(.int .u8),.str,.slc,(.int .i64)])],fun _ _ _ vs m I F=>match vs with | [.int _ y0,.int _ y1,.int _ y2,.int _ y3,.int _ y4,.string y5,.slice y6 y7 y8,.int _ y9,.int _ y10,.int _ y11,.int _ y12,.int _ y13,.int _ y14,.string y15,.slice y16 y17 y18,.int _ y19]=>Inv5 y0 y1 y2 y3 y4 y5 y6 y7 y8 y9 y10 y11 y12 y13 y14 y15 y16 y17 y18 y19 m I F | _=>False,[],[]⟩)] [] [] [] [] [] [])) [86,88,120,121] func85 h
def fK.V(nV:Int→Int→Int→Int→Int→Bs→OA→Nat→Nat→Int→Value)(nO:Int→Int→Int→Int→Int→Bs→OA→Nat→Nat→Int→Obj)(vb vi:Int→Value)(vs:Bs→Value)(vp:OA→Value)(p:Addr)(d:Int)(I:cc)(F:b8)(Q:cf)  : Prop:=∀b:Nat,de P 85 (#[vp (some p),vi d]) I ((b,nO 0 0 0 0 0 (⟨#[]⟩:Bs) none 0 0 0)::·) F fun e1 I1 G1=>∃(f g h i j:Int) (k:Bs) (a:OA) (c e:Nat) (l:Int),e1=.returned (nV f g h i j k a c e l)∧G1 fun F1=>∀s:Nat,cF P 86 (#[vp (some p),vs (⟨#[63]⟩:Bs)]) I1 ((b,nO 0 0 0 0 0 (⟨#[]⟩:Bs) none 0 0 0)::(s,nO f g h i j k a c e l)::·) F1 .bool fun r I2 F2=>(It (!r) (Q (.returned (nV f g h i j k a c e l)) I2 F2) (cF P 87 (#[vp (some p),vi d]) I2 ((b,nO 0 0 0 0 0 (⟨#[]⟩:Bs) none 0 0 0)::(s,nO f g h i j k a c e l)::·) F2 .bool fun r1 I3 F3=>(It (!r1) (Q (.returned (nV 0 0 0 0 0 (⟨#[]⟩:Bs) none 0 0 0)) I3 F3) (de P 88 (#[vp (some p)]) I3 ((b,nO 0 0 0 0 0 (⟨#[]⟩:Bs) none 0 0 0)::(s,nO f g h i j k a c e l)::·) F3 fun e4 I4 G4=>∃(ao:Int) (ap:Bs) (aq ar ag:Int),e4=.returned (.agg #[vb ao,vs ap,vb aq,vi ar,vi ag])∧G4 fun F4=>∃ad:Addr,some p=some ad∧∃(m:Int),Rd I4 ((b,nO 0 0 0 0 0 (⟨#[]⟩:Bs) none 0 0 0)::(s,nO f g h i j k a c e l)::F4) (ad.add 3) [vi m]∧∃aa:Addr,some p=some aa∧∃(cs:List Value) (el:Nat) (F5:b8),List.Perm F4 (((aa.add 3).block,Obj.cells cs.toArray el (0,0))::F5)∧(aa.add 3).spot=none∧(aa.add 3).off+1≤cs.length∧cg P 53 (#[vp (some p),vi (IntKind.wrap .i64 (d+1))]) I4 ((b,nO 0 0 0 0 0 (⟨#[]⟩:Bs) none 0 0 0)::(s,nO f g h i j k a c e l)::(((aa.add 3).block,Obj.cells (cp (aa.add 3).off [vi (IntKind.wrap .i64 (m+1))] cs).toArray el (0,0))::F5)) fun e5 I5 G5=>∃(t u v w x:Int) (y:Bs) (n:OA) (o q:Nat) (z:Int),e5=.returned (nV t u v w x y n o q z)∧∃F6:b8,List.Perm G5 ((b,nO 0 0 0 0 0 (⟨#[]⟩:Bs) none 0 0 0)::(s,nO f g h i j k a c e l)::F6)∧∀af:Nat,cF P 89 (#[vp (some p),vs (⟨#[58]⟩:Bs)]) I5 ((b,nO 0 0 0 0 0 (⟨#[]⟩:Bs) none 0 0 0)::(s,nO f g h i j k a c e l)::(af,nO t u v w x y n o q z)::·) F6 vi fun r2 I6 F7=>de P 53 (#[vp (some p),vi (IntKind.wrap .i64 (d+1))]) I6 ((b,nO 0 0 0 0 0 (⟨#[]⟩:Bs) none 0 0 0)::(s,nO f g h i j k a c e l)::(af,nO t u v w x y n o q z)::·) F7 fun e7 I7 G7=>∃(ah ai aj ak al:Int) (am:Bs) (ab:OA) (ac ae:Nat) (an:Int),e7=.returned (nV ah ai aj ak al am ab ac ae an)∧G7 fun F8=>∀au:Nat,∀(b1:Nat) (I8:cc),cc.le I7 I8→I8 b1=some (Obj.cells #[vb f,vb g,vb h,vi i,vb j,vs k,.slice a c e,vi l,vb t,vb u,vb v,vi w,vb x,vs y,.slice n o q,vi z,vb ah,vb ai,vb aj,vi ak,vb al,vs am,.slice ab ac ae,vi an] 28 (0,0))→Q (.returned (nV 7 0 0 0 0 (⟨#[]⟩:Bs) (some ⟨b1,0,none⟩) 3 3 ag)) I8 F8))))
theorem fK.vc{p:Addr}{d:Int}{I:cc}{F:b8}{Q:cf}  (h:fK.V (fun k o t n f s a l c q=>.agg #[.int .u8 k,.int .u8 o,.int .u8 t,.int .i64 n,.int .u8 f,.string s,.slice a l c,.int .i64 q]) (fun k o t n f s a l c q=>.cells #[.int .u8 k,.int .u8 o,.int .u8 t,.int .i64 n,.int .u8 f,.string s,.slice a l c,.int .i64 q] 28 (0,0)) (.int .u8) (.int .i64) .string .pointer p d I F Q):cg P 53 #[.pointer (some p),.int .i64 d] I F Q :=
 tw (A:=(cQ [3001,6001] [] [53,85,86,87,88,89] kv [] [13003] [] [] [] [] [])) [53,85,86,87,88,89] func53 h
def oU.V(vb vi:Int→Value)(o h i j k l m:Int)(n:Bs)(a:OA)(c d:Nat)(p q r s t u:Int)(v:Bs)(e:OA)(f g:Nat)(w:Int)(I:cc)(F:b8)(Q:cf)  : Prop:=∀x:Nat,∀y:Nat,∀b:Nat,∀(b1:Nat) (I1:cc),cc.le I I1→I1 b1=some (Obj.cells #[vb i,vb j,vb k,vi l,vb m,.string n,.slice a c d,vi p,vb q,vb r,vb s,vi t,vb u,.string v,.slice e f g,vi w] 28 (0,0))→Q (.returned (.agg #[vb 6,vb o,vb 0,vi 0,vb 0,.string (⟨#[]⟩:Bs),.slice (some ⟨b1,0,none⟩) 2 2,vi h])) I1 (F)
theorem oU.vc{o g i j k l m:Int}{n:Bs}{a:OA}{b c:Nat}{p q r s t u:Int}{v:Bs}{d:OA}{e f:Nat}{w:Int}{I:cc}{F:b8}{Q:cf}  (h:oU.V (.int .u8) (.int .i64) o g i j k l m n a b c p q r s t u v d e f w I F Q):cg P 121 #[.int .u8 o,.int .i64 g,.agg #[.int .u8 i,.int .u8 j,.int .u8 k,.int .i64 l,.int .u8 m,.string n,.slice a b c,.int .i64 p],.agg #[.int .u8 q,.int .u8 r,.int .u8 s,.int .i64 t,.int .u8 u,.string v,.slice d e f,.int .i64 w]] I F Q :=
 tw (A:=(cQ [] [] [] kv [] [1003] [] [] [] [] [])) [] func121 h
end Go.Lx
namespace Go.Lx
open Go.Vc
section
variable {c:PC} {s:PS}
theorem qW:s.inc.next=s.next+1:=rfl
theorem qk(e:Int):(c.cZ e s).next=s.next:=by
 unfold PC.cZ;split
 ·rfl
 ·split<;>rfl
theorem zx(d:Int):(c.cU d s).next=s.next:=by
 unfold PC.cU;split
 ·exact qk _
 ·rfl
theorem si(n m:Nat):(c.many n m s).next=s.next:=by
 unfold PC.many;split
 ·exact qk _
 ·rfl
theorem uV{e:Int}(he:e≠0)(hl:s.next<c.l.length):(c.cZ e s).over=true:=by
 unfold PC.cZ
 split
 ·assumption
 ·rw[if_neg (by omega)]
  simpa[PS.over] using he
theorem ia{d:Int}(hl:s.next<c.l.length)(h:(c.cU d s).over=false):d+1≤24∧c.cU d s=s:=by
 unfold PC.cU at h ⊢
 split
 ·rename_i hd
  rw[if_pos hd,uV (by decide) hl] at h
  cases h
 ·rename_i hd
  exact⟨by omega,rfl⟩
theorem kS{n m:Nat}(hl:s.next<c.l.length)(h:(c.many n m s).over=false):n<m∧c.many n m s=s:=by
 unfold PC.many at h ⊢
 split
 ·rename_i hd
  rw[if_pos hd,uV (by decide) hl] at h
  cases h
 ·rename_i hd
  exact⟨by omega,rfl⟩
def Up(c:PC)(s s':PS):Prop:=s.next≤s'.next∧(s.next≤c.l.length→s'.next≤c.l.length)
theorem Up.refl:Up c s s:=⟨Nat.le_refl _,fun h=>h⟩
theorem Up.trans{a b d:PS}(h:Up c a b)(h':Up c b d):Up c a d:=⟨Nat.le_trans h.1 h'.1,fun h0=>h'.2 (h.2 h0)⟩
theorem Up.inc(hl:s.next<c.l.length):Up c s s.inc:=⟨Nat.le_succ _,fun _=>hl⟩
theorem Up.of_eq{s':PS}(h:s'.next=s.next):Up c s s':=⟨by omega,fun _=>by omega⟩
theorem Up.cZ(e:Int):Up c s (c.cZ e s):=.of_eq (qk e)
theorem Up.cU(d:Int):Up c s (c.cU d s):=.of_eq (zx d)
theorem Up.many(n m:Nat):Up c s (c.many n m s):=.of_eq (si n m)
theorem Up.take(w:ByteArray):Up c s (c.take w s).2:=by
 unfold PC.take;split
 ·rename_i h;exact .inc (dY h)
 ·exact .cZ _
theorem Up.name:Up c s (c.name s).2:=by
 unfold PC.name;split
 ·rename_i h;exact .inc (lC (by rw[h];decide))
 ·exact .cZ _
theorem Up.literal:Up c s (c.literal s).2:=by
 unfold PC.literal
 split
 ·rename_i h;exact .inc (lC (by rw[h];decide))
 ·split
  ·rename_i h;exact .inc (lC (by rw[h.1];decide))
  ·split
   ·rename_i h;exact .inc (lC (by rw[h.1];decide))
   ·exact .refl
end
def dU(c:PC){α:Type}(f:PS→α×PS):Prop:=∀s,Up c s (f s).2
section
variable {c:PC} {nx:Lv} (hx:dU c nx.ex) (hu:dU c nx.un)
include hx
theorem Up.kids:∀(n:Nat) (f:Bool) (s:PS),Up c s (c.oc nx n f s).2
 | 0,f,s=>.refl
 | n+1,f,s=>by
   rw[PC.oc]
   refine Up.trans ?_ (Up.kids n false _)
   refine Up.trans ?_ (hx _)
   split
   ·exact .refl
   ·exact .take _
theorem Up.call{d kind oper cx pos:Int}{many:Nat}{s:PS}(hl:s.next<c.l.length):Up c s (c.call nx d kind oper cx pos many s).2:=by
 unfold PC.call
 split
 ·exact .cU _
 ·rename_i h
  obtain⟨_,he⟩:=ia hl (by simpa using h)
  rw[he]
  exact ((Up.inc hl).trans (.take _)).trans ((Up.kids hx _ _ _).trans (.take _))
theorem Up.rest(d:Int):dU c (c.rest nx d):=fun s=>by
 unfold PC.rest
 split
 ·rename_i h
  have hl:=dY h
  split
  ·exact (Up.inc hl).trans (.cZ _)
  ·rename_i h2
   exact (Up.inc hl).trans (.inc (dZ (Int.not_lt.1 h2)).1)
 ·split
  ·rename_i h
   have hl:=dY h
   split
   ·exact .cU _
   ·rename_i h2
    obtain⟨_,he⟩:=ia hl (by simpa using h2)
    rw[he]
    exact (Up.inc hl).trans ((hx _).trans (.take _))
  ·exact .cZ _
theorem Up.one(d:Int):dU c (c.one nx d):=fun s=>by
 unfold PC.one
 split
 ·exact .literal
 ·split
  ·rename_i h;exact .inc (lC (by rw[h];decide))
  ·split
   ·rename_i h;exact .inc (dZ h).1
   ·split
    ·rename_i h;exact .call hx (dZ h).1
    ·split
     ·rename_i h;exact .call hx (dZ h).1
     ·exact Up.rest hx d s
include hu
theorem Up.unary(d:Int):dU c (c.unary nx d):=fun s=>by
 unfold PC.unary
 split
 ·exact Up.one hx d s
 ·rename_i h
  have hl:=(dZ (c:=c) (s:=s) (ws:=sQ) (by omega)).1
  split
  ·exact .cU _
  ·rename_i h2
   obtain⟨_,he⟩:=ia hl (by simpa using h2)
   rw[he]
   exact (Up.inc hl).trans (hu _)
end
theorem Up.jx{c:PC}{ws:List ByteArray}{o:Int}{sub:PS→Px×PS}(h:dU c sub):∀(m:Nat) (n:Px) (s:PS),Up c s (c.jx ws o sub m n s).2
 | 0,n,s=>.refl
 | m+1,n,s=>by
   rw[PC.jx]
   split
   ·exact .refl
   ·rename_i h2
    exact ((Up.inc (dZ (Int.not_lt.1 h2)).1).trans (h _)).trans (Up.jx h m _ _)
theorem Up.loop{c:PC}{ws:List ByteArray}{o:Int}{sub:PS→Px×PS}(h:dU c sub):dU c (c.loop ws o sub):=fun s=>(h s).trans (.jx h _ _ _)
section
variable {c:PC} {nx:Lv} (hx:dU c nx.ex) (hu:dU c nx.un) (d:Int)
include hx hu
theorem Up.product:dU c (c.product nx d):=Up.loop (Up.unary hx hu d)
theorem Up.sum:dU c (c.sum nx d):=Up.loop (Up.product hx hu d)
theorem Up.compare:dU c (c.compare nx d):=fun s=>by
 unfold PC.compare
 have h1:=Up.sum hx hu d s
 show Up c s (if c.any xL (c.sum nx d s).2<0 then c.sum nx d s else _).2
 split
 ·exact h1
 ·rename_i h2
  exact (h1.trans (.inc (dZ (Int.not_lt.1 h2)).1)).trans (Up.sum hx hu d _)
theorem Up.and:dU c (c.and nx d):=Up.loop (Up.compare hx hu d)
theorem Up.or:dU c (c.or nx d):=Up.loop (Up.and hx hu d)
theorem Up.expr:dU c (c.expr nx d):=fun s=>by
 unfold PC.expr
 have h1:=Up.or hx hu d s
 show Up c s (if c.kB _ (c.or nx d s).2 then _ else _:Px×PS).2
 split
 ·rename_i h2
  have hl:=dY h2
  show Up c s (if (c.cU d (c.or nx d s).2).over then _ else _:Px×PS).2
  split
  ·exact h1.trans (.cU _)
  ·rename_i h3
   obtain⟨_,he⟩:=ia hl (by simpa using h3)
   rw[he]
   exact h1.trans ((Up.inc hl).trans ((hx _).trans ((Up.take _).trans (hx _))))
 ·exact h1
end
theorem Up.lvl{c:PC}:∀(k:Nat) (d:Int),dU c (c.lvl k d).ex∧dU c (c.lvl k d).un
 | 0,d=>⟨Up.expr (fun s=>.refl) (fun s=>.refl) d,Up.unary (fun s=>.refl) (fun s=>.refl) d⟩
 | k+1,d=>⟨Up.expr (Up.lvl k (d+1)).1 (Up.lvl k (d+1)).2 d,Up.unary (Up.lvl k (d+1)).1 (Up.lvl k (d+1)).2 d⟩
theorem Up.ij{c:PC}:dU c c.ij:=(Up.lvl 24 0).1
def fL(q:PQ)(b:Nat)(F0:b8)(r:Px×PS)(e:Ending)(I:cc)(G:b8):Prop:=∃t:Nd,e=.returned t.v∧t.px=r.1∧cH I [] t∧G.Perm (q.cy b r.2::F0)
def zy(q:PQ)(b:Nat)(F0:b8)(r:Px×PS)(e:Ending)(I:cc)(G:b8):Prop:=∃(t:Nd) (A:b8),e=.returned t.v∧t.px=r.1∧(Acc 8 Nd.enc 28 t.a t.kids.length t.c t.kids A∨A=[]∧dy I [] 8 Nd.enc t.a t.kids.length t.kids)∧(∀k∈t.kids,cH I [] k)∧G.Perm (q.cy b r.2::(A++F0))
theorem zy.keep{f:Nat}{args:Array Value}{I:cc}{F F0:b8}{q:PQ}{b:Nat}{r:Px×PS}(h:cg P f args I F (zy q b F0 r)):cg P f args I F (fL q b F0 r):=by
 refine h.keep fun e I' G w hl hs ⟨t,A,he,px,hA,hk,hG⟩=>?_
 rcases hA with hA | ⟨rfl,hA⟩
 ·obtain⟨J,h1,h2,h3⟩:=Acc.keep (z:=8) (f:=Nd.enc) Nd.oH hA (hs.perm (hG.trans (cW fun z=>by simp only[c8,dp];omega):G.Perm (A++(q.cy b r.2::F0))))
  exact⟨J,_,h1,h2,t,he,px,.mk (h3.yl []) fun k hkm=>(hk k hkm).mono h1 fun _ h=>h,.refl _⟩
 ·exact⟨I',G,cc.le_refl _,hs,t,he,px,.mk hA hk,hG⟩
theorem fL.own{q:PQ}{b:Nat}{F0:b8}{r:Px×PS}{e:Ending}{I:cc}{G:b8}(h:fL q b F0 r e I G):zy q b F0 r e I G:=by
 obtain⟨t,he,px,hok,hG⟩:=h
 exact⟨t,[],he,px,.inr ⟨rfl,hok.sl⟩,hok.Jg,hG⟩
def ej(f:Nat)(q:PQ)(d:Int)(g:PS→Px×PS):Prop:=∀(b:Nat) (s:PS) (I:cc) (F F0:b8),q.ok I→s.next≤q.c.l.length→F.Perm (q.cy b s::F0)→cg P f #[.pointer (some ⟨b,0,none⟩),.int .i64 d] I F (fL q b F0 (g s))
theorem fL.nil{q:PQ}{b:Nat}{F0:b8}{r:Px×PS}{I:cc}{G:b8}{k o ty n f pos:Int}{s:ByteArray}(h:r.1=.mk k o ty n f s [] pos)(hG:G.Perm (q.cy b r.2::F0)):fL q b F0 r (.returned (Nd.mk k o ty n f s none 0 [] pos).v) I G :=
 ⟨_,rfl,by rw[h];simp only[Nd.px,Nd.AW],.leaf,hG⟩
theorem cH.EL{I:cc}{b:Nat}{l:List Nd}(hb:I b=some (.cells (l.flatMap Nd.enc).toArray 28 (0,0)))(hk:∀k∈l,cH I [] k)(k o ty n f pos:Int)(s:ByteArray)(c:Nat):cH I [] (.mk k o ty n f s (some ⟨b,0,none⟩) c l pos):=by
 have hS:Sl I 8 Nd.enc (some ⟨b,0,none⟩) l.length l:=Sl.kg (f:=Nd.enc) (z:=8) Nd.oH hb (by simp)
 exact .mk (hS.yl []) hk
theorem zz(o pos:Int)(x y:Nd)(I:cc)(F:b8)(hx:cH I [] x)(hy:cH I [] y):cg P 121 #[.int .u8 o,.int .i64 pos,x.v,y.v] I F fun e I' G=>∃t:Nd,e=.returned t.v∧t.px=Ho o pos x.px y.px∧cH I' [] t∧G=F:=by
 refine oU.vc ?_
 unfold oU.V
 intro b_a b_b b b1 I1 l1 hb
 refine⟨.mk 6 o 0 0 0 ⟨#[]⟩ (some ⟨b1,0,none⟩) 2 [x,y] pos,rfl,by simp only[Nd.px,Nd.AW];rfl,cH.EL hb (fun k hk=>?_) ..,rfl⟩
 rcases List.mem_cons.1 hk with rfl | hk
 ·exact hx.mono l1 fun _ h=>h
 ·rw[List.mem_singleton] at hk;subst hk;exact hy.mono l1 fun _ h=>h
end Go.Lx
namespace Go.Lx
open Go.Vc
theorem uW{a:Option Addr}{n c b1:Nat}{ks:List Nd}{A F R:b8}{I:cc}(hA:Acc 8 Nd.enc 28 a n c ks A)(hl:ks.length≤1000000)(t:Nd)(hb:I b1=some (.cells t.enc.toArray 28 (0,0)))(hF:F.Perm (A++R)) :
  cE P (Builtin.append_ #[26,26] 26 #[.slice a n c,.slice (some ⟨b1,0,none⟩) 1 1]) I F fun v I' G=>∃a' n' c' A',v=.slice a' n' c'∧Acc 8 Nd.enc 28 a' n' c' (ks++[t]) A'∧G.Perm (A'++R):=by
 refine cE.perm (cE.mono (eF (f:=Nd.enc) (z:=8) (zv:=ik.v) Nd.oH (by':=72) (by kernel_rfl) (by kernel_rfl) rfl (by decide) hA (xs:=[t]) (fun x hx=>by rw[List.mem_singleton] at hx;subst hx;exact Nd.Cn x) (by simp) rfl ?_ (by simp only[List.length_cons,List.length_nil];omega) (F:=R)) fun v I' G _ ⟨a',n',c',A',h1,h2,h3,_⟩=>⟨a',n',c',A',h1,h2,by rw[h3]⟩) hF
 exact⟨rfl,_,_,_,.inl hb,fun j hj=>by simp⟩
section
variable {q:PQ} {b:Nat} {s:PS} {I:cc} {F F0:b8}
theorem wS(hq:q.ok I)(hF:F.Perm (q.cy b s::F0)):cg P 123 #[.pointer (some ⟨b,0,none⟩)] I F fun e1 I' G=>∃t:Nd,e1=.returned (.tuple #[t.v,.bool (q.c.literal s).1.2])∧t.px=(q.c.literal s).1.1∧cH I' [] t∧G.Perm (q.cy b (q.c.literal s).2::F0):=by
 have hm:q.cy b s∈F:=hF.mem_iff.2 (.head _)
 have hl:=hq.len
 refine eG.vc (fun x b0 b1 b2 b3 b4 b5 ba bn bc b7 n0 n1 n2 n3 n4 n5 na nn nc n7 I' F'=>F'=F∧na=none∧nn=0∧nc=0∧q.c.literal s=((.mk n0 n1 n2 n3 n4 n5 [] n7,true),s.inc)∧s.next<q.c.l.length) ?_
 unfold eG.V
 intro b1
 refine cg.ret (jJ hq (.tail _ hm)) fun I1 l1=>⟨_,_,_,_,_,rfl,F,.refl _,fun b_t b_n=>⟨?_,fun x b0 b1' b2 b3 b4 b5 ba bn bc b7 n0 n1 n2 n3 n4 n5 na nn nc n7 I2 F2 l2 ⟨gF,ga,gn,gc,ge,hlt⟩=>?_⟩⟩
 ·have hk3:(q.c.now s).kind=3→s.next<q.c.l.length:=fun h=>lC (by rw[h];decide)
  have hk1:(q.c.now s).kind=1→s.next<q.c.l.length:=fun h=>lC (by rw[h];decide)
  have hz:∀(I':cc),q.c.literal s=((nZ,false),s)→∃t:Nd,Ending.returned (.tuple #[ik.v,.bool false])=.returned (.tuple #[t.v,.bool (q.c.literal s).1.2])∧t.px=(q.c.literal s).1.1∧cH I' [] t∧F.Perm (q.cy b (q.c.literal s).2::F0):=fun I' h=>by
   rw[h];exact⟨ik,rfl,by simp only[ik,Nd.px,Nd.AW];rfl,.leaf,hF⟩
  unfold PC.literal at hz ⊢
  generalize q.c.now s=t at *
  generalize (⟨#[116,114,117,101]⟩:ByteArray).toList=wt at *
  generalize (⟨#[102,97,108,115,101]⟩:ByteArray).toList=wf at *
  generalize (⟨#[98,117,121]⟩:ByteArray).toList=wb at *
  generalize (⟨#[115,101,108,108]⟩:ByteArray).toList=ws at *
  simp only[beq_iff_eq,beq_eq_false_iff_ne,ne_eq]
  repeat' (first | (with_reducible apply And.intro) | (with_reducible intro h))
  all_goals first
   | rfl
   | (refine hz I1 ?_;simp_all;done)
   | (simp_all [FK];done)
   | (exfalso;simp_all;done)
 ·subst gF ga gn gc
  refine⟨_,rfl,_,PQ.rd (k:=3) (.tail _ (.tail _ (.tail _ hm))) rfl,_,rfl,q.cl s,107,F0,hF,PQ.spot _ _,by rw[PQ.off];exact (by decide:3+1≤7), ?_⟩
  rw[PQ.eh (by omega),ge]
  exact⟨.mk n0 n1 n2 n3 n4 n5 none 0 [] n7,rfl,by simp only[Nd.px,Nd.AW],.leaf,.refl _⟩
end
end Go.Lx
