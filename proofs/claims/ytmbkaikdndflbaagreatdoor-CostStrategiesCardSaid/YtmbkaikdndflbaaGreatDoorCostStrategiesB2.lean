import Derived.Test.YtmbkaikdndflbaaGreatDoorCostStrategiesB1
set_option linter.unusedVariables false
set_option linter.unusedSimpArgs false
set_option linter.unusedSectionVars false
set_option maxRecDepth 100000
namespace Go.Vc
section
variable {P:Program} {ro:Option Nat} {ops:Array Oper} {pu:Oper→Bool} {R:Act→World→Prop} {Inv:World→Prop} {os:List Nat}
theorem takeI_R{R':Act→World→Prop}{i:Nat}{K:Act→World→Prop}{a:Act}{w:World}(h:takeI P ro ops pu R Inv os i K a w):takeI P ro ops pu R' Inv os i K a w:=by
 unfold takeI at h ⊢
 split
 ·rename_i hi;rw[if_pos hi] at h;exact h
 ·rename_i hi;rw[if_neg hi] at h;exact takeG_Q h
def wpT(P:Program)(ro:Option Nat)(ops:Array Oper)(pu:Oper→Bool)(R:Act→World→Prop)(Inv:World→Prop)(os:List Nat):Ot→Act→World→Prop
 | .fin pre post,a,w=>wpI P ro ops pu (wpG P ro ops pu (Qx R) post) Inv os pre a w
 | .fork pre i j x y,a,w=>wpI P ro ops pu (fun a w=>takeI P ro ops pu R Inv os i (wpT P ro ops pu R Inv os x) a w∧takeI P ro ops pu R Inv os j (wpT P ro ops pu R Inv os y) a w) Inv os pre a w
theorem wpI_mono{R R':Act→World→Prop}(h:∀a w,Inv w→R a w→R' a w):∀(l:List Nat) (a:Act) (w:World),Inv w→wpI P ro ops pu R Inv os l a w→wpI P ro ops pu R' Inv os l a w
 | [],a,w,hw,hh=>h a w hw hh
 | i::l,a,w,hw,hh=>takeI_R (R:=R) (takeI_mono hw (fun a w hI hk=>wpI_mono h l a w hI hk) hh)
theorem wpI_app{R:Act→World→Prop}:∀(l m:List Nat) (a:Act) (w:World),Inv w→wpI P ro ops pu (wpI P ro ops pu R Inv os m) Inv os l a w→wpI P ro ops pu R Inv os (l++m) a w
 | [],m,a,w,hw,h=>h
 | i::l,m,a,w,hw,h=>takeI_R (R:=wpI P ro ops pu R Inv os m) (takeI_mono hw (fun a w hI hk=>wpI_app l m a w hI hk) h)
def rowP(ops:Array Oper)(pu:Oper→Bool)(os:List Nat):List Nat→List Nat→Bool
 | [],_=>true
 | k::r,m=>!waits ops k k&&((r++m).all fun i=>!waits ops k i&&k != i&&(wr ops i k||okPairI ops pu os k i))&&rowP ops pu os r m
theorem rowP_drop{m:List Nat}:∀(pre:List Nat) {i:Nat} {post:List Nat},rowP ops pu os (pre++i::post) m=true→rowP ops pu os (pre++post) m=true∧(∀k∈pre,k≠i∧(wr ops i k||okPairI ops pu os k i)=true)∧i∉post∧i∉m
 | [],i,post,h=>by
   simp only[List.nil_append,rowP,Bool.and_eq_true] at h
   refine⟨h.2,fun k hk=>(by cases hk),fun hm=>?_,fun hm=>?_⟩
   ·have:=List.all_eq_true.1 h.1.2 i (List.mem_append_left _ hm);simp at this
   ·have:=List.all_eq_true.1 h.1.2 i (List.mem_append_right _ hm);simp at this
 | k::pre,i,post,h=>by
   simp only[List.cons_append,rowP,Bool.and_eq_true] at h
   obtain⟨⟨h1,h2⟩,h3⟩:=h
   obtain⟨g1,g2,g3⟩:=rowP_drop pre h3
   refine⟨?_,fun j hj=>?_,g3⟩
   ·simp only[List.cons_append,rowP,Bool.and_eq_true]
    refine⟨⟨h1,List.all_eq_true.2 fun x hx=>List.all_eq_true.1 h2 x ?_⟩,g1⟩
    simp only[List.mem_append,List.mem_cons] at hx ⊢
    rcases hx with (hx | hx) | hx
    ·exact .inl (.inl hx)
    ·exact .inl (.inr (.inr hx))
    ·exact .inr hx
   ·rcases List.mem_cons.1 hj with rfl | hj
    ·have:=List.all_eq_true.1 h2 i (List.mem_append_left _ (List.mem_append_right _ (List.mem_cons_self ..)))
     simp only[Bool.and_eq_true,bne_iff_ne,ne_eq] at this
     exact⟨this.1.2,this.2⟩
    ·exact g2 j hj
theorem rowP_later{m:List Nat}:∀{pre:List Nat},rowP ops pu os pre m=true→∀k∈pre,∀i∈m,waits ops k i=false∧k≠i∧(wr ops i k||okPairI ops pu os k i)=true
 | j::r,h,k,hk,i,hi=>by
   simp only[rowP,Bool.and_eq_true] at h
   rcases List.mem_cons.1 hk with rfl | hk
   ·have:=List.all_eq_true.1 h.1.2 i (List.mem_append_right _ hi)
    simp only[Bool.and_eq_true,Bool.not_eq_true',bne_iff_ne,ne_eq] at this
    exact⟨this.1.1,this.1.2,this.2⟩
   ·exact rowP_later h.2 k hk i hi
def okT(ops:Array Oper)(pu:Oper→Bool)(os:List Nat):List Nat→Ot→Bool
 | acc,.fin pre post=>rowIB ops pu os (acc++pre)&&rowB ops pu post&&post.all fun i=>(acc++pre).all fun k=>wr ops i k && !waits ops k i
 | acc,.fork pre i j x y=>rowP ops pu os (acc++pre) (i::x.ops)&&((i::x.ops).all fun k=>(j::y.ops).contains k)&&((j::y.ops).all fun k=>(i::x.ops).contains k)&&((i::x.ops).length==(j::y.ops).length) &&
    ((i::x.ops).all fun k=>!waits ops i k)&&((i::x.ops).all fun k=>k==i||k==j||(i::x.ops).any fun l=>wr ops k l) && !x.ops.contains i && !y.ops.contains j&&okT ops pu os (acc++pre) x&&okT ops pu os (acc++pre) y
theorem okT_drop:∀(t:Ot) (p1 p2:List Nat) {i:Nat},okT ops pu os (p1++i::p2) t=true→okT ops pu os (p1++p2) t=true
 | .fin pre post,p1,p2,i,h=>by
   simp only[okT,Bool.and_eq_true] at h ⊢
   obtain⟨⟨h1,h2⟩,h3⟩:=h
   rw[List.append_assoc,List.cons_append] at h1
   refine⟨⟨?_,h2⟩,List.all_eq_true.2 fun x hx=>List.all_eq_true.2 fun k hk=>List.all_eq_true.1 (List.all_eq_true.1 h3 x hx) k ?_⟩
   ·rw[List.append_assoc];exact (rowIB_drop p1 h1).1
   ·simp only[List.mem_append,List.mem_cons] at hk ⊢
    rcases hk with (hk | hk) | hk
    ·exact .inl (.inl hk)
    ·exact .inl (.inr (.inr hk))
    ·exact .inr hk
 | .fork pre a b x y,p1,p2,i,h=>by
   simp only[okT,Bool.and_eq_true] at h ⊢
   obtain⟨⟨⟨⟨⟨⟨⟨⟨⟨h1,h2⟩,h3⟩,h4⟩,h5⟩,h6⟩,h7⟩,h8⟩,h9⟩,h10⟩:=h
   rw[List.append_assoc,List.cons_append] at h1 h9 h10
   rw[List.append_assoc]
   exact⟨⟨⟨⟨⟨⟨⟨⟨⟨(rowP_drop p1 h1).1,h2⟩,h3⟩,h4⟩,h5⟩,h6⟩,h7⟩,h8⟩,okT_drop x p1 (p2++pre) h9⟩,okT_drop y p1 (p2++pre) h10⟩
theorem key_GT(hop:∀(i:Nat) (o:Oper),ops[i]? = some o→noSD o.op=true∧∀e∈o.after,Region.binds .any e=true→e.on<ops.size) :
  ∀(fuel:Nat) (t:Ot) (acc:List Nat) (listed:Array Bool) (a:Act) (w:World),listed.size=ops.size→(acc++t.ops).length=fuel→(∀i,i∈acc++t.ops↔i<ops.size∧listed[i]? = some false) →
   (∀(j:Nat) (o:Oper),ops[j]? = some o→listed[j]? = some true→∀e∈o.after,Region.binds .any e=true→listed[e.on]? = some true)→okT ops pu os acc t=true→Inv w →
   wpI P ro ops pu (wpT P ro ops pu R Inv os t) Inv os acc a w→wpAnyIn (Fw ro) 0 P .any ops (Qx R) fuel listed a w:=by
 intro fuel
 induction fuel with
 | zero =>
   intro t acc listed a w hsz hf hm hcl hok hw h
   cases t with
   | fin pre post =>
     simp only[okT,Bool.and_eq_true] at hok
     obtain⟨⟨h1,h2⟩,h3⟩:=hok
     refine key_GI hop h2 0 (acc++pre) listed a w hsz (by rw[List.append_assoc];exact hf) (by rw[List.append_assoc];exact hm) hcl h1 (fun i hi k hk=>?_) hw (wpI_app acc pre a w hw h)
     have:=List.all_eq_true.1 (List.all_eq_true.1 h3 i hi) k hk
     simp only[Bool.and_eq_true,Bool.not_eq_true'] at this
     exact this
   | fork pre i j x y=>simp[Ot.ops] at hf
 | succ fuel ih =>
   intro t acc listed a w hsz hf hm hcl hok hw h
   cases t with
   | fin pre post =>
     simp only[okT,Bool.and_eq_true] at hok
     obtain⟨⟨h1,h2⟩,h3⟩:=hok
     refine key_GI hop h2 (fuel+1) (acc++pre) listed a w hsz (by rw[List.append_assoc];exact hf) (by rw[List.append_assoc];exact hm) hcl h1 (fun i hi k hk=>?_) hw (wpI_app acc pre a w hw h)
     have:=List.all_eq_true.1 (List.all_eq_true.1 h3 i hi) k hk
     simp only[Bool.and_eq_true,Bool.not_eq_true'] at this
     exact this
   | fork pre i j x y =>
   have hok0:okT ops pu os (acc++pre) (.fork [] i j x y)=true:=by
    simp only[okT] at hok ⊢
    rw[List.append_nil];exact hok
   simp only[okT,Bool.and_eq_true] at hok
   obtain⟨⟨⟨⟨⟨⟨⟨⟨⟨h1,h2⟩,h3⟩,h4⟩,h5⟩,h6⟩,h7⟩,h8⟩,h9⟩,h10⟩:=hok
   have h:=wpI_app acc pre a w hw h
   have hm2:∀z,z∈(acc++pre)++(i::x.ops)↔z<ops.size∧listed[z]? = some false:=fun z=>by rw[List.append_assoc];exact hm z
   have hf2:((acc++pre)++(i::x.ops)).length=fuel+1:=by rw[List.append_assoc];exact hf
   clear hm hf
   have hm:=hm2
   have hf:=hf2
   clear hm2 hf2
   generalize acc++pre=q at *
   have hrow:=fun k hk z hz=>rowP_later h1 k hk z hz
   have hset:∀z,z∈i::x.ops↔z∈j::y.ops:=fun z=>⟨fun hz=>by
    have:=List.all_eq_true.1 h2 z hz
    simpa only[List.contains_iff_mem] using this,fun hz=>by
    have:=List.all_eq_true.1 h3 z hz
    simpa only[List.contains_iff_mem] using this⟩
   have hlisted:∀z,z<ops.size→z∉q++(i::x.ops)→listed[z]? = some true:=fun z hz hn=>by
    have hjs:z<listed.size:=by omega
    rw[Array.getElem?_eq_getElem hjs]
    cases hb:listed[z] with
    | true=>rfl
    | false=>exact absurd ((hm z).2 ⟨hz,by rw[Array.getElem?_eq_getElem hjs,hb]⟩) hn
   have hhead:∃c,c∈q++(i::x.ops)∧∀z∈q++(i::x.ops),waits ops c z=false:=by
    cases q with
    | nil =>
      refine⟨i,.head _,fun z hz=>?_⟩
      have:=List.all_eq_true.1 h5 z hz
      simpa using this
    | cons c r =>
      refine⟨c,.head _,fun z hz=>?_⟩
      simp only[rowP,Bool.and_eq_true,Bool.not_eq_true'] at h1
      rcases List.mem_cons.1 hz with rfl | hz
      ·exact h1.1.1
      ·have:=List.all_eq_true.1 h1.1.2 z hz
       simp only[Bool.and_eq_true,Bool.not_eq_true'] at this
       exact this.1.1
   refine⟨fun h0=>?_,fun k hk=>?_⟩
   ·exfalso
    obtain⟨c,hc,hcw⟩:=hhead
    have hk:=(hm c).1 hc
    have:c∈Region.ready .any ops listed:=by
     refine mem_ready.2 ⟨by simp[Array.getD_eq_getD_getElem?,hk.2],ops[c],by simp[hk.1],fun e he hb=>?_⟩
     have hes:=(hop c ops[c] (by simp[hk.1])).2 e he hb
     have hwt:waits ops c e.on=true:=by
      unfold waits
      rw[show ops[c]? = some ops[c] by simp[hk.1]]
      exact List.any_eq_true.2 ⟨e,by simpa using he,by simp[hb]⟩
     have hnm:e.on∉q++(i::x.ops):=fun hmm=>by
      rw[hcw _ hmm] at hwt;cases hwt
     have:=hlisted e.on hes hnm
     simp[Array.getD_eq_getD_getElem?,this]
    rw[h0] at this;cases this
   ·obtain⟨hun,o,ho,hall'⟩:=mem_ready.1 hk
    have hlt:k<ops.size:=(Array.getElem?_eq_some_iff.1 ho).1
    have hls:k<listed.size:=by omega
    have hun':listed[k]? = some false:=by
     simp[Array.getD_eq_getD_getElem?,hls] at hun
     simp[hls,hun]
    have hall:∀e∈o.after,Region.binds .any e=true→listed[e.on]? = some true:=fun e he hb=>by
     have:=hall' e he hb
     have hjs:e.on<listed.size:=by
      rcases Nat.lt_or_ge e.on listed.size with h | h
      ·exact h
      ·simp[Array.getD_eq_getD_getElem?,Array.getElem?_eq_none h] at this
     simp[Array.getD_eq_getD_getElem?,hjs] at this
     simp[hjs,this]
    have hwait:=wait_on hcl ho hall
    have hno:∀z,z∈q++(i::x.ops)→¬wr ops k z=true:=fun z hz h5=>by
     have h6:=hwait 3 z h5
     have h7:=((hm z).1 hz).2
     rw[h6] at h7;cases h7
    have fin:∀(acc':List Nat) (t':Ot),(acc'++t'.ops).length=fuel→k∉acc'++t'.ops→(∀z,z∈q++(i::x.ops)↔z=k∨z∈acc'++t'.ops)→okT ops pu os acc' t'=true →
     takeI P ro ops pu R Inv os k (wpI P ro ops pu (wpT P ro ops pu R Inv os t') Inv os acc') a w→wpOpIn (Fw ro) 0 P ops (Qx R) k (fun a' w'=>wpAnyIn (Fw ro) 0 P .any ops (Qx R) fuel (listed.setIfInBounds k true) a' w') a w:=by
     intro acc' t' e1 e2 e3 e4 e5
     refine takeI_op (R:=R) (os:=os) (Inv:=Inv) (pu:=pu) (fun o ho=>(hop k o ho).1) hw (takeI_mono hw (fun a' w' hI hG _=>?_) e5)
     exact ih t' acc' _ a' w' (by simp[hsz]) e1 (left_mem hls e2 e3 hm) (left_cl hls ho hall hcl) e4 hI hG
    have hir:k∈q++(i::x.ops):=(hm k).2 ⟨hlt,hun'⟩
    have hpair:∀z∈q,(wr ops k z||okPairI ops pu os z k)=true→okPairI ops pu os z k=true:=fun z hz hh=>by
     rw[Bool.or_eq_true] at hh
     exact hh.resolve_left (hno z (List.mem_append_left _ hz))
    rcases List.mem_append.1 hir with hq | hq
    ·obtain⟨p1,p2,hsp⟩:=List.append_of_mem hq
     subst hsp
     obtain⟨g1,g2,g3,g4⟩:=rowP_drop p1 h1
     have hfr:=wpI_front p1 a w (fun z hz=>hpair z (List.mem_append_left _ hz) (g2 z hz).2) hw h
     refine fin (p1++p2) (.fork [] i j x y) ?_ ?_ (fun z=>?_) (okT_drop _ p1 p2 hok0) (takeI_R hfr)
     ·simp only[Ot.ops,List.length_append,List.length_cons,List.nil_append] at hf ⊢;omega
     ·simp only[Ot.ops,List.nil_append]
      intro hm'
      rcases List.mem_append.1 hm' with hm' | hm'
      ·rcases List.mem_append.1 hm' with hm' | hm'
       ·exact (g2 k hm').1 rfl
       ·exact g3 hm'
      ·exact g4 hm'
     ·simp only[Ot.ops,List.nil_append,List.mem_append,List.mem_cons]
      constructor
      ·rintro ((h | h | h) | h | h)<;>simp[h]
      ·rintro (h | (h | h) | h | h)<;>simp[h]
    ·by_cases hki:k=i
     ·subst hki
      have hfr:=wpI_front (post:=[]) q a w (fun z hz=>hpair z hz (hrow z hz k (.head _)).2.2) hw (wpI_app q [k] a w hw (wpI_mono (fun a w hI hb=>takeI_R (R:=R) hb.1) q a w hw h))
      rw[List.append_nil] at hfr
      refine fin q x ?_ ?_ (fun z=>?_) h9 (takeI_R hfr)
      ·simp only[List.length_append,List.length_cons] at hf ⊢;omega
      ·intro hm'
       rcases List.mem_append.1 hm' with hm' | hm'
       ·exact (hrow k hm' k (.head _)).2.1 rfl
       ·simp[hm'] at h7
      ·simp only[List.mem_append,List.mem_cons]
       constructor
       ·rintro (h | h | h)<;>simp[h]
       ·rintro (h | h | h)<;>simp[h]
     ·by_cases hkj:k=j
      ·subst hkj
       have hkx:k∈i::x.ops:=hq
       have hfr:=wpI_front (post:=[]) q a w (fun z hz=>hpair z hz (hrow z hz k hkx).2.2) hw (wpI_app q [k] a w hw (wpI_mono (fun a w hI hb=>takeI_R (R:=R) hb.2) q a w hw h))
       rw[List.append_nil] at hfr
       have h4':(i::x.ops).length=(k::y.ops).length:=by simpa only[beq_iff_eq] using h4
       refine fin q y ?_ ?_ (fun z=>?_) h10 (takeI_R hfr)
       ·simp only[List.length_append,List.length_cons] at hf h4' ⊢;omega
       ·intro hm'
        rcases List.mem_append.1 hm' with hm' | hm'
        ·exact (hrow k hm' k hkx).2.1 rfl
        ·simp[hm'] at h8
       ·rw[List.mem_append,hset z,List.mem_append,List.mem_cons]
        constructor
        ·rintro (h | h | h)<;>simp[h]
        ·rintro (h | h | h)<;>simp[h]
      ·exfalso
       have h6':=List.all_eq_true.1 h6 k hq
       simp only[Bool.or_eq_true,beq_iff_eq,List.any_eq_true] at h6'
       rcases h6' with (h | h) | ⟨l,hl,hwl⟩
       ·exact hki h
       ·exact hkj h
       ·exact hno l (List.mem_append_right _ hl) hwl
def otB(ops:Array Oper)(pu:Oper→Bool)(os:List Nat)(t:Ot):Bool :=
 t.ops.length==ops.size&&(List.range ops.size).all (fun i=>t.ops.contains i)&&t.ops.all (fun i=>decide (i<ops.size))&&okT ops pu os [] t&&ops.toList.all (fun o=>noSD o.op&&o.after.toList.all fun e=>!(Region.binds .any e)||decide (e.on<ops.size))
theorem any_of_GT{t:Ot}(hB:otB ops pu os t=true){a:Act}{w:World}(hw:Inv w)(h:wpT P ro ops pu R Inv os t a w) :
  wpAnyIn (Fw ro) 0 P .any ops (Qx R) ops.size (Array.replicate ops.size false) a w:=by
 simp only[otB,Bool.and_eq_true,beq_iff_eq] at hB
 obtain⟨⟨⟨⟨hlen,hcov⟩,hin⟩,hok⟩,hops⟩:=hB
 have hop:∀(i:Nat) (o:Oper),ops[i]? = some o→noSD o.op=true∧∀e∈o.after,Region.binds .any e=true→e.on<ops.size:=fun i o ho=>by
  have hm:o∈ops.toList:=by have:=Array.mem_of_getElem? ho;simpa using this
  have:=List.all_eq_true.1 hops o hm
  simp only[Bool.and_eq_true] at this
  refine⟨this.1,fun e he hb=>?_⟩
  have:=List.all_eq_true.1 this.2 e (by simpa using he)
  simpa[hb] using this
 refine key_GT hop ops.size t [] _ a w (by simp) hlen (fun i=>⟨fun hi=>?_,fun ⟨hi,_⟩=>?_⟩) (fun j o ho hon=>?_) hok hw h
 ·have h1:i<ops.size:=by simpa using List.all_eq_true.1 hin i hi
  exact⟨h1,by simp[Array.getElem?_replicate,h1]⟩
 ·have:=List.all_eq_true.1 hcov i (List.mem_range.2 hi)
  simpa using this
 ·simp only[Array.getElem?_replicate] at hon;split at hon<;>simp at hon
end
end Go.Vc
namespace Go.Vc
def puX(o:Oper):Bool:=match o.op with
 | .move _ | .assign _ | .pick .. | .fieldAddr .. | .indexAddr .. | .extract .. | .field .. | .nilCheck _ | .binOp .. | .unOp .. | .makeFunc .. | .index .. | .slice .. | .makeInterface .. | .build .. => true
 | .call c=>match c.callee with
   | .builtin .len=>true
   | .builtin .cap=>true
   | _=>false
 | _=>false
def sqk:List (Nat×List Nat)→Nat→Option (List Nat)
 | [],_=>none
 | (r,l)::t,n=>cond (r==n) (some l) (sqk t n)
def s2k:List (Nat×Nat×Nat×List Nat×List Nat)→Nat→Option (Nat×Nat×List Nat×List Nat)
 | [],_=>none
 | (r,x)::t,n=>cond (r==n) (some x) (s2k t n)
def otk:List (Nat×List Nat×Ot)→Nat→Option (List Nat×Ot)
 | [],_=>none
 | (r,x)::t,n=>cond (r==n) (some x) (otk t n)
def olk:List (Nat×List Nat×Nat)→Nat→Option (List Nat×Nat)
 | [],_=>none
 | (r,x)::t,n=>cond (r==n) (some x) (olk t n)
def tlk:List (Nat×Nat)→Nat→Option Nat
 | [],_=>none
 | (r,l)::t,n=>cond (r==n) (some l) (tlk t n)
def Imm.no(I:Imm):Imm:=⟨fun _=>none,I.os,I.out⟩
theorem reads_no(I:Imm)(w:World):Reads I.no [] w:=by
 intro ad cs h j hj
 obtain⟨_,cells,t,fz,h1 | h1,_⟩:=h
 ·cases h1
 ·cases h1
def wOpsG(P:Program)(A:Ann)(rid:Nat)(ops:Array Oper):List Nat→S→Imm→Heap→(S→Imm→Heap→Prop)→Prop
 | [],σ,I,F,K=>K σ I F
 | i::r,σ,I,F,K=>match ops[i]? with
   | none=>False
   | some o=>match want ops σ o with
     | some true=>cond (puX o)
        (wPureD P A.shp o σ I.no [] (List.range σ.own.length) fun av=>wFin A rid i o.dst av σ fun σ'=>wOpsG P A rid ops r σ' I F K)
        (wOp P A rid i o σ I F (fun σ' I' F'=>wOpsG P A rid ops r σ' I' F' K) (fun _ _ _ _=>False))
     | some false=>wOpsG P A rid ops r (σ.put o.dst (some (.a (.v undef)))) I F K
     | none=>False
def wOpsO(P:Program)(A:Ann)(rid:Nat)(ops:Array Oper)(os:List Nat)(I0:Imm)(n0:Nat):List Nat→S→Imm→Heap→(S→Imm→Heap→Prop)→Prop
 | [],σ,I,F,K=>K σ I F
 | i::r,σ,I,F,K=>match ops[i]? with
   | none=>False
   | some o=>match want ops σ o with
     | some true=>cond (os.contains i)
        (wPureD P A.shp o σ I0 [] ((List.range σ.own.length).drop n0) fun av=>wFin A rid i o.dst av σ fun σ'=>wOpsO P A rid ops os I0 n0 r σ' I F K)
        (cond (puX o)
          (wPureD P A.shp o σ I.no [] (List.range σ.own.length) fun av=>wFin A rid i o.dst av σ fun σ'=>wOpsO P A rid ops os I0 n0 r σ' I F K)
          (wOp P A rid i o σ I F (fun σ' I' F'=>wOpsO P A rid ops os I0 n0 r σ' I' F' K) (fun _ _ _ _=>False)))
     | some false=>wOpsO P A rid ops os I0 n0 r (σ.put o.dst (some (.a (.v undef)))) I F K
     | none=>False
def wOpsT(P:Program)(A:Ann)(rid:Nat)(ops:Array Oper)(os:List Nat)(I0:Imm)(n0:Nat)(N:List Nat→S→Imm→Heap→Prop):Ot→S→Imm→Heap→Prop
 | .fin pre post,σ,I,F=>wOpsO P A rid ops os I0 n0 pre σ I F (N post)
 | .fork pre i j x y,σ,I,F=>wOpsO P A rid ops os I0 n0 pre σ I F fun σ' I' F' =>
    wOpsO P A rid ops os I0 n0 [i] σ' I' F' (fun s J G=>wOpsT P A rid ops os I0 n0 N x s J G)∧wOpsO P A rid ops os I0 n0 [j] σ' I' F' (fun s J G=>wOpsT P A rid ops os I0 n0 N y s J G)
section
variable {P:Program} {A:Ann} {rid:Nat} {ops:Array Oper}
theorem wOpsG_sound{ro:Option Nat}(hP:∀f,A.good f=true→Enters P f){K:S→Imm→Heap→Prop}{Q:Exit→Act→World→Prop}(hops:∀(i:Nat) (o:Oper),ops[i]? = some o→noSD o.op=true) :
  ∀(l:List Nat) (σ:S) (I:Imm) (F:Heap) (a:Act) (w:World),wOpsG P A rid ops l σ I F K→Rel σ I F a w →
   (∀σ' I' F' a' w',Rel σ' I' F' a' w'→Imm.le I I'→K σ' I' F'→Keep (dsts ops.toList) σ a σ' a'→Q .normal a' w') →
   wpG P ro ops puX Q l a w
 | [],σ,I,F,a,w,h,hr,hN=>hN σ I F a w hr (Imm.le_refl I) h (Keep.refl _ _ _)
 | i::r,σ,I,F,a,w,h,hr,hN=>by
   simp only[wOpsG] at h
   split at h
   ·exact h.elim
   ·rename_i o ho
    have hd:∀t,o.dst=some t→t∈dsts ops.toList:=fun t ht=>by
     have hm:o∈ops.toList:=by have:=Array.mem_of_getElem? ho;simpa using this
     exact List.mem_filterMap.2 ⟨o,hm,ht⟩
    refine⟨o,ho, ?_⟩
    split at h
    ·rename_i hw
     rw[if_pos (want_out hw hr.t)]
     cases hp:puX o with
     | true =>
       rw[if_pos rfl]
       rw[hp,cond_true] at h
       obtain⟨av,hk,hy⟩:=wPureD_out h
       obtain⟨av',hg,hwf',hk⟩:=wFin_out hk
       have hwf:=hy.wf σ.own hr.wft hr.wfo
       refine⟨av.g,fun w'=>hy.run a w' hr.t hr.wft (fun j b hb hh=>?_) (reads_no I w'), ?_⟩
       ·have:j<σ.own.length:=(List.getElem?_eq_some_iff.1 hb).1
        have hc:(List.range σ.own.length).contains j=true:=by simpa using this
        rw[hc] at hh;cases hh
       ·have hr':Rel (σ.put o.dst (some av')) I F (a.put o.dst av.g) w:=hr.put o.dst hg (hwf' hwf)
        have hkp:Keep (dsts ops.toList) σ a (σ.put o.dst (some av')) (a.put o.dst av.g):=Keep.put (KeepO.put _ _ _) _ _ _ hd
        exact wOpsG_sound hP hops r _ I F _ w hk hr' fun σ2 I2 F2 a2 w2 g1 g2 g3 g4=>hN σ2 I2 F2 a2 w2 g1 g2 g3 (hkp.trans g4)
     | false =>
       rw[if_neg (by simp)]
       rw[hp,cond_false] at h
       have hh:=wOp_sound (Q:=Q) hP h hr fun ch w' σ' I' F' h1 h2 h3 h4=>h3.elim
       refine wpIn_of (.inr (noSD_def (hops i o ho))) ?_
       unfold wpW at hh ⊢
       revert hh
       generalize (execOp a.eval o).run P w=res
       intro hh
       have step:∀a' w',Next1 o σ I a (fun σ' I' F'=>wOpsG P A rid ops r σ' I' F' K) a' w'→wpG P ro ops puX Q r a' w':=by
        intro a' w' ⟨σ',I',F',h1,h2,h3,h4,v,h5⟩
        have hk:Keep (dsts ops.toList) σ a σ' a':=Keep.put' h4 _ _ _ hd h5
        exact wOpsG_sound hP hops r σ' I' F' _ w' h3 h1
         (fun σ2 I2 F2 a2 w2 g1 g2 g3 g4=>hN σ2 I2 F2 a2 w2 g1 (Imm.le_trans h2 g2) g3 (hk.trans g4))
       cases res with
       | ok n w' =>
         cases n<;>simp only[Oper.uponIn] at hh ⊢<;>first | exact step _ _ hh | exact hh.elim | skip
         ·refine⟨hh.1,hh.2.mono fun e w'' hq=>?_⟩
          cases e with
          | returned v=>exact step _ _ hq
          | panicked ch=>exact hq
          | outgrown=>exact hq
         ·refine⟨hh.1,hh.2.mono fun e w'' hq=>?_⟩
          cases e with
          | returned v=>exact step _ _ hq
          | panicked ch=>exact hq
          | outgrown=>exact hq
         ·exact⟨hh.1,hh.2.mono fun v w'' hq=>step _ _ hq⟩
       | halt x w'=>cases x<;>simp only[Oper.uponIn] at hh ⊢<;>first | exact hh | exact hh.elim
    ·rename_i hw
     rw[if_neg (by rw[want_out hw hr.t];simp)]
     have hk:Keep (dsts ops.toList) σ a (σ.put o.dst (some (.a (.v undef)))) (a.put o.dst undef):=Keep.put (KeepO.put _ _ _) _ _ _ hd
     exact wOpsG_sound hP hops r _ I F _ w h (hr.put o.dst (av:=.a (.v undef)) rfl trivial)
      (fun σ2 I2 F2 a2 w2 g1 g2 g3 g4=>hN σ2 I2 F2 a2 w2 g1 g2 g3 (hk.trans g4))
    ·exact h.elim
theorem region_row{ro:Option Nat}(hP:∀f,A.good f=true→Enters P f){id:Nat}{l:List Nat}{σ:S}{I:Imm}{F:Heap}{K:S→Imm→Heap→Prop}{a:Act}{w:World}(hm:P.follows .mixedOrders=true)
  (hB:sqB ops puX l=true) (h:wOpsG P A rid ops l σ I F K) (hr:Rel σ I F a w) {Q:Exit→Act→World→Prop}
  (hQ:∀σ' I' F' a' w',Rel σ' I' F' a' w'→Imm.le I I'→K σ' I' F'→Keep (dsts ops.toList) σ a σ' a'→Q .normal a' w'):(Code.region id ops true).wpIn (Fw ro) 0 P Q a w:=by
 have hops:∀(i:Nat) (o:Oper),ops[i]? = some o→noSD o.op=true:=fun i o ho=>by
  have hm:o∈ops.toList:=by have:=Array.mem_of_getElem? ho;simpa using this
  simp only[sqB,Bool.and_eq_true] at hB
  have:=List.all_eq_true.1 hB.2 o hm
  simp only[Bool.and_eq_true] at this
  exact this.1
 have hr':Rel σ I F a { w with drawn:=w.drawn+1 }:=hr.s.rel (hr.sat.of_heap rfl ⟨rfl,rfl⟩)
 have hg:=wOpsG_sound (ro:=ro) (Q:=fun e a' w'=>e=.normal∧Q .normal a' w') hP hops l σ I F a _ h hr' fun σ' I' F' a' w' h1 h2 h3 h4=>⟨rfl,hQ σ' I' F' a' w' h1 h2 h3 h4⟩
 have:=any_of_G (fun c a w h=>by cases h.1) hB hg
 exact wpIn_mono (wpIn_region_any hm this) fun e a' w' hq=>by obtain⟨rfl,hq⟩:=hq;exact hq
theorem region_row2{ro:Option Nat}(hP:∀f,A.good f=true→Enters P f){id:Nat}{l:List Nat}{p q:Nat}{lA lB:List Nat}{σ:S}{I:Imm}{F:Heap}{K:S→Imm→Heap→Prop}{a:Act}{w:World}(hm:P.follows .mixedOrders=true)
  (hB:sq2B ops puX l p q lA lB=true) (h:wOpsG P A rid ops l σ I F fun σ' I' F'=>wOpsG P A rid ops (p::lA) σ' I' F' K∧wOpsG P A rid ops (q::lB) σ' I' F' K) (hr:Rel σ I F a w) {Q:Exit→Act→World→Prop}
  (hQ:∀σ' I' F' a' w',Rel σ' I' F' a' w'→Imm.le I I'→K σ' I' F'→Keep (dsts ops.toList) σ a σ' a'→Q .normal a' w'):(Code.region id ops true).wpIn (Fw ro) 0 P Q a w:=by
 have hops:∀(i:Nat) (o:Oper),ops[i]? = some o→noSD o.op=true:=fun i o ho=>by
  have hm:o∈ops.toList:=by have:=Array.mem_of_getElem? ho;simpa using this
  simp only[sq2B,Bool.and_eq_true] at hB
  have:=List.all_eq_true.1 hB.2 o hm
  simp only[Bool.and_eq_true] at this
  exact this.1
 have hr':Rel σ I F a { w with drawn:=w.drawn+1 }:=hr.s.rel (hr.sat.of_heap rfl ⟨rfl,rfl⟩)
 have hg:=wOpsG_sound (ro:=ro) (Q:=Qx (Both P ro ops puX (fun a w=>Q .normal a w) p q lA lB)) hP hops l σ I F a _ h hr' fun σ' I' F' a' w' h1 h2 h3 h4 =>
  ⟨wOpsG_sound (ro:=ro) (Q:=Qx fun a w=>Q .normal a w) hP hops (p::lA) σ' I' F' a' w' h3.1 h1 fun σ2 I2 F2 a2 w2 g1 g2 g3 g4=>hQ σ2 I2 F2 a2 w2 g1 (Imm.le_trans h2 g2) g3 (h4.trans g4),
    wOpsG_sound (ro:=ro) (Q:=Qx fun a w=>Q .normal a w) hP hops (q::lB) σ' I' F' a' w' h3.2 h1 fun σ2 I2 F2 a2 w2 g1 g2 g3 g4=>hQ σ2 I2 F2 a2 w2 g1 (Imm.le_trans h2 g2) g3 (h4.trans g4)⟩
 exact wpIn_mono (wpIn_region_any hm (any_of_G2 hB hg)) fun e a' w' hq=>by
  cases e with
  | normal=>exact hq
  | _=>exact hq.elim
def Inv0(own0:List Blk)(I0:Imm)(w:World):Prop:=(∀(j:Nat) (b:Blk),own0[j]? = some b→w.heap[b.num]? = some b.obj)∧∀(b:Nat) (o:Obj),I0 b=some o→w.heap[b]? = some o
def Held(own0:List Blk)(σ:S):Prop:=∀(j:Nat) (b:Blk),own0[j]? = some b→∃b':Blk,σ.own[j]? = some b'∧b'.num=b.num∧b'.elem=b.elem∧b'.cells=b.cells∧b'.ro=true
theorem Held.keep{own0:List Blk}{σ σ':S}(h:Held own0 σ)(k:KeepO σ σ'):Held own0 σ':=fun j b hb=>by
 obtain⟨b',h1,h2,h3,h4,h5⟩:=h j b hb
 obtain⟨b2,g1,g2,g3,g4⟩:=k j b' h1
 obtain⟨g5,g6⟩:=g4 h5
 exact⟨b2,g1,g2.trans h2,g3.trans h3,g6.trans h4,g5⟩
theorem Held.obj{own0:List Blk}{σ:S}(h:Held own0 σ){j:Nat}{b b':Blk}(hb:own0[j]? = some b)(hb':σ.own[j]? = some b'):b'.num=b.num∧b'.obj=b.obj:=by
 obtain⟨b2,h1,h2,h3,h4,h5⟩:=h j b hb
 rw[hb'] at h1
 obtain rfl:=Option.some.inj h1
 exact⟨h2,by unfold Blk.obj;rw[h3,h4]⟩
theorem Held.inv{own0:List Blk}{σ:S}{I0 I:Imm}{F:Heap}{a:Act}{w:World}(h:Held own0 σ)(hr:Rel σ I F a w)(hl:Imm.le I0 I):Inv0 own0 I0 w:=⟨fun j b hb=>by
 obtain⟨b',h1,_⟩:=h j b hb
 obtain⟨e1,e2⟩:=h.obj hb h1
 rw[←e1,←e2]
 exact hr.sat.own _ _ (List.mem_append_left _ (List.mem_map.2 ⟨b',List.mem_of_getElem? h1,rfl⟩)),fun b o ho=>hr.sat.imm _ _ (hl.at ho)⟩
theorem reads_inv{own0:List Blk}{I0:Imm}{w:World}(h:Inv0 own0 I0 w):Reads I0 [] w:=by
 intro ad cs ⟨hsp,cells,e,fz,ho,hc⟩ j hj
 have hb:w.heap[ad.block]? = some (.cells cells e fz):=ho.elim (h.2 _ _) fun h=>by cases h
 unfold World.cell? Addr.add
 by_cases h0:j=0
 ·subst h0;simp[hb,hsp];have:=hc 0 hj;simpa using this
 ·simp[h0,hb];exact hc j hj
theorem wOpsO_sound{ro:Option Nat}(hP:∀f,A.good f=true→Enters P f){os:List Nat}{own0:List Blk}{I0:Imm}{K:S→Imm→Heap→Prop}{R:Act→World→Prop}(hops:∀(i:Nat) (o:Oper),ops[i]? = some o→noSD o.op=true) :
  ∀(l:List Nat) (σ:S) (I:Imm) (F:Heap) (a:Act) (w:World),wOpsO P A rid ops os I0 own0.length l σ I F K→Rel σ I F a w→Held own0 σ→Imm.le I0 I →
   (∀σ' I' F' a' w',Rel σ' I' F' a' w'→Imm.le I I'→K σ' I' F'→Keep (dsts ops.toList) σ a σ' a'→R a' w') →
   wpI P ro ops puX R (Inv0 own0 I0) os l a w
 | [],σ,I,F,a,w,h,hr,hH,hl,hN=>hN σ I F a w hr (Imm.le_refl I) h (Keep.refl _ _ _)
 | i::r,σ,I,F,a,w,h,hr,hH,hl,hN=>by
   simp only[wOpsO] at h
   split at h
   ·exact h.elim
   ·rename_i o ho
    have hd:∀t,o.dst=some t→t∈dsts ops.toList:=fun t ht=>List.mem_filterMap.2 ⟨o,by have:=Array.mem_of_getElem? ho;simpa using this,ht⟩
    show takeI P ro ops puX R (Inv0 own0 I0) os i (wpI P ro ops puX R (Inv0 own0 I0) os r) a w
    unfold takeI
    by_cases hio:i∈os
    ·rw[if_pos hio]
     refine⟨o,ho, ?_⟩
     split at h
     ·rename_i hw
      rw[show os.contains i=true by simpa using hio,cond_true] at h
      obtain⟨av,hk,hy⟩:=wPureD_out h
      obtain⟨av',hg,hwf',hk⟩:=wFin_out hk
      have hwf:=hy.wf σ.own hr.wft hr.wfo
      refine⟨av.g,⟨fun _ w' hI=>hy.run a w' hr.t hr.wft (fun j b hb hh=>?_) (reads_inv hI),fun hn=>absurd (want_out hw hr.t) hn⟩, ?_⟩
      ·have hj:j<σ.own.length:=(List.getElem?_eq_some_iff.1 hb).1
       have hj0:j<own0.length:=by
        rcases Nat.lt_or_ge j own0.length with h | h
        ·exact h
        ·have:((List.range σ.own.length).drop own0.length).contains j=true:=by
          simp only[List.contains_iff_mem]
          refine List.mem_iff_getElem?.2 ⟨j-own0.length, ?_⟩
          rw[List.getElem?_drop,show own0.length+(j-own0.length)=j by omega]
          simp[hj]
         rw[this] at hh;cases hh
       obtain⟨e1,e2⟩:=hH.obj (List.getElem?_eq_getElem hj0) hb
       rw[e1,e2]
       exact hI.1 j _ (List.getElem?_eq_getElem hj0)
      ·have hr':Rel (σ.put o.dst (some av')) I F (a.put o.dst av.g) w:=hr.put o.dst hg (hwf' hwf)
       have hkp:Keep (dsts ops.toList) σ a (σ.put o.dst (some av')) (a.put o.dst av.g):=Keep.put (KeepO.put _ _ _) _ _ _ hd
       exact wOpsO_sound hP hops r _ I F _ w hk hr' (hH.keep hkp.own) hl fun σ2 I2 F2 a2 w2 g1 g2 g3 g4=>hN σ2 I2 F2 a2 w2 g1 g2 g3 (hkp.trans g4)
     ·rename_i hw
      have hk:Keep (dsts ops.toList) σ a (σ.put o.dst (some (.a (.v undef)))) (a.put o.dst undef):=Keep.put (KeepO.put _ _ _) _ _ _ hd
      refine⟨undef,⟨fun hn=>by (rw[want_out hw hr.t] at hn;cases hn),fun _=>rfl⟩, ?_⟩
      exact wOpsO_sound hP hops r _ I F _ w h (hr.put o.dst (av:=.a (.v undef)) rfl trivial) (hH.keep hk.own) hl
       (fun σ2 I2 F2 a2 w2 g1 g2 g3 g4=>hN σ2 I2 F2 a2 w2 g1 g2 g3 (hk.trans g4))
     ·exact h.elim
    ·rw[if_neg hio]
     refine⟨o,ho, ?_⟩
     split at h
     ·rename_i hw
      rw[if_pos (want_out hw hr.t)]
      rw[show os.contains i=false by simpa using hio,cond_false] at h
      cases hp:puX o with
      | true =>
        rw[if_pos rfl]
        rw[hp,cond_true] at h
        obtain⟨av,hk,hy⟩:=wPureD_out h
        obtain⟨av',hg,hwf',hk⟩:=wFin_out hk
        have hwf:=hy.wf σ.own hr.wft hr.wfo
        refine⟨av.g,fun w'=>hy.run a w' hr.t hr.wft (fun j b hb hh=>?_) (reads_no I w'), ?_⟩
        ·have:j<σ.own.length:=(List.getElem?_eq_some_iff.1 hb).1
         have hc:(List.range σ.own.length).contains j=true:=by simpa using this
         rw[hc] at hh;cases hh
        ·have hr':Rel (σ.put o.dst (some av')) I F (a.put o.dst av.g) w:=hr.put o.dst hg (hwf' hwf)
         have hkp:Keep (dsts ops.toList) σ a (σ.put o.dst (some av')) (a.put o.dst av.g):=Keep.put (KeepO.put _ _ _) _ _ _ hd
         have hH':=hH.keep hkp.own
         exact⟨hH'.inv hr' hl,wOpsO_sound hP hops r _ I F _ w hk hr' hH' hl fun σ2 I2 F2 a2 w2 g1 g2 g3 g4=>hN σ2 I2 F2 a2 w2 g1 g2 g3 (hkp.trans g4)⟩
      | false =>
        rw[if_neg (by simp)]
        rw[hp,cond_false] at h
        have hh:=wOp_sound (Q:=Qx R) hP h hr fun ch w' σ' I' F' h1 h2 h3 h4=>h3.elim
        refine wpIn_of (.inr (noSD_def (hops i o ho))) ?_
        unfold wpW at hh ⊢
        revert hh
        generalize (execOp a.eval o).run P w=res
        intro hh
        have step:∀a' w',Next1 o σ I a (fun σ' I' F'=>wOpsO P A rid ops os I0 own0.length r σ' I' F' K) a' w'→Inv0 own0 I0 w'∧wpI P ro ops puX R (Inv0 own0 I0) os r a' w':=by
         intro a' w' ⟨σ',I',F',h1,h2,h3,h4,v,h5⟩
         have hk:Keep (dsts ops.toList) σ a σ' a':=Keep.put' h4 _ _ _ hd h5
         exact⟨(hH.keep h4).inv h1 (Imm.le_trans hl h2),wOpsO_sound hP hops r σ' I' F' _ w' h3 h1 (hH.keep h4) (Imm.le_trans hl h2)
          (fun σ2 I2 F2 a2 w2 g1 g2 g3 g4=>hN σ2 I2 F2 a2 w2 g1 (Imm.le_trans h2 g2) g3 (hk.trans g4))⟩
        cases res with
        | ok n w' =>
          cases n<;>simp only[Oper.uponIn] at hh ⊢<;>first | exact step _ _ hh | exact hh.elim | skip
          ·refine⟨hh.1,hh.2.mono fun e w'' hq=>?_⟩
           cases e with
           | returned v=>exact step _ _ hq
           | panicked ch=>exact hq
           | outgrown=>exact hq
          ·refine⟨hh.1,hh.2.mono fun e w'' hq=>?_⟩
           cases e with
           | returned v=>exact step _ _ hq
           | panicked ch=>exact hq
           | outgrown=>exact hq
          ·exact⟨hh.1,hh.2.mono fun v w'' hq=>step _ _ hq⟩
        | halt x w'=>cases x<;>simp only[Oper.uponIn] at hh ⊢<;>first | exact hh | exact hh.elim
     ·rename_i hw
      rw[if_neg (by rw[want_out hw hr.t];simp)]
      have hk:Keep (dsts ops.toList) σ a (σ.put o.dst (some (.a (.v undef)))) (a.put o.dst undef):=Keep.put (KeepO.put _ _ _) _ _ _ hd
      have hr':=hr.put o.dst (av:=.a (.v undef)) rfl trivial
      exact⟨(hH.keep hk.own).inv hr' hl,wOpsO_sound hP hops r _ I F _ w h hr' (hH.keep hk.own) hl             (fun σ2 I2 F2 a2 w2 g1 g2 g3 g4=>hN σ2 I2 F2 a2 w2 g1 g2 g3 (hk.trans g4))⟩
     ·exact h.elim
theorem region_tail{ro:Option Nat}(hP:∀f,A.good f=true→Enters P f){id m n:Nat}{hid:List Nat}{σ:S}{I:Imm}{F:Heap}{K:S→Imm→Heap→Prop}{Kp:List PanicEntry→S→Imm→Heap→Prop}{a:Act}{w:World}(hm:P.follows .mixedOrders=true)
  (hT:tailB ops m=true) (hS:ops.toList.all (fun o=>noSD o.op)=true) (hB:drawB (ops.extract 0 m)=true)
  (h:wD P A rid (ops.extract 0 m) n hid (ops.extract 0 m).toList 0 σ I F fun σ' F'=>wOps P A rid ops (ops.toList.drop m) m σ' I F' K Kp) (hr:Rel σ I F a w) {Q:Exit→Act→World→Prop}
  (hQ:∀σ' I' F' a' w',Rel σ' I' F' a' w'→Imm.le I I'→K σ' I' F'→Keep (dsts ops.toList) σ a σ' a'→Q .normal a' w')
  (hX:∀ch σ' I' F' a' w',Rel σ' I' F' a' w'→Imm.le I I'→Kp ch σ' I' F'→Keep (dsts ops.toList) σ a σ' a'→Q (.panic ch) a' w'):(Code.region id ops true).wpIn (Fw ro) 0 P Q a w:=by
 have hr':Rel σ I F a { w with drawn:=w.drawn+1 }:=hr.s.rel (hr.sat.of_heap rfl ⟨rfl,rfl⟩)
 have hmm:m≤ops.size:=by
  simp only[tailB,Bool.and_eq_true,decide_eq_true_eq] at hT
  exact hT.1
 have hsz:(ops.extract 0 m).size=m:=by simp;omega
 have hnd:(ops.toList.drop m).all (fun o=>noDef o.op)=true:=List.all_eq_true.2 fun o ho=>by
  have:=List.all_eq_true.1 hS o (List.mem_of_mem_drop ho)
  revert this;cases o.op<;>simp[noSD,noDef]
 have hsub:∀t∈dsts (ops.extract 0 m).toList,t∈dsts ops.toList:=fun t ht=>by
  unfold dsts at ht ⊢
  obtain⟨o,ho,he⟩:=List.mem_filterMap.1 ht
  refine List.mem_filterMap.2 ⟨o, ?_,he⟩
  rw[Array.toList_extract] at ho
  exact List.mem_of_mem_drop (List.mem_of_mem_take ho)
 have hsub2:∀t∈dsts (ops.toList.drop m),t∈dsts ops.toList:=fun t ht=>by
  unfold dsts at ht ⊢
  obtain⟨o,ho,he⟩:=List.mem_filterMap.1 ht
  exact List.mem_filterMap.2 ⟨o,List.mem_of_mem_drop ho,he⟩
 have hlen:(ops.toList.drop m).length=ops.size-m:=by simp
 have heq:=wpOpsIn_eq_wpListIn (F:=Fw ro) (n:=0) (P:=P) (ops:=ops) (Q:=Q) (ops.toList.drop m) m (fun j=>by rw[List.getElem?_drop];simp)
 rw[hlen] at heq
 have hd:=draw_sound (ro:=ro) (Q:=fun e a' w'=>e=.normal∧wpOpsIn (Fw ro) 0 P ops Q (List.range' m (ops.size-m)) a' w') hP hB h hr' fun σ' F' a' w' h1 h2 h3 =>
  ⟨rfl,by
    rw[heq]
    exact wOps_sound hP (ops.toList.drop m) m σ' I F' a' w' (.inr hnd) h2 h1 (fun σ2 I2 F2 a2 w2 g1 g2 g3 g4=>hQ σ2 I2 F2 a2 w2 g1 g2 g3 ((h3.mono hsub).trans (g4.mono hsub2)))
     (fun ch σ2 I2 F2 a2 w2 g1 g2 g3 g4=>hX ch σ2 I2 F2 a2 w2 g1 g2 g3 ((h3.mono hsub).trans (g4.mono hsub2)))⟩
 rw[hsz] at hd
 exact wpIn_region_any hm (any_split hT (fun e a w hne h=>absurd h.1 hne) (fun a w h=>h.2) hd)
theorem wOpsT_sound{ro:Option Nat}(hP:∀f,A.good f=true→Enters P f){os:List Nat}{own0:List Blk}{I0:Imm}{N:List Nat→S→Imm→Heap→Prop}{R:Act→World→Prop}(hops:∀(i:Nat) (o:Oper),ops[i]? = some o→noSD o.op=true) :
  ∀(t:Ot) (σ:S) (I:Imm) (F:Heap) (a:Act) (w:World),wOpsT P A rid ops os I0 own0.length N t σ I F→Rel σ I F a w→Held own0 σ→Imm.le I0 I →
   (∀post σ' I' F' a' w',Rel σ' I' F' a' w'→Imm.le I I'→N post σ' I' F'→Keep (dsts ops.toList) σ a σ' a'→wpG P ro ops puX (Qx R) post a' w') →
   wpT P ro ops puX R (Inv0 own0 I0) os t a w
 | .fin pre post,σ,I,F,a,w,h,hr,hH,hl,hN=>wOpsO_sound hP hops pre σ I F a w h hr hH hl fun σ' I' F' a' w' g1 g2 g3 g4=>hN post σ' I' F' a' w' g1 g2 g3 g4
 | .fork pre i j x y,σ,I,F,a,w,h,hr,hH,hl,hN =>
   wOpsO_sound hP hops pre σ I F a w h hr hH hl fun σ' I' F' a' w' g1 g2 g3 g4 =>
    ⟨takeI_R (R:=wpT P ro ops puX R (Inv0 own0 I0) os x) (wOpsO_sound hP hops [i] σ' I' F' a' w' g3.1 g1 (hH.keep g4.own) (Imm.le_trans hl g2) fun σ2 I2 F2 a2 w2 k1 k2 k3 k4 =>
      wOpsT_sound hP hops x σ2 I2 F2 a2 w2 k3 k1 ((hH.keep g4.own).keep k4.own) (Imm.le_trans hl (Imm.le_trans g2 k2)) fun post σ3 I3 F3 a3 w3 m1 m2 m3 m4=>hN post σ3 I3 F3 a3 w3 m1 (Imm.le_trans g2 (Imm.le_trans k2 m2)) m3 ((g4.trans k4).trans m4)),
     takeI_R (R:=wpT P ro ops puX R (Inv0 own0 I0) os y) (wOpsO_sound hP hops [j] σ' I' F' a' w' g3.2 g1 (hH.keep g4.own) (Imm.le_trans hl g2) fun σ2 I2 F2 a2 w2 k1 k2 k3 k4 =>
      wOpsT_sound hP hops y σ2 I2 F2 a2 w2 k3 k1 ((hH.keep g4.own).keep k4.own) (Imm.le_trans hl (Imm.le_trans g2 k2)) fun post σ3 I3 F3 a3 w3 m1 m2 m3 m4=>hN post σ3 I3 F3 a3 w3 m1 (Imm.le_trans g2 (Imm.le_trans k2 m2)) m3 ((g4.trans k4).trans m4))⟩
end
end Go.Vc
namespace Go.Vc
theorem fitsAll_length:∀{l:List Lf} {vs:List Value},fitsAll l vs=true→vs.length=l.length
 | [],[],_=>rfl
 | l::r,v::vs,h=>by simp only[fitsAll,Bool.and_eq_true] at h;simp[fitsAll_length h.2]
 | [],_::_,h=>by simp[fitsAll] at h
 | _::_,[],h=>by simp[fitsAll] at h
theorem fitsAll_append:∀{l m:List Lf} {vs us:List Value},fitsAll l vs=true→fitsAll m us=true→fitsAll (l++m) (vs++us)=true
 | [],_,[],_,_,h=>h
 | l::r,_,v::vs,_,h,k=>by
   simp only[fitsAll,Bool.and_eq_true,List.cons_append] at h ⊢
   exact⟨h.1,fitsAll_append h.2 k⟩
 | [],_,_::_,_,h,_=>by simp[fitsAll] at h
 | _::_,_,[],_,h,_=>by simp[fitsAll] at h
theorem tmVals_length(σ:S):∀tms:List (Nat×Lf),(tmVals σ tms).length=tms.length
 | []=>rfl
 | (t,l)::r=>by simp[tmVals,tmVals_length σ r]
theorem tmVals_get{σ:S}:∀{tms:List (Nat×Lf)} {k t:Nat} {v:Value},tmOk σ tms=true→(tms.map Prod.fst)[k]? = some t→(tmVals σ tms)[k]? = some v →
  ∃av,σ.tm[t]? = some (some av)∧av.g=v
 | [],k,t,v,_,h,_=>by simp at h
 | (s,l)::r,0,t,v,hok,h,hv=>by
   simp only[List.map_cons,List.getElem?_cons_zero,Option.some.injEq] at h
   subst h
   simp only[tmOk,Bool.and_eq_true] at hok
   simp only[tmVals,List.getElem?_cons_zero,Option.some.injEq] at hv
   obtain⟨h1,_⟩:=hok
   split at h1
   ·rename_i av ha;rw[ha] at hv;exact⟨av,ha,hv⟩
   ·cases h1
 | (s,l)::r,k+1,t,v,hok,h,hv=>by
   simp only[tmOk,Bool.and_eq_true] at hok
   simp only[tmVals,List.getElem?_cons_succ] at hv
   exact tmVals_get hok.2 (by simpa using h) hv
theorem tmOk_fits{σ:S}:∀{tms:List (Nat×Lf)},tmOk σ tms=true→fitsAll (tms.map Prod.snd) (tmVals σ tms)=true
 | [],_=>rfl
 | (s,l)::r,h=>by
   simp only[tmOk,Bool.and_eq_true] at h
   simp only[List.map_cons,tmVals,fitsAll,Bool.and_eq_true]
   refine⟨?_,tmOk_fits h.2⟩
   obtain⟨h1,_⟩:=h
   split at h1
   ·exact h1
   ·cases h1
theorem bkOk_fits{own:List Blk}:∀{bks:List (Nat×List Lf)},bkOk own bks=true→fitsAll (bks.flatMap Prod.snd) (bkVals own bks)=true
 | [],_=>rfl
 | (s,l)::r,h=>by
   simp only[bkOk,Bool.and_eq_true] at h
   simp only[List.flatMap_cons,bkVals]
   refine fitsAll_append ?_ (bkOk_fits h.2)
   obtain⟨h1,_⟩:=h
   split at h1
   ·simp only[Bool.and_eq_true] at h1;exact h1.2
   ·cases h1
theorem okv_fits{σ:S}{c:Cut}(h:σ.okv c=true):fitsAll c.lfs (σ.vals c)=true:=by
 simp only[S.okv,Bool.and_eq_true] at h
 exact fitsAll_append (tmOk_fits h.1) (bkOk_fits h.2)
theorem seg_vals{own:List Blk}:∀{bks:List (Nat×List Lf)} {i:Nat} {b:Blk} {cs:List Value},bkOk own bks=true→own[i]? = some b →
  seg bks (bkVals own bks) i=some cs→cs=b.cells.map AV.g
 | [],i,b,cs,_,_,h=>by simp[seg] at h
 | (j,ls)::r,i,b,cs,hok,hi,h=>by
   simp only[bkOk,Bool.and_eq_true] at hok
   obtain⟨h1,h2⟩:=hok
   split at h1
   ·rename_i b' hb'
    simp only[Bool.and_eq_true] at h1
    have hl:=fitsAll_length h1.2
    simp only[seg,bkVals,hb'] at h
    cases hji:(j==i) with
    | true =>
      rw[hji] at h
      simp only[cond_true,Option.some.injEq] at h
      have:j=i:=by simpa using hji
      subst this
      rw[hi] at hb';cases hb'
      rw[←h,←hl];simp
    | false =>
      rw[hji] at h
      simp only[cond_false] at h
      rw[←hl,List.drop_left] at h
      exact seg_vals h2 hi h
   ·cases h1
theorem seg_some:∀{bks:List (Nat×List Lf)} {vs us:List Value} {i:Nat},(seg bks vs i).isSome=(seg bks us i).isSome
 | [],_,_,_=>rfl
 | (j,ls)::r,vs,us,i=>by
   simp only[seg]
   cases (j==i) with
   | true=>rfl
   | false=>exact seg_some
theorem bkOk_ro{own:List Blk}:∀{bks:List (Nat×List Lf)} {vs:List Value} {i:Nat} {b:Blk},bkOk own bks=true→own[i]? = some b→(seg bks vs i).isSome=true→b.ro=false
 | [],_,_,_,_,_,h=>by simp[seg] at h
 | (j,ls)::r,vs,i,b,hok,hi,h=>by
   simp only[bkOk,Bool.and_eq_true] at hok
   obtain⟨h1,h2⟩:=hok
   simp only[seg] at h
   cases hji:(j==i) with
   | true =>
     have:j=i:=by simpa using hji
     subst this
     rw[hi] at h1
     simp only[Bool.and_eq_true,Bool.not_eq_true'] at h1
     exact h1.1
   | false=>rw[hji] at h;exact bkOk_ro h2 hi h
theorem lay_same(c:Cut)(l:List Nat)(vs:List Value)(σ:S):Same σ.own (σ.lay c l vs).own:=fun i b hb=>by
 refine⟨_,by show (layOwn _ _ 0 σ.own)[i]? = _;rw[layOwn_get,hb];rfl, ?_⟩
 split<;>rfl
theorem lay_keep{c:Cut}{l:List Nat}{vs:List Value}{σ:S}(hok:bkOk σ.own c.bks=true):KeepO σ (σ.lay c l vs):=fun i b hb=>by
 refine⟨_,by show (layOwn _ _ 0 σ.own)[i]? = _;rw[layOwn_get,hb];rfl, ?_⟩
 cases hs:seg c.bks (vs.drop c.tms.length) (0+i) with
 | none=>exact⟨rfl,rfl,fun _=>⟨rfl,rfl⟩⟩
 | some cs =>
   refine⟨rfl,rfl,fun hr=>?_⟩
   have:=bkOk_ro (vs:=vs.drop c.tms.length) hok hb (by rw[Nat.zero_add] at hs;rw[hs];rfl)
   rw[this] at hr;cases hr
theorem Rel.lay{σ0 σ:S}{I0 I:Imm}{F0 F:Heap}{a0 a:Act}{w0 w:World}(c:Cut)(l:List Nat)(hr0:Rel σ0 I0 F0 a0 w0)(hr:Rel σ I F a w)
  (hown:∀(i:Nat) (b:Blk),σ0.own[i]? = some b→∃b':Blk,σ.own[i]? = some b'∧b'.num=b.num∧b'.elem=b.elem ∧
    (seg c.bks ((σ.vals c).drop c.tms.length) i=none→b'.cells=b.cells))
  (htm:∀t,t∉l→a.tmps[t]? = a0.tmps[t]?) (hsz:a.tmps.size=a0.tmps.size) (hok:σ.okv c=true) (hdf:σ.df=σ0.df):Rel (σ0.lay c l (σ.vals c)) I F a w:=by
 have hok':=hok
 simp only[S.okv,Bool.and_eq_true] at hok'
 have hdrop:(σ.vals c).drop c.tms.length=bkVals σ.own c.bks:=by
  unfold S.vals;rw[←tmVals_length σ c.tms,List.drop_left]
 have htake:(σ.vals c).take c.tms.length=tmVals σ c.tms:=by
  unfold S.vals;rw[←tmVals_length σ c.tms,List.take_left]
 have hsame:=lay_same c l (σ.vals c) σ0
 refine⟨?_, ?_,hr.defers.trans (by rw[hdf];rfl), ?_, ?_, ?_⟩
 ·simp only[S.lay,setAll_length,forget_length];rw[hr0.size,hsz]
 ·intro t av ht
  rcases setAll_get _ _ _ t av ht with ⟨k,v,h1,h2,rfl⟩ | h
  ·rw[htake] at h2
   obtain⟨av',h3,h4⟩:=tmVals_get hok'.1 h1 h2
   have:=hr.tm t av' h3
   rw[this,h4];rfl
  ·obtain⟨h1,h2⟩:=forget_get _ _ _ _ h
   rw[htm t h1];exact hr0.tm t av h2
 ·intro t av ht
  rcases setAll_get _ _ _ t av ht with ⟨k,v,h1,h2,rfl⟩ | h
  ·trivial
  ·obtain⟨h1,h2⟩:=forget_get _ _ _ _ h
   exact AV.wf_same hsame (hr0.wft t av h2)
 ·intro i b hb cell hc
  have hb':(layOwn c.bks ((σ.vals c).drop c.tms.length) 0 σ0.own)[i]? = some b:=hb
  rw[layOwn_get] at hb'
  cases h0:σ0.own[i]? with
  | none=>rw[h0] at hb';simp at hb'
  | some b0 =>
    rw[h0] at hb'
    simp only[Option.map_some,Option.some.injEq] at hb'
    subst hb'
    split at hc
    ·obtain⟨v,_,rfl⟩:=List.mem_map.1 hc;trivial
    ·exact AV.wf_same hsame (hr0.wfo i b0 h0 cell hc)
 ·have heq:blks (σ0.lay c l (σ.vals c)).own=(blks σ.own).take σ0.own.length:=by
   apply List.ext_getElem?
   intro i
   simp only[blks,List.getElem?_map,List.getElem?_take,S.lay,layOwn_get,Nat.zero_add]
   cases h0:σ0.own[i]? with
   | none =>
     have:¬i<σ0.own.length:=fun h=>by simp[h] at h0
     simp[this]
   | some b0 =>
     have hlt:i<σ0.own.length:=by
      rcases Nat.lt_or_ge i σ0.own.length with h | h
      ·exact h
      ·simp[List.getElem?_eq_none h] at h0
     obtain⟨b',h1,h2,h3,h4⟩:=hown i b0 h0
     simp only[if_pos hlt,h1,Option.map_some]
     cases hs:seg c.bks ((σ.vals c).drop c.tms.length) i with
     | none =>
       have h5:=h4 hs
       simp[Blk.obj,h2,h3,h5]
     | some cs =>
       have h5:=seg_vals hok'.2 h1 (by rw[hdrop] at hs;exact hs)
       simp[Blk.obj,h2,h3,h5,AV.g,At.g,Function.comp_def]
  rw[heq]
  exact hr.sat.sub ((List.take_sublist _ _).append (List.Sublist.refl F))
theorem unl_blks(own0:List Blk):∀(i:Nat) (own:List Blk),blks (unl own0 i own)=blks own
 | _,[]=>rfl
 | i,b::r=>by
   simp only[unl,blks,List.map_cons]
   have:=unl_blks own0 (i+1) r
   unfold blks at this
   rw[this]
   congr 1
   split<;>rfl
theorem unl_same(own0:List Blk)(own:List Blk):Same own (unl own0 0 own):=fun i b hb=>by
 refine⟨_,by rw[unl_get,hb];rfl, ?_⟩
 split<;>rfl
theorem Rel.unlock{σ σ0:S}{I:Imm}{F:Heap}{a:Act}{w:World}(h:Rel σ I F a w):Rel (σ.unlock σ0) I F a w:=by
 refine h.heap (unl_same _ _) ?_ (by rw[unl_blks];exact h.sat)
 intro i b hb c hc
 rw[unl_get] at hb
 cases h0:σ.own[i]? with
 | none=>rw[h0] at hb;simp at hb
 | some b0 =>
   rw[h0] at hb
   simp only[Option.map_some,Option.some.injEq] at hb
   have:b.cells=b0.cells:=by rw[←hb];split<;>rfl
   rw[this] at hc
   exact AV.wf_same (unl_same _ _) (h.wfo i b0 h0 c hc)
theorem unlock_keep{σ0 σ:S}{c:Cut}{l:List Nat}{vs:List Value}(hok:bkOk σ0.own c.bks=true)(hk:KeepO (σ0.lay c l vs) σ):KeepO σ0 (σ.unlock σ0):=fun i b hb=>by
 obtain⟨b1,h1,e1,e2,h2⟩:=lay_keep (l:=l) (vs:=vs) hok i b hb
 obtain⟨b2,h3,e3,e4,h4⟩:=hk i b1 h1
 refine⟨{ b2 with ro:=b.ro }, ?_,e3.trans e1,e4.trans e2,fun hr=>?_⟩
 ·show (unl σ0.own 0 σ.own)[i]? = _
  rw[unl_get,h3,Nat.zero_add,hb];rfl
 ·obtain⟨h5,h6⟩:=h2 hr
  exact⟨hr,(h4 h5).2.trans h6⟩
def lockOwn(bks:List (Nat×List Lf)):Nat→List Blk→List Blk
 | _,[]=>[]
 | i,b::r=>(match seg bks [] i with
   | some _=>b
   | none=>{ b with ro:=true })::lockOwn bks (i+1) r
def S.lock(σ:S)(c:Cut):S:={ σ with own:=lockOwn c.bks 0 σ.own }
theorem lockOwn_get(bks:List (Nat×List Lf)):∀(i:Nat) (own:List Blk) (j:Nat),(lockOwn bks i own)[j]? = (own[j]?).map fun b =>
  match seg bks [] (i+j) with
  | some _=>b
  | none=>{ b with ro:=true }
 | i,[],j=>by simp[lockOwn]
 | i,b::r,0=>by simp only[lockOwn,List.getElem?_cons_zero,Option.map_some,Nat.add_zero]
 | i,b::r,j+1=>by
   simp only[lockOwn,List.getElem?_cons_succ]
   rw[lockOwn_get bks (i+1) r j,show i+1+j=i+(j+1) by omega]
theorem lock_blks(bks:List (Nat×List Lf)):∀(i:Nat) (own:List Blk),blks (lockOwn bks i own)=blks own
 | _,[]=>rfl
 | i,b::r=>by
   simp only[lockOwn,blks,List.map_cons]
   have:=lock_blks bks (i+1) r
   unfold blks at this
   rw[this]
   congr 1
   split<;>rfl
theorem lock_at{σ:S}{c:Cut}{i:Nat}{b:Blk}(hb:σ.own[i]? = some b):∃b',(σ.lock c).own[i]? = some b'∧b'.num=b.num∧b'.elem=b.elem∧b'.cells=b.cells ∧
  (b.ro=true→b'.ro=true)∧(seg c.bks [] i=none→b'.ro=true):=by
 refine⟨_,by show (lockOwn _ 0 σ.own)[i]? = _;rw[lockOwn_get,hb];rfl, ?_⟩
 rw[Nat.zero_add]
 cases seg c.bks [] i with
 | none=>exact⟨rfl,rfl,rfl,fun _=>rfl,fun _=>rfl⟩
 | some cs=>exact⟨rfl,rfl,rfl,fun h=>h,fun h=>by cases h⟩
theorem Rel.lock{σ:S}{I:Imm}{F:Heap}{a:Act}{w:World}(h:Rel σ I F a w)(c:Cut):Rel (σ.lock c) I F a w:=by
 have hs:Same σ.own (σ.lock c).own:=fun i b hb=>by
  obtain⟨b',h1,h2,_⟩:=lock_at (c:=c) hb
  exact⟨b',h1,h2⟩
 refine h.heap hs ?_ (by show Sat I (blks (lockOwn _ 0 _)++F) w;rw[lock_blks];exact h.sat)
 intro i b hb cell hc
 cases h0:σ.own[i]? with
 | none =>
   have h1:(lockOwn c.bks 0 σ.own)[i]? = some b:=hb
   rw[lockOwn_get,h0] at h1;simp at h1
 | some b0 =>
   obtain⟨b',h1,_,_,h2,_⟩:=lock_at (c:=c) h0
   have:b'=b:=Option.some.inj (h1.symm.trans hb)
   subst this
   rw[h2] at hc
   exact AV.wf_same hs (h.wfo i b0 h0 cell hc)
theorem lock_unlock{σ0 σ:S}{c:Cut}(hk:KeepO (σ0.lock c) σ):KeepO σ0 (σ.unlock σ0):=fun i b hb=>by
 obtain⟨b1,h1,e1,e2,h2,h3,_⟩:=lock_at (c:=c) hb
 obtain⟨b2,h4,e3,e4,h5⟩:=hk i b1 h1
 refine⟨{ b2 with ro:=b.ro }, ?_,e3.trans e1,e4.trans e2,fun hr=>⟨hr,(h5 (h3 hr)).2.trans h2⟩⟩
 show (unl σ0.own 0 σ.own)[i]? = _
 rw[unl_get,h4,Nat.zero_add,hb];rfl
def S.lockAll(σ:S):S:=σ.lock ⟨[],[],fun _ _ _ _ _ _ _=>True,[],[]⟩
theorem lockAll_held(σ:S):Held σ.lockAll.own σ.lockAll:=fun j b hb=>by
 refine⟨b,hb,rfl,rfl,rfl, ?_⟩
 have hb':(lockOwn [] 0 σ.own)[j]? = some b:=hb
 rw[lockOwn_get] at hb'
 cases h0:σ.own[j]? with
 | none=>rw[h0] at hb';simp at hb'
 | some b0 =>
   rw[h0] at hb'
   simp only[Option.map_some,seg,Option.some.injEq] at hb'
   rw[←hb']
theorem lockAll_len(σ:S):σ.lockAll.own.length=σ.own.length:=by
 have h:∀(i:Nat) (own:List Blk),(lockOwn [] i own).length=own.length:=by
  intro i own
  induction own generalizing i with
  | nil=>rfl
  | cons b r ih=>simp[lockOwn,ih]
 exact h 0 σ.own
theorem region_rowO{P:Program}{A:Ann}{rid:Nat}{ops:Array Oper}{ro:Option Nat}(hP:∀f,A.good f=true→Enters P f){id:Nat}{os pre post:List Nat}{σ:S}{I:Imm}{F:Heap}{K:S→Imm→Heap→Prop}{a:Act}{w:World}(hm:P.follows .mixedOrders=true)
  (hB:olB ops puX os pre post=true) (h:wOpsO P A rid ops os I σ.own.length pre σ.lockAll I F fun σ' I' F'=>wOpsG P A rid ops post (σ'.unlock σ) I' F' K) (hr:Rel σ I F a w) {Q:Exit→Act→World→Prop}
  (hQ:∀σ' I' F' a' w',Rel σ' I' F' a' w'→Imm.le I I'→K σ' I' F'→Keep (dsts ops.toList) σ a σ' a'→Q .normal a' w'):(Code.region id ops true).wpIn (Fw ro) 0 P Q a w:=by
 have hops:∀(i:Nat) (o:Oper),ops[i]? = some o→noSD o.op=true:=fun i o ho=>by
  have hm:o∈ops.toList:=by have:=Array.mem_of_getElem? ho;simpa using this
  simp only[olB,Bool.and_eq_true] at hB
  have:=List.all_eq_true.1 hB.2 o hm
  simp only[Bool.and_eq_true] at this
  exact this.1
 have hr1:Rel σ I F a { w with drawn:=w.drawn+1 }:=hr.s.rel (hr.sat.of_heap rfl ⟨rfl,rfl⟩)
 have hr':Rel σ.lockAll I F a { w with drawn:=w.drawn+1 }:=hr1.lock _
 rw[←lockAll_len] at h
 have hg:=wOpsO_sound (ro:=ro) (R:=wpG P ro ops puX (Qx fun a w=>Q .normal a w) post) hP hops pre σ.lockAll I F a _ h hr' (lockAll_held σ) (Imm.le_refl I) fun σ' I' F' a' w' h1 h2 h3 h4 =>
  wOpsG_sound (ro:=ro) (Q:=Qx fun a w=>Q .normal a w) hP hops post (σ'.unlock σ) I' F' a' w' h3 h1.unlock fun σ2 I2 F2 a2 w2 g1 g2 g3 g4 =>
   hQ σ2 I2 F2 a2 w2 g1 (Imm.le_trans h2 g2) g3 ((⟨lock_unlock h4.own,h4.tm,h4.size⟩:Keep (dsts ops.toList) σ a (σ'.unlock σ) a').trans g4)
 exact wpIn_mono (wpIn_region_any hm (any_of_GI hB ((lockAll_held σ).inv hr' (Imm.le_refl I)) hg)) fun e a' w' hq=>by
  cases e with
  | normal=>exact hq
  | _=>exact hq.elim
def Imm.del(I:Imm)(b:Nat):Imm:=⟨fun x=>if x=b then none else I x,I.os,I.out⟩
theorem Sat.demote{I I':Imm}{F:Heap}{w:World}{b:Nat}{o:Obj}(hb:I b=none)(hl:Imm.le (I.put b o) I')(h:Sat I' F w):Imm.le I (I'.del b)∧Sat (I'.del b) ((b,o)::F) w:=by
 have ho:I' b=some o:=hl.at (by simp[Imm.put])
 refine⟨⟨fun x y hx=>?_,hl.2.1,hl.2.2⟩,fun x y hx=>?_,fun x y hx=>?_,fun x y hx=>?_, ?_,h.env⟩
 ·have hne:x≠b:=fun e=>by rw[e,hb] at hx;cases hx
  show (if x=b then none else I' x)=some y
  rw[if_neg hne]
  exact hl.at (by simp[Imm.put,hne,hx])
 ·have hx:(if x=b then none else I' x)=some y:=hx
  split at hx
  ·cases hx
  ·exact h.imm _ _ hx
 ·rcases List.mem_cons.1 hx with e | hx
  ·cases e;exact h.imm _ _ ho
  ·exact h.own _ _ hx
 ·show (if x=b then none else I' x)=none
  split
  ·rfl
  ·rename_i hne
   rcases List.mem_cons.1 hx with e | hx
   ·cases e;exact absurd rfl hne
   ·exact h.off _ _ hx
 ·rw[List.map_cons,List.nodup_cons]
  refine⟨fun hm=>?_,h.nd⟩
  obtain⟨⟨x,y⟩,hx,rfl⟩:=List.mem_map.1 hm
  have:=h.off _ _ hx
  rw[this] at ho;cases ho
theorem region_rowH{P:Program}{A:Ann}{rid:Nat}{ops:Array Oper}{ro:Option Nat}(hP:∀f,A.good f=true→Enters P f){id:Nat}{os pre post:List Nat}{σ:S}{I:Imm}{F F1:Heap}{b:Nat}{o:Obj}{K:S→Imm→Heap→Prop}{a:Act}{w:World}(hm:P.follows .mixedOrders=true)
  (hB:olB ops puX os pre post=true) (hp:F.Perm ((b,o)::F1)) (h:wOpsO P A rid ops os (I.put b o) σ.own.length pre σ.lockAll (I.put b o) F1 fun σ' I' F'=>wOpsG P A rid ops post (σ'.unlock σ) (I'.del b) ((b,o)::F') K) (hr:Rel σ I F a w) {Q:Exit→Act→World→Prop}
  (hQ:∀σ' I' F' a' w',Rel σ' I' F' a' w'→Imm.le I I'→K σ' I' F'→Keep (dsts ops.toList) σ a σ' a'→Q .normal a' w'):(Code.region id ops true).wpIn (Fw ro) 0 P Q a w:=by
 have hops:∀(i:Nat) (o:Oper),ops[i]? = some o→noSD o.op=true:=fun i o ho=>by
  have hm:o∈ops.toList:=by have:=Array.mem_of_getElem? ho;simpa using this
  simp only[olB,Bool.and_eq_true] at hB
  have:=List.all_eq_true.1 hB.2 o hm
  simp only[Bool.and_eq_true] at this
  exact this.1
 have hsat:Sat I ((b,o)::(blks σ.own++F1)) w:=hr.sat.perm ((hp.append_left _).trans List.perm_middle)
 have hIb:I b=none:=hsat.off _ _ (.head _)
 have hr1:Rel σ (I.put b o) F1 a { w with drawn:=w.drawn+1 }:=hr.s.rel (hsat.promote.2.of_heap rfl ⟨rfl,rfl⟩)
 have hr':Rel σ.lockAll (I.put b o) F1 a { w with drawn:=w.drawn+1 }:=hr1.lock _
 rw[←lockAll_len] at h
 have hg:=wOpsO_sound (ro:=ro) (R:=wpG P ro ops puX (Qx fun a w=>Q .normal a w) post) hP hops pre σ.lockAll (I.put b o) F1 a _ h hr' (lockAll_held σ) (Imm.le_refl _) fun σ' I' F' a' w' h1 h2 h3 h4=>by
  have hu:=h1.unlock (σ0:=σ)
  obtain⟨d1,d2⟩:=Sat.demote hIb h2 hu.sat
  have hu':Rel (σ'.unlock σ) (I'.del b) ((b,o)::F') a' w':=hu.s.rel (d2.perm List.perm_middle.symm)
  exact wOpsG_sound (ro:=ro) (Q:=Qx fun a w=>Q .normal a w) hP hops post (σ'.unlock σ) (I'.del b) ((b,o)::F') a' w' h3 hu' fun σ2 I2 F2 a2 w2 g1 g2 g3 g4 =>
   hQ σ2 I2 F2 a2 w2 g1 (Imm.le_trans d1 g2) g3 ((⟨lock_unlock h4.own,h4.tm,h4.size⟩:Keep (dsts ops.toList) σ a (σ'.unlock σ) a').trans g4)
 exact wpIn_mono (wpIn_region_any hm (any_of_GI hB ((lockAll_held σ).inv hr' (Imm.le_refl _)) hg)) fun e a' w' hq=>by
  cases e with
  | normal=>exact hq
  | _=>exact hq.elim
theorem cond_or{b:Bool}{p q:Prop}(h:cond b p q):p∨q:=by
 cases b
 ·exact .inr h
 ·exact .inl h
theorem otB_ops{ops:Array Oper}{os:List Nat}{t:Ot}(hB:otB ops puX os t=true):∀(i:Nat) (o:Oper),ops[i]? = some o→noSD o.op=true:=fun i o ho=>by
 have hm:o∈ops.toList:=by have:=Array.mem_of_getElem? ho;simpa using this
 simp only[otB,Bool.and_eq_true] at hB
 have:=List.all_eq_true.1 hB.2 o hm
 simp only[Bool.and_eq_true] at this
 exact this.1
theorem region_rowT{P:Program}{A:Ann}{rid:Nat}{ops:Array Oper}{ro:Option Nat}(hP:∀f,A.good f=true→Enters P f){id:Nat}{os:List Nat}{t:Ot}{σ:S}{I:Imm}{F:Heap}{K:S→Imm→Heap→Prop}{a:Act}{w:World}(hm:P.follows .mixedOrders=true)
  (hB:otB ops puX os t=true) (h:wOpsT P A rid ops os I σ.own.length (fun post σ' I' F'=>wOpsG P A rid ops post (σ'.unlock σ) I' F' K) t σ.lockAll I F) (hr:Rel σ I F a w) {Q:Exit→Act→World→Prop}
  (hQ:∀σ' I' F' a' w',Rel σ' I' F' a' w'→Imm.le I I'→K σ' I' F'→Keep (dsts ops.toList) σ a σ' a'→Q .normal a' w'):(Code.region id ops true).wpIn (Fw ro) 0 P Q a w:=by
 have hops:=otB_ops hB
 have hr1:Rel σ I F a { w with drawn:=w.drawn+1 }:=hr.s.rel (hr.sat.of_heap rfl ⟨rfl,rfl⟩)
 have hr':Rel σ.lockAll I F a { w with drawn:=w.drawn+1 }:=hr1.lock _
 rw[←lockAll_len] at h
 have hg:=wOpsT_sound (ro:=ro) (R:=fun a w=>Q .normal a w) hP hops t σ.lockAll I F a _ h hr' (lockAll_held σ) (Imm.le_refl I) fun post σ' I' F' a' w' h1 h2 h3 h4 =>
  wOpsG_sound (ro:=ro) (Q:=Qx fun a w=>Q .normal a w) hP hops post (σ'.unlock σ) I' F' a' w' h3 h1.unlock fun σ2 I2 F2 a2 w2 g1 g2 g3 g4 =>
   hQ σ2 I2 F2 a2 w2 g1 (Imm.le_trans h2 g2) g3 ((⟨lock_unlock h4.own,h4.tm,h4.size⟩:Keep (dsts ops.toList) σ a (σ'.unlock σ) a').trans g4)
 exact wpIn_mono (wpIn_region_any hm (any_of_GT hB ((lockAll_held σ).inv hr' (Imm.le_refl I)) hg)) fun e a' w' hq=>by
  cases e with
  | normal=>exact hq
  | _=>exact hq.elim
theorem region_rowTH{P:Program}{A:Ann}{rid:Nat}{ops:Array Oper}{ro:Option Nat}(hP:∀f,A.good f=true→Enters P f){id:Nat}{os:List Nat}{t:Ot}{σ:S}{I:Imm}{F F1:Heap}{b:Nat}{o:Obj}{K:S→Imm→Heap→Prop}{a:Act}{w:World}(hm:P.follows .mixedOrders=true)
  (hB:otB ops puX os t=true) (hp:F.Perm ((b,o)::F1)) (h:wOpsT P A rid ops os (I.put b o) σ.own.length (fun post σ' I' F'=>wOpsG P A rid ops post (σ'.unlock σ) (I'.del b) ((b,o)::F') K) t σ.lockAll (I.put b o) F1) (hr:Rel σ I F a w) {Q:Exit→Act→World→Prop}
  (hQ:∀σ' I' F' a' w',Rel σ' I' F' a' w'→Imm.le I I'→K σ' I' F'→Keep (dsts ops.toList) σ a σ' a'→Q .normal a' w'):(Code.region id ops true).wpIn (Fw ro) 0 P Q a w:=by
 have hops:=otB_ops hB
 have hsat:Sat I ((b,o)::(blks σ.own++F1)) w:=hr.sat.perm ((hp.append_left _).trans List.perm_middle)
 have hIb:I b=none:=hsat.off _ _ (.head _)
 have hr1:Rel σ (I.put b o) F1 a { w with drawn:=w.drawn+1 }:=hr.s.rel (hsat.promote.2.of_heap rfl ⟨rfl,rfl⟩)
 have hr':Rel σ.lockAll (I.put b o) F1 a { w with drawn:=w.drawn+1 }:=hr1.lock _
 rw[←lockAll_len] at h
 have hg:=wOpsT_sound (ro:=ro) (R:=fun a w=>Q .normal a w) hP hops t σ.lockAll (I.put b o) F1 a _ h hr' (lockAll_held σ) (Imm.le_refl _) fun post σ' I' F' a' w' h1 h2 h3 h4=>by
  have hu:=h1.unlock (σ0:=σ)
  obtain⟨d1,d2⟩:=Sat.demote hIb h2 hu.sat
  have hu':Rel (σ'.unlock σ) (I'.del b) ((b,o)::F') a' w':=hu.s.rel (d2.perm List.perm_middle.symm)
  exact wOpsG_sound (ro:=ro) (Q:=Qx fun a w=>Q .normal a w) hP hops post (σ'.unlock σ) (I'.del b) ((b,o)::F') a' w' h3 hu' fun σ2 I2 F2 a2 w2 g1 g2 g3 g4 =>
   hQ σ2 I2 F2 a2 w2 g1 (Imm.le_trans d1 g2) g3 ((⟨lock_unlock h4.own,h4.tm,h4.size⟩:Keep (dsts ops.toList) σ a (σ'.unlock σ) a').trans g4)
 exact wpIn_mono (wpIn_region_any hm (any_of_GT hB ((lockAll_held σ).inv hr' (Imm.le_refl _)) hg)) fun e a' w' hq=>by
  cases e with
  | normal=>exact hq
  | _=>exact hq.elim
abbrev Kt:=Exit→S→Imm→Heap→Prop
def kThen(N:S→Imm→Heap→Prop)(K:Kt):Kt
 | .normal,σ,I,F=>N σ I F
 | e,σ,I,F=>K e σ I F
def kBlock(id:Nat)(K:Kt):Kt
 | .exit id',σ,I,F=>cond (id'==id) (K .normal σ I F) (K (.exit id') σ I F)
 | e,σ,I,F=>K e σ I F
def kNoGo(K:Kt):Kt
 | .goto _,_,_,_=>False
 | e,σ,I,F=>K e σ I F
def kUn(σ0:S)(N:S→Imm→Heap→Prop)(K:Kt):Kt
 | .normal,σ,I,F=>N σ I F
 | e,σ,I,F=>K e (σ.unlock σ0) I F
def S.fix(σ:S)(c:Cut):List Value:=c.fx.map fun t=>σ.cv (.tmp t)
def dfOk(σ σ':S)(X:Prop):Prop:=cond (σ.df.isEmpty&&σ'.df.isEmpty) X (σ'.df=σ.df∧X)
theorem dfOk_out{σ σ':S}{X:Prop}(h:dfOk σ σ' X):σ'.df=σ.df∧X:=by
 unfold dfOk at h
 cases hc:(σ.df.isEmpty&&σ'.df.isEmpty) with
 | true =>
   rw[hc] at h
   simp only[Bool.and_eq_true,List.isEmpty_iff] at hc
   exact⟨by rw[hc.1,hc.2],h⟩
 | false=>rw[hc] at h;exact h
def hasJ:List (Option Nat)→Option Nat→Bool
 | [],_=>false
 | none::r,none=>true
 | some a::r,some b=>a==b||hasJ r (some b)
 | _::r,x=>hasJ r x
def dd:List (Option Nat)→List (Option Nat)
 | []=>[]
 | x::r=>cond (hasJ (dd r) x) (dd r) (x::dd r)
def jmp:List Nat→Code→List (Option Nat)
 | bs,.exit id=>cond (bs.contains id) [] [some id]
 | _,.ret=>[none]
 | bs,.seq a b=>jmp bs a++jmp bs b
 | bs,.cond _ a b=>jmp bs a++jmp bs b
 | bs,.block id c=>jmp (id::bs) c
 | bs,.loop c=>jmp bs c
 | bs,.scope c=>jmp bs c
 | bs,.rangeFunc _ _ _ y=>jmp bs y
 | _,_=>[]
def orJ:List (Option Nat)→(Option Nat→Prop)→Prop
 | [],_=>False
 | x::r,f=>f x∨orJ r f
def exitOf:Option Nat→Exit
 | none=>.ret
 | some id=>.exit id
def codeOf:Option Nat→Code
 | none=>.ret
 | some id=>.exit id
theorem orJ_out:∀{l:List (Option Nat)} {f:Option Nat→Prop},orJ l f→∃j,f j
 | [],_,h=>h.elim
 | x::r,f,h=>by
   rcases h with h | h
   ·exact⟨x,h⟩
   ·exact orJ_out h
def allSh:Sh→(Value→Prop)→Prop
 | .one l,Q=>allLf l Q
 | .agg ls,Q=>allLs ls fun vs=>Q (.agg vs.toArray)
def allShs:List Sh→(List Value→Prop)→Prop
 | [],Q=>Q []
 | s::r,Q=>allSh s fun v=>allShs r fun vs=>Q (v::vs)
def Cut.blf(c:Cut):List Lf:=c.bks.flatMap Prod.snd
def kAsg(N:S→Imm→Heap→Prop):Kt
 | .normal,σ,I,F=>N σ I F
 | _,_,_,_=>False
def kRound(L Lb:Heap)(Lx:Option Nat→Heap)(n0:Nat)(Q:Ending→Imm→Heap→Prop):Kt
 | .normal,σ,I,F=>∃F3:Heap,F.Perm (Lb++F3)∧Q (.returned (.bool true)) I (blks (σ.own.take n0)++(L++F3))
 | .ret,σ,I,F=>∃F3:Heap,F.Perm (Lb++F3)∧Q (.returned (.bool false)) I (blks (σ.own.take n0)++(Lx none++F3))
 | .exit id,σ,I,F=>∃F3:Heap,F.Perm (Lb++F3)∧Q (.returned (.bool false)) I (blks (σ.own.take n0)++(Lx (some id)++F3))
 | _,_,_,_=>False
def S.round(σ:S)(ct:Cut)(ps:Array Nat)(args vs:List Value):S:={ tm:=setAll ps.toList args σ.tm,own:=layOwn ct.bks vs 0 σ.own,df:=[] }
def S.after(σ:S)(ct:Cut)(vs:List Value)(D:Nat)(rd:Option Heap):S :=
 { tm:=σ.tm,own:=unl σ.own 0 (layOwn ct.bks vs 0 σ.own),df:=match rd with
  | none=>.mark D::σ.df
  | some _=>σ.df }
def withD(rd:Option Heap)(D:Nat)(F:Heap):Heap:=match rd with
 | none=>(D,.deferred (some []))::F
 | some _=>F
def inRd(rd:Option Heap)(F:Heap)(X:Prop):Prop:=match rd with
 | none=>X
 | some R=>(∃F3:Heap,F.Perm (R++F3))∧X
def ndOk(rd:Option Heap)(ops:Array Oper):Bool:=match rd with
 | none=>true
 | some _=>ops.toList.all fun o=>noDef o.op
def W(P:Program)(A:Ann):Option Heap→Code→Nat→Kt→S→Imm→Heap→Prop
 | _,.skip,_,K,σ,I,F=>K .normal σ I F
 | _,.label _,_,K,σ,I,F=>K .normal σ I F
 | _,.exit id,_,K,σ,I,F=>K (.exit id) σ I F
 | _,.goto l,_,K,σ,I,F=>K (.goto l) σ I F
 | _,.ret,_,K,σ,I,F=>K .ret σ I F
 | rd,.region rid ops false,_,K,σ,I,F=>cond (ndOk rd ops) (wOps P A rid ops ops.toList 0 σ I F (K .normal) (fun ch=>K (.panic ch))) False
 | _,.region rid ops true,_,K,σ,I,F=>match A.ot rid with
   | some (os,t)=>cond (P.follows .mixedOrders&&otB ops puX os t)
      (cond (os.contains 1000)
        (∃(b:Nat) (o:Obj) (F1:Heap),F.Perm ((b,o)::F1)∧wOpsT P A rid ops os (I.put b o) σ.own.length (fun post σ' I' F'=>wOpsG P A rid ops post (σ'.unlock σ) (I'.del b) ((b,o)::F') (K .normal)) t σ.lockAll (I.put b o) F1)
        (wOpsT P A rid ops os I σ.own.length (fun post σ' I' F'=>wOpsG P A rid ops post (σ'.unlock σ) I' F' (K .normal)) t σ.lockAll I F)) False
   | none=>match A.sq rid with
      | some l=>match A.s2 rid with
        | none=>match A.ol rid with
          | none=>cond (P.follows .mixedOrders&&sqB ops puX l) (wOpsG P A rid ops l σ I F (K .normal)) False
          | some (os,m)=>cond (P.follows .mixedOrders&&olB ops puX os (l.take m) (l.drop m))
            (cond (os.contains 1000)
              (∃(b:Nat) (o:Obj) (F1:Heap),F.Perm ((b,o)::F1)∧wOpsO P A rid ops os (I.put b o) σ.own.length (l.take m) σ.lockAll (I.put b o) F1 fun σ' I' F'=>wOpsG P A rid ops (l.drop m) (σ'.unlock σ) (I'.del b) ((b,o)::F') (K .normal))
              (wOpsO P A rid ops os I σ.own.length (l.take m) σ.lockAll I F fun σ' I' F'=>wOpsG P A rid ops (l.drop m) (σ'.unlock σ) I' F' (K .normal))) False
        | some (p,q,lA,lB)=>cond (P.follows .mixedOrders&&sq2B ops puX l p q lA lB)
          (wOpsG P A rid ops l σ I F fun σ' I' F'=>wOpsG P A rid ops (p::lA) σ' I' F' (K .normal)∧wOpsG P A rid ops (q::lB) σ' I' F' (K .normal)) False
      | none=>match A.tl rid with
        | some m=>cond (P.follows .mixedOrders&&(tailB ops m&&(ops.toList.all (fun o=>noSD o.op)&&drawB (ops.extract 0 m))))
          (wD P A rid (ops.extract 0 m) (match A.ds rid with | none=>m | some (n,_)=>n) (match A.ds rid with | none=>[] | some (_,hid)=>hid) (ops.extract 0 m).toList 0 σ I F fun σ' F' =>
            wOps P A rid ops (ops.toList.drop m) m σ' I F' (K .normal) (fun ch=>K (.panic ch))) False
        | none=>cond (P.follows .mixedOrders&&drawB ops)
          (match A.ds rid with
            | none=>wD P A rid ops ops.size [] ops.toList 0 σ I F fun σ' F'=>K .normal σ' I F'
            | some (n,hid)=>wD P A rid ops n hid ops.toList 0 σ I F fun σ' F'=>K .normal σ' I F') False
 | rd,.cond c x y,n,K,σ,I,F=>match σ.ev c with
   | some (.a (.v (.bool b)))=>(match b with
     | true=>W P A rd x (n+1) K σ I F
     | false=>W P A rd y (n+1+sz x) K σ I F)
   | _=>False
 | rd,.block id c,n,K,σ,I,F=>W P A rd c (n+1) (kBlock id K) σ I F
 | rd,.seq x y,n,K,σ,I,F=>match A.cut n with
   | none=>W P A rd x (n+1) (kThen (W P A rd y (n+1+sz x) K) K) σ I F
   | some ct=>cond (bkOk σ.own ct.bks)
     (W P A rd x (n+1) (kUn σ (fun σ' I' F'=>cond (σ'.okv ct) (dfOk σ σ' (ct.Inv (σ.fix ct) I F (σ'.vals ct) 0 I' F')) False) K) (σ.lock ct) I F ∧
       allLs ct.lfs fun vs=>∀(I':Imm) (F':Heap),Imm.le I I'→ct.Inv (σ.fix ct) I F vs 0 I' F'→W P A rd y (n+1+sz x) K ((σ.lay ct (asg x) vs).unlock σ) I' F') False
 | rd,.loop c,n,K,σ,I,F=>match A.cut n with
   | none=>False
   | some ct=>cond (σ.okv ct)
     ((∃m,ct.Inv (σ.fix ct) I F (σ.vals ct) m I F) ∧
       allLs ct.lfs fun vs=>∀(m:Nat) (I':Imm) (F':Heap),Imm.le I I'→ct.Inv (σ.fix ct) I F vs m I' F' →
        W P A rd c (n+1) (kUn σ (fun σ' I' F'=>cond (σ'.okv ct) (dfOk σ σ' (∃m',m'<m∧ct.Inv (σ.fix ct) I F (σ'.vals ct) m' I' F')) False) K) (σ.lay ct (asg c) vs) I' F') False
 | rd,.scope c,n,K,σ,I,F=>W P A rd c (n+1) (kNoGo K) σ I F
 | rd,.rangeFunc g ps x y,n,K,σ,I,F=>match A.cut n,σ.ev g with
   | some ct,some gv=>cond (bkOk σ.own ct.bks&&ct.ps.length==ps.size)
     (inRd rd F (∀(Y:Fn) (L Lb:Heap) (Lx:Option Nat→Heap) (D:Nat),
       (allShs ct.ps fun args=>allLs ct.blf fun vs=>∀(I':Imm) (F':Heap) (Q:Ending→Imm→Heap→Prop),Imm.le I I' →
         W P A (some L) x (n+1) (kAsg fun σ1 I1 F1=>∃F2:Heap,F1.Perm (L++F2) ∧
          W P A (some Lb) y (n+1+sz x) (kRound L Lb Lx σ.own.length Q) σ1 I1 (Lb++F2)) (σ.round ct ps args vs) I' (L++F') →
         TriV P (.func Y #[] #[]) args I' (blks (layOwn ct.bks vs 0 σ.own)++(L++F')) Q) →
       TriC P gv.g [.func Y #[] #[]] I (blks σ.own++(L++F)) fun e I' G=>∃r,e=.returned r ∧
        ((exLs ct.blf fun vs=>∃F':Heap,G.Perm (blks (layOwn ct.bks vs 0 σ.own)++(L++F'))∧K .normal (σ.after ct vs D rd) I' (withD rd D F')) ∨
          orJ (dd (jmp [] y)) fun j=>exLs ct.blf fun vs=>∃F':Heap,G.Perm (blks (layOwn ct.bks vs 0 σ.own)++(Lx j++F'))∧K (exitOf j) (σ.after ct vs D rd) I' (withD rd D F')))) False
   | _,_=>False
 | _,_,_,_,_,_,_=>False
def Post(l:List Nat)(σ:S)(a:Act)(I:Imm)(K:Kt)(e:Exit)(a':Act)(w':World):Prop :=
 ∃σ' I' F',Rel σ' I' F' a' w'∧Imm.le I I'∧K e σ' I' F'∧Keep l σ a σ' a'
theorem wp_loop_m{F:Fence}{n:Nat}{P:Program}{Q:Exit→Act→World→Prop}{c:Code}{a:Act}{w:World}(J:Nat→Act→World→Prop)(h0:∃m,J m a w)
  (round:∀m a w,J m a w→c.wpIn F n P (Exit.then (fun a' w'=>∃m',m'<m∧J m' a' w') Q) a w):(Code.loop c).wpIn F n P Q a w:=by
 intro b k cs hro hb hr
 have key:∀j a w,J j a w→∃e a' w',Q e a' w'∧ArrivesIn (Machine.fenced P F) P (lone (b.atR a (.code c :: .inLoop c::k)) cs w) b k cs e a' w':=by
  intro j
  induction j using Nat.strongRecOn with
  | _ j ih =>
    intro a w hJ
    obtain⟨e,a₁,w₁,hq,harr⟩:=round j a w hJ b (.inLoop c::k) cs hro hb hr
    cases e with
    | normal =>
      obtain⟨m',hlt,hJ'⟩:=hq
      obtain⟨e₂,a₂,w₂,hq₂,harr₂⟩:=ih m' hlt a₁ w₁ hJ'
      exact⟨e₂,a₂,w₂,hq₂,.of_steps (StepsIn.trans harr (.one (fenced_calm hb hr rfl) stepR_inLoop)) harr₂⟩
    | exit id=>exact⟨_,a₁,w₁,hq,.pass (x:=.inLoop c) rfl (fun _ _=>.inl (by simp)) harr⟩
    | goto l=>exact⟨_,a₁,w₁,hq,.pass (x:=.inLoop c) rfl (fun _ _=>.inl (by simp)) harr⟩
    | ret=>exact⟨_,a₁,w₁,hq,.pass (x:=.inLoop c) rfl (fun _ _=>.inl (by simp)) harr⟩
    | panic ch=>exact⟨_,a₁,w₁,hq,.pass (x:=.inLoop c) rfl (fun _ _=>.inl (by simp)) harr⟩
    | outgrown=>exact⟨_,a₁,w₁,hq,.pass (x:=.inLoop c) rfl (fun _ _=>.inl (by simp)) harr⟩
 obtain⟨m,hm⟩:=h0
 obtain⟨e,a',w',hq,harr⟩:=key m a w hm
 exact⟨e,a',w',hq,.of_steps (.one (fenced_calm hb hr rfl) stepR_loop) harr⟩
theorem stepR_scope{P:Program}{b:Frame}{a:Act}{k:List Item}{cs:List Frame}{w:World}{c:Code}:step P (lone (b.atR a (.code (.scope c)::k)) cs w)=.next (lone (b.atR a (.code c :: .inScope c::k)) cs w) :=
 step_lone_go (by simp[stepG,stepG.exec,Frame.atR])
theorem stepR_inScope{P:Program}{b:Frame}{a:Act}{k:List Item}{cs:List Frame}{w:World}{c:Code}:step P (lone (b.atR a (.inScope c::k)) cs w)=.next (lone (b.atR a k) cs w) :=
 step_lone_go (by simp[stepG,stepG.exec,Frame.atR])
theorem wpIn_scope_straight{F:Fence}{n:Nat}{P:Program}{Q:Exit→Act→World→Prop}{c:Code}{a:Act}{w:World}(h:c.wpIn F n P (Exit.noGoto Q) a w):(Code.scope c).wpIn F n P Q a w:=by
 intro b k cs hro hb hr
 have h0:(lone (b.atR a (.code (.scope c)::k)) cs w).fenced P F:=fenced_calm hb hr rfl
 obtain⟨e,a₁,w₁,hq,harr⟩:=h b (.inScope c::k) cs hro hb hr
 cases e with
 | normal=>exact⟨.normal,a₁,w₁,hq,.head h0 stepR_scope (StepsIn.trans harr (.one (fenced_calm hb hr rfl) stepR_inScope))⟩
 | exit id =>
   have hx:exitTo id (.inScope c::k)=exitTo id k:=by simp[exitTo]
   exact⟨.exit id,a₁,w₁,hq,fun k' hk=>.head h0 stepR_scope (harr.1 k' (by rw[hx];exact hk)),
    fun hr' hk=>let ⟨k₁,h1,h2⟩:=harr.2 hr' (by rw[hx];exact hk);⟨k₁,h1,.head h0 stepR_scope h2⟩⟩
 | goto l=>exact hq.elim
 | ret=>exact⟨_,a₁,w₁,hq,.of_steps (.one h0 stepR_scope) harr⟩
 | panic ch=>exact⟨_,a₁,w₁,hq,.of_steps (.one h0 stepR_scope) harr⟩
 | outgrown=>exact⟨_,a₁,w₁,hq,.of_steps (.one h0 stepR_scope) harr⟩
end Go.Vc
namespace Go.Vc
theorem allLf_intro{l:Lf}{Q:Value→Prop}(h:∀v,Q v):allLf l Q:=by cases l<;>intro<;>first | exact h _ | (intros;exact h _)
theorem allLs_intro:∀{l:List Lf} {Q:List Value→Prop},(∀vs,vs.length=l.length→Q vs)→allLs l Q
 | [],Q,h=>h [] rfl
 | l::r,Q,h=>allLf_intro fun v=>allLs_intro fun vs hv=>h (v::vs) (by simp[hv])
theorem allSh_intro{s:Sh}{Q:Value→Prop}(h:∀v,Q v):allSh s Q:=by
 cases s with
 | one l=>exact allLf_intro h
 | agg ls=>exact allLs_intro fun vs _=>h _
theorem allShs_intro:∀{l:List Sh} {Q:List Value→Prop},(∀vs,vs.length=l.length→Q vs)→allShs l Q
 | [],Q,h=>h [] rfl
 | l::r,Q,h=>allSh_intro fun v=>allShs_intro fun vs hv=>h (v::vs) (by simp[hv])
def Ctx(ro:Option Nat):Option Heap→Prop
 | none=>ro=none
 | some R=>∃l r,ro=some l∧(l,Obj.loop r)∈R
def LdH(rd:Option Heap)(D:Nat):Heap:=match rd with
 | none=>[(D,.deferred (some []))]
 | some _=>[]
def mkH(rd:Option Heap)(D:Nat):List Deferred:=match rd with
 | none=>[(Df.mark D).d]
 | some _=>[]
theorem withD_eq(rd:Option Heap)(D:Nat)(F:Heap):withD rd D F=LdH rd D++F:=by cases rd<;>rfl
section
variable {P:Program} {A:Ann}
theorem enter_inner{w:World}{l₀:Nat}{r₀:Loop}(h:w.heap[l₀]? = some (.loop r₀))(fn:FuncId)(tmps:Array Value)(ps:Array Tmp)(assign body:Code) :
  (Instr.enterLoop fn tmps ps assign body (some l₀)).run P w =
    .ok (w.heap.size,[]) (w.alloc (.loop { state:=.ready,pending:=none,fn,tmps,params:=ps,assign,body,defers:=r₀.defers })):=by
 unfold Instr.enterLoop
 simp only[Sem.run_bind,run_getLoop h,run_newObj_alloc,Result.andThen,Sem.run_pure]
theorem inRd_out{rd:Option Heap}{F:Heap}{X:Prop}(h:inRd rd F X):(∀R,rd=some R→∃F3:Heap,F.Perm (R++F3))∧X:=by
 cases rd with
 | none=>exact⟨fun R e=>(by cases e),h⟩
 | some R=>exact⟨fun R' e=>(by cases e;exact h.1),h.2⟩
theorem enter_run{rd:Option Heap}{ro:Option Nat}{I:Imm}{G:Heap}{w:World}(hctx:Ctx ro rd)(hrd:∀R,rd=some R→∃F3:Heap,G.Perm (R++F3))(hs:Sat I G w)
  (fn:FuncId) (tmps:Array Value) (ps:Array Tmp) (x y:Code) :
  ∃(l D d:Nat) (w1:World),(Instr.enterLoop fn tmps ps x y ro).run P w=.ok (l,mkH rd D) w1 ∧
   Sat I ((l,Obj.loop { state:=.ready,pending:=none,fn,tmps,params:=ps,assign:=x,body:=y,defers:=d })::(LdH rd D++G)) w1:=by
 cases rd with
 | none =>
   obtain rfl:ro=none:=hctx
   have h1:=hs.alloc (.deferred (some []))
   have h2:=h1.alloc (.loop { state:=.ready,pending:=none,fn,tmps,params:=ps,assign:=x,body:=y,defers:=w.heap.size })
   refine⟨w.heap.size+1,w.heap.size,w.heap.size,_,run_enterLoop_outer fn tmps ps x y, ?_⟩
   have:({ w with heap:=w.heap.push (Obj.deferred (some [])) }:World).heap.size=w.heap.size+1:=by simp
   rw[this] at h2
   exact h2
 | some R =>
   obtain⟨l0,r0,rfl,hm⟩:=hctx
   obtain⟨F3,hp⟩:=hrd R rfl
   have hin:w.heap[l0]? = some (.loop r0):=hs.own _ _ (hp.mem_iff.2 (List.mem_append_left _ hm))
   exact⟨w.heap.size,0,r0.defers,_,enter_inner hin fn tmps ps x y,hs.alloc _⟩
theorem Sat.at_head{I:Imm}{b:Nat}{o:Obj}{G:Heap}{w:World}(h:Sat I ((b,o)::G) w):w.heap[b]? = some o:=h.own _ _ (List.mem_cons_self ..)
theorem Sat.put_head{I:Imm}{b:Nat}{o o':Obj}{G:Heap}{w:World}(h:Sat I ((b,o)::G) w):Sat I ((b,o')::G) (w.putObj b o'):=h.set rfl ⟨rfl,rfl⟩
theorem round_tm:∀(ts:List Nat) (vs:List Value) (tm:List (Option AV)) (tmps:Array Value),tm.length=tmps.size→(∀(t:Nat) (av:AV),tm[t]? = some (some av)→tmps[t]? = some av.g) →
  (setAll ts vs tm).length=((ts.zip vs).foldl (fun (a:Array Value) (x:Nat×Value)=>a.setIfInBounds x.1 x.2) tmps).size ∧
  ∀(t:Nat) (av:AV),(setAll ts vs tm)[t]? = some (some av)→((ts.zip vs).foldl (fun (a:Array Value) (x:Nat×Value)=>a.setIfInBounds x.1 x.2) tmps)[t]? = some av.g
 | [],vs,tm,tmps,hl,h=>by simp only[setAll,List.zip_nil_left,List.foldl_nil];exact⟨hl,h⟩
 | s::ts,[],tm,tmps,hl,h=>by simp only[setAll,List.zip_nil_right,List.foldl_nil];exact⟨hl,h⟩
 | s::ts,v::vs,tm,tmps,hl,h=>by
   simp only[setAll,List.zip_cons_cons,List.foldl_cons]
   refine round_tm ts vs _ _ (by simp[hl]) fun t av ht=>?_
   rw[List.getElem?_set] at ht
   rw[Array.getElem?_setIfInBounds]
   by_cases hst:s=t
   ·subst hst
    simp only[if_true] at ht ⊢
    split at ht
    ·rename_i hlt;cases ht;rw[hl] at hlt;simp[hlt,AV.g,At.g]
    ·cases ht
   ·simp only[if_neg hst] at ht ⊢;exact h t av ht
theorem layOwn_same(bks:List (Nat×List Lf))(vs:List Value)(own:List Blk):Same own (layOwn bks vs 0 own):=fun i b hb=>by
 refine⟨match seg bks vs (0+i) with
  | some cs=>{ b with cells:=cs.map fun v=>.a (.v v) }
  | none=>{ b with ro:=true },by rw[layOwn_get,hb];rfl, ?_⟩
 split<;>rfl
theorem layOwn_wf{bks:List (Nat×List Lf)}{vs:List Value}{own:List Blk}(h:∀(i:Nat) (b:Blk),own[i]? = some b→∀c∈b.cells,AV.wf own c) :
  ∀(i:Nat) (b:Blk),(layOwn bks vs 0 own)[i]? = some b→∀c∈b.cells,AV.wf (layOwn bks vs 0 own) c:=by
 intro i b hb c hc
 rw[layOwn_get] at hb
 cases ho:own[i]? with
 | none=>rw[ho] at hb;cases hb
 | some b0 =>
   rw[ho] at hb
   simp only[Option.map_some,Option.some.injEq] at hb
   subst hb
   split at hc
   ·simp only[List.mem_map] at hc
    obtain⟨v,_,rfl⟩:=hc
    trivial
   ·exact AV.wf_same (layOwn_same _ _ _) (h i b0 ho c hc)
theorem Rel.round{σ:S}{I I':Imm}{F F':Heap}{a:Act}{w w':World}(hr:Rel σ I F a w)(ct:Cut)(ps:Array Nat)(args vs:List Value)
  (hs:Sat I' (blks (layOwn ct.bks vs 0 σ.own)++F') w') :
  Rel (σ.round ct ps args vs) I' F' { tmps:=(ps.toList.zip args).foldl (fun (a:Array Value) (x:Nat×Value)=>a.setIfInBounds x.1 x.2) a.tmps,defers:=[] } w':=by
 obtain⟨h1,h2⟩:=round_tm ps.toList args σ.tm a.tmps hr.size hr.tm
 refine⟨h1,h2,rfl,fun t av ht=>?_,layOwn_wf hr.wfo,hs⟩
 rcases setAll_get _ _ _ _ _ ht with ⟨k,v,_,_,rfl⟩ | ht
 ·trivial
 ·exact AV.wf_same (layOwn_same _ _ _) (hr.wft t av ht)
theorem after_get{σ:S}{ct:Cut}{vs:List Value}{i:Nat}:(unl σ.own 0 (layOwn ct.bks vs 0 σ.own))[i]? = (σ.own[i]?).map fun b =>
  match seg ct.bks vs i with
  | some cs=>{ b with cells:=cs.map fun v=>.a (.v v) }
  | none=>b:=by
 rw[unl_get,layOwn_get]
 cases hb:σ.own[i]? with
 | none=>rfl
 | some b =>
   simp only[Option.map_some,Nat.zero_add,hb]
   cases seg ct.bks vs i<;>rfl
theorem after_keep{σ:S}{ct:Cut}{vs:List Value}{D:Nat}{rd:Option Heap}(hok:bkOk σ.own ct.bks=true):KeepO σ (σ.after ct vs D rd):=by
 intro i b hb
 have e:(σ.after ct vs D rd).own[i]? = _:=after_get
 rw[hb] at e
 cases hs:seg ct.bks vs i with
 | none=>rw[hs] at e;exact⟨b,e,rfl,rfl,fun h=>⟨h,rfl⟩⟩
 | some cs =>
   rw[hs] at e
   have hro:=bkOk_ro (vs:=vs) hok hb (by rw[hs];rfl)
   exact⟨_,e,rfl,rfl,fun h=>by rw[hro] at h;cases h⟩
theorem Rel.after{σ:S}{I I':Imm}{F F':Heap}{a:Act}{w w':World}(hr:Rel σ I F a w){ct:Cut}{vs:List Value}{D:Nat}{rd:Option Heap}(hok:bkOk σ.own ct.bks=true)
  (hs:Sat I' (blks (layOwn ct.bks vs 0 σ.own)++F') w'):Rel (σ.after ct vs D rd) I' F' { a with defers:=mkH rd D++a.defers } w':=by
 have hk:Same σ.own (σ.after ct vs D rd).own:=(after_keep hok).same
 refine⟨hr.size,hr.tm, ?_,fun t av ht=>AV.wf_same hk (hr.wft t av ht), ?_, ?_⟩
 ·show mkH rd D++a.defers=_
  rw[hr.defers];cases rd<;>rfl
 ·intro i b hb c hc
  have e:(σ.after ct vs D rd).own[i]? = _:=after_get
  rw[hb] at e
  cases ho:σ.own[i]? with
  | none=>rw[ho] at e;cases e
  | some b0 =>
    rw[ho] at e
    simp only[Option.map_some,Option.some.injEq] at e
    subst e
    split at hc
    ·simp only[List.mem_map] at hc
     obtain⟨v,_,rfl⟩:=hc
     trivial
    ·exact AV.wf_same hk (hr.wfo i b0 ho c hc)
 ·show Sat I' (blks (unl σ.own 0 (layOwn ct.bks vs 0 σ.own))++F') w'
  rw[unl_blks];exact hs
theorem blks_take(own:List Blk)(n:Nat):(blks (own.take n)).Sublist (blks own):=(List.take_sublist n own).map _
theorem perm_front{A B C:Heap}:(A++(B++C)).Perm (B++(A++C)):=List.perm_append_comm_assoc A B C
theorem wpIn_jump{F:Fence}{n:Nat}{Q:Exit→Act→World→Prop}{a:Act}{w:World}(j:Option Nat)(h:Q (exitOf j) a w):(codeOf j).wpIn F n P Q a w:=by
 cases j with
 | none=>exact wpIn_ret h
 | some id=>exact wpIn_exit h
theorem range_sound{x y:Code}(ih1:∀(n:Nat) (K:Kt) (rd:Option Heap) (ro:Option Nat) (σ:S) (I:Imm) (F:Heap) (a:Act) (w:World),Ctx ro rd→W P A rd x n K σ I F→Rel σ I F a w→x.wpIn (Fw ro) 0 P (Post (asg x) σ a I K) a w)
  (ih2:∀(n:Nat) (K:Kt) (rd:Option Heap) (ro:Option Nat) (σ:S) (I:Imm) (F:Heap) (a:Act) (w:World),Ctx ro rd→W P A rd y n K σ I F→Rel σ I F a w→y.wpIn (Fw ro) 0 P (Post (asg y) σ a I K) a w)
  {g:Operand} {ps:Array Tmp} {n:Nat} {K:Kt} {rd:Option Heap} {ro:Option Nat} {σ:S} {I:Imm} {F:Heap} {a:Act} {w:World} (hctx:Ctx ro rd)
  (h:W P A rd (.rangeFunc g ps x y) n K σ I F) (hr:Rel σ I F a w):(Code.rangeFunc g ps x y).wpIn (Fw ro) 0 P (Post (asg (.rangeFunc g ps x y)) σ a I K) a w:=by
 simp only[W] at h
 split at h
 case h_2=>exact h.elim
 rename_i ct gv hcut hg
 obtain⟨hb,h⟩:=cond_out h
 simp only[Bool.and_eq_true,beq_iff_eq] at hb
 obtain⟨hok,hlen⟩:=hb
 obtain⟨hrd,h⟩:=inRd_out h
 refine wpIn_rangeFunc fun fn hfn=>?_
 obtain⟨l,D,d,w1,hrun,hsat⟩:=enter_run (P:=P) (rd:=rd) (ro:=ro) hctx (G:=blks σ.own++F) (fun R hR=>by
  obtain⟨F3,hp⟩:=hrd R hR
  exact⟨blks σ.own++F3,(List.Perm.append_left _ hp).trans perm_front⟩) hr.sat fn a.tmps ps x y
 generalize hrec:({ state:=.ready,pending:=none,fn,tmps:=a.tmps,params:=ps,assign:=x,body:=y,defers:=d }:Loop)=rec at hsat
 have r1:rec.fn=fn:=by rw[←hrec]
 have r2:rec.tmps=a.tmps:=by rw[←hrec]
 have r3:rec.params=ps:=by rw[←hrec]
 have r4:rec.assign=x:=by rw[←hrec]
 have r5:rec.body=y:=by rw[←hrec]
 have r6:rec.state=.ready:=by rw[←hrec]
 have r7:rec.pending=none:=by rw[←hrec]
 have rback:({ rec with state:=.ready,pending:=none }:Loop)=rec:=by rw[←hrec]
 let L:Heap:=(l,.loop rec)::LdH rd D
 let Lb:Heap:=(l,.loop { rec with state:=.busy })::LdH rd D
 let Lx:Option Nat→Heap:=fun j=>(l,.loop { rec with state:=.done,pending:=some (codeOf j) })::LdH rd D
 have hsat':Sat I (blks σ.own++(L++F)) w1:=by
  refine hsat.perm ?_
  show (([(l,Obj.loop rec)]++LdH rd D)++(blks σ.own++F)).Perm _
  exact perm_front
 have hTr:=h (.yield l) L Lb Lx D (allShs_intro fun args hargs=>allLs_intro fun vs hvs I' F' Q hle hW=>by
  intro w2 hs2
  refine .inr ⟨l,rfl, ?_⟩
  have hl2:w2.heap[l]? = some (.loop rec):=hs2.own _ _ (List.mem_append_right _ (List.mem_append_left _ (List.mem_cons_self ..)))
  have hy:=run_yield (P:=P) (args:=args.toArray) hl2 (by rw[r3];simp[hargs,hlen])
  rw[r1,r2,r3,r4,r5] at hy
  have hz:((ps.zip args.toArray).foldl (fun (tmps:Array Value) (x:Nat×Value)=>tmps.setIfInBounds x.1 x.2) a.tmps)=(ps.toList.zip args).foldl (fun (a:Array Value) (x:Nat×Value)=>a.setIfInBounds x.1 x.2) a.tmps:=by
   rw[←Array.foldl_toList,Array.toList_zip]
  refine⟨_,_,_,_,_,hy,roundIn_of_wpIn (F:=Fence.wide) trivial ?_⟩
  rw[show ((ps.zip args.toArray).foldl (fun (tmps:Array Value) (x:Nat×Value)=>match x with | (t,a)=>tmps.setIfInBounds t a) a.tmps)=(ps.toList.zip args).foldl (fun (a:Array Value) (x:Nat×Value)=>a.setIfInBounds x.1 x.2) a.tmps from hz]
  have hrel:=hr.round ct ps args vs hs2
  refine wpIn_mono (ih1 _ _ (some L) (some l) _ I' _ _ w2 ⟨l,rec,rfl,List.mem_cons_self ..⟩ hW hrel) ?_
  intro e a1 w3 ⟨σ1,I1,F1,g1,g2,g3,g4⟩
  cases e with
  | normal =>
    obtain⟨F2,hp2,hW2⟩:=g3
    have hs3:Sat I1 ((l,.loop rec)::(LdH rd D++(blks σ1.own++F2))) w3:=g1.sat.perm ((List.Perm.append_left _ hp2).trans (perm_front (A:=blks σ1.own) (B:=(l,.loop rec)::LdH rd D)))
    refine⟨_,run_beginRound hs3.at_head r6, ?_⟩
    have hs4:=hs3.put_head (o':=.loop { rec with state:=.busy })
    have hrel2:Rel σ1 I1 (Lb++F2) a1 (w3.putObj l (.loop { rec with state:=.busy })) :=
     ⟨g1.size,g1.tm,g1.defers,g1.wft,g1.wfo,hs4.perm (perm_front (A:=(l,.loop { rec with state:=.busy })::LdH rd D) (B:=blks σ1.own))⟩
    refine wpIn_mono (ih2 _ _ (some Lb) (some l) _ I1 _ _ _ ⟨l,_,rfl,List.mem_cons_self ..⟩ hW2 hrel2) ?_
    intro e a5 w5 ⟨σ5,I5,F5,k1,k2,k3,k4⟩
    have fin:∀(L':Heap) (o':Obj) (b:Bool),L'=(l,o')::LdH rd D→(∃F3:Heap,F5.Perm (Lb++F3)∧Q (.returned (.bool b)) I5 (blks (σ5.own.take σ.own.length)++(L'++F3))) →
     w5.heap[l]? = some (.loop { rec with state:=.busy })∧EndQ I' Q (.returned (.bool b)) (w5.putObj l o'):=by
     intro L' o' b hL' ⟨F3,hp3,hq⟩
     subst hL'
     have hs5:Sat I5 ((l,.loop { rec with state:=.busy })::(LdH rd D++(blks σ5.own++F3))) w5 :=
      k1.sat.perm ((List.Perm.append_left _ hp3).trans (perm_front (A:=blks σ5.own) (B:=(l,.loop { rec with state:=.busy })::LdH rd D)))
     refine⟨hs5.at_head,I5,_,Imm.le_trans g2 k2, ?_,hq⟩
     have hs6:=hs5.put_head (o':=o')
     exact (hs6.perm (perm_front (A:=(l,o')::LdH rd D) (B:=blks σ5.own))).sub (List.Sublist.append (blks_take _ _) (List.Sublist.refl _))
    cases e with
    | normal =>
      obtain⟨f1,f2⟩:=fin L (.loop rec) true rfl k3
      refine⟨_,_,run_endRound none f1, ?_⟩
      have:({ ({ rec with state:=.busy }:Loop) with state:=if (none:Option Code).isNone then .ready else .done,pending:=none }:Loop)=rec:=rback
      rw[this];exact f2
    | ret =>
      obtain⟨f1,f2⟩:=fin (Lx none) (.loop { rec with state:=.done,pending:=some .ret }) false rfl k3
      exact⟨_,_,run_endRound (some .ret) f1,f2⟩
    | exit id =>
      obtain⟨f1,f2⟩:=fin (Lx (some id)) (.loop { rec with state:=.done,pending:=some (.exit id) }) false rfl k3
      exact⟨_,_,run_endRound (some (.exit id)) f1,f2⟩
    | goto l=>exact k3.elim
    | panic ch=>exact k3.elim
    | outgrown=>exact k3.elim
  | exit id=>exact g3.elim
  | goto l=>exact g3.elim
  | ret=>exact g3.elim
  | panic ch=>exact g3.elim
  | outgrown=>exact g3.elim)
 obtain⟨f,first,cap,hgv,hent,hcall⟩:=hTr w1 hsat'
 have hev:=S.ev_eval hr hg
 refine⟨l,mkH rd D,w1,{ target:=.fn (.func f) cap,args:=first++#[.func (.yield l) #[] #[]] },w1,f,first++#[.func (.yield l) #[] #[]]++cap,w1,hrun, ?_,fun _ _=>trivial, ?_,fun hd=>by simp[Fw,Fence.wide] at hd, ?_⟩
 ·show (Deferred.ofValue (a.eval g) _).run P w1=_
  rw[hev,hgv];simp[Deferred.ofValue,Act.eval]
 ·simp only[invoke];exact hent _ _
 ·refine ((callsIn_wide (n:=0)).2 hcall).mono fun e w3 ⟨I3,G,hle,hs3,r,he,hpost⟩=>?_
  subst he
  have fin:∀(o':Obj) (r':Loop) (jj:Option Code) (L':Heap) (vs:List Value) (F':Heap) (e':Exit),L'=(l,.loop r')::LdH rd D→r'.pending=jj→r'.state ≠ .busy→G.Perm (blks (layOwn ct.bks vs 0 σ.own)++(L'++F'))→K e' (σ.after ct vs D rd) I3 (withD rd D F') →
    ∃w4,(Instr.endLoop l).run P w3=.ok jj w4∧Post (asg (.rangeFunc g ps x y)) σ a I K e' { a with defers:=mkH rd D++a.defers } w4:=by
   intro o' r' jj L' vs F' e' hL' hj hbusy hp hk
   subst hL';subst hj
   have hs4:Sat I3 ((l,.loop r')::(LdH rd D++(blks (layOwn ct.bks vs 0 σ.own)++F'))) w3:=hs3.perm (hp.trans (perm_front (A:=blks (layOwn ct.bks vs 0 σ.own)) (B:=(l,.loop r')::LdH rd D)))
   refine⟨_,run_endLoop hs4.at_head hbusy,σ.after ct vs D rd,I3,withD rd D F', ?_,hle,hk,after_keep hok,fun _ _=>rfl,rfl⟩
   refine hr.after hok ?_
   rw[withD_eq]
   exact ((hs4.put_head (o':=.loop { r' with state:=.exhausted })).sub (List.sublist_cons_self _ _)).perm perm_front
  rcases hpost with hpost | hpost
  ·obtain⟨vs,F',hp,hk⟩:=exLs_out hpost |>.imp fun _ h=>h.2
   obtain⟨w4,h1,h2⟩:=fin (.loop rec) rec none L vs F' .normal rfl r7 (by rw[r6];decide) hp hk
   exact⟨none,w4,h1,h2⟩
  ·obtain⟨j,hpost⟩:=orJ_out hpost
   obtain⟨vs,F',hp,hk⟩:=exLs_out hpost |>.imp fun _ h=>h.2
   obtain⟨w4,h1,h2⟩:=fin (.loop rec) { rec with state:=.done,pending:=some (codeOf j) } (some (codeOf j)) (Lx j) vs F' (exitOf j) rfl rfl (fun h=>by cases h) hp hk
   exact⟨some (codeOf j),w4,h1,wpIn_jump j h2⟩
end
end Go.Vc
namespace Go.Vc
section sound
variable {P:Program} {A:Ann}
theorem Post.mono{l l':List Nat}{σ:S}{a:Act}{I:Imm}{K K':Kt}{e:Exit}{a':Act}{w':World}(h:Post l σ a I K e a' w')(hl:∀t∈l,t∈l')
  (hk:∀σ I F,K e σ I F→K' e σ I F):Post l' σ a I K' e a' w' :=
 let ⟨σ',I',F',h1,h2,h3,h4⟩:=h
 ⟨σ',I',F',h1,h2,hk _ _ _ h3,h4.mono hl⟩
theorem Post.trans{l m n:List Nat}{σ σ':S}{a a':Act}{I I':Imm}{K:Kt}{e:Exit}{a'':Act}{w'':World}(hk:Keep l σ a σ' a')(hI:Imm.le I I')
  (h:Post m σ' a' I' K e a'' w'') (hl:∀t∈l,t∈n) (hm:∀t∈m,t∈n):Post n σ a I K e a'' w'' :=
 let ⟨σ2,I2,F2,h1,h2,h3,h4⟩:=h
 ⟨σ2,I2,F2,h1,Imm.le_trans hI h2,h3,(hk.mono hl).trans (h4.mono hm)⟩
theorem W_sound(hP:∀f,A.good f=true→Enters P f):∀(c:Code) (n:Nat) (K:Kt) (rd:Option Heap) (ro:Option Nat) (σ:S) (I:Imm) (F:Heap) (a:Act) (w:World),Ctx ro rd →
  W P A rd c n K σ I F→Rel σ I F a w→c.wpIn (Fw ro) 0 P (Post (asg c) σ a I K) a w:=by
 intro c
 induction c with
 | skip=>intro n K rd ro σ I F a w hc h hr;exact wpIn_skip ⟨σ,I,F,hr,Imm.le_refl I,h,Keep.refl _ _ _⟩
 | label l=>intro n K rd ro σ I F a w hc h hr;exact wpIn_label ⟨σ,I,F,hr,Imm.le_refl I,h,Keep.refl _ _ _⟩
 | exit id=>intro n K rd ro σ I F a w hc h hr;exact wpIn_exit ⟨σ,I,F,hr,Imm.le_refl I,h,Keep.refl _ _ _⟩
 | goto l=>intro n K rd ro σ I F a w hc h hr;exact wpIn_goto ⟨σ,I,F,hr,Imm.le_refl I,h,Keep.refl _ _ _⟩
 | ret=>intro n K rd ro σ I F a w hc h hr;exact wpIn_ret ⟨σ,I,F,hr,Imm.le_refl I,h,Keep.refl _ _ _⟩
 | refuse why=>intro n K rd ro σ I F a w hc h hr;exact h.elim
 | scope c ih =>
   intro n K rd ro σ I F a w hc h hr
   refine wpIn_scope_straight (wpIn_mono (ih _ _ rd ro σ I F a w hc h hr) ?_)
   intro e a' w' ⟨σ',I',F',h1,h2,h3,h4⟩
   cases e with
   | goto l=>exact h3.elim
   | _=>exact⟨σ',I',F',h1,h2,h3,h4⟩
 | rangeFunc f ps x y ih1 ih2=>intro n K rd ro σ I F a w hc h hr;exact range_sound ih1 ih2 hc h hr
 | region rid ops draw =>
   intro n K rd ro σ I F a w hc h hr
   cases draw with
   | false =>
     obtain⟨hnd,h⟩:=cond_out h
     have hnd':ro=none∨ops.toList.all (fun o=>noDef o.op)=true:=by
      cases rd with
      | none=>exact .inl hc
      | some R=>exact .inr hnd
     refine wpIn_region_list (wOps_sound hP ops.toList 0 σ I F a w hnd' h hr ?_ ?_)
     ·exact fun σ' I' F' a' w' h1 h2 h3 h4=>⟨σ',I',F',h1,h2,h3,h4⟩
     ·exact fun ch σ' I' F' a' w' h1 h2 h3 h4=>⟨σ',I',F',h1,h2,h3,h4⟩
   | true =>
     simp only[W] at h
     split at h
     ·rename_i os t hot
      obtain⟨hb,h⟩:=cond_out h
      simp only[Bool.and_eq_true] at hb
      rcases cond_or h with ⟨b,o,F1,hp,h⟩ | h
      ·exact region_rowTH hP hb.1 hb.2 hp h hr fun σ' I' F' a' w' h1 h2 h3 h4=>⟨σ',I',F',h1,h2,h3,h4⟩
      ·exact region_rowT hP hb.1 hb.2 h hr fun σ' I' F' a' w' h1 h2 h3 h4=>⟨σ',I',F',h1,h2,h3,h4⟩
     split at h
     ·split at h
      ·split at h
       ·obtain⟨hb,h⟩:=cond_out h
        simp only[Bool.and_eq_true] at hb
        exact region_row hP hb.1 hb.2 h hr fun σ' I' F' a' w' h1 h2 h3 h4=>⟨σ',I',F',h1,h2,h3,h4⟩
       ·obtain⟨hb,h⟩:=cond_out h
        simp only[Bool.and_eq_true] at hb
        rcases cond_or h with ⟨b,o,F1,hp,h⟩ | h
        ·exact region_rowH hP hb.1 hb.2 hp h hr fun σ' I' F' a' w' h1 h2 h3 h4=>⟨σ',I',F',h1,h2,h3,h4⟩
        ·exact region_rowO hP hb.1 hb.2 h hr fun σ' I' F' a' w' h1 h2 h3 h4=>⟨σ',I',F',h1,h2,h3,h4⟩
      ·obtain⟨hb,h⟩:=cond_out h
       simp only[Bool.and_eq_true] at hb
       exact region_row2 hP hb.1 hb.2 h hr fun σ' I' F' a' w' h1 h2 h3 h4=>⟨σ',I',F',h1,h2,h3,h4⟩
     split at h
     ·obtain⟨hb,h⟩:=cond_out h
      simp only[Bool.and_eq_true] at hb
      exact region_tail hP hb.1 hb.2.1 hb.2.2.1 hb.2.2.2 h hr (fun σ' I' F' a' w' h1 h2 h3 h4=>⟨σ',I',F',h1,h2,h3,h4⟩) fun ch σ' I' F' a' w' h1 h2 h3 h4=>⟨σ',I',F',h1,h2,h3,h4⟩
     obtain⟨hb,h⟩:=cond_out h
     simp only[Bool.and_eq_true] at hb
     have hd:asg (.region rid ops true)=dsts ops.toList:=rfl
     split at h<;>exact region_draw hP hb.1 hb.2 h hr fun σ' F' a' w' h1 h2 h3=>⟨σ',I,F',h1,Imm.le_refl I,h2,h3⟩
 | cond c x y ih1 ih2 =>
   intro n K rd ro σ I F a w hc h hr
   simp only[W] at h
   split at h
   ·rename_i b hcc
    have hev:=S.ev_eval hr hcc
    simp only[AV.g,At.g] at hev
    refine wpIn_cond hev ?_
    cases b with
    | true=>exact wpIn_mono (ih1 _ K rd ro σ I F a w hc h hr) fun e a' w' hp=>hp.mono (fun t ht=>List.mem_append_left _ ht) fun _ _ _ h=>h
    | false=>exact wpIn_mono (ih2 _ K rd ro σ I F a w hc h hr) fun e a' w' hp=>hp.mono (fun t ht=>List.mem_append_right _ ht) fun _ _ _ h=>h
   ·exact h.elim
 | block id c ih =>
   intro n K rd ro σ I F a w hc h hr
   refine wpIn_block (wpIn_mono (ih _ _ rd ro σ I F a w hc h hr) ?_)
   intro e a' w' ⟨σ',I',F',h1,h2,h3,h4⟩
   cases e with
   | exit id' =>
     simp only[kBlock] at h3
     simp only[Exit.inBlock]
     by_cases hid:id'=id
     ·subst hid
      simp only[beq_self_eq_true,cond_true] at h3
      rw[if_pos rfl];exact⟨σ',I',F',h1,h2,h3,h4⟩
     ·have:(id'==id)=false:=by simpa using hid
      rw[this] at h3
      rw[if_neg hid];exact⟨σ',I',F',h1,h2,h3,h4⟩
   | _=>exact⟨σ',I',F',h1,h2,h3,h4⟩
 | seq x y ih1 ih2 =>
   intro n K rd ro σ I F a w hc h hr
   have hx:∀t∈asg x,t∈asg (.seq x y):=fun t ht=>List.mem_append_left _ ht
   have hy:∀t∈asg y,t∈asg (.seq x y):=fun t ht=>List.mem_append_right _ ht
   simp only[W] at h
   split at h
   ·refine wpIn_seq (wpIn_mono (ih1 _ _ rd ro σ I F a w hc h hr) ?_)
    intro e a' w' ⟨σ',I',F',h1,h2,h3,h4⟩
    cases e with
    | normal=>exact wpIn_mono (ih2 _ K rd ro σ' I' F' a' w' hc h3 h1) fun e a2 w2 hp=>hp.trans h4 h2 hx hy
    | _=>exact⟨σ',I',F',h1,h2,h3,h4.mono hx⟩
   ·rename_i ct hcut
    obtain⟨hok,h1,h2⟩:=cond_out h
    refine wpIn_seq (wpIn_mono (ih1 _ _ rd ro _ I F a w hc h1 (hr.lock ct)) ?_)
    intro e a' w' ⟨σ',I',F',g1,g2,g3,g4⟩
    have hother:KeepO σ (σ'.unlock σ):=lock_unlock g4.own
    cases e with
    | normal =>
      obtain⟨hokv,hInv⟩:=cond_out g3
      obtain⟨hdf,hInv⟩:=dfOk_out hInv
      have hrel:Rel (σ.lay ct (asg x) (σ'.vals ct)) I' F' a' w':=by
       refine Rel.lay ct (asg x) hr g1 ?_ (fun t ht=>g4.tm t ht) g4.size hokv hdf
       intro i b hb
       obtain⟨b1,e1,e2,e3,e4,e5,e6⟩:=lock_at (c:=ct) hb
       obtain⟨b2,f1,f2,f3,f4⟩:=g4.own i b1 e1
       refine⟨b2,f1,f2.trans e2,f3.trans e3,fun hs=>?_⟩
       have:seg ct.bks [] i=none:=by
        have:=seg_some (bks:=ct.bks) (vs:=(σ'.vals ct).drop ct.tms.length) (us:=[]) (i:=i)
        rw[hs] at this
        cases h0:seg ct.bks [] i with
        | none=>rfl
        | some cs=>rw[h0] at this;cases this
       exact (f4 (e6 this)).2.trans e4
      have h5:=allLs_at h2 (okv_fits hokv) I' F' g2 hInv
      have hkeep:Keep (asg x) σ a ((σ.lay ct (asg x) (σ'.vals ct)).unlock σ) a':=by
       refine⟨?_,g4.tm,g4.size⟩
       exact unlock_keep hok (KeepO.refl _)
      exact wpIn_mono (ih2 _ K rd ro _ I' F' a' w' hc h5 hrel.unlock) fun e a2 w2 hp=>hp.trans hkeep g2 hx hy
    | _=>exact⟨_,I',F',g1.unlock,g2,g3,(⟨hother,g4.tm,g4.size⟩:Keep (asg x) σ a _ a').mono hx⟩
 | loop c ih =>
   intro n K rd ro σ I F a w hc h hr
   simp only[W] at h
   split at h
   ·exact h.elim
   ·rename_i ct hcut
    obtain⟨hokv,⟨m0,h0⟩,h⟩:=cond_out h
    have hok:bkOk σ.own ct.bks=true:=by simp only[S.okv,Bool.and_eq_true] at hokv;exact hokv.2
    refine wp_loop_m (fun m a1 w1=>∃vs I1 F1,Rel (σ.lay ct (asg c) vs) I1 F1 a1 w1∧Imm.le I I1∧ct.Inv (σ.fix ct) I F vs m I1 F1∧fitsAll ct.lfs vs=true ∧
     (∀t,t∉asg c→a1.tmps[t]? = a.tmps[t]?)∧a1.tmps.size=a.tmps.size) ⟨m0,σ.vals ct,I,F, ?_,Imm.le_refl I,h0,okv_fits hokv,fun _ _=>rfl,rfl⟩ ?_
    ·exact Rel.lay ct (asg c) hr hr (fun i b hb=>⟨b,hb,rfl,rfl,fun _=>rfl⟩) (fun _ _=>rfl) rfl hokv rfl
    ·intro m a1 w1 ⟨vs,I1,F1,r1,r2,r3,r4,r5,r6⟩
     have hb:=allLs_at h r4 m I1 F1 r2 r3
     refine wpIn_mono (ih _ _ rd ro _ I1 F1 a1 w1 hc hb r1) ?_
     intro e a' w' ⟨σ',I',F',g1,g2,g3,g4⟩
     have hkeep:Keep (asg c) σ a (σ'.unlock σ) a':=⟨unlock_keep hok g4.own,fun t ht=>(g4.tm t ht).trans (r5 t ht),g4.size.trans r6⟩
     cases e with
     | normal =>
       obtain⟨hokv',hInv⟩:=cond_out g3
       obtain⟨hdf,m',hlt,hInv⟩:=dfOk_out hInv
       refine⟨m',hlt,σ'.vals ct,I',F', ?_,Imm.le_trans r2 g2,hInv,okv_fits hokv',hkeep.tm,hkeep.size⟩
       refine Rel.lay ct (asg c) hr g1 ?_ hkeep.tm hkeep.size hokv' hdf
       intro i b hb
       have e0:(σ.lay ct (asg c) vs).own[i]? = some (match seg ct.bks (vs.drop ct.tms.length) (0+i) with
        | some cs=>{ b with cells:=cs.map fun v=>.a (.v v) }
        | none=>{ b with ro:=true }):=by show (layOwn _ _ 0 σ.own)[i]? = _;rw[layOwn_get,hb];rfl
       obtain⟨b2,f1,f2,f3,f4⟩:=g4.own i _ e0
       refine⟨b2,f1, ?_, ?_,fun hs=>?_⟩
       ·rw[f2];split<;>rfl
       ·rw[f3];split<;>rfl
       ·have hs':seg ct.bks (vs.drop ct.tms.length) (0+i)=none:=by
         rw[Nat.zero_add]
         have:=seg_some (bks:=ct.bks) (vs:=(σ'.vals ct).drop ct.tms.length) (us:=vs.drop ct.tms.length) (i:=i)
         rw[hs] at this
         cases h0:seg ct.bks (vs.drop ct.tms.length) i with
         | none=>rfl
         | some cs=>rw[h0] at this;cases this
        rw[hs'] at f4
        exact (f4 rfl).2
     | _=>exact⟨_,I',F',g1.unlock,Imm.le_trans r2 g2,g3,hkeep⟩
def resOne(P:Program)(σ:S):ResultVar→Option Value
 | .tmp t=>match σ.tm[t]? with
   | some (some av)=>some av.g
   | _=>none
 | .cell x t=>match σ.tm[x]? with
   | some (some (.a (.p i _ off))) =>
     match σ.own[i]?,aggB P t with
     | some blk,some false=>(blk.cells[off]?).map AV.g
     | some blk,some true=>match szB P t with
       | some n=>cond (((blk.cells.drop off).take n).length==n) (some (.agg (((blk.cells.drop off).take n).map AV.g).toArray)) none
       | none=>none
     | _,_=>none
   | _=>none
def resAll(P:Program)(σ:S):List ResultVar→Option (List Value)
 | []=>some []
 | r::rs=>match resOne P σ r,resAll P σ rs with
   | some v,some vs=>some (v::vs)
   | _,_=>none
def resVal:List Value→Value
 | [v]=>v
 | vs=>.tuple vs.toArray
def resSem(a:Act):ResultVar→Sem Value
 | .tmp t=>pure (a.tmps.getD t undef)
 | .cell x t=>do loadVar t (←asAddr (a.tmps.getD x undef))
theorem resOne_run{σ:S}{I:Imm}{F:Heap}{a:Act}{w:World}(hr:Rel σ I F a w){r:ResultVar}{v:Value}(h:resOne P σ r=some v) :
  (resSem a r).run P w=.ok v w:=by
 cases r with
 | tmp t =>
   simp only[resOne] at h
   split at h
   ·rename_i av ht
    have:=hr.tm t av ht
    cases h
    simp[resSem,this]
   ·cases h
 | cell x t =>
   simp only[resOne] at h
   split at h
   ·rename_i i b off hx
    have hv:=hr.tm x _ hx
    have hwf:=hr.wft x _ hx
    simp only[AV.g,At.g] at hv
    have hl:wLoadOwn P t σ.own i off fun y=>y.g=v:=by
     unfold wLoadOwn
     split at h
     ·rename_i blk hb ha
      simp only[hb,ha]
      cases hc:blk.cells[off]? with
      | none=>rw[hc] at h;cases h
      | some av=>rw[hc] at h;simp only[Option.map_some,Option.some.injEq] at h;exact h
     ·rename_i blk hb ha
      simp only[hb,ha]
      split at h
      ·rename_i n hn
       simp only[hn]
       cases hlen:(((blk.cells.drop off).take n).length==n) with
       | false=>rw[hlen] at h;cases h
       | true=>rw[hlen] at h;simp only[cond_true,Option.some.injEq] at h;exact h
      ·cases h
     ·cases h
    obtain⟨av,hg,_,hload⟩:=wLoadOwn_out hl
    have:=hload b hwf w fun blk hb=>hr.sat.get hb
    rw[hg] at this
    simp[resSem,hv,asAddr,Sem.run_bind,this]
   ·cases h
theorem resAll_run{σ:S}{I:Imm}{F:Heap}{a:Act}{w:World}(hr:Rel σ I F a w):∀{rs:List ResultVar} {vs:List Value},resAll P σ rs=some vs →
  (rs.mapM (resSem a)).run P w=.ok vs w
 | [],vs,h=>by simp only[resAll,Option.some.injEq] at h;subst h;rfl
 | r::rs,vs,h=>by
   simp only[resAll] at h
   split at h
   ·rename_i v us h1 h2
    cases h
    simp[Sem.run_bind,resOne_run hr h1,resAll_run hr h2]
   ·cases h
theorem results_run{fn:Func}{σ:S}{I:Imm}{F:Heap}{a:Act}{w:World}(hr:Rel σ I F a w){vs:List Value}(h:resAll P σ fn.results.toList=some vs) :
  (results fn a.tmps).run P w=.ok (resVal vs) w:=by
 have h1:=resAll_run hr h
 have h2:results fn a.tmps=(do
   let vs ←fn.results.mapM (resSem a)
   pure (if h:vs.size=1 then vs[0] else .tuple vs)):=rfl
 rw[h2,Array.mapM_eq_mapM_toList]
 simp only[Sem.run_bind,Sem.run_map,h1,Result.andThen_ok,Sem.run_pure]
 congr 1
 match vs with
 | []=>rfl
 | [v]=>rfl
 | _::_::_=>rfl
def pick(own:List Blk):List Nat→List Blk
 | []=>[]
 | i::r=>match own[i]? with
   | some b=>b::pick own r
   | none=>pick own r
def modeOf:Option (List PanicEntry)→FrameMode
 | none=>.returning
 | some ch=>.panicking ch
def TriD(P:Program)(f:FuncId)(args:List Value)(u:FrameMode)(I:Imm)(F:Heap)(Q:Ending→FrameMode→Imm→Heap→Prop):Prop :=
 ∀w,Sat I F w→CallsDIn Fence.wide 0 P f args.toArray u w fun e u' w'=>∃I' F',Imm.le I I'∧Sat I' F' w'∧Q e u' I' F'
def kEnd(P:Program)(A:Ann)(rs:List ResultVar)(keep:List Nat)(Q:Ending→Imm→Heap→Prop):List Df→Option (List PanicEntry)→S→Imm→Heap→Prop
 | [],none,σ,I,F=>match resAll P σ rs with
   | some vs=>Q (.returned (resVal vs)) I (blks (pick σ.own keep)++F)
   | none=>False
 | [],some ch,σ,I,F=>Q (.panicked ch) I (blks (pick σ.own keep)++F)
 | .mark D::r,u,σ,I,F=>∃F3:Heap,F.Perm ((D,.deferred (some []))::F3)∧kEnd P A rs keep Q r u σ I F3
 | .fn f first cap args::r,u,σ,I,F=>cond (A.good f)
   (TriD P f (first.map At.g++args++cap.map At.g) (modeOf u) I (blks σ.own++F) fun e u' I' G=>∃v,e=.returned v ∧
     exOwn A.shp (esc σ.own 2 (first.flatMap At.idx++cap.flatMap At.idx)) 0 σ.own fun own'=>∃F',G.Perm (blks own'++F') ∧
      ((settle u'=.returning∧kEnd P A rs keep Q r none { σ with own:=own' } I' F')∨(∃ch,settle u'=.panicking ch∧kEnd P A rs keep Q r (some ch) { σ with own:=own' } I' F'))) False
def kBody(P:Program)(A:Ann)(rs:List ResultVar)(keep:List Nat)(Q:Ending→Imm→Heap→Prop):Kt
 | .normal,σ,I,F=>kEnd P A rs keep Q σ.df none σ I F
 | .ret,σ,I,F=>kEnd P A rs keep Q σ.df none σ I F
 | .panic ch,σ,I,F=>kEnd P A rs keep Q σ.df (some ch) σ I F
 | _,_,_,_=>False
def asc:Nat→List Nat→Bool
 | _,[]=>true
 | n,i::r=>decide (n≤i)&&asc (i+1) r
theorem pick_sub:∀(keep:List Nat) (n:Nat) (own:List Blk),asc n keep=true→(pick own keep).Sublist (own.drop n)
 | [],n,own,_=>by simp[pick]
 | i::r,n,own,h=>by
   simp only[asc,Bool.and_eq_true,decide_eq_true_eq] at h
   have ih:=pick_sub r (i+1) own h.2
   simp only[pick]
   have hd:(own.drop (i+1)).Sublist (own.drop n):=by
    have:own.drop (i+1)=(own.drop n).drop (i+1-n):=by rw[List.drop_drop];congr 1;omega
    rw[this];exact List.drop_sublist _ _
   cases hb:own[i]? with
   | none=>exact ih.trans hd
   | some b =>
     have hlt:i<own.length:=by
      rcases Nat.lt_or_ge i own.length with h' | h'
      ·exact h'
      ·simp[List.getElem?_eq_none h'] at hb
     have hc:own.drop i=b::own.drop (i+1):=by
      rw[List.drop_eq_getElem_cons hlt]
      rw[List.getElem?_eq_getElem hlt] at hb
      rw[Option.some.inj hb]
     have hd':(own.drop i).Sublist (own.drop n):=by
      have:own.drop i=(own.drop n).drop (i-n):=by rw[List.drop_drop];congr 1;omega
      rw[this];exact List.drop_sublist _ _
     exact ((List.Sublist.cons_cons b ih).trans (by rw[hc];exact List.Sublist.refl _)).trans hd'
def argTm(args:List AV)(n:Nat):List (Option AV):=args.map some++List.replicate (n-args.length) none
theorem own_sound{shp:Nat→List Sh}{σ:S}{I I':Imm}{F F' G:Heap}{E:List Nat}{a:Act}{w w':World}(hr:Rel σ I F a w){own':List Blk}(hsat:Sat I' G w')
  (h:own'.length=σ.own.length∧∀(j:Nat) (b:Blk),σ.own[j]? = some b→∃b':Blk,own'[j]? = some b'∧b'.num=b.num∧b'.elem=b.elem∧b'.ro=b.ro ∧
    ((∃vs:List Value,b'.cells=vs.map fun v=>.a (.v v))∨b'.cells=b.cells)∧(b.ro=true→b'.cells=b.cells)) (hp:G.Perm (blks own'++F')):Rel { σ with own:=own' } I' F' a w':=by
 obtain⟨hl,hk⟩:=h
 have hkeep:KeepO σ { σ with own:=own' }:=fun j b hb=>by
  obtain⟨b',h1,h2,h3,h4,_,h6⟩:=hk j b hb
  exact⟨b',h1,h2,h3,fun hro=>⟨by rw[h4];exact hro,h6 hro⟩⟩
 refine hr.heap hkeep.same ?_ (hsat.perm hp)
 intro j b' hj c hc
 have hlt:j<σ.own.length:=by
  rcases Nat.lt_or_ge j own'.length with h' | h'
  ·omega
  ·simp[List.getElem?_eq_none h'] at hj
 obtain⟨b,hb⟩:∃b,σ.own[j]? = some b:=⟨σ.own[j],by simp[hlt]⟩
 obtain⟨b'',h1,_,_,_,h5,_⟩:=hk j b hb
 rw[hj] at h1;cases h1
 rcases h5 with ⟨vs,e⟩ | e
 ·rw[e] at hc;obtain⟨v,_,e⟩:=List.mem_map.1 hc;subst e;trivial
 ·rw[e] at hc;exact AV.wf_same hkeep.same (hr.wfo j b hb c hc)
theorem leaves_sound(hP:∀f,A.good f=true→Enters P f){fn:Func}{keep:List Nat}(hk:asc 0 keep=true){Q:Ending→Imm→Heap→Prop}{I0:Imm}:∀(df:List Df) (u:Option (List PanicEntry)) (σ:S) (I:Imm) (F:Heap) (a:Act) (w:World),
  kEnd P A fn.results.toList keep Q df u σ I F→Rel σ I F a w→Imm.le I0 I→LeavesInM Fence.wide 0 P fn a.tmps (EndQ I0 Q) (df.map Df.d) (modeOf u) w:=by
 have hsub:∀{σ:S} {I:Imm} {F:Heap} {a:Act} {w:World},Rel σ I F a w→Sat I (blks (pick σ.own keep)++F) w:=fun {σ I F a w} h1=>by
  have h5:=pick_sub keep 0 σ.own hk
  rw[List.drop_zero] at h5
  exact h1.sat.sub ((h5.map _).append (List.Sublist.refl F))
 intro df
 induction df with
 | nil =>
   intro u σ I F a w h hr hle
   cases u with
   | none =>
     simp only[kEnd] at h
     split at h
     ·rename_i vs hvs
      exact⟨_,results_run hr hvs,I,_,hle,hsub hr,h⟩
     ·exact h.elim
   | some ch=>exact⟨I,_,hle,hsub hr,h⟩
 | cons d df ih =>
   intro u σ I F a w h hr hle
   have hrun:modeOf u ≠ .run:=by cases u<;>exact fun h=>by cases h
   cases d with
   | mark D =>
     obtain⟨F3,hp,h⟩:=h
     have hs:Sat I ((D,.deferred (some []))::(blks σ.own++F3)) w:=(hr.sat.perm (List.Perm.append_left _ hp)).perm List.perm_middle
     refine⟨hrun,.inl ⟨D,_,rfl,run_takeDeferred hs.at_head,ih u σ I F3 a _ h ?_ hle⟩⟩
     exact hr.heap (Same.refl _) hr.wfo ((hs.put_head (o':=.deferred none)).sub (List.sublist_cons_self _ _))
   | fn f first cap args =>
     obtain⟨hg,h⟩:=cond_out h
     refine⟨hrun,.inr ⟨fun h=>by simp[Fence.wide] at h,.func f,(cap.map At.g).toArray,f,(first.map At.g).toArray++args.toArray++(cap.map At.g).toArray,rfl, ?_,fun _ _=>trivial, ?_⟩⟩
     ·simp only[Df.d,invoke];exact hP f hg _ w
     ·have hc:=h w hr.sat
      have ha:(first.map At.g++args++cap.map At.g).toArray=(first.map At.g).toArray++args.toArray++(cap.map At.g).toArray:=by simp
      rw[ha] at hc
      refine hc.mono fun e u' w' ⟨I',G,hle',hs',v,he,hq⟩=>?_
      subst he
      obtain⟨own',⟨F',hp,hor⟩,hown⟩:=exOwn_out hq
      have hrel:=own_sound (shp:=A.shp) (E:=[]) hr hs' hown hp
      rcases hor with ⟨hm,hk2⟩ | ⟨ch,hm,hk2⟩
      ·have:=ih none _ I' F' a w' hk2 hrel (Imm.le_trans hle hle')
       show LeavesInM Fence.wide 0 P fn a.tmps (EndQ I0 Q) (df.map Df.d) (settle u') w'
       rw[hm];exact this
      ·have:=ih (some ch) _ I' F' a w' hk2 hrel (Imm.le_trans hle hle')
       show LeavesInM Fence.wide 0 P fn a.tmps (EndQ I0 Q) (df.map Df.d) (settle u') w'
       rw[hm];exact this
theorem tri_of_W(hP:∀f,A.good f=true→Enters P f){f:FuncId}{fn:Func}{c:Code}(hf:P.funcs[f]? = some fn)(hb:fn.body=some c){args:List AV}{own:List Blk}
  {I:Imm} {F:Heap} {keep:List Nat} {Q:Ending→Imm→Heap→Prop} (hk:asc 0 keep=true) (hwa:∀x∈args,AV.wf own x) (hwo:∀b∈own,∀x∈b.cells,AV.wf own x)
  (h:W P A none c 0 (kBody P A fn.results.toList keep Q) ⟨argTm args fn.ntmps,own,[]⟩ I F) {vs:Array Value} (hv:vs=(args.map AV.g).toArray):Tri P f vs I (blks own++F) Q:=by
 subst hv
 intro w hw
 refine callsIn_wide.1 (callsIn_of_wp_marks (n:=0) hf hb trivial ?_)
 have hrel:Rel ⟨argTm args fn.ntmps,own,[]⟩ I F { tmps:=(args.map AV.g).toArray++Array.replicate (fn.ntmps-(args.map AV.g).toArray.size) undef,defers:=[] } w:=by
  refine⟨by simp[argTm], ?_,rfl, ?_, ?_,hw⟩
  ·intro t av ht
   simp only[argTm,List.getElem?_append] at ht
   split at ht
   ·rename_i hlt
    simp only[List.getElem?_map] at ht
    cases ha:args[t]? with
    | none=>rw[ha] at ht;simp at ht
    | some x =>
      rw[ha] at ht
      simp only[Option.map_some,Option.some.injEq] at ht
      subst ht
      simp at hlt
      rw[Array.getElem?_append_left (by simpa using hlt)]
      simp[ha]
   ·rw[List.getElem?_replicate] at ht;split at ht<;>cases ht
  ·intro t av ht
   simp only[argTm,List.getElem?_append] at ht
   split at ht
   ·simp only[List.getElem?_map] at ht
    cases ha:args[t]? with
    | none=>rw[ha] at ht;simp at ht
    | some x =>
      rw[ha] at ht
      simp only[Option.map_some,Option.some.injEq] at ht
      subst ht
      exact hwa _ (List.mem_of_getElem? ha)
   ·rw[List.getElem?_replicate] at ht;split at ht<;>cases ht
  ·exact fun i b hb' x hx=>hwo b (List.mem_of_getElem? hb') x hx
 refine wpIn_mono (W_sound hP c 0 _ none none _ I F _ w rfl h hrel) ?_
 intro e a' w' ⟨σ',I',F',h1,h2,h3,h4⟩
 cases e with
 | normal =>
   have:=leaves_sound hP hk σ'.df none σ' I' F' a' w' h3 h1 h2
   rw[←h1.defers] at this;exact this
 | ret =>
   have:=leaves_sound hP hk σ'.df none σ' I' F' a' w' h3 h1 h2
   rw[←h1.defers] at this;exact this
 | panic ch =>
   have:=leaves_sound hP hk σ'.df (some ch) σ' I' F' a' w' h3 h1 h2
   rw[←h1.defers] at this;exact this
 | exit id=>exact h3.elim
 | goto l=>exact h3.elim
 | outgrown=>exact h3.elim
end sound
def goodB(P:Program)(f:Nat):Bool :=
 match P.funcs[f]? with
 | some fn=>!(fn.name == "runtime.NumGoroutine")&&fn.body.isSome
 | none=>false
theorem enters_of_good{P:Program}{f:Nat}(h:goodB P f=true):Enters P f:=by
 intro args w
 unfold goodB at h
 split at h
 ·rename_i fn hf
  simp only[Bool.and_eq_true,Bool.not_eq_true'] at h
  have h1:¬fn.name = "runtime.NumGoroutine" := by simpa using h.1
  have h2:¬fn.body=none:=fun e=>by rw[e] at h;simp at h
  simp[callFunc,program,Sem.run_bind,Sem.run,hf,h1,h2]
 ·cases h
def lk(l:List (Nat×List Sh))(t:Nat):List Sh :=
 match l with
 | []=>[]
 | (s,x)::r=>cond (s==t) x (lk r t)
def memB:List Nat→Nat→Bool
 | [],_=>false
 | x::r,n=>x==n||memB r n
def ckt(l:List (Nat×Cut))(n:Nat):Option Cut :=
 match l with
 | []=>none
 | (m,c)::r=>cond (m==n) (some c) (ckt r n)
def dsk(l:List (Nat×Nat×List Nat))(n:Nat):Option (Nat×List Nat) :=
 match l with
 | []=>none
 | (m,k,h)::r=>cond (m==n) (some (k,h)) (dsk r n)
theorem hP_of{P:Program}(l:List Nat)(h:l.all (goodB P)=true):∀f,memB l f=true→Enters P f:=by
 intro f hf
 have:f∈l:=by
  clear h
  induction l with
  | nil=>simp[memB] at hf
  | cons x r ih =>
    simp only[memB,Bool.or_eq_true,beq_iff_eq] at hf
    rcases hf with hf | hf
    ·exact hf▸List.mem_cons_self ..
    ·exact List.mem_cons_of_mem _ (ih hf)
 exact enters_of_good (List.all_eq_true.1 h f this)
abbrev PostQ:=Ending→Imm→Heap→Prop
def annL(sp pn gd:List Nat)(sh:List (Nat×List Sh))(ct:List (Nat×Cut))(pr rl:List Nat)(ds:List (Nat×Nat×List Nat))(fv:List Nat)(sq:List (Nat×List Nat))(tl:List (Nat×Nat))(s2:List (Nat×Nat×Nat×List Nat×List Nat):=[])(ol:List (Nat×List Nat×Nat):=[])(ot:List (Nat×List Nat×Ot):=[]):Ann :=
 { sp:=fun r i=>memB sp (r*1000+i),pn:=memB pn,good:=memB gd,shp:=lk sh,cut:=ckt ct,pr:=fun r i=>memB pr (r*1000+i),ds:=dsk ds,rl:=fun r i=>memB rl (r*1000+i),fv:=fun r i=>memB fv (r*1000+i),sq:=sqk sq,tl:=tlk tl,s2:=s2k s2,ol:=olk ol,ot:=otk ot }
theorem tri_of_V{P:Program}{A:Ann}{f:FuncId}{fn:Func}{args:List AV}{own:List Blk}{I:Imm}{F:Heap}{keep:List Nat}{Q:PostQ}{V:Prop}(gd:List Nat)(hf:P.funcs[f]? = some fn)(h:V)
  (e:W P A none (fn.body.getD .skip) 0 (kBody P A fn.results.toList keep Q) ⟨argTm args fn.ntmps,own,[]⟩ I F=V) (hg:A.good=memB gd) (hG:gd.all (goodB P)=true) (hb:fn.body=some (fn.body.getD .skip)) (hk:asc 0 keep=true)
  (hwa:∀x∈args,AV.wf own x) (hwo:∀b∈own,∀x∈b.cells,AV.wf own x) {vs:Array Value} (hv:vs=(args.map AV.g).toArray):Tri P f vs I (blks own++F) Q :=
 tri_of_W (fun f hf'=>hP_of gd hG f (by rw[←hg];exact hf')) hf hb hk hwa hwo (by rw[e];exact h) hv
theorem tv{P:Program}{A:Ann}{f:FuncId}{fn:Func}{args:List AV}{own:List Blk}{I:Imm}{F:Heap}{keep:List Nat}{Q:PostQ}{V:Prop}(gd:List Nat)(hf:P.funcs[f]? = some fn)(h:V)
  (e:W P A none (fn.body.getD .skip) 0 (kBody P A fn.results.toList keep Q) ⟨argTm args fn.ntmps,own,[]⟩ I F=V:=by kernel_rfl) (hg:A.good=memB gd:=by kernel_rfl) (hG:gd.all (goodB P)=true:=by kernel_rfl) (hb:fn.body=some (fn.body.getD .skip):=by kernel_rfl) (hk:asc 0 keep=true:=by kernel_rfl)
  (hwa:∀x∈args,AV.wf own x:=by simp[AV.wf,At.wf]) (hwo:∀b∈own,∀x∈b.cells,AV.wf own x:=by simp[AV.wf,At.wf]) {vs:Array Value} (hv:vs=(args.map AV.g).toArray:=by rfl):Tri P f vs I (blks own++F) Q :=
 tri_of_V gd hf h e hg hG hb hk hwa hwo hv
abbrev Bs:=ByteArray
abbrev OA:=Option Addr
abbrev nB:ByteArray:=⟨#[]⟩
abbrev It(c:Bool)(A B:Prop):Prop:=(c=true→A)∧(c=false→B)
abbrev Dt(p:Prop)[Decidable p](A B:Prop):Prop:=(decide p=true→A)∧(decide p=false→B)
abbrev Tc1{α:Type}(P:Program)(f:FuncId)(x:Array Value)(I:Imm)(h:Heap→Heap)(F:Heap)(v:α→Value)(k:α→Imm→Heap→Prop):Prop:=Tri P f x I (h F) fun e I' G=>∃r:α,e=.returned (v r)∧∃F':Heap,List.Perm G (h F')∧k r I' F'
abbrev Tcn(P:Program)(f:FuncId)(x:Array Value)(I:Imm)(h:Heap→Heap)(F:Heap)(R:Ending→Imm→((Heap→Prop)→Prop)→Prop):Prop:=Tri P f x I (h F) fun e I' G=>R e I' fun k=>∃F':Heap,List.Perm G (h F')∧k F'
abbrev an(g:List Nat)(c:List Nat)(s:List (Nat×List Sh)):Ann:=annL g [] c s [] [] [] [] [] [] []
theorem tw{P:Program}{A:Ann}{f:FuncId}{fn:Func}{vs:List Value}{I:Imm}{F:Heap}{Q:PostQ}{V:Prop}(gd:List Nat)(hf:P.funcs[f]? = some fn)(h:V)
  (e:W P A none (fn.body.getD .skip) 0 (kBody P A fn.results.toList [] Q) ⟨argTm (vs.map fun v=>.a (.v v)) fn.ntmps,[],[]⟩ I F=V:=by kernel_rfl) (hg:A.good=memB gd:=by kernel_rfl) (hG:gd.all (goodB P)=true:=by kernel_rfl) (hb:fn.body=some (fn.body.getD .skip):=by kernel_rfl)
  : Tri P f vs.toArray I F Q :=
 tri_of_V (args:=vs.map fun v=>.a (.v v)) (own:=[]) (keep:=[]) gd hf h e hg hG hb rfl (by intro x hx;obtain⟨v,_,rfl⟩:=List.mem_map.1 hx;simp[AV.wf,At.wf]) (by simp) (by rw[List.map_map];congr 1;exact (List.map_id _).symm)
end Go.Vc
namespace Go.Vc
open Go.ChangeShapes Go.WideShapes Go.ChangeAt Go.RowKit
def Imm.all(w:World):Imm:=⟨fun b=>w.heap[b]?,w.os,w.output⟩
theorem Sat.all(w:World):Sat (Imm.all w) [] w:=⟨fun _ _ h=>h,fun _ _ h=>by simp at h,fun _ _ h=>by simp at h,List.nodup_nil,rfl,rfl⟩
structure Stays (w w':World):Prop where
 heap:∀i,i<w.heap.size→w'.heap[i]? = w.heap[i]?
 os:w'.os=w.os
 out:w'.output=w.output
theorem Stays.of{w w':World}{I:Imm}{F:Heap}(hl:Imm.le (Imm.all w) I)(hs:Sat I F w'):Stays w w':=by
 refine⟨fun i hi=>?_,hs.env.1.trans hl.2.1,hs.env.2.trans hl.2.2⟩
 obtain⟨o,ho⟩:∃o,w.heap[i]? = some o:=⟨_,Array.getElem?_eq_getElem hi⟩
 rw[ho]
 exact hs.imm _ _ (hl.1 i o ho)
theorem Stays.kept{w w':World}(h:Stays w w')(may:MemPlace→Prop):w.keptBut w' may:=by
 refine⟨h.os,h.out,fun i hi=>?_⟩
 rw[h.heap i hi]
 cases w.heap[i]? with
 | none=>rfl
 | some o=>cases o with
   | cells c t fr=>exact⟨rfl,rfl,rfl,fun _ _=>rfl⟩
   | map es clock=>exact .inr ⟨rfl,rfl⟩
   | _=>rfl
theorem Stays.frozen{w w':World}(h:Stays w w'){a:Addr}(ha:a.block<w.heap.size):w'.frozen? a=w.frozen? a:=by
 unfold World.frozen?;rw[h.heap _ ha]
theorem post_stays{H:Type}{enc:TypeId×Value→H}{P:Program}{f:Func}{s:ChangeSpec}{apart fresh handsOn again:Bool}{W W':World}{args:Array Value}{v:Value}{ds gs:List (DataW H)}{before pa pv:List MemPlace}
  (hW:DataW.Whole enc P f.params.toList s.vars apart W args.toList ds gs before)
  (hres:∀(b:Nat) (sp:Nat→Bool) (hd:Bool),DataW.TrodAll enc P W' b sp hd f.resultTypes.toList (v.resultList f.resultTypes.size) (s.fn H (ds++gs)).results [])
  (hargs:∀sp:Nat→Bool,(∀p∈before,sp p.block=true)→DataW.TrodAll enc P W' 0 sp true f.params.toList args.toList (s.fn H (ds++gs)).args pa)
  (hvars:∀sp:Nat→Bool,(∀p∈before,sp p.block=true)→DataW.TrodVars enc P W' sp s.vars (s.fn H (ds++gs)).vars pv)
  (hps:before=pa++pv) (hk:Stays W W')
  (hok:∀(j:Nat) (t:TypeId) (r:Value),f.resultTypes[j]? = some t→(v.resultList f.resultTypes.size)[j]? = some r→Value.okWide P W' .any 0 t r) :
  s.post enc P f apart fresh handsOn again W args v W':=by
 have hold:∀p∈before,(fun b=>decide (b<W.heap.size)) p.block=true:=fun p hp=>by simpa using hW.lt p hp
 have hlt:∀p∈before,p.block<W.heap.size:=fun p hp=>hW.lt p hp
 refine⟨ds,gs,before,[],pa,pv,hW,hres _ _ _,hargs _ hold,hvars _ hold,World.keptBut_mono (fun p hp=>⟨hp, ?_⟩) (hk.kept (·∈before)),fun _=>?_⟩
 ·rw[hps,List.mem_append] at hp
  exact Or.inr hp
 ·obtain⟨_,_,_,_,_,hz,hn⟩:=hW
  refine⟨hok,_,_,([]++pa)++pv,⟨[]++pa,pv,trodAll_append (hargs _ (fun _ _=>rfl)) (hres _ _ _),hvars _ (fun _ _=>rfl),rfl, ?_, ?_⟩, ?_⟩
  ·intro b off hp
   have hp':MemPlace.cell b off∈before:=by rw[hps];simpa using hp
   rw[hk.frozen (hlt _ hp')]
   exact hz b off hp'
  ·intro ha
   have:=hn ha
   rw[hps] at this
   simpa using this
  ·intro p hp _
   rw[hps]
   simpa using hp
end Go.Vc
namespace Go.Vc
theorem flat_get{α β:Type}(f:α→List β)(z:Nat)(hz:∀x,(f x).length=z):∀(l:List α) (i:Nat) (x:α) (j:Nat),l[i]? = some x→j<z→(l.flatMap f)[i*z+j]? = (f x)[j]?
 | [],i,x,j,h,_=>by simp at h
 | y::l,0,x,j,h,hj=>by
   simp at h;subst h
   rw[List.flatMap_cons,List.getElem?_append_left (by rw[hz];omega)];simp
 | y::l,i+1,x,j,h,hj=>by
   rw[List.flatMap_cons,List.getElem?_append_right (by rw[hz,Nat.succ_mul];omega),hz,show (i+1)*z+j-z=i*z+j by rw[Nat.succ_mul];omega]
   exact flat_get f z hz l i x j (by simpa using h) hj
def Sl{α:Type}(I:Imm)(z:Nat)(f:α→List Value)(a:Option Addr)(n:Nat)(l:List α):Prop :=
 n=l.length∧(l≠[]→∃ad,a=some ad∧∀(i:Nat) (x:α),l[i]? = some x→∀G,Rd I G (ad.add (i*z)) (f x))
theorem Rd.le{I J:Imm}{G:Heap}{ad:Addr}{cs:List Value}(h:Rd I G ad cs)(hl:∀b o,(I b=some o∨(b,o)∈G)→J b=some o∨(b,o)∈G):Rd J G ad cs:=by
 obtain⟨h1,cells,e,fz,h2,h3⟩:=h
 exact⟨h1,cells,e,fz,hl _ _ h2,h3⟩
theorem Rd.mono{I J:Imm}{G:Heap}{ad:Addr}{cs:List Value}(h:Rd I G ad cs)(hl:Imm.le I J):Rd J G ad cs :=
 h.le fun b o hb=>hb.imp (fun h=>hl.at h) id
theorem Sl.mono{α:Type}{I J:Imm}{z:Nat}{f:α→List Value}{a:Option Addr}{n:Nat}{l:List α}(h:Sl I z f a n l)(hl:Imm.le I J):Sl J z f a n l :=
 ⟨h.1,fun hne=>let ⟨ad,ha,hr⟩:=h.2 hne;⟨ad,ha,fun i x hx G=>(hr i x hx G).mono hl⟩⟩
theorem Sl.of_block{α:Type}{I:Imm}{z:Nat}{f:α→List Value}(hz:∀x,(f x).length=z){b e:Nat}{fz:Nat×Nat}{l:List α}{cells:Array Value}(h:I b=some (.cells cells e fz))
  (hc:∀k,k<(l.flatMap f).length→cells[k]? = (l.flatMap f)[k]?):Sl I z f (some ⟨b,0,none⟩) l.length l:=by
 refine⟨rfl,fun hne=>⟨_,rfl,fun i x hx G=>?_⟩⟩
 have hadd:(⟨b,0,none⟩:Addr).add (i*z)=⟨b,i*z,none⟩:=by unfold Addr.add;split<;>simp_all
 rw[hadd]
 refine⟨rfl,cells,e,fz,.inl h,fun j hj=>?_⟩
 rw[hz] at hj
 have h1:=flat_get f z hz l i x j hx hj
 have h2:(l.flatMap f)[i*z+j]? ≠ none:=by
  rw[h1];rw[List.getElem?_eq_getElem (by rw[hz];exact hj)];simp
 have hlt:i*z+j<(l.flatMap f).length:=by
  rcases Nat.lt_or_ge (i*z+j) (l.flatMap f).length with h | h
  ·exact h
  ·exact absurd (List.getElem?_eq_none h) h2
 show cells[i*z+j]? = _
 rw[hc _ hlt,h1]
theorem Sl.of_cells{α:Type}{I:Imm}{z:Nat}{f:α→List Value}(hz:∀x,(f x).length=z){b e:Nat}{fz:Nat×Nat}{l:List α}{cells:Array Value}(h:I b=some (.cells cells e fz))
  (hc:cells.toList=l.flatMap f):Sl I z f (some ⟨b,0,none⟩) l.length l :=
 Sl.of_block hz h fun k _=>by rw[←hc];simp
theorem Sl.at{α:Type}{I:Imm}{z:Nat}{f:α→List Value}{a:Option Addr}{n:Nat}{l:List α}(h:Sl I z f a n l){i:Int}(h0:0≤i)(h1:i<n) :
  ∃ad x,a=some ad∧l[i.toNat]? = some x∧∀G,Rd I G (ad.add (Int.toNat i*z)) (f x):=by
 have hlt:i.toNat<l.length:=by have:=h.1;omega
 obtain⟨ad,ha,hr⟩:=h.2 (by intro e;rw[e] at hlt;simp at hlt)
 exact⟨ad,l[i.toNat],ha,by simp[hlt],fun G=>hr _ _ (by simp[hlt]) G⟩
theorem Sl.len{α:Type}{I:Imm}{z:Nat}{f:α→List Value}{a:Option Addr}{n:Nat}{l:List α}(h:Sl I z f a n l):n=l.length:=h.1
end Go.Vc
namespace Go.Vc
def Acc{α:Type}(z:Nat)(f:α→List Value)(e:Nat)(a:Option Addr)(n c:Nat)(l:List α)(A:Heap):Prop :=
 n=l.length∧((a=none∧c=0∧l=[]∧A=[]) ∨
  ∃b cells,a=some ⟨b,0,none⟩∧A=[(b,Obj.cells cells e (0,0))]∧cells.size=c*z∧n≤c∧cells.toList.take (n*z)=l.flatMap f)
theorem Acc.nil{α:Type}{z:Nat}{f:α→List Value}{e:Nat}:Acc z f e none 0 0 ([]:List α) []:=⟨rfl,.inl ⟨rfl,rfl,rfl,rfl⟩⟩
theorem setRow_set(w:World)(g:Nat)(old cs:Array Value)(t:TypeId)(fr:Nat×Nat)(hg:w.heap[g]? = some (.cells old t fr)):(w.setRow g cs).heap=w.heap.setIfInBounds g (.cells cs t fr):=by
 apply Array.ext_getElem?
 intro j
 rw[Array.getElem?_setIfInBounds]
 by_cases h:g=j
 ·subst h
  have hlt:g<w.heap.size:=(Array.getElem?_eq_some_iff.1 hg).1
  rw[if_pos rfl,if_pos hlt];exact setRow_heap w g old cs t fr hg
 ·rw[if_neg h];exact setRow_other w g j cs (Ne.symm h)
theorem flat_len{α β:Type}{f:α→List β}{z:Nat}(hz:∀x,(f x).length=z):∀l:List α,(l.flatMap f).length=l.length*z
 | []=>by simp
 | x::l=>by rw[List.flatMap_cons,List.length_append,hz,flat_len hz l,List.length_cons,Nat.succ_mul,Nat.add_comm]
theorem append_spec{P:Program}{α:Type}{z:Nat}{f:α→List Value}(hz:∀x,(f x).length=z)(t ty e:TypeId)(i:TypeInfo)(zv:Value)(ht:P.underlying t=some (.slice e))(hi:P.info? e=some i)(hzv:i.zero=some zv)(hsz:i.size=z)(hzs:zv.cells.size=z)(hb:1≤i.bytes)
  {a:Option Addr} {n c:Nat} {l:List α} {A:Heap} (hA:Acc z f e a n c l A) {xs:List α} (h1:∀x∈xs,∀u∈f x,u.oneCell'=true) (hx:xs≠[]) {sa:Addr} {m sc:Nat} (hm:m=xs.length) {I:Imm} {F:Heap}
  (hr:Rd I (A++F) sa (xs.flatMap f)) (hfit:(l.length+xs.length)*i.bytes≤140737488355328) :
  TriE P (Builtin.append_ #[t,t] ty #[.slice a n c,.slice (some sa) m sc]) I (A++F) fun v I' G=>∃a' n' c' A',v=.slice a' n' c'∧Acc z f e a' n' c' (l++xs) A'∧G=A'++F∧(a'=a∨Sl I' z f a n l):=by
 intro w hw
 subst hsz
 have hlen:(xs.flatMap f).length=m*i.size:=by rw[flat_len hz,hm]
 have hnews:∀j u,(xs.flatMap f)[j]? = some u→w.cell? (sa.add j)=some u:=fun j u hj=>by
  rw[hr.cell hw j (by
   rcases Nat.lt_or_ge j (xs.flatMap f).length with h | h
   ·exact h
   ·rw[List.getElem?_eq_none h] at hj;cases hj),hj]
 have h1':∀u∈xs.flatMap f,u.oneCell'=true:=fun u hu=>by
  obtain⟨x,hxm,hu⟩:=List.mem_flatMap.1 hu
  exact h1 x hxm u hu
 have hxp:0<xs.length:=List.length_pos_iff.2 hx
 have hle:l.length+xs.length≤140737488355328:=Nat.le_trans (Nat.le_mul_of_pos_right _ hb) hfit
 obtain⟨hn,⟨ha,hc,hl,hA⟩ | ⟨b,cells,ha,hA,hcs,hnc,htk⟩⟩:=hA
 ·subst ha hc hl hA
  simp only[List.length_nil,Nat.zero_add,List.nil_append] at hfit hn hle ⊢
  subst hn
  have hrun:=run_append_nil (P:=P) w t ty e i zv ht hi hzv sa m sc _ hlen hnews (by omega) (by omega) (by rw[hm];omega)
  have hge:=grownCap_ge w m 0 e
  have hsat:Sat I F w.drew:=hw.of_heap rfl ⟨rfl,rfl⟩
  refine⟨_,_,I,_,hrun,Imm.le_refl I,hsat.alloc _,_,_,_,[_],rfl,⟨hm,.inr ⟨_,_,rfl,rfl, ?_,hge, ?_⟩⟩,rfl, ?_⟩
  ·simp only[Array.size_append,List.size_toArray,size_zeroCells,hzs,hlen,←Nat.add_mul]
   congr 1;omega
  ·rw[Array.toList_append,←hlen];exact List.take_left
  ·exact .inr ⟨rfl,fun h=>absurd rfl h⟩
 ·subst ha hA
  have hflat:(l.flatMap f).length=n*i.size:=by rw[flat_len hz,hn]
  have hg:w.heap[b]? = some (.cells cells e (0,0)):=hw.own _ _ (List.mem_cons_self ..)
  by_cases hroom:n+m≤c
  ·have hfit2:n*i.size+(xs.flatMap f).length≤cells.size:=by rw[hlen,hcs,←Nat.add_mul];exact Nat.mul_le_mul_right _ hroom
   have hrun:=run_append_room (P:=P) w t ty e i ht hi b n c cells hg sa m sc _ hlen hnews h1' hroom hfit2
   refine⟨_,_,I,_,hrun,Imm.le_refl I,hw.set (setRow_set w b cells _ e (0,0) hg) ⟨rfl,rfl⟩,_,_,_,[_],rfl,⟨by rw[List.length_append];omega,.inr ⟨_,_,rfl,rfl, ?_,hroom, ?_⟩⟩,rfl,.inl rfl⟩
   ·simp only[List.size_toArray,List.length_append,List.length_take,List.length_drop,Array.length_toList]
    omega
   ·rw[htk,List.flatMap_append,Nat.add_mul,←hflat,←hlen,←List.length_append]
    exact List.take_left
  ·have hcell:∀j u,(l.flatMap f)[j]? = some u→w.cell? ((⟨b,0,none⟩:Addr).add j)=some u:=fun j u hj=>by
    have hadd:(⟨b,0,none⟩:Addr).add j=⟨b,j,none⟩:=by unfold Addr.add;split<;>simp_all
    rw[hadd,cell_of_row w b j cells e (0,0) hg]
    rw[←htk,List.getElem?_take] at hj
    split at hj
    ·simpa using hj
    ·cases hj
   have hrun:=run_append_grow (P:=P) w t ty e i zv ht hi hzv ⟨b,0,none⟩ n c _ hflat hcell sa m sc _ hlen hnews (by omega) (by omega) (growslice_fits (by omega) (by rw[hn,hm];exact hfit))
   have hge:=grownCap_ge w (n+m) c e
   obtain⟨hle',hprom⟩:=(hw.of_heap rfl ⟨rfl,rfl⟩:Sat I ((b,Obj.cells cells e (0,0))::F) w.drew).promote
   refine⟨_,_,_,_,hrun,hle',hprom.alloc _,_,_,_,[_],rfl,⟨by rw[List.length_append];omega,.inr ⟨_,_,rfl,rfl, ?_,hge, ?_⟩⟩,rfl,.inr ?_⟩
   ·simp only[Array.size_append,List.size_toArray,size_zeroCells,hzs,hflat,hlen,←Nat.add_mul]
    congr 1;omega
   ·simp only[Array.toList_append]
    rw[List.flatMap_append,Nat.add_mul,←hflat,←hlen,←List.length_append]
    exact List.take_left
   ·rw[hn]
    refine Sl.of_block hz (Imm.put_same _ _ _) fun k hk=>?_
    rw[←htk,List.getElem?_take,if_pos]
    ·simp
    ·rw[flat_len hz,←hn] at hk;exact hk
theorem append_spec'{P:Program}{α:Type}{z:Nat}{f:α→List Value}(hz:∀x,(f x).length=z){t ty e:TypeId}{zv:Value}{by':Nat}(ht:P.underlying t=some (.slice e))(hi:(P.info? e).map (fun i=>(i.zero,i.size,i.bytes))=some (some zv,z,by'))(hzs:zv.cells.size=z)(hb:1≤by')
  {a:Option Addr} {n c:Nat} {l:List α} {A:Heap} (hA:Acc z f e a n c l A) {xs:List α} (h1:∀x∈xs,∀u∈f x,u.oneCell'=true) (hx:xs≠[]) {sa:Addr} {m sc:Nat} (hm:m=xs.length) {I:Imm} {F:Heap}
  (hr:Rd I (A++F) sa (xs.flatMap f)) (hfit:(l.length+xs.length)*by'≤140737488355328) :
  TriE P (Builtin.append_ #[t,t] ty #[.slice a n c,.slice (some sa) m sc]) I (A++F) fun v I' G=>∃a' n' c' A',v=.slice a' n' c'∧Acc z f e a' n' c' (l++xs) A'∧G=A'++F∧(a'=a∨Sl I' z f a n l):=by
 cases h:P.info? e with
 | none=>rw[h] at hi;cases hi
 | some i =>
   rw[h] at hi
   simp only[Option.map_some,Option.some.injEq,Prod.mk.injEq] at hi
   exact append_spec hz t ty e i zv ht h hi.1 hi.2.1 hzs (by omega) hA h1 hx hm hr (by rw[hi.2.2];exact hfit)
theorem TriE.perm{P:Program}{s:Sem Value}{I:Imm}{F G:Heap}{Q:Value→Imm→Heap→Prop}(h:TriE P s I F Q)(p:G.Perm F):TriE P s I G Q:=fun w hw=>h w (hw.perm p)
theorem Tri.perm{P:Program}{f:FuncId}{args:Array Value}{I:Imm}{F G:Heap}{Q:Ending→Imm→Heap→Prop}(h:Tri P f args I F Q)(p:G.Perm F):Tri P f args I G Q:=fun w hw=>h w (hw.perm p)
theorem Tri.keep{P:Program}{f:FuncId}{args:Array Value}{I:Imm}{F:Heap}{Q Q':Ending→Imm→Heap→Prop}(h:Tri P f args I F Q)
  (k:∀e I' G w,Imm.le I I'→Sat I' G w→Q e I' G→∃J G',Imm.le I' J∧Sat J G' w∧Q' e J G'):Tri P f args I F Q' :=
 fun w hw=>(h w hw).mono fun e w' ⟨I',G,hl,hs,hq⟩=>let ⟨J,G',hl',hs',hq'⟩:=k e I' G w' hl hs hq;⟨J,G',Imm.le_trans hl hl',hs',hq'⟩
theorem Acc.keep{α:Type}{z:Nat}{f:α→List Value}(hz:∀x,(f x).length=z){e:Nat}{a:Option Addr}{n c:Nat}{l:List α}{A F:Heap}(h:Acc z f e a n c l A){I:Imm}{w:World}(hw:Sat I (A++F) w) :
  ∃J,Imm.le I J∧Sat J F w∧Sl J z f a n l:=by
 obtain⟨hn,⟨ha,hc,hl,hA⟩ | ⟨b,cells,ha,hA,hcs,hnc,htk⟩⟩:=h
 ·subst ha hc hl hA hn
  exact⟨I,Imm.le_refl I,hw,rfl,fun h=>absurd rfl h⟩
 ·subst ha hA
  obtain⟨h1,h2⟩:=hw.promote
  refine⟨_,h1,h2, ?_⟩
  rw[hn]
  refine Sl.of_block hz (Imm.put_same _ _ _) fun k hk=>?_
  rw[←htk,List.getElem?_take,if_pos]
  ·simp
  ·rw[flat_len hz,←hn] at hk;exact hk
end Go.Vc
namespace Go.Vc
def leafEq:Value→Value→Option Bool
 | .int k a,.int k' b=>bif k==k' then some (a==b) else none
 | .string a,.string b=>some (a.toList==b.toList)
 | .bool a,.bool b=>some (a==b)
 | _,_=>none
def leafTy(P:Program)(t:TypeId):Value→Bool
 | .int _ _=>match P.underlying t with | some (.int _)=>true | _=>false
 | .string _=>match P.underlying t with | some .string=>true | _=>false
 | .bool _=>match P.underlying t with | some .bool=>true | _=>false
 | _=>false
theorem leafEq_run{P:Program}{t:TypeId}{u v:Value}{b:Bool}(h:leafEq u v=some b)(ht:leafTy P t u=true)(d:Nat)(w:World):(Op.equalIn (d+1) t u v).run P w=.ok b w:=by
 unfold leafEq at h
 split at h
 ·rename_i k a k' b'
  cases hk:k==k' with
  | false=>rw[hk] at h;cases h
  | true =>
    have:k=k':=by cases k<;>cases k'<;>first | rfl | cases hk
    subst this
    rw[hk] at h
    cases h
    simp only[leafTy] at ht
    split at ht
    ·rename_i hu;exact run_equalIn_int w d t k _ a b' hu
    ·exact absurd ht (by decide)
 ·cases h
  simp only[leafTy] at ht
  split at ht
  ·rename_i hu;exact run_equalIn_string w d t _ _ hu
  ·exact absurd ht (by decide)
 ·cases h
  simp only[leafTy] at ht
  split at ht
  ·rename_i hu;exact run_equalIn_bool' w d t _ _ hu
  ·exact absurd ht (by decide)
 ·cases h
def flatEq(P:Program)(xs ys:Array Value):List Field→Option Bool
 | []=>some true
 | f::fs=>bif !(f.name == "_")&&(match aggB P f.type with | some false=>true | _=>false) then
    (match xs[f.offset]?,ys[f.offset]? with
      | some u,some v=>bif leafTy P f.type u then (match leafEq u v,flatEq P xs ys fs with | some b,some c=>some (b&&c) | _,_=>none) else none
      | _,_=>none) else none
theorem part_one{P:Program}{t:TypeId}{cs:Array Value}{o:Nat}{v:Value}(h:aggB P t=some false)(hv:cs[o]? = some v)(w:World):(part t cs o).run P w=.ok v w:=by
 simp[part,Sem.run_bind,isAgg_run h,hv]
theorem flatEq_run{P:Program}{xs ys:Array Value}(d:Nat):∀{fs:List Field} {b:Bool},flatEq P xs ys fs=some b→∀w,(Op.eqFields (d+1) xs ys fs).run P w=.ok b w
 | [],b,h,w=>by cases h;rfl
 | f::fs,b,h,w=>by
   unfold flatEq at h
   cases hc:(!(f.name == "_")&&(match aggB P f.type with | some false=>true | _=>false)) with
   | false=>rw[hc] at h;cases h
   | true =>
     rw[hc] at h
     simp only[cond_true] at h
     rw[Bool.and_eq_true] at hc
     have hname:f.name ≠ "_" := by simpa using hc.1
     have hagg:aggB P f.type=some false:=by
      have:=hc.2
      split at this
      ·assumption
      ·cases this
     split at h
     ·rename_i u v hu hv
      cases hl:leafTy P f.type u with
      | false=>rw[hl] at h;cases h
      | true =>
        rw[hl] at h
        simp only[cond_true] at h
        split at h
        ·rename_i b' c hb hcc
         cases h
         simp only[Op.eqFields,hname,ne_eq,not_false_eq_true,if_true,Sem.run_bind,part_one hagg hu,part_one hagg hv,Result.andThen_ok,leafEq_run hb hl]
         cases b'
         ·simp
         ·simp only[Bool.not_true,Bool.false_eq_true,if_false,Bool.true_and]
          exact flatEq_run d hcc w
        ·cases h
     ·cases h
theorem struct_eql{P:Program}{t:TypeId}{x y:Operand}{xs ys:Array Value}{b:Bool}(ht:P.underlying t=some (.struct (P.fieldsOf t)))(hp:P.stoodInHeld t=false)(hm:P.eqGuardType P.depth t=false)
  (h:flatEq P xs ys (P.fieldsOf t).toList=some b):BinRun P .eql t x y (.agg xs) (.agg ys) b:=by
 intro w
 simp only[Sem.run_bind,run_eqGuard_agg (P:=P) w .eql t x y xs ys hm,Result.andThen_ok,run_eql_struct]
 rw[show (10000:Nat)=9998+1+1 from rfl,run_equalIn_struct w (9998+1) t xs ys ht hp,flatEq_run 9998 h];rfl
end Go.Vc
namespace Go.Vc
def SlG{α:Type}(I:Imm)(G:Heap)(z:Nat)(f:α→List Value)(a:Option Addr)(n:Nat)(l:List α):Prop :=
 n=l.length∧(l≠[]→∃ad,a=some ad∧∀(i:Nat) (x:α),l[i]? = some x→Rd I G (ad.add (i*z)) (f x))
theorem Rd.sub{I J:Imm}{G H:Heap}{ad:Addr}{cs:List Value}(h:Rd I G ad cs)(hl:Imm.le I J)(hs:∀x,x∈G→x∈H):Rd J H ad cs:=by
 obtain⟨h1,cells,e,fz,h2,h3⟩:=h
 exact⟨h1,cells,e,fz,h2.imp (fun h=>hl.at h) (hs _),h3⟩
theorem Sl.slg{α:Type}{I:Imm}{z:Nat}{f:α→List Value}{a:Option Addr}{n:Nat}{l:List α}(h:Sl I z f a n l)(G:Heap):SlG I G z f a n l :=
 ⟨h.1,fun hne=>let ⟨ad,ha,hr⟩:=h.2 hne;⟨ad,ha,fun i x hx=>hr i x hx G⟩⟩
theorem SlG.mono{α:Type}{I J:Imm}{G H:Heap}{z:Nat}{f:α→List Value}{a:Option Addr}{n:Nat}{l:List α}(h:SlG I G z f a n l)(hl:Imm.le I J)(hs:∀x,x∈G→x∈H):SlG J H z f a n l :=
 ⟨h.1,fun hne=>let ⟨ad,ha,hr⟩:=h.2 hne;⟨ad,ha,fun i x hx=>(hr i x hx).sub hl hs⟩⟩
theorem SlG.perm{α:Type}{I:Imm}{G H:Heap}{z:Nat}{f:α→List Value}{a:Option Addr}{n:Nat}{l:List α}(h:SlG I G z f a n l)(p:G.Perm H):SlG I H z f a n l :=
 h.mono (Imm.le_refl I) fun x hx=>p.mem_iff.1 hx
theorem SlG.at{α:Type}{I:Imm}{G:Heap}{z:Nat}{f:α→List Value}{a:Option Addr}{n:Nat}{l:List α}(h:SlG I G z f a n l){i:Int}(h0:0≤i)(h1:i<n) :
  ∃ad x,a=some ad∧l[i.toNat]? = some x∧Rd I G (ad.add (Int.toNat i*z)) (f x):=by
 have hlt:i.toNat<l.length:=by have:=h.1;omega
 obtain⟨ad,ha,hr⟩:=h.2 (by intro e;rw[e] at hlt;simp at hlt)
 exact⟨ad,l[i.toNat],ha,by simp[hlt],hr _ _ (by simp[hlt])⟩
theorem SlG.of_mem{α:Type}{I:Imm}{G:Heap}{z:Nat}{f:α→List Value}(hz:∀x,(f x).length=z){b e:Nat}{fz:Nat×Nat}{l:List α}{cells:Array Value}(h:(b,Obj.cells cells e fz)∈G)
  (hc:∀k,k<(l.flatMap f).length→cells[k]? = (l.flatMap f)[k]?):SlG I G z f (some ⟨b,0,none⟩) l.length l:=by
 refine⟨rfl,fun hne=>⟨_,rfl,fun i x hx=>?_⟩⟩
 have hadd:(⟨b,0,none⟩:Addr).add (i*z)=⟨b,i*z,none⟩:=by unfold Addr.add;split<;>simp_all
 rw[hadd]
 refine⟨rfl,cells,e,fz,.inr h,fun j hj=>?_⟩
 rw[hz] at hj
 have h1:=flat_get f z hz l i x j hx hj
 have h2:(l.flatMap f)[i*z+j]? ≠ none:=by
  rw[h1];rw[List.getElem?_eq_getElem (by rw[hz];exact hj)];simp
 have hlt:i*z+j<(l.flatMap f).length:=by
  rcases Nat.lt_or_ge (i*z+j) (l.flatMap f).length with h | h
  ·exact h
  ·exact absurd (List.getElem?_eq_none h) h2
 show cells[i*z+j]? = _
 rw[hc _ hlt,h1]
theorem Acc.slg{α:Type}{z:Nat}{f:α→List Value}(hz:∀x,(f x).length=z){e:Nat}{a:Option Addr}{n c:Nat}{l:List α}{A:Heap}(h:Acc z f e a n c l A)(I:Imm){G:Heap}(hs:∀x,x∈A→x∈G):SlG I G z f a n l:=by
 obtain⟨hn,⟨ha,hc,hl,hA⟩ | ⟨b,cells,ha,hA,hcs,hnc,htk⟩⟩:=h
 ·subst hl hn;exact⟨rfl,fun h=>absurd rfl h⟩
 ·subst ha hA
  rw[hn]
  refine SlG.of_mem hz (hs _ (List.mem_cons_self ..)) fun k hk=>?_
  rw[←htk,List.getElem?_take,if_pos]
  ·simp
  ·rw[flat_len hz,←hn] at hk;exact hk
theorem Rd.field{I:Imm}{G:Heap}{ad:Addr}{cs:List Value}(h:Rd I G ad cs){o:Nat}{v:Value}(hv:cs[o]? = some v):Rd I G (ad.add o) [v]:=by
 obtain⟨h1,cells,e,fz,h2,h3⟩:=h
 have hadd:ad.add o=⟨ad.block,ad.off+o,none⟩:=by
  obtain⟨b,off,sp⟩:=ad
  simp only at h1;subst h1
  unfold Addr.add;split<;>simp_all
 rw[hadd]
 refine⟨rfl,cells,e,fz,h2,fun j hj=>?_⟩
 have:j=0:=by simpa using hj
 subst this
 have hlt:o<cs.length:=by
  rcases Nat.lt_or_ge o cs.length with h | h
  ·exact h
  ·rw[List.getElem?_eq_none h] at hv;cases hv
 show cells[ad.off+o+0]? = _
 rw[Nat.add_zero,h3 o hlt,hv];rfl
abbrev Ck(z:Nat):={ x:List Value // x.length=z }
def cv{z:Nat}(x:Ck z):List Value:=x.val
theorem cv_len{z:Nat}(x:Ck z):(cv x).length=z:=x.property
def setC{z:Nat}(o:Nat)(v:Value)(x:Ck z):Ck z:=⟨x.val.set o v,by rw[List.length_set];exact x.property⟩
theorem flat_set{z o:Nat}(ho:o<z)(v:Value):∀(l:List (Ck z)) (k:Nat),k<l.length→(l.modify k (setC o v)).flatMap cv=(l.flatMap cv).set (k*z+o) v
 | [],k,h=>by simp at h
 | x::l,0,_=>by
   rw[List.modify_zero_cons,List.flatMap_cons,List.flatMap_cons,Nat.zero_mul,Nat.zero_add,List.set_append_left _ _ (by rw[cv_len];exact ho)];rfl
 | x::l,k+1,h=>by
   rw[List.modify_succ_cons,List.flatMap_cons,List.flatMap_cons,flat_set ho v l k (by simpa using h),List.set_append_right _ _ (by rw[cv_len,Nat.succ_mul];omega),cv_len]
   congr 2
   rw[Nat.succ_mul];omega
theorem splice_one{α:Type}(n:Nat)(v:α)(cs:List α)(h:n<cs.length):splice n [v] cs=cs.set n v:=by rw[splice_set n v [] cs h,splice_nil]
theorem add_lit0(b i:Nat):(⟨b,0,none⟩:Addr).add i=⟨b,i,none⟩:=by unfold Addr.add;split<;>simp_all
theorem Acc.put{z e n c k o:Nat}{a:Option Addr}{l:List (Ck z)}{A:Heap}(h:Acc z cv e a n c l A)(hk:k<n)(ho:o<z)(v:Value) :
  ∃b cs,a=some ⟨b,0,none⟩∧A=[(b,Obj.cells cs.toArray e (0,0))]∧k*z+o+1≤cs.length ∧
   Acc z cv e a n c (l.modify k (setC o v)) [(b,Obj.cells (splice (k*z+o) [v] cs).toArray e (0,0))]:=by
 obtain⟨hn,⟨ha,hc,hl,hA⟩ | ⟨b,cells,ha,hA,hcs,hnc,htk⟩⟩:=h
 ·subst hl;rw[hn] at hk;simp at hk
 ·have hlt:k*z+o+1≤n*z:=by
   have:(k+1)*z≤n*z:=Nat.mul_le_mul_right z hk
   rw[Nat.succ_mul] at this;omega
  have hle:n*z≤cells.size:=by rw[hcs];exact Nat.mul_le_mul_right z hnc
  refine⟨b,cells.toList,ha,by simpa using hA,by simp;omega,by rw[List.length_modify];exact hn,.inr ⟨b,_,ha,rfl, ?_,hnc, ?_⟩⟩
  ·rw[splice_one _ _ _ (by simp;omega)];simpa using hcs
  ·rw[splice_one _ _ _ (by simp;omega),flat_set ho v l k (by omega),←htk]
   rw[List.take_set]
structure Row where
 a:Option Addr
 n:Nat
 c:Nat
def Row.enc(r:Row):List Value:=[.slice r.a r.n r.c]
def RowsH(z e:Nat):List Row→List (List (Ck z))→Heap→Prop
 | [],[],H=>H=[]
 | r::rs,l::ls,H=>∃A H',H=A++H'∧Acc z cv e r.a r.n r.c l A∧RowsH z e rs ls H'
 | _,_,_=>False
theorem RowsH.len{z e:Nat}:∀{rs:List Row} {ls:List (List (Ck z))} {H:Heap},RowsH z e rs ls H→rs.length=ls.length
 | [],[],_,_=>rfl
 | r::rs,l::ls,H,⟨_,_,_,_,h⟩=>by simp[h.len]
 | [],_::_,_,h=>h.elim
 | _::_,[],_,h=>h.elim
theorem RowsH.drop{z e:Nat}:∀{rs:List Row} {ls:List (List (Ck z))} {H:Heap} {i:Nat} {r:Row},RowsH z e (rs.drop i) (ls.drop i) H→rs[i]? = some r →
  ∃l A H',ls[i]? = some l∧H=A++H'∧Acc z cv e r.a r.n r.c l A∧RowsH z e (rs.drop (i+1)) (ls.drop (i+1)) H':=by
 intro rs ls H i r h hi
 obtain⟨hlt,rfl⟩:=List.getElem?_eq_some_iff.1 hi
 rw[List.drop_eq_getElem_cons hlt] at h
 cases hd:ls.drop i with
 | nil=>rw[hd] at h;exact h.elim
 | cons l ls' =>
   rw[hd] at h
   obtain⟨A,H',h1,h2,h3⟩:=h
   have hlen:i<ls.length:=by
    rcases Nat.lt_or_ge i ls.length with h | h
    ·exact h
    ·rw[List.drop_eq_nil_of_le h] at hd;cases hd
   rw[List.drop_eq_getElem_cons hlen] at hd
   obtain⟨e1,e2⟩:=List.cons.inj hd
   refine⟨l,A,H',by rw[←e1];simp[hlen],h1,h2,by rw[e2];exact h3⟩
theorem TriE.pre{P:Program}{s:Sem Value}{I:Imm}{F:Heap}{Q:Value→Imm→Heap→Prop}(h:∀w,Sat I F w→∃J G,Imm.le I J∧Sat J G w∧TriE P s J G Q):TriE P s I F Q:=fun w hw =>
 let ⟨J,G,hl,hs,ht⟩:=h w hw
 let ⟨v,w',I',F',h1,h2,h3,h4⟩:=ht w hs
 ⟨v,w',I',F',h1,Imm.le_trans hl h2,h3,h4⟩
def MkTo{z:Nat}(o:Nat)(mk:Int→Int→Value)(i m:Int)(l:List (Ck z)):Prop:=∀(q:Nat) (x:Ck z),l[q]? = some x→(q:Int)<m→x.val[o]? = some (mk i q)
def MkAll{z:Nat}(o:Nat)(mk:Int→Int→Value)(i:Int)(l:List (Ck z)):Prop:=∀(q:Nat) (x:Ck z),l[q]? = some x→x.val[o]? = some (mk i q)
theorem MkTo.step{z o:Nat}(ho:o<z){mk:Int→Int→Value}{i k:Int}{l:List (Ck z)}(h:MkTo o mk i k l)(h0:0≤k):MkTo o mk i (k+1) (l.modify k.toNat (setC o (mk i k))):=by
 intro q x hx hq
 rw[List.getElem?_modify] at hx
 by_cases hqk:k.toNat=q
 ·cases hl:l[q]? with
  | none=>rw[hl] at hx;cases hx
  | some y =>
    rw[hl] at hx
    obtain rfl:setC o (mk i k) y=x:=by simpa[hqk] using hx
    have:k=(q:Int):=by omega
    rw[←this]
    show (y.val.set o (mk i k))[o]? = _
    rw[List.getElem?_set_self (by rw[y.property];exact ho)]
 ·exact h q x (by simpa[hqk] using hx) (by omega)
def Done{z:Nat}(o m:Nat)(mk bh:Int→Int→Value)(I:Imm)(i:Int)(r x:Row):Prop :=
 ∃(l t:List (Ck z)),Sl I z cv r.a r.n l∧MkAll o mk i l∧Sl I z cv x.a x.n (l++t)∧t.length=m∧MkAll o bh i t
theorem Done.mono{z o m:Nat}{mk bh:Int→Int→Value}{I J:Imm}{i:Int}{r x:Row}(h:Done (z:=z) o m mk bh I i r x)(hl:Imm.le I J):Done (z:=z) o m mk bh J i r x :=
 let ⟨l,t,h1,h2,h3,h4,h5⟩:=h;⟨l,t,h1.mono hl,h2,h3.mono hl,h4,h5⟩
def OwnPost(F:Heap)(e:Ending)(I:Imm)(G:Heap):Prop:=e=.returned (.bool true)∧∃A,G.Perm (A++F)
theorem OwnPost.keep{P:Program}{f:FuncId}{args:Array Value}{I:Imm}{F0 F:Heap}(h:Tri P f args I F0 (OwnPost F)):Tri P f args I F0 fun e I' G=>e=.returned (.bool true)∧G=F :=
 h.keep fun e I' G w hl hs ⟨he,A,hp⟩=>⟨I',F,Imm.le_refl _,(hs.perm hp).drop,he,rfl⟩
end Go.Vc
namespace Go.Vc
section
open Classical
noncomputable def cn(a:Nat×Obj)(l:Heap):Nat:=l.countP fun x=>decide (x=a)
noncomputable def on(a x:Nat×Obj):Nat:=if x=a then 1 else 0
theorem cn_app(a:Nat×Obj)(l m:Heap):cn a (l++m)=cn a l+cn a m:=List.countP_append
theorem cn_cons(a x:Nat×Obj)(l:Heap):cn a (x::l)=on a x+cn a l:=by
 unfold cn on;rw[List.countP_cons];simp only[decide_eq_true_eq];omega
theorem cn_nil(a:Nat×Obj):cn a []=0:=rfl
theorem cn_perm{l m:Heap}(h:l.Perm m)(a:Nat×Obj):cn a l=cn a m:=h.countP_eq _
noncomputable def decP:DecidableEq (Nat×Obj):=fun x y=>propDecidable (x=y)
theorem perm_of{l m:Heap}(h:∀a,cn a l=cn a m):l.Perm m:=by
 refine (@List.perm_iff_count (Nat×Obj) (@instBEqOfDecidableEq _ decP) (@instLawfulBEq _ decP) l m).2 fun a=>?_
 have h1:∀l:Heap,@List.count _ (@instBEqOfDecidableEq _ decP) a l=cn a l:=fun l=>by
  unfold List.count cn
  congr 1
  funext x
  show @decide (x=a) (decP x a)=decide (x=a)
  congr
 rw[h1,h1];exact h a
end
theorem TriV.promote{P:Program}{v:Value}{args:List Value}{I:Imm}{b:Nat}{o:Obj}{F:Heap}{Q:Ending→Imm→Heap→Prop}(h:Imm.le I (I.put b o)→TriV P v args (I.put b o) F Q):TriV P v args I ((b,o)::F) Q :=
 TriV.pre fun w hw=>let ⟨hl,hs⟩:=hw.promote;⟨_,_,hl,hs,h hl⟩
theorem Tri.promote{P:Program}{f:FuncId}{args:Array Value}{I:Imm}{b:Nat}{o:Obj}{F:Heap}{Q:Ending→Imm→Heap→Prop}(h:Tri P f args (I.put b o) F Q):Tri P f args I ((b,o)::F) Q:=fun w hw=>by
 obtain⟨hl,hs⟩:=hw.promote
 exact (h w hs).mono fun e w' ⟨I',F',g1,g2,g3⟩=>⟨I',F',Imm.le_trans hl g1,g2,g3⟩
theorem Rd.of_imm{I:Imm}{b t:Nat}{fz:Nat×Nat}{cells:Array Value}(h:I b=some (.cells cells t fz))(G:Heap)(o:Nat){cs:List Value}(hc:∀j,j<cs.length→cells[o+j]? = cs[j]?):Rd I G (⟨b,o,none⟩:Addr) cs:=⟨rfl,cells,t,fz,.inl h,hc⟩
theorem Rd.of_own{I:Imm}{b t:Nat}{fz:Nat×Nat}{cells:Array Value}{G:Heap}(h:(b,Obj.cells cells t fz)∈G)(o:Nat){cs:List Value}(hc:∀j,j<cs.length→cells[o+j]? = cs[j]?):Rd I G (⟨b,o,none⟩:Addr) cs:=⟨rfl,cells,t,fz,.inr h,hc⟩
def Left(Q:Ending→Imm→Heap→Prop)(e:Ending)(I:Imm)(G:Heap):Prop:=∃A G',G.Perm (A++G')∧Q e I G'
theorem Tri.left{P:Program}{f:FuncId}{args:Array Value}{I:Imm}{F:Heap}{Q:Ending→Imm→Heap→Prop}(h:Tri P f args I F (Left Q)):Tri P f args I F Q :=
 h.keep fun e I' G w hl hs ⟨A,G',hp,hq⟩=>⟨I',G',Imm.le_refl _,(hs.perm hp).drop,hq⟩
theorem Left.of{Q:Ending→Imm→Heap→Prop}{e:Ending}{I:Imm}{G:Heap}(h:Q e I G):Left Q e I G:=⟨[],G,.refl _,h⟩
theorem Left.one{Q:Ending→Imm→Heap→Prop}{e:Ending}{I:Imm}{x:Nat×Obj}{G:Heap}(h:Q e I G):Left Q e I (x::G):=⟨[x],G,.refl _,h⟩
end Go.Vc
namespace Go.Lx
open Go.Vc
def smallB(c:Int):Bool:=decide (97≤c)&&decide (c≤122)
def digitB(c:Int):Bool:=decide (48≤c)&&decide (c≤57)
def innerB(c:Int):Bool:=smallB c||digitB c||(c==95)
def runF(p:Int→Bool)(s:ByteArray):Nat→Int→Int
 | 0,i=>i
 | n+1,i=>if p (bt s i) then runF p s n (i+1) else i
def runAt(p:Int→Bool)(s:ByteArray)(i:Int):Int:=runF p s (s.size-i).toNat i
theorem runAt_end{p:Int→Bool}{s:ByteArray}{i:Int}(h:(s.size:Int)≤i):runAt p s i=i:=by
 unfold runAt;rw[show ((s.size:Int)-i).toNat=0 by omega];rfl
theorem runAt_step{p:Int→Bool}{s:ByteArray}{i:Int}(h:i<(s.size:Int)):runAt p s i=if p (bt s i) then runAt p s (i+1) else i:=by
 unfold runAt
 obtain⟨n,hn⟩:∃n,((s.size:Int)-i).toNat=n+1:=⟨((s.size:Int)-i).toNat-1,by omega⟩
 rw[hn,show ((s.size:Int)-(i+1)).toNat=n by omega];rfl
theorem runF_le(p:Int→Bool)(s:ByteArray):∀(n:Nat) (i:Int),i≤runF p s n i∧runF p s n i≤i+n
 | 0,i=>by simp[runF]
 | n+1,i=>by
   have:=runF_le p s n (i+1)
   unfold runF;split<;>omega
theorem runAt_le{p:Int→Bool}{s:ByteArray}{i:Int}(h:i≤(s.size:Int)):i≤runAt p s i∧runAt p s i≤s.size:=by
 have:=runF_le p s (s.size-i).toNat i
 unfold runAt;omega
def blank(c:Int):Bool:=c==32||c==9||c==10||c==13
def remB(c:Int)(r:Bool):Bool:=if c=35 then true else if c=10 then false else r
def overF(s:ByteArray):Nat→Bool→Int→Int
 | 0,_,i=>i
 | n+1,r,i=>if !(remB (bt s i) r) && !blank (bt s i) then i else overF s n (remB (bt s i) r) (i+1)
def overR(s:ByteArray)(r:Bool)(i:Int):Int:=overF s (s.size-i).toNat r i
def overAt(s:ByteArray)(i:Int):Int:=overR s false i
theorem overR_end{s:ByteArray}{r:Bool}{i:Int}(h:(s.size:Int)≤i):overR s r i=i:=by
 unfold overR;rw[show ((s.size:Int)-i).toNat=0 by omega];rfl
theorem overR_step{s:ByteArray}{r:Bool}{i:Int}(h:i<(s.size:Int)):overR s r i =
  if !(remB (bt s i) r) && !blank (bt s i) then i else overR s (remB (bt s i) r) (i+1):=by
 unfold overR
 obtain⟨n,hn⟩:∃n,((s.size:Int)-i).toNat=n+1:=⟨((s.size:Int)-i).toNat-1,by omega⟩
 rw[hn,show ((s.size:Int)-(i+1)).toNat=n by omega];rfl
theorem overF_le(s:ByteArray):∀(n:Nat) (r:Bool) (i:Int),i≤overF s n r i∧overF s n r i≤i+n
 | 0,r,i=>by simp[overF]
 | n+1,r,i=>by
   unfold overF
   have:=overF_le s n (remB (bt s i) r) (i+1)
   split<;>omega
theorem overAt_le{s:ByteArray}{i:Int}(h:i≤(s.size:Int)):i≤overAt s i∧overAt s i≤s.size:=by
 have:=overF_le s (s.size-i).toNat false i
 unfold overAt overR;omega
structure Tok where
 kind:Int
 text:ByteArray
 typ:Int
 n:Int
 pos:Int
inductive TR where
 | ok (t:Tok)
 | bad (e p:Int)
def zTok(p:Int):Tok:=⟨0,⟨#[]⟩,0,0,p⟩
def cut(s:ByteArray)(i j:Int):ByteArray:=s.extract i.toNat j.toNat
def wordsL:List ByteArray:=[⟨#[97,98,115]⟩,⟨#[97,109,101,110,100]⟩,⟨#[97,115]⟩,⟨#[97,115,107]⟩,⟨#[97,116]⟩,⟨#[98,105,100]⟩,⟨#[98,111,111,108]⟩,⟨#[98,117,121]⟩,⟨#[99,97,110,99,101,108]⟩,⟨#[100,111]⟩,
 ⟨#[102,97,108,115,101]⟩,⟨#[102,111,107]⟩,⟨#[103,111,116,111]⟩,⟨#[104,97,108,116]⟩,⟨#[104,97,115]⟩,⟨#[105,110,116]⟩,⟨#[105,111,99]⟩,⟨#[108,97,115,116]⟩,⟨#[108,105,109,105,116]⟩,⟨#[109,97,114,107,101,116]⟩,
 ⟨#[109,97,120]⟩,⟨#[109,105,110]⟩,⟨#[110,111,119]⟩,⟨#[111,102]⟩,⟨#[111,112,101,110]⟩,⟨#[112,111,115,116]⟩,⟨#[112,114,105,99,101]⟩,⟨#[113,116,121]⟩,⟨#[114,101,103]⟩,⟨#[115,101,108,108]⟩,⟨#[115,101,116]⟩,
 ⟨#[115,105,100,101]⟩,⟨#[115,108,111,116]⟩,⟨#[115,116,97,116,101]⟩,⟨#[115,116,114,97,116,101,103,121]⟩,⟨#[115,117,98,109,105,116]⟩,⟨#[116,105,109,101]⟩,⟨#[116,111]⟩,⟨#[116,114,117,101]⟩,⟨#[118,111,108,117,109,101]⟩,⟨#[119,104,101,110]⟩]
def wordB(t:ByteArray):Bool:=wordsL.any fun w=>w.toList==t.toList
def nameB(t:ByteArray):Bool :=
 !(t.toList==[])&&decide ((t.size:Int)≤16)&&smallB (bt t 0) && !wordB t&&decide (runAt innerB t 0=t.size)
def nameR(s:ByteArray)(i:Int):TR :=
 let e:=runAt innerB s i
 if e-i>16 then .bad 112 i else .ok ⟨if wordB (cut s i e) then 1 else 2,cut s i e,0,0,i⟩
def valF(s:ByteArray):Nat→Int→Int→Int
 | 0,_,v=>v
 | n+1,i,v=>if digitB (bt s i) then valF s n (i+1) (10*v+(bt s i-48)) else v
def valAt(s:ByteArray)(i v:Int):Int:=valF s (s.size-i).toNat i v
theorem valAt_end{s:ByteArray}{i v:Int}(h:(s.size:Int)≤i):valAt s i v=v:=by
 unfold valAt;rw[show ((s.size:Int)-i).toNat=0 by omega];rfl
theorem valAt_step{s:ByteArray}{i v:Int}(h:i<(s.size:Int)):valAt s i v=if digitB (bt s i) then valAt s (i+1) (10*v+(bt s i-48)) else v:=by
 unfold valAt
 obtain⟨n,hn⟩:∃n,((s.size:Int)-i).toNat=n+1:=⟨((s.size:Int)-i).toNat-1,by omega⟩
 rw[hn,show ((s.size:Int)-(i+1)).toNat=n by omega];rfl
theorem valF_ge(s:ByteArray):∀(n:Nat) (i v:Int),0≤v→v≤valF s n i v
 | 0,i,v,_=>by simp[valF]
 | n+1,i,v,hv=>by
   unfold valF
   split
   ·rename_i hd
    simp only[digitB,Bool.and_eq_true,decide_eq_true_eq] at hd
    have:=valF_ge s n (i+1) (10*v+(bt s i-48)) (by omega)
    omega
   ·exact Int.le_refl _
theorem valAt_ge{s:ByteArray}{i v:Int}(h:0≤v):v≤valAt s i v:=valF_ge s _ i v h
def typOf(c:Int):Int:=if c=116 then 4 else if c=112 then 3 else if c=113 then 2 else 1
def byteOr0(s:ByteArray)(i:Int):Int:=if i<s.size then bt s i else 0
def numR(s:ByteArray)(i:Int):TR :=
 let e:=runAt digitB s i
 let t:=typOf (byteOr0 s e)
 let e2:=if t=1 then e else e+1
 if valAt s i 0>9223372036854775807∨(e-i>1∧bt s i=48)∨(e2<s.size∧(innerB (bt s e2)=true∨(65≤bt s e2∧bt s e2≤90))) then .bad 113 i
 else .ok ⟨3,cut s i e2,t,valAt s i 0,i⟩
def single(c:Int):Bool:=[123,125,40,41,44,59,63,58,43,45,42,47,37].contains c
def markN(s:ByteArray)(i:Int):Int :=
 let c:=bt s i
 let d:=byteOr0 s (i+1)
 if single c then 1 else if c=38∨c=124 then (if d=c then 2 else 0) else if c=61∨c=33∨c=60∨c=62 then (if d=61 then 2 else 1) else 0
def markR(s:ByteArray)(i:Int):TR:=if markN s i=0 then .bad 111 i else .ok ⟨4,cut s i (i+markN s i),0,0,i⟩
def tokR(s:ByteArray)(f:Int):TR :=
 let i:=overAt s f
 if i=s.size then .ok (zTok i)
 else if digitB (bt s i) then numR s i else if smallB (bt s i) then nameR s i else markR s i
def Tok.v(t:Tok):Value:=.agg #[.int .u8 t.kind,.string t.text,.int .u8 t.typ,.int .i64 t.n,.int .i64 t.pos]
theorem w64{n:Int}(h : -9223372036854775808≤n∧n≤9223372036854775807):IntKind.wrap .i64 n=n:=by
 simp only[IntKind.wrap,IntKind.bits,IntKind.signed];simp;split<;>omega
theorem w8{n:Int}(h:0≤n∧n≤255):IntKind.wrap .u8 n=n:=by
 simp only[IntKind.wrap,IntKind.bits,IntKind.signed];simp;omega
end Go.Lx
namespace Go.Lx
open Go.Vc
inductive Px where
 | mk (kind oper typ n field:Int) (name:ByteArray) (kids:List Px) (pos:Int)
namespace Px
def kind:Px→Int | .mk k _ _ _ _ _ _ _=>k
def oper:Px→Int | .mk _ o _ _ _ _ _ _=>o
def typ:Px→Int | .mk _ _ t _ _ _ _ _=>t
def n:Px→Int | .mk _ _ _ n _ _ _ _=>n
def field:Px→Int | .mk _ _ _ _ f _ _ _=>f
def name:Px→ByteArray | .mk _ _ _ _ _ s _ _=>s
def kids:Px→List Px | .mk _ _ _ _ _ _ l _=>l
def pos:Px→Int | .mk _ _ _ _ _ _ _ p=>p
theorem ind{p:Px→Prop}(h:∀x:Px,(∀k∈x.kids,p k)→p x):∀x:Px,p x
 | .mk k o t n f s l q=>h _ fun y hy=>ind h y
termination_by x=>SizeOf.sizeOf x
decreasing_by
 have:=List.sizeOf_lt_of_mem (show y∈l from hy)
 simp;omega
end Px
inductive Nd where
 | mk (kind oper typ n field:Int) (name:ByteArray) (a:Option Addr) (c:Nat) (kids:List Nd) (pos:Int)
namespace Nd
def kind:Nd→Int | .mk k _ _ _ _ _ _ _ _ _=>k
def oper:Nd→Int | .mk _ o _ _ _ _ _ _ _ _=>o
def typ:Nd→Int | .mk _ _ t _ _ _ _ _ _ _=>t
def n:Nd→Int | .mk _ _ _ n _ _ _ _ _ _=>n
def field:Nd→Int | .mk _ _ _ _ f _ _ _ _ _=>f
def name:Nd→ByteArray | .mk _ _ _ _ _ s _ _ _ _=>s
def a:Nd→Option Addr | .mk _ _ _ _ _ _ a _ _ _=>a
def c:Nd→Nat | .mk _ _ _ _ _ _ _ c _ _=>c
def kids:Nd→List Nd | .mk _ _ _ _ _ _ _ _ l _=>l
def pos:Nd→Int | .mk _ _ _ _ _ _ _ _ _ p=>p
theorem ind{p:Nd→Prop}(h:∀x:Nd,(∀k∈x.kids,p k)→p x):∀x:Nd,p x
 | .mk k o t n f s a c l q=>h _ fun y hy=>ind h y
termination_by x=>SizeOf.sizeOf x
decreasing_by
 have:=List.sizeOf_lt_of_mem (show y∈l from hy)
 simp;omega
mutual
def px:Nd→Px
 | .mk k o t n f s _ _ l q=>.mk k o t n f s (pxs l) q
def pxs:List Nd→List Px
 | []=>[]
 | k::r=>px k::pxs r
end
theorem pxs_map:∀l:List Nd,pxs l=l.map px
 | []=>rfl
 | k::r=>by rw[pxs,pxs_map r];rfl
theorem px_kids(t:Nd):t.px.kids=t.kids.map px:=by cases t;rw[px,←pxs_map];rfl
theorem px_kind(t:Nd):t.px.kind=t.kind:=by cases t;rw[px];rfl
theorem px_oper(t:Nd):t.px.oper=t.oper:=by cases t;rw[px];rfl
theorem px_typ(t:Nd):t.px.typ=t.typ:=by cases t;rw[px];rfl
theorem px_n(t:Nd):t.px.n=t.n:=by cases t;rw[px];rfl
theorem px_field(t:Nd):t.px.field=t.field:=by cases t;rw[px];rfl
theorem px_name(t:Nd):t.px.name=t.name:=by cases t;rw[px];rfl
theorem px_pos(t:Nd):t.px.pos=t.pos:=by cases t;rw[px];rfl
theorem px_len(t:Nd):t.px.kids.length=t.kids.length:=by rw[px_kids,List.length_map]
abbrev enc(t:Nd):List Value:=[.int .u8 t.kind,.int .u8 t.oper,.int .u8 t.typ,.int .i64 t.n,.int .u8 t.field,.string t.name,.slice t.a t.kids.length t.c,.int .i64 t.pos]
abbrev v(t:Nd):Value:=.agg #[.int .u8 t.kind,.int .u8 t.oper,.int .u8 t.typ,.int .i64 t.n,.int .u8 t.field,.string t.name,.slice t.a t.kids.length t.c,.int .i64 t.pos]
theorem enc_len(t:Nd):t.enc.length=8:=rfl
theorem enc_one(t:Nd):∀u∈t.enc,u.oneCell'=true:=by
 intro u hu
 simp only[enc,List.mem_cons,List.not_mem_nil,or_false] at hu
 rcases hu with h | h | h | h | h | h | h | h<;>(subst h;rfl)
end Nd
inductive NdOk (I:Imm) (G:Heap):Nd→Prop
 | mk {t:Nd}:SlG I G 8 Nd.enc t.a t.kids.length t.kids→(∀k∈t.kids,NdOk I G k)→NdOk I G t
theorem NdOk.sl{I:Imm}{G:Heap}{t:Nd}(h:NdOk I G t):SlG I G 8 Nd.enc t.a t.kids.length t.kids:=by cases h;assumption
theorem NdOk.kid{I:Imm}{G:Heap}{t:Nd}(h:NdOk I G t):∀k∈t.kids,NdOk I G k:=by cases h;assumption
theorem NdOk.mono{I J:Imm}{G H:Heap}{t:Nd}(h:NdOk I G t)(hl:Imm.le I J)(hs:∀x,x∈G→x∈H):NdOk J H t:=by
 induction h with
 | mk h1 h2 ih=>exact .mk (h1.mono hl hs) ih
theorem NdOk.perm{I J:Imm}{G H:Heap}{t:Nd}(h:NdOk I G t)(hl:Imm.le I J)(p:G.Perm H):NdOk J H t:=h.mono hl fun x hx=>p.mem_iff.1 hx
def NdsOk(I:Imm)(G:Heap)(a:Option Addr)(n:Nat)(l:List Nd):Prop:=SlG I G 8 Nd.enc a n l∧∀k∈l,NdOk I G k
theorem NdOk.kids{I:Imm}{G:Heap}{t:Nd}(h:NdOk I G t):NdsOk I G t.a t.kids.length t.kids:=⟨h.sl,h.kid⟩
theorem NdsOk.mono{I J:Imm}{G H:Heap}{a:Option Addr}{n:Nat}{l:List Nd}(h:NdsOk I G a n l)(hl:Imm.le I J)(hs:∀x,x∈G→x∈H):NdsOk J H a n l:=⟨h.1.mono hl hs,fun k hk=>(h.2 k hk).mono hl hs⟩
theorem NdsOk.at{I:Imm}{G:Heap}{a:Option Addr}{n:Nat}{l:List Nd}(h:NdsOk I G a n l){i:Int}(h0:0≤i)(h1:i<n) :
  ∃ad x,a=some ad∧l[i.toNat]? = some x∧Rd I G (ad.add (Int.toNat i*8)) x.enc∧NdOk I G x∧x∈l:=by
 obtain⟨ad,x,h2,h3,h4⟩:=h.1.at h0 h1
 exact⟨ad,x,h2,h3,h4,h.2 x (List.mem_of_getElem? h3),List.mem_of_getElem? h3⟩
namespace Px
def arity(x:Px):Nat:=if x.kind=5∨x.kind=9 then 1 else if x.kind=6 then 2 else if x.kind=7 then 3 else if x.kind=8 then (if x.oper=3 then 1 else 2) else 0
def litB(x:Px):Bool:=if x.typ=6 then decide (x.n=1∨x.n=2) else if x.typ=5 then decide (x.n=0∨x.n=1) else if 1≤x.typ∧x.typ≤4 then decide (0≤x.n) else false
def fitB(x:Px):Bool :=
 if x.kind=1 then litB x else if x.kind=2 then nameB x.name else if x.kind=3 then decide (1≤x.field∧x.field≤6) else if x.kind=4 then decide (1≤x.field∧x.field≤3)
 else if x.kind=5 then decide (x.oper=1∨x.oper=2) else if x.kind=6 then decide (6≤x.oper∧x.oper≤18) else if x.kind=7 then true
 else if x.kind=8 then decide (3≤x.oper∧x.oper≤5) else if x.kind=9 then decide (1≤x.typ∧x.typ≤4) else false
def zeroB(x:Px):Bool :=
 (x.oper==0||x.kind==5||x.kind==6||x.kind==8)&&(x.typ==0||x.kind==1||x.kind==9)&&(x.n==0||x.kind==1)&&(x.field==0||x.kind==3||x.kind==4)&&(x.name.toList==[]||x.kind==2)
def oneB(x:Px):Bool:=fitB x&&zeroB x&&decide (x.kids.length=arity x)
mutual
def formed:Px→Bool
 | .mk k o t n f s l q=>oneB (.mk k o t n f s l q)&&formedL l
def formedL:List Px→Bool
 | []=>true
 | x::r=>formed x&&formedL r
end
theorem formed_eq(x:Px):x.formed=(oneB x&&formedL x.kids):=by cases x;rw[formed];rfl
def level(x:Px):Int :=
 if x.kind=7 then 1 else if x.kind=5 then 7 else if x.kind=6 then (if x.oper=18 then 2 else if x.oper=17 then 3 else if 11≤x.oper then 4 else if 8≤x.oper then 6 else 5) else 8
def asks(x:Px)(i:Int):Int :=
 if x.kind=7 then (if i=0 then 2 else 1) else if x.kind=5 then 7 else if x.kind=6 then (if level x=4 then 5 else level x+i) else 1
def adds(x k:Px)(i:Int):Int:=(if level k<asks x i then 1 else 0)+(if x.kind=6 then 0 else if x.kind=7 then (if 0<i then 1 else 0) else 1)
mutual
def depth:Px→Int
 | .mk k o t n f s l q=>depthL (.mk k o t n f s l q) 0 l 0
def depthL(x:Px)(i:Int):List Px→Int→Int
 | [],most=>most
 | y::r,most=>depthL x (i+1) r (max most (depth y+adds x y i))
end
theorem depth_eq(x:Px):x.depth=depthL x 0 x.kids 0:=by cases x;rw[depth];rfl
mutual
def size:Px→Int
 | .mk _ _ _ _ _ _ l _=>1+sizeL l
def sizeL:List Px→Int
 | []=>0
 | x::r=>size x+sizeL r
end
theorem size_eq(x:Px):x.size=1+sizeL x.kids:=by cases x;rw[size];rfl
mutual
def bare:Px→Px
 | .mk k o t n f s l _=>.mk k o t n f s (bareL l) 0
def bareL:List Px→List Px
 | []=>[]
 | x::r=>bare x::bareL r
end
theorem bareL_map:∀l:List Px,bareL l=l.map bare
 | []=>rfl
 | x::r=>by rw[bareL,bareL_map r];rfl
theorem bare_eq(x:Px):x.bare=.mk x.kind x.oper x.typ x.n x.field x.name (x.kids.map bare) 0:=by cases x;rw[bare,bareL_map];rfl
def aloneEq(x y:Px):Bool:=x.kind==y.kind&&(x.oper==y.oper&&(x.typ==y.typ&&(x.n==y.n&&(x.field==y.field&&(x.name.toList==y.name.toList&&true)))))
mutual
def weigh:Px→Int→Int→Int
 | .mk _ _ _ _ _ s l _,n,d=>if 60000<d then 1048577 else weighL l (n+1+s.size) (d+1)
def weighL:List Px→Int→Int→Int
 | [],n,_=>n
 | x::r,n,d=>if n≤1048576 then weighL r (weigh x n d) d else n
end
theorem weigh_eq(x:Px)(n d:Int):x.weigh n d=if 60000<d then 1048577 else weighL x.kids (n+1+x.name.size) (d+1):=by cases x;rw[weigh];rfl
mutual
def nodes:Px→List Px
 | .mk k o t n f s l q=>.mk k o t n f s l q::nodesL l
def nodesL:List Px→List Px
 | []=>[]
 | x::r=>nodes x++nodesL r
end
theorem nodes_eq(x:Px):x.nodes=x::nodesL x.kids:=by cases x;rw[nodes];rfl
theorem size_pos:∀x:Px,1≤x.size:=by
 have hL:∀l:List Px,(∀x∈l,1≤size x)→0≤sizeL l:=by
  intro l
  induction l with
  | nil=>intro _;exact Int.le_refl _
  | cons x r ih =>
    intro h
    have:=h x (List.mem_cons_self ..)
    have:=ih fun y hy=>h y (List.mem_cons_of_mem _ hy)
    rw[sizeL];omega
 refine ind fun x h=>?_
 rw[size_eq]
 have:=hL x.kids h
 omega
theorem sizeL_nonneg:∀l:List Px,0≤sizeL l
 | []=>Int.le_refl _
 | x::r=>by have:=size_pos x;have:=sizeL_nonneg r;rw[sizeL];omega
theorem sizeL_mem{x:Px}:∀{l:List Px},x∈l→x.size≤sizeL l
 | [],h=>by cases h
 | y::r,h=>by
   rw[sizeL]
   have:=size_pos y
   have:=sizeL_nonneg r
   rcases List.mem_cons.1 h with rfl | h
   ·omega
   ·have:=sizeL_mem h;omega
theorem sizeL_len:∀l:List Px,(l.length:Int)≤sizeL l
 | []=>Int.le_refl _
 | x::r=>by have:=size_pos x;have:=sizeL_len r;rw[sizeL,List.length_cons];omega
theorem weighL_ge(d:Int):∀(l:List Px),(∀x∈l,∀n d,weigh x n d≤1048576→n+size x≤weigh x n d)→∀n,weighL l n d≤1048576→n+sizeL l≤weighL l n d:=by
 intro l
 induction l with
 | nil=>intro _ n h;rw[weighL] at h ⊢;rw[sizeL];omega
 | cons x r ih =>
   intro hx n h
   rw[weighL] at h ⊢
   rw[sizeL]
   have hr:=ih fun y hy=>hx y (List.mem_cons_of_mem _ hy)
   split at h
   ·rename_i hn
    rw[if_pos hn]
    have h1:=hr _ h
    have h2:=sizeL_nonneg r
    have h3:=hx x (List.mem_cons_self ..) n d (by omega)
    omega
   ·omega
theorem weigh_size:∀(x:Px) (n d:Int),weigh x n d≤1048576→n+size x≤weigh x n d:=by
 refine ind fun x hk n d h=>?_
 rw[weigh_eq] at h ⊢
 rw[size_eq]
 split at h
 ·omega
 ·rename_i hd
  rw[if_neg hd]
  have:=weighL_ge (d+1) x.kids hk _ h
  omega
theorem weigh_pos:∀(x:Px) (n d:Int),0≤n→0≤weigh x n d:=by
 have hL:∀(d:Int) (l:List Px),(∀x∈l,∀n d,0≤n→0≤weigh x n d)→∀n,0≤n→0≤weighL l n d:=by
  intro d l
  induction l with
  | nil=>intro _ n h;rw[weighL];exact h
  | cons x r ih =>
    intro hx n h
    rw[weighL]
    split
    ·exact ih (fun y hy=>hx y (List.mem_cons_of_mem _ hy)) _ (hx x (List.mem_cons_self ..) n d h)
    ·exact h
 refine ind fun x hk n d h=>?_
 rw[weigh_eq]
 split
 ·omega
 ·exact hL _ _ hk _ (by omega)
inductive ShortP:Px→Prop
 | mk {x:Px}:x.name.size≤140737488351232→x.kids.length≤140737488351232→(∀k∈x.kids,ShortP k)→ShortP x
theorem ShortP.name{x:Px}(h:ShortP x):x.name.size≤140737488351232:=by cases h;assumption
theorem ShortP.len{x:Px}(h:ShortP x):x.kids.length≤140737488351232:=by cases h;assumption
theorem ShortP.kid{x:Px}(h:ShortP x):∀k∈x.kids,ShortP k:=by cases h;assumption
end Px
end Go.Lx
namespace Go.Lx
open Go.Vc Go.Proofs.Tryz
noncomputable abbrev P:Program:=Go.Proofs.Tryz.prog
def shT_x0:List (Nat×List Sh):=[(4,[.one .bool]),(9,[.one .str]),(194,[.one .slc]),(223,[.one (.int .i64),.one .bool])]
def lex_digit.V(c:Int)(I:Imm)(F:Heap)(Q:PostQ)  : Prop:=(Dt (48≤c) (Q (.returned (.bool (decide (c≤57)))) I F) (Q (.returned (.bool false)) I F))
theorem lex_digit.vc{c:Int}{I:Imm}{F:Heap}{Q:PostQ}  (h:lex_digit.V c I F Q):Tri P 161 #[.int .u8 c] I F Q :=
 tw (A:=(an [1001] [] shT_x0)) [] func161 h
def lex_small.V(c:Int)(I:Imm)(F:Heap)(Q:PostQ)  : Prop:=(Dt (97≤c) (Q (.returned (.bool (decide (c≤122)))) I F) (Q (.returned (.bool false)) I F))
theorem lex_small.vc{c:Int}{I:Imm}{F:Heap}{Q:PostQ}  (h:lex_small.V c I F Q):Tri P 147 #[.int .u8 c] I F Q :=
 tw (A:=(an [1001] [] shT_x0)) [] func147 h
def lex_inner.V(vt:Bool→Value)(c:Int)(I:Imm)(F:Heap)(Q:PostQ)  : Prop:=Tc1 P 147 #[.int .u8 c] I (·) F vt fun r I1 F1=>(It r (Q (.returned (vt true)) I1 F1) (Tc1 P 161 #[.int .u8 c] I1 (·) F1 vt fun r1 I2 F2=>(It r1 (Q (.returned (vt true)) I2 F2) (Q (.returned (vt (c==95))) I2 F2))))
theorem lex_inner.vc{c:Int}{I:Imm}{F:Heap}{Q:PostQ}  (h:lex_inner.V .bool c I F Q):Tri P 149 #[.int .u8 c] I F Q :=
 tw (A:=(an [1001,1004] [147,161] shT_x0)) [147,161] func149 h
def lex_Words.V(vs:Bs→Value)(I:Imm)(F:Heap)(Q:PostQ)  : Prop:=∀(b:Nat) (I1:Imm),Imm.le I I1→I1 b=some (Obj.cells #[vs (⟨#[97,98,115]⟩:Bs),vs (⟨#[97,109,101,110,100]⟩:Bs),vs (⟨#[97,115]⟩:Bs),vs (⟨#[97,115,107]⟩:Bs),vs (⟨#[97,116]⟩:Bs),vs (⟨#[98,105,100]⟩:Bs),vs (⟨#[98,111,111,108]⟩:Bs),vs (⟨#[98,117,121]⟩:Bs),vs (⟨#[99,97,110,99,101,108]⟩:Bs),vs (⟨#[100,111]⟩:Bs),vs (⟨#[102,97,108,115,101]⟩:Bs),vs (⟨#[102,111,107]⟩:Bs),vs (⟨#[103,111,116,111]⟩:Bs),vs (⟨#[104,97,108,116]⟩:Bs),vs (⟨#[104,97,115]⟩:Bs),vs (⟨#[105,110,116]⟩:Bs),vs (⟨#[105,111,99]⟩:Bs),vs (⟨#[108,97,115,116]⟩:Bs),vs (⟨#[108,105,109,105,116]⟩:Bs),vs (⟨#[109,97,114,107,101,116]⟩:Bs),vs (⟨#[109,97,120]⟩:Bs),vs (⟨#[109,105,110]⟩:Bs),vs (⟨#[110,111,119]⟩:Bs),vs (⟨#[111,102]⟩:Bs),vs (⟨#[111,112,101,110]⟩:Bs),vs (⟨#[112,111,115,116]⟩:Bs),vs (⟨#[112,114,105,99,101]⟩:Bs),vs (⟨#[113,116,121]⟩:Bs),vs (⟨#[114,101,103]⟩:Bs),vs (⟨#[115,101,108,108]⟩:Bs),vs (⟨#[115,101,116]⟩:Bs),vs (⟨#[115,105,100,101]⟩:Bs),vs (⟨#[115,108,111,116]⟩:Bs),vs (⟨#[115,116,97,116,101]⟩:Bs),vs (⟨#[115,116,114,97,116,101,103,121]⟩:Bs),vs (⟨#[115,117,98,109,105,116]⟩:Bs),vs (⟨#[116,105,109,101]⟩:Bs),vs (⟨#[116,111]⟩:Bs),vs (⟨#[116,114,117,101]⟩:Bs),vs (⟨#[118,111,108,117,109,101]⟩:Bs),vs (⟨#[119,104,101,110]⟩:Bs)] 9 (0,0))→Q (.returned (.slice (some ⟨b,0,none⟩) 41 41)) I1 (F)
theorem lex_Words.vc  {I:Imm}{F:Heap}{Q:PostQ}  (h:lex_Words.V .string I F Q):Tri P 160 #[] I F Q :=
 tw (A:=(annL [] [] [] shT_x0 [] [1000] [] [] [] [] [])) [] func160 h
def cmp_isNaN.V(x:Bs)(I:Imm)(F:Heap)(Q:PostQ)  : Prop:=Q (.returned (.bool (!(x.toList==x.toList)))) I (F)
theorem cmp_isNaN.vc{x:Bs}{I:Imm}{F:Heap}{Q:PostQ}  (h:cmp_isNaN.V x I F Q):Tri P 171 #[.string x] I F Q :=
 tw (A:=(an [] [] shT_x0)) [] func171 h
def cmp_Less.V(vt:Bool→Value)(x y:Bs)(I:Imm)(F:Heap)(Q:PostQ)  : Prop:=Tc1 P 171 #[.string x] I (·) F vt fun r I1 F1=>(It r (Tc1 P 171 #[.string y] I1 (·) F1 vt fun r1 I2 F2=>(It (!r1) (Q (.returned (vt true)) I2 F2) (Q (.returned (vt (Op.bytesLess x.toList y.toList))) I2 F2))) (Q (.returned (vt (Op.bytesLess x.toList y.toList))) I1 F1))
theorem cmp_Less.vc{x y:Bs}{I:Imm}{F:Heap}{Q:PostQ}  (h:cmp_Less.V .bool x y I F Q):Tri P 166 #[.string x,.string y] I F Q :=
 tw (A:=(an [1001,1005] [171] shT_x0)) [171] func166 h
def slices_isNaN.V(x:Bs)(I:Imm)(F:Heap)(Q:PostQ)  : Prop:=Q (.returned (.bool (!(x.toList==x.toList)))) I (F)
theorem slices_isNaN.vc{x:Bs}{I:Imm}{F:Heap}{Q:PostQ}  (h:slices_isNaN.V x I F Q):Tri P 167 #[.string x] I F Q :=
 tw (A:=(an [] [] shT_x0)) [] func167 h
def slices_BinarySearch.V(vi:Int→Value)(vs:Bs→Value)(vt:Bool→Value)(wr:Int→Int)(c:OA)(b f:Nat)(a:Bs)(I:Imm)(F:Heap)(Q:PostQ)(Inv8:Int→Int→Nat→Imm→Heap→Prop):Prop:=(∃m:Nat,Inv8 0 (b:Int) m I F)∧∀(i j:Int) (m1:Nat) (I1:Imm) (F1:Heap),Imm.le I I1→Inv8 i j m1 I1 F1→(Dt (i<j) ((0≤(wr (Int.fdiv (IntKind.wrap .u64 (wr (i+j))) (2 ^ 1)))∧(wr (Int.fdiv (IntKind.wrap .u64 (wr (i+j))) (2 ^ 1)))<(b:Int))∧∃ad:Addr,c=some ad∧∃(m2:Bs),Rd I1 F1 (ad.add (Int.toNat (wr (Int.fdiv (IntKind.wrap .u64 (wr (i+j))) (2 ^ 1)))*1)) [vs m2]∧Tc1 P 166 #[vs m2,vs a] I1 (·) F1 vt fun r I2 F2=>(It r (∃m3:Nat,m3<m1∧Inv8 (wr ((wr (Int.fdiv (IntKind.wrap .u64 (wr (i+j))) (2 ^ 1)))+1)) j m3 I2 F2) (∃m4:Nat,m4<m1∧Inv8 i (wr (Int.fdiv (IntKind.wrap .u64 (wr (i+j))) (2 ^ 1))) m4 I2 F2))) (Dt (i<(b:Int)) ((0≤i∧i<(b:Int))∧∃d:Addr,c=some d∧∃(m5:Bs),Rd I1 F1 (d.add (Int.toNat i*1)) [vs m5]∧(It (m5.toList==a.toList) (Q (.returned (.tuple #[vi i,vt true])) I1 F1) ((0≤i∧i<(b:Int))∧∃e:Addr,c=some e∧∃(m6:Bs),Rd I1 F1 (e.add (Int.toNat i*1)) [vs m6]∧Tc1 P 167 #[vs m6] I1 (·) F1 vt fun r1 I3 F3=>(It r1 (Tc1 P 167 #[vs a] I3 (·) F3 vt fun r2 I4 F4=>Q (.returned (.tuple #[vi i,vt r2])) I4 F4) (Q (.returned (.tuple #[vi i,vt false])) I3 F3))))) (Q (.returned (.tuple #[vi i,vt false])) I1 F1)))
theorem slices_BinarySearch.vc{b:OA}{c d:Nat}{a:Bs}{I:Imm}{F:Heap}{Q:PostQ}(Inv8:Int→Int→Nat→Imm→Heap→Prop)(h:slices_BinarySearch.V (.int .i64) .string .bool (IntKind.wrap .i64) b c d a I F Q Inv8):Tri P 159 #[.slice b c d,.string a] I F Q :=
 tw (A:=(annL [3002,5005,8003,8010,8016] [] [166,167] shT_x0 [(8,⟨[(7,(.int .i64)),(8,(.int .i64))],[],fun _ _ _ vs m I F=>match vs with | [.int _ y0,.int _ y1]=>Inv8 y0 y1 m I F | _=>False,[],[]⟩)] [] [] [] [] [] [])) [166,167] func159 h
def lex_Word.V(s:Bs)(I:Imm)(F:Heap)(Q:PostQ)  : Prop:=Tcn P 160 #[] I (·) F fun e1 I1 G1=>∃(a:OA) (b c:Nat),e1=.returned (.slice a b c)∧G1 fun F1=>Tcn P 159 #[.slice a b c,.string s] I1 (·) F1 fun e2 I2 G2=>∃(r0:Int) (r1:Bool),e2=.returned (.tuple #[.int .i64 r0,.bool r1])∧G2 fun F2=>Q (.returned (.bool r1)) I2 (F2)
theorem lex_Word.vc{s:Bs}{I:Imm}{F:Heap}{Q:PostQ}  (h:lex_Word.V s I F Q):Tri P 148 #[.string s] I F Q :=
 tw (A:=(an [] [159,160] shT_x0)) [159,160] func148 h
def lex_Name.V(vt:Bool→Value)(s:Bs)(I:Imm)(F:Heap)(Q:PostQ)(Inv14:Bool→Int→Nat→Imm→Heap→Prop):Prop:=(It (s.toList==(⟨#[]⟩:Bs).toList) (Q (.returned (vt false)) I F) (Dt ((s.size:Int)>16) (Q (.returned (vt false)) I F) ((0≤(0:Int)∧(0:Int)<(s.size:Int))∧Tc1 P 147 (#[.int .u8 (bt s 0)]) I (·) F vt fun r I1 F1=>(It (!r) (Q (.returned (vt false)) I1 F1) (Tc1 P 148 #[.string s] I1 (·) F1 vt fun r1 I2 F2=>(It r1 (Q (.returned (vt false)) I2 F2) ((∃m:Nat,Inv14 false 0 m I2 F2)∧∀(x:Bool) (x1:Int) (m1:Nat) (I3:Imm) (F3:Heap),Imm.le I2 I3→Inv14 x x1 m1 I3 F3→(Dt (x1<(s.size:Int)) ((0≤x1∧x1<(s.size:Int))∧Tc1 P 149 (#[.int .u8 (bt s x1)]) I3 (·) F3 vt fun r2 I4 F4=>(It (!r2) (Q (.returned (vt false)) I4 F4) (∃m2:Nat,m2<m1∧Inv14 x (IntKind.wrap .i64 (x1+1)) m2 I4 F4))) (Q (.returned (vt true)) I3 F3)))))))))
theorem lex_Name.vc{s:Bs}{I:Imm}{F:Heap}{Q:PostQ}(Inv14:Bool→Int→Nat→Imm→Heap→Prop)(h:lex_Name.V .bool s I F Q Inv14):Tri P 126 #[.string s] I F Q :=
 tw (A:=(annL [1001,1005,1011,1015,4000,6004] [] [147,148,149] shT_x0 [(14,⟨[(2,.bool),(23,(.int .i64))],[],fun _ _ _ vs m I F=>match vs with | [.bool y0,.int _ y1]=>Inv14 y0 y1 m I F | _=>False,[],[]⟩)] [] [] [] [] [] [])) [147,148,149] func126 h
def ref11_letter.V(c:Int)(I:Imm)(F:Heap)(Q:PostQ)  : Prop:=(Dt (c≥97) (Q (.returned (.bool (decide (c≤122)))) I F) (Q (.returned (.bool false)) I F))
theorem ref11_letter.vc{c:Int}{I:Imm}{F:Heap}{Q:PostQ}  (h:ref11_letter.V c I F Q):Tri P 101 #[.int .u8 c] I F Q :=
 tw (A:=(an [1001] [] shT_x0)) [] func101 h
def ref11_digit.V(c:Int)(I:Imm)(F:Heap)(Q:PostQ)  : Prop:=(Dt (c≥48) (Q (.returned (.bool (decide (c≤57)))) I F) (Q (.returned (.bool false)) I F))
theorem ref11_digit.vc{c:Int}{I:Imm}{F:Heap}{Q:PostQ}  (h:ref11_digit.V c I F Q):Tri P 131 #[.int .u8 c] I F Q :=
 tw (A:=(an [1001] [] shT_x0)) [] func131 h
def ref11_goes.V(vt:Bool→Value)(c:Int)(I:Imm)(F:Heap)(Q:PostQ)  : Prop:=Tc1 P 101 #[.int .u8 c] I (·) F vt fun r I1 F1=>(It r (Q (.returned (vt true)) I1 F1) (Tc1 P 131 #[.int .u8 c] I1 (·) F1 vt fun r1 I2 F2=>(It r1 (Q (.returned (vt true)) I2 F2) (Q (.returned (vt (c==95))) I2 F2))))
theorem ref11_goes.vc{c:Int}{I:Imm}{F:Heap}{Q:PostQ}  (h:ref11_goes.V .bool c I F Q):Tri P 102 #[.int .u8 c] I F Q :=
 tw (A:=(an [1001,1004] [101,131] shT_x0)) [101,131] func102 h
def ref11_Words.V(vs:Bs→Value)(I:Imm)(F:Heap)(Q:PostQ)  : Prop:=∀(b:Nat) (I1:Imm),Imm.le I I1→I1 b=some (Obj.cells #[vs (⟨#[97,98,115]⟩:Bs),vs (⟨#[97,109,101,110,100]⟩:Bs),vs (⟨#[97,115]⟩:Bs),vs (⟨#[97,115,107]⟩:Bs),vs (⟨#[97,116]⟩:Bs),vs (⟨#[98,105,100]⟩:Bs),vs (⟨#[98,111,111,108]⟩:Bs),vs (⟨#[98,117,121]⟩:Bs),vs (⟨#[99,97,110,99,101,108]⟩:Bs),vs (⟨#[100,111]⟩:Bs),vs (⟨#[102,97,108,115,101]⟩:Bs),vs (⟨#[102,111,107]⟩:Bs),vs (⟨#[103,111,116,111]⟩:Bs),vs (⟨#[104,97,108,116]⟩:Bs),vs (⟨#[104,97,115]⟩:Bs),vs (⟨#[105,110,116]⟩:Bs),vs (⟨#[105,111,99]⟩:Bs),vs (⟨#[108,97,115,116]⟩:Bs),vs (⟨#[108,105,109,105,116]⟩:Bs),vs (⟨#[109,97,114,107,101,116]⟩:Bs),vs (⟨#[109,97,120]⟩:Bs),vs (⟨#[109,105,110]⟩:Bs),vs (⟨#[110,111,119]⟩:Bs),vs (⟨#[111,102]⟩:Bs),vs (⟨#[111,112,101,110]⟩:Bs),vs (⟨#[112,111,115,116]⟩:Bs),vs (⟨#[112,114,105,99,101]⟩:Bs),vs (⟨#[113,116,121]⟩:Bs),vs (⟨#[114,101,103]⟩:Bs),vs (⟨#[115,101,108,108]⟩:Bs),vs (⟨#[115,101,116]⟩:Bs),vs (⟨#[115,105,100,101]⟩:Bs),vs (⟨#[115,108,111,116]⟩:Bs),vs (⟨#[115,116,97,116,101]⟩:Bs),vs (⟨#[115,116,114,97,116,101,103,121]⟩:Bs),vs (⟨#[115,117,98,109,105,116]⟩:Bs),vs (⟨#[116,105,109,101]⟩:Bs),vs (⟨#[116,111]⟩:Bs),vs (⟨#[116,114,117,101]⟩:Bs),vs (⟨#[118,111,108,117,109,101]⟩:Bs),vs (⟨#[119,104,101,110]⟩:Bs)] 9 (0,0))→Q (.returned (.slice (some ⟨b,0,none⟩) 41 41)) I1 (F)
theorem ref11_Words.vc  {I:Imm}{F:Heap}{Q:PostQ}  (h:ref11_Words.V .string I F Q):Tri P 130 #[] I F Q :=
 tw (A:=(annL [] [] [] shT_x0 [] [1000] [] [] [] [] [])) [] func130 h
def ref11_Word.V(s:Bs)(I:Imm)(F:Heap)(Q:PostQ)(Inv8:Bool→Int→Nat→Imm→Heap→Prop):Prop:=Tcn P 130 #[] I (·) F fun e1 I1 G1=>∃(b:OA) (a c:Nat),e1=.returned (.slice b a c)∧G1 fun F1=>(∃m:Nat,Inv8 false 0 m I1 F1)∧∀(x:Bool) (i:Int) (m1:Nat) (I2:Imm) (F2:Heap),Imm.le I1 I2→Inv8 x i m1 I2 F2→(Dt (i<(a:Int)) ((0≤i∧i<(a:Int))∧∃ad:Addr,b=some ad∧∃(m2:Bs),Rd I2 F2 (ad.add (Int.toNat i*1)) [.string m2]∧(It (m2.toList==s.toList) (Q (.returned (.bool true)) I2 F2) (∃m3:Nat,m3<m1∧Inv8 x (IntKind.wrap .i64 (i+1)) m3 I2 F2))) (Q (.returned (.bool false)) I2 F2))
theorem ref11_Word.vc{s:Bs}{I:Imm}{F:Heap}{Q:PostQ}(Inv8:Bool→Int→Nat→Imm→Heap→Prop)(h:ref11_Word.V s I F Q Inv8):Tri P 100 #[.string s] I F Q :=
 tw (A:=(annL [3003,5005] [] [130] shT_x0 [(8,⟨[(2,.bool),(4,(.int .i64))],[],fun _ _ _ vs m I F=>match vs with | [.bool y0,.int _ y1]=>Inv8 y0 y1 m I F | _=>False,[],[]⟩)] [] [] [] [] [] [])) [130] func100 h
def ref11_Name.V(vt:Bool→Value)(s:Bs)(I:Imm)(F:Heap)(Q:PostQ)(Inv16:Bool→Int→Nat→Imm→Heap→Prop):Prop:=Tc1 P 100 #[.string s] I (·) F vt fun r I1 F1=>(It r (Q (.returned (vt false)) I1 F1) (Dt ((s.size:Int)<1) (Q (.returned (vt false)) I1 F1) (Dt ((s.size:Int)>16) (Q (.returned (vt false)) I1 F1) ((0≤(0:Int)∧(0:Int)<(s.size:Int))∧Tc1 P 101 (#[.int .u8 (bt s 0)]) I1 (·) F1 vt fun r1 I2 F2=>(It (!r1) (Q (.returned (vt false)) I2 F2) ((∃m:Nat,Inv16 false 0 m I2 F2)∧∀(x:Bool) (i:Int) (m1:Nat) (I3:Imm) (F3:Heap),Imm.le I2 I3→Inv16 x i m1 I3 F3→(Dt (i<(s.size:Int)) ((0≤i∧i<(s.size:Int))∧Tc1 P 102 (#[.int .u8 (bt s i)]) I3 (·) F3 vt fun r2 I4 F4=>(It (!r2) (Q (.returned (vt false)) I4 F4) (∃m2:Nat,m2<m1∧Inv16 x (IntKind.wrap .i64 (i+1)) m2 I4 F4))) (Q (.returned (vt true)) I3 F3))))))))
theorem ref11_Name.vc{s:Bs}{I:Imm}{F:Heap}{Q:PostQ}(Inv16:Bool→Int→Nat→Imm→Heap→Prop)(h:ref11_Name.V .bool s I F Q Inv16):Tri P 61 #[.string s] I F Q :=
 tw (A:=(annL [2000,2004,2009,2015,5003,7004] [] [100,101,102] shT_x0 [(16,⟨[(2,.bool),(4,(.int .i64))],[],fun _ _ _ vs m I F=>match vs with | [.bool y0,.int _ y1]=>Inv16 y0 y1 m I F | _=>False,[],[]⟩)] [] [] [] [] [] [])) [100,101,102] func61 h
end Go.Lx
namespace Go.Lx
open Go.Vc
def Ret(v:Value)(F:Heap)(e:Ending)(I:Imm)(G:Heap):Prop:=e=.returned v∧G=F
theorem Tri.ret{Pr:Program}{f:FuncId}{args:Array Value}{I:Imm}{F:Heap}{v:Value}{Q:Ending→Imm→Heap→Prop}(h:Tri Pr f args I F (Ret v F))
  (k:∀I',Imm.le I I'→Q (.returned v) I' F):Tri Pr f args I F Q :=
 h.mono fun e I' G hl ⟨he,hG⟩=>by subst he;subst hG;exact k I' hl
theorem digit_spec(c:Int)(I:Imm)(F:Heap):Tri P 161 #[.int .u8 c] I F (Ret (.bool (digitB c)) F):=by
 refine lex_digit.vc ⟨fun h=>⟨?_,rfl⟩,fun h=>⟨?_,rfl⟩⟩<;>simp[digitB,h]
theorem small_spec(c:Int)(I:Imm)(F:Heap):Tri P 147 #[.int .u8 c] I F (Ret (.bool (smallB c)) F):=by
 refine lex_small.vc ⟨fun h=>⟨?_,rfl⟩,fun h=>⟨?_,rfl⟩⟩<;>simp[smallB,h]
theorem inner_spec(c:Int)(I:Imm)(F:Heap):Tri P 149 #[.int .u8 c] I F (Ret (.bool (innerB c)) F):=by
 refine lex_inner.vc ?_
 unfold lex_inner.V
 refine Tri.ret (small_spec c I F) fun I1 h1=>⟨_,rfl,F,.refl _,fun hs=>⟨?_,rfl⟩,fun hs=>?_⟩
 ·simp[innerB,hs]
 ·refine Tri.ret (digit_spec c I1 F) fun I2 h2=>⟨_,rfl,F,.refl _,fun hd=>⟨?_,rfl⟩,fun hd=>⟨?_,rfl⟩⟩
  ·simp[innerB,hd]
  ·simp[innerB,hs,hd]
def Short(s:ByteArray):Prop:=s.size≤140737488351232
def encS(x:ByteArray):List Value:=[.string x]
theorem Words_spec(I:Imm)(F:Heap):Tri P 160 #[] I F fun e I' G=>∃b:Nat,e=.returned (.slice (some ⟨b,0,none⟩) 41 41)∧Sl I' 1 encS (some ⟨b,0,none⟩) 41 wordsL∧G=F:=by
 refine lex_Words.vc fun b I1 hI hb=>⟨b,rfl, ?_,rfl⟩
 exact Sl.of_cells (f:=encS) (z:=1) (l:=wordsL) (fun _=>rfl) hb (by kernel_rfl)
theorem isNaN_spec(x:ByteArray)(I:Imm)(F:Heap):Tri P 171 #[.string x] I F (Ret (.bool false) F):=by
 refine cmp_isNaN.vc ?_
 unfold cmp_isNaN.V
 exact⟨by simp,rfl⟩
theorem isNaN'_spec(x:ByteArray)(I:Imm)(F:Heap):Tri P 167 #[.string x] I F (Ret (.bool false) F):=by
 refine slices_isNaN.vc ?_
 unfold slices_isNaN.V
 exact⟨by simp,rfl⟩
theorem Less_spec(x y:ByteArray)(I:Imm)(F:Heap):Tri P 166 #[.string x,.string y] I F (Ret (.bool (Op.bytesLess x.toList y.toList)) F):=by
 refine cmp_Less.vc ?_
 unfold cmp_Less.V
 exact Tri.ret (isNaN_spec x I F) fun I1 h1=>⟨_,rfl,F,.refl _,fun h=>by (cases h),fun _=>⟨rfl,rfl⟩⟩
theorem less_trans:∀{a b c:List UInt8},Op.bytesLess a b=true→Op.bytesLess b c=true→Op.bytesLess a c=true
 | a,b,[],_,h=>by cases b<;>simp[Op.bytesLess] at h
 | [],b,z::c,_,_=>rfl
 | x::a,[],z::c,h,_=>by simp[Op.bytesLess] at h
 | x::a,y::b,z::c,h1,h2=>by
   simp only[Op.bytesLess,Bool.or_eq_true,Bool.and_eq_true,decide_eq_true_eq,beq_iff_eq] at h1 h2 ⊢
   rcases h1 with h1 | ⟨rfl,h1⟩
   ·rcases h2 with h2 | ⟨rfl,h2⟩
    ·exact .inl (UInt8.lt_trans h1 h2)
    ·exact .inl h1
   ·rcases h2 with h2 | ⟨rfl,h2⟩
    ·exact .inl h2
    ·exact .inr ⟨rfl,less_trans h1 h2⟩
def lessW(x y:ByteArray):Bool:=Op.bytesLess x.toList y.toList
theorem words_sorted:∀i j:Fin 41,i<j→lessW (wordsL[i]'(by simp[wordsL])) (wordsL[j]'(by simp[wordsL]))=true:=by decide +kernel
theorem words_self:∀i:Fin 41,lessW (wordsL[i]'(by simp[wordsL])) (wordsL[i]'(by simp[wordsL]))=false:=by decide +kernel
theorem words_lt{i j:Nat}{x y:ByteArray}(h:i<j)(hx:wordsL[i]? = some x)(hy:wordsL[j]? = some y):lessW x y=true:=by
 have hj:j<41:=by
  rcases Nat.lt_or_ge j wordsL.length with h | h
  ·exact h
  ·simp[List.getElem?_eq_none h] at hy
 have:=words_sorted ⟨i,by omega⟩ ⟨j,hj⟩ h
 rw[List.getElem?_eq_getElem (by show i<41;omega)] at hx
 rw[List.getElem?_eq_getElem (by show j<41;omega)] at hy
 cases hx;cases hy;exact this
theorem words_irr{i:Nat}{x:ByteArray}(hx:wordsL[i]? = some x):lessW x x=false:=by
 have hj:i<41:=by
  rcases Nat.lt_or_ge i wordsL.length with h | h
  ·exact h
  ·simp[List.getElem?_eq_none h] at hx
 have:=words_self ⟨i,hj⟩
 rw[List.getElem?_eq_getElem (by show i<41;omega)] at hx
 cases hx;exact this
theorem wu64{n:Int}(h:0≤n∧n≤18446744073709551615):IntKind.wrap .u64 n=n:=by
 simp only[IntKind.wrap,IntKind.bits,IntKind.signed];simp;omega
theorem mid_eq{i j:Int}(h0:0≤i)(h:i<j)(hj:j≤41):IntKind.wrap .i64 (Int.fdiv (IntKind.wrap .u64 (IntKind.wrap .i64 (i+j))) (2 ^ 1))=(i+j) / 2:=by
 rw[w64 (n:=i+j) (by omega),wu64 (n:=i+j) (by omega),Int.fdiv_eq_ediv_of_nonneg _ (by decide)]
 rw[show ((2:Int) ^ 1)=2 by rfl,w64 (by omega)]
theorem Search_spec{a:Option Addr}{c:Nat}{t:ByteArray}{I:Imm}(hS:Sl I 1 encS a 41 wordsL)(F:Heap) :
  Tri P 159 #[.slice a 41 c,.string t] I F fun e I' G=>∃i:Int,e=.returned (.tuple #[.int .i64 i,.bool (wordB t)])∧G=F:=by
 refine slices_BinarySearch.vc (fun i j m I' F'=>0≤i∧i≤j∧j≤41∧m=(j-i).toNat∧(∀(k:Nat) (x:ByteArray),wordsL[k]? = some x→(k:Int)<i→lessW x t=true) ∧
  (∀(k:Nat) (x:ByteArray),wordsL[k]? = some x→j≤k→lessW x t=false)∧F'=F) ?_
 unfold slices_BinarySearch.V
 refine⟨⟨_,by omega,by decide,by decide,rfl,fun k x _ h=>by omega,fun k x hx h=>?_,rfl⟩,fun i j m I1 F1 hI ⟨g0,g1,g2,gm,gl,gr,gF⟩=>⟨fun hlt=>?_,fun hlt=>?_⟩⟩
 ·have:wordsL.length=41:=rfl
  simp[List.getElem?_eq_none (l:=wordsL) (i:=k) (by omega)] at hx
 ·have hlt:i<j:=by simpa using hlt
  subst gF
  have hS1:=hS.mono hI
  have hmid:=mid_eq g0 hlt g2
  generalize IntKind.wrap .i64 (Int.fdiv (IntKind.wrap .u64 (IntKind.wrap .i64 (i+j))) (2 ^ 1))=h at hmid ⊢
  obtain⟨ad,x,ha,hx,hrd⟩:=hS1.at (i:=h) (by omega) (by omega)
  refine⟨⟨by omega,by show h<41;omega⟩,ad,ha,x,hrd F1, ?_⟩
  refine Tri.ret (Less_spec x t I1 F1) fun I2 h2=>⟨_,rfl,F1,.refl _,fun hc=>?_,fun hc=>?_⟩
  ·rw[w64 (by omega)]
   refine⟨(j-(h+1)).toNat,by omega,by omega,by omega,g2,rfl,fun k y hy hk=>?_,gr,rfl⟩
   by_cases hkh:k=h.toNat
   ·subst hkh;rw[hx] at hy;cases hy;exact hc
   ·exact less_trans (words_lt (by omega) hy hx) hc
  ·refine⟨(h-i).toNat,by omega,g0,by omega,by omega,rfl,gl,fun k y hy hk=>?_,rfl⟩
   by_cases hkh:k=h.toNat
   ·subst hkh;rw[hx] at hy;cases hy;exact hc
   ·cases hlk:lessW y t with
    | false=>rfl
    | true=>have:=less_trans (words_lt (i:=h.toNat) (by omega) hx hy) hlk;rw[hc] at this;cases this
 ·have hlt:¬i<j:=by simpa using hlt
  have hij:i=j:=by omega
  subst hij
  subst gF
  have hS1:=hS.mono hI
  have no:(∀(k:Nat) (x:ByteArray),wordsL[k]? = some x→(k:Int)=i→(x.toList==t.toList)=false)→wordB t=false:=by
   intro hi
   unfold wordB
   rw[List.any_eq_false]
   intro x hx
   obtain⟨k,hk⟩:=List.mem_iff_getElem?.1 hx
   intro he
   have he':x.toList=t.toList:=by simpa using he
   have hirr:=words_irr hk
   unfold lessW at hirr
   rcases Int.lt_or_le (k:Int) i with h | h
   ·have:=gl k x hk h
    unfold lessW at this
    rw[←he',hirr] at this;cases this
   ·rcases Int.lt_or_eq_of_le h with h' | h'
    ·obtain⟨ad,y,ha,hy,hrd⟩:=hS1.at (i:=i) g0 (by
      have:k<41:=by
       rcases Nat.lt_or_ge k wordsL.length with h | h
       ·exact h
       ·simp[List.getElem?_eq_none h] at hk
      show i<41
      omega)
     have h1:=words_lt (i:=i.toNat) (j:=k) (by omega) hy hk
     have h2:=gr i.toNat y hy (by omega)
     unfold lessW at h1 h2
     rw[he',h2] at h1;cases h1
    ·rw[hi k x hk h'.symm] at he;cases he
  refine⟨fun hlt=>?_,fun hlt=>?_⟩
  ·have hlt:i<41:=by simpa using hlt
   obtain⟨ad,x,ha,hx,hrd⟩:=hS1.at (i:=i) g0 (by exact hlt)
   refine⟨⟨g0,hlt⟩,ad,ha,x,hrd F1,fun he=>?_,fun he=>?_⟩
   ·refine⟨i, ?_,rfl⟩
    have:wordB t=true:=by
     unfold wordB
     exact List.any_eq_true.2 ⟨x,List.mem_of_getElem? hx,he⟩
    rw[this]
   ·have hno:=no fun k y hk hki=>by
     have:k=i.toNat:=by omega
     subst this
     rw[hx] at hk;cases hk;exact he
    refine⟨⟨g0,hlt⟩,ad,ha,x,hrd F1, ?_⟩
    refine Tri.ret (isNaN'_spec x I1 F1) fun I2 h2=>⟨_,rfl,F1,.refl _,fun h=>by (cases h),fun _=>⟨i, ?_,rfl⟩⟩
    rw[hno]
  ·have hlt:¬i<41:=by simpa using hlt
   refine⟨i, ?_,rfl⟩
   rw[no fun k y hk hki=>by
    have:wordsL.length=41:=rfl
    simp[List.getElem?_eq_none (l:=wordsL) (i:=k) (by omega)] at hk]
theorem Word_spec(t:ByteArray)(I:Imm)(F:Heap):Tri P 148 #[.string t] I F (Ret (.bool (wordB t)) F):=by
 refine lex_Word.vc ?_
 unfold lex_Word.V
 refine (Words_spec I F).mono fun e I1 G hI ⟨b,he,hS,hG⟩=>?_
 subst hG
 refine⟨_,_,_,he,_,.refl _, ?_⟩
 refine (Search_spec hS G).mono fun e I2 G2 hI2 ⟨i,he,hG⟩=>?_
 subst hG
 exact⟨_,_,he,_,.refl _,rfl,rfl⟩
theorem rletter_spec(c:Int)(I:Imm)(F:Heap):Tri P 101 #[.int .u8 c] I F (Ret (.bool (smallB c)) F):=by
 refine ref11_letter.vc ⟨fun h=>⟨?_,rfl⟩,fun h=>⟨?_,rfl⟩⟩<;>simp_all [smallB]<;>omega
theorem rdigit_spec(c:Int)(I:Imm)(F:Heap):Tri P 131 #[.int .u8 c] I F (Ret (.bool (digitB c)) F):=by
 refine ref11_digit.vc ⟨fun h=>⟨?_,rfl⟩,fun h=>⟨?_,rfl⟩⟩<;>simp_all [digitB]<;>omega
theorem rgoes_spec(c:Int)(I:Imm)(F:Heap):Tri P 102 #[.int .u8 c] I F (Ret (.bool (innerB c)) F):=by
 refine ref11_goes.vc ?_
 unfold ref11_goes.V
 refine Tri.ret (rletter_spec c I F) fun I1 h1=>⟨_,rfl,F,.refl _,fun hs=>⟨?_,rfl⟩,fun hs=>?_⟩
 ·simp[innerB,hs]
 ·refine Tri.ret (rdigit_spec c I1 F) fun I2 h2=>⟨_,rfl,F,.refl _,fun hd=>⟨?_,rfl⟩,fun hd=>⟨?_,rfl⟩⟩
  ·simp[innerB,hd]
  ·simp[innerB,hs,hd]
theorem rWords_spec(I:Imm)(F:Heap):Tri P 130 #[] I F fun e I' G=>∃b:Nat,e=.returned (.slice (some ⟨b,0,none⟩) 41 41)∧Sl I' 1 encS (some ⟨b,0,none⟩) 41 wordsL∧G=F:=by
 refine ref11_Words.vc fun b I1 hI hb=>⟨b,rfl, ?_,rfl⟩
 exact Sl.of_cells (f:=encS) (z:=1) (l:=wordsL) (fun _=>rfl) hb (by kernel_rfl)
theorem drop_any{α:Type}{l:List α}{p:α→Bool}{k:Nat}{x:α}(h:l[k]? = some x):(l.drop k).any p=(p x||(l.drop (k+1)).any p):=by
 obtain⟨hk,rfl⟩:=List.getElem?_eq_some_iff.1 h
 rw[List.drop_eq_getElem_cons hk,List.any_cons]
theorem drop_find{α:Type}{l:List α}{p:α→Bool}{k:Nat}{x:α}(h:l[k]? = some x):(l.drop k).find? p=if p x then some x else (l.drop (k+1)).find? p:=by
 obtain⟨hk,rfl⟩:=List.getElem?_eq_some_iff.1 h
 rw[List.drop_eq_getElem_cons hk,List.find?_cons]
 split<;>simp_all
theorem rWord_spec(t:ByteArray)(I:Imm)(F:Heap):Tri P 100 #[.string t] I F (Ret (.bool (wordB t)) F):=by
 refine ref11_Word.vc (fun x i m I' F'=>0≤i∧i≤41∧m=(41-i).toNat∧wordB t=(wordsL.drop i.toNat).any (fun w=>w.toList==t.toList)∧F'=F) ?_
 unfold ref11_Word.V
 refine (rWords_spec I F).mono fun e I1 G hI ⟨b,he,hS,hG⟩=>?_
 subst hG
 refine⟨_,_,_,he,_,.refl _,⟨_,by omega,by omega,rfl,rfl,rfl⟩,fun x i m I2 F2 hI2 ⟨g0,g1,gm,gw,gF⟩=>⟨fun hlt=>?_,fun hlt=>?_⟩⟩
 ·have hlt:i<41:=of_decide_eq_true hlt
  obtain⟨ad,w,ha,hw,hrd⟩:=(hS.mono hI2).at (i:=i) g0 hlt
  subst gF
  rw[drop_any hw] at gw
  refine⟨⟨g0,hlt⟩,ad,ha,w,hrd _,fun h=>⟨?_,rfl⟩,fun h=>⟨(41-(i+1)).toNat,by omega, ?_⟩⟩
  ·rw[gw,h];rfl
  ·rw[w64 (by omega)]
   refine⟨by omega,by omega,rfl, ?_,rfl⟩
   rw[gw,h,show (i+1).toNat=i.toNat+1 by omega];rfl
 ·have hlt:¬i<41:=of_decide_eq_false hlt
  refine⟨?_,gF⟩
  rw[gw,List.drop_eq_nil_of_le (by show 41≤_;omega)];rfl
theorem empty_list:(⟨#[]⟩:ByteArray).toList=[]:=by rw[Lib.toList_data]
theorem nameB_eq{t:ByteArray}(h1:(t.toList==(⟨#[]⟩:ByteArray).toList)=false)(h2:¬(t.size:Int)>16)(h3:smallB (bt t 0)=true)(h4:wordB t=false):nameB t=decide (runAt innerB t 0=t.size):=by
 unfold nameB
 rw[empty_list] at h1
 rw[h3,h4,h1,decide_eq_true (by omega:(t.size:Int)≤16)];simp
theorem Name_spec{t:ByteArray}(I:Imm)(F:Heap):Tri P 126 #[.string t] I F (Ret (.bool (nameB t)) F):=by
 refine lex_Name.vc (fun x i m I' F'=>0≤i∧i≤t.size∧m=(t.size-i).toNat∧runAt innerB t i=runAt innerB t 0∧F'=F) ?_
 unfold lex_Name.V
 refine⟨fun h=>⟨?_,rfl⟩,fun h=>⟨fun h2=>⟨?_,rfl⟩,fun h2=>?_⟩⟩
 ·rw[show nameB t=false by unfold nameB;rw[empty_list] at h;rw[h];rfl]
 ·rw[show nameB t=false by unfold nameB;rw[decide_eq_false (by have:=of_decide_eq_true h2;omega:¬(t.size:Int)≤16)];simp]
 have h2:=of_decide_eq_false h2
 have hne:0<t.size:=by
  rcases Nat.eq_zero_or_pos t.size with h0 | h0
  ·have:t=⟨#[]⟩:=ByteArray.size_eq_zero_iff.1 h0
   rw[this,empty_list] at h;exact absurd h (by decide)
  ·exact h0
 refine⟨⟨by omega,by omega⟩, ?_⟩
 refine Tri.ret (small_spec (bt t 0) I _) fun I1 hI1=>⟨_,rfl,F,.refl _,fun h3=>⟨?_,rfl⟩,fun h3=>?_⟩
 ·rw[show nameB t=false by unfold nameB;rw[show smallB (bt t 0)=false by simpa using h3];simp]
 have h3:smallB (bt t 0)=true:=by simpa using h3
 refine Tri.ret (Word_spec t I1 _) fun I2 hI2=>⟨_,rfl,F,.refl _,fun h4=>⟨?_,rfl⟩,fun h4=>?_⟩
 ·rw[show nameB t=false by unfold nameB;rw[h4];simp]
 rw[nameB_eq h h2 h3 h4]
 refine⟨⟨_,by omega,by omega,rfl,rfl,rfl⟩,fun x i m I3 F3 hI3 ⟨g0,g1,gm,gr,gF⟩=>⟨fun hl=>⟨⟨g0,of_decide_eq_true hl⟩, ?_⟩,fun hl=>?_⟩⟩
 ·have hl:=of_decide_eq_true hl
  subst gF
  refine Tri.ret (inner_spec (bt t i) I3 _) fun I4 hI4=>⟨_,rfl,F3,.refl _,fun hc=>⟨?_,rfl⟩,fun hc=>?_⟩
  ·have hc:innerB (bt t i)=false:=by simpa using hc
   rw[runAt_step hl,if_neg (by rw[hc];exact Bool.false_ne_true)] at gr
   rw[decide_eq_false (by omega)]
  ·have hc:innerB (bt t i)=true:=by simpa using hc
   rw[runAt_step hl,if_pos hc] at gr
   rw[w64 (by omega)]
   exact⟨(t.size-(i+1)).toNat,by omega,by omega,by omega,rfl,gr,rfl⟩
 ·have hl:=of_decide_eq_false hl
  refine⟨?_,gF⟩
  rw[runAt_end (by omega)] at gr
  rw[decide_eq_true (by omega)]
theorem rName_spec{t:ByteArray}(I:Imm)(F:Heap):Tri P 61 #[.string t] I F (Ret (.bool (nameB t)) F):=by
 refine ref11_Name.vc (fun x i m I' F'=>0≤i∧i≤t.size∧m=(t.size-i).toNat∧runAt innerB t i=runAt innerB t 0∧F'=F) ?_
 unfold ref11_Name.V
 refine Tri.ret (rWord_spec t I _) fun I1 hI1=>⟨_,rfl,F,.refl _,fun h4=>⟨?_,rfl⟩,fun h4=>⟨fun h1=>⟨?_,rfl⟩,fun h1=>⟨fun h2=>⟨?_,rfl⟩,fun h2=>?_⟩⟩⟩
 ·rw[show nameB t=false by unfold nameB;rw[h4];simp]
 ·have h1:=of_decide_eq_true h1
  have:t=⟨#[]⟩:=ByteArray.size_eq_zero_iff.1 (by omega)
  rw[this,show nameB ⟨#[]⟩=false by unfold nameB;rw[empty_list];rfl]
 ·rw[show nameB t=false by unfold nameB;rw[decide_eq_false (by have:=of_decide_eq_true h2;omega:¬(t.size:Int)≤16)];simp]
 have h1:=of_decide_eq_false h1
 have h2:=of_decide_eq_false h2
 have h0:(t.toList==(⟨#[]⟩:ByteArray).toList)=false:=by
  rw[empty_list]
  have:t.toList≠[]:=fun e=>by
   have:t.toList.length=0:=by rw[e];rfl
   rw[Lib.toList_data] at this
   have h3:t.size=0:=by simpa using this
   omega
  simpa using this
 refine⟨⟨by omega,by omega⟩, ?_⟩
 refine Tri.ret (rletter_spec (bt t 0) I1 _) fun I2 hI2=>⟨_,rfl,F,.refl _,fun h3=>⟨?_,rfl⟩,fun h3=>?_⟩
 ·rw[show nameB t=false by unfold nameB;rw[show smallB (bt t 0)=false by simpa using h3];simp]
 have h3:smallB (bt t 0)=true:=by simpa using h3
 rw[nameB_eq h0 h2 h3 h4]
 refine⟨⟨_,by omega,by omega,rfl,rfl,rfl⟩,fun x i m I3 F3 hI3 ⟨g0,g1,gm,gr,gF⟩=>⟨fun hl=>⟨⟨g0,of_decide_eq_true hl⟩, ?_⟩,fun hl=>?_⟩⟩
 ·have hl:=of_decide_eq_true hl
  subst gF
  refine Tri.ret (rgoes_spec (bt t i) I3 _) fun I4 hI4=>⟨_,rfl,F3,.refl _,fun hc=>⟨?_,rfl⟩,fun hc=>?_⟩
  ·have hc:innerB (bt t i)=false:=by simpa using hc
   rw[runAt_step hl,if_neg (by rw[hc];exact Bool.false_ne_true)] at gr
   rw[decide_eq_false (by omega)]
  ·have hc:innerB (bt t i)=true:=by simpa using hc
   rw[runAt_step hl,if_pos hc] at gr
   rw[w64 (by omega)]
   exact⟨(t.size-(i+1)).toNat,by omega,by omega,by omega,rfl,gr,rfl⟩
 ·have hl:=of_decide_eq_false hl
  refine⟨?_,gF⟩
  rw[runAt_end (by omega)] at gr
  rw[decide_eq_true (by omega)]
end Go.Lx
namespace Go.Lx
open Go.Vc
end Go.Lx
namespace Go.Lx
open Go.Vc
def Bd{z:Nat}(ls:List (List (Ck z))):Prop:=∀(j:Nat) (l:List (Ck z)),ls[j]? = some l→l.length≤1000000000
theorem Bd.set{z:Nat}{ls:List (List (Ck z))}(h:Bd ls){i k:Nat}{l:List (Ck z)}(hl:ls[i]? = some l)(g:Ck z→Ck z):Bd (ls.set i (l.modify k g)):=by
 intro j l' hj
 rw[List.getElem?_set] at hj
 split at hj
 ·split at hj
  ·obtain rfl:l.modify k g=l':=by simpa using hj
   rw[List.length_modify];exact h i l hl
  ·cases hj
 ·exact h j l' hj
end Go.Lx
namespace Go.Lx
open Go.Vc
def flatH(n:Nat)(hs:Nat→Heap):Heap:=(List.range n).flatMap hs
theorem flatH_mem{n:Nat}{hs:Nat→Heap}{i:Nat}(hi:i<n){x:Nat×Obj}(hx:x∈hs i):x∈flatH n hs:=List.mem_flatMap.2 ⟨i,List.mem_range.2 hi,hx⟩
def TailOk(n:Nat)(a:Option Addr)(c:Nat)(A:Heap):Prop :=
 ∃b cells e,a=some ⟨b,0,none⟩∧A=[(b,Obj.cells cells e (0,0))]∧c=n+2∧cells[n*8+7]? = some (.int .i64 (-771))∧cells[(n+1)*8+7]? = some (.int .i64 (-772))
inductive OwnT (E:Nat) (R:Bool):Nd→Heap→Prop
 | mk {t:Nd} {A:Heap} {hs:Nat→Heap}:Acc 8 Nd.enc E t.a t.kids.length t.c t.kids A→(R=true→TailOk t.kids.length t.a t.c A)→(∀(i:Nat) (k:Nd),t.kids[i]? = some k→OwnT E R k (hs i)) →
    OwnT E R t (A++flatH t.kids.length hs)
theorem OwnT.ok{E:Nat}{R:Bool}{t:Nd}{H:Heap}(h:OwnT E R t H):∀{I:Imm} {G:Heap},(∀x,x∈H→x∈G)→NdOk I G t:=by
 induction h with
 | @mk t A hs hA hR hk ih =>
   intro I G hG
   refine .mk (hA.slg Nd.enc_len I fun x hx=>hG x (List.mem_append_left _ hx)) fun k hkm=>?_
   obtain⟨i,hi,rfl⟩:=List.mem_iff_getElem.1 hkm
   exact ih i _ (List.getElem?_eq_getElem hi) fun x hx=>hG x (List.mem_append_right _ (flatH_mem hi hx))
def ndCk(t:Nd):Ck 8:=⟨t.enc,rfl⟩
mutual
def Nd.lists:Nd→List (List (Ck 8))
 | .mk _ _ _ _ _ _ _ _ l _=>l.map ndCk::Nd.listsL l
def Nd.listsL:List Nd→List (List (Ck 8))
 | []=>[]
 | x::r=>Nd.lists x++Nd.listsL r
end
theorem ndCk_flat:∀l:List Nd,(l.map ndCk).flatMap cv=l.flatMap Nd.enc
 | []=>rfl
 | y::l=>by rw[List.map_cons,List.flatMap_cons,List.flatMap_cons,ndCk_flat l];rfl
theorem _root_.Go.Vc.Acc.nd{a:Option Addr}{n c e:Nat}{l:List Nd}{A:Heap}(h:Acc 8 Nd.enc e a n c l A):Acc 8 cv e a n c (l.map ndCk) A:=by
 obtain⟨hn,⟨h1,h2,h3,h4⟩ | ⟨b,cells,h1,h2,h3,h4,h5⟩⟩:=h
 ·exact⟨by rw[List.length_map];exact hn,.inl ⟨h1,h2,by rw[h3];rfl,h4⟩⟩
 ·exact⟨by rw[List.length_map];exact hn,.inr ⟨b,cells,h1,h2,h3,h4,by rw[h5,ndCk_flat]⟩⟩
end Go.Lx
namespace Go.Vc
theorem RowsH.app{z e:Nat}:∀{rs rs':List Row} {ls ls':List (List (Ck z))} {H H':Heap},RowsH z e rs ls H→RowsH z e rs' ls' H'→RowsH z e (rs++rs') (ls++ls') (H++H')
 | [],rs',[],ls',H,H',h,h'=>by
   have:H=[]:=h
   subst this;exact h'
 | r0::rs,rs',l0::ls,ls',H,H',⟨B,H'',hH,hB,hR⟩,h'=>by
   subst hH
   exact⟨B,H''++H',by rw[List.append_assoc],hB,RowsH.app hR h'⟩
 | [],_,_::_,_,_,_,h,_=>h.elim
 | _::_,_,[],_,_,_,h,_=>h.elim
end Go.Vc
namespace Go.Lx
open Go.Vc
end Go.Lx
namespace Go.Lx
open Go.Vc Go.Proofs.Tryz
def shT_t0:List (Nat×List Sh):=[(3,[.one (.int .i64)]),(4,[.one .bool]),(26,[.one .slc]),(28,[.agg [(.int .u8),(.int .u8),(.int .u8),(.int .i64),(.int .u8),.str,.slc,(.int .i64)]])]
def ref00_WeighNode.V(f:Nat→Nat×Obj)(vb vi:Int→Value)(wr:Int→Int)(v w x y z:Int)(t:Bs)(h:OA)(a u:Nat)(aa n b:Int)(I:Imm)(F:Heap)(Q:PostQ)(Inv16:Int→Int→Nat→Imm→Heap→Prop):Prop:=∀g:Nat,(Dt (b>60000) (Q (.returned (vi 1048577)) I F) ((∃m:Nat,Inv16 (wr ((wr (n+1))+(t.size:Int))) 0 m I F)∧∀(n1 i:Int) (m1:Nat) (I1:Imm) (F1:Heap),Imm.le I I1→Inv16 n1 i m1 I1 F1→(Dt (i<(a:Int)) (Dt (n1≤1048576) ((0≤i∧i<(a:Int))∧∃ad:Addr,h=some ad∧∃(j k l o p:Int) (q:Bs) (c:OA) (d e:Nat) (s:Int),Rd I1 ((f g)::F1) (ad.add (Int.toNat i*8)) [vb j,vb k,vb l,vi o,vb p,.string q,.slice c d e,vi s]∧Tc1 P 30 (#[.agg #[vb j,vb k,vb l,vi o,vb p,.string q,.slice c d e,vi s],vi n1,vi (wr (b+1))]) I1 ((f g)::·) F1 vi fun r I2 F2=>(∃m2:Nat,m2<m1∧Inv16 r (wr (i+1)) m2 I2 F2)) (Q (.returned (vi n1)) I1 F1)) (Q (.returned (vi n1)) I1 F1))))
theorem ref00_WeighNode.vc{e f g i j:Int}{k:Bs}{a:OA}{c d:Nat}{l n o:Int}{I:Imm}{F:Heap}{Q:PostQ}(Inv16:Int→Int→Nat→Imm→Heap→Prop)(h:ref00_WeighNode.V (fun b=>(b,Obj.cells #[.int .u8 e,.int .u8 f,.int .u8 g,.int .i64 i,.int .u8 j,.string k,.slice a c d,.int .i64 l] 28 (0,0))) (.int .u8) (.int .i64) (IntKind.wrap .i64) e f g i j k a c d l n o I F Q Inv16):Tri P 30 #[.agg #[.int .u8 e,.int .u8 f,.int .u8 g,.int .i64 i,.int .u8 j,.string k,.slice a c d,.int .i64 l],.int .i64 n,.int .i64 o] I F Q :=
 tw (A:=(annL [2001,5004,5007] [] [30] shT_t0 [(16,⟨[(1,(.int .i64)),(7,(.int .i64))],[],fun _ _ _ vs m I F=>match vs with | [.int _ y0,.int _ y1]=>Inv16 y0 y1 m I F | _=>False,[],[]⟩)] [] [] [] [] [] [])) [30] func30 h
end Go.Lx
namespace Go.Lx
open Go.Vc
theorem NdOk.cons{I:Imm}{F:Heap}{t:Nd}(h:NdOk I F t){x:Nat×Obj}:NdOk I (x::F) t:=h.mono (Imm.le_refl I) fun _ h=>List.mem_cons_of_mem _ h
theorem drop_map{l:List Nd}{i:Nat}{x:Nd}(h:l[i]? = some x):(l.drop i).map Nd.px=x.px::(l.drop (i+1)).map Nd.px:=by
 obtain⟨hk,rfl⟩:=List.getElem?_eq_some_iff.1 h
 rw[List.drop_eq_getElem_cons hk,List.map_cons]
theorem drop_end{l:List Nd}{i:Nat}(h:l.length≤i):(l.drop i).map Nd.px=[]:=by rw[List.drop_eq_nil_of_le h];rfl
theorem weigh_spec:∀(t:Nd),t.px.ShortP→∀(n d:Int) (I:Imm) (F:Heap),NdOk I F t→0≤n→n≤1000000000000000000→0≤d→d≤60001 →
  Tri P 30 #[t.v,.int .i64 n,.int .i64 d] I F (Ret (.int .i64 (t.px.weigh n d)) F):=by
 refine Nd.ind fun t ih hs n d I F hok hn0 hn1 hd0 hd1=>?_
 have hnm:=hs.name
 have hln:=hs.len
 rw[Nd.px_name] at hnm
 rw[Nd.px_len] at hln
 refine ref00_WeighNode.vc (fun n1 i m I' F'=>0≤i∧i≤t.kids.length∧m=(t.kids.length-i).toNat∧0≤n1∧Px.weighL (t.kids.map Nd.px) (n+1+t.name.size) (d+1)=Px.weighL ((t.kids.drop i.toNat).map Nd.px) n1 (d+1)∧F'=F) ?_
 unfold ref00_WeighNode.V
 intro b_x
 rw[Px.weigh_eq,Nd.px_name,Nd.px_kids]
 have hw:IntKind.wrap .i64 (IntKind.wrap .i64 (n+1)+(t.name.size:Int))=n+1+t.name.size:=by rw[w64 (n:=n+1) (by omega),w64 (by omega)]
 refine⟨fun h=>⟨?_,rfl⟩,fun h=>⟨⟨_,by omega,by omega,rfl, ?_, ?_,rfl⟩,fun n1 i m I1 F1 hI ⟨g0,g1,gm,gn,gw,gF⟩=>?_⟩⟩
 ·rw[if_pos (of_decide_eq_true h)]
 ·rw[hw];omega
 ·rw[hw];rfl
 have hd:¬60000<d:=of_decide_eq_false h
 rw[if_neg hd]
 subst gF
 refine⟨fun hlt=>⟨fun hle=>?_,fun hle=>⟨?_,rfl⟩⟩,fun hlt=>⟨?_,rfl⟩⟩
 ·have hlt:=of_decide_eq_true hlt
  have hle:=of_decide_eq_true hle
  obtain⟨ad,x,had,hx,hrd,hxo,hxm⟩:=((hok.mono hI fun _ h=>h).cons (x:=(b_x,.cells t.enc.toArray 28 (0,0)))).kids.at g0 hlt
  refine⟨⟨g0,hlt⟩,ad,had,_,_,_,_,_,_,_,_,_,_,hrd, ?_⟩
  rw[w64 (n:=d+1) (by omega)]
  refine Tri.ret (ih x hxm (hs.kid x.px (by rw[Nd.px_kids];exact List.mem_map_of_mem hxm)) n1 (d+1) I1 _ hxo gn (by omega) (by omega) (by omega)) fun I2 hI2=>⟨_,rfl,F1,.refl _,(t.kids.length-(i+1)).toNat,by omega, ?_⟩
  rw[w64 (n:=i+1) (by omega)]
  refine⟨by omega,by omega,rfl, ?_, ?_,rfl⟩
  ·exact Px.weigh_pos _ _ _ gn
  ·rw[gw,drop_map hx,Px.weighL,if_pos hle,show (i+1).toNat=i.toNat+1 by omega]
 ·have hlt:=of_decide_eq_true hlt
  have hle:=of_decide_eq_false hle
  obtain⟨ad,x,had,hx,hrd,hxo,hxm⟩:=hok.kids.at g0 hlt
  rw[gw,drop_map hx,Px.weighL,if_neg hle]
 ·have hlt:=of_decide_eq_false hlt
  rw[gw,drop_end (by omega),Px.weighL]
theorem _root_.Go.Vc.Tri.perm'{v:Value}{F:Heap}{Pr:Program}{f:FuncId}{args:Array Value}{I:Imm}(h:Tri Pr f args I F (Ret v F)):Tri Pr f args I F fun e I' G=>e=.returned v∧G.Perm F :=
 h.mono fun e I' G _ ⟨h1,h2⟩=>⟨h1,by rw[h2]⟩
end Go.Lx
namespace Go.Lx
open Go.Vc
theorem size_kid{t x:Nd}(h:x∈t.kids){n:Int}(hs:t.px.size≤n):x.px.size≤n:=by
 have h1:=Px.sizeL_mem (List.mem_map_of_mem (f:=Nd.px) h)
 rw[Px.size_eq,Nd.px_kids] at hs
 omega
theorem size_len{t:Nd}{n:Int}(hs:t.px.size≤n):(t.kids.length:Int)<n:=by
 have h1:=Px.sizeL_len (t.kids.map Nd.px)
 rw[Px.size_eq,Nd.px_kids] at hs
 rw[List.length_map] at h1
 omega
def zNd:Nd:=.mk 0 0 0 0 0 ⟨#[]⟩ none 0 [] 0
end Go.Lx
namespace Go.Lx
open Go.Vc Go.Proofs.Tryz
def shT_t1:List (Nat×List Sh):=[(3,[.one (.int .i64)]),(4,[.one .bool]),(28,[.agg [(.int .u8),(.int .u8),(.int .u8),(.int .i64),(.int .u8),.str,.slc,(.int .i64)]])]
def ref12_zero.V(vt:Bool→Value)(i a b c d:Int)(e:Bs)(f:OA)(g h:Nat)(j:Int)(I:Imm)(F:Heap)(Q:PostQ)  : Prop:=∀k:Nat,(It (a==0) (It (b==0) (It (c==0) (It (d==0) (Q (.returned (vt (e.toList==(⟨#[]⟩:Bs).toList))) I F) (Q (.returned (vt false)) I F)) (Q (.returned (vt false)) I F)) (Q (.returned (vt false)) I F)) (Q (.returned (vt false)) I F))
theorem ref12_zero.vc{d e f g i:Int}{j:Bs}{a:OA}{b c:Nat}{k:Int}{I:Imm}{F:Heap}{Q:PostQ}  (h:ref12_zero.V .bool d e f g i j a b c k I F Q):Tri P 62 #[.agg #[.int .u8 d,.int .u8 e,.int .u8 f,.int .i64 g,.int .u8 i,.string j,.slice a b c,.int .i64 k]] I F Q :=
 tw (A:=(an [1002,1006,1011,1016] [] shT_t1)) [] func62 h
def ref12_literal.V(nO:Int→Int→Int→Int→Int→Bs→OA→Nat→Nat→Int→Obj)(vb:Int→Value)(vt:Bool→Value)(f g a b h:Int)(i:Bs)(d:OA)(c e:Nat)(j:Int)(I:Imm)(F:Heap)(Q:PostQ)(Inv4:Bool→Imm→Heap→Prop):Prop:=∀k:Nat,((It (a==1) (Inv4 (decide (b≥0)) I F) (It (a==2) (Inv4 (decide (b≥0)) I F) (It (a==3) (Inv4 (decide (b≥0)) I F) (It (a==4) (Inv4 (decide (b≥0)) I F) (It (a==5) (It (b==0) (Inv4 true I F) (Inv4 (b==1) I F)) (It (a==6) (It (b==1) (Inv4 true I F) (Inv4 (b==2) I F)) (Inv4 false I F))))))))∧∀(ok:Bool) (I1:Imm) (F1:Heap),Imm.le I I1→Inv4 ok I1 F1→(It ok (Tc1 P 62 #[.agg #[vb f,vb g,vb 0,.int .i64 0,vb h,.string i,.slice d c e,.int .i64 j]] I1 ((k,nO f g 0 0 h i d c e j)::·) F1 vt fun r I2 F2=>(It r (Q (.returned (vt ((c:Int)==0))) I2 F2) (Q (.returned (vt false)) I2 F2))) (Q (.returned (vt false)) I1 F1))
theorem ref12_literal.vc{g i j p r:Int}{u:Bs}{b:OA}{d e:Nat}{v:Int}{I:Imm}{F:Heap}{Q:PostQ}(Inv4:Bool→Imm→Heap→Prop)(h:ref12_literal.V (fun k o t n f s a l c q=>.cells #[.int .u8 k,.int .u8 o,.int .u8 t,.int .i64 n,.int .u8 f,.string s,.slice a l c,.int .i64 q] 28 (0,0)) (.int .u8) .bool g i j p r u b d e v I F Q Inv4):Tri P 60 #[.agg #[.int .u8 g,.int .u8 i,.int .u8 j,.int .i64 p,.int .u8 r,.string u,.slice b d e,.int .i64 v]] I F Q :=
 tw (A:=(annL [3000,4000,5000,6000,8000,9002,10000,11002,14000,14003] [] [62] shT_t1 [(4,⟨[(3,.bool)],[],fun _ _ _ vs m I F=>match vs with | [.bool y0]=>Inv4 y0 I F | _=>False,[],[]⟩)] [] [] [] [] [] [])) [62] func60 h
def ref12_one.V(w:Nat→Nat×Obj)(nV:Int→Int→Int→Int→Int→Bs→OA→Nat→Nat→Int→Value)(nO:Int→Int→Int→Int→Int→Bs→OA→Nat→Nat→Int→Obj)(vt:Bool→Value)(a e g h f:Int)(i:Bs)(b:OA)(c d:Nat)(j:Int)(I:Imm)(F:Heap)(Q:PostQ)(Inv6:Bool→Int→Bool→Int→Int→Int→Int→Int→Bs→OA→Nat→Nat→Int→Imm→Heap→Prop):Prop:=∀v:Nat,((It (a==1) (Tc1 P 60 #[nV a e g h f i b c d j] I ((w v)::·) F vt fun r I1 F1=>Q (.returned (vt r)) I1 F1) (It (a==2) (Tc1 P 61 #[.string i] I ((w v)::·) F vt fun r1 I2 F2=>Inv6 false 0 r1 a e g h f (⟨#[]⟩:Bs) b c d j I2 F2) (It (a==3) (Dt (f≥1) (Inv6 false 0 (decide (f≤6)) a e g h 0 i b c d j I F) (Inv6 false 0 false a e g h 0 i b c d j I F)) (It (a==4) (Dt (f≥1) (Inv6 false 0 (decide (f≤3)) a e g h 0 i b c d j I F) (Inv6 false 0 false a e g h 0 i b c d j I F)) (It (a==5) (It (e==1) (Inv6 false 1 true a 0 g h f i b c d j I F) (Inv6 false 1 (e==2) a 0 g h f i b c d j I F)) (It (a==6) (Dt (e≥6) (Inv6 false 2 (decide (e≤18)) a 0 g h f i b c d j I F) (Inv6 false 2 false a 0 g h f i b c d j I F)) (It (a==7) (Inv6 false 3 true a e g h f i b c d j I F) (It (a==8) (Dt (e≥3) (It (e==3) (Inv6 false 1 (decide (e≤5)) a 0 g h f i b c d j I F) (Inv6 false 2 (decide (e≤5)) a 0 g h f i b c d j I F)) (It (e==3) (Inv6 false 1 false a 0 g h f i b c d j I F) (Inv6 false 2 false a 0 g h f i b c d j I F))) (It (a==9) (Dt (g≥1) (Inv6 false 1 (decide (g≤4)) a e 0 h f i b c d j I F) (Inv6 false 1 false a e 0 h f i b c d j I F)) (Inv6 false 0 false a e g h f i b c d j I F)))))))))))∧∀(x:Bool) (y:Int) (ok:Bool) (n o p q s:Int) (t:Bs) (l:OA) (k m:Nat) (u:Int) (I3:Imm) (F3:Heap),Imm.le I I3→Inv6 x y ok n o p q s t l k m u I3 F3→(It ok (Tc1 P 62 #[nV n o p q s t l k m u] I3 ((v,nO n o p q s t l k m u)::·) F3 vt fun r2 I4 F4=>(It r2 (Q (.returned (vt ((k:Int)==y))) I4 F4) (Q (.returned (vt false)) I4 F4))) (Q (.returned (vt false)) I3 F3))
theorem ref12_one.vc{i j p r u:Int}{v:Bs}{d:OA}{e g:Nat}{w:Int}{I:Imm}{F:Heap}{Q:PostQ}(Inv6:Bool→Int→Bool→Int→Int→Int→Int→Int→Bs→OA→Nat→Nat→Int→Imm→Heap→Prop)(h:ref12_one.V (fun b=>(b,Obj.cells #[.int .u8 i,.int .u8 j,.int .u8 p,.int .i64 r,.int .u8 u,.string v,.slice d e g,.int .i64 w] 28 (0,0))) (fun k o t n f s a l c q=>.agg #[.int .u8 k,.int .u8 o,.int .u8 t,.int .i64 n,.int .u8 f,.string s,.slice a l c,.int .i64 q]) (fun k o t n f s a l c q=>.cells #[.int .u8 k,.int .u8 o,.int .u8 t,.int .i64 n,.int .u8 f,.string s,.slice a l c,.int .i64 q] 28 (0,0)) .bool i j p r u v d e g w I F Q Inv6):Tri P 36 #[.agg #[.int .u8 i,.int .u8 j,.int .u8 p,.int .i64 r,.int .u8 u,.string v,.slice d e g,.int .i64 w]] I F Q :=
 tw (A:=(annL [4000,6000,9000,10002,12000,13002,15000,16002,19000,20002,23000,26000,27002,29002,32000,33002,36000,36003] [] [60,61,62] shT_t1 [(6,⟨[(2,.bool),(3,(.int .i64)),(4,.bool)],[(0,[(.int .u8),(.int .u8),(.int .u8),(.int .i64),(.int .u8),.str,.slc,(.int .i64)])],fun _ _ _ vs m I F=>match vs with | [.bool y0,.int _ y1,.bool y2,.int _ y3,.int _ y4,.int _ y5,.int _ y6,.int _ y7,.string y8,.slice y9 y10 y11,.int _ y12]=>Inv6 y0 y1 y2 y3 y4 y5 y6 y7 y8 y9 y10 y11 y12 I F | _=>False,[],[]⟩)] [] [] [] [] [] [])) [60,61,62] func36 h
def ref12_Formed.V(b:Nat→Nat×Obj)(nV:Int→Int→Int→Int→Int→Bs→OA→Nat→Nat→Int→Value)(vb:Int→Value)(vt:Bool→Value)(s t u v w:Int)(x:Bs)(d:OA)(a h:Nat)(y:Int)(I:Imm)(F:Heap)(Q:PostQ)(Inv8:Bool→Int→Nat→Imm→Heap→Prop):Prop:=∀c:Nat,Tc1 P 36 #[nV s t u v w x d a h y] I ((b c)::·) F vt fun r I1 F1=>(∃m:Nat,Inv8 r 0 m I1 F1)∧∀(ok:Bool) (i:Int) (m1:Nat) (I2:Imm) (F2:Heap),Imm.le I1 I2→Inv8 ok i m1 I2 F2→(Dt (i<(a:Int)) (It ok ((0≤i∧i<(a:Int))∧∃ad:Addr,d=some ad∧∃(j k l n o:Int) (p:Bs) (e:OA) (f g:Nat) (q:Int),Rd I2 ((b c)::F2) (ad.add (Int.toNat i*8)) [vb j,vb k,vb l,.int .i64 n,vb o,.string p,.slice e f g,.int .i64 q]∧Tc1 P 15 #[nV j k l n o p e f g q] I2 ((b c)::·) F2 vt fun r1 I3 F3=>(∃m2:Nat,m2<m1∧Inv8 r1 (IntKind.wrap .i64 (i+1)) m2 I3 F3)) (Q (.returned (vt ok)) I2 F2)) (Q (.returned (vt ok)) I2 F2))
theorem ref12_Formed.vc{i j p r u:Int}{v:Bs}{d:OA}{e g:Nat}{w:Int}{I:Imm}{F:Heap}{Q:PostQ}(Inv8:Bool→Int→Nat→Imm→Heap→Prop)(h:ref12_Formed.V (fun b=>(b,Obj.cells #[.int .u8 i,.int .u8 j,.int .u8 p,.int .i64 r,.int .u8 u,.string v,.slice d e g,.int .i64 w] 28 (0,0))) (fun k o t n f s a l c q=>.agg #[.int .u8 k,.int .u8 o,.int .u8 t,.int .i64 n,.int .u8 f,.string s,.slice a l c,.int .i64 q]) (.int .u8) .bool i j p r u v d e g w I F Q Inv8):Tri P 15 #[.agg #[.int .u8 i,.int .u8 j,.int .u8 p,.int .i64 r,.int .u8 u,.string v,.slice d e g,.int .i64 w]] I F Q :=
 tw (A:=(annL [3004,3006] [] [15,36] shT_t1 [(8,⟨[(3,.bool),(4,(.int .i64))],[],fun _ _ _ vs m I F=>match vs with | [.bool y0,.int _ y1]=>Inv8 y0 y1 m I F | _=>False,[],[]⟩)] [] [] [] [] [] [])) [15,36] func15 h
def ref12_level.V(vi:Int→Value)(b a f g h:Int)(i:Bs)(c:OA)(d e:Nat)(j:Int)(I:Imm)(F:Heap)(Q:PostQ)  : Prop:=∀k:Nat,(It (b==7) (Q (.returned (vi 1)) I F) (It (b==5) (Q (.returned (vi 7)) I F) (It (b==6) (It (a==18) (Q (.returned (vi 2)) I F) (It (a==17) (Q (.returned (vi 3)) I F) (Dt (a≥11) (Q (.returned (vi 4)) I F) (Dt (a≤7) (Q (.returned (vi 5)) I F) (Q (.returned (vi 6)) I F))))) (Q (.returned (vi 8)) I F))))
theorem ref12_level.vc{d e f g i:Int}{j:Bs}{a:OA}{b c:Nat}{k:Int}{I:Imm}{F:Heap}{Q:PostQ}  (h:ref12_level.V (.int .i64) d e f g i j a b c k I F Q):Tri P 168 #[.agg #[.int .u8 d,.int .u8 e,.int .u8 f,.int .i64 g,.int .u8 i,.string j,.slice a b c,.int .i64 k]] I F Q :=
 tw (A:=(an [2000,4000,6000,7002,9002,11002,13002] [] shT_t1)) [] func168 h
def ref12_Asks.V(nO:Int→Int→Int→Int→Int→Bs→OA→Nat→Nat→Int→Obj)(vb vi:Int→Value)(a e f g h:Int)(j:Bs)(b:OA)(c d:Nat)(k i:Int)(I:Imm)(F:Heap)(Q:PostQ)  : Prop:=∀l:Nat,Tc1 P 168 #[.agg #[vb a,vb e,vb f,vi g,vb h,.string j,.slice b c d,vi k]] I ((l,nO a e f g h j b c d k)::·) F vi fun r I1 F1=>(It (a==7) (It (i==0) (Q (.returned (vi 2)) I1 F1) (Q (.returned (vi 1)) I1 F1)) (It (a==5) (Q (.returned (vi 7)) I1 F1) (It (a==6) (It (r==4) (Q (.returned (vi 5)) I1 F1) (Q (.returned (vi (IntKind.wrap .i64 (r+i)))) I1 F1)) (Q (.returned (vi 1)) I1 F1))))
theorem ref12_Asks.vc{g j m p r:Int}{u:Bs}{b:OA}{d e:Nat}{v i:Int}{I:Imm}{F:Heap}{Q:PostQ}  (h:ref12_Asks.V (fun k o t n f s a l c q=>.cells #[.int .u8 k,.int .u8 o,.int .u8 t,.int .i64 n,.int .u8 f,.string s,.slice a l c,.int .i64 q] 28 (0,0)) (.int .u8) (.int .i64) g j m p r u b d e v i I F Q):Tri P 169 #[.agg #[.int .u8 g,.int .u8 j,.int .u8 m,.int .i64 p,.int .u8 r,.string u,.slice b d e,.int .i64 v],.int .i64 i] I F Q :=
 tw (A:=(an [3000,4001,7000,9000,10001] [168] shT_t1)) [168] func169 h
def ref12_Bracketed.V(a:Nat→Nat×Obj)(nV:Int→Int→Int→Int→Int→Bs→OA→Nat→Nat→Int→Value)(vb vi:Int→Value)(q s t u v:Int)(w:Bs)(c:OA)(d h:Nat)(x i:Int)(I:Imm)(F:Heap)(Q:PostQ)  : Prop:=∀b:Nat,((0≤i∧i<(d:Int))∧∃ad:Addr,c=some ad∧∃(j k l m n:Int) (o:Bs) (e:OA) (f g:Nat) (p:Int),Rd I ((a b)::F) (ad.add (Int.toNat i*8)) [vb j,vb k,vb l,vi m,vb n,.string o,.slice e f g,vi p]∧∃(r:Int),(Tri P 168 #[nV j k l m n o e f g p] I ((a b)::F) fun e1 I1 G1=>e1=.returned (vi r)∧List.Perm G1 ((a b)::F))∧∃(r1:Int),(Tri P 169 #[nV q s t u v w c d h x,vi i] I ((a b)::F) fun e2 I2 G2=>e2=.returned (vi r1)∧List.Perm G2 ((a b)::F))∧Q (.returned (.bool (decide (r<r1)))) I F)
theorem ref12_Bracketed.vc{j m p r u:Int}{v:Bs}{d:OA}{e g:Nat}{w i:Int}{I:Imm}{F:Heap}{Q:PostQ}  (h:ref12_Bracketed.V (fun b=>(b,Obj.cells #[.int .u8 j,.int .u8 m,.int .u8 p,.int .i64 r,.int .u8 u,.string v,.slice d e g,.int .i64 w] 28 (0,0))) (fun k o t n f s a l c q=>.agg #[.int .u8 k,.int .u8 o,.int .u8 t,.int .i64 n,.int .u8 f,.string s,.slice a l c,.int .i64 q]) (.int .u8) (.int .i64) j m p r u v d e g w i I F Q):Tri P 163 #[.agg #[.int .u8 j,.int .u8 m,.int .u8 p,.int .i64 r,.int .u8 u,.string v,.slice d e g,.int .i64 w],.int .i64 i] I F Q :=
 tw (A:=(an [] [168,169] shT_t1)) [168,169] func163 h
def ref12_depth.V(d:Nat→Nat×Obj)(nV:Int→Int→Int→Int→Int→Bs→OA→Nat→Nat→Int→Value)(vb vi:Int→Value)(wr:Int→Int)(b al am an ao:Int)(ap:Bs)(f:OA)(c k:Nat)(aq:Int)(I:Imm)(F:Heap)(Q:PostQ)(Inv8:Int→Int→Nat→Imm→Heap→Prop):Prop:=∀e:Nat,(∃m:Nat,Inv8 0 0 m I F)∧∀(a i:Int) (m1:Nat) (I1:Imm) (F1:Heap),Imm.le I I1→Inv8 a i m1 I1 F1→(Dt (i<(c:Int)) ((0≤i∧i<(c:Int))∧∃ad:Addr,f=some ad∧∃(l n o p q:Int) (s:Bs) (g:OA) (h j:Nat) (t:Int),Rd I1 ((d e)::F1) (ad.add (Int.toNat i*8)) [vb l,vb n,vb o,vi p,vb q,.string s,.slice g h j,vi t]∧Tc1 P 152 #[nV l n o p q s g h j t] I1 ((d e)::·) F1 vi fun r I2 F2=>Tc1 P 163 #[nV b al am an ao ap f c k aq,vi i] I2 ((d e)::·) F2 .bool fun r1 I3 F3=>(It r1 (It (b==5) (Dt ((wr ((wr (r+1))+1))>a) (∃m2:Nat,m2<m1∧Inv8 (wr ((wr (r+1))+1)) (wr (i+1)) m2 I3 F3) (∃m3:Nat,m3<m1∧Inv8 a (wr (i+1)) m3 I3 F3)) (It (b==8) (Dt ((wr ((wr (r+1))+1))>a) (∃m4:Nat,m4<m1∧Inv8 (wr ((wr (r+1))+1)) (wr (i+1)) m4 I3 F3) (∃m5:Nat,m5<m1∧Inv8 a (wr (i+1)) m5 I3 F3)) (It (b==9) (Dt ((wr ((wr (r+1))+1))>a) (∃m6:Nat,m6<m1∧Inv8 (wr ((wr (r+1))+1)) (wr (i+1)) m6 I3 F3) (∃m7:Nat,m7<m1∧Inv8 a (wr (i+1)) m7 I3 F3)) (It (b==7) (Dt (i>0) (Dt ((wr ((wr (r+1))+1))>a) (∃m8:Nat,m8<m1∧Inv8 (wr ((wr (r+1))+1)) (wr (i+1)) m8 I3 F3) (∃m9:Nat,m9<m1∧Inv8 a (wr (i+1)) m9 I3 F3)) (Dt ((wr (r+1))>a) (∃u:Nat,u<m1∧Inv8 (wr (r+1)) (wr (i+1)) u I3 F3) (∃v:Nat,v<m1∧Inv8 a (wr (i+1)) v I3 F3))) (Dt ((wr (r+1))>a) (∃w:Nat,w<m1∧Inv8 (wr (r+1)) (wr (i+1)) w I3 F3) (∃x:Nat,x<m1∧Inv8 a (wr (i+1)) x I3 F3)))))) (It (b==5) (Dt ((wr (r+1))>a) (∃y:Nat,y<m1∧Inv8 (wr (r+1)) (wr (i+1)) y I3 F3) (∃z:Nat,z<m1∧Inv8 a (wr (i+1)) z I3 F3)) (It (b==8) (Dt ((wr (r+1))>a) (∃aa:Nat,aa<m1∧Inv8 (wr (r+1)) (wr (i+1)) aa I3 F3) (∃ab:Nat,ab<m1∧Inv8 a (wr (i+1)) ab I3 F3)) (It (b==9) (Dt ((wr (r+1))>a) (∃ac:Nat,ac<m1∧Inv8 (wr (r+1)) (wr (i+1)) ac I3 F3) (∃ae:Nat,ae<m1∧Inv8 a (wr (i+1)) ae I3 F3)) (It (b==7) (Dt (i>0) (Dt ((wr (r+1))>a) (∃af:Nat,af<m1∧Inv8 (wr (r+1)) (wr (i+1)) af I3 F3) (∃ag:Nat,ag<m1∧Inv8 a (wr (i+1)) ag I3 F3)) (Dt (r>a) (∃ah:Nat,ah<m1∧Inv8 r (wr (i+1)) ah I3 F3) (∃ai:Nat,ai<m1∧Inv8 a (wr (i+1)) ai I3 F3))) (Dt (r>a) (∃aj:Nat,aj<m1∧Inv8 r (wr (i+1)) aj I3 F3) (∃ak:Nat,ak<m1∧Inv8 a (wr (i+1)) ak I3 F3)))))))) (Q (.returned (vi a)) I1 F1))
theorem ref12_depth.vc{i j p r u:Int}{v:Bs}{d:OA}{e g:Nat}{w:Int}{I:Imm}{F:Heap}{Q:PostQ}(Inv8:Int→Int→Nat→Imm→Heap→Prop)(h:ref12_depth.V (fun b=>(b,Obj.cells #[.int .u8 i,.int .u8 j,.int .u8 p,.int .i64 r,.int .u8 u,.string v,.slice d e g,.int .i64 w] 28 (0,0))) (fun k o t n f s a l c q=>.agg #[.int .u8 k,.int .u8 o,.int .u8 t,.int .i64 n,.int .u8 f,.string s,.slice a l c,.int .i64 q]) (.int .u8) (.int .i64) (IntKind.wrap .i64) i j p r u v d e g w I F Q Inv8):Tri P 152 #[.agg #[.int .u8 i,.int .u8 j,.int .u8 p,.int .i64 r,.int .u8 u,.string v,.slice d e g,.int .i64 w]] I F Q :=
 tw (A:=(annL [3004,7000,9002,9006,9011,9016,9019,11002] [] [152,163] shT_t1 [(8,⟨[(3,(.int .i64)),(4,(.int .i64))],[],fun _ _ _ vs m I F=>match vs with | [.int _ y0,.int _ y1]=>Inv8 y0 y1 m I F | _=>False,[],[]⟩)] [] [] [] [] [] [])) [152,163] func152 h
def ref12_CheckExpr.V(a:Nat→Nat×Obj)(nV:Int→Int→Int→Int→Int→Bs→OA→Nat→Nat→Int→Value)(vi:Int→Value)(f g h i j:Int)(k:Bs)(b:OA)(c d:Nat)(l:Int)(I:Imm)(F:Heap)(Q:PostQ)  : Prop:=∀e:Nat,Tc1 P 15 #[nV f g h i j k b c d l] I ((a e)::·) F .bool fun r I1 F1=>(It (!r) (Q (.returned (vi 120)) I1 F1) (Tc1 P 152 #[nV f g h i j k b c d l] I1 ((a e)::·) F1 vi fun r1 I2 F2=>(Dt (r1>24) (Q (.returned (vi 122)) I2 F2) (Q (.returned (vi 0)) I2 F2))))
theorem ref12_CheckExpr.vc{i j m p r:Int}{u:Bs}{d:OA}{e g:Nat}{v:Int}{I:Imm}{F:Heap}{Q:PostQ}  (h:ref12_CheckExpr.V (fun b=>(b,Obj.cells #[.int .u8 i,.int .u8 j,.int .u8 m,.int .i64 p,.int .u8 r,.string u,.slice d e g,.int .i64 v] 28 (0,0))) (fun k o t n f s a l c q=>.agg #[.int .u8 k,.int .u8 o,.int .u8 t,.int .i64 n,.int .u8 f,.string s,.slice a l c,.int .i64 q]) (.int .i64) i j m p r u d e g v I F Q):Tri P 137 #[.agg #[.int .u8 i,.int .u8 j,.int .u8 m,.int .i64 p,.int .u8 r,.string u,.slice d e g,.int .i64 v]] I F Q :=
 tw (A:=(an [2001,4002] [15,152] shT_t1)) [15,152] func137 h
end Go.Lx
namespace Go.Lx
open Go.Vc
def zB(o ty n f:Int)(s:ByteArray):Bool:=o==0&&(ty==0&&(n==0&&(f==0&&(s.toList==(⟨#[]⟩:ByteArray).toList))))
theorem zero_spec(k o ty n f:Int)(s:ByteArray)(a:Option Addr)(l c:Nat)(q:Int)(I:Imm)(F:Heap) :
  Tri P 62 #[.agg #[.int .u8 k,.int .u8 o,.int .u8 ty,.int .i64 n,.int .u8 f,.string s,.slice a l c,.int .i64 q]] I F (Ret (.bool (zB o ty n f s)) F):=by
 refine ref12_zero.vc ?_
 unfold ref12_zero.V
 intro b_n
 unfold zB
 refine⟨fun h=>⟨fun h1=>⟨fun h2=>⟨fun h3=>⟨?_,rfl⟩,fun h3=>⟨?_,rfl⟩⟩,fun h2=>⟨?_,rfl⟩⟩,fun h1=>⟨?_,rfl⟩⟩,fun h=>⟨?_,rfl⟩⟩<;>simp[*]
theorem literal_spec(t:Nd)(I:Imm)(F:Heap):Tri P 60 #[t.v] I F (Ret (.bool (t.px.litB&&(zB t.oper 0 0 t.field t.name&&decide (t.kids.length=0)))) F):=by
 refine ref12_literal.vc (fun ok I' F'=>ok=t.px.litB∧F'=F) ?_
 unfold ref12_literal.V
 intro b_n
 unfold Px.litB
 rw[Nd.px_typ,Nd.px_n]
 refine⟨⟨fun h=>⟨?_,rfl⟩,fun h1=>⟨fun h=>⟨?_,rfl⟩,fun h2=>⟨fun h=>⟨?_,rfl⟩,fun h3=>⟨fun h=>⟨?_,rfl⟩,fun h4=>⟨fun h=>⟨fun h'=>⟨?_,rfl⟩,fun h'=>⟨?_,rfl⟩⟩,fun h5=>⟨fun h=>⟨fun h'=>⟨?_,rfl⟩,fun h'=>⟨?_,rfl⟩⟩,fun h6=>⟨?_,rfl⟩⟩⟩⟩⟩⟩⟩,fun ok I1 F1 hI ⟨g1,gF⟩=>?_⟩
 ·have h:t.typ=1:=by simpa using h
  simp[h]
 ·have h:t.typ=2:=by simpa using h
  simp[h]
 ·have h:t.typ=3:=by simpa using h
  simp[h]
 ·have h:t.typ=4:=by simpa using h
  simp[h]
 ·have h:t.typ=5:=by simpa using h
  have h':t.n=0:=by simpa using h'
  simp[h,h']
 ·have h:t.typ=5:=by simpa using h
  have h':t.n≠0:=by simpa using h'
  rw[if_neg (by omega),if_pos h,Bool.eq_iff_iff];simp[h']
 ·have h:t.typ=6:=by simpa using h
  have h':t.n=1:=by simpa using h'
  simp[h,h']
 ·have h:t.typ=6:=by simpa using h
  have h':t.n≠1:=by simpa using h'
  rw[if_pos h,Bool.eq_iff_iff];simp[h']
 ·have e1:t.typ≠1:=by simpa using h1
  have e2:t.typ≠2:=by simpa using h2
  have e3:t.typ≠3:=by simpa using h3
  have e4:t.typ≠4:=by simpa using h4
  have e5:t.typ≠5:=by simpa using h5
  have e6:t.typ≠6:=by simpa using h6
  rw[if_neg e6,if_neg e5,if_neg (by omega)]
 ·subst gF
  rw[←g1]
  refine⟨fun h=>Tri.ret (zero_spec t.kind t.oper 0 0 t.field t.name t.a t.kids.length t.c t.pos I1 _) fun I2 h2=>⟨_,rfl,F1,.refl _,fun h'=>⟨?_,rfl⟩,fun h'=>⟨?_,rfl⟩⟩,fun h=>⟨?_,rfl⟩⟩
  ·rw[h,h'];congr 2;rw[Bool.eq_iff_iff];simp
  ·rw[h'];simp
  ·rw[h];simp
theorem one_spec(t:Nd)(I:Imm)(F:Heap):Tri P 36 #[t.v] I F (Ret (.bool t.px.oneB) F):=by
 refine ref12_one.vc (fun x kids ok k o ty n f s a l c q I' F'=>(ok&&(zB o ty n f s&&decide (l=kids.toNat)))=t.px.oneB∧0≤kids∧F'=F) ?_
 unfold ref12_one.V
 intro b_n
 unfold Px.oneB Px.fitB Px.zeroB Px.arity
 simp only[Nd.px_kind,Nd.px_oper,Nd.px_typ,Nd.px_n,Nd.px_field,Nd.px_name,Nd.px_len]
 refine⟨⟨fun h=>?_,fun h1=>⟨fun h=>?_,fun h2=>⟨fun h=>⟨fun h'=>⟨?_,by decide,by trivial⟩,fun h'=>⟨?_,by decide,by trivial⟩⟩,fun h3=>⟨fun h=>⟨fun h'=>⟨?_,by decide,by trivial⟩,fun h'=>⟨?_,by decide,by trivial⟩⟩,fun h4=>⟨fun h=>⟨fun h'=>⟨?_,by decide,by trivial⟩,fun h'=>⟨?_,by decide,by trivial⟩⟩,
  fun h5=>⟨fun h=>⟨fun h'=>⟨?_,by decide,by trivial⟩,fun h'=>⟨?_,by decide,by trivial⟩⟩,fun h6=>⟨fun h=>⟨?_,by decide,by trivial⟩,fun h7=>⟨fun h=>⟨fun h'=>⟨fun h''=>⟨?_,by decide,by trivial⟩,fun h''=>⟨?_,by decide,by trivial⟩⟩,fun h'=>⟨fun h''=>⟨?_,by decide,by trivial⟩,fun h''=>⟨?_,by decide,by trivial⟩⟩⟩,fun h8=>⟨fun h=>⟨fun h'=>⟨?_,by decide,by trivial⟩,fun h'=>⟨?_,by decide,by trivial⟩⟩,fun h9=>⟨?_,by decide,by trivial⟩⟩⟩⟩⟩⟩⟩⟩⟩⟩,fun x kids ok k o ty n f s a l c q I3 F3 hI ⟨g1,gk,gF⟩=>?_⟩
 ·refine Tri.ret (literal_spec t I _) fun I2 h2=>⟨_,rfl,F,.refl _, ?_,by trivial⟩
  have hk:t.kind=1:=by simpa using h
  simp[hk,zB,empty_list,Bool.and_assoc]
 ·refine Tri.ret (rName_spec I _) fun I2 h2=>⟨_,rfl,F,.refl _, ?_,by decide,by trivial⟩
  have hk:t.kind=2:=by simpa using h
  simp[hk,zB,empty_list,Bool.and_assoc]
 all_goals first
  | (subst gF
     rw[←g1]
     refine⟨fun h=>Tri.ret (zero_spec k o ty n f s a l c q I3 _) fun I2 h2=>⟨_,rfl,F3,.refl _,fun h'=>⟨?_,by trivial⟩,fun h'=>⟨?_,by trivial⟩⟩,fun h=>⟨?_,by trivial⟩⟩
     ·rw[h,h'];congr 2;rw[Bool.eq_iff_iff];simp;omega
     ·rw[h'];simp
     ·rw[h];simp)
  | (simp only[beq_iff_eq] at h
     try simp only[decide_eq_true_eq,decide_eq_false_iff_not,beq_iff_eq,beq_eq_false_iff_ne] at h'
     try simp only[decide_eq_true_eq,decide_eq_false_iff_not,beq_iff_eq,beq_eq_false_iff_ne] at h''
     simp[*,zB,empty_list,Bool.and_assoc]
     done)
  | skip
 ·have h:t.kind=5:=by simpa using h
  have h':t.oper≠1:=by simpa using h'
  have:decide (t.oper=1∨t.oper=2)=(t.oper==2):=by rw[Bool.eq_iff_iff];simp[h']
  simp[h,this,zB,empty_list,Bool.and_assoc]
 ·exfalso
  have h':=of_decide_eq_false h'
  have h'':t.oper=3:=by simpa using h''
  omega
 ·have e1:t.kind≠1:=by simpa using h1
  have e2:t.kind≠2:=by simpa using h2
  have e3:t.kind≠3:=by simpa using h3
  have e4:t.kind≠4:=by simpa using h4
  have e5:t.kind≠5:=by simpa using h5
  have e6:t.kind≠6:=by simpa using h6
  have e7:t.kind≠7:=by simpa using h7
  have e8:t.kind≠8:=by simpa using h8
  have e9:t.kind≠9:=by simpa using h9
  simp[e1,e2,e3,e4,e5,e6,e7,e8,e9]
theorem formed_spec:∀(t:Nd),t.px.size≤1048576→∀(I:Imm) (F:Heap),NdOk I F t→Tri P 15 #[t.v] I F (Ret (.bool t.px.formed) F):=by
 refine Nd.ind fun t ih hs I F ht=>?_
 have hln:=size_len hs
 refine ref12_Formed.vc (fun ok i m I' F'=>0≤i∧i≤t.kids.length∧m=(t.kids.length-i).toNat∧t.px.formed=(ok&&Px.formedL ((t.kids.drop i.toNat).map Nd.px))∧F'=F) ?_
 unfold ref12_Formed.V
 intro b_n
 refine Tri.ret (one_spec t I _) fun I1 hI1=>⟨_,rfl,F,.refl _,⟨_,by omega,by omega,rfl, ?_,rfl⟩,fun ok i m I2 F2 hI ⟨g0,g1,gm,gf,gF⟩=>⟨fun hlt=>⟨fun hok=>?_,fun hok=>⟨?_,gF⟩⟩,fun hlt=>⟨?_,gF⟩⟩⟩
 ·rw[Px.formed_eq,Nd.px_kids];rfl
 ·have hlt:=of_decide_eq_true hlt
  subst gF
  obtain⟨ad,x,had,hx,hrd,hxo,hxm⟩:=((ht.mono (Imm.le_trans hI1 hI) fun _ h=>h).cons (x:=(b_n,.cells t.enc.toArray 28 (0,0)))).kids.at g0 hlt
  refine⟨⟨g0,hlt⟩,ad,had,_,_,_,_,_,_,_,_,_,_,hrd,Tri.ret (ih x hxm (size_kid hxm hs) I2 _ hxo) fun I3 hI3=>⟨_,rfl,F2,.refl _,(t.kids.length-(i+1)).toNat,by omega, ?_⟩⟩
  rw[w64 (n:=i+1) (by omega)]
  refine⟨by omega,by omega,rfl, ?_,rfl⟩
  rw[gf,hok,drop_map hx,Px.formedL,show (i+1).toNat=i.toNat+1 by omega];rfl
 ·rw[gf,hok];rfl
 ·have hlt:=of_decide_eq_false hlt
  rw[gf,drop_end (by omega),Px.formedL,Bool.and_true]
theorem rlevel_spec(t:Nd)(I:Imm)(F:Heap):Tri P 168 #[t.v] I F (Ret (.int .i64 t.px.level) F):=by
 refine ref12_level.vc ?_
 unfold ref12_level.V
 intro b_n
 unfold Px.level
 rw[Nd.px_kind,Nd.px_oper]
 refine⟨fun h=>⟨?_,rfl⟩,fun h1=>⟨fun h=>⟨?_,rfl⟩,fun h2=>⟨fun h=>⟨fun h'=>⟨?_,rfl⟩,fun h3=>⟨fun h'=>⟨?_,rfl⟩,fun h4=>⟨fun h'=>⟨?_,rfl⟩,fun h5=>⟨fun h'=>⟨?_,rfl⟩,fun h6=>⟨?_,rfl⟩⟩⟩⟩⟩,fun h=>⟨?_,rfl⟩⟩⟩⟩
 all_goals (try simp only[decide_eq_true_eq,decide_eq_false_iff_not,beq_iff_eq,beq_eq_false_iff_ne] at *)
 all_goals (congr 2;(repeat' split)<;>first | rfl | omega)
end Go.Lx
namespace Go.Lx
open Go.Vc
theorem level_range(x:Px):1≤x.level∧x.level≤8:=by
 unfold Px.level;(repeat' split)<;>omega
theorem asks_spec(t:Nd)(i:Int)(h0:0≤i)(h1:i≤1048576)(I:Imm)(F:Heap):Tri P 169 #[t.v,.int .i64 i] I F (Ret (.int .i64 (t.px.asks i)) F):=by
 refine ref12_Asks.vc ?_
 unfold ref12_Asks.V
 intro b_n
 have hr:=level_range t.px
 refine Tri.ret (rlevel_spec t I _) fun I1 hI1=>⟨_,rfl,F,.refl _, ?_⟩
 unfold Px.asks
 rw[Nd.px_kind]
 refine⟨fun h=>⟨fun h'=>⟨?_,rfl⟩,fun h'=>⟨?_,rfl⟩⟩,fun h1=>⟨fun h=>⟨?_,rfl⟩,fun h2=>⟨fun h=>⟨fun h'=>⟨?_,rfl⟩,fun h'=>⟨?_,rfl⟩⟩,fun h=>⟨?_,rfl⟩⟩⟩⟩
 all_goals (try simp only[decide_eq_true_eq,decide_eq_false_iff_not,beq_iff_eq,beq_eq_false_iff_ne] at *)
 all_goals (congr 2;(repeat' split)<;>first | rfl | omega | (rw[w64 (by omega)]))
theorem bracketed_spec(t x:Nd){i:Int}(h0:0≤i)(h1:i<t.kids.length)(h2:t.kids[i.toNat]? = some x)(h3:(t.kids.length:Int)≤1048576)(I:Imm)(F:Heap)(ht:NdOk I F t) :
  Tri P 163 #[t.v,.int .i64 i] I F (Ret (.bool (decide (x.px.level<t.px.asks i))) F):=by
 refine ref12_Bracketed.vc ?_
 unfold ref12_Bracketed.V
 intro b_n
 obtain⟨ad,y,had,hy,hrd,hyo,hym⟩:=(ht.cons (x:=(b_n,.cells t.enc.toArray 28 (0,0)))).kids.at h0 h1
 obtain rfl:x=y:=by rw[h2] at hy;exact Option.some.inj hy
 exact⟨⟨h0,h1⟩,ad,had,_,_,_,_,_,_,_,_,_,_,hrd,_,(rlevel_spec x I _).perm',_,(asks_spec t i h0 (by omega) I _).perm',rfl,rfl⟩
theorem Px.formed_kid{x:Px}(h:x.formed=true):∀k∈x.kids,k.formed=true:=by
 have hL:∀l:List Px,Px.formedL l=true→∀k∈l,k.formed=true:=by
  intro l
  induction l with
  | nil=>intro _ k hk;cases hk
  | cons y r ih =>
    intro h k hk
    rw[Px.formedL,Bool.and_eq_true] at h
    rcases List.mem_cons.1 hk with rfl | hk
    ·exact h.1
    ·exact ih h.2 k hk
 rw[Px.formed_eq,Bool.and_eq_true] at h
 exact hL _ h.2
theorem Px.formed_kind{x:Px}(h:x.formed=true)(hk:x.kids≠[]):5≤x.kind∧x.kind≤9:=by
 rw[Px.formed_eq,Bool.and_eq_true] at h
 have h1:=h.1
 unfold Px.oneB at h1
 simp only[Bool.and_eq_true,decide_eq_true_eq] at h1
 have h2:=h1.2
 have h3:0<x.kids.length:=List.length_pos_iff.2 hk
 unfold Px.arity at h2
 (repeat' split at h2)<;>omega
theorem adds_range(x k:Px)(i:Int):0≤x.adds k i∧x.adds k i≤2:=by
 unfold Px.adds;(repeat' split)<;>omega
theorem depth_range:∀x:Px,0≤x.depth∧x.depth≤2*x.size:=by
 have hL:∀(t:Px) (l:List Px),(∀x∈l,0≤Px.depth x∧Px.depth x≤2*Px.size x)→∀(i most:Int),0≤most→0≤Px.depthL t i l most∧Px.depthL t i l most≤max most (2*Px.sizeL l+2):=by
  intro t l
  induction l with
  | nil=>intro _ i most h;rw[Px.depthL,Px.sizeL];omega
  | cons x r ih =>
    intro hx i most h
    have h1:=hx x (List.mem_cons_self ..)
    have h2:=adds_range t x i
    have h3:=ih (fun y hy=>hx y (List.mem_cons_of_mem _ hy)) (i+1) (max most (Px.depth x+t.adds x i)) (by omega)
    have h4:=Px.sizeL_nonneg r
    have h5:=Px.size_pos x
    rw[Px.depthL,Px.sizeL]
    omega
 refine Px.ind fun x h=>?_
 have:=hL x x.kids h 0 0 (by omega)
 have h4:=Px.sizeL_nonneg x.kids
 rw[Px.depth_eq,Px.size_eq]
 omega
theorem rdepth_spec:∀(t:Nd),t.px.size≤1048576→t.px.formed=true→∀(I:Imm) (F:Heap),NdOk I F t→Tri P 152 #[t.v] I F (Ret (.int .i64 t.px.depth) F):=by
 refine Nd.ind fun t ih hs hf I F ht=>?_
 have hln:=size_len hs
 refine ref12_depth.vc (fun most i m I' F'=>0≤i∧i≤t.kids.length∧m=(t.kids.length-i).toNat∧0≤most∧most≤4194304∧t.px.depth=Px.depthL t.px i ((t.kids.drop i.toNat).map Nd.px) most∧F'=F) ?_
 unfold ref12_depth.V
 intro b_n
 refine⟨⟨_,by omega,by omega,rfl,by omega,by omega, ?_,rfl⟩,fun most i m I1 F1 hI ⟨g0,g1,gm,g2,g3,gf,gF⟩=>⟨fun hlt=>?_,fun hlt=>⟨?_,gF⟩⟩⟩
 ·rw[Px.depth_eq,Nd.px_kids];rfl
 ·have hlt:=of_decide_eq_true hlt
  subst gF
  have ht1:NdOk I1 ((b_n,.cells t.enc.toArray 28 (0,0))::F1) t:=(ht.mono hI fun _ h=>h).cons
  obtain⟨ad,x,had,hx,hrd,hxo,hxm⟩:=ht1.kids.at g0 hlt
  have hxp:x.px∈t.px.kids:=by rw[Nd.px_kids];exact List.mem_map_of_mem hxm
  have hkd:=Px.formed_kind hf (fun e=>by rw[e] at hxp;cases hxp)
  rw[Nd.px_kind] at hkd
  have hdr:=depth_range x.px
  have hsz:=size_kid hxm hs
  refine⟨⟨g0,hlt⟩,ad,had,_,_,_,_,_,_,_,_,_,_,hrd,Tri.ret (ih x hxm hsz (Px.formed_kid hf _ hxp) I1 _ hxo) fun I2 hI2=>⟨_,rfl,F1,.refl _,
   Tri.ret (bracketed_spec t x g0 hlt hx (by omega) I2 _ (ht1.mono hI2 fun _ h=>h)) fun I3 hI3=>⟨_,rfl,F1,.refl _, ?_⟩⟩⟩
  have key:∀D:Int,D=x.px.depth+t.px.adds x.px i →
    (decide (D>most)=true→∃m2:Nat,m2<m∧(0≤IntKind.wrap .i64 (i+1)∧IntKind.wrap .i64 (i+1)≤t.kids.length∧m2=(t.kids.length-IntKind.wrap .i64 (i+1)).toNat∧0≤D∧D≤4194304 ∧
      t.px.depth=Px.depthL t.px (IntKind.wrap .i64 (i+1)) ((t.kids.drop (IntKind.wrap .i64 (i+1)).toNat).map Nd.px) D∧F1=F1)) ∧
    (decide (D>most)=false→∃m2:Nat,m2<m∧(0≤IntKind.wrap .i64 (i+1)∧IntKind.wrap .i64 (i+1)≤t.kids.length∧m2=(t.kids.length-IntKind.wrap .i64 (i+1)).toNat∧0≤most∧most≤4194304 ∧
      t.px.depth=Px.depthL t.px (IntKind.wrap .i64 (i+1)) ((t.kids.drop (IntKind.wrap .i64 (i+1)).toNat).map Nd.px) most∧F1=F1)):=by
   intro D hD
   have har:=adds_range t.px x.px i
   rw[w64 (n:=i+1) (by omega)]
   rw[drop_map hx,Px.depthL,←hD] at gf
   refine⟨fun h=>⟨(t.kids.length-(i+1)).toNat,by omega,by omega,by omega,rfl,by omega,by omega, ?_,rfl⟩,fun h=>⟨(t.kids.length-(i+1)).toNat,by omega,by omega,by omega,rfl,by omega,by omega, ?_,rfl⟩⟩
   ·have h:=of_decide_eq_true h
    rw[gf,show max most D=D by omega,show (i+1).toNat=i.toNat+1 by omega]
   ·have h:=of_decide_eq_false h
    rw[gf,show max most D=most by omega,show (i+1).toNat=i.toNat+1 by omega]
  have e1:IntKind.wrap .i64 (x.px.depth+1)=x.px.depth+1:=w64 (by omega)
  have e2:IntKind.wrap .i64 (x.px.depth+1+1)=x.px.depth+1+1:=w64 (by omega)
  rw[e1,e2]
  unfold Px.adds at key
  rw[Nd.px_kind] at key
  refine⟨fun hb=>⟨fun h=>key _ ?_,fun h1=>⟨fun h=>key _ ?_,fun h2=>⟨fun h=>key _ ?_,fun h3=>⟨fun h=>⟨fun hi=>key _ ?_,fun hi=>key _ ?_⟩,fun h4=>key _ ?_⟩⟩⟩⟩,
   fun hb=>⟨fun h=>key _ ?_,fun h1=>⟨fun h=>key _ ?_,fun h2=>⟨fun h=>key _ ?_,fun h3=>⟨fun h=>⟨fun hi=>key _ ?_,fun hi=>key _ ?_⟩,fun h4=>key _ ?_⟩⟩⟩⟩⟩
  all_goals clear key gf
  all_goals (simp only[decide_eq_true_eq,decide_eq_false_iff_not,beq_iff_eq,beq_eq_false_iff_ne] at *)
  all_goals ((repeat' split)<;>omega)
 ·have hlt:=of_decide_eq_false hlt
  rw[gf,drop_end (by omega),Px.depthL]
def Px.checkE(x:Px):Int:=if x.formed then (if 24<x.depth then 122 else 0) else 120
theorem rCheckExpr_spec(t:Nd)(hs:t.px.size≤1048576)(I:Imm)(F:Heap)(ht:NdOk I F t):Tri P 137 #[t.v] I F (Ret (.int .i64 t.px.checkE) F):=by
 refine ref12_CheckExpr.vc ?_
 unfold ref12_CheckExpr.V
 intro b_n
 unfold Px.checkE
 refine Tri.ret (formed_spec t hs I _ ht.cons) fun I1 hI1=>⟨_,rfl,F,.refl _,fun h=>⟨?_,rfl⟩,fun h=>Tri.ret (rdepth_spec t hs (by simpa using h) I1 _ (ht.mono hI1 fun _ h=>h).cons) fun I2 hI2=>⟨_,rfl,F,.refl _,fun h'=>⟨?_,rfl⟩,fun h'=>⟨?_,rfl⟩⟩⟩
 ·rw[if_neg (by simpa using h)]
 ·rw[if_pos (by simpa using h),if_pos (of_decide_eq_true h')]
 ·rw[if_pos (by simpa using h),if_neg (of_decide_eq_false h')]
end Go.Lx
