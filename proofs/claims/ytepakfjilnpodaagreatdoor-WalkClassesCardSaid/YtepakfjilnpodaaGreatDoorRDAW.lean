/-
  'After' of the reference. 'Distribution' of the reference. 'Fine' and 'Dot' of the reference. 'Ruin' of arguments that are not as they shoul
  Conditions: see each statement.
-/
import Derived.Test.YtepakfjilnpodaaGreatDoorRDAV
import Derived.Test.YtepakfjilnpodaaGreatDoorRDAU
import Derived.Stop.RegionWithIn
import Derived.Test.YtepakfjilnpodaaGreatDoorRDAS
import Derived.Test.YtepakfjilnpodaaGreatDoorRDAR
namespace Go.Eng
open Go.RowKit
def gz:Value→Bool→Bool
 | .bool z,y=>z == y
 | _,_=>false
def GAt(ops:Array Oper)(a:CAct)(o:Oper)(b:Bool):Prop:=match o.guard with
 | none=>b=true
 | some (x,y)=>∃q d,ops[x]? = some q∧q.dst=some d∧b=gz (a.tmps.getD d undef) y
def GVB(ops:Array Oper)(val:Nat→Value)(o:Oper)(b:Bool):Prop:=match o.guard with
 | none=>b=true
 | some (x,y)=>(∃q d,ops[x]? = some q∧q.dst=some d)∧b=gz (val x) y
theorem GVB.one{ops:Array Oper}{val:Nat→Value}{o:Oper}{b c:Bool}(h:GVB ops val o b)(k:GVB ops val o c):b=c:=by
 unfold GVB at h k
 split at h
 ·rename_i hg
  rw [hg]at k
  simp only at k
  rw [h,k]
 ·rename_i x y hg
  rw [hg]at k
  simp only at k
  rw [h.2,k.2]
def GWS(K:World→Prop)(ks:List Nat)(P:Program)(ro:Option Nat)(ops:Array Oper)(bs bars:List Nat)(Q:CAct→World→Prop):List Nat→CAct→World→Prop
 | [],a,w=>Q a w
 | i :: r,a,w=>∃o,ops[i]? = some o∧((GAt ops a o false∧GWS K ks P ro ops bs bars Q r (a.put o.dst undef) w)∨GAt ops a o true ∧
   ((bars.contains i=true ∧
     ((∃f args,(execOp a.eval o).run P w = .ok (.enter f args) w∧CallsIn (Fz ro) 0 P f args w fun e w'=>∃v,e = .returned v∧((lastK bs ks ops.size i=true∧K w')∨Below w.heap.size w w')∧GWS K ks P ro ops bs bars Q r (a.put o.dst v) w') ∨
      (∃w' v,((execOp a.eval o).run P w = .ok (.value v) w'∨((execOp a.eval o).run P w = .ok .skip w'∧v=undef))∧((lastK bs ks ops.size i=true∧K w')∨Below w.heap.size w w')∧GWS K ks P ro ops bs bars Q r (a.put o.dst v) w'))) ∨
    (bars.contains i=false∧∃v,(∀w',(Below w.heap.size w w'∨(ks.contains i=true∧K w'))→(execOp a.eval o).run P w' = .ok (.value v) w')∧GWS K ks P ro ops bs bars Q r (a.put o.dst v) w)))
theorem gvb_upd{ops:Array Oper}{val:Nat→Value}{o:Oper}{b:Bool}{i:Nat}{v:Value}(h:∀x y,o.guard=some (x,y)→x≠i):GVB ops (upd val i v) o b↔GVB ops val o b:=by
 unfold GVB
 split
 ·exact Iff.rfl
 ·rename_i x y hg
  rw [upd_ne _ _ _ (h x y hg)]
section
variable {P:Program} {ops:Array Oper} {p:Plan}
structure CoreS(K:World→Prop)(ks:List Nat)(P:Program)(ro:Option Nat)(ops:Array Oper)(p:Plan)(bars:List Nat)(Q:CAct→World→Prop)(a:CAct)(ord done rest:List Nat)(val:Nat→Value)(g:CAct)(listed:Array Bool)(w:World):Prop where
 ord:done ++ rest=ord
 size:g.tmps.size=a.tmps.size
 defers:g.defers=a.defers
 gW:∀j∈done,∀o d,ops[j]? = some o→o.dst=some d→g.tmps.getD d undef=val j
 g0:∀t,(∀j∈done,∀o,ops[j]? = some o→o.dst≠some t)→g.tmps.getD t undef=a.tmps.getD t undef
 quiet:∀i∈done,¬Did listed i→∀o,ops[i]? = some o→GVB ops val o true→∀c:CAct,Agree ops p val a i o c→∀w',(Below w.heap.size w w'∨(ks.contains i=true∧K w'))→(execOp c.eval o).run P w' = .ok (.value (val i)) w'
 cont:GWS K ks P ro ops p.bs bars Q rest g w
 gd:∀i∈done,∀o,ops[i]? = some o→∃b,GVB ops val o b∧(b=false→val i=undef)
theorem core_agreeS{K:World→Prop}{ks:List Nat}{ro:Option Nat}{bars:List Nat}{Q:CAct→World→Prop}{a:CAct}{ord done r:List Nat}{i:Nat}{val:Nat→Value}{g:CAct}{listed:Array Bool}{w:World}(hp:PlanOK ops p)(hord:ordOk p.bs bars ord=true)(hall:∀i,i<ops.size→i∈ord)
  (hC:CoreS K ks P ro ops p bars Q a ord done (i :: r) val g listed w) {o:Oper} (ho:ops[i]? = some o):Agree ops p val a i o g:=by
 have hs:=hC.ord ▸ hord
 obtain⟨h1,h2⟩:=ord_split hs
 intro t ht
 refine⟨fun j q hj hq hd => ?_,fun hno => ?_⟩
 ·refine hC.gW j ?_ q t hq hd
  have hjo:j∈ord:=hall j (Array.getElem?_eq_some_iff.1 hq).1
  rw [←hC.ord]at hjo
  rcases List.mem_append.1 hjo with h|h
  ·exact h
  ·rcases List.mem_cons.1 h with rfl|h
   ·have:=mask_lt hp j o ho j hj;omega
   ·have:=(h1 j h).1;rw [hj]at this;cases this
 ·refine hC.g0 t fun j hj q hq hd => ?_
  rcases hp.reads i j o q t ho hq hd ht with rfl|hb|hb
  ·exact(h2 i hj).2.1 rfl
  ·exact hno j q hb hq hd
  ·have:=(h2 j hj).1;rw [hb]at this;cases this
theorem core_gvalS{K:World→Prop}{ks:List Nat}{ro:Option Nat}{bars:List Nat}{Q:CAct→World→Prop}{a:CAct}{ord done r:List Nat}{i:Nat}{val:Nat→Value}{g:CAct}{listed:Array Bool}{w:World}(hp:PlanOK ops p)(hord:ordOk p.bs bars ord=true)(hall:∀i,i<ops.size→i∈ord)
  (hC:CoreS K ks P ro ops p bars Q a ord done (i :: r) val g listed w) {o:Oper} (ho:ops[i]? = some o) {b:Bool} (hg:GAt ops g o b):GVB ops val o b:=by
 unfold GAt at hg
 unfold GVB
 split
 ·rename_i hx
  rw [hx]at hg
  exact hg
 rename_i x y hx
 rw [hx]at hg
 simp only at hg
 obtain⟨q,d,hq,hd,hv⟩:=hg
 refine⟨⟨q,d,hq,hd⟩,?_⟩
 have hb:=hp.guard i o x y ho hx
 have hs:=hC.ord ▸ hord
 obtain⟨h1,h2⟩:=ord_split hs
 have hxo:x∈ord:=hall x (Array.getElem?_eq_some_iff.1 hq).1
 rw [←hC.ord]at hxo
 have hxd:x∈done:=by
  rcases List.mem_append.1 hxo with h|h
  ·exact h
  ·rcases List.mem_cons.1 h with rfl|h
   ·have:=mask_lt hp x o ho x hb;omega
   ·have:=(h1 x h).1;rw [hb]at this;cases this
 rw [←hC.gW x hxd q d hq hd]
 exact hv
theorem core_putS{K:World→Prop}{ks:List Nat}{ro:Option Nat}{bars:List Nat}{Q:CAct→World→Prop}{a:CAct}{ord done r:List Nat}{i:Nat}{val:Nat→Value}{g:CAct}{listed listed':Array Bool}{w w':World}(hp:PlanOK ops p)(hord:ordOk p.bs bars ord=true)
  (hdst:∀o∈ops.toList,∀d,o.dst=some d→d<a.tmps.size)
  (hC:CoreS K ks P ro ops p bars Q a ord done (i :: r) val g listed w) {o:Oper} (ho:ops[i]? = some o) (v:Value) (hcont:GWS K ks P ro ops p.bs bars Q r (g.put o.dst v) w') (hgv:∃b,GVB ops val o b∧(b=false→v=undef))
  (hq:∀j∈done,¬Did listed' j→∀q,ops[j]? = some q→GVB ops val q true→∀c:CAct,Agree ops p val a j q c→∀w2,(Below w'.heap.size w' w2∨(ks.contains j=true∧K w2))→(execOp c.eval q).run P w2 = .ok (.value (val j)) w2)
  (hi:¬Did listed' i→GVB ops val o true→∀c:CAct,Agree ops p val a i o c→∀w2,(Below w'.heap.size w' w2∨(ks.contains i=true∧K w2))→(execOp c.eval o).run P w2 = .ok (.value v) w2) :
  CoreS K ks P ro ops p bars Q a ord (done ++ [i]) r (upd val i v) (g.put o.dst v) listed' w':=by
 have hs:=hC.ord ▸ hord
 obtain⟨h1,h2⟩:=ord_split hs
 have hom:o∈ops.toList:=List.mem_of_getElem? (by simpa using ho)
 have hagree:∀j q c,(bsAt p.bs j).testBit i=false→Agree ops p (upd val i v) a j q c→Agree ops p val a j q c:=by
  intro j q c hji hA t ht
  refine⟨fun k q' hk hq' hd => ?_,(hA t ht).2⟩
  have:=(hA t ht).1 k q' hk hq' hd
  rw [upd_ne _ _ _ (fun e=>by rw [e]at hk;rw [hk]at hji;cases hji)]at this
  exact this
 have hup:∀j q b,ops[j]? = some q→(bsAt p.bs j).testBit i=false→(GVB ops (upd val i v) q b↔GVB ops val q b):=by
  intro j q b hq' hji
  refine gvb_upd fun x y hx e => ?_
  have:=hp.guard j q x y hq' hx
  rw [e,hji]at this
  cases this
 have hii:(bsAt p.bs i).testBit i=false:=by
  cases e:(bsAt p.bs i).testBit i with
  | false=>rfl
  | true=>have:=mask_lt hp i o ho i e;omega
 refine⟨by rw [←hC.ord];simp,by rw [put_size];exact hC.size,by rw [put_defers];exact hC.defers,?_,?_,?_,hcont,?_⟩
 ·intro j hj q d hq' hd
  by_cases hji:j=i
  ·subst hji
   rw [ho]at hq';cases hq'
   rw [upd_same,hd,put_same (by rw [hC.size];exact hdst o hom d hd)]
  ·rw [upd_ne _ _ _ hji,put_other (fun e=>hji (hp.dsts j i q o d hq' ho hd e))]
   rcases List.mem_append.1 hj with h|h
   ·exact hC.gW j h q d hq' hd
   ·simp at h;exact absurd h hji
 ·intro t ht
  rw [put_other (ht i (by simp) o ho)]
  exact hC.g0 t fun j hj q hq'=>ht j (by simp [hj]) q hq'
 ·intro j hj hnd q hq' hgt
  rcases List.mem_append.1 hj with h|h
  ·have hji:=h2 j h
   rw [upd_ne _ _ _ hji.2.1]
   exact fun c hA=>hq j h hnd q hq' ((hup j q true hq' hji.1).1 hgt) c (hagree j q c hji.1 hA)
  ·have hji:j=i:=by simpa using h
   subst hji
   rw [ho]at hq';cases hq'
   rw [upd_same]
   exact fun c hA=>hi hnd ((hup j o true ho hii).1 hgt) c (hagree j o c hii hA)
 ·intro j hj q hq'
  rcases List.mem_append.1 hj with h|h
  ·have hji:=h2 j h
   obtain⟨b,k1,k2⟩:=hC.gd j h q hq'
   exact⟨b,(hup j q b hq' hji.1).2 k1,by rw [upd_ne _ _ _ hji.2.1];exact k2⟩
  ·have hji:j=i:=by simpa using h
   subst hji
   rw [ho]at hq';cases hq'
   obtain⟨b,k1,k2⟩:=hgv
   exact⟨b,(hup j o b ho hii).2 k1,by rw [upd_same];exact k2⟩
theorem core_advanceS{K:World→Prop}{ks:List Nat}{ro:Option Nat}{bars:List Nat}{Q:CAct→World→Prop}{a:CAct}{ord:List Nat}{listed:Array Bool}{w:World}(hp:PlanOK ops p)(hord:ordOk p.bs bars ord=true)(hall:∀i,i<ops.size→i∈ord)
  (hnosel:∀o∈ops.toList,∀cs b,o.op ≠ .select cs b) (hdst:∀o∈ops.toList,∀d,o.dst=some d→d<a.tmps.size) :
  ∀(rest done:List Nat) (val:Nat→Value) (g:CAct),CoreS K ks P ro ops p bars Q a ord done rest val g listed w →
   ∃done' rest' val' g',CoreS K ks P ro ops p bars Q a ord done' rest' val' g' listed w∧(∀e r,rest'=e :: r→e∈bars)∧(∀j,j∈done→j∈done'∧val' j=val j)
 | [],done,val,g,hC=>⟨done,[],val,g,hC,fun e r h=>(by cases h),fun j hj=>⟨hj,rfl⟩⟩
 | i :: r,done,val,g,hC=>by
  obtain⟨o,ho,hgo⟩:=hC.cont
  have hs:=hC.ord ▸ hord
  obtain⟨h1,h2⟩:=ord_split hs
  have hom:o∈ops.toList:=List.mem_of_getElem? (by simpa using ho)
  have go:∀v,CoreS K ks P ro ops p bars Q a ord (done ++ [i]) r (upd val i v) (g.put o.dst v) listed w→∃done' rest' val' g',CoreS K ks P ro ops p bars Q a ord done' rest' val' g' listed w∧(∀e r,rest'=e :: r→e∈bars)∧(∀j,j∈done→j∈done'∧val' j=val j):=by
   intro v hC'
   obtain⟨done',rest',val',g',k1,k2,k3⟩:=core_advanceS hp hord hall hnosel hdst r (done ++ [i]) _ _ hC'
   refine⟨done',rest',val',g',k1,k2,fun j hj => ?_⟩
   obtain⟨h3,h4⟩:=k3 j (by simp [hj])
   refine⟨h3,?_⟩
   rw [h4,upd_ne _ _ _ (h2 j hj).2.1]
  rcases hgo with⟨hgf,hcont⟩|⟨hgt,hh⟩
  ·have hgv:=core_gvalS hp hord hall hC ho hgf
   exact go undef (core_putS hp hord hdst hC ho undef hcont ⟨false,hgv,fun _=>rfl⟩ hC.quiet (listed':=listed) (fun _ h=>by have:=h.one hgv;cases this))
  ·rcases hh with⟨hb,hh⟩|⟨hb,v,hv,hcont⟩
   ·exact⟨done,i :: r,val,g,hC,fun e r' h=>by injection h with h1 h2;subst h1;simpa using hb,fun j hj=>⟨hj,rfl⟩⟩
   ·have hA:=core_agreeS hp hord hall hC ho
    have hgv:=core_gvalS hp hord hall hC ho hgt
    exact go v (core_putS hp hord hdst hC ho v hcont ⟨true,hgv,fun h=>by cases h⟩ hC.quiet (listed':=listed) (fun _ _ c hAc w2 hb2=>by
     rw [execOp_congr o (hnosel o hom) (hAc.eval hA)];exact hv w2 hb2))
structure EInvS(K:World→Prop)(ks:List Nat)(P:Program)(ro:Option Nat)(ops:Array Oper)(p:Plan)(bars:List Nat)(Q:CAct→World→Prop)(a:CAct)(ord done rest:List Nat)(val:Nat→Value)(g:CAct)(listed:Array Bool)(c:CAct)(w:World):Prop where
 core:CoreS K ks P ro ops p bars Q a ord done rest val g listed w
 kw:K w
 head:∀e r,rest=e :: r→e∈bars
 lsize:listed.size=ops.size
 closed:∀i j,Did listed i→(bsAt p.bs i).testBit j=true→Did listed j
 sub:∀j,Did listed j→j∈done
 cdefers:c.defers=a.defers
 csize:c.tmps.size=a.tmps.size
 cW:∀j o d,Did listed j→ops[j]? = some o→o.dst=some d→c.tmps.getD d undef=val j
 c0:∀t,(∀j o,Did listed j→ops[j]? = some o→o.dst≠some t)→c.tmps.getD t undef=a.tmps.getD t undef
theorem gws_any{K:World→Prop}{ks:List Nat}(hKB:∀w w',K w→Below w.heap.size w w'→K w')(hp:PlanOK ops p){bars ord:List Nat}(hord:ordOk p.bs bars ord=true)(hall:∀i,i<ops.size→i∈ord)(hlt:∀i∈ord,i<ops.size)(hpl:∀o∈ops.toList,plainG o=true){a:CAct}{ro:Option Nat}{Q:Exit→CAct→World→Prop}
  (hdst:∀o∈ops.toList,∀d,o.dst=some d→d<a.tmps.size) :
  ∀(fuel:Nat) (done rest:List Nat) (val:Nat→Value) (g:CAct) (listed:Array Bool) (c:CAct) (w:World),EInvS K ks P ro ops p bars (fun a' w'=>Q .normal a' w') a ord done rest val g listed c w→cntF (fun i=>listed.getD i false) ops.size≤fuel→wpAnyIn (Fz ro) 0 P .any ops Q fuel listed c w:=by
 have hnosel:∀o∈ops.toList,∀cs b,o.op ≠ .select cs b:=by
  intro o ho cs b e
  have:=hpl o ho
  unfold plainG at this
  rw [e]at this
  cases this
 have fin:∀{done rest val g listed c w},EInvS K ks P ro ops p bars (fun a' w'=>Q .normal a' w') a ord done rest val g listed c w→Region.ready .any ops listed = []→Q .normal c w:=by
  intro done rest val g listed c w hI hr
  have hdid:=ready_nil hp hI.lsize hr
  have hrest:rest = []:=by
   cases hre:rest with
   | nil=>rfl
   | cons e r=>
    exfalso
    have hC:=hI.core
    rw [hre]at hC
    have heo:e∈ord:=by rw [←hC.ord];simp
    have hs:=hC.ord ▸ hord
    have:=(ord_split hs).2 e (hI.sub e (hdid e (hlt e heo)))
    exact this.2.1 rfl
  subst hrest
  have hQ:=hI.core.cont
  have hcg:c=g:=by
   refine act_ext (by rw [hI.csize,hI.core.size]) (fun t ht => ?_) (by rw [hI.cdefers,hI.core.defers])
   by_cases hw:∃(j:Nat) (o:Oper),ops[j]? = some o∧o.dst=some t
   ·obtain⟨j,o,ho,hod⟩:=hw
    have hj:=hdid j (Array.getElem?_eq_some_iff.1 ho).1
    rw [hI.cW j o t hj ho hod,hI.core.gW j (hI.sub j hj) o t ho hod]
   ·rw [hI.c0 t (fun j o _ ho hod=>hw ⟨j,o,ho,hod⟩),hI.core.g0 t (fun j _ o ho hod=>hw ⟨j,o,ho,hod⟩)]
  rw [hcg]
  exact hQ
 intro fuel
 induction fuel with
 | zero=>
  intro done rest val g listed c w hI hcnt
  have hz:cntF (fun i=>listed.getD i false) ops.size=0:=by omega
  have hal:=cntF_zero hz
  have hr:Region.ready .any ops listed = []:=by
   cases hq:Region.ready .any ops listed with
   | nil=>rfl
   | cons i r=>
    have:=ready_spec hI.lsize (i:=i) (by rw [hq];simp)
    exact absurd (hal i this.1) this.2.1
  exact⟨hr,fin hI hr⟩
 | succ fuel ih=>
  intro done rest val g listed c w hI hcnt
  refine⟨fin hI,?_⟩
  intro i hi
  obtain⟨hin,hnd,o,ho,hedges⟩:=ready_spec hI.lsize hi
  have hready:=mask_did hp hI.closed ho hedges
  have hol:ops.toList[i]? = some o:=by simpa using ho
  have hom:o∈ops.toList:=List.mem_of_getElem? hol
  have hilt:i<listed.size:=by rw [hI.lsize];exact hin
  have hcnt':cntF (fun j=>(listed.setIfInBounds i true).getD j false) ops.size≤fuel:=by
   have:=cntF_set (f:=fun j=>listed.getD j false) (g:=fun j=>(listed.setIfInBounds i true).getD j false) (i:=i) hnd (did_set_new hilt) (by
    intro j hj
    simp [Array.getD_eq_getD_getElem?,Ne.symm hj]) hin
   omega
  have hplo:=hpl o hom
  have hop:=hplo
  unfold plainG at hop
  have hnodef:∀q,o.op ≠ .defer q:=by intro q e;rw [e]at hop;cases hop
  have hwantOf:∀b,GVB ops val o b→Region.wanted o (yielded ops c.tmps)=b:=fun b hgv=>by
   unfold GVB at hgv
   unfold Region.wanted
   cases hg:o.guard with
   | none=>rw [hg]at hgv;exact hgv.symm
   | some xy=>
    obtain⟨x,y⟩:=xy
    rw [hg]at hgv
    simp only at hgv
    obtain⟨⟨q,d,hq,hd⟩,hz⟩:=hgv
    have hcv:=hI.cW x q d (hready x (hp.guard i o x y ho hg)) hq hd
    show(yielded ops c.tmps x == some y)=b
    rw [hz,←hcv]
    unfold yielded
    rw [hq]
    simp only [Option.bind_some,hd]
    rw [Array.getD_eq_getD_getElem?]
    cases c.tmps[d]? with
    | none=>rfl
    | some v=>
     cases v with
     | bool z=>cases z <;> cases y <;> rfl
     | _=>rfl
  have hclosed':∀x j,Did (listed.setIfInBounds i true) x→(bsAt p.bs x).testBit j=true→Did (listed.setIfInBounds i true) j:=by
   intro x j hx hj
   rcases did_set hx with rfl|hx
   ·exact did_set_old (hready j hj)
   ·exact did_set_old (hI.closed x j hx hj)
  have hcA:Agree ops p val a i o c:=by
   intro t ht
   refine⟨fun j q hj hq hd=>hI.cW j q t (hready j hj) hq hd,fun hno => ?_⟩
   refine hI.c0 t fun j q hj hq hd => ?_
   rcases hp.reads i j o q t ho hq hd ht with rfl|hb|hb
   ·exact hnd hj
   ·exact hno j q hb hq hd
   ·exact hnd (hI.closed j i hj hb)
  have hput:∀(val':Nat→Value) (v:Value),(∀j,Did listed j→val' j=val j)→val' i=v →
    (c.put o.dst v).defers=a.defers∧(c.put o.dst v).tmps.size=a.tmps.size ∧
    (∀j q d,Did (listed.setIfInBounds i true) j→ops[j]? = some q→q.dst=some d→(c.put o.dst v).tmps.getD d undef=val' j) ∧
    (∀t,(∀j q,Did (listed.setIfInBounds i true) j→ops[j]? = some q→q.dst≠some t)→(c.put o.dst v).tmps.getD t undef=a.tmps.getD t undef):=by
   intro val' v hold hnew
   refine⟨by rw [put_defers];exact hI.cdefers,by rw [put_size];exact hI.csize,?_,?_⟩
   ·intro j q d hj hq hd
    by_cases hji:j=i
    ·subst hji
     rw [ho]at hq;cases hq
     rw [hd,put_same (by rw [hI.csize];exact hdst o hom d hd),hnew]
    ·rcases did_set hj with e|hj
     ·exact absurd e hji
     ·rw [put_other (fun e=>hji (hp.dsts j i q o d hq ho hd e)),hold j hj]
      exact hI.cW j q d hj hq hd
   ·intro t ht
    rw [put_other (ht i o (did_set_new hilt) ho)]
    exact hI.c0 t (fun j q hj hq=>ht j q (did_set_old hj) hq)
  by_cases hid:i∈done
  ·
   obtain⟨b,hgv,hgf⟩:=hI.core.gd i hid o ho
   obtain⟨e1,e2,e3,e4⟩:=hput val (val i) (fun _ _=>rfl) rfl
   have hnext:EInvS K ks P ro ops p bars (fun a' w'=>Q .normal a' w') a ord done rest val g (listed.setIfInBounds i true) (c.put o.dst (val i)) w:=
    ⟨⟨hI.core.ord,hI.core.size,hI.core.defers,hI.core.gW,hI.core.g0,fun j hj hnj=>hI.core.quiet j hj (fun h=>hnj (did_set_old h)),hI.core.cont,hI.core.gd⟩,hI.kw,hI.head,by simp [hI.lsize],hclosed',
     fun j hj=>(did_set hj).elim (fun e=>e ▸ hid) (fun hj=>hI.sub j hj),e1,e2,e3,e4⟩
   have hrest:=ih _ _ _ _ _ _ _ hnext hcnt'
   simp only [wpOpIn,ho]
   cases b with
   | true=>
    have hrun:=hI.core.quiet i hid hnd o ho hgv c hcA w (.inl (Below.refl _ _))
    rw [if_pos (hwantOf true hgv)]
    refine⟨fun f _=>Fz_fn ro f,?_⟩
    rw [Oper.semAt_eq _ _ _ hnodef,hrun]
    exact hrest
   | false=>
    rw [if_neg (by rw [hwantOf false hgv];simp)]
    rw [hgf rfl]at hrest
    exact⟨fun f _=>Fz_fn ro f,hrest⟩
  ·
   have hio:i∈ord:=hall i hin
   rw [←hI.core.ord]at hio
   have hir:i∈rest:=by
    rcases List.mem_append.1 hio with h|h
    ·exact absurd h hid
    ·exact h
   obtain⟨e,r,hre⟩:∃e r,rest=e :: r:=by
    cases hrest:rest with
    | nil=>rw [hrest]at hir;cases hir
    | cons e r=>exact⟨e,r,rfl⟩
   have heb:=hI.head e r hre
   subst hre
   have hs:=hI.core.ord ▸ hord
   obtain⟨h1,h2⟩:=ord_split hs
   have hie:i=e:=by
    rcases List.mem_cons.1 hir with h|h
    ·exact h
    ·exfalso
     have hm:=(h1 i h).2.2 heb
     exact(h2 e (hI.sub e (hready e hm))).2.1 rfl
   subst hie
   obtain⟨o',ho',hgo⟩:=hI.core.cont
   rw [ho]at ho'
   have ho':=Option.some.inj ho'
   subst ho'
   have hgA:=core_agreeS hp hord hall hI.core ho
   have hexec:=execOp_congr o (hnosel o hom) (hcA.eval hgA)
   have hcontb:bars.contains i=true:=by simpa using heb
   have after:∀(v:Value) (w':World),(∃b,GVB ops val o b∧(b=false→v=undef))→((lastK p.bs ks ops.size i=true∧K w')∨Below w.heap.size w w')→GWS K ks P ro ops p.bs bars (fun a' w'=>Q .normal a' w') r (g.put o.dst v) w'→wpAnyIn (Fz ro) 0 P .any ops Q fuel (listed.setIfInBounds i true) (c.put o.dst v) w':=by
    intro v w' hgv' hB hcont
    have hC':CoreS K ks P ro ops p bars (fun a' w'=>Q .normal a' w') a ord (done ++ [i]) r (upd val i v) (g.put o.dst v) (listed.setIfInBounds i true) w':=by
     refine core_putS hp hord hdst hI.core ho v hcont hgv' (fun j hj hnj q hq => ?_) (fun h=>absurd (did_set_new hilt) h)
     intro hgj
     have h4:=hI.core.quiet j hj (fun h=>hnj (did_set_old h)) q hq hgj
     rcases hB with⟨hr,hKw⟩|hB
     ·
      have hjl:j<ops.size:=(Array.getElem?_eq_some_iff.1 hq).1
      unfold lastK at hr
      rw [List.all_eq_true]at hr
      have:=hr j (List.mem_range.2 hjl)
      rw [Bool.or_eq_true,Bool.or_eq_true,Bool.or_eq_true]at this
      rcases this with h|(h|h)|h
      ·exact absurd (Nat.eq_of_beq_eq_true h) (fun e=>hid (e ▸ hj))
      ·exact absurd (did_set_old (hready j h)) hnj
      ·rw [(h2 j hj).1]at h;cases h
      ·exact fun c' hA w2 hb2=>h4 c' hA w2 (.inr ⟨h,hb2.elim (fun q=>hKB _ _ hKw q) (fun q=>q.2)⟩)
     ·exact fun c' hA w2 hb2=>h4 c' hA w2 (hb2.imp (fun q=>hB.trans (q.mono hB.size)) id)
    obtain⟨done',rest',val',g',k1,k2,k3⟩:=core_advanceS hp hord hall hnosel hdst r _ _ _ hC'
    obtain⟨e1,e2,e3,e4⟩:=hput val' v (fun j hj=>by
      rw [(k3 j (by simp [hI.sub j hj])).2,upd_ne _ _ _ (fun e:j=i=>hnd (e ▸ hj))]) (by rw [(k3 i (by simp)).2,upd_same])
    refine ih done' rest' val' g' _ _ _ ⟨k1,hB.elim (fun q=>q.2) (fun q=>hKB _ _ hI.kw q),k2,by simp [hI.lsize],hclosed',fun j hj => ?_,e1,e2,e3,e4⟩ hcnt'
    rcases did_set hj with rfl|hj
    ·exact(k3 j (by simp)).1
    ·exact(k3 j (by simp [hI.sub j hj])).1
   simp only [wpOpIn,ho]
   rcases hgo with⟨hgf,hcont⟩|⟨hgt,hh⟩
   ·have hgv:=core_gvalS hp hord hall hI.core ho hgf
    rw [if_neg (by rw [hwantOf false hgv];simp)]
    exact⟨fun f _=>Fz_fn ro f,after undef w ⟨false,hgv,fun _=>rfl⟩ (.inr (Below.refl _ _)) hcont⟩
   have hgv:=core_gvalS hp hord hall hI.core ho hgt
   have hgv2:∀v:Value,∃b,GVB ops val o b∧(b=false→v=undef):=fun v=>⟨true,hgv,fun h=>by cases h⟩
   rw [if_pos (hwantOf true hgv)]
   refine⟨fun f _=>Fz_fn ro f,?_⟩
   rw [Oper.semAt_eq _ _ _ hnodef,hexec]
   rcases hh with⟨_,hh⟩|⟨hb,_⟩
   ·rcases hh with⟨f,args,hrun,hcalls⟩|⟨w',v,hrun,hB,hcont⟩
    ·rw [hrun]
     refine⟨fun h=>absurd (Fz_depth ro h) (by omega),?_⟩
     refine CallsIn.mono hcalls ?_
     rintro e w' ⟨v,rfl,hB,hcont⟩
     exact after v w' (hgv2 v) hB hcont
    ·rcases hrun with hrun|⟨hrun,rfl⟩
     ·rw [hrun];exact after v w' (hgv2 v) hB hcont
     ·rw [hrun];exact after undef w' (hgv2 undef) hB hcont
   ·rw [hcontb]at hb;cases hb
theorem wpIn_region_gws{K:World→Prop}(ks:List Nat)(hKB:∀w w',K w→Below w.heap.size w w'→K w'){id:Nat}{l:List Oper}(bars ord:List Nat)(bs:List Nat){a:CAct}{w:World}{ro:Option Nat}{Q:Exit→CAct→World→Prop}(hm:P.follows .mixedOrders=true)
  (nt:Nat) (hnt:a.tmps.size=nt) (hc:ordCheckG l bars ord nt=true) (hbs:masks l []=bs) (hK:K w.drew) (h:GWS K ks P ro l.toArray bs bars (fun a' w'=>Q .normal a' w') ord a w.drew):(Code.region id l.toArray true).wpIn (Fz ro) 0 P Q a w:=by
 subst hnt
 unfold ordCheckG at hc
 split at hc
 ·cases hc
 ·rename_i p hplan
  have hp:=plan_ok hplan
  have hpbs:p.bs=bs:=by
   have h2:=hplan
   unfold planOf at h2
   simp only [Bool.cond_eq_ite]at h2
   split at h2
   ·injection h2 with h2;rw [←h2];exact hbs
   ·cases h2
  subst hpbs
  simp only [Bool.and_eq_true,List.all_eq_true]at hc
  obtain⟨⟨⟨⟨h1,h2⟩,h3⟩,h4⟩,h5⟩:=hc
  have hall:∀i,i<l.toArray.size→i∈ord:=fun i hi=>by simpa using h2 i (List.mem_range.2 (by simpa using hi))
  have hlt:∀i∈ord,i<l.toArray.size:=fun i hi=>by simpa using (blt_iff _ _).1 (h3 i hi)
  have hpl:∀o∈l.toArray.toList,plainG o=true:=by simpa using h4
  have hdst:∀o∈l.toArray.toList,∀d,o.dst=some d→d<a.tmps.size:=fun o ho d hd=>by
   have:=h5 o (by simpa using ho)
   rw [hd]at this
   exact(blt_iff _ _).1 this
  have hno:∀i,¬Did (Array.replicate l.toArray.size false) i:=by
   intro i hi
   unfold Did at hi
   rw [Array.getD_eq_getD_getElem?,Array.getElem?_replicate]at hi
   split at hi <;> simp at hi
  have hnosel:∀o∈l.toArray.toList,∀cs b,o.op ≠ .select cs b:=by
   intro o ho cs b e
   have:=hpl o ho
   unfold plainG at this
   rw [e]at this
   cases this
  have hC:CoreS K ks P ro l.toArray p bars (fun a' w'=>Q .normal a' w') a ord [] ord (fun _=>undef) a (Array.replicate l.toArray.size false) w.drew:=
   ⟨rfl,rfl,rfl,fun j hj=>(by cases hj),fun _ _=>rfl,fun j hj=>(by cases hj),h,fun j hj=>(by cases hj)⟩
  obtain⟨done',rest',val',g',k1,k2,k3⟩:=core_advanceS hp h1 hall hnosel hdst ord [] _ _ hC
  refine wpIn_region_any hm (gws_any hKB hp h1 hall hlt hpl hdst _ done' rest' val' g' _ _ _ ⟨k1,hK,k2,by simp,fun i j hi=>absurd hi (hno i),fun j hj=>absurd hj (hno j),rfl,rfl,fun j o d hj=>absurd hj (hno j),fun _ _=>rfl⟩ ?_)
  have:∀(f:Nat→Bool) n,cntF f n≤n:=by
   intro f n
   induction n with
   | zero=>exact Nat.le_refl _
   | succ n ih=>simp only [cntF];split <;> omega
  exact this _ _
end
end Go.Eng
namespace Go.Eng
open Go.RowKit Go.Num Go.Proofs Go.Proofs.YtepakfjilnpodaaGreatDoor
def GS(K:World→Prop)(ks:List Nat)(P:Program)(nt:Nat)(ops:Array Oper)(bs bars:List Nat)(Q:CAct→World→Prop)(r:List Nat)(a:CAct)(ov:List (Tmp × Value))(w:World):Prop:=
 a.tmps.size=nt→keysOk nt ov→GWS K ks P none ops bs bars Q r (putAll a ov) w
def GSt(ops:Array Oper)(a:CAct)(ov:List (Tmp × Value))(b:Bool):Option (Nat × Bool)→Prop
 | none=>b=true
 | some (x,y)=>∃q d z,ops[x]? = some q∧q.dst=some d∧lookO a ov d = .bool z∧b=(z == y)
section
variable {K:World→Prop} {ks:List Nat} {P:Program} {nt:Nat} {ops:Array Oper} {bs bars r:List Nat} {i:Nat} {a:CAct} {ov:List (Tmp × Value)} {w:World} {Q:CAct→World→Prop} {o:Oper} {gd:Option (Nat × Bool)}
theorem gat_of(hk:keysOk a.tmps.size ov){b:Bool}(h:GSt ops a ov b o.guard):GAt ops (putAll a ov) o b:=by
 unfold GSt at h
 unfold GAt
 split
 ·rename_i hg
  rw [hg]at h
  exact h
 ·rename_i x y hg
  rw [hg]at h
  simp only at h
  obtain⟨q,d,z,h1,h2,h3,h4⟩:=h
  exact⟨q,d,h1,h2,by rw [putAll_tmp a ov hk,h3,h4];rfl⟩
theorem GS.skip{d:Tmp}(ho:ops[i]? = some o)(hdst:o.dst=some d)(hd:Nat.blt d nt=true)(hg:GSt ops a ov false o.guard)(h:GS K ks P nt ops bs bars Q r a ((d,undef) :: ov) w):GS K ks P nt ops bs bars Q (i :: r) a ov w:=by
 intro hn hk
 refine⟨o,ho,.inl ⟨gat_of (by rw [hn];exact hk) hg,?_⟩⟩
 rw [hdst]
 exact h hn (hk.cons hd)
theorem GS.skipU{d e:Tmp}{x:Nat}{y:Bool}{q:Oper}(ho:ops[i]? = some o)(hdst:o.dst=some d)(hd:Nat.blt d nt=true)(hg:o.guard=some (x,y))(hq:ops[x]? = some q)(he:q.dst=some e)(hu:lookO a ov e=undef)(h:GS K ks P nt ops bs bars Q r a ((d,undef) :: ov) w):GS K ks P nt ops bs bars Q (i :: r) a ov w:=by
 intro hn hk
 refine⟨o,ho,.inl ⟨?_,?_⟩⟩
 ·unfold GAt
  rw [hg]
  exact⟨q,e,hq,he,by rw [putAll_tmp a ov (by rw [hn];exact hk),hu];rfl⟩
 ·rw [hdst]
  exact h hn (hk.cons hd)
theorem GS.read{d:Tmp}(v:Value)(ho:ops[i]? = some o)(hg:GSt ops a ov true o.guard)(hdst:o.dst=some d)(hb:bars.contains i=false)(hd:Nat.blt d nt=true)
  (hrun:∀w',(Below w.heap.size w w'∨(ks.contains i=true∧K w'))→(execOp (look a ov) o).run P w' = .ok (.value v) w') (h:GS K ks P nt ops bs bars Q r a ((d,v) :: ov) w):GS K ks P nt ops bs bars Q (i :: r) a ov w:=by
 intro hn hk
 refine⟨o,ho,.inr ⟨gat_of (by rw [hn];exact hk) hg,.inr ⟨hb,v,fun w' hw' => ?_,?_⟩⟩⟩
 ·rw [putAll_eval a ov (by rw [hn];exact hk)];exact hrun w' hw'
 ·rw [hdst];exact h hn (hk.cons hd)
theorem GS.mv{x:Operand}{v:Value}{d:Tmp}{ty:TypeId}{ps:String}{af:Array Edge}(ho:ops[i]? = some {op:=.move x,dst:=some d,type:=ty,pos:=ps,after:=af,guard:=gd})(hg:GSt ops a ov true gd)(hb:bars.contains i=false)(hd:Nat.blt d nt=true)
  (hx:look a ov x=v) (h:GS K ks P nt ops bs bars Q r a ((d,v) :: ov) w):GS K ks P nt ops bs bars Q (i :: r) a ov w:=
 GS.read v ho hg rfl hb hd (fun w' _=>by subst hx;rfl) h
theorem GS.pick{c x y:Operand}{b:Bool}{v:Value}{d:Tmp}{ty:TypeId}{ps:String}{af:Array Edge}(hc:look a ov c = .bool b)(hx:look a ov (bif b then x else y)=v)(ho:ops[i]? = some {op:=.pick c x y,dst:=some d,type:=ty,pos:=ps,after:=af,guard:=gd})(hg:GSt ops a ov true gd)(hb:bars.contains i=false)(hd:Nat.blt d nt=true)
  (h:GS K ks P nt ops bs bars Q r a ((d,v) :: ov) w):GS K ks P nt ops bs bars Q (i :: r) a ov w:=
 GS.read v ho hg rfl hb hd (fun w' _=>by
  subst hx
  cases b <;> simp [execOp,hc,go_sem]) h
theorem GS.neq{t t2:TypeId}{x y:Operand}{p q:Int}{b:Bool}{d:Tmp}{ty:TypeId}{ps:String}{af:Array Edge}(hpq:decide (p≠q)=b)
  (ho:ops[i]? = some {op:=.binOp .neq t x y t2,dst:=some d,type:=ty,pos:=ps,after:=af,guard:=gd}) (hg:GSt ops a ov true gd) (hb:bars.contains i=false) (hd:Nat.blt d nt=true)
  (hx:look a ov x = .int .i64 p) (hy:look a ov y = .int .i64 q) (h:GS K ks Tryz.prog nt ops bs bars Q r a ((d,.bool b) :: ov) w):GS K ks Tryz.prog nt ops bs bars Q (i :: r) a ov w:=
 GS.read _ ho hg rfl hb hd (fun w' _=>by
  rw [←hpq]
  simp [execOp,hx,hy,binOp,eqGuard,Op.intCmp,Sem.run_pure,go_sem]
  rfl) h
theorem GS.ldn{t:TypeId}{x:Operand}{p:Addr}{n:Nat}(cs:List Value){d:Tmp}{ty:TypeId}{ps:String}{af:Array Edge}(hL:LoadMany P t n)(hc:∀j v,cs[j]? = some v→w.cell? (p.add j)=some v)(hks:ks.contains i=false)(ho:ops[i]? = some {op:=.load t x,dst:=some d,type:=ty,pos:=ps,after:=af,guard:=gd})(hg:GSt ops a ov true gd)(hb:bars.contains i=false)(hd:Nat.blt d nt=true)
  (hn:cs.length=n) (h0:0<n) (hx:look a ov x = .pointer (some p)) (h:GS K ks P nt ops bs bars Q r a ((d,.agg cs.toArray) :: ov) w):GS K ks P nt ops bs bars Q (i :: r) a ov w:=
 GS.read _ ho hg rfl hb hd (fun w' hb'=>by
  rcases hb' with hb'|⟨q,_⟩
  ·have hp:p.block<w.heap.size:=by
    have:=World.block_lt_of_cell? _ _ (hc 0 _ (List.getElem?_eq_getElem (by omega)))
    rwa [add_block]at this
   have h1:=hL p cs w' hn (fun j v hj=>(hb'.cell (p:=p.add j) (by rw [add_block];exact hp)).trans (hc j v hj))
   simp [execOp,hx,h1]
  ·rw [hks]at q;cases q) h
theorem GS.call{f:FuncId}{fn:Func}{xs:Array Operand}{ts:Array TypeId}(args:List Value){d:Tmp}{ty:TypeId}{ps:String}{af:Array Edge}{R:Value→World→Prop}{f':FuncId}(hfn:P.funcs[f]? = some fn)(hbody:fn.body.isSome=true)(hN:NamesOK P)
  (ho:ops[i]? = some {op:=.call {callee:=.value (.func f),args:=xs,argTypes:=ts},dst:=some d,type:=ty,pos:=ps,after:=af,guard:=gd}) (hg:GSt ops a ov true gd) (hb:bars.contains i=true) (hd:Nat.blt d nt=true)
  (ha:xs.toList.map (look a ov)=args) (hf:f=f') (hcall:CallsIn Fence.wide 0 P f' args.toArray w fun e w'=>∃v,e = .returned v∧R v w'∧Below w.heap.size w w')
  (h:∀v w',R v w'→Below w.heap.size w w'→GS K ks P nt ops bs bars Q r a ((d,v) :: ov) w'):GS K ks P nt ops bs bars Q (i :: r) a ov w:=by
 intro hn hk
 subst hf
 have hk':keysOk a.tmps.size ov:=by rw [hn];exact hk
 refine⟨_,ho,.inr ⟨gat_of hk' hg,.inl ⟨hb,.inl ⟨f,args.toArray,?_,hcall.mono ?_⟩⟩⟩⟩
 ·have ha':xs.map (putAll a ov).eval=args.toArray:=by rw [putAll_eval a ov hk'];subst ha;apply Array.ext';rw [Array.toList_map]
  rw [←ha']
  have hbn:fn.body≠none:=by intro q;rw [q]at hbody;simp at hbody
  have hev:(putAll a ov).eval (.func f) = .func (.func f) #[] #[]:=rfl
  unfold execOp
  simp only [resolve,hev,Deferred.ofValue,Sem.run_bind,Sem.run_pure,Result.andThen_ok,invoke,callFunc,run_program,hfn,hN f fn hfn hbody,Bool.false_eq_true,if_false]
  have:fn.body.isNone=false:=by cases hq:fn.body <;> simp_all
  rw [this]
  simp
 ·rintro e w' ⟨v,rfl,hR,hB⟩
  exact⟨v,rfl,.inr hB,h v w' hR hB hn (hk.cons hd)⟩
theorem GS.gtr{t t2:TypeId}{x y:Operand}{p q:Int}{b:Bool}{d:Tmp}{ty:TypeId}{ps:String}{af:Array Edge}(hpq:decide (p>q)=b)
  (ho:ops[i]? = some {op:=.binOp .gtr t x y t2,dst:=some d,type:=ty,pos:=ps,after:=af,guard:=gd}) (hg:GSt ops a ov true gd) (hb:bars.contains i=false) (hd:Nat.blt d nt=true)
  (hx:look a ov x = .int .i64 p) (hy:look a ov y = .int .i64 q) (h:GS K ks Tryz.prog nt ops bs bars Q r a ((d,.bool b) :: ov) w):GS K ks Tryz.prog nt ops bs bars Q (i :: r) a ov w:=
 GS.read _ ho hg rfl hb hd (fun w' _=>by
  rw [←hpq]
  simp [execOp,hx,hy,binOp,eqGuard,Op.intCmp,Sem.run_pure,go_sem]) h
theorem GS.eql{t t2:TypeId}{x y:Operand}{p q:Int}{b:Bool}{d:Tmp}{ty:TypeId}{ps:String}{af:Array Edge}(hpq:decide (p=q)=b)
  (ho:ops[i]? = some {op:=.binOp .eql t x y t2,dst:=some d,type:=ty,pos:=ps,after:=af,guard:=gd}) (hg:GSt ops a ov true gd) (hb:bars.contains i=false) (hd:Nat.blt d nt=true)
  (hx:look a ov x = .int .i64 p) (hy:look a ov y = .int .i64 q) (h:GS K ks Tryz.prog nt ops bs bars Q r a ((d,.bool b) :: ov) w):GS K ks Tryz.prog nt ops bs bars Q (i :: r) a ov w:=
 GS.read _ ho hg rfl hb hd (fun w' _=>by
  rw [←hpq]
  simp [execOp,hx,hy,binOp,eqGuard,Op.intCmp,Sem.run_pure,go_sem]
  rfl) h
theorem GS.ld1{t:TypeId}{x:Operand}{p:Addr}{v:Value}{d:Tmp}{ty:TypeId}{ps:String}{af:Array Edge}(hL:LoadOne Tryz.prog t)(hc:w.cell? p=some v)(hks:ks.contains i=false)(ho:ops[i]? = some {op:=.load t x,dst:=some d,type:=ty,pos:=ps,after:=af,guard:=gd})(hg:GSt ops a ov true gd)(hb:bars.contains i=false)(hd:Nat.blt d nt=true)
  (hx:look a ov x = .pointer (some p)) (h:GS K ks Tryz.prog nt ops bs bars Q r a ((d,v) :: ov) w):GS K ks Tryz.prog nt ops bs bars Q (i :: r) a ov w:=
 GS.read _ ho hg rfl hb hd (fun w' hb'=>by
  rcases hb' with hb'|⟨q,_⟩
  ·have h1:=hL p v w' ((hb'.cell (World.block_lt_of_cell? _ _ hc)).trans hc)
   simp [execOp,hx,h1]
  ·rw [hks]at q;cases q) h
theorem GS.done(h:Q (putAll a ov) w):GS K ks P nt ops bs bars Q [] a ov w:=fun _ _=>h
theorem wpIn_region_gs{id:Nat}{l:List Oper}(bars ord:List Nat)(bs:List Nat){a:CAct}{w:World}{ro:Option Nat}{Q:Exit→CAct→World→Prop}(hm:P.follows .mixedOrders=true)(hro:ro=none)
  (nt:Nat) (hnt:a.tmps.size=nt) (hc:ordCheckG l bars ord nt=true) (hbs:masks l []=bs) (h:GS (fun _=>True) [] P nt l.toArray bs bars (fun a' w'=>Q .normal a' w') ord a [] w.drew):(Code.region id l.toArray true).wpIn (Fz ro) 0 P Q a w:=by
 subst hro
 exact wpIn_region_gws [] (fun _ _ _ _=>trivial) bars ord bs hm nt hnt hc hbs trivial (h hnt (fun p hp=>by cases hp))
end
end Go.Eng
namespace Go.Num
open Go.Eng Go.Shelf Go.RowKit Go.Sort Go.Proofs Go.Proofs.YtepakfjilnpodaaGreatDoor
end Go.Num
namespace Go.Num
open Go.Eng Go.Shelf Go.RowKit Go.Sort Go.Proofs Go.Proofs.YtepakfjilnpodaaGreatDoor
end Go.Num
namespace Go.Num
open Go.Eng Go.Shelf Go.RowKit Go.Sort Go.Proofs Go.Proofs.YtepakfjilnpodaaGreatDoor
end Go.Num
namespace Go.Num
open Go.Eng Go.Shelf Go.RowKit Go.Sort Go.Proofs Go.Proofs.YtepakfjilnpodaaGreatDoor
end Go.Num
namespace Go.Num
open Go.Eng Go.Shelf Go.RowKit Go.Sort Go.Proofs Go.Proofs.YtepakfjilnpodaaGreatDoor
end Go.Num
namespace Go.Num
open Go.Eng Go.Shelf Go.RowKit Go.Sort Go.Proofs Go.Proofs.YtepakfjilnpodaaGreatDoor
end Go.Num
namespace Go.Eng
open Go.RowKit Go.Num Go.Proofs Go.Proofs.YtepakfjilnpodaaGreatDoor
end Go.Eng
namespace Go.Num
open Go.Eng Go.Shelf Go.RowKit Go.Sort Go.Proofs Go.Proofs.YtepakfjilnpodaaGreatDoor
theorem sgn_num6(q:Rat):q.num.sign=sgnR q:=by
 unfold sgnR
 rcases Int.lt_trichotomy q.num 0 with h|h|h
 ·rw [Int.sign_eq_neg_one_of_neg h,if_pos h]
 ·rw [h];rfl
 ·rw [Int.sign_eq_one_of_pos h,if_neg (by omega),if_neg (by omega)]
theorem sgnQ_c{w:World}{u:Value}{p:Rat}(hu:QAt w u p)(hp:RatLe p 4700):CallsIn Fence.wide 0 Tryz.prog 35 #[u] w fun e w'=>∃v,e = .returned v∧v = .int .i64 (sgnR p)∧Below w.heap.size w w':=
 (sgnQ_calls w u p hu hp).mono (by rintro e w' ⟨rfl,hb⟩;exact⟨_,rfl,by rw [sgn_num6],hb⟩)
theorem small6_le{q:Rat}(h:SmallQ q 6=true):RatLe q 1:=by
 unfold SmallQ at h
 rw [Bool.and_eq_true]at h
 have h1:=of_decide_eq_true h.1
 have h2:=of_decide_eq_true h.2
 exact⟨nDig_lt 1 (by omega),nDig_lt 1 (by omega)⟩
end Go.Num
namespace Go.Num
open Go.Eng Go.Shelf Go.RowKit Go.Sort Go.Proofs Go.Proofs.YtepakfjilnpodaaGreatDoor
def Cel(w:World)(g:Nat)(ty:TypeId)(xs:List Value):Prop:=w.heap[g]? = some (Obj.cells xs.toArray ty)
section
variable {w w':World} {g:Nat} {ty:TypeId} {xs ys:List Value}
theorem Cel.new(w:World)(ty:TypeId)(xs:List Value):Cel (w.alloc (.cells xs.toArray ty)) w.heap.size ty xs:=heap_alloc_new w _
theorem Cel.lt(h:Cel w g ty xs):g<w.heap.size:=(Array.getElem?_eq_some_iff.1 h).1
theorem Cel.eqB(h:Cel w g ty xs)(e:w'.heap[g]? = w.heap[g]?):Cel w' g ty xs:=e.trans h
theorem Cel.below(h:Cel w g ty xs)(hb:Below w.heap.size w w'):Cel w' g ty xs:=h.eqB (hb.block g h.lt)
theorem Cel.cell(h:Cel w g ty xs){j:Nat}{v:Value}(hj:xs[j]? = some v):w.cell? ⟨g,j,none⟩=some v:=by
 unfold Cel at h
 simp [World.cell?,h,hj]
theorem Cel.frozen(h:Cel w g ty xs)(j:Nat):w.frozen? ⟨g,j,none⟩=false:=by
 unfold Cel at h
 simp [World.frozen?,h]
theorem Cel.box(h:Cel w g ty xs):BoxL w g xs:=⟨h.lt,fun _ _ hj=>h.cell hj⟩
theorem Cel.touch(h:Cel w g ty xs)(hw:∀k,k<w.heap.size→k≠g→w'.heap[k]? = w.heap[k]?)(hs:w.heap.size≤w'.heap.size):Touch ty w w':=by
 refine⟨hs,fun k cs e fz hc hne => ?_⟩
 have hkl:k<w.heap.size:=(Array.getElem?_eq_some_iff.1 hc).1
 rw [hw k hkl (fun e2=>by
  unfold Cel at h
  rw [e2,h]at hc
  injection hc with hc
  injection hc with _ hc _
  exact hne hc.symm)]
 exact hc
end
theorem cel_set{w:World}{g o:Nat}{ty:TypeId}{cur:Array Value}(v:Value)(h:w.heap[g]? = some (Obj.cells cur ty)):(w.setCell ⟨g,o,none⟩ v).heap[g]? = some (Obj.cells (cur.setIfInBounds o v) ty):=by
 exact Go.heap_setCell_same w g o cur ty v h
theorem by_after{P:Program}{F:Fence}{n:Nat}{code:Code}{c0:CAct}{w:World}{Q:Exit→CAct→World→Prop}(S:CAct→Exit→CAct→World→Prop)(h1:code.wpIn F n P (S c0) c0 w)(h2:∀e c' w',S c0 e c' w'→Q e c' w'):code.wpIn F n P Q c0 w:=wpIn_mono h1 h2
def fineB(q:Rat):Bool:=SmallQ q 6 && decide (0≤sgnR q)
def sumT(a:List Rat):Nat→Rat
 | 0=>0
 | n+1=>sumT a n+a.getD n 0
theorem sumT_le{a:List Rat}:∀{i:Nat},(∀j,j<i→RatLe (a.getD j 0) 1)→RatLe (sumT a i) (2*i+1)
 | 0,_=>ratLe_zero (by decide)
 | i+1,h=>(ratLe_add (sumT_le fun j hj=>h j (by omega)) (h i (by omega))).mono (by omega)
def dsB(a:List Rat):Bool:=a.all fineB && decide (sgnR (sumT a a.length-1)=0)
theorem fine_le{q:Rat}(h:fineB q=true):RatLe q 1:=by
 unfold fineB at h
 rw [Bool.and_eq_true]at h
 exact small6_le h.1
theorem getD_at{a:List Rat}{i:Nat}(h:i<a.length):a[i]? = some (a.getD i 0):=by
 rw [List.getD_eq_getElem?_getD,List.getElem?_eq_getElem h];rfl
theorem all_fine{a:List Rat}(h:∀j,j<a.length→fineB (a.getD j 0)=true):a.all fineB=true:=by
 rw [List.all_eq_true]
 intro x hx
 obtain⟨i,hi⟩:=List.mem_iff_getElem?.1 hx
 have hl:=(List.getElem?_eq_some_iff.1 hi).1
 have:=h i hl
 rw [getD_at hl]at hi
 injection hi with hi
 rwa [hi]at this
def tabW(m N:Nat)(A:Nat→Nat→Rat):List (List Rat):=(List.range m).map fun i=>rowW (A i) N
theorem tabW_at{m N:Nat}{A:Nat→Nat→Rat}{i:Nat}(h:i<m):(tabW m N A)[i]? = some (rowW (A i) N):=by simp [tabW,h]
theorem tabW_len(m N:Nat)(A:Nat→Nat→Rat):(tabW m N A).length=m:=by simp [tabW]
theorem tabW_snoc(m N:Nat)(A:Nat→Nat→Rat):tabW (m+1) N A=tabW m N A ++ [rowW (A m) N]:=by simp [tabW,List.range_succ]
theorem rowW_getD{a:Nat→Rat}{n i:Nat}(h:i<n):(rowW a n).getD i 0=a i:=by
 rw [List.getD_eq_getElem?_getD,rowW_at h];rfl
end Go.Num
namespace Go.Num
open Go.Eng Go.Shelf Go.RowKit Go.Sort Go.Proofs Go.Proofs.YtepakfjilnpodaaGreatDoor
end Go.Num
namespace Go.Eng
open Go.RowKit Go.Num Go.Proofs Go.Proofs.YtepakfjilnpodaaGreatDoor
end Go.Eng
namespace Go.Num
open Go.Eng Go.Shelf Go.RowKit Go.Sort Go.Proofs Go.Proofs.YtepakfjilnpodaaGreatDoor
end Go.Num
namespace Go.Num
open Go.Eng Go.Shelf Go.RowKit Go.Sort Go.Proofs Go.Proofs.YtepakfjilnpodaaGreatDoor
theorem RatAt.form9{w:World}{v:Value}{q:Rat}(h:RatAt w v q):∃s o k c o2 k2 c2,v = .agg #[.bool s,.slice o k c,.slice o2 k2 c2]:=by
 obtain⟨o,k,c,o2,k2,c2,e⟩:=h.form
 exact⟨_,o,k,c,o2,k2,c2,e⟩
set_option maxRecDepth 100000 in
set_option maxHeartbeats 2000000 in
theorem long_calls(w:World)(v:Value)(q:Rat)(h:RatAt w v q)(hL:RatLe q 100000)(htab:Pow10 w) :
  CallsIn Fence.wide 0 Tryz.prog 172 #[v] w fun e w'=>e = .returned (.bool (!shortB q))∧Below w.heap.size w w':=by
 obtain⟨s1,o1,k1,c1,o2,k2,c2,rfl⟩:=RatAt.form9 h
 have HQ:=Hid.intro h
 have HL:=Hid.intro hL
 have HT:=Hid.intro htab
 obtain⟨sb,hsb⟩:∃b,shortB q=b:=⟨_,rfl⟩
 rw [hsb]
 have HSB:=Hid.intro hsb
 clear h hL htab hsb
 refine callsIn_of_wp Tryz.func172 rfl trivial ?_ rfl
 simp only [Tryz.ntmps172,List.size_toArray,List.length_cons,List.length_nil,Nat.reduceAdd,Nat.reduceSub,Array.replicate_succ,Array.replicate_zero,List.push_toArray,List.append_toArray,List.nil_append,List.cons_append]
 have hb:=alloc_below w (Obj.cells #[Value.bool s1,Value.slice o1 k1 c1,Value.slice o2 k2 c2] 27)
 have HB:=Hid.intro hb
 clear hb
 gi_wp2_with (gi_at_call 62;refine stop ?_)
 unfold Stop
 refine(isShort_calls _ _ q (HQ.out.below HB.out) HL.out (HT.out.below HB.out)).mono ?_
 rintro e w2 ⟨rfl,hB2⟩
 rw [HSB.out]
 have HB2:=Hid.intro (HB.out.trans (hB2.mono HB.out.size))
 clear hB2
 gi_wp2
 all_goals (first|go_returns|go_ret|go_end0)
 exact⟨rfl,HB2.out⟩
def firstLong(l:List Rat):Nat→Bool
 | 0=>false
 | n+1=>firstLong l n || !shortB (l.getD n 0)
set_option maxRecDepth 100000 in
set_option maxHeartbeats 4000000 in
theorem indexLong_calls(w:World)(v:Value)(l:List Rat)(n:Nat)(h:RowC w v l)(hn:l.length=n)(h9:n≤1000)(hL:∀i,i<n→RatLe (l.getD i 0) 100000)(htab:Pow10 w) :
  CallsIn Fence.wide 0 Tryz.prog 207 #[v,.func (.func 172) #[] #[]] w fun e w'=>∃z:Int,e = .returned (.int .i64 z)∧(0≤z↔firstLong l n=true)∧Below w.heap.size w w':=by
 have HR:=Hid.intro h
 have HL:=Hid.intro hL
 have HT:=Hid.intro htab
 have HN:=Hid.intro hn
 obtain⟨o,c,rfl,_,_⟩:=h
 rw [hn]at HR ⊢
 clear hL htab hn
 refine callsIn_of_wp Tryz.func207 rfl trivial ?_ rfl
 simp only [Tryz.ntmps207,List.size_toArray,List.length_cons,List.length_nil,Nat.reduceAdd,Nat.reduceSub,Array.replicate_succ,Array.replicate_zero,List.push_toArray,List.append_toArray,List.nil_append,List.cons_append]
 gi_wp2
 gi_loopw [8] (fun x8 wr=>∃i:Nat,x8 = .int .i64 (i:Int)∧i≤n∧Hid (firstLong l i=false)∧Hid (Below w.heap.size w wr)) (fun x _=>n-(intOf x).toNat)
 case atStart=>exact⟨0,rfl,by omega,Hid.intro rfl,Below.refl _ w⟩
 case round=>
  obtain⟨i,rfl,hi,HF,HB⟩:=hrel
  by_cases hin:i<n
  ·have hq:=getD_at (a:=l) (i:=i) (by rw [HN.out];exact hin)
   obtain⟨a,rfl,ha,sg,o3,k3,c3,o4,k4,c4,x0,x1,x2,hr⟩:=(HR.out.below HB.out).item hq
   have HRq:=Hid.intro hr
   clear hr hq ha
   gi_wp2_with (gi_at_call 172;refine stop ?_)
   unfold Stop
   refine(long_calls wr _ (l.getD i 0) HRq.out (HL.out i hin) (HT.out.below HB.out)).mono ?_
   rintro e w2 ⟨rfl,hB2⟩
   have HB2:=Hid.intro (HB.out.trans (hB2.mono HB.out.size))
   clear hB2 x0 x1 x2
   cases hs:shortB (l.getD i 0)with
   | false=>
    have HF1:Hid (firstLong l n=true):=Hid.intro (by
     have key:∀k,i<k→firstLong l k=true:=by
      intro k
      induction k with
      | zero=>intro h;omega
      | succ k ih=>
       intro h
       show(firstLong l k || !shortB (l.getD k 0))=true
       rcases Nat.lt_or_ge i k with q|q
       ·rw [ih q];rfl
       ·have:k=i:=by omega
        rw [this,hs];simp
     exact key n hin)
    clear hs
    gi_wp2
    all_goals (first|go_returns|go_ret|go_end0)
    exact⟨_,rfl,by rw [HF1.out];simp,HB2.out⟩
   | true=>
    have HF1:Hid (firstLong l (i+1)=false):=Hid.intro (by
     show(firstLong l i || !shortB (l.getD i 0))=false
     rw [HF.out,hs];rfl)
    clear hs
    gi_wp2
    exact⟨⟨i+1,by go_num,by omega,HF1,HB2⟩,by simp only [intOf];omega⟩
  ·obtain rfl:i=n:=by omega
   gi_wp2
   all_goals (first|go_returns|go_ret|go_end0)
   exact⟨_,rfl,by rw [HF.out];simp,HB.out⟩
end Go.Num
