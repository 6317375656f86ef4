/-
  'Ruin' of arguments that are not as they should be. Printed by genbad.py. A region that draws its order, calls functions and has guards, tha
  Conditions: see each statement.
-/
import Derived.Test.YtepakfjilnpodaaGreatDoorRBAW
import Derived.Test.YtepakfjilnpodaaGreatDoorRBAX
import Derived.Test.YtepakfjilnpodaaGreatDoorRBAT
import Derived.Stop.RegionWithIn
namespace Go.Eng
open Go.RowKit
def GAt(ops:Array Oper)(a:CAct)(o:Oper)(b:Bool):Prop:=match o.guard with
 | none=>b=true
 | some (x,y)=>∃q d z,ops[x]? = some q∧q.dst=some d∧a.tmps.getD d undef = .bool z∧b=(z == y)
def GVB(ops:Array Oper)(val:Nat→Value)(o:Oper)(b:Bool):Prop:=match o.guard with
 | none=>b=true
 | some (x,y)=>(∃q d,ops[x]? = some q∧q.dst=some d)∧∃z,val x = .bool z∧b=(z == y)
theorem GVB.one{ops:Array Oper}{val:Nat→Value}{o:Oper}{b c:Bool}(h:GVB ops val o b)(k:GVB ops val o c):b=c:=by
 unfold GVB at h k;split at h
 ·rename_i hg;rw [hg]at k;simp only at k;rw [h,k]
 ·rename_i x y hg;rw [hg]at k;simp only at k;obtain⟨_,z,h1,h2⟩:=h;obtain⟨_,u,k1,k2⟩:=k;rw [h1]at k1;injection k1 with k1;rw [h2,k2,k1]
def GWS(K:World→Prop)(ks:List Nat)(P:Program)(ro:Option Nat)(ops:Array Oper)(bs bars:List Nat)(Q:CAct→World→Prop):List Nat→CAct→World→Prop
 | [],a,w=>Q a w
 | i :: r,a,w=>∃o,ops[i]? = some o∧((GAt ops a o false∧GWS K ks P ro ops bs bars Q r (a.put o.dst undef) w)∨GAt ops a o true ∧
   ((bars.contains i=true ∧
     ((∃f args,(execOp a.eval o).run P w = .ok (.enter f args) w∧CallsIn (Fz ro) 0 P f args w fun e w'=>∃v,e = .returned v∧((zeX bs ks ops.size i=true∧K w')∨Below w.heap.size w w')∧GWS K ks P ro ops bs bars Q r (a.put o.dst v) w') ∨
      (∃w' v,((execOp a.eval o).run P w = .ok (.value v) w'∨((execOp a.eval o).run P w = .ok .skip w'∧v=undef))∧((zeX bs ks ops.size i=true∧K w')∨Below w.heap.size w w')∧GWS K ks P ro ops bs bars Q r (a.put o.dst v) w'))) ∨
    (bars.contains i=false∧∃v,(∀w',(Below w.heap.size w w'∨(ks.contains i=true∧K w'))→(execOp a.eval o).run P w' = .ok (.value v) w')∧GWS K ks P ro ops bs bars Q r (a.put o.dst v) w)))
theorem zrh{ops:Array Oper}{val:Nat→Value}{o:Oper}{b:Bool}{i:Nat}{v:Value}(h:∀x y,o.guard=some (x,y)→x≠i):GVB ops (upd val i v) o b↔GVB ops val o b:=by
 unfold GVB;split
 ·exact Iff.rfl
 ·rename_i x y hg;rw [zbM _ _ _ (h x y hg)]
section
variable {P:Program} {ops:Array Oper} {p:Plan}
structure ziJ(K:World→Prop)(ks:List Nat)(P:Program)(ro:Option Nat)(ops:Array Oper)(p:Plan)(bars:List Nat)(Q:CAct→World→Prop)(a:CAct)(ord done rest:List Nat)(val:Nat→Value)(g:CAct)(listed:Array Bool)(w:World):Prop where
 ord:done ++ rest=ord
 size:g.tmps.size=a.tmps.size
 defers:g.defers=a.defers
 gW:∀j∈done,∀o d,ops[j]? = some o→o.dst=some d→g.tmps.getD d undef=val j
 g0:∀t,(∀j∈done,∀o,ops[j]? = some o→o.dst≠some t)→g.tmps.getD t undef=a.tmps.getD t undef
 quiet:∀i∈done,¬Did listed i→∀o,ops[i]? = some o→GVB ops val o true→∀c:CAct,zct ops p val a i o c→∀w',(Below w.heap.size w w'∨(ks.contains i=true∧K w'))→(execOp c.eval o).run P w' = .ok (.value (val i)) w'
 cont:GWS K ks P ro ops p.bs bars Q rest g w
 gd:∀i∈done,∀o,ops[i]? = some o→∃b,GVB ops val o b∧(b=false→val i=undef)
theorem zil{K:World→Prop}{ks:List Nat}{ro:Option Nat}{bars:List Nat}{Q:CAct→World→Prop}{a:CAct}{ord done r:List Nat}{i:Nat}{val:Nat→Value}{g:CAct}{listed:Array Bool}{w:World}(hp:zbA ops p)(hord:zc2 p.bs bars ord=true)(hall:∀i,i<ops.size→i∈ord)
  (hC:ziJ K ks P ro ops p bars Q a ord done (i :: r) val g listed w) {o:Oper} (ho:ops[i]? = some o):zct ops p val a i o g:=by
 have hs:=hC.ord ▸ hord;obtain⟨h1,h2⟩:=zaD hs;intro t ht;refine⟨fun j q hj hq hd => ?_,fun hno => ?_⟩
 ·refine hC.gW j ?_ q t hq hd;have hjo:j∈ord:=hall j (Array.getElem?_eq_some_iff.1 hq).1;rw [←hC.ord]at hjo;rcases List.mem_append.1 hjo with h|h
  ·exact h
  ·rcases List.mem_cons.1 h with rfl|h
   ·have:=zda hp j o ho j hj;omega
   ·have:=(h1 j h).1;rw [hj]at this;cases this
 ·refine hC.g0 t fun j hj q hq hd => ?_
  rcases hp.reads i j o q t ho hq hd ht with rfl|hb|hb
  ·exact(h2 i hj).2.1 rfl
  ·exact hno j q hb hq hd
  ·have:=(h2 j hj).1;rw [hb]at this;cases this
theorem zfp{K:World→Prop}{ks:List Nat}{ro:Option Nat}{bars:List Nat}{Q:CAct→World→Prop}{a:CAct}{ord done r:List Nat}{i:Nat}{val:Nat→Value}{g:CAct}{listed:Array Bool}{w:World}(hp:zbA ops p)(hord:zc2 p.bs bars ord=true)(hall:∀i,i<ops.size→i∈ord)
  (hC:ziJ K ks P ro ops p bars Q a ord done (i :: r) val g listed w) {o:Oper} (ho:ops[i]? = some o) {b:Bool} (hg:GAt ops g o b):GVB ops val o b:=by
 unfold GAt at hg;unfold GVB;split
 ·rename_i hx;rw [hx]at hg;exact hg
 rename_i x y hx;rw [hx]at hg;simp only at hg;obtain⟨q,d,z,hq,hd,hv,hz⟩:=hg;refine⟨⟨q,d,hq,hd⟩,z,?_,hz⟩;have hb:=hp.guard i o x y ho hx;have hs:=hC.ord ▸ hord;obtain⟨h1,h2⟩:=zaD hs;have hxo:x∈ord:=hall x (Array.getElem?_eq_some_iff.1 hq).1;rw [←hC.ord]at hxo;have hxd:x∈done:=by
  rcases List.mem_append.1 hxo with h|h
  ·exact h
  ·rcases List.mem_cons.1 h with rfl|h
   ·have:=zda hp x o ho x hb;omega
   ·have:=(h1 x h).1;rw [hb]at this;cases this
 rw [←hC.gW x hxd q d hq hd];exact hv
theorem zij{K:World→Prop}{ks:List Nat}{ro:Option Nat}{bars:List Nat}{Q:CAct→World→Prop}{a:CAct}{ord done r:List Nat}{i:Nat}{val:Nat→Value}{g:CAct}{listed listed':Array Bool}{w w':World}(hp:zbA ops p)(hord:zc2 p.bs bars ord=true)
  (hdst:∀o∈ops.toList,∀d,o.dst=some d→d<a.tmps.size)
  (hC:ziJ K ks P ro ops p bars Q a ord done (i :: r) val g listed w) {o:Oper} (ho:ops[i]? = some o) (v:Value) (hcont:GWS K ks P ro ops p.bs bars Q r (g.put o.dst v) w') (hgv:∃b,GVB ops val o b∧(b=false→v=undef))
  (hq:∀j∈done,¬Did listed' j→∀q,ops[j]? = some q→GVB ops val q true→∀c:CAct,zct ops p val a j q c→∀w2,(Below w'.heap.size w' w2∨(ks.contains j=true∧K w2))→(execOp c.eval q).run P w2 = .ok (.value (val j)) w2)
  (hi:¬Did listed' i→GVB ops val o true→∀c:CAct,zct ops p val a i o c→∀w2,(Below w'.heap.size w' w2∨(ks.contains i=true∧K w2))→(execOp c.eval o).run P w2 = .ok (.value v) w2) :
  ziJ K ks P ro ops p bars Q a ord (done ++ [i]) r (upd val i v) (g.put o.dst v) listed' w':=by
 have hs:=hC.ord ▸ hord;obtain⟨h1,h2⟩:=zaD hs;have hom:o∈ops.toList:=List.mem_of_getElem? (by simpa using ho);have hagree:∀j q c,(bsAt p.bs j).testBit i=false→zct ops p (upd val i v) a j q c→zct ops p val a j q c:=by
  intro j q c hji hA t ht;refine⟨fun k q' hk hq' hd => ?_,(hA t ht).2⟩;have:=(hA t ht).1 k q' hk hq' hd;rw [zbM _ _ _ (fun e=>by rw [e]at hk;rw [hk]at hji;cases hji)]at this;exact this
 have hup:∀j q b,ops[j]? = some q→(bsAt p.bs j).testBit i=false→(GVB ops (upd val i v) q b↔GVB ops val q b):=by
  intro j q b hq' hji;refine zrh fun x y hx e => ?_
  have:=hp.guard j q x y hq' hx;rw [e,hji]at this
  cases this
 have hii:(bsAt p.bs i).testBit i=false:=by
  cases e:(bsAt p.bs i).testBit i with
  | false=>rfl
  | true=>have:=zda hp i o ho i e;omega
 refine⟨by rw [←hC.ord];simp,by rw [zcn];exact hC.size,by rw [zbx];exact hC.defers,?_,?_,?_,hcont,?_⟩
 ·intro j hj q d hq' hd;by_cases hji:j=i
  ·subst hji;rw [ho]at hq';cases hq';rw [zcb,hd,zco (by rw [hC.size];exact hdst o hom d hd)]
  ·rw [zbM _ _ _ hji,zaC (fun e=>hji (hp.dsts j i q o d hq' ho hd e))];rcases List.mem_append.1 hj with h|h
   ·exact hC.gW j h q d hq' hd
   ·simp at h;exact absurd h hji
 ·intro t ht;rw [zaC (ht i (by simp) o ho)];exact hC.g0 t fun j hj q hq'=>ht j (by simp [hj]) q hq'
 ·intro j hj hnd q hq' hgt;rcases List.mem_append.1 hj with h|h
  ·have hji:=h2 j h;rw [zbM _ _ _ hji.2.1];exact fun c hA=>hq j h hnd q hq' ((hup j q true hq' hji.1).1 hgt) c (hagree j q c hji.1 hA)
  ·have hji:j=i:=by simpa using h
   subst hji;rw [ho]at hq';cases hq';rw [zcb];exact fun c hA=>hi hnd ((hup j o true ho hii).1 hgt) c (hagree j o c hii hA)
 ·intro j hj q hq';rcases List.mem_append.1 hj with h|h
  ·have hji:=h2 j h;obtain⟨b,k1,k2⟩:=hC.gd j h q hq';exact⟨b,(hup j q b hq' hji.1).2 k1,by rw [zbM _ _ _ hji.2.1];exact k2⟩
  ·have hji:j=i:=by simpa using h
   subst hji;rw [ho]at hq';cases hq';obtain⟨b,k1,k2⟩:=hgv;exact⟨b,(hup j o b ho hii).2 k1,by rw [zcb];exact k2⟩
theorem zeq{K:World→Prop}{ks:List Nat}{ro:Option Nat}{bars:List Nat}{Q:CAct→World→Prop}{a:CAct}{ord:List Nat}{listed:Array Bool}{w:World}(hp:zbA ops p)(hord:zc2 p.bs bars ord=true)(hall:∀i,i<ops.size→i∈ord)
  (hnosel:∀o∈ops.toList,∀cs b,o.op ≠ .select cs b) (hdst:∀o∈ops.toList,∀d,o.dst=some d→d<a.tmps.size) :
  ∀(rest done:List Nat) (val:Nat→Value) (g:CAct),ziJ K ks P ro ops p bars Q a ord done rest val g listed w →
   ∃done' rest' val' g',ziJ K ks P ro ops p bars Q a ord done' rest' val' g' listed w∧(∀e r,rest'=e :: r→e∈bars)∧(∀j,j∈done→j∈done'∧val' j=val j)
 | [],done,val,g,hC=>⟨done,[],val,g,hC,fun e r h=>(by cases h),fun j hj=>⟨hj,rfl⟩⟩
 | i :: r,done,val,g,hC=>by
  obtain⟨o,ho,hgo⟩:=hC.cont;have hs:=hC.ord ▸ hord;obtain⟨h1,h2⟩:=zaD hs;have hom:o∈ops.toList:=List.mem_of_getElem? (by simpa using ho);have go:∀v,ziJ K ks P ro ops p bars Q a ord (done ++ [i]) r (upd val i v) (g.put o.dst v) listed w→∃done' rest' val' g',ziJ K ks P ro ops p bars Q a ord done' rest' val' g' listed w∧(∀e r,rest'=e :: r→e∈bars)∧(∀j,j∈done→j∈done'∧val' j=val j):=by
   intro v hC';obtain⟨done',rest',val',g',k1,k2,k3⟩:=zeq hp hord hall hnosel hdst r (done ++ [i]) _ _ hC';refine⟨done',rest',val',g',k1,k2,fun j hj => ?_⟩;obtain⟨h3,h4⟩:=k3 j (by simp [hj]);refine⟨h3,?_⟩;rw [h4,zbM _ _ _ (h2 j hj).2.1]
  rcases hgo with⟨hgf,hcont⟩|⟨hgt,hh⟩
  ·have hgv:=zfp hp hord hall hC ho hgf;exact go undef (zij hp hord hdst hC ho undef hcont ⟨false,hgv,fun _=>rfl⟩ hC.quiet (listed':=listed) (fun _ h=>by have:=h.one hgv;cases this))
  ·rcases hh with⟨hb,hh⟩|⟨hb,v,hv,hcont⟩
   ·exact⟨done,i :: r,val,g,hC,fun e r' h=>by injection h with h1 h2;subst h1;simpa using hb,fun j hj=>⟨hj,rfl⟩⟩
   ·have hA:=zil hp hord hall hC ho;have hgv:=zfp hp hord hall hC ho hgt;exact go v (zij hp hord hdst hC ho v hcont ⟨true,hgv,fun h=>by cases h⟩ hC.quiet (listed':=listed) (fun _ _ c hAc w2 hb2=>by
     rw [execOp_congr o (hnosel o hom) (hAc.eval hA)];exact hv w2 hb2))
structure zrr(K:World→Prop)(ks:List Nat)(P:Program)(ro:Option Nat)(ops:Array Oper)(p:Plan)(bars:List Nat)(Q:CAct→World→Prop)(a:CAct)(ord done rest:List Nat)(val:Nat→Value)(g:CAct)(listed:Array Bool)(c:CAct)(w:World):Prop where
 core:ziJ K ks P ro ops p bars Q a ord done rest val g listed w
 kw:K w
 head:∀e r,rest=e :: r→e∈bars
 lsize:listed.size=ops.size
 closed:∀i j,Did listed i→(bsAt p.bs i).testBit j=true→Did listed j
 sub:∀j,Did listed j→j∈done
 cdefers:c.defers=a.defers
 csize:c.tmps.size=a.tmps.size
 cW:∀j o d,Did listed j→ops[j]? = some o→o.dst=some d→c.tmps.getD d undef=val j
 c0:∀t,(∀j o,Did listed j→ops[j]? = some o→o.dst≠some t)→c.tmps.getD t undef=a.tmps.getD t undef
theorem zrg{K:World→Prop}{ks:List Nat}(hKB:∀w w',K w→Below w.heap.size w w'→K w')(hp:zbA ops p){bars ord:List Nat}(hord:zc2 p.bs bars ord=true)(hall:∀i,i<ops.size→i∈ord)(hlt:∀i∈ord,i<ops.size)(hpl:∀o∈ops.toList,zeU o=true){a:CAct}{ro:Option Nat}{Q:Exit→CAct→World→Prop}
  (hdst:∀o∈ops.toList,∀d,o.dst=some d→d<a.tmps.size) :
  ∀(fuel:Nat) (done rest:List Nat) (val:Nat→Value) (g:CAct) (listed:Array Bool) (c:CAct) (w:World),zrr K ks P ro ops p bars (fun a' w'=>Q .normal a' w') a ord done rest val g listed c w→cntF (fun i=>listed.getD i false) ops.size≤fuel→wpAnyIn (Fz ro) 0 P .any ops Q fuel listed c w:=by
 have hnosel:∀o∈ops.toList,∀cs b,o.op ≠ .select cs b:=by
  intro o ho cs b e;have:=hpl o ho;unfold zeU at this;rw [e]at this
  cases this
 have fin:∀{done rest val g listed c w},zrr K ks P ro ops p bars (fun a' w'=>Q .normal a' w') a ord done rest val g listed c w→Region.ready .any ops listed = []→Q .normal c w:=by
  intro done rest val g listed c w hI hr;have hdid:=zeS hp hI.lsize hr;have hrest:rest = []:=by
   cases hre:rest with
   | nil=>rfl
   | cons e r=>
    exfalso;have hC:=hI.core;rw [hre]at hC;have heo:e∈ord:=by rw [←hC.ord];simp
    have hs:=hC.ord ▸ hord;have:=(zaD hs).2 e (hI.sub e (hdid e (hlt e heo)));exact this.2.1 rfl
  subst hrest;have hQ:=hI.core.cont;have hcg:c=g:=by
   refine zkp (by rw [hI.csize,hI.core.size]) (fun t ht => ?_) (by rw [hI.cdefers,hI.core.defers]);by_cases hw:∃(j:Nat) (o:Oper),ops[j]? = some o∧o.dst=some t
   ·obtain⟨j,o,ho,hod⟩:=hw;have hj:=hdid j (Array.getElem?_eq_some_iff.1 ho).1;rw [hI.cW j o t hj ho hod,hI.core.gW j (hI.sub j hj) o t ho hod]
   ·rw [hI.c0 t (fun j o _ ho hod=>hw ⟨j,o,ho,hod⟩),hI.core.g0 t (fun j _ o ho hod=>hw ⟨j,o,ho,hod⟩)]
  rw [hcg];exact hQ
 intro fuel;induction fuel with
 | zero=>
  intro done rest val g listed c w hI hcnt;have hz:cntF (fun i=>listed.getD i false) ops.size=0:=by omega
  have hal:=zd9 hz;have hr:Region.ready .any ops listed = []:=by
   cases hq:Region.ready .any ops listed with
   | nil=>rfl
   | cons i r=>
    have:=zbK hI.lsize (i:=i) (by rw [hq];simp);exact absurd (hal i this.1) this.2.1
  exact⟨hr,fin hI hr⟩
 | succ fuel ih=>
  intro done rest val g listed c w hI hcnt;refine⟨fin hI,?_⟩;intro i hi;obtain⟨hin,hnd,o,ho,hedges⟩:=zbK hI.lsize hi;have hready:=zgm hp hI.closed ho hedges;have hol:ops.toList[i]? = some o:=by simpa using ho
  have hom:o∈ops.toList:=List.mem_of_getElem? hol;have hilt:i<listed.size:=by rw [hI.lsize];exact hin
  have hcnt':cntF (fun j=>(listed.setIfInBounds i true).getD j false) ops.size≤fuel:=by
   have:=zfq (f:=fun j=>listed.getD j false) (g:=fun j=>(listed.setIfInBounds i true).getD j false) (i:=i) hnd (zay hilt) (by
    intro j hj;simp [Array.getD_eq_getD_getElem?,Ne.symm hj]) hin
   omega
  have hplo:=hpl o hom;have hop:=hplo;unfold zeU at hop;have hnodef:∀q,o.op ≠ .defer q:=by intro q e;rw [e]at hop;cases hop
  have hwantOf:∀b,GVB ops val o b→Region.wanted o (yielded ops c.tmps)=b:=fun b hgv=>by
   unfold GVB at hgv;unfold Region.wanted
   cases hg:o.guard with
   | none=>rw [hg]at hgv;exact hgv.symm
   | some xy=>
    obtain⟨x,y⟩:=xy;rw [hg]at hgv;simp only at hgv;obtain⟨⟨q,d,hq,hd⟩,z,hv,hz⟩:=hgv;have hcv:=hI.cW x q d (hready x (hp.guard i o x y ho hg)) hq hd;rw [hv]at hcv;have hyv:yielded ops c.tmps x=some z:=by
     unfold yielded;rw [hq];simp only [Option.bind_some,hd];rw [zkD hcv]
    show(yielded ops c.tmps x == some y)=b
    rw [hyv,hz]
    cases z <;> cases y <;> rfl
  have hclosed':∀x j,Did (listed.setIfInBounds i true) x→(bsAt p.bs x).testBit j=true→Did (listed.setIfInBounds i true) j:=by
   intro x j hx hj;rcases zaR hx with rfl|hx
   ·exact zai (hready j hj)
   ·exact zai (hI.closed x j hx hj)
  have hcA:zct ops p val a i o c:=by
   intro t ht;refine⟨fun j q hj hq hd=>hI.cW j q t (hready j hj) hq hd,fun hno => ?_⟩;refine hI.c0 t fun j q hj hq hd => ?_
   rcases hp.reads i j o q t ho hq hd ht with rfl|hb|hb
   ·exact hnd hj
   ·exact hno j q hb hq hd
   ·exact hnd (hI.closed j i hj hb)
  have hput:∀(val':Nat→Value) (v:Value),(∀j,Did listed j→val' j=val j)→val' i=v →
    (c.put o.dst v).defers=a.defers∧(c.put o.dst v).tmps.size=a.tmps.size ∧
    (∀j q d,Did (listed.setIfInBounds i true) j→ops[j]? = some q→q.dst=some d→(c.put o.dst v).tmps.getD d undef=val' j) ∧
    (∀t,(∀j q,Did (listed.setIfInBounds i true) j→ops[j]? = some q→q.dst≠some t)→(c.put o.dst v).tmps.getD t undef=a.tmps.getD t undef):=by
   intro val' v hold hnew;refine⟨by rw [zbx];exact hI.cdefers,by rw [zcn];exact hI.csize,?_,?_⟩
   ·intro j q d hj hq hd;by_cases hji:j=i
    ·subst hji;rw [ho]at hq;cases hq;rw [hd,zco (by rw [hI.csize];exact hdst o hom d hd),hnew]
    ·rcases zaR hj with e|hj
     ·exact absurd e hji
     ·rw [zaC (fun e=>hji (hp.dsts j i q o d hq ho hd e)),hold j hj];exact hI.cW j q d hj hq hd
   ·intro t ht;rw [zaC (ht i o (zay hilt) ho)];exact hI.c0 t (fun j q hj hq=>ht j q (zai hj) hq)
  by_cases hid:i∈done
  ·
   obtain⟨b,hgv,hgf⟩:=hI.core.gd i hid o ho;obtain⟨e1,e2,e3,e4⟩:=hput val (val i) (fun _ _=>rfl) rfl;have hnext:zrr K ks P ro ops p bars (fun a' w'=>Q .normal a' w') a ord done rest val g (listed.setIfInBounds i true) (c.put o.dst (val i)) w:=
    ⟨⟨hI.core.ord,hI.core.size,hI.core.defers,hI.core.gW,hI.core.g0,fun j hj hnj=>hI.core.quiet j hj (fun h=>hnj (zai h)),hI.core.cont,hI.core.gd⟩,hI.kw,hI.head,by simp [hI.lsize],hclosed',
     fun j hj=>(zaR hj).elim (fun e=>e ▸ hid) (fun hj=>hI.sub j hj),e1,e2,e3,e4⟩
   have hrest:=ih _ _ _ _ _ _ _ hnext hcnt';simp only [wpOpIn,ho]
   cases b with
   | true=>
    have hrun:=hI.core.quiet i hid hnd o ho hgv c hcA w (.inl (Below.refl _ _));rw [if_pos (hwantOf true hgv)];refine⟨fun f _=>zey ro f,?_⟩;rw [Oper.semAt_eq _ _ _ hnodef,hrun];exact hrest
   | false=>
    rw [if_neg (by rw [hwantOf false hgv];simp)];rw [hgf rfl]at hrest;exact⟨fun f _=>zey ro f,hrest⟩
  ·
   have hio:i∈ord:=hall i hin;rw [←hI.core.ord]at hio;have hir:i∈rest:=by
    rcases List.mem_append.1 hio with h|h
    ·exact absurd h hid
    ·exact h
   obtain⟨e,r,hre⟩:∃e r,rest=e :: r:=by
    cases hrest:rest with
    | nil=>rw [hrest]at hir;cases hir
    | cons e r=>exact⟨e,r,rfl⟩
   have heb:=hI.head e r hre;subst hre;have hs:=hI.core.ord ▸ hord;obtain⟨h1,h2⟩:=zaD hs;have hie:i=e:=by
    rcases List.mem_cons.1 hir with h|h
    ·exact h
    ·exfalso;have hm:=(h1 i h).2.2 heb;exact(h2 e (hI.sub e (hready e hm))).2.1 rfl
   subst hie;obtain⟨o',ho',hgo⟩:=hI.core.cont;rw [ho]at ho';have ho':=Option.some.inj ho';subst ho';have hgA:=zil hp hord hall hI.core ho;have hexec:=execOp_congr o (hnosel o hom) (hcA.eval hgA);have hcontb:bars.contains i=true:=by simpa using heb
   have after:∀(v:Value) (w':World),(∃b,GVB ops val o b∧(b=false→v=undef))→((zeX p.bs ks ops.size i=true∧K w')∨Below w.heap.size w w')→GWS K ks P ro ops p.bs bars (fun a' w'=>Q .normal a' w') r (g.put o.dst v) w'→wpAnyIn (Fz ro) 0 P .any ops Q fuel (listed.setIfInBounds i true) (c.put o.dst v) w':=by
    intro v w' hgv' hB hcont;have hC':ziJ K ks P ro ops p bars (fun a' w'=>Q .normal a' w') a ord (done ++ [i]) r (upd val i v) (g.put o.dst v) (listed.setIfInBounds i true) w':=by
     refine zij hp hord hdst hI.core ho v hcont hgv' (fun j hj hnj q hq => ?_) (fun h=>absurd (zay hilt) h);intro hgj;have h4:=hI.core.quiet j hj (fun h=>hnj (zai h)) q hq hgj;rcases hB with⟨hr,hKw⟩|hB
     ·
      have hjl:j<ops.size:=(Array.getElem?_eq_some_iff.1 hq).1;unfold zeX at hr;rw [List.all_eq_true]at hr;have:=hr j (List.mem_range.2 hjl);rw [Bool.or_eq_true,Bool.or_eq_true,Bool.or_eq_true]at this;rcases this with h|(h|h)|h
      ·exact absurd (Nat.eq_of_beq_eq_true h) (fun e=>hid (e ▸ hj))
      ·exact absurd (zai (hready j h)) hnj
      ·rw [(h2 j hj).1]at h;cases h
      ·exact fun c' hA w2 hb2=>h4 c' hA w2 (.inr ⟨h,hb2.elim (fun q=>hKB _ _ hKw q) (fun q=>q.2)⟩)
     ·exact fun c' hA w2 hb2=>h4 c' hA w2 (hb2.imp (fun q=>hB.trans (q.mono hB.size)) id)
    obtain⟨done',rest',val',g',k1,k2,k3⟩:=zeq hp hord hall hnosel hdst r _ _ _ hC';obtain⟨e1,e2,e3,e4⟩:=hput val' v (fun j hj=>by
      rw [(k3 j (by simp [hI.sub j hj])).2,zbM _ _ _ (fun e:j=i=>hnd (e ▸ hj))]) (by rw [(k3 i (by simp)).2,zcb])
    refine ih done' rest' val' g' _ _ _ ⟨k1,hB.elim (fun q=>q.2) (fun q=>hKB _ _ hI.kw q),k2,by simp [hI.lsize],hclosed',fun j hj => ?_,e1,e2,e3,e4⟩ hcnt';rcases zaR hj with rfl|hj
    ·exact(k3 j (by simp)).1
    ·exact(k3 j (by simp [hI.sub j hj])).1
   simp only [wpOpIn,ho];rcases hgo with⟨hgf,hcont⟩|⟨hgt,hh⟩
   ·have hgv:=zfp hp hord hall hI.core ho hgf;rw [if_neg (by rw [hwantOf false hgv];simp)];exact⟨fun f _=>zey ro f,after undef w ⟨false,hgv,fun _=>rfl⟩ (.inr (Below.refl _ _)) hcont⟩
   have hgv:=zfp hp hord hall hI.core ho hgt;have hgv2:∀v:Value,∃b,GVB ops val o b∧(b=false→v=undef):=fun v=>⟨true,hgv,fun h=>by cases h⟩
   rw [if_pos (hwantOf true hgv)];refine⟨fun f _=>zey ro f,?_⟩;rw [Oper.semAt_eq _ _ _ hnodef,hexec];rcases hh with⟨_,hh⟩|⟨hb,_⟩
   ·rcases hh with⟨f,args,hrun,hcalls⟩|⟨w',v,hrun,hB,hcont⟩
    ·rw [hrun];refine⟨fun h=>absurd (zft ro h) (by omega),?_⟩;refine CallsIn.mono hcalls ?_;rintro e w' ⟨v,rfl,hB,hcont⟩;exact after v w' (hgv2 v) hB hcont
    ·rcases hrun with hrun|⟨hrun,rfl⟩
     ·rw [hrun];exact after v w' (hgv2 v) hB hcont
     ·rw [hrun];exact after undef w' (hgv2 undef) hB hcont
   ·rw [hcontb]at hb;cases hb
theorem zhr{K:World→Prop}(ks:List Nat)(hKB:∀w w',K w→Below w.heap.size w w'→K w'){id:Nat}{l:List Oper}(bars ord:List Nat)(bs:List Nat){a:CAct}{w:World}{ro:Option Nat}{Q:Exit→CAct→World→Prop}(hm:P.follows .mixedOrders=true)
  (nt:Nat) (hnt:a.tmps.size=nt) (hc:zd0 l bars ord nt=true) (hbs:zeV l []=bs) (hK:K w.drew) (h:GWS K ks P ro l.toArray bs bars (fun a' w'=>Q .normal a' w') ord a w.drew):(Code.region id l.toArray true).wpIn (Fz ro) 0 P Q a w:=by
 subst hnt;unfold zd0 at hc;split at hc
 ·cases hc
 ·rename_i p hplan;have hp:=zhN hplan;have hpbs:p.bs=bs:=by
   have h2:=hplan;unfold zeT at h2;simp only [Bool.cond_eq_ite]at h2;split at h2
   ·injection h2 with h2;rw [←h2];exact hbs
   ·cases h2
  subst hpbs;simp only [Bool.and_eq_true,List.all_eq_true]at hc;obtain⟨⟨⟨⟨h1,h2⟩,h3⟩,h4⟩,h5⟩:=hc;have hall:∀i,i<l.toArray.size→i∈ord:=fun i hi=>by simpa using h2 i (List.mem_range.2 (by simpa using hi))
  have hlt:∀i∈ord,i<l.toArray.size:=fun i hi=>by simpa using (zbu _ _).1 (h3 i hi)
  have hpl:∀o∈l.toArray.toList,zeU o=true:=by simpa using h4
  have hdst:∀o∈l.toArray.toList,∀d,o.dst=some d→d<a.tmps.size:=fun o ho d hd=>by
   have:=h5 o (by simpa using ho);rw [hd]at this;exact(zbu _ _).1 this
  have hno:∀i,¬Did (Array.replicate l.toArray.size false) i:=by
   intro i hi;unfold Did at hi;rw [Array.getD_eq_getD_getElem?,Array.getElem?_replicate]at hi;split at hi <;> simp at hi
  have hnosel:∀o∈l.toArray.toList,∀cs b,o.op ≠ .select cs b:=by
   intro o ho cs b e;have:=hpl o ho;unfold zeU at this;rw [e]at this
   cases this
  have hC:ziJ K ks P ro l.toArray p bars (fun a' w'=>Q .normal a' w') a ord [] ord (fun _=>undef) a (Array.replicate l.toArray.size false) w.drew:=
   ⟨rfl,rfl,rfl,fun j hj=>(by cases hj),fun _ _=>rfl,fun j hj=>(by cases hj),h,fun j hj=>(by cases hj)⟩
  obtain⟨done',rest',val',g',k1,k2,k3⟩:=zeq hp h1 hall hnosel hdst ord [] _ _ hC;refine wpIn_region_any hm (zrg hKB hp h1 hall hlt hpl hdst _ done' rest' val' g' _ _ _ ⟨k1,hK,k2,by simp,fun i j hi=>absurd hi (hno i),fun j hj=>absurd hj (hno j),rfl,rfl,fun j o d hj=>absurd hj (hno j),fun _ _=>rfl⟩ ?_);have:∀(f:Nat→Bool) n,cntF f n≤n:=by
   intro f n;induction n with
   | zero=>exact Nat.le_refl _
   | succ n ih=>simp only [cntF];split <;> omega
  exact this _ _
end
end Go.Eng
namespace Go.Eng
open Go.RowKit Go.Num Go.Proofs Go.Proofs.YtepakfjilnpodaaGreatDoor
def GS(K:World→Prop)(ks:List Nat)(P:Program)(nt:Nat)(ops:Array Oper)(bs bars:List Nat)(Q:CAct→World→Prop)(r:List Nat)(a:CAct)(ov:List (Tmp × Value))(w:World):Prop:=
 a.tmps.size=nt→zde nt ov→GWS K ks P none ops bs bars Q r (zaH a ov) w
def GSt(ops:Array Oper)(a:CAct)(ov:List (Tmp × Value))(b:Bool):Option (Nat × Bool)→Prop
 | none=>b=true
 | some (x,y)=>∃q d z,ops[x]? = some q∧q.dst=some d∧zk8 a ov d = .bool z∧b=(z == y)
section
variable {K:World→Prop} {ks:List Nat} {P:Program} {nt:Nat} {ops:Array Oper} {bs bars r:List Nat} {i:Nat} {a:CAct} {ov:List (Tmp × Value)} {w:World} {Q:CAct→World→Prop} {o:Oper} {gd:Option (Nat × Bool)}
theorem zpm(hk:zde a.tmps.size ov){b:Bool}(h:GSt ops a ov b o.guard):GAt ops (zaH a ov) o b:=by
 unfold GSt at h;unfold GAt;split
 ·rename_i hg;rw [hg]at h;exact h
 ·rename_i x y hg;rw [hg]at h;simp only at h;obtain⟨q,d,z,h1,h2,h3,h4⟩:=h;exact⟨q,d,z,h1,h2,by rw [zds a ov hk];exact h3,h4⟩
theorem GS.skip{d:Tmp}(ho:ops[i]? = some o)(hdst:o.dst=some d)(hd:Nat.blt d nt=true)(hg:GSt ops a ov false o.guard)(h:GS K ks P nt ops bs bars Q r a ((d,undef) :: ov) w):GS K ks P nt ops bs bars Q (i :: r) a ov w:=by
 intro hn hk;refine⟨o,ho,.inl ⟨zpm (by rw [hn];exact hk) hg,?_⟩⟩;rw [hdst];exact h hn (hk.cons hd)
theorem GS.read{d:Tmp}(v:Value)(ho:ops[i]? = some o)(hg:GSt ops a ov true o.guard)(hdst:o.dst=some d)(hb:bars.contains i=false)(hd:Nat.blt d nt=true)
  (hrun:∀w',(Below w.heap.size w w'∨(ks.contains i=true∧K w'))→(execOp (look a ov) o).run P w' = .ok (.value v) w') (h:GS K ks P nt ops bs bars Q r a ((d,v) :: ov) w):GS K ks P nt ops bs bars Q (i :: r) a ov w:=by
 intro hn hk;refine⟨o,ho,.inr ⟨zpm (by rw [hn];exact hk) hg,.inr ⟨hb,v,fun w' hw' => ?_,?_⟩⟩⟩
 ·rw [zaV a ov (by rw [hn];exact hk)];exact hrun w' hw'
 ·rw [hdst];exact h hn (hk.cons hd)
theorem GS.mv{x:Operand}{v:Value}{d:Tmp}{ty:TypeId}{ps:String}{af:Array Edge}(ho:ops[i]? = some {op:=.move x,dst:=some d,type:=ty,pos:=ps,after:=af,guard:=gd})(hg:GSt ops a ov true gd)(hb:bars.contains i=false)(hd:Nat.blt d nt=true)
  (hx:look a ov x=v) (h:GS K ks P nt ops bs bars Q r a ((d,v) :: ov) w):GS K ks P nt ops bs bars Q (i :: r) a ov w:=
 GS.read v ho hg rfl hb hd (fun w' _=>by subst hx;rfl) h
theorem GS.pick{c x y:Operand}{b:Bool}{v:Value}{d:Tmp}{ty:TypeId}{ps:String}{af:Array Edge}(hc:look a ov c = .bool b)(hx:look a ov (bif b then x else y)=v)(ho:ops[i]? = some {op:=.pick c x y,dst:=some d,type:=ty,pos:=ps,after:=af,guard:=gd})(hg:GSt ops a ov true gd)(hb:bars.contains i=false)(hd:Nat.blt d nt=true)
  (h:GS K ks P nt ops bs bars Q r a ((d,v) :: ov) w):GS K ks P nt ops bs bars Q (i :: r) a ov w:=
 GS.read v ho hg rfl hb hd (fun w' _=>by
  subst hx
  cases b <;> simp [execOp,hc,go_sem]) h
theorem GS.ldn{t:TypeId}{x:Operand}{p:Addr}{n:Nat}(cs:List Value){d:Tmp}{ty:TypeId}{ps:String}{af:Array Edge}(hL:zdO P t n)(hc:∀j v,cs[j]? = some v→w.cell? (p.add j)=some v)(hks:ks.contains i=false)(ho:ops[i]? = some {op:=.load t x,dst:=some d,type:=ty,pos:=ps,after:=af,guard:=gd})(hg:GSt ops a ov true gd)(hb:bars.contains i=false)(hd:Nat.blt d nt=true)
  (hn:cs.length=n) (h0:0<n) (hx:look a ov x = .pointer (some p)) (h:GS K ks P nt ops bs bars Q r a ((d,.agg cs.toArray) :: ov) w):GS K ks P nt ops bs bars Q (i :: r) a ov w:=
 GS.read _ ho hg rfl hb hd (fun w' hb'=>by
  rcases hb' with hb'|⟨q,_⟩
  ·have hp:p.block<w.heap.size:=by
    have:=World.block_lt_of_cell? _ _ (hc 0 _ (List.getElem?_eq_getElem (by omega)));rwa [zaf]at this
   have h1:=hL p cs w' hn (fun j v hj=>(hb'.cell (p:=p.add j) (by rw [zaf];exact hp)).trans (hc j v hj));simp [execOp,hx,h1]
  ·rw [hks]at q;cases q) h
theorem GS.call{f:FuncId}{fn:Func}{xs:Array Operand}{ts:Array TypeId}(args:List Value){d:Tmp}{ty:TypeId}{ps:String}{af:Array Edge}{R:Value→World→Prop}{f':FuncId}(hfn:P.funcs[f]? = some fn)(hbody:fn.body.isSome=true)(hN:zbi P)
  (ho:ops[i]? = some {op:=.call {callee:=.value (.func f),args:=xs,argTypes:=ts},dst:=some d,type:=ty,pos:=ps,after:=af,guard:=gd}) (hg:GSt ops a ov true gd) (hb:bars.contains i=true) (hd:Nat.blt d nt=true)
  (ha:xs.toList.map (look a ov)=args) (hf:f=f') (hcall:CallsIn Fence.wide 0 P f' args.toArray w fun e w'=>∃v,e = .returned v∧R v w'∧Below w.heap.size w w')
  (h:∀v w',R v w'→Below w.heap.size w w'→GS K ks P nt ops bs bars Q r a ((d,v) :: ov) w'):GS K ks P nt ops bs bars Q (i :: r) a ov w:=by
 intro hn hk;subst hf;have hk':zde a.tmps.size ov:=by rw [hn];exact hk
 refine⟨_,ho,.inr ⟨zpm hk' hg,.inl ⟨hb,.inl ⟨f,args.toArray,?_,hcall.mono ?_⟩⟩⟩⟩
 ·have ha':xs.map (zaH a ov).eval=args.toArray:=by rw [zaV a ov hk'];subst ha;apply Array.ext';rw [Array.toList_map]
  rw [←ha'];have hbn:fn.body≠none:=by intro q;rw [q]at hbody;simp at hbody
  have hev:(zaH a ov).eval (.func f) = .func (.func f) #[] #[]:=rfl;unfold execOp;simp only [resolve,hev,Deferred.ofValue,Sem.run_bind,Sem.run_pure,Result.andThen_ok,invoke,callFunc,run_program,hfn,hN f fn hfn hbody,Bool.false_eq_true,if_false];have:fn.body.isNone=false:=by cases hq:fn.body <;> simp_all
  rw [this];simp
 ·rintro e w' ⟨v,rfl,hR,hB⟩;exact⟨v,rfl,.inr hB,h v w' hR hB hn (hk.cons hd)⟩
theorem GS.lss{t t2:TypeId}{x y:Operand}{p q:Int}{b:Bool}{d:Tmp}{ty:TypeId}{ps:String}{af:Array Edge}(hpq:decide (p<q)=b)
  (ho:ops[i]? = some {op:=.binOp .lss t x y t2,dst:=some d,type:=ty,pos:=ps,after:=af,guard:=gd}) (hg:GSt ops a ov true gd) (hb:bars.contains i=false) (hd:Nat.blt d nt=true)
  (hx:look a ov x = .int .i64 p) (hy:look a ov y = .int .i64 q) (h:GS K ks Tryz.prog nt ops bs bars Q r a ((d,.bool b) :: ov) w):GS K ks Tryz.prog nt ops bs bars Q (i :: r) a ov w:=
 GS.read _ ho hg rfl hb hd (fun w' _=>by
  rw [←hpq];simp [execOp,hx,hy,binOp,eqGuard,Op.intCmp,Sem.run_pure,go_sem]) h
theorem GS.gtr{t t2:TypeId}{x y:Operand}{p q:Int}{b:Bool}{d:Tmp}{ty:TypeId}{ps:String}{af:Array Edge}(hpq:decide (p>q)=b)
  (ho:ops[i]? = some {op:=.binOp .gtr t x y t2,dst:=some d,type:=ty,pos:=ps,after:=af,guard:=gd}) (hg:GSt ops a ov true gd) (hb:bars.contains i=false) (hd:Nat.blt d nt=true)
  (hx:look a ov x = .int .i64 p) (hy:look a ov y = .int .i64 q) (h:GS K ks Tryz.prog nt ops bs bars Q r a ((d,.bool b) :: ov) w):GS K ks Tryz.prog nt ops bs bars Q (i :: r) a ov w:=
 GS.read _ ho hg rfl hb hd (fun w' _=>by
  rw [←hpq];simp [execOp,hx,hy,binOp,eqGuard,Op.intCmp,Sem.run_pure,go_sem]) h
theorem GS.geq{t t2:TypeId}{x y:Operand}{p q:Int}{b:Bool}{d:Tmp}{ty:TypeId}{ps:String}{af:Array Edge}(hpq:decide (p≥q)=b)
  (ho:ops[i]? = some {op:=.binOp .geq t x y t2,dst:=some d,type:=ty,pos:=ps,after:=af,guard:=gd}) (hg:GSt ops a ov true gd) (hb:bars.contains i=false) (hd:Nat.blt d nt=true)
  (hx:look a ov x = .int .i64 p) (hy:look a ov y = .int .i64 q) (h:GS K ks Tryz.prog nt ops bs bars Q r a ((d,.bool b) :: ov) w):GS K ks Tryz.prog nt ops bs bars Q (i :: r) a ov w:=
 GS.read _ ho hg rfl hb hd (fun w' _=>by
  rw [←hpq];simp [execOp,hx,hy,binOp,eqGuard,Op.intCmp,Sem.run_pure,go_sem]) h
theorem GS.not{t:TypeId}{x:Operand}{b:Bool}{d:Tmp}{ty:TypeId}{ps:String}{af:Array Edge}
  (ho:ops[i]? = some {op:=.unOp .not t x,dst:=some d,type:=ty,pos:=ps,after:=af,guard:=gd}) (hg:GSt ops a ov true gd) (hb:bars.contains i=false) (hd:Nat.blt d nt=true)
  (hx:look a ov x = .bool b) (h:GS K ks Tryz.prog nt ops bs bars Q r a ((d,.bool (!b)) :: ov) w):GS K ks Tryz.prog nt ops bs bars Q (i :: r) a ov w:=
 GS.read _ ho hg rfl hb hd (fun w' _=>by
  simp [execOp,hx,go_sem]) h
theorem GS.done(h:Q (zaH a ov) w):GS K ks P nt ops bs bars Q [] a ov w:=fun _ _=>h
theorem za0{id:Nat}{l:List Oper}(bars ord:List Nat)(bs:List Nat){a:CAct}{w:World}{ro:Option Nat}{Q:Exit→CAct→World→Prop}(hm:P.follows .mixedOrders=true)(hro:ro=none)
  (nt:Nat) (hnt:a.tmps.size=nt) (hc:zd0 l bars ord nt=true) (hbs:zeV l []=bs) (h:GS (fun _=>True) [] P nt l.toArray bs bars (fun a' w'=>Q .normal a' w') ord a [] w.drew):(Code.region id l.toArray true).wpIn (Fz ro) 0 P Q a w:=by
 subst hro;exact zhr [] (fun _ _ _ _=>trivial) bars ord bs hm nt hnt hc hbs trivial (h hnt (fun p hp=>by cases hp))
end
end Go.Eng
namespace Go.Num
open Go.Eng Go.Shelf Go.RowKit Go.Sort Go.Proofs Go.Proofs.YtepakfjilnpodaaGreatDoor
structure RBox(W:World)(g:Nat)(s:Bool)(o1:Option Addr)(k1 c1:Nat)(o2:Option Addr)(k2 c2:Nat)(k n:Int):Prop where
 c0:W.cell? ⟨g,0,none⟩=some (.bool s)
 c1:W.cell? ⟨g,1,none⟩=some (.slice o1 k1 c1)
 c2:W.cell? ⟨g,2,none⟩=some (.slice o2 k2 c2)
 k0:W.cell? ⟨g+1,0,none⟩=some (.int .i64 k)
 n0:W.cell? ⟨g+1+1,0,none⟩=some (.int .i64 n)
theorem RBox.below{W W':World}{g:Nat}{s:Bool}{o1:Option Addr}{k1 c1:Nat}{o2:Option Addr}{k2 c2:Nat}{k n:Int}(h:RBox W g s o1 k1 c1 o2 k2 c2 k n)(hb:Below W.heap.size W W'):RBox W' g s o1 k1 c1 o2 k2 c2 k n:=
 ⟨(hb.cell (World.block_lt_of_cell? _ _ h.c0)).trans h.c0,(hb.cell (World.block_lt_of_cell? _ _ h.c1)).trans h.c1,(hb.cell (World.block_lt_of_cell? _ _ h.c2)).trans h.c2,(hb.cell (World.block_lt_of_cell? _ _ h.k0)).trans h.k0,(hb.cell (World.block_lt_of_cell? _ _ h.n0)).trans h.n0⟩
theorem zkQ{fn:Func}{p q t:Tmp}{R:Ending→World→Prop}{a:Act}{w:World}{x y z x' y' z' u:Value}(h:fn.results=#[.cell p 27,.cell q 27,.tmp t])(hd:a.defers = [])(g g':Nat)(hp:a.tmps.getD p undef = .pointer (some ⟨g,0,none⟩))(hq:a.tmps.getD q undef = .pointer (some ⟨g',0,none⟩))(ht:a.tmps.getD t undef=u)
  (hb:Box3 w g x y z) (hb':Box3 w g' x' y' z') (hR:R (.returned (.tuple #[.agg #[x,y,z],.agg #[x',y',z'],u])) w):bodyPost Tryz.prog fn R .ret a w:=by
 refine bodyPost_ret ?_ hd hR;have hl:=l25 g [x,y,z] w rfl hb;have hl':=l25 g' [x',y',z'] w rfl hb';simp only [Instr.loadAt,Instr.sureAddr,Sem.run_bind,Sem.run_pure,Result.andThen_ok]at hl hl';have hp':a.tmps[p]?.getD undef = .pointer (some ⟨g,0,none⟩):=by rw [←Array.getD_eq_getD_getElem?];exact hp
 have hq':a.tmps[q]?.getD undef = .pointer (some ⟨g',0,none⟩):=by rw [←Array.getD_eq_getD_getElem?];exact hq
 have ht':a.tmps[t]?.getD undef=u:=by rw [←Array.getD_eq_getD_getElem?];exact ht
 simp [results,h,hp',hq',ht',asAddr,hl,hl']
theorem zdS{w:World}{g:Nat}(h:zag w g 3 fun i => [.bool false,.slice none 0 0,.slice none 0 0].getD i (.bool false)):Box3 w g (.bool false) (.slice none 0 0) (.slice none 0 0):=fun j v hj=>by
 match j,hj with
 | 0,hj=>rw [←hj];exact(h 0 (by omega)).1
 | 1,hj=>rw [←hj];exact(h 1 (by omega)).1
 | 2,hj=>rw [←hj];exact(h 2 (by omega)).1
 | n+3,hj=>simp at hj
end Go.Num
