/-
  A call of a function, on the abstract machine and in the model.
  Conditions: see each statement.
-/
import Derived.Test.YtoamcgjbelhnkaaGreatDoorSAA
import Derived.Test.YtoamcgjbelhnkaaGreatDoorSAB
import Derived.Test.YtoamcgjbelhnkaaGreatDoorRows
import Derived.Test.YtoamcgjbelhnkaaGreatDoorProg
import Derived.WalkKit
import Derived.KernelRfl
import Derived.LoopIn
import Derived.Below
import Derived.BigFrameIn
import Derived.Handy
import Derived.RegionIn
import Derived.OwnWalkIn
import Derived.Sort.QuietIn
import Derived.Deep.QuietTactic
import Derived.Sort.AtCallIn
import Derived.Laws.OwnMore
set_option maxRecDepth 100000
set_option maxHeartbeats 8000000
namespace Go.Eng
open Go.RowKit
theorem zgB{bs:List Nat}:∀{l:List Nat} {e:Nat} {done r:List Nat},l=done ++ e :: r→zfA bs l=true→∀f∈r,(bsAt bs f).testBit e=true
 | l,e,[],r,h,hc,f,hf=>by
  subst h;simp only [ztO,zfA,Bool.and_eq_true,List.all_eq_true]at hc;exact hc.1 f hf
 | l,e,d :: done,r,h,hc,f,hf=>by
  subst h;simp only [ztP,zfA,Bool.and_eq_true]at hc;exact zgB rfl hc.2 f hf
section
variable {P:Program} {B:Nat} {w0:World} {G:Sett} {self:Cb} {ops:Array Oper} {p:Plan} {T:Tr AV}
theorem znV(hp:zen ops p){listed:Array Bool}(hclosed:∀i j,Did listed i→(bsAt p.bs i).testBit j=true→Did listed j){i:Nat}{o:Oper}(ho:ops[i]? = some o)
  (he:∀e∈o.after.toList,Region.binds .any e=true→Did listed e.on):∀j,(bsAt p.bs i).testBit j=true→Did listed j:=by
 intro j hj;obtain⟨e,h1,h2,h3⟩:=hp.mask i o ho j hj;rcases h3 with rfl|h3
 ·exact he e h1 h2
 ·exact hclosed _ _ (he e h1 h2) h3
theorem zto(hN:zbO P)(hC:zgW P B w0 G self)(hR:zeZ P B w0 G self)(hp:zen ops p){nt:Nat}{ds:List Mark}{H0:AH}{μ0:Mu}{valsF:Vals}{HF:AH}{T':Tr AV}{ro:Option Nat}{Q:Exit→CAct→World→Prop}
  (hlay:zfu ops valsF nt (List.range ops.size) T=some T') (hQ:∀c' μ' w',Ext H0 μ0 HF μ'→zc3 P μ' {T:=T',nt,ds} c'→Rep P B w0 G μ' HF w'→Q .normal c' w') :
  ∀(fuel:Nat) (es:List Nat) (prev:Option Nat) (stage:Nat) (vals:Vals) (H:AH) (listed:Array Bool) (c:CAct) (w:World) (μ:Mu),
   Inv P B w0 G self ops p T nt ds H0 μ0 valsF HF es prev stage vals H listed c w μ→cntF (fun i=>listed.getD i false) ops.size≤fuel→wpAnyIn (Fz ro) 0 P .any ops Q fuel listed c w:=by
 obtain⟨hdst,hfinal⟩:=zeJ _ _ _ hlay;have fin:∀{es prev stage vals H listed c w μ},Inv P B w0 G self ops p T nt ds H0 μ0 valsF HF es prev stage vals H listed c w μ→Region.ready .any ops listed = []→Q .normal c w:=by
  intro es prev stage vals H listed c w μ hI hr;have hall:=zld hp hI.lsize hr;have hes:es = []:=by
   cases es with
   | nil=>rfl
   | cons e r=>
    exfalso;obtain⟨done,h1,_⟩:=hI.split;have hmem:e∈p.bars:=by rw [h1];simp
    rw [hp.bars]at hmem;have:e<ops.size:=by
     unfold zjx at hmem;rw [List.mem_filter,List.mem_range]at hmem;exact hmem.1
    exact hI.left e (by simp) (hall e this)
  subst hes;have hrun:=hI.run;simp [zeC]at hrun
  obtain⟨rfl,rfl⟩:=hrun;refine hQ c μ w hI.ext ⟨⟨hI.size,?_⟩,hI.defers⟩ hI.rep;intro t v ht;rcases hfinal t v ht with⟨j,hj,o,id,ho,hod,hv⟩|⟨hno,hT⟩
  ·have hjn:j<ops.size:=by simpa using hj
   obtain⟨u,id',h1,h2⟩:=hI.tmpsW j o t (hall j hjn) ho hod;rw [hv]at h1;cases h1;exact h2
  ·refine hI.tmps0 t ?_ v hT;intro j o hj ho;exact hno j (by simpa using (Array.getElem?_eq_some_iff.1 ho).1) o ho
 intro fuel;induction fuel with
 | zero=>
  intro es prev stage vals H listed c w μ hI hcnt;have hz:cntF (fun i=>listed.getD i false) ops.size=0:=by omega
  have hall:=zh8 hz;have hr:Region.ready .any ops listed = []:=by
   cases hq:Region.ready .any ops listed with
   | nil=>rfl
   | cons i r=>
    have:=ze1 hI.lsize (i:=i) (by rw [hq];simp);exact absurd (hall i this.1) this.2.1
  exact⟨hr,fin hI hr⟩
 | succ fuel ih=>
  intro es prev stage vals H listed c w μ hI hcnt;refine⟨fin hI,?_⟩;intro i hi;obtain⟨hin,hnd,o,ho,hedges⟩:=ze1 hI.lsize hi;have hready:=znV hp hI.closed ho hedges;have hd:∀d,o.dst=some d→d<nt:=by
   obtain⟨o',ho',hdd⟩:=hdst i (by simpa using hin);rw [ho]at ho';cases ho';exact hdd
  have hilt:i<listed.size:=by rw [hI.lsize];exact hin
  have hcnt':cntF (fun j=>(listed.setIfInBounds i true).getD j false) ops.size≤fuel:=by
   have:=zkx (f:=fun j=>listed.getD j false) (g:=fun j=>(listed.setIfInBounds i true).getD j false) (i:=i) hnd (zbK hilt) (by
    intro j hj;simp [Array.getD_eq_getD_getElem?,Ne.symm hj]) hin
   omega
  have henv:=hI.env hp ho hnd hready;obtain⟨done,hsplit,hdl,hdone⟩:=hI.split;simp only [wpOpIn,ho]
  cases hbar:zmR o.op with
  | false=>
   have hine:i∉p.bars:=by
    rw [hp.bars];unfold zjx;rw [List.mem_filter];intro q;have:=q.2;rw [ho]at this;simp only at this;rw [hbar]at this;cases this
   have hck:=hI.check;unfold zdc at hck;rw [List.all_eq_true]at hck;have hck:=hck i (by simpa using hin);rw [ho]at hck;simp only [hbar,Bool.false_or,Bool.or_eq_true]at hck;have hstage:Nat.blt stage (zfm p i)=false:=by
    have hle:zfm p i≤stage:=by
     unfold zfm;rw [hsplit,List.filter_append,List.length_append];have h1:(es.filter fun e=>(bsAt p.bs i).testBit e) = []:=by
      rw [List.filter_eq_nil_iff];intro e he q;exact hI.left e he (hready e q)
     rw [h1];have:=List.length_filter_le (fun e=>(bsAt p.bs i).testBit e) done;simp;omega
    cases hq:Nat.blt stage (zfm p i)with
    | false=>rfl
    | true=>have:=(zca _ _).1 hq;omega
   have hskip:zmt p prev i=false:=by
    unfold zmt
    cases hprev:prev with
    | none=>rfl
    | some e=>
     simp only
     cases hq:(bsAt p.bs e).testBit i with
     | false=>rfl
     | true=>exact absurd (hI.closed e i (hI.prevL e hprev) hq) hnd
   rw [hstage,hskip]at hck;have hck:zq8 P G ops p T vals H i o=true:=by simpa using hck
   have step:∀{μ':Mu} {w':World} {v:AV} {id:Option Nat} {x:Value},getV vals i=some (v,id)→VR μ' v x→μ.le μ'→Ext H0 μ0 H μ'→Rep P B w0 G μ' H w' →
     (∀j v id,getV vals j=some (v,some id)→¬Did (listed.setIfInBounds i true) j→μ' id=none)→wpAnyIn (Fz ro) 0 P .any ops Q fuel (listed.setIfInBounds i true) (c.put o.dst x) w':=by
    intro μ' w' v id x hv hx hle hext hrep hids;refine ih es prev stage vals H _ _ w' μ' ?_ hcnt';refine hI.next hp ho hnd hready hd (fun _ _ q=>q) hv hx hle hrep hext ⟨done,hsplit,hdl,fun e he=>zaO (hdone e he)⟩ ?_ (fun e he=>zaO (hI.prevL e he)) ?_ hI.inj hI.check hI.run
    ·intro e he q;rcases zeQ q with rfl|q
     ·exact hine (by rw [hsplit];simp [he])
     ·exact hI.left e he q
    ·intro j u id' q;exact⟨(hI.ids j u id' q).1,(hI.ids j u id' q).2.1,hids j u id' q⟩
   have idsSame:∀j v id,getV vals j=some (v,some id)→¬Did (listed.setIfInBounds i true) j→μ id=none:=by
    intro j v id q hq;exact(hI.ids j v id q).2.2 (fun hdj=>hq (zaO hdj))
   unfold zq8 at hck;split at hck
   ·rename_i v hwd hgv;rw [hI.wanted hp ho hready hwd];simp only [Bool.false_eq_true,if_false];have:=AV.beq_eq hck;subst this;exact⟨fun f _=>zkI ro f,step hgv rfl (.refl μ) hI.ext hI.rep idsSame⟩
   ·rename_i v id hwd hgv;rw [hI.wanted hp ho hready hwd];simp only [if_true];split at hck
    ·rename_i id' hal;split at hck
     ·rename_i m f hm;simp only [Bool.and_eq_true]at hck;obtain⟨⟨⟨hfv,hst⟩,hlt⟩,hbd⟩:=hck;have hbd:m.bad G.res=false:=by rw [←hI.rep.resd];simpa using hbd
      have hfv:=AV.beq_eq hfv;have hget:=zjP hst;have hun:μ id'=none:=(hI.ids i v id' hgv).2.2 hnd;obtain⟨obj,N,x,g1,g2,g3⟩:=zfD (R:=G.res) henv hm hbd w;have hrep:Rep P B w0 G (μ.add id' w.heap.size N) H (w.alloc obj):=hI.rep.bind ((zca _ _).1 hlt) (fun q hq=>by rw [hget]at hq;exact(Option.some.inj hq).symm) hun (g2 id');refine zcu (zeg hm) g1 (.inl rfl) (step hgv (by rw [←hfv];exact g3 _ _ (if_pos rfl)) (Mu.le_add hun) ⟨hI.ext.1.trans (Mu.le_add hun),hI.ext.2.1,?_⟩ hrep ?_)
      ·intro k hk hk0;have:=(hI.ids i v id' hgv).1;simp only [Mu.add];rw [if_neg (by omega)];exact hI.ext.2.2 k hk hk0
      ·intro j u id2 hj hndj;simp only [Mu.add];split
       ·rename_i heq;subst heq;have:=hI.inj j i u v id2 hj hgv;subst this;exact absurd (zbK hilt) hndj
       ·exact idsSame j u id2 hj hndj
     ·cases hck
    ·rename_i hal;split at hck
     ·rename_i v' hq;have:=AV.beq_eq hck;subst this;obtain⟨x,g1,g2⟩:=zht hI.rep henv hq;exact zcu (zf0 hq) g1 (.inl rfl) (step hgv g2 (.refl μ) hI.ext hI.rep idsSame)
     ·cases hck
    ·cases hck
   ·cases hck
  | true=>
   have hib:i∈p.bars:=by
    rw [hp.bars];unfold zjx;rw [List.mem_filter];exact⟨by simpa using hin,by rw [ho];exact hbar⟩
   have hies:i∈es:=by
    rw [hsplit]at hib;rcases List.mem_append.1 hib with q|q
    ·exact absurd (hdone i q) hnd
    ·exact q
   obtain⟨es',rfl⟩:∃es',es=i :: es':=by
    cases es with
    | nil=>cases hies
    | cons e r=>
     rcases List.mem_cons.1 hies with rfl|q
     ·exact⟨r,rfl⟩
     ·have:=zgB hsplit hp.chain i q;exact absurd (hready e this) (hI.left e (by simp))
   have hrun:=hI.run;simp only [zeC,ho]at hrun
   cases hsome:(getV vals i).isSome with
   | true=>rw [hsome]at hrun;cases hrun
   | false=>
    rw [hsome]at hrun;have hnone:getV vals i=none:=by cases hq:getV vals i <;> simp_all
    simp only [cond_false]at hrun;have hnodup:∀e∈es',e≠i:=by
     intro e he q;subst q;have hb:=zgB hsplit hp.chain e he;exact hnd (hready e hb)
    have step:∀{μ1:Mu} {w1:World} {v:AV} {x:Value} {H1:AH},VR μ1 v x→Ext H μ H1 μ1→Rep P B w0 G μ1 H1 w1 →
      (match zfa P G ops p T (stage+1) (some i) ((i,v,none) :: vals) H1 with
       | some (vals,H)=>zeC P G self ops p T es' (stage+1) vals H
       | none=>none)=some (valsF,HF)→wpAnyIn (Fz ro) 0 P .any ops Q fuel (listed.setIfInBounds i true) (c.put o.dst x) w1:=by
     intro μ1 w1 v x H1 hx hext hrep hrest;split at hrest
     ·rename_i vals2 H2 hend;obtain⟨hadd,hck⟩:=zga (P:=P) (B:=B) (w0:=w0) (G:=G) hend μ1;have hadd0:=(zfE (P:=P) (B:=B) (w0:=w0) (G:=G) (H:=H1) μ1 (v:=v) hnone);have hrep2:=hadd.rep w1 hrep;have hext2:Ext H μ H2 μ1:=⟨hext.1,Nat.le_trans hext.2.1 hadd.next,hext.2.2⟩;refine ih es' (some i) (stage+1) vals2 H2 _ _ w1 μ1 ?_ hcnt';refine hI.next hp ho hnd hready hd (fun j y q=>hadd.old j y (hadd0.old j y q)) (hadd.old i _ zbd) hx hext.1 hrep2 (hI.ext.trans hext2)
       ⟨done ++ [i],by rw [hsplit];simp,by simp [hdl],?_⟩ ?_ ?_ ?_ ?_ hck hrest
      ·intro e he;rcases List.mem_append.1 he with q|q
       ·exact zaO (hdone e q)
       ·have:e=i:=by simpa using q
        subst this;exact zbK hilt
      ·intro e he q;rcases zeQ q with rfl|q
       ·exact hnodup e he rfl
       ·exact hI.left e (by simp [he]) q
      ·intro e he
       cases he
       exact zbK hilt
      ·intro j u id q;rcases hadd.new j u id q with q|q
       ·have q':getV vals j=some (u,some id):=by
         by_cases hij:i=j
         ·subst hij;rw [zbd]at q;cases q
         ·rw [zaQ hij]at q;exact q
        obtain⟨a1,a2,a3⟩:=hI.ids j u id q';exact⟨a1,Nat.lt_of_lt_of_le a2 hext2.2.1,fun hndj=>hext.2.2 id a2 (a3 (fun hdj=>hndj (zaO hdj)))⟩
       ·refine⟨?_,q.2,fun _=>hrep.notYet q.1⟩;have h1:=hI.ext.2.1;have h2:=hext.2.1;omega
      ·refine hadd.inj ?_ (hadd0.inj ?_ hI.inj)
       ·intro j u id q;have q':getV vals j=some (u,some id):=by
         by_cases hij:i=j
         ·subst hij;rw [zbd]at q;cases q
         ·rw [zaQ hij]at q;exact q
        have:=(hI.ids j u id q').2.1;have:=hext.2.1;omega
       ·intro j u id q;have:=(hI.ids j u id q).2.1;have:=hext.2.1;omega
     ·cases hrest
    split at hrun
    ·rename_i hwd;rw [hI.wanted hp ho hready hwd];simp only [if_true];exact znC hN hC hR hI.rep henv hrun (fun v H1 μ1 x w1 g1 g2 g3 g4=>step g3 g2 g4 g1)
    ·rename_i hwd;rw [hI.wanted hp ho hready hwd];simp only [Bool.false_eq_true,if_false];exact⟨fun f _=>zkI ro f,step (v:=.sc .undef) rfl (.refl H μ) hI.rep hrun⟩
    ·cases hrun
theorem zsN(hm:P.follows .mixedOrders=true)(hN:zbO P)(hC:zgW P B w0 G self)(hR:zeZ P B w0 G self)(hp:zi4 ops=some p){a a':Act}{H H':AH}{μ:Mu}{w:World}{c:CAct}
  (hr:zmw P G self ops p a H=some (a',H')) (h:Rep P B w0 G μ H w) (ha:zc3 P μ a c) {ro:Option Nat} {Q:Exit→CAct→World→Prop} {id:Nat}
  (hQ:∀c' μ' w',Ext H μ H' μ'→zc3 P μ' a' c'→Rep P B w0 G μ' H' w'→Q .normal c' w'):(Code.region id ops true).wpIn (Fz ro) 0 P Q c w:=by
 have hpl:=zp6 hp;unfold zmw at hr;split at hr
 ·rename_i vals1 H1 hend;split at hr
  ·rename_i valsF HF hbars;split at hr
   ·rename_i T' hlay;simp only [Option.some.injEq,Prod.mk.injEq]at hr;obtain⟨rfl,rfl⟩:=hr;obtain⟨hadd,hck⟩:=zga (P:=P) (B:=B) (w0:=w0) (G:=G) hend μ;refine wpIn_region_any hm ?_;have hrep:Rep P B w0 G μ H {w with drawn:=w.drawn+1}:=h.drewN _;have none:∀i,¬Did (Array.replicate ops.size false) i:=by
     intro i q;unfold Did at q;rw [Array.getD_eq_getD_getElem?,Array.getElem?_replicate]at q;split at q <;> simp at q
    have hcnt:cntF (fun i=>(Array.replicate ops.size false).getD i false) ops.size≤ops.size:=by
     have:∀n,cntF (fun i=>(Array.replicate ops.size false).getD i false) n≤n:=by
      intro n;induction n with
      | zero=>exact Nat.le_refl _
      | succ n ih=>simp only [cntF];split <;> omega
     exact this _
    refine zto hN hC hR hpl (ds:=a.ds) hlay hQ ops.size p.bars Option.none 0 vals1 H1 _ c _ μ ?_ hcnt;exact {
     rep:=hadd.rep _ hrep
     ext:=⟨.refl μ,hadd.next,fun _ _ q=>q⟩
     defers:=ha.2
     size:=ha.1.1
     lsize:=by simp
     closed:=fun i j q=>absurd q (none i)
     tmpsW:=fun j o d q=>absurd q (none j)
     tmps0:=fun t _ v q=>ha.1.2 t v q
     split:=⟨[],rfl,rfl,fun e he=>by cases he⟩
     left:=fun e _=>none e
     prevL:=fun e he=>by cases he
     ids:=by
      intro j v id q;rcases hadd.new j v id q with q|q
      ·simp [getV]at q
      ·exact⟨q.1,q.2,fun _=>h.notYet q.1⟩
     inj:=hadd.inj (fun j v id q=>by simp [getV]at q) (fun i j v v' id q=>by simp [getV]at q)
     check:=hck
     run:=hbars}
   ·cases hr
  ·cases hr
 ·cases hr
end
def XRel:AX→Exit→Prop
 | .normal,.normal=>True
 | .exit i,.exit j=>i=j
 | .goto i,.goto j=>i=j
 | .ret,.ret=>True
 | _,_=>False
def zni(μ:Mu):Option Nat→Option Nat→Prop
 | none,r=>r=none
 | some l,r=>∃b N,μ l=some (b,N)∧r=some b
theorem zni.mono{μ ν:Mu}(h:μ.le ν):∀{a b:Option Nat},zni μ a b→zni ν a b
 | none,_,h'=>h'
 | some _,_,⟨b,N,hm,e⟩=>⟨b,N,h _ _ hm,e⟩
def zmd(P:Program)(B:Nat)(w0:World)(G:Sett)(μ:Mu)(H:AH)(x:AX)(a':Act)(H':AH):Exit→CAct→World→Prop:=
 fun e c' w'=>XRel x e∧∃μ',Ext H μ H' μ'∧zc3 P μ' a' c'∧Rep P B w0 G μ' H' w'
def zot(P:Program)(B:Nat)(w0:World)(G:Sett)(sf:Cb):Prop:=
 ∀ro fn cd a H x a' H',sf.code ro fn cd a H=some (x,a',H')→∀μ w c ro',zni μ ro ro'→Rep P B w0 G μ H w→zc3 P μ a c→cd.wpIn (Fz ro') 0 P (zmd P B w0 G μ H x a' H') c w
section
variable {P:Program} {B:Nat} {w0:World} {G:Sett} {self:Cb}
theorem zce{b:Frame}{a:CAct}{k:List Item}{cs:List Frame}{w:World}{c:Code}:step P (lone (b.atR a (.code (.scope c) :: k)) cs w) = .next (lone (b.atR a (.code c :: .inScope c :: k)) cs w):=
 step_lone_go (by simp [stepG,stepG.exec,Frame.atR])
theorem ziq{b:Frame}{a:CAct}{k:List Item}{cs:List Frame}{w:World}{c:Code}:step P (lone (b.atR a (.inScope c :: k)) cs w) = .next (lone (b.atR a k) cs w):=
 step_lone_go (by simp [stepG,stepG.exec,Frame.atR])
def ztf(Q:Exit→CAct→World→Prop):Exit→CAct→World→Prop
 | .goto _,_,_=>False
 | e,a,w=>Q e a w
theorem zow{F:Fence}{n:Nat}{c:Code}{Q:Exit→CAct→World→Prop}{a:CAct}{w:World}(h:c.wpIn F n P (ztf Q) a w):(Code.scope c).wpIn F n P Q a w:=by
 intro b k cs hro hb hr;have h0:(lone (b.atR a (.code (.scope c) :: k)) cs w).fenced P F:=fenced_calm hb hr rfl;obtain⟨e,a₁,w₁,hq,harr⟩:=h b (.inScope c :: k) cs hro hb hr
 cases e with
 | normal=>exact⟨.normal,a₁,w₁,hq,.head h0 zce (StepsIn.trans harr (.one (fenced_calm hb hr rfl) ziq))⟩
 | exit id=>
  have hx:exitTo id (.inScope c :: k)=exitTo id k:=by simp [exitTo]
  exact⟨_,a₁,w₁,hq,fun k' hk => .head h0 zce (harr.1 k' (by rw [hx];exact hk)),
   fun hr' hk=>let ⟨k₁,h1,h2⟩:=harr.2 hr' (by rw [hx];exact hk);⟨k₁,h1,.head h0 zce h2⟩⟩
 | goto l=>exact hq.elim
 | ret=>exact⟨_,a₁,w₁,hq,.of_steps (.one h0 zce) harr⟩
 | panic ch=>exact⟨_,a₁,w₁,hq,.of_steps (.one h0 zce) harr⟩
 | outgrown=>exact⟨_,a₁,w₁,hq,.of_steps (.one h0 zce) harr⟩
theorem zmd.trans{μ μ1:Mu}{H H1 H':AH}{x:AX}{a':Act}(h1:Ext H μ H1 μ1){e:Exit}{c:CAct}{w:World}(h:zmd P B w0 G μ1 H1 x a' H' e c w):zmd P B w0 G μ H x a' H' e c w:=by
 obtain⟨hx,μ',h2,h3⟩:=h;exact⟨hx,μ',h1.trans h2,h3⟩
theorem znX{cd:Code}{f:Act→AH→Option (AX × Act × AH)}{ro ro':Option Nat}(hf:∀a H x a' H',f a H=some (x,a',H')→∀μ w c,zni μ ro ro'→Rep P B w0 G μ H w→zc3 P μ a c→cd.wpIn (Fz ro') 0 P (zmd P B w0 G μ H x a' H') c w) :
  ∀(m:Nat) (a:Act) (H:AH) (x:AX) (a':Act) (H':AH),zqp f m a H=some (x,a',H')→∀μ w c,zni μ ro ro'→Rep P B w0 G μ H w→zc3 P μ a c →
   ∀Q:Exit→CAct→World→Prop,(∀e c' w',zmd P B w0 G μ H x a' H' e c' w'→Q e c' w')→Code.roundsIn (Fz ro') 0 P cd Q m c w
 | 0,a,H,x,a',H',h,_,_,_,_,_,_,_,_=>by simp [zqp]at h
 | m+1,a,H,x,a',H',h,μ,w,c,hro,hrep,ha,Q,hQ=>by
  simp only [zqp]at h;show cd.wpIn (Fz ro') 0 P (Exit.then (Code.roundsIn (Fz ro') 0 P cd Q m) Q) c w
  split at h
  ·rename_i a1 H1 h1;refine wpIn_mono (hf _ _ _ _ _ h1 μ w c hro hrep ha) ?_;rintro e c1 w1 ⟨hx,μ1,g1,g2,g3⟩
   cases e <;> first|exact hx.elim|skip
   exact znX hf m a1 H1 x a' H' h μ1 w1 c1 (hro.mono g1.1) g3 g2 Q (fun e c' w' q=>hQ e c' w' (q.trans g1))
  ·rename_i hne;refine wpIn_mono (hf _ _ _ _ _ h μ w c hro hrep ha) ?_;rintro e c1 w1 q;have q':=q;obtain⟨hx,μ1,g1,g2,g3⟩:=q
   cases e <;> cases x <;> first|exact hx.elim|exact hQ _ _ _ q'|exact absurd h (hne _ _)
theorem zgy{fn:Func}{tmps:Array Value}{R:Ending→World→Prop}:∀(ds:List Mark) (H:AH) (k:AH→Option (AV × AH)) (r:AV × AH),zhX H ds k=some r→∀μ w (l:List Deferred),Rep P B w0 G μ H w→DR P μ ds l →
  (∀H' w',H'.next=H.next→Rep P B w0 G μ H' w'→k H'=some r→∃v,(results fn tmps).run P w' = .ok v w'∧R (.returned v) w')→LeavesInM Fence.wide 0 P fn tmps R l .returning w
 | [],H,k,r,h,μ,w,l,hrep,hl,hK=>by
  have hl':l = []:=hl;subst hl';exact hK H w rfl hrep h
 | .still :: ds,H,k,r,h,μ,w,l,hrep,hl,hK=>by
  obtain⟨d,t,rfl,hd,ht⟩:=hl;obtain⟨g,cap,h1,h2,h3⟩:=hd;simp only [zhX]at h;refine⟨by simp,.inr ⟨(fun q=>by cases q),.func g,cap,g,d.args ++ cap,h1,h2 w,fun _ _=>trivial,(h3 w).mono ?_⟩⟩;rintro e u w' ⟨⟨v,rfl⟩,rfl,hh,hb⟩;refine zgy ds H k r h μ w' t (hrep.same hh ?_) ht hK;exact hrep.below.trans (hb.mono hrep.baseNow)
 | .loop i :: ds,H,k,r,h,μ,w,l,hrep,hl,hK=>by
  obtain⟨b,N,t,rfl,hm,ht⟩:=hl;simp only [zhX]at h;split at h
  ·rename_i ho;rw [zbR]at h;obtain⟨hB,hw⟩:=hrep.defd _ _ _ _ ho hm;rw [if_pos rfl]at hw;refine⟨by simp,.inl ⟨b,zaz w b (.deferred none),rfl,by simp [Instr.takeDeferred,getObj,setObj,Sem.run,hw,zaz],?_⟩⟩;refine zgy ds (H.set i (.defd false)) k r h μ _ t (hrep.setObj ho hm hB (by simp) (by simp) (by simp) ?_) ht (fun H' w' q1 q2 q3=>hK H' w' q1 q2 q3);exact⟨(by intro _ he;cases he),(by intro _ _ _ he;cases he),(by intro _ _ _ _ he;cases he),(by intro _ _ he;cases he),(by intro _ _ _ _ _ _ _ _ _ he;cases he),(by intro op he;cases he;rfl)⟩
  ·cases h
def resF(tmps:Array Value):ResultVar→Sem Value
 | .tmp t=>pure (tmps.getD t undef)
 | .cell a t=>do loadVar t (←asAddr (tmps.getD a undef))
theorem ziZ(fn:Func)(tmps:Array Value):results fn tmps=(do
  let vs ←fn.results.mapM (resF tmps)
  pure (if h:vs.size=1 then vs[0]else .tuple vs)):=by
 have:(fun (q:ResultVar)=>match q with
   | .tmp t=>(pure (tmps.getD t undef):Sem Value)
   | .cell a t=>do loadVar t (←asAddr (tmps.getD a undef)))=resF tmps:=by
  funext q;cases q <;> rfl
 unfold results;rw [←this];rfl
theorem zd3{μ:Mu}{H:AH}{w:World}(h:Rep P B w0 G μ H w){a:Act}{c:CAct}(ha:TR μ a.nt a.T c.tmps):∀{rs:List ResultVar} {vs:AV},zb0 P H a rs=some vs →
  ∃xs:List Value,(rs.mapM (resF c.tmps)).run P w = .ok xs w∧LR μ vs xs
 | [],vs,hr=>by simp [zb0]at hr;subst hr;exact⟨[],rfl,rfl⟩
 | .tmp t :: rs,vs,hr=>by
  simp only [zb0]at hr;split at hr
  ·rename_i v us hv hus;simp at hr;subst hr
   obtain⟨xs,h1,h2⟩:=zd3 h ha hus;have h0:(resF c.tmps (.tmp t)).run P w = .ok (c.tmps.getD t undef) w:=rfl;exact⟨c.tmps.getD t undef :: xs,by simp only [List.mapM_cons,Sem.run_bind,h0,h1,Result.andThen_ok,Sem.run_pure],LR.cons (ha.2 t v hv) h2⟩
  ·cases hr
 | .cell t ty :: rs,vs,hr=>by
  simp only [zb0]at hr;split at hr
  ·rename_i i off hv;have hp:=ha.2 t _ hv;have fin:∀{y:Value} {v us:AV},(Instr.loadAt ty (c.tmps.getD t undef)).run P w = .ok y w→VR μ v y→zb0 P H a rs=some us→∃xs:List Value,((ResultVar.cell t ty :: rs).mapM (resF c.tmps)).run P w = .ok xs w∧LR μ (.cons v us) xs:=by
    intro y v us h3 h4 hus;obtain⟨xs,h1,h2⟩:=zd3 h ha hus;obtain⟨b,N,hm,hx⟩:=hp;rw [hx]at h3;have h3':(loadVar ty ⟨b,off,none⟩).run P w = .ok y w:=by simpa [Instr.loadAt,Instr.sureAddr]using h3
    have h0:(resF c.tmps (.cell t ty)).run P w = .ok y w:=by
     simp only [resF,hx,asAddr,Sem.run_bind,Sem.run_pure,Result.andThen_ok,h3']
    exact⟨y :: xs,by simp only [List.mapM_cons,Sem.run_bind,h0,h1,Result.andThen_ok,Sem.run_pure],LR.cons h4 h2⟩
   split at hr
   ·rename_i n hg hs;split at hr
    ·rename_i cs us hc hus;simp at hr;subst hr
     obtain⟨y,h3,h4⟩:=znZ h hg hs hp hc;exact fin h3 h4 hus
    ·cases hr
   ·rename_i n hg hs;split at hr
    ·rename_i v r us hc hus;simp at hr;subst hr
     obtain⟨y,h3,h4⟩:=znY h hg hp hc;exact fin h3 h4 hus
    ·cases hr
   ·cases hr
  ·cases hr
theorem zgK{nt:Nat}:∀(vs:AV) (s:Nat) (T:Tr AV) (k:Tr AV→Option (AV × AH)) (r:AV × AH),zeA nt T (List.range' s vs.len) vs k=some r →
  ∃T',k T'=some r∧∀t v,T'.get t=some v→(∃i,t=s+i∧vs.nth i=some v)∨T.get t=some v
 | .cons v vs,s,T,k,r,h=>by
  simp only [AV.len,List.range'_succ,zeA]at h
  cases hb:Nat.blt s nt with
  | false=>rw [hb]at h;cases h
  | true=>
   rw [hb]at h;simp only [cond_true,Tr.setK_eq]at h;obtain⟨T',h1,h2⟩:=zgK vs (s+1) _ k r h;refine⟨T',h1,?_⟩;intro t u q;rcases h2 t u q with⟨i,rfl,hi⟩|q
   ·exact .inl ⟨i+1,by omega,hi⟩
   ·rcases Tr.get_set deep T s (some v) t u q with⟨rfl,q'⟩|⟨_,q'⟩
    ·cases q';exact .inl ⟨0,by omega,rfl⟩
    ·exact .inr q'
 | .nil,s,T,k,r,h=>by
  simp only [AV.len,List.range'_zero,zeA]at h;exact⟨T,h,fun t v q => .inr q⟩
 | .sc _,_,_,_,_,h | .ptr ..,_,_,_,_,h | .slc ..,_,_,_,_,h | .map _,_,_,_,_,h | .yield _,_,_,_,_,h | .fn ..,_,_,_,_,h | .iface ..,_,_,_,_,h | .agg _,_,_,_,_,h | .tup _,_,_,_,_,h=>by
  simp [AV.len,zeA]at h
theorem zk7{μ:Mu}{nt:Nat}:∀(ts:List Tmp) (vs:AV) (ys:List Value) (T:Tr AV) (tmps:Array Value) (k:Tr AV→Option (AV × AH)) (r:AV × AH),zeA nt T ts vs k=some r→LR μ vs ys→TR μ nt T tmps →
  ts.length=ys.length∧∃T',k T'=some r∧TR μ nt T' ((ts.zip ys).foldl (fun tmps (q:Tmp × Value)=>tmps.setIfInBounds q.1 q.2) tmps)
 | [],.nil,ys,T,tmps,k,r,h,hl,ht=>by
  have hl':ys = []:=hl;subst hl';exact⟨rfl,T,h,ht⟩
 | t :: ts,.cons v vs,ys,T,tmps,k,r,h,hl,ht=>by
  obtain⟨y,ys',rfl,h1,h2⟩:=hl;simp only [zeA]at h
  cases hb:Nat.blt t nt with
  | false=>rw [hb]at h;cases h
  | true=>
   rw [hb]at h;simp only [cond_true,Tr.setK_eq]at h;obtain⟨g1,T',g2,g3⟩:=zk7 ts vs ys' _ (tmps.setIfInBounds t y) k r h h2 (ht.put ((zca _ _).1 hb) h1);exact⟨by simp [g1],T',g2,by simpa using g3⟩
 | [],.cons ..,_,_,_,_,_,h,_,_ | [],.sc _,_,_,_,_,_,h,_,_ | [],.ptr ..,_,_,_,_,_,h,_,_ | [],.slc ..,_,_,_,_,_,h,_,_ | [],.map _,_,_,_,_,_,h,_,_ | [],.yield _,_,_,_,_,_,h,_,_ | [],.fn ..,_,_,_,_,_,h,_,_ | [],.iface ..,_,_,_,_,_,h,_,_ | [],.agg _,_,_,_,_,_,h,_,_ | [],.tup _,_,_,_,_,_,h,_,_=>by simp [zeA]at h
 | _ :: _,.nil,_,_,_,_,_,h,_,_|_ :: _,.sc _,_,_,_,_,_,h,_,_|_ :: _,.ptr ..,_,_,_,_,_,h,_,_|_ :: _,.slc ..,_,_,_,_,_,h,_,_|_ :: _,.map _,_,_,_,_,_,h,_,_|_ :: _,.yield _,_,_,_,_,_,h,_,_|_ :: _,.fn ..,_,_,_,_,_,h,_,_|_ :: _,.iface ..,_,_,_,_,_,h,_,_|_ :: _,.agg _,_,_,_,_,_,h,_,_|_ :: _,.tup _,_,_,_,_,_,h,_,_=>by simp [zeA]at h
end
section
variable {P:Program} {B:Nat} {w0:World} {G:Sett} {self:Cb}
def zl9(self:Cb)(fn:FuncId)(pend:Option Code)(a:Act)(H:AH):Option (AX × Act × AH):=
 match pend with
 | none=>some (.normal,a,H)
 | some c=>self.code none fn c a H
theorem zrT(hm:P.follows .mixedOrders=true)(hN:zbO P)(hC:zgW P B w0 G self)(hR:zeZ P B w0 G self)(hK:zot P B w0 G self){ro:Option Nat}{fn:FuncId}{cd:Code}{a a':Act}{H H':AH}{x:AX}
  (h:zsQ P G self ro fn cd a H=some (x,a',H')) {μ:Mu} {w:World} {c:CAct} {ro':Option Nat} (hro:zni μ ro ro') (hrep:Rep P B w0 G μ H w) (ha:zc3 P μ a c):cd.wpIn (Fz ro') 0 P (zmd P B w0 G μ H x a' H') c w:=by
 unfold zsQ at h;split at h
 ·simp at h;obtain⟨rfl,rfl,rfl⟩:=h
  exact wpIn_skip ⟨trivial,μ,.refl H μ,ha,hrep⟩
 ·simp at h;obtain⟨rfl,rfl,rfl⟩:=h
  exact wpIn_label ⟨trivial,μ,.refl H μ,ha,hrep⟩
 ·simp at h;obtain⟨rfl,rfl,rfl⟩:=h
  exact wpIn_exit ⟨rfl,μ,.refl H μ,ha,hrep⟩
 ·simp at h;obtain⟨rfl,rfl,rfl⟩:=h
  exact wpIn_goto ⟨rfl,μ,.refl H μ,ha,hrep⟩
 ·simp at h;obtain⟨rfl,rfl,rfl⟩:=h
  exact wpIn_ret ⟨trivial,μ,.refl H μ,ha,hrep⟩
 ·rename_i id ops draw
  cases draw with
  | true=>
   simp only [cond_true]at h;split at h
   ·rename_i p hp;split at h
    ·rename_i a1 H1 hr;simp at h;obtain⟨rfl,rfl,rfl⟩:=h
     exact zsN hm hN hC hR hp hr hrep ha (fun c' μ' w' q1 q2 q3=>⟨trivial,μ',q1,q2,q3⟩)
    ·cases h
   ·cases h
  | false=>
   simp only [cond_false]at h;split at h
   ·rename_i a1 H1 hr;simp at h;obtain⟨rfl,rfl,rfl⟩:=h
    exact wpIn_region (zfR hN hC hR (fun q=>by cases ro with|none=>exact hro|some _=>cases q) _ _ _ _ _ _ _ _ hr hrep ha (fun c' μ' w' q1 q2 q3=>⟨trivial,μ',q1,q2,q3⟩))
   ·cases h
 ·rename_i cx cy;split at h
  ·rename_i a1 H1 h1;refine wpIn_seq (wpIn_mono (hK _ _ _ _ _ _ _ _ h1 μ w c ro' hro hrep ha) ?_);rintro e c1 w1 ⟨hx,μ1,g1,g2,g3⟩
   cases e <;> first|exact hx.elim|skip
   exact wpIn_mono (hK _ _ _ _ _ _ _ _ h μ1 w1 c1 ro' (hro.mono g1.1) g3 g2) (fun e c' w' q=>q.trans g1)
  ·rename_i hne;refine wpIn_seq (wpIn_mono (hK _ _ _ _ _ _ _ _ h μ w c ro' hro hrep ha) ?_);rintro e c1 w1 q;have q':=q;obtain⟨hx,μ1,g1,g2,g3⟩:=q
   cases e <;> cases x <;> first|exact hx.elim|exact q'|exact absurd h (hne _ _)
 ·rename_i cc cx cy;split at h
  ·rename_i hc;exact wpIn_cond_true (zhV hrep ha.1 hc) (hK _ _ _ _ _ _ _ _ h μ w c ro' hro hrep ha)
  ·rename_i hc;exact wpIn_cond_false (zhV hrep ha.1 hc) (hK _ _ _ _ _ _ _ _ h μ w c ro' hro hrep ha)
  ·cases h
 ·rename_i id body;split at h
  ·rename_i id' a1 H1 h1;refine wpIn_block (wpIn_mono (hK _ _ _ _ _ _ _ _ h1 μ w c ro' hro hrep ha) ?_);rintro e c1 w1 ⟨hx,hrest⟩
   cases e <;> first|exact hx.elim|skip
   rename_i j;have hij:id'=j:=hx;subst hij
   cases hb:Nat.beq id' id with
   | true=>
    rw [hb]at h;simp at h;obtain⟨rfl,rfl,rfl⟩:=h
    simp only [Exit.inBlock,if_pos ((zam _ _).1 hb)];exact⟨trivial,hrest⟩
   | false=>
    rw [hb]at h;simp at h;obtain⟨rfl,rfl,rfl⟩:=h
    simp only [Exit.inBlock,if_neg ((beq_false _ _).1 hb)];exact⟨rfl,hrest⟩
  ·rename_i hne;refine wpIn_block (wpIn_mono (hK _ _ _ _ _ _ _ _ h μ w c ro' hro hrep ha) ?_);rintro e c1 w1 q;have q':=q;obtain⟨hx,μ1,g1,g2,g3⟩:=q
   cases e <;> cases x <;> first|exact hx.elim|exact q'|exact absurd h (hne _ _ _)
 ·rename_i body;exact wpIn_loop_rounds 1000000 (znX (ro:=ro) (fun a H x a' H' hq μ w c q1 q2 q3=>hK _ _ _ _ _ _ _ _ hq μ w c ro' q1 q2 q3) _ _ _ _ _ _ h μ w c hro hrep ha _ (fun _ _ _ q=>q))
 ·rename_i body;split at h
  ·cases h
  ·rename_i hne;refine zow (wpIn_mono (hK _ _ _ _ _ _ _ _ h μ w c ro' hro hrep ha) ?_);rintro e c1 w1 q;have q':=q;obtain⟨hx,μ1,g1,g2,g3⟩:=q
   cases e <;> cases x <;> first|exact hx.elim|exact q'|exact absurd h (hne _ _ _)
 ·rename_i g ps assign body;split at h
  ·rename_i f fs cs hg;have hro0:ro'=none:=hro;subst hro0;simp only [zf7]at h;split at h
   ·rename_i v H3 hcall;obtain⟨⟨fnr,hfn,hbody⟩,hcalls⟩:=hC.2 _ _ _ _ _ hcall;obtain⟨us,vs,hev,hus,hvs⟩:=zhV hrep ha.1 hg;refine wpIn_rangeFunc (F:=Fence.wide) ?_;intro fn' _;have hun0:=hrep.notYet (i:=H.next) (Nat.le_refl _);have hrep1:Rep P B w0 G (μ.add H.next w.heap.size 0) (H.withNew (.defd true)) (w.alloc (.deferred (some []))):=by
     refine(hrep.layObj (.defd true) (by simp)).bind (oi:=.defd true) (N:=0) (Nat.lt_succ_self _) ?_ hun0 ⟨(by intro _ he;cases he),(by intro _ _ _ he;cases he),(by intro _ _ _ _ he;cases he),(by intro _ _ he;cases he),(by intro _ _ _ _ _ _ _ _ _ he;cases he),(by intro op he;cases he;rfl)⟩;intro o ho;rcases Tr.get_set deep H.objs H.next (some (.defd true)) H.next o ho with⟨_,q⟩|⟨q,_⟩
     ·exact(Option.some.inj q).symm
     ·exact absurd rfl q
    have hun1:=hrep1.notYet (i:=H.next+1) (Nat.le_refl _);have hsz1:(w.alloc (.deferred (some []))).heap.size=w.heap.size+1:=World.size_alloc _ _;let L:Loop:={state:=.ready,pending:=none,fn:=fn',tmps:=c.tmps,params:=ps,assign,body,defers:=w.heap.size}
    have hrep2:Rep P B w0 G ((μ.add H.next w.heap.size 0).add (H.next+1) (w.heap.size+1) 0) ((H.withNew (.defd true)).withNew (.loop .ready none fn a.nt a.T ps.toList assign body H.next)) ((w.alloc (.deferred (some []))).alloc (.loop L)):=by
     rw [←hsz1];refine(hrep1.layObj (.loop .ready none fn a.nt a.T ps.toList assign body H.next) (by simp)).bind (oi:=.loop .ready none fn a.nt a.T ps.toList assign body H.next) (N:=0) (Nat.lt_succ_self _) ?_ hun1 ⟨(by intro _ he;cases he),(by intro _ _ _ he;cases he),(by intro _ _ _ _ he;cases he),(by intro _ _ he;cases he),?_,(by intro op he;cases he)⟩
     ·intro o ho;rcases Tr.get_set deep (H.withNew (.defd true)).objs (H.next+1) (some (.loop .ready none fn a.nt a.T ps.toList assign body H.next)) (H.next+1) o ho with⟨_,q⟩|⟨q,_⟩
      ·exact(Option.some.inj q).symm
      ·exact absurd rfl q
     ·intro st pend f' nt' T' ps' as' bd' dd' he
      cases he
      exact⟨L,w.heap.size,0,rfl,rfl,rfl,ha.1.mono (Mu.le_add hun0),rfl,rfl,rfl,if_pos rfl,rfl⟩
    have hle02:μ.le ((μ.add H.next w.heap.size 0).add (H.next+1) (w.heap.size+1) 0):=(Mu.le_add hun0).trans (Mu.le_add hun1);have hargs:LR ((μ.add H.next w.heap.size 0).add (H.next+1) (w.heap.size+1) 0) (fs.app (.cons (.yield (H.next+1)) cs)) ((us ++ #[Value.func (.yield (w.heap.size+1)) #[] #[]]) ++ vs).toList:=by
     rw [Array.append_assoc];refine zim (LR.mono hle02 hus) ?_;rw [Array.toList_append];exact LR.cons ⟨_,0,if_pos rfl,rfl⟩ (LR.mono hle02 hvs)
    have hbn:fnr.body.isNone=false:=by cases hq:fnr.body <;> simp_all
    refine⟨w.heap.size+1,[{target:=.collected w.heap.size,args:=#[]}],(w.alloc (.deferred (some []))).alloc (.loop L),{target:=.fn (.func f) vs,args:=us ++ #[Value.func (.yield (w.heap.size+1)) #[] #[]]},(w.alloc (.deferred (some []))).alloc (.loop L),f,(us ++ #[Value.func (.yield (w.heap.size+1)) #[] #[]]) ++ vs,(w.alloc (.deferred (some []))).alloc (.loop L),
     ?_,?_,fun _ _=>trivial,?_,(fun q=>by cases q),((hcalls _ _ _ hrep2 hargs).mono ?_)⟩
    ·simp [Instr.enterLoop,Fence.wide,L]
    ·simp only [resolve,hev,Deferred.ofValue,Sem.run_pure,List.map_toArray,List.map_cons,List.map_nil];rfl
    ·simp only [invoke,callFunc,Sem.run_bind,run_program,Result.andThen_ok,hfn,hN f fnr hfn hbody,hbn,Bool.false_eq_true,if_false];rfl
    ·rintro e w3 ⟨y,μ3,rfl,hext3,hy,hrep3⟩;split at h
     ·rename_i st pend fn2 nt2 tm2 ps2 as2 bd2 dd2 hget;have hml:μ3 (H.next+1)=some (w.heap.size+1,0):=hext3.1 _ _ (if_pos rfl);obtain⟨hB,L3,d3,M3,hw3,e1,e2,e3,e4,e5,e6,e7,e8⟩:=hrep3.loop _ _ _ _ _ _ _ _ _ _ _ _ hget hml;have hend:st ≠ .busy→(Instr.endLoop (w.heap.size+1)).run P w3 = .ok pend (zaz w3 (w.heap.size+1) (.loop {L3 with state:=.exhausted})):=by
       intro hst;have hne:¬L3.state=LoopState.busy:=by rw [e1];exact hst
       simp [Instr.endLoop,Instr.getLoop,getObj,setObj,Sem.run,hw3,hne,zaz,e2]
      have hset:=hrep3.setObj (oj:=.loop .exhausted pend fn2 nt2 tm2 ps2 as2 bd2 dd2) (o:=.loop {L3 with state:=.exhausted}) hget hml hB (by simp) (by simp) (by simp)
       ⟨(by intro _ he;cases he),(by intro _ _ _ he;cases he),(by intro _ _ _ _ he;cases he),(by intro _ _ he;cases he),(by intro _ _ _ _ _ _ _ _ _ he;cases he;exact⟨_,d3,M3,rfl,rfl,e2,e3,e4,e5,e6,e7,e8⟩),(by intro op he;cases he)⟩
      have hext:Ext H μ (H3.set (H.next+1) (.loop .exhausted pend fn2 nt2 tm2 ps2 as2 bd2 dd2)) μ3:=by
       refine⟨hle02.trans hext3.1,?_,?_⟩
       ·have h1:=hext3.2.1;have h2:H.next+1+1≤H3.next:=h1;show H.next≤H3.next
        omega
       ·intro i hi hi0;refine hext3.2.2 i (show i<H.next+1+1 by omega) ?_;simp only [Mu.add];rw [if_neg (by omega),if_neg (by omega)];exact hi0
      have hact:zc3 P μ3 {T:=a.T,nt:=a.nt,ds:=.loop H.next :: a.ds} {c with defers:=[{target:=.collected w.heap.size,args:=#[]}] ++ c.defers}:=
       ⟨ha.1.mono hext.1,w.heap.size,0,c.defers,rfl,hext3.1 _ _ (by simp only [Mu.add];rw [if_neg (by omega)];exact if_pos trivial),ha.2.mono hext.1⟩
      have fin:st ≠ .busy→(zl9 self fn pend {T:=a.T,nt:=a.nt,ds:=.loop H.next :: a.ds} (H3.set (H.next+1) (.loop .exhausted pend fn2 nt2 tm2 ps2 as2 bd2 dd2))=some (x,a',H')) →
        rangePost Fence.wide 0 P (w.heap.size+1) (zmd P B w0 G μ H x a' H') {c with defers:=[{target:=.collected w.heap.size,args:=#[]}] ++ c.defers} (.returned y) w3:=by
       intro hst hh;refine⟨pend,_,hend hst,?_⟩
       cases pend with
       | none=>
        simp [zl9]at hh;obtain⟨rfl,rfl,rfl⟩:=hh
        exact⟨trivial,μ3,hext,hact,hset⟩
       | some cc=>
        exact wpIn_mono (hK _ _ _ _ _ _ _ _ hh μ3 _ _ none rfl hset hact) (fun e c' w' q=>q.trans hext)
      cases st with
      | busy=>cases h
      | ready=>exact fin (by simp) (by simp only [zbR]at h;exact h)
      | done=>exact fin (by simp) (by simp only [zbR]at h;exact h)
      | exhausted=>exact fin (by simp) (by simp only [zbR]at h;exact h)
     ·cases h
   ·cases h
  ·cases h
 ·cases h
end
section
variable {P:Program} {B:Nat} {w0:World} {G:Sett} {self:Cb}
theorem zrX(hK:zot P B w0 G self){f:FuncId}{args:AV}{H:AH}{v:AV}{H':AH}(h:zsR P self f args H=some (v,H')) :
  (∃fn:Func,P.funcs[f]? = some fn∧fn.body.isSome=true)∧∀μ w (xs:Array Value),Rep P B w0 G μ H w→LR μ args xs.toList→CallsIn Fence.wide 0 P f xs w (znm P B w0 G μ H v H'):=by
 unfold zsR at h;split at h
 ·rename_i fn hfn;split at h
  ·rename_i body hbody;refine⟨⟨fn,hfn,by rw [hbody];rfl⟩,?_⟩;intro μ w xs hrep hxs
   cases hle:Nat.ble args.len fn.ntmps with
   | false=>rw [hle]at h;cases h
   | true=>
    rw [hle]at h;have hle:=Nat.le_of_ble_eq_true hle;simp only [cond_true,List.range_eq_range']at h;obtain⟨T,h1,h2⟩:=zgK _ _ _ _ _ h;have hlen:=hxs.len;rw [Array.length_toList]at hlen;refine callsIn_of_wp_marks hfn hbody trivial ?_;have hT:TR μ fn.ntmps T (xs ++ Array.replicate (fn.ntmps-xs.size) undef):=by
     refine⟨by simp;omega,?_⟩;intro t u q;rcases h2 t u q with⟨i,rfl,hi⟩|q
     ·obtain⟨y,hy,hyv⟩:=hxs.nth hi;have hy':xs[i]? = some y:=by simpa using hy
      have hlt:i<xs.size:=(Array.getElem?_eq_some_iff.1 hy').1;rw [Nat.zero_add,Array.getD_eq_getD_getElem?,Array.getElem?_append_left hlt,hy'];exact hyv
     ·simp [Tr.get]at q
    split at h1
    ·rename_i x a1 H1 hcode;have hc:=hK _ _ _ _ _ _ _ _ hcode μ w {tmps:=xs ++ Array.replicate (fn.ntmps-xs.size) undef,defers:=[]} none rfl hrep ⟨hT,rfl⟩;refine wpIn_mono (F:=Fence.wide) hc ?_;rintro e c1 w1 ⟨hx,μ1,hext,hact,hrep1⟩;have fin:zhX H1 a1.ds (fun H=>match zb0 P H a1 fn.results.toList with
       | some (.cons v .nil)=>some (v,H)
       | some vs=>some (.tup vs,H)
       | none=>none)=some (v,H')→LeavesInM Fence.wide 0 P fn c1.tmps (znm P B w0 G μ H v H') c1.defers .returning w1:=by
      intro hends;refine zgy a1.ds H1 _ _ hends μ1 w1 c1.defers hrep1 hact.2 ?_;intro H2 w2 hn hrep2 hk;split at hk
      ·rename_i u hres;simp at hk;obtain⟨rfl,rfl⟩:=hk
       obtain⟨ys,g1,g2⟩:=zd3 hrep2 hact.1 hres;obtain⟨y,r,rfl,g3,g4⟩:=g2;have g4':r = []:=g4;subst g4';refine⟨y,?_,y,μ1,rfl,hext.trans (.same μ1 hn),g3,hrep2⟩;rw [ziZ];simp [Array.mapM_eq_mapM_toList,g1]
      ·rename_i vs hne hres;simp at hk;obtain⟨rfl,rfl⟩:=hk
       obtain⟨ys,g1,g2⟩:=zd3 hrep2 hact.1 hres;refine⟨.tuple ys.toArray,?_,.tuple ys.toArray,μ1,rfl,hext.trans (.same μ1 hn),⟨ys.toArray,rfl,g2⟩,hrep2⟩;have hsz:¬ys.length=1:=by
        intro q
        cases vs with
        | cons u t=>
         obtain⟨y,r,rfl,g3,g4⟩:=g2;have hr:r = []:=by apply List.length_eq_zero_iff.1;simpa using q
         subst hr
         cases t with
         | nil=>exact hne u rfl
         | cons u' t'=>obtain⟨_,_,q',_⟩:=g4;cases q'
         | _=>exact g4.elim
        | nil=>have:ys = []:=g2;subst this;simp at q
        | _=>exact g2.elim
       rw [ziZ];simp [Array.mapM_eq_mapM_toList,g1,hsz]
      ·cases hk
     cases x with
     | normal=>cases e <;> first|exact hx.elim|exact fin h1
     | ret=>cases e <;> first|exact hx.elim|exact fin h1
     | exit id=>cases h1
     | goto l=>cases h1
    ·cases h1
  ·cases h
 ·cases h
end
section
variable {P:Program} {B:Nat} {w0:World} {G:Sett} {self:Cb}
theorem zpT(hK:zot P B w0 G self){l:Nat}{xs:AV}{H:AH}{v:AV}{H':AH}(h:zpU self l xs H=some (v,H')){μ:Mu}{w:World}{b N:Nat}{ys:Array Value}(hrep:Rep P B w0 G μ H w)(hm:μ l=some (b,N))(hys:LR μ xs ys.toList) :
  ∃L:Loop,w.heap[b]? = some (.loop L)∧ys.size=L.params.size ∧
   RoundIn Fence.wide 0 P b L.fn ((L.params.zip ys).foldl (fun tmps (t,a)=>tmps.setIfInBounds t a) L.tmps) L.assign L.body w (znm P B w0 G μ H v H'):=by
 unfold zpU at h;split at h
 ·rename_i st pend fn nt tm ps zAs bd dd ho;obtain⟨hB,L,d,M,hw,e1,e2,e3,e4,e5,e6,e7,e8⟩:=hrep.loop _ _ _ _ _ _ _ _ _ _ _ _ ho hm;obtain⟨hlen,T,h1,hT⟩:=zk7 _ _ _ _ _ _ _ h hys e3;refine⟨L,hw,?_,?_⟩
  ·rw [←Array.length_toList,←hlen,←e4,Array.length_toList]
  ·have hfold:((L.params.zip ys).foldl (fun tmps (q:Tmp × Value)=>tmps.setIfInBounds q.1 q.2) L.tmps)=((ps.zip ys.toList).foldl (fun tmps (q:Tmp × Value)=>tmps.setIfInBounds q.1 q.2) L.tmps):=by
    rw [←Array.foldl_toList,Array.toList_zip,e4]
   refine roundIn_of_wpIn trivial ?_;split at h1
   ·rename_i a1 H1 hassign;have hA:=hK _ _ _ _ _ _ _ _ hassign μ w {tmps:=(L.params.zip ys).foldl (fun tmps (q:Tmp × Value)=>tmps.setIfInBounds q.1 q.2) L.tmps,defers:=[]} (some b) ⟨b,N,hm,rfl⟩ hrep ⟨by rw [hfold];exact hT,rfl⟩;rw [←e5]at hA;refine wpIn_mono (F:=Fence.wide.inRound b) hA ?_;rintro e c1 w1 ⟨hx,μ1,hext1,hact1,hrep1⟩
    cases e <;> first|exact hx.elim|skip
    have hm1:=hext1.1 _ _ hm;split at h1
    ·rename_i pend1 fn1 nt1 tm1 ps1 as1 bd1 dd1 ho1;obtain⟨hB1,L1,d1,M1,hw1,p1,p2,p3,p4,p5,p6,p7,p8⟩:=hrep1.loop _ _ _ _ _ _ _ _ _ _ _ _ ho1 hm1;rw [zbR]at h1;have hrep2:=hrep1.setObj (oj:=.loop .busy pend1 fn1 nt1 tm1 ps1 as1 bd1 dd1) (o:=.loop {L1 with state:=.busy}) ho1 hm1 hB1 (by simp) (by simp) (by simp)
      ⟨(by intro _ he;cases he),(by intro _ _ _ he;cases he),(by intro _ _ _ _ he;cases he),(by intro _ _ he;cases he),(by intro _ _ _ _ _ _ _ _ _ he;cases he;exact⟨_,d1,M1,rfl,rfl,p2,p3,p4,p5,p6,p7,p8⟩),(by intro op he;cases he)⟩
     refine⟨zaz w1 b (.loop {L1 with state:=.busy}),?_,?_⟩
     ·simp [Instr.beginRound,Instr.getLoop,getObj,setObj,Sem.run,hw1,p1,zaz]
     ·split at h1
      ·rename_i x a2 H2 hbody;have hB2:=hK _ _ _ _ _ _ _ _ hbody μ1 _ c1 (some b) ⟨b,N,hm1,rfl⟩ hrep2 hact1;rw [←e6]at hB2;refine wpIn_mono (F:=Fence.wide.inRound b) hB2 ?_;rintro e c2 w2 ⟨hx2,μ2,hext2,hact2,hrep3⟩;have hm2:=hext2.1 _ _ hm1;split at h1
       ·rename_i st3 pend3 fn3 nt3 tm3 ps3 as3 bd3 dd3 ho3;obtain⟨hB3,L3,d3,M3,hw3,r1,r2,r3,r4,r5,r6,r7,r8⟩:=hrep3.loop _ _ _ _ _ _ _ _ _ _ _ _ ho3 hm2;have fin:∀(jump:Option Code) (bb:Bool),jump.isNone=bb→v = .sc (.bool bb)→H'=H2.set l (.loop (bif bb then .ready else .done) jump fn3 nt3 tm3 ps3 as3 bd3 dd3) →
          ∃v' w',(Instr.endRound b jump).run P w2 = .ok v' w'∧znm P B w0 G μ H v H' (.returned v') w':=by
         rintro jump bb hj rfl rfl;have hset:=hrep3.setObj (oj:=.loop (bif bb then .ready else .done) jump fn3 nt3 tm3 ps3 as3 bd3 dd3) (o:=.loop {L3 with state:=if jump.isNone then .ready else .done,pending:=jump}) ho3 hm2 hB3 (by simp) (by simp) (by simp)
          ⟨(by intro _ he;cases he),(by intro _ _ _ he;cases he),(by intro _ _ _ _ he;cases he),(by intro _ _ he;cases he),(by intro _ _ _ _ _ _ _ _ _ he;cases he;exact⟨_,d3,M3,rfl,by rw [hj];cases bb <;> rfl,rfl,r3,r4,r5,r6,r7,r8⟩),(by intro op he;cases he)⟩
         refine⟨.bool bb,zaz w2 b (.loop {L3 with state:=if jump.isNone then .ready else .done,pending:=jump}),?_,.bool bb,μ2,rfl,?_,rfl,hset⟩
         ·simp [Instr.endRound,Instr.getLoop,getObj,setObj,Sem.run,hw3,zaz,hj]
         ·exact hext1.trans ((Ext.same μ1 rfl).trans (hext2.trans (Ext.same μ2 rfl)))
        cases x with
        | normal=>
         cases e <;> first|exact hx2.elim|skip
         simp only [zbR]at h1;simp at h1
         exact fin none true rfl h1.1.symm h1.2.symm
        | ret=>
         cases e <;> first|exact hx2.elim|skip
         simp only [zbR]at h1;simp at h1
         exact fin (some .ret) false rfl h1.1.symm h1.2.symm
        | exit id=>
         cases e <;> first|exact hx2.elim|skip
         have hij:id=_:=hx2;subst hij;simp only [zbR]at h1;simp at h1
         exact fin (some (.exit id)) false rfl h1.1.symm h1.2.symm
        | goto t=>cases h1
       ·cases h1
      ·cases h1
    ·cases h1
   ·cases h1
 ·cases h
end
section
variable {P:Program} {B:Nat} {w0:World} {G:Sett}
def zei(P:Program)(g:FuncId):Prop:=(∃fn:Func,P.funcs[g]? = some fn∧fn.body.isSome=true) ∧
  ∀args w,CallsDIn Fence.wide 0 P g args .returning w fun e u w'=>(∃v,e = .returned v)∧u = .returning∧w'.heap=w.heap∧Below w.heap.size w w'
theorem ztn(hm:P.follows .mixedOrders=true)(hN:zbO P){O:FuncId→AV→AH→Option (AV × AH)}(hO:zgH P B w0 G O){D:List FuncId}(hD:∀g∈D,zei P g) :
  ∀n,zgW P B w0 G (cb P G O D n)∧zeZ P B w0 G (cb P G O D n)∧zot P B w0 G (cb P G O D n)
 | 0=>⟨⟨fun g h=>hD g (by simpa [cb]using h),fun _ _ _ _ _ h=>(by cases h)⟩,fun _ _ _ _ _ h=>(by cases h),fun _ _ _ _ _ _ _ _ h=>(by cases h)⟩
 | n+1=>by
  obtain⟨hC,hR,hK⟩:=ztn hm hN hO hD n;refine⟨⟨fun g h=>hD g (by simpa [cb]using h),?_⟩,?_,?_⟩
  ·intro f args H v H' h;simp only [cb]at h;split at h
   ·rename_i r ho
    cases h
    exact hO _ _ _ _ _ ho
   ·exact zrX hK h
  ·intro l xs H v H' h μ w b N ys hrep hmu hys;exact zpT hK h hrep hmu hys
  ·intro ro fn cd a H x a' H' h μ w c ro' hro hrep ha;exact zrT hm hN hC hR hK h hro hrep ha
theorem zeV(hm:P.follows .mixedOrders=true)(hN:zbO P){O:FuncId→AV→AH→Option (AV × AH)}(hO:zgH P B w0 G O){D:List FuncId}(hD:∀g∈D,zei P g){n:Nat}{f:FuncId}{args:AV}{H:AH}{v:AV}{H':AH}
  (h:(cb P G O D n).call f args H=some (v,H')) {μ:Mu} {w:World} {xs:Array Value} (hrep:Rep P B w0 G μ H w) (hxs:LR μ args xs.toList):Calls P f xs w (znm P B w0 G μ H v H'):=
 callsIn_wide.1 (((ztn hm hN hO hD n).1.2 _ _ _ _ _ h).2 μ w xs hrep hxs)
end
section
variable {P:Program} {B:Nat} {w0:World} {G:Sett}
theorem Rep.onto{μ:Mu}{H:AH}{w w':World}(h:Rep P B w0 G μ H w)(hb:Below w.heap.size w w'):Rep P B w0 G μ H w' where
 resd:=h.resd
 hdom:=h.hdom
 fact:=fun i t ho=>let ⟨v,h1,h2⟩:=h.fact i t ho;⟨v,h1,G.stable _ _ _ _ (Kept.of_below hb) h2⟩
 free:=fun i b N e hB cs te fz q=>h.free i b N e hB cs te fz (by rw [←hb.block b (h.dom i b N e).2];exact q)
 below:=h.below.trans (hb.mono h.baseNow)
 base:=h.base
 dom:=fun i b N e=>⟨(h.dom i b N e).1,Nat.lt_of_lt_of_le (h.dom i b N e).2 hb.size⟩
 glob:=h.glob
 own:=h.own
 sep:=h.sep
 vtop:=h.vtop
 tip:=h.tip
 write:=h.write
 cells:=fun i fam ver e cs tip lw b N h1 h2 h3 h4=>by
  rw [hb.block b (h.dom i b N h4).2];exact h.cells i fam ver e cs tip lw b N h1 h2 h3 h4
 map:=fun i kt es b N h1 h2=>by
  rw [hb.block b (h.dom i b N h2).2];exact h.map i kt es b N h1 h2
 loop:=fun i st pend fn nt T ps zAs bd dd b N h1 h2=>by
  rw [hb.block b (h.dom i b N h2).2];exact h.loop i st pend fn nt T ps zAs bd dd b N h1 h2
 defd:=fun i op b N h1 h2=>by
  rw [hb.block b (h.dom i b N h2).2];exact h.defd i op b N h1 h2
def bare(res:List TypeId):AH where
 res:=res
 next:=10
 objs:=.nil
 fams:=.nil
def zte:Sett:=⟨[],[],fun _ _ _=>False,fun _ _ _ _ _ h=>h⟩
theorem zor{G:Sett}(hids:G.ids = [])(w:World):Rep P w.heap.size w G ⟨fun _=>none,fun _=>none⟩ (bare G.res) w:=by
 refine {resd:=rfl,hdom:=?_,fact:=?_,free:=?_,below:=Below.refl _ _,base:=Nat.le_refl _,dom:=?_,glob:=?_,own:=?_,sep:=?_,vtop:=?_,tip:=?_,write:=?_,cells:=?_,map:=?_,loop:=?_,defd:=?_};all_goals intros
 all_goals simp_all [bare,Tr.get]
def AH.hold(H:AH)(t:Tg):AH:=H.withNew (.opq t)
def Mu.hold(μ:Mu)(i:Nat)(v:Value):Mu:=⟨μ.blk,fun j=>if j=i then some v else μ.hd j⟩
theorem Rep.hold{μ:Mu}{H:AH}{w:World}(h:Rep P B w0 G μ H w){t:Tg}{v:Value}(hi:G.I t v w):Rep P B w0 G (μ.hold H.next v) (H.hold t) w∧Ext H μ (H.hold t) (μ.hold H.next v)∧(μ.hold H.next v).hd H.next=some v:=by
 have hle:μ.le (μ.hold H.next v):=⟨fun _ _ q=>q,fun i x q=>by
  have:=h.hdom i x q;simp only [Mu.hold];rw [if_neg (by omega)];exact q⟩
 have get:∀{j o},(H.hold t).objs.get j=some o→(j=H.next∧o = .opq t)∨(j<H.next∧H.objs.get j=some o):=by
  intro j o q;rcases Tr.get_set deep H.objs H.next (some (.opq t)) j o q with⟨h1,h2⟩|⟨_,h2⟩
  ·exact .inl ⟨h1,(Option.some.inj h2).symm⟩
  ·exact .inr ⟨(h.own _ _ h2).1,h2⟩
 have old:∀{j o},(H.hold t).objs.get j=some o→(∀t,o ≠ .opq t)→H.objs.get j=some o:=by
  intro j o q hn;rcases get q with⟨_,h1⟩|⟨_,h1⟩
  ·exact absurd h1 (hn t)
  ·exact h1
 have cls:∀{j o},(H.hold t).objs.get j=some o→(j=H.next∧o.cls j=H.next)∨(H.objs.get j=some o):=by
  intro j o q;rcases get q with⟨rfl,rfl⟩|⟨_,h1⟩
  ·exact .inl ⟨rfl,rfl⟩
  ·exact .inr h1
 have hun:=h.notYet (i:=H.next) (Nat.le_refl _);refine⟨⟨h.resd,?_,?_,h.free,h.below,h.base,fun i b N e=>⟨Nat.lt_succ_of_lt (h.dom i b N e).1,(h.dom i b N e).2⟩,h.glob,?_,?_,?_,?_,?_,?_,?_,?_,?_⟩,⟨hle,Nat.le_succ _,fun _ _ q=>q⟩,if_pos rfl⟩
 ·intro i x q;simp only [Mu.hold]at q;split at q
  ·rename_i e;subst e;exact Nat.lt_succ_self _
  ·exact Nat.lt_succ_of_lt (h.hdom i x q)
 ·intro i t' q;rcases get q with⟨rfl,h1⟩|⟨hlt,h1⟩
  ·cases h1;exact⟨v,if_pos rfl,hi⟩
  ·obtain⟨x,h2,h3⟩:=h.fact _ _ h1;exact⟨x,hle.hd _ _ h2,h3⟩
 ·intro i o q;rcases get q with⟨rfl,rfl⟩|⟨hlt,h1⟩
  ·exact⟨Nat.lt_succ_self _,Nat.lt_succ_self _⟩
  ·exact⟨Nat.lt_succ_of_lt hlt,Nat.lt_succ_of_lt (h.own _ _ h1).2⟩
 ·intro i j oi oj b N M h1 h2 h3 h4;rcases cls h1 with⟨rfl,_⟩|k1
  ·have:μ H.next=some (b,N):=h3;rw [hun]at this;cases this
  ·rcases cls h2 with⟨rfl,_⟩|k2
   ·have:μ H.next=some (b,M):=h4;rw [hun]at this;cases this
   ·exact h.sep i j oi oj b N M k1 k2 h3 h4
 ·exact fun i j fam vi ei ci vj ej cj lw h1 h2 h3 hne=>h.vtop _ _ _ _ _ _ _ _ _ _ (old h1 (by simp)) (old h2 (by simp)) h3 hne
 ·exact fun i j fam vi ei ci vj ej cj lw b N M h1 h2 h3 h4 h5 h6=>h.tip _ _ _ _ _ _ _ _ _ _ _ _ _ (old h1 (by simp)) (old h2 (by simp)) h3 h4 h5 h6
 ·exact fun i fam ver e cs lw b N h1 h2 h3=>h.write _ _ _ _ _ _ _ _ (old h1 (by simp)) h2 h3
 ·intro i fam ver e cs tip lw b N h1 h2 h3 h4;obtain⟨arr,te,fz,g1,g2,g3,g4,g5⟩:=h.cells _ _ _ _ _ _ _ _ _ (old h1 (by simp)) h2 h3 h4;exact⟨arr,te,fz,g1,g2,g3,g4.mono hle,g5⟩
 ·intro i kt es b N h1 h2;obtain⟨g1,en,cl,g2,g3⟩:=h.map _ _ _ _ _ (old h1 (by simp)) h2;exact⟨g1,en,cl,g2,g3.mono hle⟩
 ·intro i st pend fn nt T ps zAs bd dd b N h1 h2;obtain⟨g1,L,d,M,g2,g3,g4,g5,g6,g7,g8,g9,g10⟩:=h.loop _ _ _ _ _ _ _ _ _ _ _ _ (old h1 (by simp)) h2;exact⟨g1,L,d,M,g2,g3,g4,g5.mono hle,g6,g7,g8,g9,g10⟩
 ·exact fun i op b N h1 h2=>h.defd _ _ _ _ (old h1 (by simp)) h2
theorem zsk{O:FuncId→AV→AH→Option (AV × AH)} (h:∀f args H v H',O f args H=some (v,H')→(∃fn:Func,P.funcs[f]? = some fn∧fn.body.isSome=true)∧H'=H ∧
  ∀μ w (xs:Array Value),Rep P B w0 G μ H w→LR μ args xs.toList→Calls P f xs w fun e w'=>∃x,e = .returned x∧VR μ v x∧Below w.heap.size w w'):zgH P B w0 G O:=by
 intro f args H v H' ho;obtain⟨h1,rfl,h2⟩:=h _ _ _ _ _ ho;refine⟨h1,fun μ w xs hrep hxs=>callsIn_wide.2 ((h2 μ w xs hrep hxs).mono ?_)⟩;rintro e w' ⟨x,rfl,hv,hb⟩;exact⟨x,μ,rfl,Ext.refl _ _,hv,hrep.onto hb⟩
theorem zoY(h:(P.funcs.all fun fn => !(fn.body.isSome && fn.name == "runtime.NumGoroutine"))=true):zbO P:=by
 intro f fn hf hb;obtain⟨hlt,rfl⟩:=Array.getElem?_eq_some_iff.1 hf;have:=(Array.all_eq_true.1 h) f hlt;rw [hb]at this;simpa using this
end
inductive Sh where
 | one
 | str
 | agg (n:Nat)
def hcs(i:Nat):Nat→Nat→AV
 | _,0 => .nil
 | k,n+1 => .cons (.hc i k) (hcs i (k+1) n)
def wh(s:Sh)(i:Nat):AV:=
 match s with
 | .one => .hc i 0
 | .str => .hs i
 | .agg n => .agg (hcs i 0 n)
def ShOK(s:Sh)(v:Value):Prop:=
 match s with
 | .one=>v.oneCell'=true
 | .str=>∃s,v = .string s
 | .agg n=>∃xs:Array Value,v = .agg xs∧xs.size=n∧∀x∈xs.toList,x.oneCell'=true
theorem zr9{μ:Mu}{i:Nat}{xs:List Value}(hm:∃v,μ.hd i=some v∧v.cells.toList=xs)(h1:∀x∈xs,x.oneCell'=true):∀(n k:Nat),k+n=xs.length→LR μ (hcs i k n) (xs.drop k)
 | 0,k,h=>by rw [List.drop_eq_nil_of_le (by omega)];rfl
 | n+1,k,h=>by
  have hk:k<xs.length:=by omega
  rw [List.drop_eq_getElem_cons hk];obtain⟨v,hv,hc⟩:=hm;refine LR.cons ⟨v,hv,?_,h1 _ (List.getElem_mem hk)⟩ (zr9 ⟨v,hv,hc⟩ h1 n (k+1) (by omega));rw [←Array.getElem?_toList,hc,List.getElem?_eq_getElem hk]
theorem zsX{μ:Mu}{i:Nat}{s:Sh}{v:Value}(hm:μ.hd i=some v)(h:ShOK s v):VR μ (wh s i) v:=by
 cases s with
 | one=>
  have e:v.cells=#[v]:=by cases v <;> first|rfl|simp [ShOK,Value.oneCell']at h
  exact⟨v,hm,by rw [e];rfl,h⟩
 | str=>obtain⟨s,rfl⟩:=h;exact⟨s,hm,rfl⟩
 | agg n=>
  obtain⟨xs,rfl,hn,h1⟩:=h;refine⟨xs,rfl,?_⟩;have:=zr9 (μ:=μ) (i:=i) (xs:=xs.toList) ⟨_,hm,rfl⟩ h1 n 0 (by simpa using hn.symm);rw [List.drop_zero]at this;exact this
theorem zqC{μ:Mu}{i:Nat}{v:Value}(hm:μ.hd i=some v):∀(n k:Nat) (ys:List Value),k+n=v.cells.size→LR μ (hcs i k n) ys→ys=v.cells.toList.drop k
 | 0,k,ys,h,hy=>by
  have:ys = []:=hy;rw [this,List.drop_eq_nil_of_le (by simp;omega)]
 | n+1,k,ys,h,hy=>by
  obtain⟨y,r,rfl,h1,h2⟩:=hy;have hk:k<v.cells.toList.length:=by simp;omega
  rw [List.drop_eq_getElem_cons hk,zqC hm n (k+1) r (by omega) h2];obtain⟨v',h3,h4,h5⟩:=h1;rw [hm]at h3;cases h3;congr 1
  have:v.cells.toList[k]? = some y:=by simpa using h4
  rw [List.getElem?_eq_getElem hk]at this;exact(Option.some.inj this).symm
theorem zsW{μ:Mu}{i:Nat}{s:Sh}{v x:Value}(hm:μ.hd i=some v)(h:ShOK s v)(hx:VR μ (wh s i) x):x=v:=by
 cases s with
 | one=>
  have e:v.cells=#[v]:=by cases v <;> first|rfl|simp [ShOK,Value.oneCell']at h
  obtain⟨v',h1,h2,h3⟩:=hx;rw [hm]at h1;cases h1;rw [e]at h2;exact(Option.some.inj h2).symm
 | str=>
  obtain⟨s,h1,rfl⟩:=hx;rw [hm]at h1;cases h1;rfl
 | agg n=>
  obtain⟨xs,rfl,hn,h1⟩:=h;obtain⟨ys,rfl,h2⟩:=hx;have:=zqC hm n 0 ys.toList (by rw [Nat.zero_add,←hn];rfl) h2;rw [List.drop_zero]at this;have:ys=xs:=Array.toList_inj.1 this;rw [this]
inductive AT where
 | tag (t:Tg)
 | val (v:AV)
 | agg (cs:AT)
 | fn (f:FuncId) (fs cs:AT)
 | nil
 | cons (h t:AT)
def zrH:AV→Option Nat
 | .hc i _=>some i
 | .hs i=>some i
 | .agg (.cons (.hc i _) _)=>some i
 | _=>none
def zri(cls:Tg→Sh)(H:AH)(a:AV):Option Tg:=
 match zrH a with
 | some i=>match H.objs.get i with
  | some (.opq t)=>bif a.beq (wh (cls t) i)then some t else none
  | _=>none
 | none=>none
def zsT(cls:Tg→Sh)(H:AH)(a:AV):Option AT:=
 match zri cls H a with
 | some t=>some (.tag t)
 | none=>match a.closed with
  | some _=>some (.val a)
  | none=>none
def atOf(cls:Tg→Sh)(H:AH):AV→Option AT × Option AT
 | .nil=>(none,some .nil)
 | .cons a r=>(none,match (atOf cls H a).1,(atOf cls H r).2 with
  | some t,some ts=>some (.cons t ts)
  | _,_=>none)
 | .agg cs=>(match zri cls H (.agg cs)with
  | some t=>some (.tag t)
  | none=>match (AV.agg cs).closed with
   | some _=>some (.val (.agg cs))
   | none=>match (atOf cls H cs).2 with
    | some ts=>some (.agg ts)
    | none=>none,none)
 | .fn f fs cs=>(match (atOf cls H fs).2,(atOf cls H cs).2 with
  | some t,some ts=>some (.fn f t ts)
  | _,_=>none,none)
 | a=>(zsT cls H a,none)
theorem Tg.eq_of_beq{a:Tg}:∀{b:Tg},a.beq b=true→a=b:=by
 induction a with
 | leaf n=>intro b h;cases b <;> simp [Tg.beq]at h;rw [h]
 | un k a ih=>intro b h;cases b <;> simp [Tg.beq]at h;rw [h.1,ih h.2]
 | bin k a b ih1 ih2=>intro c h;cases c <;> simp [Tg.beq]at h;rw [h.1.1,ih1 h.1.2,ih2 h.2]
def zrD(H:AH)(t:Tg)(i:Nat):Bool:=
 match H.objs.get i with
 | some (.opq t')=>t'.beq t
 | _=>false
theorem zqA{H:AH}{t:Tg}{i:Nat}(h:zrD H t i=true):H.objs.get i=some (.opq t):=by
 unfold zrD at h;split at h
 ·rename_i t' e;rw [Tg.eq_of_beq h]at e;exact e
 ·cases h
def zhR(H:AH)(t:Tg):Nat→Option Nat
 | 0=>none
 | n+1=>bif zrD H t n then some n else zhR H t n
theorem zhQ{H:AH}{t:Tg}{i:Nat}:∀{n:Nat},zhR H t n=some i→H.objs.get i=some (.opq t)
 | 0,h=>by cases h
 | n+1,h=>by
  unfold zhR at h
  cases e:zrD H t n with
  | true=>
   rw [e]at h
   cases h
   exact zqA e
  | false=>
   rw [e]at h;exact zhQ h
def zn3(cls:Tg→Sh)(H:AH)(t:Tg):Option Nat:=
 match cls t with
 | .str=>zhR H t H.next
 | _=>none
def zgu{β:Type}(cls:Tg→Sh):AT→AH→(AV→AH→β)→β
 | .tag t,H,k=>match zn3 cls H t with
  | some i=>k (wh (cls t) i) H
  | none=>H.newObj (.opq t) fun i H=>k (wh (cls t) i) H
 | .val v,H,k=>k v H
 | .agg cs,H,k=>zgu cls cs H fun vs H=>k (.agg vs) H
 | .fn f fs cs,H,k=>zgu cls fs H fun us H=>zgu cls cs H fun vs H=>k (.fn f us vs) H
 | .nil,H,k=>k .nil H
 | .cons a r,H,k=>zgu cls a H fun v H=>zgu cls r H fun vs H=>k (.cons v vs) H
def znR:AV→AV
 | .cons v .nil=>v
 | vs => .tup vs
def zqd(cls:Tg→Sh)(T:FuncId→AT→Option AT)(f:FuncId)(args:AV)(H:AH):Option (AV × AH):=
 match (atOf cls H args).2 with
 | some ts=>match T f ts with
  | some rs=>zgu cls rs H fun vs H=>some (znR vs,H)
  | none=>none
 | none=>none
section
variable {P:Program} {B:Nat} {w0:World} {G:Sett}
def PC(G:Sett)(w:World):AT→(Value→Prop) × (List Value→Prop)
 | .tag t=>(fun x=>G.I t x w,fun _=>False)
 | .val v=>(fun x=>v.closed=some x,fun _=>False)
 | .agg cs=>(fun x=>∃xs:Array Value,x = .agg xs∧(PC G w cs).2 xs.toList,fun _=>False)
 | .fn f fs cs=>(fun x=>∃xs ys:Array Value,x = .func (.func f) xs ys∧(PC G w fs).2 xs.toList∧(PC G w cs).2 ys.toList,fun _=>False)
 | .nil=>(fun _=>False,fun xs=>xs = [])
 | .cons h t=>(fun _=>False,fun xs=>∃x r,xs=x :: r∧(PC G w h).1 x∧(PC G w t).2 r)
def za9(G:Sett)(t:AT)(x:Value)(w:World):Prop:=(PC G w t).1 x
def zb8(G:Sett)(t:AT)(xs:List Value)(w:World):Prop:=(PC G w t).2 xs
def zdq(G:Sett)(ts:AT)(x:Value)(w:World):Prop:=
 match ts with
 | .cons t .nil=>za9 G t x w
 | ts=>∃xs:Array Value,x = .tuple xs∧zb8 G ts xs.toList w
structure zgf(G:Sett)(cls:Tg→Sh):Prop where
 ok:∀t v w,G.I t v w→ShOK (cls t) v
 det:∀t,cls t = .str→∀v v' w,G.I t v w→G.I t v' w→v=v'
theorem ziW(μ:Mu):∀{v:AV} {l:List Value},zcW v=some l→LR μ v l
 | .nil,l,h=>by simp [zcW]at h;subst h;rfl
 | .cons (.sc s) t,l,h=>by
  simp only [zcW,Option.map_eq_some_iff]at h;obtain⟨r,h1,rfl⟩:=h;exact LR.cons rfl (ziW μ h1)
theorem zqW(μ:Mu){v:AV}{x:Value}(h:v.closed=some x):VR μ v x:=by
 unfold AV.closed at h;split at h
 ·cases h;rfl
 ·simp only [Option.map_eq_some_iff]at h;obtain⟨l,h1,rfl⟩:=h;exact⟨l.toArray,rfl,ziW μ h1⟩
 ·cases h
theorem zjs{μ:Mu}{v:AV}{x y:Value}(h:v.closed=some x)(hy:VR μ v y):y=x:=by
 unfold AV.closed at h;split at h
 ·cases h;exact hy
 ·simp only [Option.map_eq_some_iff]at h;obtain⟨l,h1,rfl⟩:=h;obtain⟨ys,rfl,h2⟩:=hy;have:=LR.det h1 h2;congr 1
  exact Array.toList_inj.1 (by simpa using this)
 ·cases h
theorem zhg{cls:Tg→Sh}(hs:zgf G cls){μ:Mu}{H:AH}{w:World}(h:Rep P B w0 G μ H w){a:AV}{t:Tg}(ht:zri cls H a=some t){x:Value}(hx:VR μ a x):G.I t x w:=by
 unfold zri at ht;split at ht
 ·rename_i i hi;split at ht
  ·rename_i t' ho
   cases hb:a.beq (wh (cls t') i)with
   | false=>rw [hb]at ht;cases ht
   | true=>
    rw [hb]at ht
    cases ht
    have:=AV.beq_eq hb;subst this;obtain⟨v,h1,h2⟩:=h.fact _ _ ho;rw [zsW h1 (hs.ok _ _ _ h2) hx];exact h2
  ·cases ht
 ·cases ht
theorem zgF{cls:Tg→Sh}(hs:zgf G cls){μ:Mu}{H:AH}{w:World}(h:Rep P B w0 G μ H w)(a:AV):(∀t,(atOf cls H a).1=some t→∀x,VR μ a x→za9 G t x w)∧(∀t,(atOf cls H a).2=some t→∀xs,LR μ a xs→zb8 G t xs w):=by
 have one:∀{a:AV} {t:AT},zsT cls H a=some t→∀x,VR μ a x→za9 G t x w:=by
  intro a t ht x hx;unfold zsT at ht;split at ht
  ·rename_i t' h1
   cases ht
   exact zhg hs h h1 hx
  ·split at ht
   ·rename_i c hc
    cases ht
    rw [zjs hc hx];exact hc
   ·cases ht
 induction a with
 | nil=>exact⟨fun t q=>(by cases q),fun t q xs hx=>(by cases q;exact hx)⟩
 | cons a r ih1 ih2=>
  refine⟨fun t q=>(by cases q),fun t q xs hx => ?_⟩;simp only [atOf]at q;split at q
  ·rename_i t' ts' h1 h2
   cases q
   obtain⟨x,r',rfl,h3,h4⟩:=hx;exact⟨x,r',rfl,ih1.1 _ h1 _ h3,ih2.2 _ h2 _ h4⟩
  ·cases q
 | agg cs ih=>
  refine⟨fun t q x hx => ?_,fun t q=>(by cases q)⟩;simp only [atOf]at q;split at q
  ·rename_i t' h1
   cases q
   exact zhg hs h h1 hx
  ·split at q
   ·rename_i c hc
    cases q
    rw [zjs hc hx];exact hc
   ·split at q
    ·rename_i ts hts
     cases q
     obtain⟨xs,rfl,h2⟩:=hx;exact⟨xs,rfl,ih.2 _ hts _ h2⟩
    ·cases q
 | fn f fs cs ih1 ih2=>
  refine⟨fun t q x hx => ?_,fun t q=>(by cases q)⟩;simp only [atOf]at q;split at q
  ·rename_i t' ts' h1 h2
   cases q
   obtain⟨xs,ys,rfl,h3,h4⟩:=hx;exact⟨xs,ys,rfl,ih1.2 _ h1 _ h3,ih2.2 _ h2 _ h4⟩
  ·cases q
 | _=>exact⟨fun t q x hx=>(by simp only [atOf]at q;exact one q x hx),fun t q=>(by simp only [atOf]at q;cases q)⟩
theorem zmL{cls:Tg→Sh}(hs:zgf G cls){β:Type}{w:World}(ts:AT):∀(μ:Mu) (H:AH) (k:AV→AH→Option β) (r:β),Rep P B w0 G μ H w→zgu cls ts H k=some r →
  (∀x,za9 G ts x w→∃v μ' H',k v H'=some r∧Rep P B w0 G μ' H' w∧Ext H μ H' μ'∧VR μ' v x)∧(∀xs,zb8 G ts xs w→∃vs μ' H',k vs H'=some r∧Rep P B w0 G μ' H' w∧Ext H μ H' μ'∧LR μ' vs xs):=by
 induction ts with
 | tag t=>
  intro μ H k r h hl;refine⟨fun x hp => ?_,fun xs hp=>hp.elim⟩;simp only [zgu,zf7]at hl;split at hl
  ·rename_i i hkn;have hc:cls t = .str∧zhR H t H.next=some i:=by
    unfold zn3 at hkn;split at hkn
    ·rename_i e;exact⟨e,hkn⟩
    ·cases hkn
   obtain⟨v,h1,h2⟩:=h.fact _ _ (zhQ hc.2);have:v=x:=hs.det t hc.1 _ _ _ h2 hp;subst this;exact⟨_,μ,H,hl,h,.refl H μ,zsX h1 (hs.ok _ _ _ hp)⟩
  ·obtain⟨g1,g2,g3⟩:=h.hold (t:=t) (v:=x) hp;exact⟨_,_,_,hl,g1,g2,zsX g3 (hs.ok _ _ _ hp)⟩
 | val v=>
  intro μ H k r h hl;exact⟨fun x hp=>⟨v,μ,H,hl,h,.refl H μ,zqW _ hp⟩,fun xs hp=>hp.elim⟩
 | agg cs ih=>
  intro μ H k r h hl;refine⟨fun x hp => ?_,fun xs hp=>hp.elim⟩;obtain⟨xs,rfl,hp⟩:=hp;simp only [zgu]at hl;obtain⟨vs,μ',H',k1,k2,k3,k4⟩:=(ih μ H _ r h hl).2 _ hp;exact⟨_,μ',H',k1,k2,k3,xs,rfl,k4⟩
 | fn f fs cs ih1 ih2=>
  intro μ H k r h hl;refine⟨fun x hp => ?_,fun xs hp=>hp.elim⟩;obtain⟨xs,ys,rfl,h1,h2⟩:=hp;simp only [zgu]at hl;obtain⟨us,μ1,H1,k1,k2,k3,k4⟩:=(ih1 μ H _ r h hl).2 _ h1;obtain⟨vs,μ2,H2,l1,l2,l3,l4⟩:=(ih2 μ1 H1 _ r k2 k1).2 _ h2;exact⟨_,μ2,H2,l1,l2,k3.trans l3,xs,ys,rfl,k4.mono l3.1,l4⟩
 | nil=>
  intro μ H k r h hl;exact⟨fun x hp=>hp.elim,fun xs hp=>⟨.nil,μ,H,hl,h,.refl H μ,hp⟩⟩
 | cons a b ih1 ih2=>
  intro μ H k r h hl;refine⟨fun x hp=>hp.elim,fun xs hp => ?_⟩;obtain⟨x,r',rfl,h1,h2⟩:=hp;simp only [zgu]at hl;obtain⟨v,μ1,H1,k1,k2,k3,k4⟩:=(ih1 μ H _ r h hl).1 _ h1;obtain⟨vs,μ2,H2,l1,l2,l3,l4⟩:=(ih2 μ1 H1 _ r k2 k1).2 _ h2;exact⟨_,μ2,H2,l1,l2,k3.trans l3,LR.cons (k4.mono l3.1) l4⟩
def zbZ(P:Program)(G:Sett)(T:FuncId→AT→Option AT):Prop:=
 ∀f ts rs,T f ts=some rs→(∃fn:Func,P.funcs[f]? = some fn∧fn.body.isSome=true) ∧
  ∀w (xs:Array Value),zb8 G ts xs.toList w→Calls P f xs w fun e w'=>∃x,e = .returned x∧zdq G rs x w'∧Below w.heap.size w w'
def zfe(P:Program)(B:Nat)(w0:World)(G:Sett)(T:FuncId→AT→Option AT):Prop:=
 ∀f ts rs,T f ts=some rs→(∃fn:Func,P.funcs[f]? = some fn∧fn.body.isSome=true) ∧
  ∀w (xs:Array Value),Below B w0 w→zb8 G ts xs.toList w→Calls P f xs w fun e w'=>∃x,e = .returned x∧zdq G rs x w'∧Below w.heap.size w w'
theorem zbZ.inn{T:FuncId→AT→Option AT}(h:zbZ P G T):zfe P B w0 G T:=fun f ts rs q=>⟨(h f ts rs q).1,fun w xs _ hx=>(h f ts rs q).2 w xs hx⟩
theorem zsx{cls:Tg→Sh}(hs:zgf G cls){β:Type}{w:World}{rs:AT}{x:Value}{μ:Mu}{H:AH}{k:AV→AH→Option β}{r:β}(h:Rep P B w0 G μ H w)(hp:zdq G rs x w)(hl:zgu cls rs H (fun vs H=>k (znR vs) H)=some r) :
  ∃v μ' H',k v H'=some r∧Rep P B w0 G μ' H' w∧Ext H μ H' μ'∧VR μ' v x:=by
 have many:(∃xs:Array Value,x = .tuple xs∧zb8 G rs xs.toList w)→(∀t,rs ≠ .cons t .nil)→∃v μ' H',k v H'=some r∧Rep P B w0 G μ' H' w∧Ext H μ H' μ'∧VR μ' v x:=by
  rintro⟨xs,rfl,hpp⟩ hn;clear hp;obtain⟨vs,μ',H',k1,k2,k3,k4⟩:=(zmL hs rs μ H _ r h hl).2 xs.toList hpp;refine⟨_,μ',H',k1,k2,k3,?_⟩;have:znR vs = .tup vs:=by
   unfold znR;split
   ·rename_i v;obtain⟨x,r',e,_,h2⟩:=k4;have h2:r' = []:=h2;subst h2
    cases rs with
    | cons a b=>
     obtain⟨y,s,e2,_,h3⟩:=hpp;rw [e]at e2
     cases e2
     cases b with
     | nil=>exact absurd rfl (hn a)
     | cons _ _=>obtain⟨_,_,q,_⟩:=h3;cases q
     | _=>exact h3.elim
    | nil=>have:xs.toList = []:=hpp;rw [this]at e;cases e
    | _=>exact hpp.elim
   ·rfl
  rw [this];exact⟨xs,rfl,k4⟩
 unfold zdq at hp;split at hp
 ·rename_i t;obtain⟨vs,μ',H',k1,k2,k3,k4⟩:=(zmL hs (.cons t .nil) μ H _ r h hl).2 [x] ⟨x,[],rfl,hp,rfl⟩;obtain⟨y,r',e,h1,h2⟩:∃y r',vs = .cons y r'∧VR μ' y x∧LR μ' r' []:=by
   cases vs with
   | cons y r'=>obtain⟨x',r2,e,h1,h2⟩:=k4;cases e;exact⟨y,r',rfl,h1,h2⟩
   | nil=>have:[x] = []:=k4;cases this
   | _=>exact k4.elim
  have hr:r' = .nil:=by
   cases r' with
   | nil=>rfl
   | cons a b=>obtain⟨_,_,e2,_⟩:=h2;cases e2
   | _=>exact h2.elim
  subst e;subst hr;exact⟨y,μ',H',k1,k2,k3,h1⟩
 ·rename_i hne;exact many hp (fun t e=>hne t e)
theorem zlt{cls:Tg→Sh}(hs:zgf G cls){T:FuncId→AT→Option AT}(hT:zfe P B w0 G T):zgH P B w0 G (zqd cls T):=by
 intro f args H v H' ho;unfold zqd at ho;split at ho
 ·rename_i ts hts;split at ho
  ·rename_i rs hrs;obtain⟨h1,h2⟩:=hT _ _ _ hrs;refine⟨h1,fun μ w xs hrep hxs=>callsIn_wide.2 ((h2 w xs hrep.below ((zgF hs hrep args).2 _ hts _ hxs)).mono ?_)⟩;rintro e w' ⟨x,rfl,hp,hb⟩;obtain⟨v',μ',H2,k1,k2,k3,k4⟩:=zsx hs (k:=fun v H=>some (v,H)) (hrep.onto hb) hp ho
   cases k1
   exact⟨x,μ',rfl,k3,k4,k2⟩
  ·cases ho
 ·cases ho
def runF(P:Program)(cls:Tg→Sh)(T:FuncId→AT→Option AT)(res:List TypeId)(D:List FuncId)(n:Nat)(f:FuncId)(ts:AT):Option AT:=
 zgu cls ts (bare res) fun args H=>match (cb P [] (zqd cls T) D n).call f args H with
  | some (.tup vs,H')=>(match (atOf cls H' vs).2 with|some (.cons _ .nil)=>none|r=>r)
  | some (v,H')=>(atOf cls H' (.cons v .nil)).2
  | none=>none
theorem ziX(hm:P.follows .mixedOrders=true)(hN:zbO P){cls:Tg→Sh}(hs:zgf G cls)(hids:G.ids = []){T:FuncId→AT→Option AT}{w:World}(hT:zfe P w.heap.size w G T){D:List FuncId}(hD:∀g∈D,zei P g){n:Nat}{f:FuncId}{ts rs:AT}
  (h:runF P cls T G.res D n f ts=some rs) {xs:Array Value} (hx:zb8 G ts xs.toList w) :
  Calls P f xs w fun e w'=>∃x,e = .returned x∧zdq G rs x w'∧Below w.heap.size w w':=by
 unfold runF at h;obtain⟨vs,μ',H',k1,k2,k3,k4⟩:=(zmL hs ts _ _ _ _ (zor hids w) h).2 _ hx;split at k1
 ·rename_i us H2 hcall;refine(zeV (G:=G) hm hN (zlt hs hT) hD (by rw [hids];exact hcall) k2 k4).mono ?_;rintro e w' ⟨x,μ2,rfl,_,hv,hrep⟩;obtain⟨ys,rfl,hy⟩:=hv;refine⟨_,rfl,?_,hrep.below⟩;split at k1
  ·cases k1
  ·rename_i hne;have hp:=(zgF hs hrep us).2 _ k1 _ hy;unfold zdq;split
   ·rename_i t;exact absurd k1 (hne t)
   ·exact⟨ys,rfl,hp⟩
 ·rename_i u H2 hne hcall;refine(zeV (G:=G) hm hN (zlt hs hT) hD (by rw [hids];exact hcall) k2 k4).mono ?_;rintro e w' ⟨x,μ2,rfl,_,hv,hrep⟩;have hp:=(zgF hs hrep (.cons u .nil)).2 _ k1 _ (LR.cons hv LR.nil);refine⟨_,rfl,?_,hrep.below⟩
  cases rs with
  | cons a b=>
   obtain⟨y,s,e2,h1,h3⟩:=hp
   cases e2
   cases b with
   | nil=>exact h1
   | cons _ _=>obtain⟨_,_,q,_⟩:=h3;cases q
   | _=>exact h3.elim
  | nil=>cases hp
  | _=>exact hp.elim
 ·cases k1
theorem zhn(hm:P.follows .mixedOrders=true)(hN:zbO P){cls:Tg→Sh}(hs:zgf G cls)(hids:G.ids = []){T:FuncId→AT→Option AT}(hT:zbZ P G T){D:List FuncId}(hD:∀g∈D,zei P g){n:Nat}{f:FuncId}{ts rs:AT}
  (h:runF P cls T G.res D n f ts=some rs) {w:World} {xs:Array Value} (hx:zb8 G ts xs.toList w) :
  Calls P f xs w fun e w'=>∃x,e = .returned x∧zdq G rs x w'∧Below w.heap.size w w':=
 ziX hm hN hs hids hT.inn hD h hx
end
end Go.Eng
namespace Go.Num
def B:Nat:=1000000000
theorem zkK:0<B:=by decide
theorem zar(i:Nat):0<B^i:=Nat.pow_pos zkK
def limb(n i:Nat):Nat:=n/B^i%B
theorem zaA(n i:Nat):limb n i<B:=Nat.mod_lt _ zkK
theorem za8(n i:Nat):n%B^(i+1)=n%B^i+B^i*limb n i:=Nat.mod_pow_succ
theorem zcr(n i:Nat):n%B^i<B^i:=Nat.mod_lt _ (zar i)
theorem zcK(n:Nat):n%B^0=0:=by rw [Nat.pow_zero,Nat.mod_one]
theorem zaN{n i:Nat}(h:n<B^i):limb n i=0:=by
 unfold limb;rw [Nat.div_eq_of_lt h];rfl
theorem zbc{n i:Nat}(h:n<B^i):n%B^i=n:=Nat.mod_eq_of_lt h
theorem zag{i j:Nat}(h:i≤j):B^i≤B^j:=Nat.pow_le_pow_right zkK h
def zcs(x y i:Nat):Nat:=(x%B^i+y%B^i)/B^i
theorem zie(x y:Nat):zcs x y 0=0:=by unfold zcs;rw [zcK,zcK];simp
theorem zeU(x y i:Nat):zcs x y i≤1:=by
 unfold zcs;have h1:=zcr x i;have h2:=zcr y i;have:(x%B^i+y%B^i)/B^i<2:=Nat.div_lt_of_lt_mul (by omega);omega
theorem zgj(x y i:Nat):x%B^i+y%B^i=(x+y)%B^i+B^i*zcs x y i:=by
 unfold zcs;have h:=Nat.div_add_mod (x%B^i+y%B^i) (B^i);rw [←Nat.add_mod]at h;omega
theorem zha(x y i:Nat):limb (x+y) i=(limb x i+limb y i+zcs x y i)%B∧zcs x y (i+1)=(limb x i+limb y i+zcs x y i)/B:=by
 have s0:=zgj x y i;have s1:=zgj x y (i+1);have hx:=za8 x i;have hy:=za8 y i;have hz:=za8 (x+y) i;rw [hx,hy,hz]at s1;have hp:B^(i+1)=B^i*B:=Nat.pow_succ _ _;rw [hp]at s1;have key:B^i*(limb x i+limb y i+zcs x y i)=B^i*(limb (x+y) i+B*zcs x y (i+1)):=by
  rw [Nat.mul_add,Nat.mul_add,Nat.mul_add];have:B^i*(B*zcs x y (i+1))=B^i*B*zcs x y (i+1):=(Nat.mul_assoc _ _ _).symm;omega
 have k:=Nat.eq_of_mul_eq_mul_left (zar i) key;have hl:=zaA (x+y) i;rw [k];exact⟨by rw [Nat.add_mul_mod_self_left,Nat.mod_eq_of_lt hl],by rw [Nat.add_mul_div_left _ _ zkK,Nat.div_eq_of_lt hl,Nat.zero_add]⟩
def za7(x y i:Nat):Nat:=if x%B^i<y%B^i then 1 else 0
theorem zgU(x y:Nat):za7 x y 0=0:=by unfold za7;rw [zcK,zcK];rfl
theorem zfc(x y i:Nat):za7 x y i≤1:=by unfold za7;split <;> omega
theorem zok{x y:Nat}(h:y≤x)(i:Nat):(x-y)%B^i+y%B^i=x%B^i+B^i*za7 x y i:=by
 have s:=zgj (x-y) y i;rw [Nat.sub_add_cancel h]at s;have hx:=zcr x i;have hd:=zcr (x-y) i;have hc:=zeU (x-y) y i;have e:zcs (x-y) y i=za7 x y i:=by
  unfold za7;by_cases hlt:x%B^i<y%B^i
  ·rw [if_pos hlt];have:zcs (x-y) y i≠0:=fun e=>by
    rw [e,Nat.mul_zero]at s;generalize (x-y)%B^i=D at s
    generalize x%B^i=X at s hlt
    generalize y%B^i=Y at s hlt
    omega
   omega
  ·rw [if_neg hlt];by_cases e:zcs (x-y) y i=1
   ·rw [e,Nat.mul_one]at s;generalize (x-y)%B^i=D at s hd
    generalize x%B^i=X at s hlt
    generalize y%B^i=Y at s hlt
    omega
   ·omega
 rw [s,e]
theorem zrj{x y:Nat}(h:y≤x)(i:Nat):limb (x-y) i+(limb y i+za7 x y i)=limb x i+B*za7 x y (i+1):=by
 have s0:=zok h i;have s1:=zok h (i+1);have hx:=za8 x i;have hy:=za8 y i;have hz:=za8 (x-y) i;rw [hx,hy,hz]at s1;have hp:B^(i+1)=B^i*B:=Nat.pow_succ _ _;rw [hp]at s1;have key:B^i*(limb (x-y) i+(limb y i+za7 x y i))=B^i*(limb x i+B*za7 x y (i+1)):=by
  rw [Nat.mul_add,Nat.mul_add,Nat.mul_add];have:B^i*(B*za7 x y (i+1))=B^i*B*za7 x y (i+1):=(Nat.mul_assoc _ _ _).symm;omega
 exact Nat.eq_of_mul_eq_mul_left (zar i) key
theorem znw{x y:Nat}(h:y≤x)(i:Nat):(limb x i<limb y i+za7 x y i→za7 x y (i+1)=1∧limb (x-y) i=limb x i+B-(limb y i+za7 x y i))∧(¬limb x i<limb y i+za7 x y i→za7 x y (i+1)=0∧limb (x-y) i=limb x i-(limb y i+za7 x y i)):=by
 have s:=zrj h i;have h1:=zaA (x-y) i;have h2:=zaA y i;have h3:=zaA x i;have h4:=zfc x y i;have h5:=zfc x y (i+1);have hb:za7 x y (i+1)=0∨za7 x y (i+1)=1:=by omega
 rcases hb with e|e
 ·rw [e]at s ⊢;exact⟨fun q=>by omega,fun q=>⟨rfl,by omega⟩⟩
 ·rw [e]at s ⊢;exact⟨fun q=>⟨rfl,by omega⟩,fun q=>by omega⟩
def zcq(n k:Nat):Prop:=n<B^k∧(k=0∨B^(k-1)≤n)
theorem zcq.unique{n k l:Nat}(h:zcq n k)(h':zcq n l):k=l:=by
 rcases Nat.lt_trichotomy k l with q|q|q
 ·have h2:=h'.2;have:=zag (i:=k) (j:=l-1) (by omega);have:=h.1;omega
 ·exact q
 ·have h2:=h.2;have:=zag (i:=l) (j:=k-1) (by omega);have:=h'.1;omega
theorem zcq.top{n k:Nat}(h:zcq n (k+1)):limb n k≠0:=by
 intro e;have h1:=za8 n k;rw [e,Nat.mul_zero,zbc h.1]at h1;have h2:=zcr n k;have h3:=h.2;simp at h3
 omega
theorem zn2{n k:Nat}(h:n<B^(k+1))(ht:limb n k≠0):zcq n (k+1):=by
 refine⟨h,.inr ?_⟩;have h1:=za8 n k;rw [zbc h]at h1;have:B^k*1≤B^k*limb n k:=Nat.mul_le_mul_left _ (by omega);rw [Nat.add_sub_cancel];rw [Nat.mul_one]at this;rw [h1];exact Nat.le_trans this (Nat.le_add_left _ _)
theorem zjd{n k:Nat}(h:n<B^(k+1))(ht:limb n k=0):n<B^k:=by
 have h1:=za8 n k;rw [zbc h,ht,Nat.mul_zero]at h1;have:=zcr n k;omega
theorem zcq.zero{n:Nat}(h:zcq n 0):n=0:=by have:=h.1;rw [Nat.pow_zero]at this;omega
theorem zbC:zcq 0 0:=⟨by decide,.inl rfl⟩
theorem zn0{m n:Nat}:∀{k:Nat},m<B^k→n<B^k→(∀i,i<k→limb m i=limb n i)→m=n:=by
 have key:∀k,(∀i,i<k→limb m i=limb n i)→m%B^k=n%B^k:=by
  intro k;induction k with
  | zero=>intro _;rw [zcK,zcK]
  | succ k ih=>
   intro h;rw [za8,za8,ih fun i hi=>h i (by omega),h k (by omega)]
 intro k h1 h2 h;have:=key k h;rw [zbc h1,zbc h2]at this;exact this
theorem zcn(x i:Nat):x/B^i=B*(x/B^(i+1))+limb x i:=by
 unfold limb;rw [Nat.pow_succ,←Nat.div_div_eq_div_mul];exact(Nat.div_add_mod _ _).symm
theorem zoH{b:Nat}(hb:0<b)(x i:Nat):(x/B^(i+1)%b*B+limb x i)/b=limb (x/b) i+(if b≤B then 0 else((x/B^(i+1)%b*B+limb x i)/b-limb (x/b) i))∧(x/B^(i+1)%b*B+limb x i)%b=x/B^i%b:=by
 have e:=zcn x i;have h2:(x/B^(i+1)%b*B+limb x i)%b=x/B^i%b:=by
  rw [e,Nat.add_mod,Nat.add_mod (B*_),Nat.mul_comm B,Nat.mod_mul_mod]
 refine⟨?_,h2⟩;have h3:x/B^i/b=x/b/B^i:=by rw [Nat.div_div_eq_div_mul,Nat.div_div_eq_div_mul,Nat.mul_comm]
 have h4:x/B^(i+1)/b=x/b/B^(i+1):=by rw [Nat.div_div_eq_div_mul,Nat.div_div_eq_div_mul,Nat.mul_comm]
 have d1:=Nat.div_add_mod (x/B^(i+1)) b;have q:x/B^i/b=B*(x/B^(i+1)/b)+(x/B^(i+1)%b*B+limb x i)/b:=by
  rw [e];have:B*(x/B^(i+1))+limb x i=b*(B*(x/B^(i+1)/b))+(x/B^(i+1)%b*B+limb x i):=by
   have h:B*(x/B^(i+1))=b*(B*(x/B^(i+1)/b))+x/B^(i+1)%b*B:=by
    conv=>lhs;rw [←d1]
    rw [Nat.mul_add,←Nat.mul_assoc,←Nat.mul_assoc,Nat.mul_comm B b,Nat.mul_comm B (_%b)]
   rw [h];omega
  rw [this,Nat.mul_add_div hb]
 have s:=zcn (x/b) i;rw [h3,h4,s]at q;have q2:limb (x/b) i=(x/B^(i+1)%b*B+limb x i)/b:=by omega
 rw [q2];split <;> omega
theorem ziV{b:Nat}(hb:0<b)(hB:b≤B)(x i:Nat):(x/B^(i+1)%b*B+limb x i)/b=limb (x/b) i:=by
 have:=(zoH hb x i).1;rw [if_pos hB,Nat.add_zero]at this;exact this
def rowT(S c b i j:Nat):Nat:=S+c*(b%B^j)*B^i
def zdo(S c b i j:Nat):Nat:=rowT S c b i j/B^(i+j)-S/B^(i+j)
theorem zk9(S c b i:Nat):rowT S c b i 0=S:=by unfold rowT;rw [zcK];simp
theorem zic(S c b i:Nat):zdo S c b i 0=0:=by unfold zdo;rw [zk9];simp
theorem zpS(S c b i j:Nat):rowT S c b i (j+1)=rowT S c b i j+c*limb b j*B^(i+j):=by
 unfold rowT;have e:c*(b%B^(j+1))*B^i=c*(b%B^j)*B^i+c*limb b j*B^(i+j):=by
  rw [za8,Nat.mul_add,Nat.add_mul,Nat.pow_add];congr 1
  ac_rfl
 rw [e,Nat.add_assoc]
theorem zjU(S c b i j:Nat):rowT S c b i j/B^(i+j)=S/B^(i+j)+zdo S c b i j:=by
 unfold zdo;have:S/B^(i+j)≤rowT S c b i j/B^(i+j):=Nat.div_le_div_right (by unfold rowT;omega);omega
theorem zid(S c b i j:Nat):zdo S c b i j≤c:=by
 have h:=zjU S c b i j;have h2:rowT S c b i j/B^(i+j)≤S/B^(i+j)+c:=by
  have h3:rowT S c b i j≤S+c*B^(i+j):=by
   unfold rowT;have:c*(b%B^j)*B^i≤c*B^j*B^i:=Nat.mul_le_mul_right _ (Nat.mul_le_mul_left _ (Nat.le_of_lt (zcr b j)));rw [Nat.pow_add,Nat.mul_comm (B^i),←Nat.mul_assoc];omega
  refine Nat.le_trans (Nat.div_le_div_right h3) ?_;rw [Nat.add_mul_div_right _ _ (zar _)];exact Nat.le_refl _
 omega
theorem zkg(S c b i j:Nat):limb (rowT S c b i (j+1)) (i+j)=(zdo S c b i j+limb S (i+j)+c*limb b j)%B∧zdo S c b i (j+1)=(zdo S c b i j+limb S (i+j)+c*limb b j)/B∧∀p,p<i+j→limb (rowT S c b i (j+1)) p=limb (rowT S c b i j) p:=by
 have e:=zpS S c b i j;have o:=zjU S c b i j;have q:rowT S c b i (j+1)/B^(i+j)=B*(S/B^(i+j+1))+(zdo S c b i j+limb S (i+j)+c*limb b j):=by
  rw [e,Nat.add_mul_div_right _ _ (zar _),o,zcn S (i+j)];omega
 refine⟨?_,?_,fun p hp => ?_⟩
 ·unfold limb at *;rw [q,Nat.mul_add_mod]
 ·have o2:=zjU S c b i (j+1);have d:rowT S c b i (j+1)/B^(i+(j+1))=S/B^(i+j+1)+(zdo S c b i j+limb S (i+j)+c*limb b j)/B:=by
   rw [show i+(j+1)=(i+j)+1 by omega,Nat.pow_succ,←Nat.div_div_eq_div_mul,q,Nat.mul_add_div zkK];rw [Nat.pow_succ]
  rw [show i+(j+1)=i+j+1 by omega]at o2 d;rw [d]at o2;omega
 ·rw [e];unfold limb;obtain⟨d,hd⟩:∃d,i+j=p+1+d:=⟨i+j-p-1,by omega⟩;have:c*limb b j*B^(i+j)=B^p*(B*(c*limb b j*B^d)):=by
   rw [hd,Nat.pow_add,Nat.pow_succ];rw [Nat.mul_comm (c*limb b j),Nat.mul_assoc,Nat.mul_assoc,Nat.mul_comm (B^d)]
  unfold limb at this;rw [this,Nat.add_mul_div_left _ _ (zar p),Nat.add_mul_mod_self_left]
theorem zmy{x y i l:Nat}(hy:y<B^l):rowT (x%B^i*y) (limb x i) y i l=x%B^(i+1)*y∧zdo (x%B^i*y) (limb x i) y i l=limb (x%B^(i+1)*y) (i+l):=by
 have e:rowT (x%B^i*y) (limb x i) y i l=x%B^(i+1)*y:=by
  unfold rowT;rw [zbc hy,za8,Nat.add_mul];congr 1
  rw [Nat.mul_comm _ (B^i),←Nat.mul_assoc]
 refine⟨e,?_⟩;unfold zdo limb;unfold limb at e;rw [e];have h0:x%B^i*y<B^(i+l):=by
  rw [Nat.pow_add];exact Nat.mul_lt_mul_of_lt_of_le (zcr x i) (Nat.le_of_lt hy) (zar l)
 rw [Nat.div_eq_of_lt h0,Nat.sub_zero];refine(Nat.mod_eq_of_lt (Nat.div_lt_of_lt_mul ?_)).symm;have h1:x%B^(i+1)*y<B^(i+1)*B^l:=Nat.mul_lt_mul_of_lt_of_le (zcr x _) (Nat.le_of_lt hy) (zar l);have e2:B^(i+1)*B^l=B^(i+l)*B:=by
  rw [←Nat.pow_add,←Nat.pow_succ];congr 1
  omega
 rw [←e2];exact h1
theorem zaK{x y k l:Nat}(hx:x<B^k)(hy:y<B^l):x*y<B^(k+l):=by
 rw [Nat.pow_add];exact Nat.mul_lt_mul_of_lt_of_le hx (Nat.le_of_lt hy) (zar l)
theorem zrK{R c i l top:Nat}(hl:0<l)(ht:top*B^(l-1)≤c)(ht0:0<top):R/(c*B^i)≤R/B^(i+l-1)/top:=by
 rcases Nat.eq_zero_or_pos c with hc|hc
 ·have:=Nat.mul_pos ht0 (zar (l-1));omega
 rw [Nat.le_div_iff_mul_le ht0,Nat.le_div_iff_mul_le (zar _)];have h1:R/(c*B^i)*(c*B^i)≤R:=Nat.div_mul_le_self _ _;refine Nat.le_trans ?_ h1;rw [Nat.mul_assoc];refine Nat.mul_le_mul_left _ ?_;rw [show i+l-1=(l-1)+i by omega,Nat.pow_add,←Nat.mul_assoc];exact Nat.mul_le_mul_right _ ht
theorem zn6{R D g:Nat}(_hD:0<D)(h1:g*D≤R)(h2:R/D≤g):g=R/D:=by
 have:g≤R/D:=(Nat.le_div_iff_mul_le _hD).2 h1;omega
theorem zlL{R D g:Nat}(_hD:0<D)(h:R<g*D):R/D<g:=Nat.div_lt_of_lt_mul (by rw [Nat.mul_comm];exact h)
theorem zg1{A c i:Nat}(hc:0<c):limb (A/c) i=A%(c*B^(i+1))/(c*B^i)∧A%(c*B^(i+1))-A%(c*B^(i+1))/(c*B^i)*(c*B^i)=A%(c*B^i):=by
 have e:c*B^(i+1)=c*B^i*B:=by rw [Nat.pow_succ,Nat.mul_assoc]
 have hp:0<c*B^i:=Nat.mul_pos hc (zar i);refine⟨?_,?_⟩
 ·unfold limb;rw [e,Nat.mod_mul_right_div_self,Nat.div_div_eq_div_mul]
 ·have h:=Nat.div_add_mod (A%(c*B^(i+1))) (c*B^i);rw [e,Nat.mod_mul_right_mod]at h;rw [←e]at h;rw [Nat.mul_comm (_/_)];omega
theorem ztq:B=10^9:=rfl
theorem ztu(i:Nat):B^i=10^(9*i):=by rw [ztq,Nat.pow_mul]
def LenD(n m:Nat):Prop:=1≤m∧n<10^m∧(m=1∨10^(m-1)≤n)
theorem zoP{i j:Nat}(h:i≤j):10^i≤10^j:=Nat.pow_le_pow_right (by decide) h
theorem zo2{n k m:Nat}(h:zcq n (k+1))(hm:LenD (limb n k) m):m≤9∧LenD n (9*k+m):=by
 obtain⟨m1,m2,m3⟩:=hm;have hl:=zaA n k;have ht:=h.top;have m9:m≤9:=by
  apply Classical.byContradiction
  intro hno;rcases m3 with m3|m3
  ·omega
  ·have:=zoP (i:=9) (j:=m-1) (by omega);rw [←ztq]at this;omega
 have e:=za8 n k;rw [zbc h.1]at e;have hlow:=zcr n k;have hb:=ztu k;refine⟨m9,by omega,?_,.inr ?_⟩
 ·have h1:n<B^k*(limb n k+1):=by
   rw [Nat.mul_add,Nat.mul_one];generalize n%B^k=r at e hlow
   omega
  have h2:B^k*(limb n k+1)≤B^k*10^m:=Nat.mul_le_mul_left _ m2;rw [Nat.pow_add,←hb];omega
 ·have h1:B^k*limb n k≤n:=by
   generalize n%B^k=r at e hlow
   omega
  rcases m3 with rfl|m3
  ·rw [Nat.add_sub_cancel,←hb];have:B^k*1≤B^k*limb n k:=Nat.mul_le_mul_left _ (by omega);omega
  ·have h2:B^k*10^(m-1)≤B^k*limb n k:=Nat.mul_le_mul_left _ m3;rw [show 9*k+m-1=9*k+(m-1)by omega,Nat.pow_add,←hb];omega
def sgn(neg:Bool)(n:Nat):Int:=if neg=true then -(n:Int)else(n:Int)
theorem zbl(neg:Bool)(n:Nat):(sgn neg n).natAbs=n:=by unfold sgn;split <;> omega
theorem zgl(neg:Bool)(n:Nat):sgn neg n<0↔neg=true∧0<n:=by
 unfold sgn
 cases neg <;> simp <;> omega
def frac(neg:Bool)(n d:Nat):Rat:=Rat.divInt (sgn neg n) (d:Int)
theorem zsI{neg:Bool}{n d:Nat}(hd:d≠0):frac neg n d=Rat.normalize (sgn neg n) d hd:=by
 unfold frac;show Rat.divInt (sgn neg n) ((d:Nat):Int)=_
 rw [Rat.divInt_ofNat,Rat.mkRat_def,dif_neg hd]
theorem zdS{neg:Bool}{n d:Nat}(hd:d≠0):(frac neg n d).num.natAbs=n/Nat.gcd d n∧(frac neg n d).den=d/Nat.gcd d n∧((frac neg n d).num<0↔neg=true∧0<n):=by
 have hg:0<Nat.gcd n d:=Nat.gcd_pos_of_pos_right _ (Nat.pos_of_ne_zero hd);have e:(sgn neg n).natAbs.gcd d=Nat.gcd n d:=by rw [zbl]
 rw [zsI hd,Rat.normalize_eq];refine⟨?_,?_,?_⟩
 ·show(sgn neg n/((sgn neg n).natAbs.gcd d:Int)).natAbs=_
  rw [e,Nat.gcd_comm d n];have hdv:((Nat.gcd n d:Nat):Int)∣sgn neg n:=by
   have:=Int.natCast_dvd_natCast.2 (Nat.gcd_dvd_left n d);unfold sgn;split
   ·exact Int.dvd_neg.2 this
   ·exact this
  rw [Int.natAbs_ediv_of_dvd hdv,zbl];rfl
 ·show d/(sgn neg n).natAbs.gcd d=_
  rw [e,Nat.gcd_comm d n]
 ·show sgn neg n/((sgn neg n).natAbs.gcd d:Int)<0↔_
  rw [e,←zgl];have hg':(0:Int)<((Nat.gcd n d:Nat):Int):=by omega
  constructor
  ·intro h;apply Classical.byContradiction
   intro hno;have:=Int.ediv_nonneg (a:=sgn neg n) (b:=((Nat.gcd n d:Nat):Int)) (by omega) (by omega);omega
  ·intro h;exact Int.ediv_neg_of_neg_of_pos h hg'
theorem zcT(q:Rat):frac (decide (q.num<0)) q.num.natAbs q.den=q:=by
 have e:sgn (decide (q.num<0)) q.num.natAbs=q.num:=by
  unfold sgn;by_cases h:q.num<0
  ·simp [h];omega
  ·simp [h];omega
 unfold frac;rw [e];exact Rat.num_divInt_den q
theorem zhm(a b:Bool)(m n:Nat):sgn a m*sgn b n=sgn (a != b) (m*n):=by
 unfold sgn
 cases a <;> cases b <;> simp [Int.neg_mul,Int.mul_neg]
theorem zjj{a b:Bool}{m n d e:Nat}:frac a m d*frac b n e=frac (a != b) (m*n) (d*e):=by
 unfold frac;rw [Rat.divInt_mul_divInt,zhm];simp
theorem zqE{a b:Bool}{m n d e:Nat}(hd:d≠0)(he:e≠0):frac a m d+frac b n e=Rat.divInt (sgn a (m*e)+sgn b (n*d)) ((d*e:Nat):Int):=by
 unfold frac;rw [Rat.divInt_add_divInt _ _ (by omega) (by omega)];have h:∀(a:Bool) (m e:Nat),sgn a m*(e:Int)=sgn a (m*e):=fun a m e=>by unfold sgn;cases a <;> simp [Int.neg_mul]
 rw [h,h];simp
theorem zrL{a b:Bool}{m n d e:Nat}(hd:d≠0)(he:e≠0) :
  frac a m d+frac b n e=(if a=b then frac a (m*e+n*d) (d*e)else if n*d≤m*e then frac a (m*e-n*d) (d*e)else frac b (n*d-m*e) (d*e)):=by
 rw [zqE hd he];unfold frac;have h:∀(x y:Nat) (k:Int),Rat.divInt (sgn a x+sgn b y) k=if a=b then Rat.divInt (sgn a (x+y)) k else if y≤x then Rat.divInt (sgn a (x-y)) k else Rat.divInt (sgn b (y-x)) k:=fun x y k=>by
  by_cases hab:a=b
  ·subst hab;rw [if_pos rfl];congr 1
   unfold sgn
   cases a <;> simp <;> omega
  ·rw [if_neg hab];by_cases hxy:y≤x
   ·rw [if_pos hxy];congr 1
    unfold sgn
    cases a <;> cases b <;> simp at hab ⊢ <;> omega
   ·rw [if_neg hxy];congr 1
    unfold sgn
    cases a <;> cases b <;> simp at hab ⊢ <;> omega
 exact h _ _ _
theorem zlM{a b:Bool}{m n d e:Nat}:frac a m d/frac b n e=frac (a != b) (m*e) (d*n):=by
 rw [Rat.div_def];have hi:(frac b n e)⁻¹=frac b e n:=by
  unfold frac;rw [Rat.inv_divInt]
  cases b with
  | false=>rfl
  | true=>
   have h1:sgn true n = -(n:Int):=rfl;have h2:sgn true e = -(e:Int):=rfl;rw [h1,h2,Rat.divInt_neg']
 rw [hi,zjj]
theorem zrJ{R c l top:Nat}(_hc:0<c)(ht:c<(top+1)*B^(l-1)):R/B^(l-1)/(top+1)*c≤R:=by
 have hp:=zar (l-1);have h1:R/B^(l-1)/(top+1)*((top+1)*B^(l-1))≤R:=by
  rw [Nat.div_div_eq_div_mul,Nat.mul_comm (B^(l-1))];exact Nat.div_mul_le_self _ _
 exact Nat.le_trans (Nat.mul_le_mul_left _ (Nat.le_of_lt ht)) h1
theorem zfS(x c i:Nat):(x/B^(i+1)%c*B+limb x i)%c=x/B^i%c∧(x/B^(i+1)/c*B+(x/B^(i+1)%c*B+limb x i)/c)=x/B^i/c:=by
 have e:=zcn x i;have d1:=Nat.div_add_mod (x/B^(i+1)) c;have k:x/B^i=c*(x/B^(i+1)/c*B)+(x/B^(i+1)%c*B+limb x i):=by
  rw [e];have h:B*(x/B^(i+1))=c*(x/B^(i+1)/c*B)+x/B^(i+1)%c*B:=by
   conv=>lhs;rw [←d1]
   rw [Nat.mul_add];congr 1
   ·ac_rfl
   ·exact Nat.mul_comm _ _
  rw [h];omega
 rw [k];refine⟨by rw [Nat.mul_add_mod],?_⟩;rcases Nat.eq_zero_or_pos c with hc|hc
 ·subst hc;simp
 ·rw [Nat.mul_add_div hc]
theorem zk8{a b d:Nat}(hd:0<d):a*d/(b*d)=a/b∧a*d%(b*d)/d=a%b:=by
 refine⟨Nat.mul_div_mul_right _ _ hd,?_⟩;rw [Nat.mul_mod_mul_right,Nat.mul_div_cancel _ hd]
theorem zn7{a b:Nat}:Nat.gcd a b=Nat.gcd b (a%b):=by
 rw [Nat.gcd_comm a b,Nat.gcd_rec,Nat.gcd_comm]
theorem zkS{b k:Nat}(hb:zcq b (k+1)):zcq (b*(B/(limb b k+1))) (k+1)∧0<B/(limb b k+1)∧B/(limb b k+1)<B∧B/2≤limb (b*(B/(limb b k+1))) k:=by
 have ht:=hb.top;have hl:=zaA b k;have e:=za8 b k;rw [zbc hb.1]at e;have hlow:=zcr b k;obtain⟨t,hts⟩:∃t,limb b k=t:=⟨_,rfl⟩;obtain⟨r,hr⟩:∃r,b%B^k=r:=⟨_,rfl⟩;obtain⟨P,hP⟩:∃P,B^k=P:=⟨_,rfl⟩;obtain⟨d,hd⟩:∃d,B/(limb b k+1)=d:=⟨_,rfl⟩;rw [hd];rw [hts]at hd ht hl e;rw [hr,hP]at e;rw [hr,hP]at hlow;have hPp:0<P:=by rw [←hP];exact zar k
 have hd0:0<d:=by rw [←hd];exact Nat.div_pos (by omega) (by omega)
 have hdB:d<B:=by rw [←hd];exact Nat.div_lt_self zkK (by omega)
 have hdm:d*(t+1)≤B:=by rw [←hd];exact Nat.div_mul_le_self _ _
 have hdm2:B<d*(t+1)+(t+1):=by
  have:=Nat.lt_div_mul_add (a:=B) (b:=t+1) (by omega);rw [hd]at this;exact this
 have hlt:b*d<P*B:=by
  have h1:b<P*(t+1):=by rw [Nat.mul_add,Nat.mul_one];omega
  have h2:b*d<P*(t+1)*d:=Nat.mul_lt_mul_of_pos_right h1 hd0;have h3:P*(t+1)*d≤P*B:=by rw [Nat.mul_assoc,Nat.mul_comm (t+1)];exact Nat.mul_le_mul_left _ hdm
  omega
 have hge:P*(t*d)≤b*d:=by
  have h1:P*t≤b:=by omega
  have:=Nat.mul_le_mul_right d h1;rw [Nat.mul_assoc]at this;exact this
 have htd:t*d≤b*d/P:=(Nat.le_div_iff_mul_le hPp).2 (by rw [Nat.mul_comm];exact hge);have hlimb:limb (b*d) k=b*d/P:=by
  unfold limb;rw [hP];exact Nat.mod_eq_of_lt (Nat.div_lt_of_lt_mul hlt)
 have htop:B/2≤t*d:=by
  have hBB:B=1000000000:=rfl;rw [Nat.mul_comm];rw [Nat.mul_add,Nat.mul_one]at hdm hdm2;have k1:d≤d*t:=Nat.le_mul_of_pos_right d (by omega);have k2:t≤d*t:=Nat.le_mul_of_pos_left t hd0;by_cases h1:t=1
  ·subst h1;omega
  ·by_cases h2:d=1
   ·subst h2;omega
   ·have k3:2*t≤d*t:=Nat.mul_le_mul_right t (by omega);have k4:d*2≤d*t:=Nat.mul_le_mul_left d (by omega);omega
 have hP1:B^(k+1)=P*B:=by rw [Nat.pow_succ,hP]
 refine⟨⟨by rw [hP1];exact hlt,.inr ?_⟩,hd0,hdB,by rw [hlimb];exact Nat.le_trans htop htd⟩;rw [Nat.add_sub_cancel,hP];have:P*1≤P*(t*d):=Nat.mul_le_mul_left _ (Nat.mul_pos (by omega) hd0);omega
end Go.Num
namespace Go.Num
open Go.RowKit Go.Proofs Go.Proofs.YtoamcgjbelhnkaaGreatDoor
theorem _root_.zHi{p:Prop}(h:p):Hid p:=h
theorem _root_.zBt{a w w':World}(h:Hid (Below a.heap.size a w)) (k:Below w.heap.size w w'):Hid (Below a.heap.size a w'):=zHi (h.out.trans (k.mono h.out.size))
@[simp] theorem wide_fn (f:FuncId):Fence.wide.fn f:=trivial
@[simp] theorem wide_depth:Fence.wide.depth=none:=rfl
def Stop(p:Prop):Prop:=p
theorem stop{p:Prop}(h:Stop p):p:=h
theorem zac(a:Addr)(i:Nat):(a.add i).block=a.block:=by
 unfold Addr.add;split <;> rfl
def intOf:Value→Int
 | .int _ n=>n
 | _=>0
theorem zbh(w:World)(m:Nat):Below w.heap.size w (w.drewN m):=⟨rfl,rfl,rfl,Nat.le_refl _,fun _ _=>rfl⟩
theorem zdn(w:World)(m n:Nat):Below w.heap.size w ((w.drewN m).drewN n):=⟨rfl,rfl,rfl,Nat.le_refl _,fun _ _=>rfl⟩
def Elem(w:World)(b:Nat)(e:TypeId):Prop:=∃cs fz,w.heap[b]? = some (.cells cs e fz)
theorem Elem.lt{w:World}{b:Nat}{e:TypeId}(h:Elem w b e):b<w.heap.size:=by
 obtain⟨cs,fz,h⟩:=h;exact(Array.getElem?_eq_some_iff.1 h).1
theorem Elem.of_block{w w':World}{b:Nat}{e:TypeId}(h:Elem w b e)(hb:w'.heap[b]? = w.heap[b]?):Elem w' b e:=by
 obtain⟨cs,fz,h⟩:=h;exact⟨cs,fz,hb.trans h⟩
theorem Elem.below{w w':World}{b:Nat}{e:TypeId}{c:Nat}(h:Elem w b e)(hb:Below c w w')(hc:b<c):Elem w' b e:=h.of_block (hb.block b hc)
theorem Elem.setCell{w:World}{b:Nat}{e:TypeId}(h:Elem w b e)(a:Addr)(v:Value):Elem (w.setCell a v) b e:=by
 obtain⟨cs,fz,h⟩:=h;by_cases he:b=a.block
 ·subst he;have hm:(w.setCell a v).heap[a.block]? = (w.heap.modify a.block fun | .cells c elem frozen => .cells (if a.spot.isSome then c else c.setIfInBounds a.off v) elem frozen|o=>o)[a.block]?:=rfl;rw [Array.getElem?_modify,if_pos rfl,h]at hm;exact⟨_,_,hm⟩
 ·exact⟨cs,fz,(Below.heap_setCell _ _ _ _ he).trans h⟩
theorem zaB(w:World)(cs:Array Value)(e:TypeId):Elem (w.alloc (.cells cs e)) w.heap.size e:=⟨cs,(0,0),by show(w.heap.push _)[w.heap.size]? = _;simp⟩
theorem Elem.ne{w:World}{b c:Nat}{e f:TypeId}(h:Elem w b e)(h':Elem w c f)(hef:e≠f):b≠c:=by
 rintro rfl;obtain⟨cs,fz,h⟩:=h;obtain⟨cs',fz',h'⟩:=h';rw [h]at h';injection h' with h';injection h' with _ h';exact hef h'
def zbw(w:World)(v:Value)(n k:Nat):Prop:=
 (k=0∧∃o c,v = .slice o 0 c)∨∃(a:Addr) (cap:Nat),v = .slice (some a) k cap∧0<k∧k≤cap∧(k≤1000000000∧cap≤9223372036854775807)∧Elem w a.block 111∧∀i,i<k→w.cell? (a.add i)=some (.int .u64 ((limb n i:Nat):Int))
def zas(w:World)(v:Value)(n:Nat):Prop:=∃k,zcq n k∧zbw w v n k
theorem zbw.below{w w':World}{v:Value}{n k:Nat}(h:zbw w v n k)(hb:Below w.heap.size w w'):zbw w' v n k:=by
 rcases h with h|⟨a,cap,h1,h2,h3,h4,h5,h6⟩
 ·exact .inl h
 ·exact .inr ⟨a,cap,h1,h2,h3,h4,h5.below hb h5.lt,fun i hi=>(hb.cell (p:=a.add i) (by rw [zac];exact h5.lt)).trans (h6 i hi)⟩
theorem zbw.form{w:World}{v:Value}{n k:Nat}(h:zbw w v n k):∃o c,v = .slice o k c∧(0<k→∃a:Addr,o=some a∧a.block<w.heap.size∧∀i,i<k→w.cell? (a.add i)=some (.int .u64 ((limb n i:Nat):Int))):=by
 rcases h with⟨rfl,o,c,rfl⟩|⟨a,cap,rfl,h2,h3,h4,h5,h6⟩
 ·exact⟨o,c,rfl,fun h=>by omega⟩
 ·exact⟨some a,cap,rfl,fun _=>⟨a,rfl,h5.lt,h6⟩⟩
theorem zbw.elem{w:World}{a:Addr}{n k c:Nat}(h:zbw w (.slice (some a) k c) n k)(hk:0<k):Elem w a.block 111:=by
 rcases h with⟨rfl,_⟩|⟨a',cap,e,h2,h3,h4,h5,h6⟩
 ·omega
 ·injection e with e _ _;injection e with e;subst e;exact h5
theorem zbw.small{w:World}{v:Value}{n k:Nat}(h:zbw w v n k):k≤1000000000:=by
 rcases h with⟨rfl,_⟩|⟨a,cap,rfl,h2,h3,h4,h5,h6⟩ <;> omega
def zrd(x y:Nat)(r:Int):Prop:=(r<0↔x<y)∧(r=0↔x=y)
theorem zgA{x y k l:Nat}(hx:zcq x k)(hy:zcq y l)(h:k<l):x<y:=by
 have:=zag (i:=k) (j:=l-1) (by omega);have h1:=hx.1;have h2:=hy.2;omega
theorem zdV(w:World)(va vb:Value)(x y:Nat)(ha:zas w va x)(hb:zas w vb y) :
  CallsIn Fence.wide 0 Tryz.prog 130 #[va,vb] w fun e w'=>∃r:Int,zrd x y r∧e = .returned (.int .i64 r)∧Below w.heap.size w w':=by
 obtain⟨k,hk,hla⟩:=ha;obtain⟨l,hl,hlb⟩:=hb;have hks:=hla.small;have hls:=hlb.small;obtain⟨o1,c1,rfl,h1⟩:=hla.form;obtain⟨o2,c2,rfl,h2⟩:=hlb.form;have H1:=zHi h1;have H2:=zHi h2;have HK:=zHi hk;have HL:=zHi hl;clear h1 h2 hk hl hla hlb;refine callsIn_of_wp Tryz.func130 rfl trivial ?_ rfl;simp only [Tryz.ntmps130,ztH,ztI,ztJ,Nat.reduceAdd,Nat.reduceSub,ztK,ztL,ztM,ztN,ztO,ztP];by_cases hkl:k=l
 ·subst hkl;gi_wp2;gi_loopw [5] (fun i wr=>∃i0:Int,-1≤i0∧i0<k∧i = .int .i64 i0∧Hid (x/B^(i0+1).toNat=y/B^(i0+1).toNat)∧Hid (Below w.heap.size w wr)) (fun i _=>(intOf i+1).toNat)
  case atStart=>exact⟨(k:Int)-1,by omega,by omega,rfl,zHi (by
   rw [show((k:Int)-1+1).toNat=k by omega,Nat.div_eq_of_lt HK.out.1,Nat.div_eq_of_lt HL.out.1]),Below.refl _ _⟩
  case round=>
   obtain⟨i0,hi1,hi2,rfl,HE,HB⟩:=hrel;by_cases h0:0≤i0
   ·obtain⟨m,rfl⟩:∃m:Nat,i0=(m:Int):=⟨i0.toNat,by omega⟩;obtain⟨a1,rfl,ha1,hc1⟩:=H1.out (by omega);obtain⟨a2,rfl,ha2,hc2⟩:=H2.out (by omega);have p1:=(HB.out.cell (p:=a1.add m) (by rw [zac];exact ha1)).trans (hc1 m (by omega));have p2:=(HB.out.cell (p:=a2.add m) (by rw [zac];exact ha2)).trans (hc2 m (by omega));rw [show((m:Int)+1).toNat=m+1 by omega]at HE;have dx:=zcn x m;have dy:=zcn y m;obtain⟨lx,hlx⟩:∃l,limb x m=l:=⟨_,rfl⟩;obtain⟨ly,hly⟩:∃l,limb y m=l:=⟨_,rfl⟩;rw [hlx]at p1 dx;rw [hly]at p2 dy;rw [HE.out]at dx;have HX:=zHi dx;have HY:=zHi dy;clear hc1 hc2 hlx hly dx dy;by_cases he:lx=ly
    ·subst he;have hee:((lx:Int) != (lx:Int))=false:=by simp
     gi_wp2;gi_quiet (fail)
     gi_wp2;refine⟨⟨(m:Int)-1,by omega,by omega,by go_num,zHi ?_,HB.out.trans ((zbh _ _).mono HB.out.size)⟩,by simp [intOf]⟩;rw [show((m:Int)-1+1).toNat=m by omega,HX.out,HY.out]
    ·have he':¬(lx:Int)=(ly:Int):=by omega
     have he2:((lx:Int) != (ly:Int))=true:=by simp;omega
     have hcm:x/B^m<y/B^m↔lx<ly:=by rw [HX.out,HY.out];omega
     have hxy:zrd x y (if lx<ly then -1 else 1):=by
      have h1:lx<ly→x<y:=fun h=>by
       apply Classical.byContradiction
       intro hno;have:=Nat.div_le_div_right (c:=B^m) (show y≤x by omega);have:=hcm.2 h;omega
      have h2:¬lx<ly→y<x:=fun h=>by
       apply Classical.byContradiction
       intro hno;have h3:=Nat.div_le_div_right (c:=B^m) (show x≤y by omega);rw [HX.out,HY.out]at h3;omega
      by_cases h:lx<ly
      ·rw [if_pos h];have:=h1 h;exact⟨by omega,by omega⟩
      ·rw [if_neg h];have:=h2 h;exact⟨by omega,by omega⟩
     have HXY:=zHi hxy;clear hxy hcm;gi_wp2;gi_quiet (fail)
     gi_wp2;by_cases hlt:lx<ly
     ·have hl1:decide ((lx:Int)<(ly:Int))=true:=by simp;omega
      have hl2:(lx:Int)<(ly:Int):=by omega
      rw [if_pos hlt]at HXY;gi_quiet (fail)
      gi_wp2;all_goals (first|go_returns|go_ret|go_end0)
      exact⟨-1,HXY.out,rfl,HB.out.trans (Below.mono (by first|exact zbh _ _|exact zdn _ _ _) HB.out.size)⟩
     ·have hl1:decide ((lx:Int)<(ly:Int))=false:=by simp;omega
      have hl2:¬(lx:Int)<(ly:Int):=by omega
      rw [if_neg hlt]at HXY;gi_quiet (fail)
      gi_wp2;all_goals (first|go_returns|go_ret|go_end0)
      exact⟨1,HXY.out,rfl,HB.out.trans (Below.mono (by first|exact zbh _ _|exact zdn _ _ _) HB.out.size)⟩
   ·have hm1:i0 = -1:=by omega
    subst hm1;have hxy:x=y:=by
     have:=HE.out;simpa using this
    gi_wp2;all_goals (first|go_returns|go_ret|go_end0)
    exact⟨0,⟨by omega,by omega⟩,rfl,HB.out⟩
 ·have hkl':¬(k:Int)=(l:Int):=by omega
  gi_wp2;all_goals (first|go_returns|go_ret|go_end0)
  refine⟨(k:Int)-(l:Int),⟨?_,?_⟩,rfl,Below.refl _ _⟩
  ·constructor
   ·intro h;exact zgA HK.out HL.out (by omega)
   ·intro h;apply Classical.byContradiction
    intro hno;have:=zgA HL.out HK.out (by omega);omega
  ·constructor
   ·intro h;omega
   ·intro h;subst h;exact absurd (HK.out.unique HL.out) hkl
theorem zbT(w:World)(v:Value)(n k:Nat)(h:zbw w v n k)(hn:n<B^k) :
  CallsIn Fence.wide 0 Tryz.prog 107 #[v] w fun e w'=>∃v',e = .returned v'∧(zas w' v' n∧v'.ownBlock=v.ownBlock)∧Below w.heap.size w w':=by
 have hks:=h.small;have HLA:=zHi h;obtain⟨o,c,rfl,h1⟩:=h.form;have H1:=zHi h1;have HN:=zHi hn;have hkc:k≤c∧c≤9223372036854775807∨k=0:=by
  rcases h with⟨h0,_⟩|⟨a,cap,hv,h2,h3,h4,h5,h6⟩
  ·exact .inr h0
  ·injection hv with _ _ hc;left;omega
 clear h h1 hn;refine callsIn_of_wp Tryz.func107 rfl trivial ?_ rfl;simp only [Tryz.ntmps107,ztH,ztI,ztJ,Nat.reduceAdd,Nat.reduceSub,ztK,ztL,ztM,ztN,ztO,ztP];gi_wp2;gi_loopw [3] (fun i wr=>∃j:Nat,j≤k∧i = .int .i64 (j:Int)∧Hid (n<B^j)∧Hid (Below w.heap.size w wr)) (fun i _=>(intOf i).toNat)
 case atStart=>exact⟨k,Nat.le_refl _,rfl,HN.out,Below.refl _ _⟩
 case round=>
  obtain⟨j,hj,rfl,HJ,HB⟩:=hrel;by_cases h0:0<j
  ·obtain⟨m,rfl⟩:∃m,j=m+1:=⟨j-1,by omega⟩;obtain⟨a,rfl,ha,hc⟩:=H1.out (by omega);have p:=(HB.out.cell (p:=a.add m) (by rw [zac];exact ha)).trans (hc m (by omega));obtain⟨l,hl⟩:∃l,limb n m=l:=⟨_,rfl⟩;rw [hl]at p;have HLm:=zHi hl;clear hc hl;by_cases hz:l=0
   ·subst hz;gi_wp2;exact⟨⟨m,by omega,rfl,zjd HJ.out HLm.out,HB.out⟩,by simp [intOf]⟩
   ·have hz':¬(l:Int)=0:=by omega
    gi_wp2;all_goals (first|go_returns|go_ret|go_end0)
    obtain⟨a',e',ha',hc⟩:=H1.out (by omega);injection e' with e';subst e';exact⟨_,rfl,⟨⟨m+1,zn2 HJ.out (by rw [HLm.out];exact hz),.inr ⟨a,m+1,rfl,by omega,Nat.le_refl _,by omega,(HLA.out.elem (by omega)).below HB.out ha,fun i hi=>(HB.out.cell (p:=a.add i) (by rw [zac];exact ha)).trans (hc i (by omega))⟩⟩,rfl⟩,HB.out⟩
  ·have hj0:j=0:=by omega
   subst hj0;gi_wp2;all_goals (first|go_returns|go_ret|go_end0)
   exact⟨_,rfl,⟨⟨0,⟨HJ.out,.inl rfl⟩,.inl ⟨rfl,o,0,rfl⟩⟩,by cases o <;> rfl⟩,HB.out⟩
theorem zsz{w:World}{v:Value}{n:Nat}(h:zas w v n):(∃o c,v = .slice o 1 c∧0<n∧n<B∧∃a:Addr,o=some a∧a.block<w.heap.size∧w.cell? (a.add 0)=some (.int .u64 (n:Int)))∨(∃o k c,v = .slice o k c∧k≠1∧k≤1000000000∧n≠1):=by
 obtain⟨k,hk,hl⟩:=h;have hs:=hl.small;obtain⟨o,c,rfl,h1⟩:=hl.form;by_cases hk1:k=1
 ·subst hk1;left;obtain⟨a,rfl,ha,hc⟩:=h1 (by omega);have h2:=hk.1;have h3:=hk.2;rw [Nat.pow_one]at h2;simp at h3
  refine⟨_,_,rfl,by omega,h2,a,rfl,ha,?_⟩;rw [hc 0 (by omega)];have:limb n 0=n:=by unfold limb;rw [Nat.pow_zero,Nat.div_one,Nat.mod_eq_of_lt h2]
  rw [this]
 ·right;refine⟨o,k,c,rfl,hk1,hs,fun e=>hk1 ?_⟩;subst e;exact hk.unique ⟨by rw [Nat.pow_one];decide,.inr (by simp)⟩
theorem zcC(w:World)(v:Value)(n:Nat)(h:zas w v n) :
  CallsIn Fence.wide 0 Tryz.prog 65 #[v] w fun e w'=>e = .returned (.bool (decide (n=1)))∧Below w.heap.size w w':=by
 rcases zsz h with⟨o,c,rfl,h0,hB,a,rfl,ha,hc⟩|⟨o,k,c,rfl,hk,hs,hn⟩
 ·have hc':w.cell? a=some (.int .u64 (n:Int)):=hc;clear h;refine callsIn_of_wp Tryz.func65 rfl trivial ?_ rfl;simp only [Tryz.ntmps65,ztH,ztI,ztJ,Nat.reduceAdd,Nat.reduceSub,ztK,ztL,ztM,ztN,ztO,ztP];by_cases h1:n=1
  ·subst h1;gi_wp2;all_goals (first|go_returns|go_ret|go_end0)
   exact⟨by simp,Below.refl _ _⟩
  ·have h1':¬(n:Int)=1:=by omega
   gi_wp2;all_goals (first|go_returns|go_ret|go_end0)
   exact⟨by simp [h1];exact h1',Below.refl _ _⟩
 ·have hk':¬(k:Int)=1:=by omega
  clear h;refine callsIn_of_wp Tryz.func65 rfl trivial ?_ rfl;simp only [Tryz.ntmps65,ztH,ztI,ztJ,Nat.reduceAdd,Nat.reduceSub,ztK,ztL,ztM,ztN,ztO,ztP];gi_wp2;all_goals (first|go_returns|go_ret|go_end0)
  exact⟨by simp [hn],Below.refl _ _⟩
def zc1(b:Nat)(v:Value):Prop:=∀k,v.ownBlock=some k→b≤k
theorem zc6{b m c:Nat}{a:Addr}{v:Value}(h:v.ownBlock=(Value.slice (some a) m c).ownBlock)(hg:b≤a.block):zc1 b v:=by
 intro k hk;rw [h]at hk;have:a.block=k:=by simpa [Value.ownBlock]using hk
 omega
theorem zc1.mono{b b':Nat}{v:Value}(h:zc1 b v)(hb:b'≤b):zc1 b' v:=fun k hk=>Nat.le_trans hb (h k hk)
theorem zdE{x:Nat}(h:x<18446744073709551616):IntKind.u64.wrap (x:Int)=(x:Int):=by
 have e:IntKind.u64.wrap (x:Int)=(x:Int)%18446744073709551616:=rfl;rw [e];omega
theorem zeb(w:World)(n:Nat)(hn:n<18446744073709551616) :
  CallsIn Fence.wide 0 Tryz.prog 74 #[.int .u64 (n:Int)] w fun e w'=>∃v',e = .returned v'∧(zas w' v' n∧zc1 w.heap.size v')∧Below w.heap.size w w':=by
 have r0:((n:Int).tmod 1000000000)=((limb n 0:Nat):Int):=by
  unfold limb B;rw [Nat.pow_zero,Nat.div_one];rfl
 have q1:((n:Int).tdiv 1000000000)=((n/1000000000:Nat):Int):=rfl;have r1:(((n/1000000000:Nat):Int).tmod 1000000000)=((limb n 1:Nat):Int):=by
  unfold limb B;rw [Nat.pow_one];rfl
 have q2:(((n/1000000000:Nat):Int).tdiv 1000000000)=((limb n 2:Nat):Int):=by
  have h:limb n 2=n/1000000000/1000000000:=by
   unfold limb B;rw [Nat.div_div_eq_div_mul];omega
  rw [h];rfl
 obtain⟨l0,hl0⟩:∃l,limb n 0=l:=⟨_,rfl⟩;obtain⟨l1,hl1⟩:∃l,limb n 1=l:=⟨_,rfl⟩;obtain⟨l2,hl2⟩:∃l,limb n 2=l:=⟨_,rfl⟩;obtain⟨d,hd⟩:∃d,n/1000000000=d:=⟨_,rfl⟩;rw [hl0]at r0;rw [hd]at q1;rw [hd,hl1]at r1;rw [hd,hl2]at q2;have hdn:d<18446744073709551616:=by omega
 have hl2B:l2<B:=by rw [←hl2];exact zaA n 2
 have hBB:B=1000000000:=rfl;have w1:=zdE hdn;have w2:=zdE (x:=l2) (by omega);have HL0:=zHi hl0;have HL1:=zHi hl1;have HL2:=zHi hl2;clear hl0 hl1 hl2 hd;refine callsIn_of_wp Tryz.func74 rfl trivial ?_ rfl;simp only [Tryz.ntmps74,ztH,ztI,ztJ,Nat.reduceAdd,Nat.reduceSub,ztK,ztL,ztM,ztN,ztO,ztP];gi_wp2_with (gi_at_call 107;refine stop ?_)
 refine(zbT _ _ n 3 (.inr ⟨⟨w.heap.size,0,none⟩,3,rfl,by omega,Nat.le_refl _,by omega,zaB _ _ _,fun i hi => ?_⟩) ?_).mono ?_
 ·rw [Addr.add_lit,Nat.zero_add,World.cell?_alloc_new];have h3:i=0∨i=1∨i=2:=by omega
  rcases h3 with rfl|rfl|rfl
  ·rw [HL0.out];rfl
  ·rw [HL1.out];rfl
  ·rw [HL2.out];rfl
 ·have:B^3=1000000000000000000000000000:=by decide
  omega
 ·rintro e w2 ⟨v',rfl,hm,hB⟩;have HM:=zHi hm;have HB:=zHi (((Below.refl w.heap.size w).alloc (Nat.le_refl _) _).trans (hB.mono (by simp)));clear hm hB;gi_wp2;all_goals (first|go_returns|go_ret|go_end0)
  exact⟨_,rfl,⟨HM.out.1,zc6 HM.out.2 (Nat.le_refl _)⟩,HB.out⟩
theorem zaL{F:Fence}{n:Nat}{P:Program}(w:World){ops:Array Oper}{rest:List Oper}{o:Oper}{a:Act}{Q:Exit→Act→World→Prop}
  (hg:o.guard=none) (l c:Operand) (t:TypeId) (hop:o.op=Op.makeSlice t l c)
  (base:Nat) (e:TypeId) (i:TypeInfo) (z:Value) (size:Nat) (h1:P.underlying t=some (.slice e)) (h2:P.info? e=some i) (h3:i.zero=some z) (h4:i.size=size)
  (kl kc:IntKind) (L C:Int) (m:Nat) (hl:a.eval l = .int kl L) (hc:a.eval c = .int kc C) (hL:L=(m:Int)) (hC:C=(m:Int)) (b2:i.bytes*m≤281474976710656) (b3:m≤maxLen) (b4:base≤w.heap.size)
  (hK:∀w',w'.ownsRow base e size (.slice (some ⟨w.heap.size,0,none⟩) m m) m (madeCells z.cells (m*size)).toList→w.grownBy w' none→wpListIn F n P ops Q rest (a.put o.dst (.slice (some ⟨w.heap.size,0,none⟩) m m)) w') :
  wpListIn F n P ops Q (o :: rest) a w:=by
 refine wpListIn_plain hg fun K hK' => ?_
 obtain⟨w',hrun,r1,r2⟩:=run_make_full (P:=P) w base t e i z size h1 h2 h3 h4 kl kc m b2 b3 b4;subst hL;subst hC;unfold Oper.wpIn;refine⟨?_,?_⟩
 ·simp [Oper.about,hop]
 ·rw [Oper.semAt_plain F _ _ (by rw [hop];intro c hc';cases hc')];simp [execOp,hop,hl,hc,hrun,Result.andThen]
  exact hK' _ _ (hK w' r1 r2)
def zaj(w:World)(g n:Nat)(f:Nat→Value):Prop:=∀i,i<n→w.cell? ⟨g,i,none⟩=some (f i)∧w.frozen? ⟨g,i,none⟩=false
theorem zaj.set{w:World}{g n:Nat}{f:Nat→Value}(h:zaj w g n f){i:Nat}(hi:i<n)(v:Value):zaj (w.setCell ⟨g,i,none⟩ v) g n (fun j=>if j=i then v else f j):=by
 intro j hj;refine⟨?_,by rw [World.frozen?_setCell];exact(h j hj).2⟩;by_cases e:j=i
 ·subst e;simp only [if_true];exact World.cell?_setCell_same _ _ _ (h j hj).1
 ·simp only [if_neg e];rw [World.cell?_setCell_other _ _ _ _ (by intro q;injection q;omega)];exact(h j hj).1
theorem zaj.congr{w:World}{g n:Nat}{f f':Nat→Value}(h:zaj w g n f)(e:∀i,i<n→f i=f' i):zaj w g n f':=fun i hi=>by rw [←e i hi];exact h i hi
theorem zaj.below{w w':World}{g n B:Nat}{f:Nat→Value}(h:zaj w g n f)(hg:g<B)(hb:Below B w w'):zaj w' g n f:=fun i hi=>by
 rw [hb.cell (p:=⟨g,i,none⟩) hg,hb.frozen (p:=⟨g,i,none⟩) hg];exact h i hi
theorem zaj.of_row{w:World}{base:Nat}{e:TypeId}{g n cap:Nat}{xs:List Value}(h:w.ownsRow base e 1 (.slice (some ⟨g,0,none⟩) n cap) n xs){f:Nat→Value}(hf:∀i,i<n→xs[i]? = some (f i)):zaj w g n f:=
 fun i hi=>⟨(h.cellAt i (by omega)).trans (hf i hi),h.frozenAt i⟩
theorem zaj.new(w:World)(cs:Array Value)(t:TypeId){n:Nat}{f:Nat→Value}(h:∀i,i<n→cs[i]? = some (f i)):zaj (w.alloc (.cells cs t)) w.heap.size n f:=
 fun i hi=>⟨by rw [World.cell?_alloc_new];exact h i hi,World.frozen?_alloc_new _ _ _ _⟩
theorem zaj.alloc{w:World}{g n:Nat}{f:Nat→Value}(h:zaj w g n f)(hg:g<w.heap.size)(o:Obj):zaj (w.alloc o) g n f:=
 fun i hi=>⟨by rw [World.cell?_alloc_lt _ _ _ hg];exact(h i hi).1,by rw [World.frozen?_alloc_old _ _ _ (by simp;omega)];exact(h i hi).2⟩
theorem zaj.lt{w:World}{g n:Nat}{f:Nat→Value}(h:zaj w g n f)(hn:0<n):g<w.heap.size:=World.block_lt_of_cell? _ _ (h 0 hn).1
theorem zci:Tryz.prog.info? 111=some Tryz.t111:=by kernel_rfl
theorem u23:Tryz.prog.underlying 23=some (.slice 111):=by kernel_rfl
theorem zde:Tryz.t111.zero=some (.int .u64 0):=by kernel_rfl
theorem zcM:Tryz.t111.size=1:=by kernel_rfl
theorem zcw:Tryz.t111.bytes=8:=by kernel_rfl
theorem zdO{n i:Nat}(hi:i<n):(madeCells #[Value.int .u64 0] n).toList[i]? = some (.int .u64 0):=by
 simp [madeCells,hi,Nat.mod_one]
theorem zlC(i:Nat):limb 0 i=0:=by unfold limb;simp
theorem zcF{w:World}{base:Nat}{e:TypeId}{size:Nat}{g n cap:Nat}{xs:List Value}(h:w.ownsRow base e size (.slice (some ⟨g,0,none⟩) n cap) n xs):Elem w g e:=by
 rcases h.2 with⟨h,_⟩|⟨g',cap',cur,h1,h2,h3,_⟩
 ·cases h
 ·injection h1 with h1 _ _;injection h1 with h1;injection h1 with h1 _ _;subst h1;exact⟨cur,(0,0),h3⟩
theorem zaj.limbs{w:World}{g n k cap:Nat}(h:zaj w g k fun i => .int .u64 ((limb n i:Nat):Int))(hk:0<k)(hc:k≤cap)(h9:k≤1000000000∧cap≤9223372036854775807)(hE:Elem w g 111):zbw w (.slice (some ⟨g,0,none⟩) k cap) n k:=
 .inr ⟨⟨g,0,none⟩,cap,rfl,hk,hc,h9,hE,fun i hi=>by rw [Addr.add_lit,Nat.zero_add];exact(h i hi).1⟩
def zbE(n k:Nat):List Value:=(List.range k).map fun i => .int .u64 ((limb n i:Nat):Int)
theorem zjl(n k:Nat):(zbE n k).length=k:=by simp [zbE]
theorem zmZ(n k:Nat):zbE n (k+1)=zbE n k ++ [.int .u64 ((limb n k:Nat):Int)]:=by simp [zbE,List.range_succ]
theorem zrz(w:World)(i:Int)(t:TypeId):∀k u,[Value.int .u64 i][k]? = some u→(w.alloc (.cells #[.int .u64 i] t)).cell? ((⟨w.heap.size,0,none⟩:Addr).add k)=some u:=by
 intro k u h;rw [Addr.add_lit,Nat.zero_add,World.cell?_alloc_new];match k,h with
 | 0,h=>exact h
theorem zeD{w:World}{base n k:Nat}{v:Value}(h:w.ownsRow base 111 1 v k (zbE n k))(hk:k≤500000000):zbw w v n k:=by
 rcases h.2 with⟨rfl,rfl⟩|⟨g,cap,cur,rfl,h1,h2,h3,h4,h5,h6⟩
 ·exact .inl ⟨rfl,none,0,rfl⟩
 ·rcases Nat.eq_zero_or_pos k with h0|h0
  ·subst h0;exact .inl ⟨rfl,_,_,rfl⟩
  ·refine .inr ⟨⟨g,0,none⟩,cap,rfl,h0,h3,⟨by omega,by unfold maxLen at h4;omega⟩,⟨cur,(0,0),h2⟩,fun i hi => ?_⟩;have:=h.cells rfl i (.int .u64 ((limb n i:Nat):Int)) (by simp [zbE,hi]);rw [Addr.add_lit]at this ⊢;exact this
theorem zcq.le{n k L:Nat}(h:zcq n k)(hn:n<B^L):k≤L:=by
 apply Classical.byContradiction
 intro hno;have h2:=h.2;have:=zag (i:=L) (j:=k-1) (by omega);omega
theorem zbU{w:World}{base:Nat}{e:TypeId}{size:Nat}{v:Value}{n:Nat}{xs:List Value}(h:w.ownsRow base e size v n xs){k:Nat}(hk:v.ownBlock=some k):base≤k:=by
 rcases h.2 with⟨rfl,_⟩|⟨g,cap,cur,rfl,hg,_⟩
 ·cases hk
 ·have:g=k:=by simpa [Value.ownBlock]using hk
  omega
theorem zbv{F:Fence}{n:Nat}(w wr:World){ops:Array Oper}{rest:List Oper}{o:Oper}{a:Act}{Q:Exit→Act→World→Prop}
  (hg:o.guard=none) (s x:Operand) (hop:o.op=Op.call {callee:=Callee.builtin Builtin.append,args:=#[s,x],argTypes:=#[23,23]})
  (v:Value) (j N:Nat) (hs:a.eval s=v) (HO:Hid (wr.ownsRow w.heap.size 111 1 v j (zbE N j))) (z:Int) (t:TypeId) (hx:a.eval x = .slice (some ⟨wr.heap.size,0,none⟩) 1 1) (hz:z=((limb N j:Nat):Int)) (hj:j<500000000)
  (HB:Hid (Below w.heap.size w wr))
  (hK:∀v' w',Hid (w'.ownsRow w.heap.size 111 1 v' (j+1) (zbE N (j+1)))→Hid (Below w.heap.size w w')→wpListIn F n Tryz.prog ops Q rest (a.put o.dst v') w') :
  wpListIn F n Tryz.prog ops Q (o :: rest) a (wr.alloc (.cells #[.int .u64 z] t)):=by
 have hsz:=HB.out.size;refine wpListIn_append_own _ hg s x 23 hop w.heap.size 111 Tryz.t111 _ 1 8 Go.Num.u23 zci zde zcM zcw rfl (by decide) v j (zbE N j) hs (World.ownsRow.alloc HO.out _) ⟨wr.heap.size,0,none⟩ 1 1 [.int .u64 z] hx rfl (zrz _ _ _) (fun u hu=>by simp at hu;subst hu;rfl) (by unfold maxLen;omega) (by omega) (by simp;omega) ?_;intro v' w' h1 h2 _;refine hK v' w' ?_ ?_
 ·rw [zmZ,←hz];exact h1
 ·refine(HB.out.alloc hsz _).grown h2 (by simp;omega) fun k hk => ?_
  exact zbU HO.out hk
theorem zma(w:World)(va vb:Value)(x y L:Nat)(ha:zas w va x)(hb:zas w vb y)(hx:x<B^L)(hy:y<B^L)(hL:L≤100000000) :
  CallsIn Fence.wide 0 Tryz.prog 131 #[va,vb] w fun e w'=>∃v',e = .returned v'∧(zas w' v' (x+y)∧zc1 w.heap.size v')∧Below w.heap.size w w':=by
 obtain⟨k,hk,hla⟩:=ha;obtain⟨l,hl,hlb⟩:=hb;have hkL:=hk.le hx;have hlL:=hl.le hy;clear hx hy;obtain⟨o1,c1,rfl,h1⟩:=hla.form;obtain⟨o2,c2,rfl,h2⟩:=hlb.form;have H1:=zHi h1;have H2:=zHi h2;have HK:=zHi hk;have HL:=zHi hl;clear h1 h2 hk hl hla hlb;refine callsIn_of_wp Tryz.func131 rfl trivial ?_ rfl;simp only [Tryz.ntmps131,ztH,ztI,ztJ,Nat.reduceAdd,Nat.reduceSub,ztK,ztL,ztM,ztN,ztO,ztP];obtain⟨M,hM⟩:∃M,max k l=M:=⟨_,rfl⟩;have hMk:k≤M:=by omega
 have hMl:l≤M:=by omega
 have hM9:M≤100000000:=by omega
 have HS:Hid (x<B^M∧y<B^M):=⟨Nat.lt_of_lt_of_le HK.out.1 (zag hMk),Nat.lt_of_lt_of_le HL.out.1 (zag hMl)⟩;by_cases hkl:k<l
 case' pos=>have hML:M=l:=by omega
 case' neg=>have hML:M=k:=by omega
 all_goals
  have HML:=zHi hML;clear hM hML;gi_wp2_with (gi_at_make;refine stop ?_)
  unfold Stop;refine wpListIn_make_own _ rfl _ _ _ rfl w.heap.size 111 Tryz.t111 _ 1 Go.Num.u23 zci zde zcM _ _ _ (_+1) rfl rfl rfl (by rw [zcw];omega) (by unfold maxLen;omega) (Nat.le_refl _) ?_;intro W4 hown hgrow;have HO4:Hid (W4.ownsRow w.heap.size 111 1 _ 0 (zbE (x+y) 0)):=hown;have HB4:Hid (Below w.heap.size w W4):=(Below.refl _ w).grown hgrow (Nat.le_refl _) (fun _ h=>by cases h);clear hown hgrow;gi_wp2;gi_loopw [5,6,7] (fun v cv i wr=>∃j c:Nat,j≤M+1∧i = .int .i64 (j:Int)∧cv = .int .u64 (c:Int)∧Hid (zcs x y j=c)∧Hid (wr.ownsRow w.heap.size 111 1 v j (zbE (x+y) j))∧Hid (Below w.heap.size w wr)) (fun _ _ i _=>M+2-(intOf i).toNat)
  case atStart=>exact⟨0,0,by omega,rfl,rfl,zHi (zie x y),HO4.out,HB4.out⟩
  case round=>
   obtain⟨j,c,hj,rfl,rfl,HC,HO,HBr⟩:=hrel;have hc1:c≤1:=by rw [←HC.out];exact zeU x y j
   have hjc:c=1→j≤M:=fun hc=>by
    apply Classical.byContradiction
    intro hno;have:j=M+1:=by omega
    subst this;have s:=(zha x y M).2;rw [zaN HS.out.1,zaN HS.out.2,HC.out,hc]at s;have:=zeU x y M;have hBB:B=1000000000:=rfl;rw [Nat.div_eq_of_lt (by omega)]at s;omega
   have s:=zha x y j;rw [HC.out]at s;obtain⟨lx,hlx⟩:∃l,limb x j=l:=⟨_,rfl⟩;obtain⟨ly,hly⟩:∃l,limb y j=l:=⟨_,rfl⟩;have bx:lx<1000000000:=by rw [←hlx];exact zaA x j
   have by':ly<1000000000:=by rw [←hly];exact zaA y j
   rw [hlx,hly]at s;have HSt:=zHi s;clear s HO4 HB4;have hMM:=HML.out;have hBB:B=1000000000:=rfl;by_cases hjk:j<k
   ·by_cases hjl:j<l
    ·have hj1:j≤M:=by omega
     obtain⟨a1,rfl,ha1,hc1'⟩:=H1.out (by omega);have p1:=(HBr.out.cell (p:=a1.add j) (by rw [zac];exact ha1)).trans (hc1' j hjk);rw [hlx]at p1;clear hc1';obtain⟨a2,rfl,ha2,hc2'⟩:=H2.out (by omega);have p2:=(HBr.out.cell (p:=a2.add j) (by rw [zac];exact ha2)).trans (hc2' j hjl);rw [hly]at p2;clear hc2';have hjkd:decide ((j:Int)<(k:Int))=true:=decide_eq_true (by omega);have hjld:decide ((j:Int)<(l:Int))=true:=decide_eq_true (by omega);clear hlx hly;gi_wp2_with (gi_at_builtin;refine stop ?_)
     unfold Stop;refine zbv w wr rfl _ _ rfl u5 j (x+y) rfl HO _ _ rfl ?_ (by omega) HBr ?_
     ·rw [HSt.out.1];simp [B];omega
     ·intro v2 w2 HO2 HB2;gi_wp2;refine⟨⟨j+1,(lx+ly+c)/B,by omega,by go_num,?_,HSt.out.2.symm ▸ rfl,HO2,HB2⟩,by simp [intOf];omega⟩;simp [B];omega
    ·try omega
     all_goals
      have hj1:j≤M:=by omega
      obtain⟨a1,rfl,ha1,hc1'⟩:=H1.out (by omega);have p1:=(HBr.out.cell (p:=a1.add j) (by rw [zac];exact ha1)).trans (hc1' j hjk);rw [hlx]at p1;clear hc1';have hy0:ly=0:=by rw [←hly];exact zaN (Nat.lt_of_lt_of_le HL.out.1 (zag (by omega)))
      subst hy0;have hjl':¬(j:Int)<(l:Int):=by omega
      have hjld:decide ((j:Int)<(l:Int))=false:=decide_eq_false (by omega);have hjkd:decide ((j:Int)<(k:Int))=true:=decide_eq_true (by omega);clear hlx hly;gi_wp2_with (gi_at_builtin;refine stop ?_)
      unfold Stop;refine zbv w wr rfl _ _ rfl u5 j (x+y) rfl HO _ _ rfl ?_ (by omega) HBr ?_
      ·rw [HSt.out.1];simp [B];omega
      ·intro v2 w2 HO2 HB2;gi_wp2;refine⟨⟨j+1,(lx+0+c)/B,by omega,by go_num,?_,HSt.out.2.symm ▸ rfl,HO2,HB2⟩,by simp [intOf];omega⟩;simp [B];omega
   ·by_cases hjl:j<l
    ·try omega
     all_goals
      have hj1:j≤M:=by omega
      have hx0:lx=0:=by rw [←hlx];exact zaN (Nat.lt_of_lt_of_le HK.out.1 (zag (by omega)))
      subst hx0;have hjk':¬(j:Int)<(k:Int):=by omega
      have hjkd:decide ((j:Int)<(k:Int))=false:=decide_eq_false (by omega);obtain⟨a2,rfl,ha2,hc2'⟩:=H2.out (by omega);have p2:=(HBr.out.cell (p:=a2.add j) (by rw [zac];exact ha2)).trans (hc2' j hjl);rw [hly]at p2;clear hc2';have hjld:decide ((j:Int)<(l:Int))=true:=decide_eq_true (by omega);clear hlx hly;gi_wp2_with (gi_at_builtin;refine stop ?_)
      unfold Stop;refine zbv w wr rfl _ _ rfl u5 j (x+y) rfl HO _ _ rfl ?_ (by omega) HBr ?_
      ·rw [HSt.out.1];simp [B];omega
      ·intro v2 w2 HO2 HB2;gi_wp2;refine⟨⟨j+1,(0+ly+c)/B,by omega,by go_num,?_,HSt.out.2.symm ▸ rfl,HO2,HB2⟩,by simp [intOf];omega⟩;simp [B];omega
    ·by_cases hc0:c=1
     ·subst hc0;have hj1:=hjc rfl;have hx0:lx=0:=by rw [←hlx];exact zaN (Nat.lt_of_lt_of_le HK.out.1 (zag (by omega)))
      subst hx0;have hjk':¬(j:Int)<(k:Int):=by omega
      have hjkd:decide ((j:Int)<(k:Int))=false:=decide_eq_false (by omega);have hy0:ly=0:=by rw [←hly];exact zaN (Nat.lt_of_lt_of_le HL.out.1 (zag (by omega)))
      subst hy0;have hjl':¬(j:Int)<(l:Int):=by omega
      have hjld:decide ((j:Int)<(l:Int))=false:=decide_eq_false (by omega);clear hlx hly;gi_wp2_with (gi_at_builtin;refine stop ?_)
      unfold Stop;refine zbv w wr rfl _ _ rfl u5 j (x+y) rfl HO _ _ rfl ?_ (by omega) HBr ?_
      ·rw [HSt.out.1];(first|(simp [B];done)|(simp [B];omega))
      ·intro v2 w2 HO2 HB2;gi_wp2;refine⟨⟨j+1,(0+0+1)/B,by omega,by go_num,?_,HSt.out.2.symm ▸ rfl,HO2,HB2⟩,by simp [intOf];omega⟩
       (first|(simp [B];done)|(simp [B];omega))
     ·have hc00:c=0:=by omega
      subst hc00;have hjk':¬(j:Int)<(k:Int):=by omega
      have hjkd:decide ((j:Int)<(k:Int))=false:=decide_eq_false (by omega);have hjl':¬(j:Int)<(l:Int):=by omega
      have hjld:decide ((j:Int)<(l:Int))=false:=decide_eq_false (by omega);have hlt:x+y<B^j:=by
       have s0:=zgj x y j;rw [zbc (Nat.lt_of_lt_of_le HK.out.1 (zag (by omega))),zbc (Nat.lt_of_lt_of_le HL.out.1 (zag (by omega))),HC.out,Nat.mul_zero,Nat.add_zero]at s0;rw [s0];exact zcr _ _
      have HT:=zHi (zbT wr _ (x+y) j (zeD HO.out (by omega)) hlt);clear hlx hly hlt;gi_wp2_with (gi_at_call 107;refine HT.out.mono ?_;rintro e w7 ⟨v',rfl,hm,hB7⟩;have HM:=zHi hm;have HB7:=zBt HBr hB7;clear hm hB7)
      all_goals (first|go_returns|go_ret|go_end0)
      exact⟨v',rfl,⟨HM.out.1,fun k hk=>zbU HO.out (HM.out.2 ▸ hk)⟩,HB7.out⟩
end Go.Num
