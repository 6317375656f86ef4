/-
  A call of a function, on the abstract machine and in the model. A region that draws its order, whole. A region that draws its order: the ind
  Conditions: see each statement.
-/
import Derived.Test.YtepakfjilnpodaaGreatDoorRDAD
namespace Go.Eng
open Go.RowKit
def cntF(f:Nat→Bool):Nat→Nat
 | 0=>0
 | n+1=>cntF f n+if f n=true then 0 else 1
theorem cntF_zero{f:Nat→Bool}:∀{n:Nat},cntF f n=0→∀i,i<n→f i=true
 | n+1,h,i,hi=>by
  simp only [cntF]at h
  by_cases hn:f n=true
  ·rcases Nat.lt_succ_iff_lt_or_eq.1 hi with q|rfl
   ·exact cntF_zero (by omega) i q
   ·exact hn
  ·rw [if_neg hn]at h;omega
theorem cntF_set{f g:Nat→Bool}{i:Nat}(hf:f i≠true)(hg:g i=true)(ho:∀j,j≠i→g j=f j):∀{n:Nat},i<n→cntF g n+1=cntF f n
 | n+1,hi=>by
  simp only [cntF]
  rcases Nat.lt_succ_iff_lt_or_eq.1 hi with q|rfl
  ·have:=cntF_set hf hg ho q
   rw [ho n (by omega)];omega
  ·have:∀m,m≤i→cntF g m=cntF f m:=by
    intro m
    induction m with
    | zero=>intro _;rfl
    | succ m ih=>intro hm;simp only [cntF];rw [ih (by omega),ho m (by omega)]
   rw [this i (Nat.le_refl _),if_pos hg,if_neg hf]
section
variable {P:Program} {B:Nat} {w0:World} {G:Sett} {self:Cb} {ops:Array Oper} {p:Plan} {T:Tr AV}
theorem ready_spec{listed:Array Bool}(hs:listed.size=ops.size){i:Nat}(h:i∈Region.ready .any ops listed):i<ops.size∧¬Did listed i∧∃o,ops[i]? = some o∧∀e∈o.after.toList,Region.binds .any e=true→Did listed e.on:=by
 unfold Region.ready at h
 simp only [List.mem_filter,List.mem_range,Bool.and_eq_true,Bool.not_eq_true']at h
 obtain⟨hi,h1,h2⟩:=h
 refine⟨hi,?_,?_⟩
 ·intro q
  unfold Did at q
  have hlt:i<listed.size:=by omega
  rw [Array.getD_eq_getD_getElem?,Array.getElem?_eq_getElem hlt]at q h1
  simp at q h1
  rw [q]at h1;cases h1
 ·have ho:ops[i]? = some ops[i]:=Array.getElem?_eq_getElem hi
  refine⟨ops[i],ho,?_⟩
  rw [ho]at h2
  simp only [Option.map_some,Option.getD_some,Array.all_eq_true_iff_forall_mem,Bool.or_eq_true,Bool.not_eq_true']at h2
  intro e he hb
  rcases h2 e (by simpa using he)with q|q
  ·rw [hb]at q;cases q
  ·exact q
theorem ready_nil(hp:PlanOK ops p){listed:Array Bool}(hs:listed.size=ops.size)(h:Region.ready .any ops listed = []):∀i,i<ops.size→Did listed i:=by
 intro i
 induction i using Nat.strongRecOn with
 | ind i ih=>
  intro hi
  refine Decidable.byContradiction fun hnd => ?_
  have ho:ops[i]? = some ops[i]:=Array.getElem?_eq_getElem hi
  have:i∈Region.ready .any ops listed:=by
   unfold Region.ready
   simp only [List.mem_filter,List.mem_range,Bool.and_eq_true,Bool.not_eq_true']
   refine⟨hi,?_,?_⟩
   ·have hlt:i<listed.size:=by omega
    unfold Did at hnd
    rw [Array.getD_eq_getD_getElem?,Array.getElem?_eq_getElem hlt]at hnd ⊢
    simpa using hnd
   ·rw [ho]
    simp only [Option.map_some,Option.getD_some,Array.all_eq_true_iff_forall_mem,Bool.or_eq_true,Bool.not_eq_true']
    intro e he
    cases hb:Region.binds .any e with
    | false=>exact .inl rfl
    | true=>
     have hlow:=hp.lower i _ ho e (by simpa using he) hb
     exact .inr (ih e.on hlow (by omega))
  rw [h]at this;cases this
theorem layVals_spec{vals:Vals}{nt:Nat}:∀(l:List Nat) (T T':Tr AV),layVals ops vals nt l T=some T' →
  (∀i∈l,∃o,ops[i]? = some o∧∀d,o.dst=some d→d<nt) ∧
  ∀t v,T'.get t=some v→(∃j∈l,∃o id,ops[j]? = some o∧o.dst=some t∧getV vals j=some (v,id))∨((∀j∈l,∀o,ops[j]? = some o→o.dst≠some t)∧T.get t=some v)
 | [],T,T',h=>by
  simp [layVals]at h;subst h
  exact⟨by simp,fun t v q => .inr ⟨by simp,q⟩⟩
 | i :: r,T,T',h=>by
  simp only [layVals]at h
  split at h
  ·cases h
  ·rename_i o ho
   split at h
   ·rename_i d v id hd hv
    cases hlt:Nat.blt d nt with
    | false=>rw [hlt]at h;cases h
    | true=>
     rw [hlt]at h
     simp only [cond_true,Tr.setK_eq]at h
     obtain⟨h1,h2⟩:=layVals_spec r _ _ h
     refine⟨?_,?_⟩
     ·intro j hj
      rcases List.mem_cons.1 hj with rfl|hj
      ·exact⟨o,ho,fun d' hd'=>by rw [hd]at hd';cases hd';exact(blt_iff _ _).1 hlt⟩
      ·exact h1 j hj
     ·intro t u q
      rcases h2 t u q with⟨j,hj,o',id',g1,g2,g3⟩|⟨g1,g2⟩
      ·exact .inl ⟨j,by simp [hj],o',id',g1,g2,g3⟩
      ·rcases Tr.get_set deep T d (some v) t u g2 with⟨rfl,q'⟩|⟨hne,q'⟩
       ·cases q';exact .inl ⟨i,by simp,o,id,ho,hd,hv⟩
       ·refine .inr ⟨?_,q'⟩
        intro j hj o' ho'
        rcases List.mem_cons.1 hj with rfl|hj
        ·rw [ho]at ho';cases ho';rw [hd];intro e;cases e;exact hne rfl
        ·exact g1 j hj o' ho'
   ·rename_i x hd hv
    obtain⟨h1,h2⟩:=layVals_spec r _ _ h
    refine⟨?_,?_⟩
    ·intro j hj
     rcases List.mem_cons.1 hj with rfl|hj
     ·exact⟨o,ho,fun d' hd'=>by rw [hd]at hd';cases hd'⟩
     ·exact h1 j hj
    ·intro t u q
     rcases h2 t u q with⟨j,hj,o',id',g1,g2,g3⟩|⟨g1,g2⟩
     ·exact .inl ⟨j,by simp [hj],o',id',g1,g2,g3⟩
     ·refine .inr ⟨?_,g2⟩
      intro j hj o' ho'
      rcases List.mem_cons.1 hj with rfl|hj
      ·rw [ho]at ho';cases ho';rw [hd];simp
      ·exact g1 j hj o' ho'
   ·cases h
theorem put_size(c:CAct)(dst:Option Tmp)(x:Value):(c.put dst x).tmps.size=c.tmps.size:=by
 cases dst <;> simp [Go.Act.put]
theorem put_defers(c:CAct)(dst:Option Tmp)(x:Value):(c.put dst x).defers=c.defers:=by
 cases dst <;> simp [Go.Act.put]
theorem put_other{c:CAct}{dst:Option Tmp}{x:Value}{t:Nat}(h:dst≠some t):(c.put dst x).tmps.getD t undef=c.tmps.getD t undef:=by
 cases dst with
 | none=>rfl
 | some d=>
  have:d≠t:=by intro e;subst e;exact h rfl
  simp [Go.Act.put,Array.getD_eq_getD_getElem?,this]
theorem put_same{c:CAct}{d:Nat}{x:Value}(h:d<c.tmps.size):(c.put (some d) x).tmps.getD d undef=x:=by
 simp [Go.Act.put,Array.getD_eq_getD_getElem?,h]
section
variable {nt:Nat} {ds:List Mark} {H0:AH} {μ0:Mu} {valsF:Vals} {HF:AH} {es:List Nat} {prev:Option Nat} {stage:Nat} {vals:Vals} {H:AH} {listed:Array Bool} {c:CAct} {w:World} {μ:Mu}
theorem Inv.next(hp:PlanOK ops p)(hI:Inv P B w0 G self ops p T nt ds H0 μ0 valsF HF es prev stage vals H listed c w μ){i:Nat}{o:Oper}(ho:ops[i]? = some o)(hnd:¬Did listed i)
  (hready:∀j,(bsAt p.bs i).testBit j=true→Did listed j) (hdst:∀d,o.dst=some d→d<nt) {es':List Nat} {prev':Option Nat} {stage':Nat} {vals':Vals} {H':AH} {μ':Mu} {w':World} {v:AV} {id:Option Nat} {x:Value}
  (hold:∀j y,getV vals j=some y→getV vals' j=some y) (hv:getV vals' i=some (v,id)) (hx:VR μ' v x) (hmono:μ.le μ')
  (rep:Rep P B w0 G μ' H' w') (ext:Ext H0 μ0 H' μ') (split:∃done,p.bars=done ++ es'∧done.length=stage'∧∀e∈done,Did (listed.setIfInBounds i true) e) (left:∀e∈es',¬Did (listed.setIfInBounds i true) e)
  (prevL:∀e,prev'=some e→Did (listed.setIfInBounds i true) e) (ids:∀j v id,getV vals' j=some (v,some id)→H0.next≤id∧id<H'.next∧(¬Did (listed.setIfInBounds i true) j→μ' id=none))
  (inj:∀i j v v' id,getV vals' i=some (v,some id)→getV vals' j=some (v',some id)→i=j) (check:checkStage P G ops p T vals' H' stage' prev'=true) (run:runBars P G self ops p T es' stage' vals' H'=some (valsF,HF)) :
  Inv P B w0 G self ops p T nt ds H0 μ0 valsF HF es' prev' stage' vals' H' (listed.setIfInBounds i true) (c.put o.dst x) w' μ' where
 rep:=rep
 ext:=ext
 defers:=by rw [put_defers];exact hI.defers.mono hmono
 size:=by rw [put_size];exact hI.size
 lsize:=by simp [hI.lsize]
 closed:=by
  intro a j ha hj
  rcases did_set ha with rfl|ha
  ·exact did_set_old (hready j hj)
  ·exact did_set_old (hI.closed a j ha hj)
 tmpsW:=by
  intro j q d hj hq hd
  by_cases hji:j=i
  ·subst hji
   rw [ho]at hq;cases hq
   refine⟨v,id,hv,?_⟩
   rw [hd,put_same (by rw [hI.size];exact hdst d hd)]
   exact hx
  ·rcases did_set hj with e|hj
   ·exact absurd e hji
   ·obtain⟨u,id',h1,h2⟩:=hI.tmpsW j q d hj hq hd
    refine⟨u,id',hold j _ h1,?_⟩
    rw [put_other (fun e=>hji (hp.dsts j i q o d hq ho hd e))]
    exact h2.mono hmono
 tmps0:=by
  intro t ht u hu
  have hlt:i<listed.size:=by rw [hI.lsize];exact(Array.getElem?_eq_some_iff.1 ho).1
  rw [put_other (ht i o (did_set_new hlt) ho)]
  exact(hI.tmps0 t (fun j q hj hq=>ht j q (did_set_old hj) hq) u hu).mono hmono
 split:=split
 left:=left
 prevL:=prevL
 ids:=ids
 inj:=inj
 check:=check
 run:=run
theorem Inv.env(hp:PlanOK ops p)(hI:Inv P B w0 G self ops p T nt ds H0 μ0 valsF HF es prev stage vals H listed c w μ){i:Nat}{o:Oper}(ho:ops[i]? = some o)(hnd:¬Did listed i)
  (hready:∀j,(bsAt p.bs i).testBit j=true→Did listed j):∀x∈o.op.operands,∀v,envD G ops (bsAt p.bs i) T vals x=some v→VR μ v (c.eval x):=by
 intro x hx v hv
 cases x with
 | tmp t=>
  simp only [envD]at hv
  split at hv
  ·rename_i j hj
   obtain⟨_,hb,q,hq,hqd⟩:=writerOf_some hj
   obtain⟨u,id,h1,h2⟩:=hI.tmpsW j q t (hready j hb) hq hqd
   rw [h1]at hv
   simp at hv;subst hv
   exact h2
  ·rename_i hnone
   refine hI.tmps0 t ?_ v hv
   intro j q hj hq hqd
   have hmem:t∈tmpsOf o:=by
    unfold tmpsOf
    rw [List.mem_filterMap]
    exact⟨.tmp t,by simpa using hx,rfl⟩
   rcases hp.reads i j o q t ho hq hqd hmem with rfl|hb|hb
   ·exact hnd hj
   ·rw [writerOf_none hnone hq hqd]at hb;cases hb
   ·exact hnd (hI.closed j i hj hb)
 | const u=>exact ofVal_VR μ hv
 | global g=>
  simp only [envD]at hv
  cases hc:G.ids.contains g with
  | false=>rw [hc]at hv;cases hv
  | true=>
   rw [hc]at hv
   simp at hv;subst hv
   obtain⟨N,hN⟩:=hI.rep.glob g (by simpa using hc)
   exact⟨g,N,hN,rfl⟩
 | func f=>
  simp [envD]at hv;subst hv
  exact⟨#[],#[],rfl,rfl,rfl⟩
theorem Inv.wanted(hp:PlanOK ops p)(hI:Inv P B w0 G self ops p T nt ds H0 μ0 valsF HF es prev stage vals H listed c w μ){i:Nat}{o:Oper}(ho:ops[i]? = some o)
  (hready:∀j,(bsAt p.bs i).testBit j=true→Did listed j) {b:Bool} (hw:wantedD ops vals o=some b):Region.wanted o (yielded ops c.tmps)=b:=by
 unfold wantedD at hw
 unfold Region.wanted
 split at hw
 ·rename_i hg;simp at hw;subst hw;rw [hg]
 ·rename_i j want hg
  rw [hg]
  simp only [yielded]
  have hj:=hready j (hp.guard i o j want ho hg)
  split at hw
  ·rename_i hd;simp at hw;subst hw;rw [hd];simp
  ·rename_i d hd
   rw [hd]
   simp only [Option.bind_some]
   rw [Option.bind_eq_some_iff]at hd
   obtain⟨q,hq,hqd⟩:=hd
   obtain⟨u,id,h1,h2⟩:=hI.tmpsW j q d hj hq hqd
   rw [h1]at hw
   split at hw
   ·rename_i bb _ heq
    simp only [Option.some.injEq,Prod.mk.injEq]at heq
    obtain⟨rfl,_⟩:=heq
    simp at hw;subst hw
    have hv:c.tmps.getD d undef = .bool bb:=h2
    have hlt:c.tmps[d]? = some (.bool bb):=by
     rw [Array.getD_eq_getD_getElem?]at hv
     cases hcd:c.tmps[d]? with
     | none=>rw [hcd]at hv;simp [undef]at hv
     | some x=>rw [hcd]at hv;simpa using hv
    rw [hlt]
    simp [beqB_iff]
   ·rename_i _ heq
    simp only [Option.some.injEq,Prod.mk.injEq]at heq
    obtain⟨rfl,_⟩:=heq
    simp at hw;subst hw
    have hv:c.tmps.getD d undef = .tuple #[]:=h2
    rw [Array.getD_eq_getD_getElem?]at hv
    cases hcd:c.tmps[d]? with
    | none=>simp
    | some x=>rw [hcd]at hv;simp at hv;subst hv;simp
   ·cases hw
theorem stillMade_get{i:Nat}{m:Mk}(h:stillMade H i m=true):H.objs.get i=some (m.obj i):=by
 unfold stillMade at h
 cases m with
 | cells e cs=>
  simp only at h
  split at h
  ·rename_i fam ver e' cs' ho
   simp only [Bool.and_eq_true]at h
   obtain⟨⟨⟨h1,h2⟩,h3⟩,h4⟩:=h
   rw [ho,(beq_iff _ _).1 h1,(beq_iff _ _).1 h2,←(beq_iff _ _).1 h3,AV.beq_eq h4];rfl
  ·cases h
 | map kt=>
  simp only at h
  split at h
  ·rename_i kt' es' ho
   simp only [Bool.and_eq_true]at h
   rw [ho,←(beq_iff _ _).1 h.1,AV.beq_eq h.2];rfl
  ·cases h
end
end
theorem chain_head{bs:List Nat}:∀{l:List Nat} {e:Nat} {done r:List Nat},l=done ++ e :: r→chained bs l=true→∀f∈r,(bsAt bs f).testBit e=true
 | l,e,[],r,h,hc,f,hf=>by
  subst h
  simp only [List.nil_append,chained,Bool.and_eq_true,List.all_eq_true]at hc
  exact hc.1 f hf
 | l,e,d :: done,r,h,hc,f,hf=>by
  subst h
  simp only [List.cons_append,chained,Bool.and_eq_true]at hc
  exact chain_head rfl hc.2 f hf
section
variable {P:Program} {B:Nat} {w0:World} {G:Sett} {self:Cb} {ops:Array Oper} {p:Plan} {T:Tr AV}
theorem mask_did(hp:PlanOK ops p){listed:Array Bool}(hclosed:∀i j,Did listed i→(bsAt p.bs i).testBit j=true→Did listed j){i:Nat}{o:Oper}(ho:ops[i]? = some o)
  (he:∀e∈o.after.toList,Region.binds .any e=true→Did listed e.on):∀j,(bsAt p.bs i).testBit j=true→Did listed j:=by
 intro j hj
 obtain⟨e,h1,h2,h3⟩:=hp.mask i o ho j hj
 rcases h3 with rfl|h3
 ·exact he e h1 h2
 ·exact hclosed _ _ (he e h1 h2) h3
theorem any_wp(hN:NamesOK P)(hC:CallOK P B w0 G self)(hR:RoundOK P B w0 G self)(hp:PlanOK ops p){nt:Nat}{ds:List Mark}{H0:AH}{μ0:Mu}{valsF:Vals}{HF:AH}{T':Tr AV}{ro:Option Nat}{Q:Exit→CAct→World→Prop}
  (hlay:layVals ops valsF nt (List.range ops.size) T=some T') (hQ:∀c' μ' w',Ext H0 μ0 HF μ'→ActRel P μ' {T:=T',nt,ds} c'→Rep P B w0 G μ' HF w'→Q .normal c' w') :
  ∀(fuel:Nat) (es:List Nat) (prev:Option Nat) (stage:Nat) (vals:Vals) (H:AH) (listed:Array Bool) (c:CAct) (w:World) (μ:Mu),
   Inv P B w0 G self ops p T nt ds H0 μ0 valsF HF es prev stage vals H listed c w μ→cntF (fun i=>listed.getD i false) ops.size≤fuel→wpAnyIn (Fz ro) 0 P .any ops Q fuel listed c w:=by
 obtain⟨hdst,hfinal⟩:=layVals_spec _ _ _ hlay
 have fin:∀{es prev stage vals H listed c w μ},Inv P B w0 G self ops p T nt ds H0 μ0 valsF HF es prev stage vals H listed c w μ→Region.ready .any ops listed = []→Q .normal c w:=by
  intro es prev stage vals H listed c w μ hI hr
  have hall:=ready_nil hp hI.lsize hr
  have hes:es = []:=by
   cases es with
   | nil=>rfl
   | cons e r=>
    exfalso
    obtain⟨done,h1,_⟩:=hI.split
    have hmem:e∈p.bars:=by rw [h1];simp
    rw [hp.bars]at hmem
    have:e<ops.size:=by
     unfold barsOf at hmem
     rw [List.mem_filter,List.mem_range]at hmem
     exact hmem.1
    exact hI.left e (by simp) (hall e this)
  subst hes
  have hrun:=hI.run
  simp [runBars]at hrun
  obtain⟨rfl,rfl⟩:=hrun
  refine hQ c μ w hI.ext ⟨⟨hI.size,?_⟩,hI.defers⟩ hI.rep
  intro t v ht
  rcases hfinal t v ht with⟨j,hj,o,id,ho,hod,hv⟩|⟨hno,hT⟩
  ·have hjn:j<ops.size:=by simpa using hj
   obtain⟨u,id',h1,h2⟩:=hI.tmpsW j o t (hall j hjn) ho hod
   rw [hv]at h1;cases h1
   exact h2
  ·refine hI.tmps0 t ?_ v hT
   intro j o hj ho
   exact hno j (by simpa using (Array.getElem?_eq_some_iff.1 ho).1) o ho
 intro fuel
 induction fuel with
 | zero=>
  intro es prev stage vals H listed c w μ hI hcnt
  have hz:cntF (fun i=>listed.getD i false) ops.size=0:=by omega
  have hall:=cntF_zero hz
  have hr:Region.ready .any ops listed = []:=by
   cases hq:Region.ready .any ops listed with
   | nil=>rfl
   | cons i r=>
    have:=ready_spec hI.lsize (i:=i) (by rw [hq];simp)
    exact absurd (hall i this.1) this.2.1
  exact⟨hr,fin hI hr⟩
 | succ fuel ih=>
  intro es prev stage vals H listed c w μ hI hcnt
  refine⟨fin hI,?_⟩
  intro i hi
  obtain⟨hin,hnd,o,ho,hedges⟩:=ready_spec hI.lsize hi
  have hready:=mask_did hp hI.closed ho hedges
  have hd:∀d,o.dst=some d→d<nt:=by
   obtain⟨o',ho',hdd⟩:=hdst i (by simpa using hin)
   rw [ho]at ho';cases ho'
   exact hdd
  have hilt:i<listed.size:=by rw [hI.lsize];exact hin
  have hcnt':cntF (fun j=>(listed.setIfInBounds i true).getD j false) ops.size≤fuel:=by
   have:=cntF_set (f:=fun j=>listed.getD j false) (g:=fun j=>(listed.setIfInBounds i true).getD j false) (i:=i) hnd (did_set_new hilt) (by
    intro j hj
    simp [Array.getD_eq_getD_getElem?,Ne.symm hj]) hin
   omega
  have henv:=hI.env hp ho hnd hready
  obtain⟨done,hsplit,hdl,hdone⟩:=hI.split
  simp only [wpOpIn,ho]
  cases hbar:isBar o.op with
  | false=>
   have hine:i∉p.bars:=by
    rw [hp.bars]
    unfold barsOf
    rw [List.mem_filter]
    intro q
    have:=q.2
    rw [ho]at this
    simp only at this
    rw [hbar]at this;cases this
   have hck:=hI.check
   unfold checkStage at hck
   rw [List.all_eq_true]at hck
   have hck:=hck i (by simpa using hin)
   rw [ho]at hck
   simp only [hbar,Bool.false_or,Bool.or_eq_true]at hck
   have hstage:Nat.blt stage (stageOf p i)=false:=by
    have hle:stageOf p i≤stage:=by
     unfold stageOf
     rw [hsplit,List.filter_append,List.length_append]
     have h1:(es.filter fun e=>(bsAt p.bs i).testBit e) = []:=by
      rw [List.filter_eq_nil_iff]
      intro e he q
      exact hI.left e he (hready e q)
     rw [h1]
     have:=List.length_filter_le (fun e=>(bsAt p.bs i).testBit e) done
     simp;omega
    cases hq:Nat.blt stage (stageOf p i)with
    | false=>rfl
    | true=>have:=(blt_iff _ _).1 hq;omega
   have hskip:skipped p prev i=false:=by
    unfold skipped
    cases hprev:prev with
    | none=>rfl
    | some e=>
     simp only
     cases hq:(bsAt p.bs e).testBit i with
     | false=>rfl
     | true=>exact absurd (hI.closed e i (hI.prevL e hprev) hq) hnd
   rw [hstage,hskip]at hck
   have hck:againD P G ops p T vals H i o=true:=by simpa using hck
   have step:∀{μ':Mu} {w':World} {v:AV} {id:Option Nat} {x:Value},getV vals i=some (v,id)→VR μ' v x→μ.le μ'→Ext H0 μ0 H μ'→Rep P B w0 G μ' H w' →
     (∀j v id,getV vals j=some (v,some id)→¬Did (listed.setIfInBounds i true) j→μ' id=none)→wpAnyIn (Fz ro) 0 P .any ops Q fuel (listed.setIfInBounds i true) (c.put o.dst x) w':=by
    intro μ' w' v id x hv hx hle hext hrep hids
    refine ih es prev stage vals H _ _ w' μ' ?_ hcnt'
    refine hI.next hp ho hnd hready hd (fun _ _ q=>q) hv hx hle hrep hext ⟨done,hsplit,hdl,fun e he=>did_set_old (hdone e he)⟩ ?_ (fun e he=>did_set_old (hI.prevL e he)) ?_ hI.inj hI.check hI.run
    ·intro e he q
     rcases did_set q with rfl|q
     ·exact hine (by rw [hsplit];simp [he])
     ·exact hI.left e he q
    ·intro j u id' q
     exact⟨(hI.ids j u id' q).1,(hI.ids j u id' q).2.1,hids j u id' q⟩
   have idsSame:∀j v id,getV vals j=some (v,some id)→¬Did (listed.setIfInBounds i true) j→μ id=none:=by
    intro j v id q hq
    exact(hI.ids j v id q).2.2 (fun hdj=>hq (did_set_old hdj))
   unfold againD at hck
   split at hck
   ·rename_i v hwd hgv
    rw [hI.wanted hp ho hready hwd]
    simp only [Bool.false_eq_true,if_false]
    have:=AV.beq_eq hck
    subst this
    exact⟨fun f _=>Fz_fn ro f,step hgv rfl (.refl μ) hI.ext hI.rep idsSame⟩
   ·rename_i v id hwd hgv
    rw [hI.wanted hp ho hready hwd]
    simp only [if_true]
    split at hck
    ·rename_i id' hal
     split at hck
     ·rename_i m f hm
      simp only [Bool.and_eq_true]at hck
      obtain⟨⟨⟨hfv,hst⟩,hlt⟩,hbd⟩:=hck
      have hbd:m.bad G.res=false:=by rw [←hI.rep.resd];simpa using hbd
      have hfv:=AV.beq_eq hfv
      have hget:=stillMade_get hst
      have hun:μ id'=none:=(hI.ids i v id' hgv).2.2 hnd
      obtain⟨obj,N,x,g1,g2,g3⟩:=alloc_sound (R:=G.res) henv hm hbd w
      have hrep:Rep P B w0 G (μ.add id' w.heap.size N) H (w.alloc obj):=hI.rep.bind ((blt_iff _ _).1 hlt) (fun q hq=>by rw [hget]at hq;exact(Option.some.inj hq).symm) hun (g2 id')
      refine wpIn_of_run (alloc_noDefer hm) g1 (.inl rfl) (step hgv (by rw [←hfv];exact g3 _ _ (if_pos rfl)) (Mu.le_add hun) ⟨hI.ext.1.trans (Mu.le_add hun),hI.ext.2.1,?_⟩ hrep ?_)
      ·intro k hk hk0
       have:=(hI.ids i v id' hgv).1
       simp only [Mu.add]
       rw [if_neg (by omega)]
       exact hI.ext.2.2 k hk hk0
      ·intro j u id2 hj hndj
       simp only [Mu.add]
       split
       ·rename_i heq
        subst heq
        have:=hI.inj j i u v id2 hj hgv
        subst this
        exact absurd (did_set_new hilt) hndj
       ·exact idsSame j u id2 hj hndj
     ·cases hck
    ·rename_i hal
     split at hck
     ·rename_i v' hq
      have:=AV.beq_eq hck
      subst this
      obtain⟨x,g1,g2⟩:=quiet_sound hI.rep henv hq
      exact wpIn_of_run (quiet_noDefer hq) g1 (.inl rfl) (step hgv g2 (.refl μ) hI.ext hI.rep idsSame)
     ·cases hck
    ·cases hck
   ·cases hck
  | true=>
   have hib:i∈p.bars:=by
    rw [hp.bars]
    unfold barsOf
    rw [List.mem_filter]
    exact⟨by simpa using hin,by rw [ho];exact hbar⟩
   have hies:i∈es:=by
    rw [hsplit]at hib
    rcases List.mem_append.1 hib with q|q
    ·exact absurd (hdone i q) hnd
    ·exact q
   obtain⟨es',rfl⟩:∃es',es=i :: es':=by
    cases es with
    | nil=>cases hies
    | cons e r=>
     rcases List.mem_cons.1 hies with rfl|q
     ·exact⟨r,rfl⟩
     ·have:=chain_head hsplit hp.chain i q
      exact absurd (hready e this) (hI.left e (by simp))
   have hrun:=hI.run
   simp only [runBars,ho]at hrun
   cases hsome:(getV vals i).isSome with
   | true=>rw [hsome]at hrun;cases hrun
   | false=>
    rw [hsome]at hrun
    have hnone:getV vals i=none:=by cases hq:getV vals i <;> simp_all
    simp only [cond_false]at hrun
    have hnodup:∀e∈es',e≠i:=by
     intro e he q
     subst q
     have hb:=chain_head hsplit hp.chain e he
     exact hnd (hready e hb)
    have step:∀{μ1:Mu} {w1:World} {v:AV} {x:Value} {H1:AH},VR μ1 v x→Ext H μ H1 μ1→Rep P B w0 G μ1 H1 w1 →
      (match endStage P G ops p T (stage+1) (some i) ((i,v,none) :: vals) H1 with
       | some (vals,H)=>runBars P G self ops p T es' (stage+1) vals H
       | none=>none)=some (valsF,HF)→wpAnyIn (Fz ro) 0 P .any ops Q fuel (listed.setIfInBounds i true) (c.put o.dst x) w1:=by
     intro μ1 w1 v x H1 hx hext hrep hrest
     split at hrest
     ·rename_i vals2 H2 hend
      obtain⟨hadd,hck⟩:=endStage_some (P:=P) (B:=B) (w0:=w0) (G:=G) hend μ1
      have hadd0:=(added_plain (P:=P) (B:=B) (w0:=w0) (G:=G) (H:=H1) μ1 (v:=v) hnone)
      have hrep2:=hadd.rep w1 hrep
      have hext2:Ext H μ H2 μ1:=⟨hext.1,Nat.le_trans hext.2.1 hadd.next,hext.2.2⟩
      refine ih es' (some i) (stage+1) vals2 H2 _ _ w1 μ1 ?_ hcnt'
      refine hI.next hp ho hnd hready hd (fun j y q=>hadd.old j y (hadd0.old j y q)) (hadd.old i _ getV_cons_eq) hx hext.1 hrep2 (hI.ext.trans hext2)
       ⟨done ++ [i],by rw [hsplit];simp,by simp [hdl],?_⟩ ?_ ?_ ?_ ?_ hck hrest
      ·intro e he
       rcases List.mem_append.1 he with q|q
       ·exact did_set_old (hdone e q)
       ·have:e=i:=by simpa using q
        subst this
        exact did_set_new hilt
      ·intro e he q
       rcases did_set q with rfl|q
       ·exact hnodup e he rfl
       ·exact hI.left e (by simp [he]) q
      ·intro e he
       cases he
       exact did_set_new hilt
      ·intro j u id q
       rcases hadd.new j u id q with q|q
       ·have q':getV vals j=some (u,some id):=by
         by_cases hij:i=j
         ·subst hij;rw [getV_cons_eq]at q;cases q
         ·rw [getV_cons_ne hij]at q;exact q
        obtain⟨a1,a2,a3⟩:=hI.ids j u id q'
        exact⟨a1,Nat.lt_of_lt_of_le a2 hext2.2.1,fun hndj=>hext.2.2 id a2 (a3 (fun hdj=>hndj (did_set_old hdj)))⟩
       ·refine⟨?_,q.2,fun _=>hrep.notYet q.1⟩
        have h1:=hI.ext.2.1
        have h2:=hext.2.1
        omega
      ·refine hadd.inj ?_ (hadd0.inj ?_ hI.inj)
       ·intro j u id q
        have q':getV vals j=some (u,some id):=by
         by_cases hij:i=j
         ·subst hij;rw [getV_cons_eq]at q;cases q
         ·rw [getV_cons_ne hij]at q;exact q
        have:=(hI.ids j u id q').2.1
        have:=hext.2.1
        omega
       ·intro j u id q
        have:=(hI.ids j u id q).2.1
        have:=hext.2.1
        omega
     ·cases hrest
    split at hrun
    ·rename_i hwd
     rw [hI.wanted hp ho hready hwd]
     simp only [if_true]
     exact stepE_wp hN hC hR hI.rep henv hrun (fun v H1 μ1 x w1 g1 g2 g3 g4=>step g3 g2 g4 g1)
    ·rename_i hwd
     rw [hI.wanted hp ho hready hwd]
     simp only [Bool.false_eq_true,if_false]
     exact⟨fun f _=>Fz_fn ro f,step (v:=.sc .undef) rfl (.refl H μ) hI.rep hrun⟩
    ·cases hrun
theorem draw_wp(hm:P.follows .mixedOrders=true)(hN:NamesOK P)(hC:CallOK P B w0 G self)(hR:RoundOK P B w0 G self)(hp:planOf ops=some p){a a':Act}{H H':AH}{μ:Mu}{w:World}{c:CAct}
  (hr:runDraw P G self ops p a H=some (a',H')) (h:Rep P B w0 G μ H w) (ha:ActRel P μ a c) {ro:Option Nat} {Q:Exit→CAct→World→Prop} {id:Nat}
  (hQ:∀c' μ' w',Ext H μ H' μ'→ActRel P μ' a' c'→Rep P B w0 G μ' H' w'→Q .normal c' w'):(Code.region id ops true).wpIn (Fz ro) 0 P Q c w:=by
 have hpl:=plan_ok hp
 unfold runDraw at hr
 split at hr
 ·rename_i vals1 H1 hend
  split at hr
  ·rename_i valsF HF hbars
   split at hr
   ·rename_i T' hlay
    simp only [Option.some.injEq,Prod.mk.injEq]at hr
    obtain⟨rfl,rfl⟩:=hr
    obtain⟨hadd,hck⟩:=endStage_some (P:=P) (B:=B) (w0:=w0) (G:=G) hend μ
    refine wpIn_region_any hm ?_
    have hrep:Rep P B w0 G μ H {w with drawn:=w.drawn+1}:=h.drewN _
    have none:∀i,¬Did (Array.replicate ops.size false) i:=by
     intro i q
     unfold Did at q
     rw [Array.getD_eq_getD_getElem?,Array.getElem?_replicate]at q
     split at q <;> simp at q
    have hcnt:cntF (fun i=>(Array.replicate ops.size false).getD i false) ops.size≤ops.size:=by
     have:∀n,cntF (fun i=>(Array.replicate ops.size false).getD i false) n≤n:=by
      intro n
      induction n with
      | zero=>exact Nat.le_refl _
      | succ n ih=>simp only [cntF];split <;> omega
     exact this _
    refine any_wp hN hC hR hpl (ds:=a.ds) hlay hQ ops.size p.bars Option.none 0 vals1 H1 _ c _ μ ?_ hcnt
    exact {
     rep:=hadd.rep _ hrep
     ext:=⟨.refl μ,hadd.next,fun _ _ q=>q⟩
     defers:=ha.2
     size:=ha.1.1
     lsize:=by simp
     closed:=fun i j q=>absurd q (none i)
     tmpsW:=fun j o d q=>absurd q (none j)
     tmps0:=fun t _ v q=>ha.1.2 t v q
     split:=⟨[],rfl,rfl,fun e he=>by cases he⟩
     left:=fun e _=>none e
     prevL:=fun e he=>by cases he
     ids:=by
      intro j v id q
      rcases hadd.new j v id q with q|q
      ·simp [getV]at q
      ·exact⟨q.1,q.2,fun _=>h.notYet q.1⟩
     inj:=hadd.inj (fun j v id q=>by simp [getV]at q) (fun i j v v' id q=>by simp [getV]at q)
     check:=hck
     run:=hbars}
   ·cases hr
  ·cases hr
 ·cases hr
end
def XRel:AX→Exit→Prop
 | .normal,.normal=>True
 | .exit i,.exit j=>i=j
 | .goto i,.goto j=>i=j
 | .ret,.ret=>True
 | _,_=>False
def RoRel(μ:Mu):Option Nat→Option Nat→Prop
 | none,r=>r=none
 | some l,r=>∃b N,μ l=some (b,N)∧r=some b
theorem RoRel.mono{μ ν:Mu}(h:μ.le ν):∀{a b:Option Nat},RoRel μ a b→RoRel ν a b
 | none,_,h'=>h'
 | some _,_,⟨b,N,hm,e⟩=>⟨b,N,h _ _ hm,e⟩
def PostC(P:Program)(B:Nat)(w0:World)(G:Sett)(μ:Mu)(H:AH)(x:AX)(a':Act)(H':AH):Exit→CAct→World→Prop:=
 fun e c' w'=>XRel x e∧∃μ',Ext H μ H' μ'∧ActRel P μ' a' c'∧Rep P B w0 G μ' H' w'
def CodeOK(P:Program)(B:Nat)(w0:World)(G:Sett)(sf:Cb):Prop:=
 ∀ro fn cd a H x a' H',sf.code ro fn cd a H=some (x,a',H')→∀μ w c ro',RoRel μ ro ro'→Rep P B w0 G μ H w→ActRel P μ a c→cd.wpIn (Fz ro') 0 P (PostC P B w0 G μ H x a' H') c w
section
variable {P:Program} {B:Nat} {w0:World} {G:Sett} {self:Cb}
theorem stepR_scope'{b:Frame}{a:CAct}{k:List Item}{cs:List Frame}{w:World}{c:Code}:step P (lone (b.atR a (.code (.scope c) :: k)) cs w) = .next (lone (b.atR a (.code c :: .inScope c :: k)) cs w):=
 step_lone_go (by simp [stepG,stepG.exec,Frame.atR])
theorem stepR_inScope'{b:Frame}{a:CAct}{k:List Item}{cs:List Frame}{w:World}{c:Code}:step P (lone (b.atR a (.inScope c :: k)) cs w) = .next (lone (b.atR a k) cs w):=
 step_lone_go (by simp [stepG,stepG.exec,Frame.atR])
def noGoto(Q:Exit→CAct→World→Prop):Exit→CAct→World→Prop
 | .goto _,_,_=>False
 | e,a,w=>Q e a w
theorem wpIn_scope{F:Fence}{n:Nat}{c:Code}{Q:Exit→CAct→World→Prop}{a:CAct}{w:World}(h:c.wpIn F n P (noGoto Q) a w):(Code.scope c).wpIn F n P Q a w:=by
 intro b k cs hro hb hr
 have h0:(lone (b.atR a (.code (.scope c) :: k)) cs w).fenced P F:=fenced_calm hb hr rfl
 obtain⟨e,a₁,w₁,hq,harr⟩:=h b (.inScope c :: k) cs hro hb hr
 cases e with
 | normal=>exact⟨.normal,a₁,w₁,hq,.head h0 stepR_scope' (StepsIn.trans harr (.one (fenced_calm hb hr rfl) stepR_inScope'))⟩
 | exit id=>
  have hx:exitTo id (.inScope c :: k)=exitTo id k:=by simp [exitTo]
  exact⟨_,a₁,w₁,hq,fun k' hk => .head h0 stepR_scope' (harr.1 k' (by rw [hx];exact hk)),
   fun hr' hk=>let ⟨k₁,h1,h2⟩:=harr.2 hr' (by rw [hx];exact hk);⟨k₁,h1,.head h0 stepR_scope' h2⟩⟩
 | goto l=>exact hq.elim
 | ret=>exact⟨_,a₁,w₁,hq,.of_steps (.one h0 stepR_scope') harr⟩
 | panic ch=>exact⟨_,a₁,w₁,hq,.of_steps (.one h0 stepR_scope') harr⟩
 | outgrown=>exact⟨_,a₁,w₁,hq,.of_steps (.one h0 stepR_scope') harr⟩
theorem PostC.trans{μ μ1:Mu}{H H1 H':AH}{x:AX}{a':Act}(h1:Ext H μ H1 μ1){e:Exit}{c:CAct}{w:World}(h:PostC P B w0 G μ1 H1 x a' H' e c w):PostC P B w0 G μ H x a' H' e c w:=by
 obtain⟨hx,μ',h2,h3⟩:=h
 exact⟨hx,μ',h1.trans h2,h3⟩
theorem loopN_wp{cd:Code}{f:Act→AH→Option (AX × Act × AH)}{ro ro':Option Nat}(hf:∀a H x a' H',f a H=some (x,a',H')→∀μ w c,RoRel μ ro ro'→Rep P B w0 G μ H w→ActRel P μ a c→cd.wpIn (Fz ro') 0 P (PostC P B w0 G μ H x a' H') c w) :
  ∀(m:Nat) (a:Act) (H:AH) (x:AX) (a':Act) (H':AH),loopN f m a H=some (x,a',H')→∀μ w c,RoRel μ ro ro'→Rep P B w0 G μ H w→ActRel P μ a c →
   ∀Q:Exit→CAct→World→Prop,(∀e c' w',PostC P B w0 G μ H x a' H' e c' w'→Q e c' w')→Code.roundsIn (Fz ro') 0 P cd Q m c w
 | 0,a,H,x,a',H',h,_,_,_,_,_,_,_,_=>by simp [loopN]at h
 | m+1,a,H,x,a',H',h,μ,w,c,hro,hrep,ha,Q,hQ=>by
  simp only [loopN]at h
  show cd.wpIn (Fz ro') 0 P (Exit.then (Code.roundsIn (Fz ro') 0 P cd Q m) Q) c w
  split at h
  ·rename_i a1 H1 h1
   refine wpIn_mono (hf _ _ _ _ _ h1 μ w c hro hrep ha) ?_
   rintro e c1 w1 ⟨hx,μ1,g1,g2,g3⟩
   cases e <;> first|exact hx.elim|skip
   exact loopN_wp hf m a1 H1 x a' H' h μ1 w1 c1 (hro.mono g1.1) g3 g2 Q (fun e c' w' q=>hQ e c' w' (q.trans g1))
  ·rename_i hne
   refine wpIn_mono (hf _ _ _ _ _ h μ w c hro hrep ha) ?_
   rintro e c1 w1 q
   have q':=q
   obtain⟨hx,μ1,g1,g2,g3⟩:=q
   cases e <;> cases x <;> first|exact hx.elim|exact hQ _ _ _ q'|exact absurd h (hne _ _)
theorem ends_leave{fn:Func}{tmps:Array Value}{R:Ending→World→Prop}:∀(ds:List Mark) (H:AH) (k:AH→Option (AV × AH)) (r:AV × AH),endsOk H ds k=some r→∀μ w (l:List Deferred),Rep P B w0 G μ H w→DR P μ ds l →
  (∀H' w',H'.next=H.next→Rep P B w0 G μ H' w'→k H'=some r→∃v,(results fn tmps).run P w' = .ok v w'∧R (.returned v) w')→LeavesInM Fence.wide 0 P fn tmps R l .returning w
 | [],H,k,r,h,μ,w,l,hrep,hl,hK=>by
  have hl':l = []:=hl
  subst hl'
  exact hK H w rfl hrep h
 | .still :: ds,H,k,r,h,μ,w,l,hrep,hl,hK=>by
  obtain⟨d,t,rfl,hd,ht⟩:=hl
  obtain⟨g,cap,h1,h2,h3⟩:=hd
  simp only [endsOk]at h
  refine⟨by simp,.inr ⟨(fun q=>by cases q),.func g,cap,g,d.args ++ cap,h1,h2 w,fun _ _=>trivial,(h3 w).mono ?_⟩⟩
  rintro e u w' ⟨⟨v,rfl⟩,rfl,hh,hb⟩
  refine ends_leave ds H k r h μ w' t (hrep.same hh ?_) ht hK
  exact hrep.below.trans (hb.mono hrep.baseNow)
 | .loop i :: ds,H,k,r,h,μ,w,l,hrep,hl,hK=>by
  obtain⟨b,N,t,rfl,hm,ht⟩:=hl
  simp only [endsOk]at h
  split at h
  ·rename_i ho
   rw [withObj_eq]at h
   obtain⟨hB,hw⟩:=hrep.defd _ _ _ _ ho hm
   rw [if_pos rfl]at hw
   refine⟨by simp,.inl ⟨b,withObjAt w b (.deferred none),rfl,by simp [Instr.takeDeferred,getObj,setObj,Sem.run,hw,withObjAt],?_⟩⟩
   refine ends_leave ds (H.set i (.defd false)) k r h μ _ t (hrep.setObj ho hm hB (by simp) (by simp) (by simp) ?_) ht (fun H' w' q1 q2 q3=>hK H' w' q1 q2 q3)
   exact⟨(by intro _ he;cases he),(by intro _ _ _ he;cases he),(by intro _ _ _ _ he;cases he),(by intro _ _ he;cases he),(by intro _ _ _ _ _ _ _ _ _ he;cases he),(by intro op he;cases he;rfl)⟩
  ·cases h
def resF(tmps:Array Value):ResultVar→Sem Value
 | .tmp t=>pure (tmps.getD t undef)
 | .cell a t=>do loadVar t (←asAddr (tmps.getD a undef))
theorem results_eq(fn:Func)(tmps:Array Value):results fn tmps=(do
  let vs ←fn.results.mapM (resF tmps)
  pure (if h:vs.size=1 then vs[0]else .tuple vs)):=by
 have:(fun (q:ResultVar)=>match q with
   | .tmp t=>(pure (tmps.getD t undef):Sem Value)
   | .cell a t=>do loadVar t (←asAddr (tmps.getD a undef)))=resF tmps:=by
  funext q;cases q <;> rfl
 unfold results
 rw [←this]
 rfl
theorem results_run{μ:Mu}{H:AH}{w:World}(h:Rep P B w0 G μ H w){a:Act}{c:CAct}(ha:TR μ a.nt a.T c.tmps):∀{rs:List ResultVar} {vs:AV},resultsOf P H a rs=some vs →
  ∃xs:List Value,(rs.mapM (resF c.tmps)).run P w = .ok xs w∧LR μ vs xs
 | [],vs,hr=>by simp [resultsOf]at hr;subst hr;exact⟨[],rfl,rfl⟩
 | .tmp t :: rs,vs,hr=>by
  simp only [resultsOf]at hr
  split at hr
  ·rename_i v us hv hus
   simp at hr;subst hr
   obtain⟨xs,h1,h2⟩:=results_run h ha hus
   have h0:(resF c.tmps (.tmp t)).run P w = .ok (c.tmps.getD t undef) w:=rfl
   exact⟨c.tmps.getD t undef :: xs,by simp only [List.mapM_cons,Sem.run_bind,h0,h1,Result.andThen_ok,Sem.run_pure],LR.cons (ha.2 t v hv) h2⟩
  ·cases hr
 | .cell t ty :: rs,vs,hr=>by
  simp only [resultsOf]at hr
  split at hr
  ·rename_i i off hv
   have hp:=ha.2 t _ hv
   have fin:∀{y:Value} {v us:AV},(Instr.loadAt ty (c.tmps.getD t undef)).run P w = .ok y w→VR μ v y→resultsOf P H a rs=some us→∃xs:List Value,((ResultVar.cell t ty :: rs).mapM (resF c.tmps)).run P w = .ok xs w∧LR μ (.cons v us) xs:=by
    intro y v us h3 h4 hus
    obtain⟨xs,h1,h2⟩:=results_run h ha hus
    obtain⟨b,N,hm,hx⟩:=hp
    rw [hx]at h3
    have h3':(loadVar ty ⟨b,off,none⟩).run P w = .ok y w:=by simpa [Instr.loadAt,Instr.sureAddr]using h3
    have h0:(resF c.tmps (.cell t ty)).run P w = .ok y w:=by
     simp only [resF,hx,asAddr,Sem.run_bind,Sem.run_pure,Result.andThen_ok,h3']
    exact⟨y :: xs,by simp only [List.mapM_cons,Sem.run_bind,h0,h1,Result.andThen_ok,Sem.run_pure],LR.cons h4 h2⟩
   split at hr
   ·rename_i n hg hs
    split at hr
    ·rename_i cs us hc hus
     simp at hr;subst hr
     obtain⟨y,h3,h4⟩:=load_agg h hg hs hp hc
     exact fin h3 h4 hus
    ·cases hr
   ·rename_i n hg hs
    split at hr
    ·rename_i v r us hc hus
     simp at hr;subst hr
     obtain⟨y,h3,h4⟩:=load_one h hg hp hc
     exact fin h3 h4 hus
    ·cases hr
   ·cases hr
  ·cases hr
theorem setAll_range{nt:Nat}:∀(vs:AV) (s:Nat) (T:Tr AV) (k:Tr AV→Option (AV × AH)) (r:AV × AH),setAll nt T (List.range' s vs.len) vs k=some r →
  ∃T',k T'=some r∧∀t v,T'.get t=some v→(∃i,t=s+i∧vs.nth i=some v)∨T.get t=some v
 | .cons v vs,s,T,k,r,h=>by
  simp only [AV.len,List.range'_succ,setAll]at h
  cases hb:Nat.blt s nt with
  | false=>rw [hb]at h;cases h
  | true=>
   rw [hb]at h
   simp only [cond_true,Tr.setK_eq]at h
   obtain⟨T',h1,h2⟩:=setAll_range vs (s+1) _ k r h
   refine⟨T',h1,?_⟩
   intro t u q
   rcases h2 t u q with⟨i,rfl,hi⟩|q
   ·exact .inl ⟨i+1,by omega,hi⟩
   ·rcases Tr.get_set deep T s (some v) t u q with⟨rfl,q'⟩|⟨_,q'⟩
    ·cases q';exact .inl ⟨0,by omega,rfl⟩
    ·exact .inr q'
 | .nil,s,T,k,r,h=>by
  simp only [AV.len,List.range'_zero,setAll]at h
  exact⟨T,h,fun t v q => .inr q⟩
 | .sc _,_,_,_,_,h | .ptr ..,_,_,_,_,h | .slc ..,_,_,_,_,h | .map _,_,_,_,_,h | .yield _,_,_,_,_,h | .fn ..,_,_,_,_,h | .iface ..,_,_,_,_,h | .agg _,_,_,_,_,h | .tup _,_,_,_,_,h=>by
  simp [AV.len,setAll]at h
theorem setAll_TR{μ:Mu}{nt:Nat}:∀(ts:List Tmp) (vs:AV) (ys:List Value) (T:Tr AV) (tmps:Array Value) (k:Tr AV→Option (AV × AH)) (r:AV × AH),setAll nt T ts vs k=some r→LR μ vs ys→TR μ nt T tmps →
  ts.length=ys.length∧∃T',k T'=some r∧TR μ nt T' ((ts.zip ys).foldl (fun tmps (q:Tmp × Value)=>tmps.setIfInBounds q.1 q.2) tmps)
 | [],.nil,ys,T,tmps,k,r,h,hl,ht=>by
  have hl':ys = []:=hl
  subst hl'
  exact⟨rfl,T,h,ht⟩
 | t :: ts,.cons v vs,ys,T,tmps,k,r,h,hl,ht=>by
  obtain⟨y,ys',rfl,h1,h2⟩:=hl
  simp only [setAll]at h
  cases hb:Nat.blt t nt with
  | false=>rw [hb]at h;cases h
  | true=>
   rw [hb]at h
   simp only [cond_true,Tr.setK_eq]at h
   obtain⟨g1,T',g2,g3⟩:=setAll_TR ts vs ys' _ (tmps.setIfInBounds t y) k r h h2 (ht.put ((blt_iff _ _).1 hb) h1)
   exact⟨by simp [g1],T',g2,by simpa using g3⟩
 | [],.cons ..,_,_,_,_,_,h,_,_ | [],.sc _,_,_,_,_,_,h,_,_ | [],.ptr ..,_,_,_,_,_,h,_,_ | [],.slc ..,_,_,_,_,_,h,_,_ | [],.map _,_,_,_,_,_,h,_,_ | [],.yield _,_,_,_,_,_,h,_,_ | [],.fn ..,_,_,_,_,_,h,_,_ | [],.iface ..,_,_,_,_,_,h,_,_ | [],.agg _,_,_,_,_,_,h,_,_ | [],.tup _,_,_,_,_,_,h,_,_=>by simp [setAll]at h
 | _ :: _,.nil,_,_,_,_,_,h,_,_|_ :: _,.sc _,_,_,_,_,_,h,_,_|_ :: _,.ptr ..,_,_,_,_,_,h,_,_|_ :: _,.slc ..,_,_,_,_,_,h,_,_|_ :: _,.map _,_,_,_,_,_,h,_,_|_ :: _,.yield _,_,_,_,_,_,h,_,_|_ :: _,.fn ..,_,_,_,_,_,h,_,_|_ :: _,.iface ..,_,_,_,_,_,h,_,_|_ :: _,.agg _,_,_,_,_,_,h,_,_|_ :: _,.tup _,_,_,_,_,_,h,_,_=>by simp [setAll]at h
end
section
variable {P:Program} {B:Nat} {w0:World} {G:Sett} {self:Cb}
def afterLoop(self:Cb)(fn:FuncId)(pend:Option Code)(a:Act)(H:AH):Option (AX × Act × AH):=
 match pend with
 | none=>some (.normal,a,H)
 | some c=>self.code none fn c a H
theorem codeF_ok(hm:P.follows .mixedOrders=true)(hN:NamesOK P)(hC:CallOK P B w0 G self)(hR:RoundOK P B w0 G self)(hK:CodeOK P B w0 G self){ro:Option Nat}{fn:FuncId}{cd:Code}{a a':Act}{H H':AH}{x:AX}
  (h:codeF P G self ro fn cd a H=some (x,a',H')) {μ:Mu} {w:World} {c:CAct} {ro':Option Nat} (hro:RoRel μ ro ro') (hrep:Rep P B w0 G μ H w) (ha:ActRel P μ a c):cd.wpIn (Fz ro') 0 P (PostC P B w0 G μ H x a' H') c w:=by
 unfold codeF at h
 split at h
 ·simp at h;obtain⟨rfl,rfl,rfl⟩:=h
  exact wpIn_skip ⟨trivial,μ,.refl H μ,ha,hrep⟩
 ·simp at h;obtain⟨rfl,rfl,rfl⟩:=h
  exact wpIn_label ⟨trivial,μ,.refl H μ,ha,hrep⟩
 ·simp at h;obtain⟨rfl,rfl,rfl⟩:=h
  exact wpIn_exit ⟨rfl,μ,.refl H μ,ha,hrep⟩
 ·simp at h;obtain⟨rfl,rfl,rfl⟩:=h
  exact wpIn_goto ⟨rfl,μ,.refl H μ,ha,hrep⟩
 ·simp at h;obtain⟨rfl,rfl,rfl⟩:=h
  exact wpIn_ret ⟨trivial,μ,.refl H μ,ha,hrep⟩
 ·rename_i id ops draw
  cases draw with
  | true=>
   simp only [cond_true]at h
   split at h
   ·rename_i p hp
    split at h
    ·rename_i a1 H1 hr
     simp at h;obtain⟨rfl,rfl,rfl⟩:=h
     exact draw_wp hm hN hC hR hp hr hrep ha (fun c' μ' w' q1 q2 q3=>⟨trivial,μ',q1,q2,q3⟩)
    ·cases h
   ·cases h
  | false=>
   simp only [cond_false]at h
   split at h
   ·rename_i a1 H1 hr
    simp at h;obtain⟨rfl,rfl,rfl⟩:=h
    exact wpIn_region (runOps_wp hN hC hR (fun q=>by cases ro with|none=>exact hro|some _=>cases q) _ _ _ _ _ _ _ _ hr hrep ha (fun c' μ' w' q1 q2 q3=>⟨trivial,μ',q1,q2,q3⟩))
   ·cases h
 ·rename_i cx cy
  split at h
  ·rename_i a1 H1 h1
   refine wpIn_seq (wpIn_mono (hK _ _ _ _ _ _ _ _ h1 μ w c ro' hro hrep ha) ?_)
   rintro e c1 w1 ⟨hx,μ1,g1,g2,g3⟩
   cases e <;> first|exact hx.elim|skip
   exact wpIn_mono (hK _ _ _ _ _ _ _ _ h μ1 w1 c1 ro' (hro.mono g1.1) g3 g2) (fun e c' w' q=>q.trans g1)
  ·rename_i hne
   refine wpIn_seq (wpIn_mono (hK _ _ _ _ _ _ _ _ h μ w c ro' hro hrep ha) ?_)
   rintro e c1 w1 q
   have q':=q
   obtain⟨hx,μ1,g1,g2,g3⟩:=q
   cases e <;> cases x <;> first|exact hx.elim|exact q'|exact absurd h (hne _ _)
 ·rename_i cc cx cy
  split at h
  ·rename_i hc
   exact wpIn_cond_true (env_rel hrep ha.1 hc) (hK _ _ _ _ _ _ _ _ h μ w c ro' hro hrep ha)
  ·rename_i hc
   exact wpIn_cond_false (env_rel hrep ha.1 hc) (hK _ _ _ _ _ _ _ _ h μ w c ro' hro hrep ha)
  ·cases h
 ·rename_i id body
  split at h
  ·rename_i id' a1 H1 h1
   refine wpIn_block (wpIn_mono (hK _ _ _ _ _ _ _ _ h1 μ w c ro' hro hrep ha) ?_)
   rintro e c1 w1 ⟨hx,hrest⟩
   cases e <;> first|exact hx.elim|skip
   rename_i j
   have hij:id'=j:=hx
   subst hij
   cases hb:Nat.beq id' id with
   | true=>
    rw [hb]at h
    simp at h;obtain⟨rfl,rfl,rfl⟩:=h
    simp only [Exit.inBlock,if_pos ((beq_iff _ _).1 hb)]
    exact⟨trivial,hrest⟩
   | false=>
    rw [hb]at h
    simp at h;obtain⟨rfl,rfl,rfl⟩:=h
    simp only [Exit.inBlock,if_neg ((beq_false _ _).1 hb)]
    exact⟨rfl,hrest⟩
  ·rename_i hne
   refine wpIn_block (wpIn_mono (hK _ _ _ _ _ _ _ _ h μ w c ro' hro hrep ha) ?_)
   rintro e c1 w1 q
   have q':=q
   obtain⟨hx,μ1,g1,g2,g3⟩:=q
   cases e <;> cases x <;> first|exact hx.elim|exact q'|exact absurd h (hne _ _ _)
 ·rename_i body
  exact wpIn_loop_rounds 1000000 (loopN_wp (ro:=ro) (fun a H x a' H' hq μ w c q1 q2 q3=>hK _ _ _ _ _ _ _ _ hq μ w c ro' q1 q2 q3) _ _ _ _ _ _ h μ w c hro hrep ha _ (fun _ _ _ q=>q))
 ·rename_i body
  split at h
  ·cases h
  ·rename_i hne
   refine wpIn_scope (wpIn_mono (hK _ _ _ _ _ _ _ _ h μ w c ro' hro hrep ha) ?_)
   rintro e c1 w1 q
   have q':=q
   obtain⟨hx,μ1,g1,g2,g3⟩:=q
   cases e <;> cases x <;> first|exact hx.elim|exact q'|exact absurd h (hne _ _ _)
 ·rename_i g ps assign body
  split at h
  ·rename_i f fs cs hg
   have hro0:ro'=none:=hro
   subst hro0
   simp only [newObj_eq]at h
   split at h
   ·rename_i v H3 hcall
    obtain⟨⟨fnr,hfn,hbody⟩,hcalls⟩:=hC.2 _ _ _ _ _ hcall
    obtain⟨us,vs,hev,hus,hvs⟩:=env_rel hrep ha.1 hg
    refine wpIn_rangeFunc (F:=Fence.wide) ?_
    intro fn' _
    have hun0:=hrep.notYet (i:=H.next) (Nat.le_refl _)
    have hrep1:Rep P B w0 G (μ.add H.next w.heap.size 0) (H.withNew (.defd true)) (w.alloc (.deferred (some []))):=by
     refine(hrep.layObj (.defd true) (by simp)).bind (oi:=.defd true) (N:=0) (Nat.lt_succ_self _) ?_ hun0 ⟨(by intro _ he;cases he),(by intro _ _ _ he;cases he),(by intro _ _ _ _ he;cases he),(by intro _ _ he;cases he),(by intro _ _ _ _ _ _ _ _ _ he;cases he),(by intro op he;cases he;rfl)⟩
     intro o ho
     rcases Tr.get_set deep H.objs H.next (some (.defd true)) H.next o ho with⟨_,q⟩|⟨q,_⟩
     ·exact(Option.some.inj q).symm
     ·exact absurd rfl q
    have hun1:=hrep1.notYet (i:=H.next+1) (Nat.le_refl _)
    have hsz1:(w.alloc (.deferred (some []))).heap.size=w.heap.size+1:=World.size_alloc _ _
    let L:Loop:={state:=.ready,pending:=none,fn:=fn',tmps:=c.tmps,params:=ps,assign,body,defers:=w.heap.size}
    have hrep2:Rep P B w0 G ((μ.add H.next w.heap.size 0).add (H.next+1) (w.heap.size+1) 0) ((H.withNew (.defd true)).withNew (.loop .ready none fn a.nt a.T ps.toList assign body H.next)) ((w.alloc (.deferred (some []))).alloc (.loop L)):=by
     rw [←hsz1]
     refine(hrep1.layObj (.loop .ready none fn a.nt a.T ps.toList assign body H.next) (by simp)).bind (oi:=.loop .ready none fn a.nt a.T ps.toList assign body H.next) (N:=0) (Nat.lt_succ_self _) ?_ hun1 ⟨(by intro _ he;cases he),(by intro _ _ _ he;cases he),(by intro _ _ _ _ he;cases he),(by intro _ _ he;cases he),?_,(by intro op he;cases he)⟩
     ·intro o ho
      rcases Tr.get_set deep (H.withNew (.defd true)).objs (H.next+1) (some (.loop .ready none fn a.nt a.T ps.toList assign body H.next)) (H.next+1) o ho with⟨_,q⟩|⟨q,_⟩
      ·exact(Option.some.inj q).symm
      ·exact absurd rfl q
     ·intro st pend f' nt' T' ps' az' bd' dd' he
      cases he
      exact⟨L,w.heap.size,0,rfl,rfl,rfl,ha.1.mono (Mu.le_add hun0),rfl,rfl,rfl,if_pos rfl,rfl⟩
    have hle02:μ.le ((μ.add H.next w.heap.size 0).add (H.next+1) (w.heap.size+1) 0):=(Mu.le_add hun0).trans (Mu.le_add hun1)
    have hargs:LR ((μ.add H.next w.heap.size 0).add (H.next+1) (w.heap.size+1) 0) (fs.app (.cons (.yield (H.next+1)) cs)) ((us ++ #[Value.func (.yield (w.heap.size+1)) #[] #[]]) ++ vs).toList:=by
     rw [Array.append_assoc]
     refine allOf_app (LR.mono hle02 hus) ?_
     rw [Array.toList_append]
     exact LR.cons ⟨_,0,if_pos rfl,rfl⟩ (LR.mono hle02 hvs)
    have hbn:fnr.body.isNone=false:=by cases hq:fnr.body <;> simp_all
    refine⟨w.heap.size+1,[{target:=.collected w.heap.size,args:=#[]}],(w.alloc (.deferred (some []))).alloc (.loop L),{target:=.fn (.func f) vs,args:=us ++ #[Value.func (.yield (w.heap.size+1)) #[] #[]]},(w.alloc (.deferred (some []))).alloc (.loop L),f,(us ++ #[Value.func (.yield (w.heap.size+1)) #[] #[]]) ++ vs,(w.alloc (.deferred (some []))).alloc (.loop L),
     ?_,?_,fun _ _=>trivial,?_,(fun q=>by cases q),((hcalls _ _ _ hrep2 hargs).mono ?_)⟩
    ·simp [Instr.enterLoop,Fence.wide,L]
    ·simp only [resolve,hev,Deferred.ofValue,Sem.run_pure,List.map_toArray,List.map_cons,List.map_nil];rfl
    ·simp only [invoke,callFunc,Sem.run_bind,run_program,Result.andThen_ok,hfn,hN f fnr hfn hbody,hbn,Bool.false_eq_true,if_false]
     rfl
    ·rintro e w3 ⟨y,μ3,rfl,hext3,hy,hrep3⟩
     split at h
     ·rename_i st pend fn2 nt2 tm2 ps2 as2 bd2 dd2 hget
      have hml:μ3 (H.next+1)=some (w.heap.size+1,0):=hext3.1 _ _ (if_pos rfl)
      obtain⟨hB,L3,d3,M3,hw3,e1,e2,e3,e4,e5,e6,e7,e8⟩:=hrep3.loop _ _ _ _ _ _ _ _ _ _ _ _ hget hml
      have hend:st ≠ .busy→(Instr.endLoop (w.heap.size+1)).run P w3 = .ok pend (withObjAt w3 (w.heap.size+1) (.loop {L3 with state:=.exhausted})):=by
       intro hst
       have hne:¬L3.state=LoopState.busy:=by rw [e1];exact hst
       simp [Instr.endLoop,Instr.getLoop,getObj,setObj,Sem.run,hw3,hne,withObjAt,e2]
      have hset:=hrep3.setObj (oj:=.loop .exhausted pend fn2 nt2 tm2 ps2 as2 bd2 dd2) (o:=.loop {L3 with state:=.exhausted}) hget hml hB (by simp) (by simp) (by simp)
       ⟨(by intro _ he;cases he),(by intro _ _ _ he;cases he),(by intro _ _ _ _ he;cases he),(by intro _ _ he;cases he),(by intro _ _ _ _ _ _ _ _ _ he;cases he;exact⟨_,d3,M3,rfl,rfl,e2,e3,e4,e5,e6,e7,e8⟩),(by intro op he;cases he)⟩
      have hext:Ext H μ (H3.set (H.next+1) (.loop .exhausted pend fn2 nt2 tm2 ps2 as2 bd2 dd2)) μ3:=by
       refine⟨hle02.trans hext3.1,?_,?_⟩
       ·have h1:=hext3.2.1
        have h2:H.next+1+1≤H3.next:=h1
        show H.next≤H3.next
        omega
       ·intro i hi hi0
        refine hext3.2.2 i (show i<H.next+1+1 by omega) ?_
        simp only [Mu.add]
        rw [if_neg (by omega),if_neg (by omega)];exact hi0
      have hact:ActRel P μ3 {T:=a.T,nt:=a.nt,ds:=.loop H.next :: a.ds} {c with defers:=[{target:=.collected w.heap.size,args:=#[]}] ++ c.defers}:=
       ⟨ha.1.mono hext.1,w.heap.size,0,c.defers,rfl,hext3.1 _ _ (by simp only [Mu.add];rw [if_neg (by omega)];exact if_pos trivial),ha.2.mono hext.1⟩
      have fin:st ≠ .busy→(afterLoop self fn pend {T:=a.T,nt:=a.nt,ds:=.loop H.next :: a.ds} (H3.set (H.next+1) (.loop .exhausted pend fn2 nt2 tm2 ps2 as2 bd2 dd2))=some (x,a',H')) →
        rangePost Fence.wide 0 P (w.heap.size+1) (PostC P B w0 G μ H x a' H') {c with defers:=[{target:=.collected w.heap.size,args:=#[]}] ++ c.defers} (.returned y) w3:=by
       intro hst hh
       refine⟨pend,_,hend hst,?_⟩
       cases pend with
       | none=>
        simp [afterLoop]at hh;obtain⟨rfl,rfl,rfl⟩:=hh
        exact⟨trivial,μ3,hext,hact,hset⟩
       | some cc=>
        exact wpIn_mono (hK _ _ _ _ _ _ _ _ hh μ3 _ _ none rfl hset hact) (fun e c' w' q=>q.trans hext)
      cases st with
      | busy=>cases h
      | ready=>exact fin (by simp) (by simp only [withObj_eq]at h;exact h)
      | done=>exact fin (by simp) (by simp only [withObj_eq]at h;exact h)
      | exhausted=>exact fin (by simp) (by simp only [withObj_eq]at h;exact h)
     ·cases h
   ·cases h
  ·cases h
 ·cases h
end
section
variable {P:Program} {B:Nat} {w0:World} {G:Sett} {self:Cb}
theorem callF_ok(hK:CodeOK P B w0 G self){f:FuncId}{args:AV}{H:AH}{v:AV}{H':AH}(h:callF P self f args H=some (v,H')) :
  (∃fn:Func,P.funcs[f]? = some fn∧fn.body.isSome=true)∧∀μ w (xs:Array Value),Rep P B w0 G μ H w→LR μ args xs.toList→CallsIn Fence.wide 0 P f xs w (After P B w0 G μ H v H'):=by
 unfold callF at h
 split at h
 ·rename_i fn hfn
  split at h
  ·rename_i body hbody
   refine⟨⟨fn,hfn,by rw [hbody];rfl⟩,?_⟩
   intro μ w xs hrep hxs
   cases hle:Nat.ble args.len fn.ntmps with
   | false=>rw [hle]at h;cases h
   | true=>
    rw [hle]at h
    have hle:=Nat.le_of_ble_eq_true hle
    simp only [cond_true,List.range_eq_range']at h
    obtain⟨T,h1,h2⟩:=setAll_range _ _ _ _ _ h
    have hlen:=hxs.len
    rw [Array.length_toList]at hlen
    refine callsIn_of_wp_marks hfn hbody trivial ?_
    have hT:TR μ fn.ntmps T (xs ++ Array.replicate (fn.ntmps-xs.size) undef):=by
     refine⟨by simp;omega,?_⟩
     intro t u q
     rcases h2 t u q with⟨i,rfl,hi⟩|q
     ·obtain⟨y,hy,hyv⟩:=hxs.nth hi
      have hy':xs[i]? = some y:=by simpa using hy
      have hlt:i<xs.size:=(Array.getElem?_eq_some_iff.1 hy').1
      rw [Nat.zero_add,Array.getD_eq_getD_getElem?,Array.getElem?_append_left hlt,hy']
      exact hyv
     ·simp [Tr.get]at q
    split at h1
    ·rename_i x a1 H1 hcode
     have hc:=hK _ _ _ _ _ _ _ _ hcode μ w {tmps:=xs ++ Array.replicate (fn.ntmps-xs.size) undef,defers:=[]} none rfl hrep ⟨hT,rfl⟩
     refine wpIn_mono (F:=Fence.wide) hc ?_
     rintro e c1 w1 ⟨hx,μ1,hext,hact,hrep1⟩
     have fin:endsOk H1 a1.ds (fun H=>match resultsOf P H a1 fn.results.toList with
       | some (.cons v .nil)=>some (v,H)
       | some vs=>some (.tup vs,H)
       | none=>none)=some (v,H')→LeavesInM Fence.wide 0 P fn c1.tmps (After P B w0 G μ H v H') c1.defers .returning w1:=by
      intro hends
      refine ends_leave a1.ds H1 _ _ hends μ1 w1 c1.defers hrep1 hact.2 ?_
      intro H2 w2 hn hrep2 hk
      split at hk
      ·rename_i u hres
       simp at hk;obtain⟨rfl,rfl⟩:=hk
       obtain⟨ys,g1,g2⟩:=results_run hrep2 hact.1 hres
       obtain⟨y,r,rfl,g3,g4⟩:=g2
       have g4':r = []:=g4
       subst g4'
       refine⟨y,?_,y,μ1,rfl,hext.trans (.same μ1 hn),g3,hrep2⟩
       rw [results_eq]
       simp [Array.mapM_eq_mapM_toList,g1]
      ·rename_i vs hne hres
       simp at hk;obtain⟨rfl,rfl⟩:=hk
       obtain⟨ys,g1,g2⟩:=results_run hrep2 hact.1 hres
       refine⟨.tuple ys.toArray,?_,.tuple ys.toArray,μ1,rfl,hext.trans (.same μ1 hn),⟨ys.toArray,rfl,g2⟩,hrep2⟩
       have hsz:¬ys.length=1:=by
        intro q
        cases vs with
        | cons u t=>
         obtain⟨y,r,rfl,g3,g4⟩:=g2
         have hr:r = []:=by apply List.length_eq_zero_iff.1;simpa using q
         subst hr
         cases t with
         | nil=>exact hne u rfl
         | cons u' t'=>obtain⟨_,_,q',_⟩:=g4;cases q'
         | _=>exact g4.elim
        | nil=>have:ys = []:=g2;subst this;simp at q
        | _=>exact g2.elim
       rw [results_eq]
       simp [Array.mapM_eq_mapM_toList,g1,hsz]
      ·cases hk
     cases x with
     | normal=>cases e <;> first|exact hx.elim|exact fin h1
     | ret=>cases e <;> first|exact hx.elim|exact fin h1
     | exit id=>cases h1
     | goto l=>cases h1
    ·cases h1
  ·cases h
 ·cases h
end
section
variable {P:Program} {B:Nat} {w0:World} {G:Sett} {self:Cb}
theorem roundF_ok(hK:CodeOK P B w0 G self){l:Nat}{xs:AV}{H:AH}{v:AV}{H':AH}(h:roundF self l xs H=some (v,H')){μ:Mu}{w:World}{b N:Nat}{ys:Array Value}(hrep:Rep P B w0 G μ H w)(hm:μ l=some (b,N))(hys:LR μ xs ys.toList) :
  ∃L:Loop,w.heap[b]? = some (.loop L)∧ys.size=L.params.size ∧
   RoundIn Fence.wide 0 P b L.fn ((L.params.zip ys).foldl (fun tmps (t,a)=>tmps.setIfInBounds t a) L.tmps) L.assign L.body w (After P B w0 G μ H v H'):=by
 unfold roundF at h
 split at h
 ·rename_i st pend fn nt tm ps az bd dd ho
  obtain⟨hB,L,d,M,hw,e1,e2,e3,e4,e5,e6,e7,e8⟩:=hrep.loop _ _ _ _ _ _ _ _ _ _ _ _ ho hm
  obtain⟨hlen,T,h1,hT⟩:=setAll_TR _ _ _ _ _ _ _ h hys e3
  refine⟨L,hw,?_,?_⟩
  ·rw [←Array.length_toList,←hlen,←e4,Array.length_toList]
  ·have hfold:((L.params.zip ys).foldl (fun tmps (q:Tmp × Value)=>tmps.setIfInBounds q.1 q.2) L.tmps)=((ps.zip ys.toList).foldl (fun tmps (q:Tmp × Value)=>tmps.setIfInBounds q.1 q.2) L.tmps):=by
    rw [←Array.foldl_toList,Array.toList_zip,e4]
   refine roundIn_of_wpIn trivial ?_
   split at h1
   ·rename_i a1 H1 hassign
    have hA:=hK _ _ _ _ _ _ _ _ hassign μ w {tmps:=(L.params.zip ys).foldl (fun tmps (q:Tmp × Value)=>tmps.setIfInBounds q.1 q.2) L.tmps,defers:=[]} (some b) ⟨b,N,hm,rfl⟩ hrep ⟨by rw [hfold];exact hT,rfl⟩
    rw [←e5]at hA
    refine wpIn_mono (F:=Fence.wide.inRound b) hA ?_
    rintro e c1 w1 ⟨hx,μ1,hext1,hact1,hrep1⟩
    cases e <;> first|exact hx.elim|skip
    have hm1:=hext1.1 _ _ hm
    split at h1
    ·rename_i pend1 fn1 nt1 tm1 ps1 as1 bd1 dd1 ho1
     obtain⟨hB1,L1,d1,M1,hw1,p1,p2,p3,p4,p5,p6,p7,p8⟩:=hrep1.loop _ _ _ _ _ _ _ _ _ _ _ _ ho1 hm1
     rw [withObj_eq]at h1
     have hrep2:=hrep1.setObj (oj:=.loop .busy pend1 fn1 nt1 tm1 ps1 as1 bd1 dd1) (o:=.loop {L1 with state:=.busy}) ho1 hm1 hB1 (by simp) (by simp) (by simp)
      ⟨(by intro _ he;cases he),(by intro _ _ _ he;cases he),(by intro _ _ _ _ he;cases he),(by intro _ _ he;cases he),(by intro _ _ _ _ _ _ _ _ _ he;cases he;exact⟨_,d1,M1,rfl,rfl,p2,p3,p4,p5,p6,p7,p8⟩),(by intro op he;cases he)⟩
     refine⟨withObjAt w1 b (.loop {L1 with state:=.busy}),?_,?_⟩
     ·simp [Instr.beginRound,Instr.getLoop,getObj,setObj,Sem.run,hw1,p1,withObjAt]
     ·split at h1
      ·rename_i x a2 H2 hbody
       have hB2:=hK _ _ _ _ _ _ _ _ hbody μ1 _ c1 (some b) ⟨b,N,hm1,rfl⟩ hrep2 hact1
       rw [←e6]at hB2
       refine wpIn_mono (F:=Fence.wide.inRound b) hB2 ?_
       rintro e c2 w2 ⟨hx2,μ2,hext2,hact2,hrep3⟩
       have hm2:=hext2.1 _ _ hm1
       split at h1
       ·rename_i st3 pend3 fn3 nt3 tm3 ps3 as3 bd3 dd3 ho3
        obtain⟨hB3,L3,d3,M3,hw3,r1,r2,r3,r4,r5,r6,r7,r8⟩:=hrep3.loop _ _ _ _ _ _ _ _ _ _ _ _ ho3 hm2
        have fin:∀(jump:Option Code) (bb:Bool),jump.isNone=bb→v = .sc (.bool bb)→H'=H2.set l (.loop (bif bb then .ready else .done) jump fn3 nt3 tm3 ps3 as3 bd3 dd3) →
          ∃v' w',(Instr.endRound b jump).run P w2 = .ok v' w'∧After P B w0 G μ H v H' (.returned v') w':=by
         rintro jump bb hj rfl rfl
         have hset:=hrep3.setObj (oj:=.loop (bif bb then .ready else .done) jump fn3 nt3 tm3 ps3 as3 bd3 dd3) (o:=.loop {L3 with state:=if jump.isNone then .ready else .done,pending:=jump}) ho3 hm2 hB3 (by simp) (by simp) (by simp)
          ⟨(by intro _ he;cases he),(by intro _ _ _ he;cases he),(by intro _ _ _ _ he;cases he),(by intro _ _ he;cases he),(by intro _ _ _ _ _ _ _ _ _ he;cases he;exact⟨_,d3,M3,rfl,by rw [hj];cases bb <;> rfl,rfl,r3,r4,r5,r6,r7,r8⟩),(by intro op he;cases he)⟩
         refine⟨.bool bb,withObjAt w2 b (.loop {L3 with state:=if jump.isNone then .ready else .done,pending:=jump}),?_,.bool bb,μ2,rfl,?_,rfl,hset⟩
         ·simp [Instr.endRound,Instr.getLoop,getObj,setObj,Sem.run,hw3,withObjAt,hj]
         ·exact hext1.trans ((Ext.same μ1 rfl).trans (hext2.trans (Ext.same μ2 rfl)))
        cases x with
        | normal=>
         cases e <;> first|exact hx2.elim|skip
         simp only [withObj_eq]at h1
         simp at h1
         exact fin none true rfl h1.1.symm h1.2.symm
        | ret=>
         cases e <;> first|exact hx2.elim|skip
         simp only [withObj_eq]at h1
         simp at h1
         exact fin (some .ret) false rfl h1.1.symm h1.2.symm
        | exit id=>
         cases e <;> first|exact hx2.elim|skip
         have hij:id=_:=hx2
         subst hij
         simp only [withObj_eq]at h1
         simp at h1
         exact fin (some (.exit id)) false rfl h1.1.symm h1.2.symm
        | goto t=>cases h1
       ·cases h1
      ·cases h1
    ·cases h1
   ·cases h1
 ·cases h
end
section
variable {P:Program} {B:Nat} {w0:World} {G:Sett}
def StillFn(P:Program)(g:FuncId):Prop:=(∃fn:Func,P.funcs[g]? = some fn∧fn.body.isSome=true) ∧
  ∀args w,CallsDIn Fence.wide 0 P g args .returning w fun e u w'=>(∃v,e = .returned v)∧u = .returning∧w'.heap=w.heap∧Below w.heap.size w w'
theorem cb_ok(hm:P.follows .mixedOrders=true)(hN:NamesOK P){O:FuncId→AV→AH→Option (AV × AH)}(hO:CallsOK P B w0 G O){D:List FuncId}(hD:∀g∈D,StillFn P g) :
  ∀n,CallOK P B w0 G (cb P G O D n)∧RoundOK P B w0 G (cb P G O D n)∧CodeOK P B w0 G (cb P G O D n)
 | 0=>⟨⟨fun g h=>hD g (by simpa [cb]using h),fun _ _ _ _ _ h=>(by cases h)⟩,fun _ _ _ _ _ h=>(by cases h),fun _ _ _ _ _ _ _ _ h=>(by cases h)⟩
 | n+1=>by
  obtain⟨hC,hR,hK⟩:=cb_ok hm hN hO hD n
  refine⟨⟨fun g h=>hD g (by simpa [cb]using h),?_⟩,?_,?_⟩
  ·intro f args H v H' h
   simp only [cb]at h
   split at h
   ·rename_i r ho
    cases h
    exact hO _ _ _ _ _ ho
   ·exact callF_ok hK h
  ·intro l xs H v H' h μ w b N ys hrep hmu hys
   exact roundF_ok hK h hrep hmu hys
  ·intro ro fn cd a H x a' H' h μ w c ro' hro hrep ha
   exact codeF_ok hm hN hC hR hK h hro hrep ha
theorem calls_of_run(hm:P.follows .mixedOrders=true)(hN:NamesOK P){O:FuncId→AV→AH→Option (AV × AH)}(hO:CallsOK P B w0 G O){D:List FuncId}(hD:∀g∈D,StillFn P g){n:Nat}{f:FuncId}{args:AV}{H:AH}{v:AV}{H':AH}
  (h:(cb P G O D n).call f args H=some (v,H')) {μ:Mu} {w:World} {xs:Array Value} (hrep:Rep P B w0 G μ H w) (hxs:LR μ args xs.toList):Calls P f xs w (After P B w0 G μ H v H'):=
 callsIn_wide.1 (((cb_ok hm hN hO hD n).1.2 _ _ _ _ _ h).2 μ w xs hrep hxs)
end
end Go.Eng
