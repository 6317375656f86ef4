/-
  A region that draws its order and calls functions: one walk, each operation that only reads as early as it may come, serves every order. A r
  Conditions: see each statement.
-/
import Derived.Test.YtepakfjilnpodaaGreatDoorRBAA
import Derived.Test.YtepakfjilnpodaaGreatDoorRBAI
import Derived.Test.YtepakfjilnpodaaGreatDoorRBAE
import Derived.Below
import Derived.WalkKit
import Derived.Deep.MidRow
set_option maxRecDepth 100000
set_option maxHeartbeats 8000000
namespace Go.Num
open Go.RowKit Go.Proofs Go.Proofs.YtepakfjilnpodaaGreatDoor
theorem znT(w:World)(va vb:Value)(x y L:Nat)(ha:NatI w va x)(hb:NatI w vb y)(hx:x<B^L)(hy:y<B^L)(hL:L≤10000000) :
  CallsIn Fence.wide 0 Tryz.prog 196 #[va,vb] w fun e w'=>∃v',e = .returned v'∧NatI w' v' (Nat.gcd x y)∧Below w.heap.size w w':=by
 have HA:=zHi ha;have HB:=zHi hb;have HX:=zHi hx;have HY:=zHi hy;clear ha hb hx hy;refine callsIn_of_wp Tryz.func196 rfl trivial ?_ rfl;simp only [Tryz.ntmps196,zsj,zsk,zsl,Nat.reduceAdd,Nat.reduceSub,zsm,zsn,zso,zsp,zsq,zsr];gi_wp2;gi_loopw [0,1] (fun va vb wr=>∃a b:Nat,Hid (NatI wr va a)∧Hid (NatI wr vb b)∧Hid (a<B^L)∧Hid (b<B^L)∧Hid (Nat.gcd a b=Nat.gcd x y)∧Hid (Below w.heap.size w wr)) (fun _ vb wr=>zm0 wr vb)
 case atStart=>exact⟨x,y,HA.out,HB.out,HX.out,HY.out,zHi rfl,Below.refl _ _⟩
 case round=>
  obtain⟨a,b,HMA,HMB,HLA,HLB,HG,HBr⟩:=hrel;clear HA HB;obtain⟨o,k,c,rfl,hk,hk9⟩:=zbf HMB.out;by_cases hb0:b=0
  ·have hk0:k=0:=hk.2 hb0;subst hk0;subst hb0;clear hk;gi_wp2;all_goals (first|go_returns|go_ret|go_end0)
   refine⟨_,rfl,?_,HBr.out⟩;rw [←HG.out,Nat.gcd_zero_right];exact HMA.out
  ·have hk0:0<k:=by
    rcases Nat.eq_zero_or_pos k with h|h
    ·exact absurd (hk.1 h) hb0
    ·exact h
   have HD:=zHi (zjw wr _ _ a b L HMA.out HMB.out (by omega) HLA.out HLB.out hL);have HN:=zHi HMB.out.num;clear hk;gi_wp2_with (gi_at_call 197;refine HD.out.mono ?_;rintro e w6 ⟨vq,vr,rfl,_,hm6,hB6⟩;have HM6:=zHi hm6;have HB6:=zHi (HBr.out.trans (hB6.mono HBr.out.size));have HMB6:=zHi (HMB.out.below hB6);clear hm6 hB6)
   refine⟨⟨b,a%b,HMB6.out,HM6.out,HLB.out,?_,?_,HB6.out⟩,?_⟩
   ·exact zHi (Nat.lt_of_lt_of_le (Nat.mod_lt a (by omega)) (Nat.le_of_lt HLB.out))
   ·exact zHi (znb.symm.trans HG.out)
   ·rw [HM6.out.num,HN.out];exact Nat.mod_lt a (by omega)
def ZAt(w:World)(v:Value)(z:Int):Prop:=∃m,v = .agg #[.bool (decide (z<0)),m]∧NatI w m z.natAbs
theorem ZAt.below{w w':World}{v:Value}{z:Int}(h:ZAt w v z)(hb:Below w.heap.size w w'):ZAt w' v z:=by
 obtain⟨m,e,hm⟩:=h;exact⟨m,e,hm.below hb⟩
theorem zqe(w:World)(neg:Bool)(v:Value)(n:Nat)(h:NatI w v n) :
  CallsIn Fence.wide 0 Tryz.prog 94 #[.bool neg,v] w fun e w'=>∃v',e = .returned v'∧(ZAt w' v' (sgn neg n)∧∃x:Value,v' = .agg #[x,v])∧Below w.heap.size w w':=by
 have HM:=zHi h;obtain⟨o,k,c,rfl,hk,hk9⟩:=zbf h;have HK:=zHi hk;clear h hk;have fin:∀(w':World) (b:Bool),b=decide (sgn neg n<0)→Below w.heap.size w w'→∃v',Ending.returned (Value.agg #[.bool b,.slice o k c]) = .returned v'∧(ZAt w' v' (sgn neg n)∧∃x:Value,v' = .agg #[x,.slice o k c])∧Below w.heap.size w w':=by
  intro w' b hb hB;exact⟨_,rfl,⟨⟨_,by rw [hb],by rw [zbw];exact HM.out.below hB⟩,_,rfl⟩,hB⟩
 have FIN:=zHi fin;clear fin;refine callsIn_of_wp Tryz.func94 rfl trivial ?_ rfl;simp only [Tryz.ntmps94,zsj,zsk,zsl,Nat.reduceAdd,Nat.reduceSub,zsm,zsn,zso,zsp,zsq,zsr]
 cases neg with
 | false=>
  have HS:Hid (false=decide (sgn false n<0)):=zHi (decide_eq_false (by rw [zgA];simp)).symm;gi_wp2;all_goals (first|go_returns|go_ret|go_end0)
  exact FIN.out _ _ HS.out (zaa _ _)
 | true=>
  by_cases hk0:k=0
  ·subst hk0;have HS:Hid (false=decide (sgn true n<0)):=zHi (decide_eq_false (by rw [zgA,HK.out.1 rfl];simp)).symm;gi_wp2;all_goals (first|go_returns|go_ret|go_end0)
   exact FIN.out _ _ HS.out (zaa _ _)
  ·have hk1:(0:Int)<(k:Int):=by omega
   have HS:Hid (true=decide (sgn true n<0)):=zHi (decide_eq_true (by rw [zgA];exact⟨rfl,Nat.pos_of_ne_zero fun e=>hk0 (HK.out.2 e)⟩)).symm;gi_wp2;all_goals (first|go_returns|go_ret|go_end0)
   exact FIN.out _ _ (by rw [←HS.out];exact decide_eq_true (by omega)) (zaa _ _)
theorem zd6(w:World)(neg:Bool)(v:Value)(n:Nat)(h:NatI w v n) :
  CallsIn Fence.wide 0 Tryz.prog 94 #[.bool neg,v] w fun e w'=>∃v',e = .returned v'∧ZAt w' v' (sgn neg n)∧Below w.heap.size w w':=
 (zqe w neg v n h).mono (fun _ _ ⟨v',h1,h2,h3⟩=>⟨v',h1,h2.1,h3⟩)
theorem zlD(w:World)(v:Value)(z:Int)(h:ZAt w v z) :
  CallsIn Fence.wide 0 Tryz.prog 98 #[v] w fun e w'=>e = .returned (.int .i64 z.sign)∧Below w.heap.size w w':=by
 obtain⟨m,rfl,hn⟩:=h;obtain⟨o,k,c,rfl,hk,hk9⟩:=zbf hn;have HK:=zHi hk;clear hn hk;refine callsIn_of_wp Tryz.func98 rfl trivial ?_ rfl;simp only [Tryz.ntmps98,zsj,zsk,zsl,Nat.reduceAdd,Nat.reduceSub,zsm,zsn,zso,zsp,zsq,zsr];by_cases h1:z=0
 ·have hs:Hid (z.sign=0):=zHi (by rw [h1];rfl);have hk0:k=0:=HK.out.2 (by rw [h1];rfl);subst hk0;have hd:decide (z<0)=false:=decide_eq_false (by omega);rw [hd];clear hd h1;gi_wp2;all_goals (first|go_returns|go_ret|go_end0)
  exact⟨by rw [hs.out] <;> rfl,zaa _ _⟩
 ·have hk0:¬(k:Int)=0:=by
   intro q;have:=HK.out.1 (by omega);omega
  have hk2:((k:Int) == 0)=false:=by simp;omega
  by_cases h0:z<0
  ·have hs:Hid (z.sign = -1):=zHi (Int.sign_eq_neg_one_of_neg h0);have hd:decide (z<0)=true:=decide_eq_true h0;rw [hd];clear hd h0 h1;gi_wp2;all_goals (first|go_returns|go_ret|go_end0)
   exact⟨by rw [hs.out] <;> rfl,zaa _ _⟩
  ·have hs:Hid (z.sign=1):=zHi (Int.sign_eq_one_of_pos (by omega));have hd:decide (z<0)=false:=decide_eq_false h0;rw [hd];clear hd h0 h1;gi_wp2;all_goals (first|go_returns|go_ret|go_end0)
   exact⟨by rw [hs.out] <;> rfl,zaa _ _⟩
end Go.Num
namespace Go.Eng
open Go.RowKit
def zbG(o:Oper):Bool:=o.guard.isNone && (match o.op with | .defer _=>false | .select .. => false|_=>true)
theorem zda{ops:Array Oper}{p:Plan}(hp:zbA ops p):∀(i:Nat) (o:Oper),ops[i]? = some o→∀j,(bsAt p.bs i).testBit j=true→j<i:=by
 intro i;induction i using Nat.strongRecOn with
 | ind i ih=>
  intro o ho j hj;obtain⟨e,h1,h2,h3⟩:=hp.mask i o ho j hj;have h4:=hp.lower i o ho e h1 h2;rcases h3 with rfl|h3
  ·exact h4
  ·have hlt:e.on<ops.size:=by have:=(Array.getElem?_eq_some_iff.1 ho).1;omega
   have:=ih e.on h4 _ (Array.getElem?_eq_getElem hlt) j h3;omega
section
variable {P:Program} {ops:Array Oper} {p:Plan}
theorem zkp{c c':CAct}(h1:c.tmps.size=c'.tmps.size)(h2:∀t,t<c.tmps.size→c.tmps.getD t undef=c'.tmps.getD t undef)(h3:c.defers=c'.defers):c=c':=by
 obtain⟨t,d⟩:=c;obtain⟨t',d'⟩:=c';simp only at h1 h2 h3;subst h3;congr 1
 refine Array.ext h1 fun i hi hi' => ?_
 have:=h2 i hi;simpa [hi,hi']using this
end
def zc2(bs bars:List Nat):List Nat→Bool
 | []=>true
 | i :: r=>r.all (fun j => !(bsAt bs i).testBit j && !Nat.beq i j) && (!bars.contains i || r.all fun j=>(bsAt bs j).testBit i) && zc2 bs bars r
theorem zmZ{bs bars:List Nat}{i:Nat}{r:List Nat}(h:zc2 bs bars (i :: r)=true):(∀j∈r,(bsAt bs i).testBit j=false∧i≠j∧(i∈bars→(bsAt bs j).testBit i=true))∧zc2 bs bars r=true:=by
 simp only [zc2,Bool.and_eq_true,List.all_eq_true,Bool.or_eq_true,Bool.not_eq_true']at h;obtain⟨⟨h1,h2⟩,h3⟩:=h;refine⟨fun j hj=>⟨(h1 j hj).1,fun e => ?_,fun hi => ?_⟩,h3⟩
 ·have:=(h1 j hj).2;rw [e,Nat.beq_refl]at this
  cases this
 ·rcases h2 with h2|h2
  ·have:bars.contains i=true:=by simpa using hi
   rw [this]at h2;cases h2
  ·exact h2 j hj
theorem zaD{bs bars:List Nat}:∀{pre:List Nat} {i:Nat} {r:List Nat},zc2 bs bars (pre ++ i :: r)=true →
  (∀j∈r,(bsAt bs i).testBit j=false∧i≠j∧(i∈bars→(bsAt bs j).testBit i=true))∧(∀j∈pre,(bsAt bs j).testBit i=false∧j≠i∧(j∈bars→(bsAt bs i).testBit j=true))
 | [],i,r,h=>⟨(zmZ h).1,fun j hj=>by cases hj⟩
 | k :: pre,i,r,h=>by
  obtain⟨h1,h2⟩:=zmZ h;obtain⟨h3,h4⟩:=zaD (pre:=pre) h2;refine⟨h3,fun j hj => ?_⟩;rcases List.mem_cons.1 hj with rfl|hj
  ·exact h1 i (by simp)
  ·exact h4 j hj
def zl6(bs:List Nat)(n i:Nat):Bool:=(List.range n).all fun j=>Nat.beq i j || ((bsAt bs i).testBit j || (bsAt bs j).testBit i)
def zeX(bs ks:List Nat)(n i:Nat):Bool:=(List.range n).all fun j=>Nat.beq i j || ((bsAt bs i).testBit j || (bsAt bs j).testBit i || ks.contains j)
theorem zqa{bs ks:List Nat}{n i:Nat}(h:zl6 bs n i=true):zeX bs ks n i=true:=by
 unfold zl6 at h;unfold zeX;rw [List.all_eq_true]at h ⊢;intro j hj;have:=h j hj;rw [Bool.or_eq_true]at this ⊢;exact this.imp id (fun q=>by rw [q];rfl)
def OWK(K:World→Prop)(ks:List Nat)(P:Program)(ro:Option Nat)(ops:Array Oper)(bs bars:List Nat)(Q:CAct→World→Prop):List Nat→CAct→World→Prop
 | [],a,w=>Q a w
 | i :: r,a,w=>∃o,ops[i]? = some o ∧
   ((bars.contains i=true ∧
     ((∃f args,(execOp a.eval o).run P w = .ok (.enter f args) w∧CallsIn (Fz ro) 0 P f args w fun e w'=>∃v,e = .returned v∧((zeX bs ks ops.size i=true∧K w')∨Below w.heap.size w w')∧OWK K ks P ro ops bs bars Q r (a.put o.dst v) w') ∨
      (∃w' v,((execOp a.eval o).run P w = .ok (.value v) w'∨((execOp a.eval o).run P w = .ok .skip w'∧v=undef))∧((zeX bs ks ops.size i=true∧K w')∨Below w.heap.size w w')∧OWK K ks P ro ops bs bars Q r (a.put o.dst v) w'))) ∨
    (bars.contains i=false∧∃v,(∀w',(Below w.heap.size w w'∨(ks.contains i=true∧K w'))→(execOp a.eval o).run P w' = .ok (.value v) w')∧OWK K ks P ro ops bs bars Q r (a.put o.dst v) w))
abbrev OW(P:Program)(ro:Option Nat)(ops:Array Oper)(bs bars:List Nat)(Q:CAct→World→Prop):List Nat→CAct→World→Prop:=OWK (fun _=>True) [] P ro ops bs bars Q
section
variable {P:Program} {ops:Array Oper} {p:Plan}
def zct(ops:Array Oper)(p:Plan)(val:Nat→Value)(a:CAct)(i:Nat)(o:Oper)(c:CAct):Prop:=
 ∀t∈zgV o,(∀j q,(bsAt p.bs i).testBit j=true→ops[j]? = some q→q.dst=some t→c.tmps.getD t undef=val j) ∧
  ((∀j q,(bsAt p.bs i).testBit j=true→ops[j]? = some q→q.dst≠some t)→c.tmps.getD t undef=a.tmps.getD t undef)
theorem zct.eval{val:Nat→Value}{a:CAct}{i:Nat}{o:Oper}{c c':CAct}(h:zct ops p val a i o c)(h':zct ops p val a i o c'):∀x∈o.op.operands,c.eval x=c'.eval x:=by
 intro x hx
 cases x with
 | tmp t=>
  have hmem:t∈zgV o:=by
   unfold zgV;rw [List.mem_filterMap];exact⟨.tmp t,by simpa using hx,rfl⟩
  show c.tmps.getD t undef=c'.tmps.getD t undef
  by_cases hw:∃(j:Nat) (q:Oper),(bsAt p.bs i).testBit j=true∧ops[j]? = some q∧q.dst=some t
  ·obtain⟨j,q,h1,h2,h3⟩:=hw;rw [(h t hmem).1 j q h1 h2 h3,(h' t hmem).1 j q h1 h2 h3]
  ·have hno:∀j q,(bsAt p.bs i).testBit j=true→ops[j]? = some q→q.dst≠some t:=fun j q h1 h2 h3=>hw ⟨j,q,h1,h2,h3⟩
   rw [(h t hmem).2 hno,(h' t hmem).2 hno]
 | const u=>rfl
 | global g=>rfl
 | func f=>rfl
structure Core(K:World→Prop)(ks:List Nat)(P:Program)(ro:Option Nat)(ops:Array Oper)(p:Plan)(bars:List Nat)(Q:CAct→World→Prop)(a:CAct)(ord done rest:List Nat)(val:Nat→Value)(g:CAct)(listed:Array Bool)(w:World):Prop where
 ord:done ++ rest=ord
 size:g.tmps.size=a.tmps.size
 defers:g.defers=a.defers
 gW:∀j∈done,∀o d,ops[j]? = some o→o.dst=some d→g.tmps.getD d undef=val j
 g0:∀t,(∀j∈done,∀o,ops[j]? = some o→o.dst≠some t)→g.tmps.getD t undef=a.tmps.getD t undef
 quiet:∀i∈done,¬Did listed i→∀o,ops[i]? = some o→i∉bars∧∀c:CAct,zct ops p val a i o c→∀w',(Below w.heap.size w w'∨(ks.contains i=true∧K w'))→(execOp c.eval o).run P w' = .ok (.value (val i)) w'
 cont:OWK K ks P ro ops p.bs bars Q rest g w
theorem zjx{K:World→Prop}{ks:List Nat}{ro:Option Nat}{bars:List Nat}{Q:CAct→World→Prop}{a:CAct}{ord done r:List Nat}{i:Nat}{val:Nat→Value}{g:CAct}{listed:Array Bool}{w:World}(hp:zbA ops p)(hord:zc2 p.bs bars ord=true)(hall:∀i,i<ops.size→i∈ord)
  (hC:Core K ks P ro ops p bars Q a ord done (i :: r) val g listed w) {o:Oper} (ho:ops[i]? = some o):zct ops p val a i o g:=by
 have hs:=hC.ord ▸ hord;obtain⟨h1,h2⟩:=zaD hs;intro t ht;refine⟨fun j q hj hq hd => ?_,fun hno => ?_⟩
 ·refine hC.gW j ?_ q t hq hd;have hjo:j∈ord:=hall j (Array.getElem?_eq_some_iff.1 hq).1;rw [←hC.ord]at hjo;rcases List.mem_append.1 hjo with h|h
  ·exact h
  ·rcases List.mem_cons.1 h with rfl|h
   ·have:=zda hp j o ho j hj;omega
   ·have:=(h1 j h).1;rw [hj]at this;cases this
 ·refine hC.g0 t fun j hj q hq hd => ?_
  rcases hp.reads i j o q t ho hq hd ht with rfl|hb|hb
  ·exact(h2 i hj).2.1 rfl
  ·exact hno j q hb hq hd
  ·have:=(h2 j hj).1;rw [hb]at this;cases this
def upd(val:Nat→Value)(i:Nat)(v:Value):Nat→Value:=fun k=>if k=i then v else val k
theorem zcb(val:Nat→Value)(i:Nat)(v:Value):upd val i v i=v:=if_pos rfl
theorem zbM(val:Nat→Value)(i:Nat)(v:Value){k:Nat}(h:k≠i):upd val i v k=val k:=if_neg h
theorem znk{K:World→Prop}{ks:List Nat}{ro:Option Nat}{bars:List Nat}{Q:CAct→World→Prop}{a:CAct}{ord done r:List Nat}{i:Nat}{val:Nat→Value}{g:CAct}{listed listed':Array Bool}{w w':World}(hp:zbA ops p)(hord:zc2 p.bs bars ord=true)
  (hdst:∀o∈ops.toList,∀d,o.dst=some d→d<a.tmps.size)
  (hC:Core K ks P ro ops p bars Q a ord done (i :: r) val g listed w) {o:Oper} (ho:ops[i]? = some o) (v:Value) (hcont:OWK K ks P ro ops p.bs bars Q r (g.put o.dst v) w')
  (hq:∀j∈done,¬Did listed' j→∀q,ops[j]? = some q→j∉bars∧∀c:CAct,zct ops p val a j q c→∀w2,(Below w'.heap.size w' w2∨(ks.contains j=true∧K w2))→(execOp c.eval q).run P w2 = .ok (.value (val j)) w2)
  (hi:¬Did listed' i→i∉bars∧∀c:CAct,zct ops p val a i o c→∀w2,(Below w'.heap.size w' w2∨(ks.contains i=true∧K w2))→(execOp c.eval o).run P w2 = .ok (.value v) w2) :
  Core K ks P ro ops p bars Q a ord (done ++ [i]) r (upd val i v) (g.put o.dst v) listed' w':=by
 have hs:=hC.ord ▸ hord;obtain⟨h1,h2⟩:=zaD hs;have hom:o∈ops.toList:=List.mem_of_getElem? (by simpa using ho);have hagree:∀j q c,(bsAt p.bs j).testBit i=false→zct ops p (upd val i v) a j q c→zct ops p val a j q c:=by
  intro j q c hji hA t ht;refine⟨fun k q' hk hq' hd => ?_,(hA t ht).2⟩;have:=(hA t ht).1 k q' hk hq' hd;rw [zbM _ _ _ (fun e=>by rw [e]at hk;rw [hk]at hji;cases hji)]at this;exact this
 refine⟨by rw [←hC.ord];simp,by rw [zcn];exact hC.size,by rw [zbx];exact hC.defers,?_,?_,?_,hcont⟩
 ·intro j hj q d hq' hd;by_cases hji:j=i
  ·subst hji;rw [ho]at hq';cases hq';rw [zcb,hd,zco (by rw [hC.size];exact hdst o hom d hd)]
  ·rw [zbM _ _ _ hji,zaC (fun e=>hji (hp.dsts j i q o d hq' ho hd e))];rcases List.mem_append.1 hj with h|h
   ·exact hC.gW j h q d hq' hd
   ·simp at h;exact absurd h hji
 ·intro t ht;rw [zaC (ht i (by simp) o ho)];exact hC.g0 t fun j hj q hq'=>ht j (by simp [hj]) q hq'
 ·intro j hj hnd q hq';rcases List.mem_append.1 hj with h|h
  ·have hji:=h2 j h;rw [zbM _ _ _ hji.2.1];obtain⟨h3,h4⟩:=hq j h hnd q hq';exact⟨h3,fun c hA=>h4 c (hagree j q c hji.1 hA)⟩
  ·have hji:j=i:=by simpa using h
   subst hji;rw [ho]at hq';cases hq';rw [zcb];obtain⟨h3,h4⟩:=hi hnd;refine⟨h3,fun c hA=>h4 c (hagree j o c ?_ hA)⟩
   cases e:(bsAt p.bs j).testBit j with
   | false=>rfl
   | true=>have:=zda hp j o ho j e;omega
theorem ze3{K:World→Prop}{ks:List Nat}{ro:Option Nat}{bars:List Nat}{Q:CAct→World→Prop}{a:CAct}{ord:List Nat}{listed:Array Bool}{w:World}(hp:zbA ops p)(hord:zc2 p.bs bars ord=true)(hall:∀i,i<ops.size→i∈ord)
  (hnosel:∀o∈ops.toList,∀cs b,o.op ≠ .select cs b) (hdst:∀o∈ops.toList,∀d,o.dst=some d→d<a.tmps.size) :
  ∀(rest done:List Nat) (val:Nat→Value) (g:CAct),Core K ks P ro ops p bars Q a ord done rest val g listed w →
   ∃done' rest' val' g',Core K ks P ro ops p bars Q a ord done' rest' val' g' listed w∧(∀e r,rest'=e :: r→e∈bars)∧(∀j,j∈done→j∈done'∧val' j=val j)∧(∀j,j∈done'→j∈bars→j∈done)
 | [],done,val,g,hC=>⟨done,[],val,g,hC,fun e r h=>(by cases h),fun j hj=>⟨hj,rfl⟩,fun j hj _=>hj⟩
 | i :: r,done,val,g,hC=>by
  obtain⟨o,ho,hh⟩:=hC.cont;rcases hh with⟨hb,hh⟩|⟨hb,v,hv,hcont⟩
  ·exact⟨done,i :: r,val,g,hC,fun e r' h=>by injection h with h1 h2;subst h1;simpa using hb,fun j hj=>⟨hj,rfl⟩,fun j hj _=>hj⟩
  ·have hs:=hC.ord ▸ hord;obtain⟨h1,h2⟩:=zaD hs;have hnb:i∉bars:=by intro h;rw [show bars.contains i=true by simpa using h]at hb;cases hb
   have hA:=zjx hp hord hall hC ho;have hom:o∈ops.toList:=List.mem_of_getElem? (by simpa using ho);have hC':=znk hp hord hdst hC ho v hcont hC.quiet (listed':=listed) (fun _=>⟨hnb,fun c hAc w2 hb2=>by
    rw [execOp_congr o (hnosel o hom) (hAc.eval hA)];exact hv w2 hb2⟩)
   obtain⟨done',rest',val',g',k1,k2,k3,k4⟩:=ze3 hp hord hall hnosel hdst r (done ++ [i]) _ _ hC';refine⟨done',rest',val',g',k1,k2,fun j hj => ?_,fun j hj hjb => ?_⟩
   ·obtain⟨h3,h4⟩:=k3 j (by simp [hj]);refine⟨h3,?_⟩;rw [h4,zbM _ _ _ (h2 j hj).2.1]
   ·have:=k4 j hj hjb;rcases List.mem_append.1 this with h|h
    ·exact h
    ·have:j=i:=by simpa using h
     subst this;exact absurd hjb hnb
structure EInv(K:World→Prop)(ks:List Nat)(P:Program)(ro:Option Nat)(ops:Array Oper)(p:Plan)(bars:List Nat)(Q:CAct→World→Prop)(a:CAct)(ord done rest:List Nat)(val:Nat→Value)(g:CAct)(listed:Array Bool)(c:CAct)(w:World):Prop where
 core:Core K ks P ro ops p bars Q a ord done rest val g listed w
 kw:K w
 head:∀e r,rest=e :: r→e∈bars
 lsize:listed.size=ops.size
 closed:∀i j,Did listed i→(bsAt p.bs i).testBit j=true→Did listed j
 sub:∀j,Did listed j→j∈done
 cdefers:c.defers=a.defers
 csize:c.tmps.size=a.tmps.size
 cW:∀j o d,Did listed j→ops[j]? = some o→o.dst=some d→c.tmps.getD d undef=val j
 c0:∀t,(∀j o,Did listed j→ops[j]? = some o→o.dst≠some t)→c.tmps.getD t undef=a.tmps.getD t undef
theorem zrI{K:World→Prop}{ks:List Nat}(hKB:∀w w',K w→Below w.heap.size w w'→K w')(hp:zbA ops p){bars ord:List Nat}(hord:zc2 p.bs bars ord=true)(hall:∀i,i<ops.size→i∈ord)(hlt:∀i∈ord,i<ops.size)(hpl:∀o∈ops.toList,zbG o=true){a:CAct}{ro:Option Nat}{Q:Exit→CAct→World→Prop}
  (hdst:∀o∈ops.toList,∀d,o.dst=some d→d<a.tmps.size) :
  ∀(fuel:Nat) (done rest:List Nat) (val:Nat→Value) (g:CAct) (listed:Array Bool) (c:CAct) (w:World),EInv K ks P ro ops p bars (fun a' w'=>Q .normal a' w') a ord done rest val g listed c w→cntF (fun i=>listed.getD i false) ops.size≤fuel→wpAnyIn (Fz ro) 0 P .any ops Q fuel listed c w:=by
 have hnosel:∀o∈ops.toList,∀cs b,o.op ≠ .select cs b:=by
  intro o ho cs b e;have:=hpl o ho;simp only [zbG,Bool.and_eq_true]at this;rw [e]at this
  cases this.2
 have fin:∀{done rest val g listed c w},EInv K ks P ro ops p bars (fun a' w'=>Q .normal a' w') a ord done rest val g listed c w→Region.ready .any ops listed = []→Q .normal c w:=by
  intro done rest val g listed c w hI hr;have hdid:=zeS hp hI.lsize hr;have hrest:rest = []:=by
   cases hre:rest with
   | nil=>rfl
   | cons e r=>
    exfalso;have hC:=hI.core;rw [hre]at hC;have heo:e∈ord:=by rw [←hC.ord];simp
    have hs:=hC.ord ▸ hord;have:=(zaD hs).2 e (hI.sub e (hdid e (hlt e heo)));exact this.2.1 rfl
  subst hrest;have hQ:=hI.core.cont;have hcg:c=g:=by
   refine zkp (by rw [hI.csize,hI.core.size]) (fun t ht => ?_) (by rw [hI.cdefers,hI.core.defers]);by_cases hw:∃(j:Nat) (o:Oper),ops[j]? = some o∧o.dst=some t
   ·obtain⟨j,o,ho,hod⟩:=hw;have hj:=hdid j (Array.getElem?_eq_some_iff.1 ho).1;rw [hI.cW j o t hj ho hod,hI.core.gW j (hI.sub j hj) o t ho hod]
   ·rw [hI.c0 t (fun j o _ ho hod=>hw ⟨j,o,ho,hod⟩),hI.core.g0 t (fun j _ o ho hod=>hw ⟨j,o,ho,hod⟩)]
  rw [hcg];exact hQ
 intro fuel;induction fuel with
 | zero=>
  intro done rest val g listed c w hI hcnt;have hz:cntF (fun i=>listed.getD i false) ops.size=0:=by omega
  have hal:=zd9 hz;have hr:Region.ready .any ops listed = []:=by
   cases hq:Region.ready .any ops listed with
   | nil=>rfl
   | cons i r=>
    have:=zbK hI.lsize (i:=i) (by rw [hq];simp);exact absurd (hal i this.1) this.2.1
  exact⟨hr,fin hI hr⟩
 | succ fuel ih=>
  intro done rest val g listed c w hI hcnt;refine⟨fin hI,?_⟩;intro i hi;obtain⟨hin,hnd,o,ho,hedges⟩:=zbK hI.lsize hi;have hready:=zgm hp hI.closed ho hedges;have hol:ops.toList[i]? = some o:=by simpa using ho
  have hom:o∈ops.toList:=List.mem_of_getElem? hol;have hilt:i<listed.size:=by rw [hI.lsize];exact hin
  have hcnt':cntF (fun j=>(listed.setIfInBounds i true).getD j false) ops.size≤fuel:=by
   have:=zfq (f:=fun j=>listed.getD j false) (g:=fun j=>(listed.setIfInBounds i true).getD j false) (i:=i) hnd (zay hilt) (by
    intro j hj;simp [Array.getD_eq_getD_getElem?,Ne.symm hj]) hin
   omega
  have hplo:=hpl o hom;simp only [zbG,Bool.and_eq_true,Option.isNone_iff_eq_none]at hplo;obtain⟨hguard,hop⟩:=hplo;have hnodef:∀q,o.op ≠ .defer q:=by intro q e;rw [e]at hop;cases hop
  have hwant:Region.wanted o (yielded ops c.tmps)=true:=by unfold Region.wanted;rw [hguard]
  have hclosed':∀x j,Did (listed.setIfInBounds i true) x→(bsAt p.bs x).testBit j=true→Did (listed.setIfInBounds i true) j:=by
   intro x j hx hj;rcases zaR hx with rfl|hx
   ·exact zai (hready j hj)
   ·exact zai (hI.closed x j hx hj)
  have hcA:zct ops p val a i o c:=by
   intro t ht;refine⟨fun j q hj hq hd=>hI.cW j q t (hready j hj) hq hd,fun hno => ?_⟩;refine hI.c0 t fun j q hj hq hd => ?_
   rcases hp.reads i j o q t ho hq hd ht with rfl|hb|hb
   ·exact hnd hj
   ·exact hno j q hb hq hd
   ·exact hnd (hI.closed j i hj hb)
  have hput:∀(val':Nat→Value) (v:Value),(∀j,Did listed j→val' j=val j)→val' i=v →
    (c.put o.dst v).defers=a.defers∧(c.put o.dst v).tmps.size=a.tmps.size ∧
    (∀j q d,Did (listed.setIfInBounds i true) j→ops[j]? = some q→q.dst=some d→(c.put o.dst v).tmps.getD d undef=val' j) ∧
    (∀t,(∀j q,Did (listed.setIfInBounds i true) j→ops[j]? = some q→q.dst≠some t)→(c.put o.dst v).tmps.getD t undef=a.tmps.getD t undef):=by
   intro val' v hold hnew;refine⟨by rw [zbx];exact hI.cdefers,by rw [zcn];exact hI.csize,?_,?_⟩
   ·intro j q d hj hq hd;by_cases hji:j=i
    ·subst hji;rw [ho]at hq;cases hq;rw [hd,zco (by rw [hI.csize];exact hdst o hom d hd),hnew]
    ·rcases zaR hj with e|hj
     ·exact absurd e hji
     ·rw [zaC (fun e=>hji (hp.dsts j i q o d hq ho hd e)),hold j hj];exact hI.cW j q d hj hq hd
   ·intro t ht;rw [zaC (ht i o (zay hilt) ho)];exact hI.c0 t (fun j q hj hq=>ht j q (zai hj) hq)
  by_cases hid:i∈done
  ·
   obtain⟨hnb,hq⟩:=hI.core.quiet i hid hnd o ho;have hrun:=hq c hcA w (.inl (Below.refl _ _));obtain⟨e1,e2,e3,e4⟩:=hput val (val i) (fun _ _=>rfl) rfl;have hnext:EInv K ks P ro ops p bars (fun a' w'=>Q .normal a' w') a ord done rest val g (listed.setIfInBounds i true) (c.put o.dst (val i)) w:=
    ⟨⟨hI.core.ord,hI.core.size,hI.core.defers,hI.core.gW,hI.core.g0,fun j hj hnj=>hI.core.quiet j hj (fun h=>hnj (zai h)),hI.core.cont⟩,hI.kw,hI.head,by simp [hI.lsize],hclosed',
     fun j hj=>(zaR hj).elim (fun e=>e ▸ hid) (fun hj=>hI.sub j hj),e1,e2,e3,e4⟩
   have hrest:=ih _ _ _ _ _ _ _ hnext hcnt';simp only [wpOpIn,ho];rw [if_pos hwant];refine⟨fun f _=>zey ro f,?_⟩;rw [Oper.semAt_eq _ _ _ hnodef,hrun];exact hrest
  ·
   have hio:i∈ord:=hall i hin;rw [←hI.core.ord]at hio;have hir:i∈rest:=by
    rcases List.mem_append.1 hio with h|h
    ·exact absurd h hid
    ·exact h
   obtain⟨e,r,hre⟩:∃e r,rest=e :: r:=by
    cases hrest:rest with
    | nil=>rw [hrest]at hir;cases hir
    | cons e r=>exact⟨e,r,rfl⟩
   have heb:=hI.head e r hre;subst hre;have hs:=hI.core.ord ▸ hord;obtain⟨h1,h2⟩:=zaD hs;have hie:i=e:=by
    rcases List.mem_cons.1 hir with h|h
    ·exact h
    ·exfalso;have hm:=(h1 i h).2.2 heb;exact(h2 e (hI.sub e (hready e hm))).2.1 rfl
   subst hie;obtain⟨o',ho',hh⟩:=hI.core.cont;rw [ho]at ho';have ho':=Option.some.inj ho';subst ho';have hgA:=zjx hp hord hall hI.core ho;have hexec:=execOp_congr o (hnosel o hom) (hcA.eval hgA);have hcontb:bars.contains i=true:=by simpa using heb
   have after:∀(v:Value) (w':World),((zeX p.bs ks ops.size i=true∧K w')∨Below w.heap.size w w')→OWK K ks P ro ops p.bs bars (fun a' w'=>Q .normal a' w') r (g.put o.dst v) w'→wpAnyIn (Fz ro) 0 P .any ops Q fuel (listed.setIfInBounds i true) (c.put o.dst v) w':=by
    intro v w' hB hcont;have hC':Core K ks P ro ops p bars (fun a' w'=>Q .normal a' w') a ord (done ++ [i]) r (upd val i v) (g.put o.dst v) (listed.setIfInBounds i true) w':=by
     refine znk hp hord hdst hI.core ho v hcont (fun j hj hnj q hq => ?_) (fun h=>absurd (zay hilt) h);obtain⟨h3,h4⟩:=hI.core.quiet j hj (fun h=>hnj (zai h)) q hq;rcases hB with⟨hr,hKw⟩|hB
     ·
      have hjl:j<ops.size:=(Array.getElem?_eq_some_iff.1 hq).1;unfold zeX at hr;rw [List.all_eq_true]at hr;have:=hr j (List.mem_range.2 hjl);rw [Bool.or_eq_true,Bool.or_eq_true,Bool.or_eq_true]at this;rcases this with h|(h|h)|h
      ·exact absurd (Nat.eq_of_beq_eq_true h) (fun e=>hid (e ▸ hj))
      ·exact absurd (zai (hready j h)) hnj
      ·rw [(h2 j hj).1]at h;cases h
      ·exact⟨h3,fun c' hA w2 hb2=>h4 c' hA w2 (.inr ⟨h,hb2.elim (fun q=>hKB _ _ hKw q) (fun q=>q.2)⟩)⟩
     ·exact⟨h3,fun c' hA w2 hb2=>h4 c' hA w2 (hb2.imp (fun q=>hB.trans (q.mono hB.size)) id)⟩
    obtain⟨done',rest',val',g',k1,k2,k3,k4⟩:=ze3 hp hord hall hnosel hdst r _ _ _ hC';obtain⟨e1,e2,e3,e4⟩:=hput val' v (fun j hj=>by
      rw [(k3 j (by simp [hI.sub j hj])).2,zbM _ _ _ (fun e:j=i=>hnd (e ▸ hj))]) (by rw [(k3 i (by simp)).2,zcb])
    refine ih done' rest' val' g' _ _ _ ⟨k1,hB.elim (fun q=>q.2) (fun q=>hKB _ _ hI.kw q),k2,by simp [hI.lsize],hclosed',fun j hj => ?_,e1,e2,e3,e4⟩ hcnt';rcases zaR hj with rfl|hj
    ·exact(k3 j (by simp)).1
    ·exact(k3 j (by simp [hI.sub j hj])).1
   simp only [wpOpIn,ho];rw [if_pos hwant];refine⟨fun f _=>zey ro f,?_⟩;rw [Oper.semAt_eq _ _ _ hnodef,hexec];rcases hh with⟨_,hh⟩|⟨hb,_⟩
   ·rcases hh with⟨f,args,hrun,hcalls⟩|⟨w',v,hrun,hB,hcont⟩
    ·rw [hrun];refine⟨fun h=>absurd (zft ro h) (by omega),?_⟩;refine CallsIn.mono hcalls ?_;rintro e w' ⟨v,rfl,hB,hcont⟩;exact after v w' hB hcont
    ·rcases hrun with hrun|⟨hrun,rfl⟩
     ·rw [hrun];exact after v w' hB hcont
     ·rw [hrun];exact after undef w' hB hcont
   ·rw [hcontb]at hb;cases hb
def zgj(l:List Oper)(bars ord:List Nat)(nt:Nat):Bool:=
 match zeT l.toArray with
 | none=>false
 | some p=>zc2 p.bs bars ord && (List.range l.length).all (fun i=>ord.contains i) && ord.all (fun i=>Nat.blt i l.length) && l.all zbG && l.all (fun o=>match o.dst with|some d=>Nat.blt d nt|none=>true)
theorem zeE{K:World→Prop}(ks:List Nat)(hKB:∀w w',K w→Below w.heap.size w w'→K w'){id:Nat}{l:List Oper}(bars ord:List Nat)(bs:List Nat){a:CAct}{w:World}{ro:Option Nat}{Q:Exit→CAct→World→Prop}(hm:P.follows .mixedOrders=true)
  (nt:Nat) (hnt:a.tmps.size=nt) (hc:zgj l bars ord nt=true) (hbs:zeV l []=bs) (hK:K w.drew) (h:OWK K ks P ro l.toArray bs bars (fun a' w'=>Q .normal a' w') ord a w.drew):(Code.region id l.toArray true).wpIn (Fz ro) 0 P Q a w:=by
 subst hnt;unfold zgj at hc;split at hc
 ·cases hc
 ·rename_i p hplan;have hp:=zhN hplan;have hpbs:p.bs=bs:=by
   have h2:=hplan;unfold zeT at h2;simp only [Bool.cond_eq_ite]at h2;split at h2
   ·injection h2 with h2;rw [←h2];exact hbs
   ·cases h2
  subst hpbs;simp only [Bool.and_eq_true,List.all_eq_true]at hc;obtain⟨⟨⟨⟨h1,h2⟩,h3⟩,h4⟩,h5⟩:=hc;have hall:∀i,i<l.toArray.size→i∈ord:=fun i hi=>by simpa using h2 i (List.mem_range.2 (by simpa using hi))
  have hlt:∀i∈ord,i<l.toArray.size:=fun i hi=>by simpa using (zbu _ _).1 (h3 i hi)
  have hpl:∀o∈l.toArray.toList,zbG o=true:=by simpa using h4
  have hdst:∀o∈l.toArray.toList,∀d,o.dst=some d→d<a.tmps.size:=fun o ho d hd=>by
   have:=h5 o (by simpa using ho);rw [hd]at this;exact(zbu _ _).1 this
  have hno:∀i,¬Did (Array.replicate l.toArray.size false) i:=by
   intro i hi;unfold Did at hi;rw [Array.getD_eq_getD_getElem?,Array.getElem?_replicate]at hi;split at hi <;> simp at hi
  have hnosel:∀o∈l.toArray.toList,∀cs b,o.op ≠ .select cs b:=by
   intro o ho cs b e;have:=hpl o ho;simp only [zbG,Bool.and_eq_true]at this;rw [e]at this
   cases this.2
  have hC:Core K ks P ro l.toArray p bars (fun a' w'=>Q .normal a' w') a ord [] ord (fun _=>undef) a (Array.replicate l.toArray.size false) w.drew:=
   ⟨rfl,rfl,rfl,fun j hj=>(by cases hj),fun _ _=>rfl,fun j hj=>(by cases hj),h⟩
  obtain⟨done',rest',val',g',k1,k2,k3,k4⟩:=ze3 hp h1 hall hnosel hdst ord [] _ _ hC;refine wpIn_region_any hm (zrI hKB hp h1 hall hlt hpl hdst _ done' rest' val' g' _ _ _ ⟨k1,hK,k2,by simp,fun i j hi=>absurd hi (hno i),fun j hj=>absurd hj (hno j),rfl,rfl,fun j o d hj=>absurd hj (hno j),fun _ _=>rfl⟩ ?_);have:∀(f:Nat→Bool) n,cntF f n≤n:=by
   intro f n;induction n with
   | zero=>exact Nat.le_refl _
   | succ n ih=>simp only [cntF];split <;> omega
  exact this _ _
theorem zan{id:Nat}{l:List Oper}(bars ord:List Nat)(bs:List Nat){a:CAct}{w:World}{ro:Option Nat}{Q:Exit→CAct→World→Prop}(hm:P.follows .mixedOrders=true)
  (nt:Nat) (hnt:a.tmps.size=nt) (hc:zgj l bars ord nt=true) (hbs:zeV l []=bs) (h:OW P ro l.toArray bs bars (fun a' w'=>Q .normal a' w') ord a w.drew):(Code.region id l.toArray true).wpIn (Fz ro) 0 P Q a w:=
 zeE (K:=fun _=>True) [] (fun _ _ _ _=>trivial) bars ord bs hm nt hnt hc hbs trivial h
end
section
variable {P:Program} {ops:Array Oper} {bs bars r:List Nat} {i:Nat} {a:CAct} {w:World} {Q:CAct→World→Prop} {o:Oper}
theorem OW.read(ho:ops[i]? = some o)(hb:bars.contains i=false)(v:Value)(hd:∀w',Below w.heap.size w w'→(execOp a.eval o).run P w' = .ok (.value v) w')(h:OW P none ops bs bars Q r (a.put o.dst v) w):OW P none ops bs bars Q (i :: r) a w:=
 ⟨o,ho,.inr ⟨hb,v,fun w' q=>q.elim (hd w') (fun q=>by cases q.1),h⟩⟩
theorem OW.move{x:Operand}{d:Option Tmp}{ty:TypeId}{ps:String}{af:Array Edge}(ho:ops[i]? = some {op:=.move x,dst:=d,type:=ty,pos:=ps,after:=af,guard:=none})(hb:bars.contains i=false)(v:Value)(hx:a.eval x=v)(h:OW P none ops bs bars Q r (a.put d v) w):OW P none ops bs bars Q (i :: r) a w:=
 OW.read ho hb v (fun w' _=>by subst hx;rfl) h
theorem OW.assign{x:Operand}{d:Option Tmp}{ty:TypeId}{ps:String}{af:Array Edge}(ho:ops[i]? = some {op:=.assign x,dst:=d,type:=ty,pos:=ps,after:=af,guard:=none})(hb:bars.contains i=false)(v:Value)(hx:a.eval x=v)(h:OW P none ops bs bars Q r (a.put d v) w):OW P none ops bs bars Q (i :: r) a w:=
 OW.read ho hb v (fun w' _=>by subst hx;rfl) h
def zfY(P:Program)(s:TypeId)(f off:Nat):Prop:=∀g w,(Instr.fieldAt s (.pointer (some ⟨g,0,none⟩)) f).run P w = .ok (.pointer (some ⟨g,off,none⟩)) w
theorem znW{P:Program}{s:TypeId}{f off:Nat}{fs:Array Field}{fd:Field}(h1:P.underlying s=some (.struct fs))(h2:fs[f]? = some fd)(h3:fd.offset=off)(h4:((P.info? fd.type).map fun i=>decide (i.size=0))=some false):zfY P s f off:=by
 intro g w;obtain⟨inf,h5⟩:∃inf,P.info? fd.type=some inf:=by
  cases e:P.info? fd.type with
  | none=>rw [e]at h4;cases h4
  | some inf=>exact⟨inf,rfl⟩
 rw [h5]at h4;simp at h4
 subst h3;simp [Instr.fieldAt,run_underlying h1,h2,Instr.sureAddr,fieldPlace,sizeOf,typeInfo,h5,h4,Addr.add_lit]
theorem OW.fieldAddr{s:TypeId}{x:Operand}{f off g:Nat}{d:Option Tmp}{ty:TypeId}{ps:String}{af:Array Edge}(ho:ops[i]? = some {op:=.fieldAddr s x f,dst:=d,type:=ty,pos:=ps,after:=af,guard:=none})(hb:bars.contains i=false)
  (hF:zfY P s f off) (hx:a.eval x = .pointer (some ⟨g,0,none⟩)) (h:OW P none ops bs bars Q r (a.put d (.pointer (some ⟨g,off,none⟩))) w):OW P none ops bs bars Q (i :: r) a w:=
 OW.read ho hb _ (fun w' _=>by simp [execOp,hx,hF g w']) h
def zfX(P:Program)(t:TypeId):Prop:=∀p v w,World.cell? w p=some v→(Instr.loadAt t (.pointer (some p))).run P w = .ok v w
theorem zfg{P:Program}{t:TypeId}(h:(match P.underlying t with|some (.struct _)|some (.array _ _)=>false|some _=>true|none=>false)=true):zfX P t:=by
 intro p v w hc
 cases hu:P.underlying t with
 | none=>rw [hu]at h;cases h
 | some d=>
  rw [hu]at h
  cases d <;> first|(cases h;done)|(simp [Instr.loadAt,Instr.sureAddr,loadVar,isAgg,run_underlying hu,hc])
theorem OW.load{t:TypeId}{x:Operand}{p:Addr}{v:Value}{d:Option Tmp}{ty:TypeId}{ps:String}{af:Array Edge}(ho:ops[i]? = some {op:=.load t x,dst:=d,type:=ty,pos:=ps,after:=af,guard:=none})(hb:bars.contains i=false)
  (hL:zfX P t) (hc:w.cell? p=some v) (hx:a.eval x = .pointer (some p)) (h:OW P none ops bs bars Q r (a.put d v) w):OW P none ops bs bars Q (i :: r) a w:=
 OW.read ho hb _ (fun w' hb'=>by
  have hp:p.block<w.heap.size:=World.block_lt_of_cell? _ _ hc;simp [execOp,hx,hL p v w' ((hb'.cell hp).trans hc)]) h
def zfa(P:Program)(t:TypeId)(n:Nat):Prop:=∀g (cs:List Value) w,cs.length=n→(∀j v,cs[j]? = some v→World.cell? w ⟨g,j,none⟩=some v)→(Instr.loadAt t (.pointer (some ⟨g,0,none⟩))).run P w = .ok (.agg cs.toArray) w
theorem zgI{P:Program}{t:TypeId}{n:Nat}(h:(match P.underlying t with|some (.struct _)=>true|_=>false)=true)(hi:(P.info? t).map (·.size)=some n):zfa P t n:=by
 intro g cs w hn hc
 cases hu:P.underlying t with
 | none=>rw [hu]at h;cases h
 | some d=>
  rw [hu]at h
  cases d with
  | struct fs=>
   have hl:=run_loadVar_mid (P:=P) w g 0 t cs (.struct fs) (fun j v hj=>by rw [Nat.zero_add];exact hc j v hj) hu rfl (by rw [hn];exact hi);simp [Instr.loadAt,Instr.sureAddr,hl]
  | _=>cases h
theorem OW.loadAll{t:TypeId}{x:Operand}{g n:Nat}{cs:List Value}{d:Option Tmp}{ty:TypeId}{ps:String}{af:Array Edge}(ho:ops[i]? = some {op:=.load t x,dst:=d,type:=ty,pos:=ps,after:=af,guard:=none})(hb:bars.contains i=false)
  (hL:zfa P t n) (hn:cs.length=n) (h0:0<n) (hc:∀j v,cs[j]? = some v→w.cell? ⟨g,j,none⟩=some v) (hx:a.eval x = .pointer (some ⟨g,0,none⟩)) (h:OW P none ops bs bars Q r (a.put d (.agg cs.toArray)) w):OW P none ops bs bars Q (i :: r) a w:=
 OW.read ho hb _ (fun w' hb'=>by
  have hp:g<w.heap.size:=by
   obtain⟨v,hv⟩:∃v,cs[0]? = some v:=⟨_,List.getElem?_eq_getElem (by omega)⟩;exact World.block_lt_of_cell? _ _ (hc 0 v hv)
  simp [execOp,hx,hL g cs w' hn (fun j v hj=>(hb'.cell (p:=⟨g,j,none⟩) hp).trans (hc j v hj))]) h
theorem znX{t:TypeId}{p q:Bool}{w:World}(ht:P.underlying t=some .bool):(Op.equal t (.bool p) (.bool q)).run P w = .ok (p == q) w:=by
 show(Op.equalIn (9999+1) t _ _).run P w=_
 rw [Op.equalIn];simp [run_underlying ht]
theorem OW.neqBool{t x2:TypeId}{x y:Operand}{p q:Bool}{d:Option Tmp}{ty:TypeId}{ps:String}{af:Array Edge}(ho:ops[i]? = some {op:=.binOp .neq t x y x2,dst:=d,type:=ty,pos:=ps,after:=af,guard:=none})(hb:bars.contains i=false)
  (ht:P.underlying t=some .bool) (hx:a.eval x = .bool p) (hy:a.eval y = .bool q) (h:OW P none ops bs bars Q r (a.put d (.bool (p != q))) w):OW P none ops bs bars Q (i :: r) a w:=
 OW.read ho hb _ (fun w' _=>by
  have:(execOp a.eval {op:=.binOp .neq t x y x2,dst:=d,type:=ty,pos:=ps,after:=af,guard:=none}).run P w' = .ok (.value (.bool (p != q))) w':=by
   unfold execOp;simp only [hx,hy];simp [eqGuard,binOp,znX ht]
   cases p <;> cases q <;> rfl
  exact this) h
theorem OW.call{f:FuncId}{fn:Func}{xs:Array Operand}{ts:Array TypeId}{args:List Value}{d:Option Tmp}{ty:TypeId}{ps:String}{af:Array Edge}(ho:ops[i]? = some {op:=.call {callee:=.value (.func f),args:=xs,argTypes:=ts},dst:=d,type:=ty,pos:=ps,after:=af,guard:=none})(hb:bars.contains i=true)
  (hfn:P.funcs[f]? = some fn) (hbody:fn.body.isSome=true) (hN:zbi P) (ha:xs.toList.map a.eval=args)
  (h:CallsIn Fence.wide 0 P f args.toArray w fun e w'=>∃v,e = .returned v∧Below w.heap.size w w'∧OW P none ops bs bars Q r (a.put d v) w'):OW P none ops bs bars Q (i :: r) a w:=by
 refine⟨_,ho,.inl ⟨hb,.inl ⟨f,args.toArray,?_,h.mono (fun e w' ⟨v,q,hB,k⟩=>⟨v,q,.inr hB,k⟩)⟩⟩⟩;have ha':xs.map a.eval=args.toArray:=by subst ha;apply Array.ext';rw [Array.toList_map]
 rw [←ha'];have hbn:fn.body≠none:=by intro q;rw [q]at hbody;simp at hbody
 have hev:a.eval (.func f) = .func (.func f) #[] #[]:=rfl;unfold execOp;simp only [resolve,hev,Deferred.ofValue,Sem.run_bind,Sem.run_pure,Result.andThen_ok,invoke,callFunc,run_program,hfn,hN f fn hfn hbody,Bool.false_eq_true,if_false];have:fn.body.isNone=false:=by cases hq:fn.body <;> simp_all
 rw [this];simp
theorem OW.store{t:TypeId}{x y:Operand}{w':World}{d:Option Tmp}{ty:TypeId}{ps:String}{af:Array Edge}(ho:ops[i]? = some {op:=.store t x y,dst:=d,type:=ty,pos:=ps,after:=af,guard:=none})(hb:bars.contains i=true)(hl:zl6 bs ops.size i=true)
  (hrun:(execOp a.eval {op:=.store t x y,dst:=d,type:=ty,pos:=ps,after:=af,guard:=none}).run P w = .ok .skip w') (h:OW P none ops bs bars Q r (a.put d undef) w'):OW P none ops bs bars Q (i :: r) a w:=
 ⟨_,ho,.inl ⟨hb,.inr ⟨w',undef,.inr ⟨hrun,rfl⟩,.inl ⟨zqa hl,trivial⟩,h⟩⟩⟩
theorem OW.done{a:CAct}{w:World}(h:Q a w):OW P none ops bs bars Q [] a w:=h
end
end Go.Eng
