/-
  A natural number of the reference: its limbs in memory. What 'AddN' and 'SubN' of the reference answer. What 'gcd', 'bottom' and 'lowest' an
  Conditions: see each statement.
-/
import Derived.Test.YtepakfjilnpodaaGreatDoorRDAH
import Derived.Test.YtepakfjilnpodaaGreatDoorRDAF
import Derived.Test.YtepakfjilnpodaaGreatDoorRDAG
namespace Go.Num
open Go.RowKit Go.Proofs Go.Proofs.YtepakfjilnpodaaGreatDoor
theorem MagAt.unique{w:World}{v:Value}{m n:Nat}(h:MagAt w v m)(h':MagAt w v n):m=n:=by
 obtain⟨k,hk,hl⟩:=h
 obtain⟨k',hk',hl'⟩:=h'
 obtain⟨o,c,rfl,h1⟩:=hl.form
 obtain⟨o',c',e,h2⟩:=hl'.form
 injection e with e1 e2 e3
 subst e1;subst e2
 refine limb_ext hk.1 hk'.1 fun i hi => ?_
 obtain⟨a,rfl,ha,hc⟩:=h1 (by omega)
 obtain⟨a',e,ha',hc'⟩:=h2 (by omega)
 injection e with e
 subst e
 have:=(hc i hi).symm.trans (hc' i hi)
 injection this with this
 injection this with _ this
 omega
open Classical in
noncomputable def magNum(w:World)(v:Value):Nat:=if h:∃n,MagAt w v n then Classical.choose h else 0
theorem MagAt.num{w:World}{v:Value}{n:Nat}(h:MagAt w v n):magNum w v=n:=by
 unfold magNum
 rw [dif_pos ⟨n,h⟩]
 exact(Classical.choose_spec (⟨n,h⟩:∃n,MagAt w v n)).unique h
theorem mag_len{w:World}{v:Value}{n:Nat}(h:MagAt w v n):∃o k c,v = .slice o k c∧(k=0↔n=0)∧k≤1000000000:=by
 obtain⟨k,hk,hl⟩:=h
 obtain⟨o,c,rfl,h1⟩:=hl.form
 refine⟨o,k,c,rfl,⟨fun e => ?_,fun e => ?_⟩,hl.small⟩
 ·subst e;exact hk.zero
 ·subst e;exact hk.unique lenIs_zero
set_option maxRecDepth 100000 in
set_option maxHeartbeats 8000000 in
theorem gcd_calls(w:World)(va vb:Value)(x y L:Nat)(ha:MagAt w va x)(hb:MagAt w vb y)(hx:x<B^L)(hy:y<B^L)(hL:L≤10000000) :
  CallsIn Fence.wide 0 Tryz.prog 167 #[va,vb] w fun e w'=>∃v',e = .returned v'∧MagAt w' v' (Nat.gcd x y)∧Below w.heap.size w w':=by
 have HA:=Hid.intro ha
 have HB:=Hid.intro hb
 have HX:=Hid.intro hx
 have HY:=Hid.intro hy
 clear ha hb hx hy
 refine callsIn_of_wp Tryz.func167 rfl trivial ?_ rfl
 simp only [Tryz.ntmps167,List.size_toArray,List.length_cons,List.length_nil,Nat.reduceAdd,Nat.reduceSub,Array.replicate_succ,Array.replicate_zero,List.push_toArray,List.append_toArray,List.nil_append,List.cons_append]
 gi_wp2
 gi_loopw [0,1] (fun va vb wr=>∃a b:Nat,Hid (MagAt wr va a)∧Hid (MagAt wr vb b)∧Hid (a<B^L)∧Hid (b<B^L)∧Hid (Nat.gcd a b=Nat.gcd x y)∧Hid (Below w.heap.size w wr)) (fun _ vb wr=>magNum wr vb)
 case atStart=>exact⟨x,y,HA.out,HB.out,HX.out,HY.out,Hid.intro rfl,Below.refl _ _⟩
 case round=>
  obtain⟨a,b,HMA,HMB,HLA,HLB,HG,HBr⟩:=hrel
  clear HA HB
  obtain⟨o,k,c,rfl,hk,hk9⟩:=mag_len HMB.out
  by_cases hb0:b=0
  ·have hk0:k=0:=hk.2 hb0
   subst hk0
   subst hb0
   clear hk
   gi_wp2
   all_goals (first|go_returns|go_ret|go_end0)
   refine⟨_,rfl,?_,HBr.out⟩
   rw [←HG.out,Nat.gcd_zero_right]
   exact HMA.out
  ·have hk0:0<k:=by
    rcases Nat.eq_zero_or_pos k with h|h
    ·exact absurd (hk.1 h) hb0
    ·exact h
   have HD:=Hid.intro (div_calls wr _ _ a b L HMA.out HMB.out (by omega) HLA.out HLB.out hL)
   have HN:=Hid.intro HMB.out.num
   clear hk
   gi_wp2_with (gi_at_call 181;refine HD.out.mono ?_;rintro e w6 ⟨vq,vr,rfl,_,hm6,hB6⟩;have HM6:=Hid.intro hm6;have HB6:=Hid.intro (HBr.out.trans (hB6.mono HBr.out.size));have HMB6:=Hid.intro (HMB.out.below hB6);clear hm6 hB6)
   refine⟨⟨b,a%b,HMB6.out,HM6.out,HLB.out,?_,?_,HB6.out⟩,?_⟩
   ·exact Hid.intro (Nat.lt_of_lt_of_le (Nat.mod_lt a (by omega)) (Nat.le_of_lt HLB.out))
   ·exact Hid.intro (gcd_step.symm.trans HG.out)
   ·rw [HM6.out.num,HN.out]
    exact Nat.mod_lt a (by omega)
def LimbsI(w:World)(v:Value)(n k:Nat):Prop:=
 (k=0∧∃o c,v = .slice o 0 c)∨∃(a:Addr) (cap:Nat),v = .slice (some a) k cap∧0<k∧k≤cap∧(k≤1000000000∧cap≤9223372036854775807)∧Elem w a.block 3∧∀i,i<k→w.cell? (a.add i)=some (.int .i64 ((limb n i:Nat):Int))
def NatI(w:World)(v:Value)(n:Nat):Prop:=∃k,LenIs n k∧LimbsI w v n k
theorem LimbsI.below{w w':World}{v:Value}{n k:Nat}(h:LimbsI w v n k)(hb:Below w.heap.size w w'):LimbsI w' v n k:=by
 rcases h with h|⟨a,cap,h1,h2,h3,h4,h5,h6⟩
 ·exact .inl h
 ·exact .inr ⟨a,cap,h1,h2,h3,h4,h5.below hb h5.lt,fun i hi=>(hb.cell (p:=a.add i) (by rw [add_block];exact h5.lt)).trans (h6 i hi)⟩
theorem LimbsI.form{w:World}{v:Value}{n k:Nat}(h:LimbsI w v n k):∃o c,v = .slice o k c∧(0<k→∃a:Addr,o=some a∧a.block<w.heap.size∧∀i,i<k→w.cell? (a.add i)=some (.int .i64 ((limb n i:Nat):Int))):=by
 rcases h with⟨rfl,o,c,rfl⟩|⟨a,cap,rfl,h2,h3,h4,h5,h6⟩
 ·exact⟨o,c,rfl,fun h=>by omega⟩
 ·exact⟨some a,cap,rfl,fun _=>⟨a,rfl,h5.lt,h6⟩⟩
theorem LimbsI.elem{w:World}{a:Addr}{n k c:Nat}(h:LimbsI w (.slice (some a) k c) n k)(hk:0<k):Elem w a.block 3:=by
 rcases h with⟨rfl,_⟩|⟨a',cap,e,h2,h3,h4,h5,h6⟩
 ·omega
 ·injection e with e _ _
  injection e with e
  subst e
  exact h5
theorem LimbsI.small{w:World}{v:Value}{n k:Nat}(h:LimbsI w v n k):k≤1000000000:=by
 rcases h with⟨rfl,_⟩|⟨a,cap,rfl,h2,h3,h4,h5,h6⟩ <;> omega
def firstI(n k:Nat):List Value:=(List.range k).map fun i => .int .i64 ((limb n i:Nat):Int)
theorem firstI_succ(n k:Nat):firstI n (k+1)=firstI n k ++ [.int .i64 ((limb n k:Nat):Int)]:=by simp [firstI,List.range_succ]
theorem limbI_new(w:World)(i:Int)(t:TypeId):∀k u,[Value.int .i64 i][k]? = some u→(w.alloc (.cells #[.int .i64 i] t)).cell? ((⟨w.heap.size,0,none⟩:Addr).add k)=some u:=by
 intro k u h
 rw [Addr.add_lit,Nat.zero_add,World.cell?_alloc_new]
 match k,h with
 | 0,h=>exact h
theorem rowI_limbs{w:World}{base n k:Nat}{v:Value}(h:w.ownsRow base 3 1 v k (firstI n k))(hk:k≤500000000):LimbsI w v n k:=by
 rcases h.2 with⟨rfl,rfl⟩|⟨g,cap,cur,rfl,h1,h2,h3,h4,h5,h6⟩
 ·exact .inl ⟨rfl,none,0,rfl⟩
 ·rcases Nat.eq_zero_or_pos k with h0|h0
  ·subst h0;exact .inl ⟨rfl,_,_,rfl⟩
  ·refine .inr ⟨⟨g,0,none⟩,cap,rfl,h0,h3,⟨by omega,by unfold maxLen at h4;omega⟩,⟨cur,(0,0),h2⟩,fun i hi => ?_⟩
   have:=h.cells rfl i (.int .i64 ((limb n i:Nat):Int)) (by simp [firstI,hi])
   rw [Addr.add_lit]at this ⊢
   exact this
theorem t3_info:Tryz.prog.info? 3=some Tryz.t3:=by kernel_rfl
theorem u30:Tryz.prog.underlying 58=some (.slice 3):=by kernel_rfl
theorem t3_zero:Tryz.t3.zero=some (.int .i64 0):=by kernel_rfl
theorem t3_size:Tryz.t3.size=1:=by kernel_rfl
theorem t3_bytes:Tryz.t3.bytes=8:=by kernel_rfl
theorem made_limbsI{n i:Nat}(hi:i<n):(madeCells #[Value.int .i64 0] n).toList[i]? = some (.int .i64 0):=by
 simp [madeCells,hi,Nat.mod_one]
theorem ArrAt.limbsI{w:World}{g n k cap:Nat}(h:ArrAt w g k fun i => .int .i64 ((limb n i:Nat):Int))(hk:0<k)(hc:k≤cap)(h9:k≤1000000000∧cap≤9223372036854775807)(hE:Elem w g 3):LimbsI w (.slice (some ⟨g,0,none⟩) k cap) n k:=
 .inr ⟨⟨g,0,none⟩,cap,rfl,hk,hc,h9,hE,fun i hi=>by rw [Addr.add_lit,Nat.zero_add];exact(h i hi).1⟩
theorem appendI_limb{F:Fence}{n:Nat}(w wr:World){ops:Array Oper}{rest:List Oper}{o:Oper}{a:Act}{Q:Exit→Act→World→Prop}
  (hg:o.guard=none) (s x:Operand) (hop:o.op=Op.call {callee:=Callee.builtin Builtin.append,args:=#[s,x],argTypes:=#[58,58]})
  (v:Value) (j N:Nat) (hs:a.eval s=v) (HO:Hid (wr.ownsRow w.heap.size 3 1 v j (firstI N j))) (z:Int) (t:TypeId) (hx:a.eval x = .slice (some ⟨wr.heap.size,0,none⟩) 1 1) (hz:z=((limb N j:Nat):Int)) (hj:j<500000000)
  (HB:Hid (Below w.heap.size w wr))
  (hK:∀v' w',Hid (w'.ownsRow w.heap.size 3 1 v' (j+1) (firstI N (j+1)))→Hid (Below w.heap.size w w')→wpListIn F n Tryz.prog ops Q rest (a.put o.dst v') w') :
  wpListIn F n Tryz.prog ops Q (o :: rest) a (wr.alloc (.cells #[.int .i64 z] t)):=by
 have hsz:=HB.out.size
 refine wpListIn_append_own _ hg s x 58 hop w.heap.size 3 Tryz.t3 _ 1 8 Go.Num.u30 t3_info t3_zero t3_size t3_bytes rfl (by decide) v j (firstI N j) hs (World.ownsRow.alloc HO.out _) ⟨wr.heap.size,0,none⟩ 1 1 [.int .i64 z] hx rfl (limbI_new _ _ _) (fun u hu=>by simp at hu;subst hu;rfl) (by unfold maxLen;omega) (by omega) (by simp;omega) ?_
 intro v' w' h1 h2 _
 refine hK v' w' ?_ ?_
 ·rw [firstI_succ,←hz];exact h1
 ·refine(HB.out.alloc hsz _).grown h2 (by simp;omega) fun k hk => ?_
  exact own_base HO.out hk
theorem NatI.below{w w':World}{v:Value}{n:Nat}(h:NatI w v n)(hb:Below w.heap.size w w'):NatI w' v n:=by
 obtain⟨k,hk,hl⟩:=h
 exact⟨k,hk,hl.below hb⟩
theorem NatI.limbs{w:World}{v:Value}{n k:Nat}(h:NatI w v n)(hk:LenIs n k):LimbsI w v n k:=by
 obtain⟨k',hk',hl⟩:=h
 rw [hk.unique hk']
 exact hl
theorem natI_nil(w:World)(o:Option Addr)(c:Nat):NatI w (.slice o 0 c) 0:=⟨0,lenIs_zero,.inl ⟨rfl,o,c,rfl⟩⟩
theorem NatI.setCell{w:World}{v:Value}{x g i:Nat}(h:NatI w v x)(hne:v.ownBlock≠some g)(u:Value):NatI (w.setCell ⟨g,i,none⟩ u) v x:=by
 obtain⟨k,hk,hl⟩:=h
 refine⟨k,hk,?_⟩
 rcases hl with h|⟨a,cap,rfl,h2,h3,h4,h5,h6⟩
 ·exact .inl h
 ·refine .inr ⟨a,cap,rfl,h2,h3,h4,h5.setCell _ _,fun j hj => ?_⟩
  have hb:(a.add j).block≠g:=by rw [add_block];exact fun e=>hne (by simp [Value.ownBlock,e])
  rw [World.cell?_setCell_other _ _ _ _ (by intro q;exact hb (by rw [←q]))]
  exact h6 j hj
theorem NatI.lt{w:World}{v:Value}{x:Nat}(h:NatI w v x)(h0:0<x):∀g,w.heap.size≤g→v.ownBlock≠some g:=by
 intro g hg
 obtain⟨k,hk,hl⟩:=h
 rcases hl with⟨rfl,_⟩|⟨a,cap,rfl,h2,h3,h4,h5,h6⟩
 ·have:=hk.zero;omega
 ·intro e
  have:a.block=g:=by simpa [Value.ownBlock]using e
  have:=h5.lt
  omega
theorem NatI.unique{w:World}{v:Value}{m n:Nat}(h:NatI w v m)(h':NatI w v n):m=n:=by
 obtain⟨k,hk,hl⟩:=h
 obtain⟨k',hk',hl'⟩:=h'
 obtain⟨o,c,rfl,h1⟩:=hl.form
 obtain⟨o',c',e,h2⟩:=hl'.form
 injection e with e1 e2 e3
 subst e1;subst e2
 refine limb_ext hk.1 hk'.1 fun i hi => ?_
 obtain⟨a,rfl,ha,hc⟩:=h1 (by omega)
 obtain⟨a',e,ha',hc'⟩:=h2 (by omega)
 injection e with e
 subst e
 have:=(hc i hi).symm.trans (hc' i hi)
 injection this with this
 injection this with _ this
 omega
open Classical in
noncomputable def natNum(w:World)(v:Value):Nat:=if h:∃n,NatI w v n then Classical.choose h else 0
theorem NatI.num{w:World}{v:Value}{n:Nat}(h:NatI w v n):natNum w v=n:=by
 unfold natNum
 rw [dif_pos ⟨n,h⟩]
 exact(Classical.choose_spec (⟨n,h⟩:∃n,NatI w v n)).unique h
theorem natI_len{w:World}{v:Value}{n:Nat}(h:NatI w v n):∃o k c,v = .slice o k c∧(k=0↔n=0)∧k≤1000000000:=by
 obtain⟨k,hk,hl⟩:=h
 obtain⟨o,c,rfl,h1⟩:=hl.form
 refine⟨o,k,c,rfl,⟨fun e => ?_,fun e => ?_⟩,hl.small⟩
 ·subst e;exact hk.zero
 ·subst e;exact hk.unique lenIs_zero
def lenOfV:Value→Nat
 | .slice _ k _=>k
 | _=>0
set_option maxRecDepth 100000 in
set_option maxHeartbeats 4000000 in
theorem rtrim_calls(w:World)(v:Value)(n k:Nat)(h:LimbsI w v n k)(hn:n<B^k) :
  CallsIn Fence.wide 0 Tryz.prog 198 #[v] w fun e w'=>∃v',e = .returned v'∧(NatI w' v' n∧v'.ownBlock=v.ownBlock)∧Below w.heap.size w w':=by
 have hks:=h.small
 have HLA:=Hid.intro h
 obtain⟨o,c,rfl,h1⟩:=h.form
 have H1:=Hid.intro h1
 have HN:=Hid.intro hn
 have hkc:k≤c∧c≤9223372036854775807∨k=0:=by
  rcases h with⟨h0,_⟩|⟨a,cap,hv,h2,h3,h4,h5,h6⟩
  ·exact .inr h0
  ·injection hv with _ _ hc
   left;omega
 clear h h1 hn
 refine callsIn_of_wp Tryz.func198 rfl trivial ?_ rfl
 simp only [Tryz.ntmps198,List.size_toArray,List.length_cons,List.length_nil,Nat.reduceAdd,Nat.reduceSub,Array.replicate_succ,Array.replicate_zero,List.push_toArray,List.append_toArray,List.nil_append,List.cons_append]
 gi_wp2
 gi_loopw [0] (fun i wr=>∃j:Nat,j≤k∧i = .slice o j c∧Hid (n<B^j)∧Hid (Below w.heap.size w wr)) (fun i _=>lenOfV i)
 case atStart=>exact⟨k,Nat.le_refl _,rfl,HN.out,Below.refl _ _⟩
 case round=>
  obtain⟨j,hj,rfl,HJ,HB⟩:=hrel
  by_cases h0:0<j
  ·obtain⟨m,rfl⟩:∃m,j=m+1:=⟨j-1,by omega⟩
   obtain⟨a,rfl,ha,hc⟩:=H1.out (by omega)
   have p:=(HB.out.cell (p:=a.add m) (by rw [add_block];exact ha)).trans (hc m (by omega))
   obtain⟨l,hl⟩:∃l,limb n m=l:=⟨_,rfl⟩
   rw [hl]at p
   have HLm:=Hid.intro hl
   clear hc hl
   by_cases hz:l=0
   ·subst hz
    gi_wp2
    exact⟨⟨m,by omega,rfl,lt_of_zero HJ.out HLm.out,HB.out⟩,by simp [lenOfV]⟩
   ·have hz':¬(l:Int)=0:=by omega
    have hz2:((l:Int) == 0)=false:=by simp;omega
    gi_wp2
    all_goals (first|go_returns|go_ret|go_end0)
    obtain⟨a',e',ha',hc⟩:=H1.out (by omega)
    injection e' with e'
    subst e'
    exact⟨_,rfl,⟨⟨m+1,lenIs_of HJ.out (by rw [HLm.out];exact hz),.inr ⟨a,c,rfl,by omega,by omega,by omega,(HLA.out.elem (by omega)).below HB.out ha,fun i hi=>(HB.out.cell (p:=a.add i) (by rw [add_block];exact ha)).trans (hc i (by omega))⟩⟩,rfl⟩,HB.out⟩
  ·have hj0:j=0:=by omega
   subst hj0
   gi_wp2
   all_goals (first|go_returns|go_ret|go_end0)
   exact⟨_,rfl,⟨⟨0,⟨HJ.out,.inl rfl⟩,.inl ⟨rfl,o,c,rfl⟩⟩,by cases o <;> rfl⟩,HB.out⟩
def cmpI(x y:Nat):Int:=if x<y then -1 else if x=y then 0 else 1
theorem cmpI_lt{x y:Nat}(h:x<y):cmpI x y = -1:=if_pos h
theorem cmpI_eq{x:Nat}:cmpI x x=0:=by unfold cmpI;simp
theorem cmpI_gt{x y:Nat}(h:y<x):cmpI x y=1:=by unfold cmpI;rw [if_neg (by omega),if_neg (by omega)]
theorem div_lt_of{x y m:Nat}(h:x/m<y/m):x<y:=by
 apply Classical.byContradiction
 intro hno
 have:=Nat.div_le_div_right (c:=m) (show y≤x by omega)
 omega
set_option maxRecDepth 100000 in
set_option maxHeartbeats 8000000 in
theorem cmpN_calls(w:World)(va vb:Value)(x y:Nat)(ha:NatI w va x)(hb:NatI w vb y) :
  CallsIn Fence.wide 0 Tryz.prog 200 #[va,vb] w fun e w'=>e = .returned (.int .i64 (cmpI x y))∧Below w.heap.size w w':=by
 obtain⟨k,hk,hla⟩:=ha
 obtain⟨l,hl,hlb⟩:=hb
 have hks:=hla.small
 have hls:=hlb.small
 obtain⟨o1,c1,rfl,h1⟩:=hla.form
 obtain⟨o2,c2,rfl,h2⟩:=hlb.form
 have H1:=Hid.intro h1
 have H2:=Hid.intro h2
 have HK:=Hid.intro hk
 have HL:=Hid.intro hl
 clear h1 h2 hk hl hla hlb
 refine callsIn_of_wp Tryz.func200 rfl trivial ?_ rfl
 simp only [Tryz.ntmps200,List.size_toArray,List.length_cons,List.length_nil,Nat.reduceAdd,Nat.reduceSub,Array.replicate_succ,Array.replicate_zero,List.push_toArray,List.append_toArray,List.nil_append,List.cons_append]
 by_cases hkl:k=l
 ·subst hkl
  gi_wp2
  gi_loopw [5] (fun i wr=>∃i0:Int,-1≤i0∧i0<k∧i = .int .i64 i0∧Hid (x/B^(i0+1).toNat=y/B^(i0+1).toNat)∧Hid (Below w.heap.size w wr)) (fun i _=>(intOf i+1).toNat)
  case atStart=>exact⟨(k:Int)-1,by omega,by omega,rfl,Hid.intro (by
   rw [show((k:Int)-1+1).toNat=k by omega,Nat.div_eq_of_lt HK.out.1,Nat.div_eq_of_lt HL.out.1]),Below.refl _ _⟩
  case round=>
   obtain⟨i0,hi1,hi2,rfl,HE,HB⟩:=hrel
   by_cases h0:0≤i0
   ·obtain⟨m,rfl⟩:∃m:Nat,i0=(m:Int):=⟨i0.toNat,by omega⟩
    obtain⟨a1,rfl,ha1,hc1⟩:=H1.out (by omega)
    obtain⟨a2,rfl,ha2,hc2⟩:=H2.out (by omega)
    have p1:=(HB.out.cell (p:=a1.add m) (by rw [add_block];exact ha1)).trans (hc1 m (by omega))
    have p2:=(HB.out.cell (p:=a2.add m) (by rw [add_block];exact ha2)).trans (hc2 m (by omega))
    rw [show((m:Int)+1).toNat=m+1 by omega]at HE
    have dx:=div_step x m
    have dy:=div_step y m
    obtain⟨lx,hlx⟩:∃l,limb x m=l:=⟨_,rfl⟩
    obtain⟨ly,hly⟩:∃l,limb y m=l:=⟨_,rfl⟩
    rw [hlx]at p1 dx
    rw [hly]at p2 dy
    rw [HE.out]at dx
    have HX:=Hid.intro dx
    have HY:=Hid.intro dy
    clear hc1 hc2 hlx hly dx dy
    by_cases hlt:lx<ly
    ·have HXY:Hid (cmpI x y = -1):=Hid.intro (cmpI_lt (div_lt_of (m:=B^m) (by rw [HX.out,HY.out];omega)))
     have hl1:decide ((lx:Int)<(ly:Int))=true:=decide_eq_true (by omega)
     gi_wp2
     gi_quiet (fail)
     gi_wp2
     all_goals (first|go_returns|go_ret|go_end0)
     exact⟨by rw [HXY.out] <;> rfl,HB.out.trans (Below.mono (by first|exact drewN_below _ _|exact drew2_below _ _ _) HB.out.size)⟩
    ·have hl1:decide ((lx:Int)<(ly:Int))=false:=decide_eq_false (by omega)
     by_cases hgt:ly<lx
     ·have HXY:Hid (cmpI x y=1):=Hid.intro (cmpI_gt (div_lt_of (m:=B^m) (by rw [HX.out,HY.out];omega)))
      have hl2:decide ((ly:Int)<(lx:Int))=true:=decide_eq_true (by omega)
      gi_wp2
      gi_quiet (fail)
      gi_wp2
      gi_quiet (fail)
      gi_wp2
      all_goals (first|go_returns|go_ret|go_end0)
      exact⟨by rw [HXY.out] <;> rfl,HB.out.trans (Below.mono (by first|exact drewN_below _ _|exact drew2_below _ _ _) HB.out.size)⟩
     ·have hee:lx=ly:=by omega
      subst hee
      have hl2:decide ((lx:Int)<(lx:Int))=false:=decide_eq_false (by omega)
      gi_wp2
      gi_quiet (fail)
      gi_wp2
      gi_quiet (fail)
      gi_wp2
      refine⟨⟨(m:Int)-1,by omega,by omega,by go_num,Hid.intro ?_,HB.out.trans (Below.mono (by first|exact drewN_below _ _|exact drew2_below _ _ _) HB.out.size)⟩,by simp [intOf]⟩
      rw [show((m:Int)-1+1).toNat=m by omega,HX.out,HY.out]
   ·have hm1:i0 = -1:=by omega
    subst hm1
    have hxy:x=y:=by
     have:=HE.out
     simpa using this
    subst hxy
    gi_wp2
    all_goals (first|go_returns|go_ret|go_end0)
    exact⟨by rw [cmpI_eq] <;> rfl,HB.out⟩
 ·have hkl':¬(k:Int)=(l:Int):=by omega
  by_cases hlt:k<l
  ·have HXY:Hid (cmpI x y = -1):=Hid.intro (cmpI_lt (cmp_len HK.out HL.out hlt))
   have hl1:(k:Int)<(l:Int):=by omega
   gi_wp2
   all_goals (first|go_returns|go_ret|go_end0)
   exact⟨by rw [HXY.out] <;> rfl,Below.refl _ _⟩
  ·have HXY:Hid (cmpI x y=1):=Hid.intro (cmpI_gt (cmp_len HL.out HK.out (by omega)))
   have hl1:¬(k:Int)<(l:Int):=by omega
   gi_wp2
   all_goals (first|go_returns|go_ret|go_end0)
   exact⟨by rw [HXY.out] <;> rfl,Below.refl _ _⟩
set_option maxRecDepth 100000 in
set_option maxHeartbeats 8000000 in
theorem addN_calls(w:World)(va vb:Value)(x y L:Nat)(ha:NatI w va x)(hb:NatI w vb y)(hx:x<B^L)(hy:y<B^L)(hL:L≤100000000) :
  CallsIn Fence.wide 0 Tryz.prog 199 #[va,vb] w fun e w'=>∃v',e = .returned v'∧(NatI w' v' (x+y)∧Fresh w.heap.size v')∧Below w.heap.size w w':=by
 obtain⟨k,hk,hla⟩:=ha
 obtain⟨l,hl,hlb⟩:=hb
 have hkL:=hk.le hx
 have hlL:=hl.le hy
 clear hx hy
 obtain⟨o1,c1,rfl,h1⟩:=hla.form
 obtain⟨o2,c2,rfl,h2⟩:=hlb.form
 have H1:=Hid.intro h1
 have H2:=Hid.intro h2
 have HK:=Hid.intro hk
 have HL:=Hid.intro hl
 clear h1 h2 hk hl hla hlb
 refine callsIn_of_wp Tryz.func199 rfl trivial ?_ rfl
 simp only [Tryz.ntmps199,List.size_toArray,List.length_cons,List.length_nil,Nat.reduceAdd,Nat.reduceSub,Array.replicate_succ,Array.replicate_zero,List.push_toArray,List.append_toArray,List.nil_append,List.cons_append]
 obtain⟨M,hM⟩:∃M,max k l=M:=⟨_,rfl⟩
 have hMk:k≤M:=by omega
 have hMl:l≤M:=by omega
 have hM9:M≤100000000:=by omega
 have HS:Hid (x<B^M∧y<B^M):=⟨Nat.lt_of_lt_of_le HK.out.1 (pow_mono hMk),Nat.lt_of_lt_of_le HL.out.1 (pow_mono hMl)⟩
 by_cases hkl:k<l
 case' pos=>have hML:M=l:=by omega
 case' neg=>have hML:M=k:=by omega
 all_goals
  have HML:=Hid.intro hML
  clear hM hML
  have HO4:Hid (w.ownsRow w.heap.size 3 1 (.slice none 0 0) 0 (firstI (x+y) 0)):=World.ownsRow_nil _ _ _ _
  have HB4:Hid (Below w.heap.size w w):=Below.refl _ w
  gi_wp2
  gi_loopw [5,6,7] (fun v cv i wr=>∃j c:Nat,j≤M+1∧i = .int .i64 (j:Int)∧cv = .int .i64 (c:Int)∧Hid (carryA x y j=c)∧Hid (j=M+1→B^M≤x+y)∧Hid (wr.ownsRow w.heap.size 3 1 v j (firstI (x+y) j))∧Hid (Below w.heap.size w wr)) (fun _ _ i _=>M+2-(intOf i).toNat)
  case atStart=>exact⟨0,0,by omega,rfl,rfl,Hid.intro (carryA_zero x y),Hid.intro (fun h=>by omega),HO4.out,HB4.out⟩
  case round=>
   obtain⟨j,c,hj,rfl,rfl,HC,HT,HO,HBr⟩:=hrel
   have hc1:c≤1:=by rw [←HC.out];exact carryA_le x y j
   have hjc:c=1→j≤M:=fun hc=>by
    apply Classical.byContradiction
    intro hno
    have:j=M+1:=by omega
    subst this
    have s:=(add_step x y M).2
    rw [limb_high HS.out.1,limb_high HS.out.2,HC.out,hc]at s
    have:=carryA_le x y M
    have hBB:B=1000000000:=rfl
    rw [Nat.div_eq_of_lt (by omega)]at s
    omega
   have s:=add_step x y j
   rw [HC.out]at s
   obtain⟨lx,hlx⟩:∃l,limb x j=l:=⟨_,rfl⟩
   obtain⟨ly,hly⟩:∃l,limb y j=l:=⟨_,rfl⟩
   have bx:lx<1000000000:=by rw [←hlx];exact limb_lt x j
   have by':ly<1000000000:=by rw [←hly];exact limb_lt y j
   rw [hlx,hly]at s
   have HSt:=Hid.intro s
   clear s HO4 HB4
   have hMM:=HML.out
   have hBB:B=1000000000:=rfl
   by_cases hjk:j<k
   ·by_cases hjl:j<l
    ·have hj1:j≤M:=by omega
     obtain⟨a1,rfl,ha1,hc1'⟩:=H1.out (by omega)
     have p1:=(HBr.out.cell (p:=a1.add j) (by rw [add_block];exact ha1)).trans (hc1' j hjk)
     rw [hlx]at p1
     clear hc1'
     obtain⟨a2,rfl,ha2,hc2'⟩:=H2.out (by omega)
     have p2:=(HBr.out.cell (p:=a2.add j) (by rw [add_block];exact ha2)).trans (hc2' j hjl)
     rw [hly]at p2
     clear hc2'
     have hjkd:decide ((j:Int)<(k:Int))=true:=decide_eq_true (by omega)
     have hjld:decide ((j:Int)<(l:Int))=true:=decide_eq_true (by omega)
     clear hlx hly
     gi_wp2_with (gi_at_builtin;refine stop ?_)
     unfold Stop
     refine appendI_limb w wr rfl _ _ rfl u5 j (x+y) rfl HO _ _ rfl ?_ (by omega) HBr ?_
     ·rw [HSt.out.1];simp [B];omega
     ·intro v2 w2 HO2 HB2
      gi_wp2
      refine⟨⟨j+1,(lx+ly+c)/B,by omega,by go_num,?_,HSt.out.2.symm ▸ rfl,Hid.intro (fun h=>by omega),HO2,HB2⟩,by simp [intOf];omega⟩
      simp [B];omega
    ·try omega
     all_goals
      have hj1:j≤M:=by omega
      obtain⟨a1,rfl,ha1,hc1'⟩:=H1.out (by omega)
      have p1:=(HBr.out.cell (p:=a1.add j) (by rw [add_block];exact ha1)).trans (hc1' j hjk)
      rw [hlx]at p1
      clear hc1'
      have hy0:ly=0:=by rw [←hly];exact limb_high (Nat.lt_of_lt_of_le HL.out.1 (pow_mono (by omega)))
      subst hy0
      have hjl':¬(j:Int)<(l:Int):=by omega
      have hjld:decide ((j:Int)<(l:Int))=false:=decide_eq_false (by omega)
      have hjkd:decide ((j:Int)<(k:Int))=true:=decide_eq_true (by omega)
      clear hlx hly
      gi_wp2_with (gi_at_builtin;refine stop ?_)
      unfold Stop
      refine appendI_limb w wr rfl _ _ rfl u5 j (x+y) rfl HO _ _ rfl ?_ (by omega) HBr ?_
      ·rw [HSt.out.1];simp [B];omega
      ·intro v2 w2 HO2 HB2
       gi_wp2
       refine⟨⟨j+1,(lx+0+c)/B,by omega,by go_num,?_,HSt.out.2.symm ▸ rfl,Hid.intro (fun h=>by omega),HO2,HB2⟩,by simp [intOf];omega⟩
       simp [B];omega
   ·by_cases hjl:j<l
    ·try omega
     all_goals
      have hj1:j≤M:=by omega
      have hx0:lx=0:=by rw [←hlx];exact limb_high (Nat.lt_of_lt_of_le HK.out.1 (pow_mono (by omega)))
      subst hx0
      have hjk':¬(j:Int)<(k:Int):=by omega
      have hjkd:decide ((j:Int)<(k:Int))=false:=decide_eq_false (by omega)
      obtain⟨a2,rfl,ha2,hc2'⟩:=H2.out (by omega)
      have p2:=(HBr.out.cell (p:=a2.add j) (by rw [add_block];exact ha2)).trans (hc2' j hjl)
      rw [hly]at p2
      clear hc2'
      have hjld:decide ((j:Int)<(l:Int))=true:=decide_eq_true (by omega)
      clear hlx hly
      gi_wp2_with (gi_at_builtin;refine stop ?_)
      unfold Stop
      refine appendI_limb w wr rfl _ _ rfl u5 j (x+y) rfl HO _ _ rfl ?_ (by omega) HBr ?_
      ·rw [HSt.out.1];simp [B];omega
      ·intro v2 w2 HO2 HB2
       gi_wp2
       refine⟨⟨j+1,(0+ly+c)/B,by omega,by go_num,?_,HSt.out.2.symm ▸ rfl,Hid.intro (fun h=>by omega),HO2,HB2⟩,by simp [intOf];omega⟩
       simp [B];omega
    ·by_cases hc0:c=1
     ·subst hc0
      have hj1:=hjc rfl
      have HCar:Hid (B^j≤x+y):=Hid.intro (by
       have s0:=sum_low x y j
       rw [HC.out,Nat.mul_one]at s0
       have h1:=Nat.mod_le x (B^j)
       have h2:=Nat.mod_le y (B^j)
       generalize (x+y)%B^j=q at s0
       generalize x%B^j=q1 at s0 h1
       generalize y%B^j=q2 at s0 h2
       omega)
      have hx0:lx=0:=by rw [←hlx];exact limb_high (Nat.lt_of_lt_of_le HK.out.1 (pow_mono (by omega)))
      subst hx0
      have hjk':¬(j:Int)<(k:Int):=by omega
      have hjkd:decide ((j:Int)<(k:Int))=false:=decide_eq_false (by omega)
      have hy0:ly=0:=by rw [←hly];exact limb_high (Nat.lt_of_lt_of_le HL.out.1 (pow_mono (by omega)))
      subst hy0
      have hjl':¬(j:Int)<(l:Int):=by omega
      have hjld:decide ((j:Int)<(l:Int))=false:=decide_eq_false (by omega)
      clear hlx hly
      gi_wp2_with (gi_at_builtin;refine stop ?_)
      unfold Stop
      refine appendI_limb w wr rfl _ _ rfl u5 j (x+y) rfl HO _ _ rfl ?_ (by omega) HBr ?_
      ·rw [HSt.out.1];(first|(simp [B];done)|(simp [B];omega))
      ·intro v2 w2 HO2 HB2
       gi_wp2
       refine⟨⟨j+1,(0+0+1)/B,by omega,by go_num,?_,HSt.out.2.symm ▸ rfl,Hid.intro (fun h=>(show j=M by omega) ▸ HCar.out),HO2,HB2⟩,by simp [intOf];omega⟩
       (first|(simp [B];done)|(simp [B];omega))
     ·have hc00:c=0:=by omega
      subst hc00
      have hjk':¬(j:Int)<(k:Int):=by omega
      have hjkd:decide ((j:Int)<(k:Int))=false:=decide_eq_false (by omega)
      have hjl':¬(j:Int)<(l:Int):=by omega
      have hjld:decide ((j:Int)<(l:Int))=false:=decide_eq_false (by omega)
      have hlt:x+y<B^j:=by
       have s0:=sum_low x y j
       rw [low_high (Nat.lt_of_lt_of_le HK.out.1 (pow_mono (by omega))),low_high (Nat.lt_of_lt_of_le HL.out.1 (pow_mono (by omega))),HC.out,Nat.mul_zero,Nat.add_zero]at s0
       rw [s0];exact low_lt _ _
      have HLen:Hid (LenIs (x+y) j):=Hid.intro ⟨hlt,by
       rcases Nat.eq_zero_or_pos j with h0|h0
       ·exact .inl h0
       ·right
        by_cases hjM:j=M+1
        ·rw [hjM];exact HT.out hjM
        ·have hkj:j=M:=by omega
         have h3:=HK.out.2
         have h4:=HL.out.2
         have h5:j=k∨j=l:=by omega
         rcases h5 with h5|h5
         ·rw [h5]at h0 ⊢;omega
         ·rw [h5]at h0 ⊢;omega⟩
      clear hlx hly hlt
      gi_wp2
      all_goals (first|go_returns|go_ret|go_end0)
      exact⟨_,rfl,⟨⟨j,HLen.out,rowI_limbs HO.out (by omega)⟩,fun k hk=>own_base HO.out hk⟩,HBr.out⟩
set_option maxRecDepth 100000 in
set_option maxHeartbeats 8000000 in
theorem subN_calls(w:World)(va vb:Value)(x y L:Nat)(ha:NatI w va x)(hb:NatI w vb y)(hyx:y≤x)(hx:x<B^L)(hL:L≤100000000) :
  CallsIn Fence.wide 0 Tryz.prog 201 #[va,vb] w fun e w'=>∃v',e = .returned v'∧(NatI w' v' (x-y)∧Fresh w.heap.size v')∧Below w.heap.size w w':=by
 obtain⟨k,hk,hla⟩:=ha
 obtain⟨l,hl,hlb⟩:=hb
 have hkL:=hk.le hx
 have hls:=hlb.small
 clear hx
 obtain⟨o1,c1,rfl,h1⟩:=hla.form
 obtain⟨o2,c2,rfl,h2⟩:=hlb.form
 have H1:=Hid.intro h1
 have H2:=Hid.intro h2
 have HK:=Hid.intro hk
 have HL:=Hid.intro hl
 have HYX:=Hid.intro hyx
 clear h1 h2 hk hl hla hlb hyx
 refine callsIn_of_wp Tryz.func201 rfl trivial ?_ rfl
 simp only [Tryz.ntmps201,List.size_toArray,List.length_cons,List.length_nil,Nat.reduceAdd,Nat.reduceSub,Array.replicate_succ,Array.replicate_zero,List.push_toArray,List.append_toArray,List.nil_append,List.cons_append]
 have HO4:Hid (w.ownsRow w.heap.size 3 1 (.slice none 0 0) 0 (firstI (x-y) 0)):=World.ownsRow_nil _ _ _ _
 have HB4:Hid (Below w.heap.size w w):=Below.refl _ w
 gi_wp2
 gi_loopw [5,6,7] (fun v bv i wr=>∃j bo:Nat,j≤k∧i = .int .i64 (j:Int)∧bv = .int .i64 (bo:Int)∧Hid (borrowS x y j=bo)∧Hid (wr.ownsRow w.heap.size 3 1 v j (firstI (x-y) j))∧Hid (Below w.heap.size w wr)) (fun _ _ i _=>k-(intOf i).toNat)
 case atStart=>exact⟨0,0,by omega,rfl,rfl,Hid.intro (borrowS_zero x y),HO4.out,HB4.out⟩
 case round=>
  obtain⟨j,bo,hj,rfl,rfl,HC,HO,HBr⟩:=hrel
  have hb1:bo≤1:=by rw [←HC.out];exact borrowS_le x y j
  have s:=sub_case HYX.out j
  rw [HC.out]at s
  obtain⟨lx,hlx⟩:∃l,limb x j=l:=⟨_,rfl⟩
  obtain⟨ly,hly⟩:∃l,limb y j=l:=⟨_,rfl⟩
  have bx:lx<1000000000:=by rw [←hlx];exact limb_lt x j
  have by':ly<1000000000:=by rw [←hly];exact limb_lt y j
  rw [hlx,hly]at s
  have hBB:B=1000000000:=rfl
  rw [hBB]at s
  have HSt:=Hid.intro s
  clear s HO4 HB4 hBB
  by_cases hjk:j<k
  ·obtain⟨a1,rfl,ha1,hc1'⟩:=H1.out (by omega)
   have p1:=(HBr.out.cell (p:=a1.add j) (by rw [add_block];exact ha1)).trans (hc1' j hjk)
   rw [hlx]at p1
   clear hc1'
   by_cases hjl:j<l
   ·obtain⟨a2,rfl,ha2,hc2'⟩:=H2.out (by omega)
    have p2:=(HBr.out.cell (p:=a2.add j) (by rw [add_block];exact ha2)).trans (hc2' j hjl)
    rw [hly]at p2
    clear hc2' hlx hly
    by_cases hlt:lx<ly+bo
    ·have hs:=HSt.out.1 hlt
     have HS:=Hid.intro hs
     have hlt':(lx:Int)<(bo:Int)+(ly:Int):=by omega
     clear hs hlt
     gi_wp2_with (gi_at_builtin;refine stop ?_)
     unfold Stop
     refine appendI_limb w wr rfl _ _ rfl u5 j (x-y) rfl HO _ _ rfl ?_ (by omega) HBr ?_
     ·rw [HS.out.2];omega
     ·intro v2 w2 HO2 HB2
      gi_wp2
      exact⟨⟨j+1,1,by omega,by go_num,rfl,HS.out.1,HO2,HB2⟩,by simp [intOf];omega⟩
    ·have hs:=HSt.out.2 hlt
     have HS:=Hid.intro hs
     have hlt':¬(lx:Int)<(bo:Int)+(ly:Int):=by omega
     clear hs
     gi_wp2_with (gi_at_builtin;refine stop ?_)
     unfold Stop
     refine appendI_limb w wr rfl _ _ rfl u5 j (x-y) rfl HO _ _ rfl ?_ (by omega) HBr ?_
     ·rw [HS.out.2];omega
     ·intro v2 w2 HO2 HB2
      gi_wp2
      exact⟨⟨j+1,0,by omega,by go_num,rfl,HS.out.1,HO2,HB2⟩,by simp [intOf];omega⟩
   ·have hy0:ly=0:=by rw [←hly];exact limb_high (Nat.lt_of_lt_of_le HL.out.1 (pow_mono (by omega)))
    subst hy0
    clear hlx hly
    by_cases hlt:lx<0+bo
    ·have hs:=HSt.out.1 hlt
     have HS:=Hid.intro hs
     have hlt':(lx:Int)<(bo:Int):=by omega
     clear hs hlt
     gi_wp2_with (gi_at_builtin;refine stop ?_)
     unfold Stop
     refine appendI_limb w wr rfl _ _ rfl u5 j (x-y) rfl HO _ _ rfl ?_ (by omega) HBr ?_
     ·rw [HS.out.2];omega
     ·intro v2 w2 HO2 HB2
      gi_wp2
      exact⟨⟨j+1,1,by omega,by go_num,rfl,HS.out.1,HO2,HB2⟩,by simp [intOf];omega⟩
    ·have hs:=HSt.out.2 hlt
     have HS:=Hid.intro hs
     have hlt':¬(lx:Int)<(bo:Int):=by omega
     clear hs
     gi_wp2_with (gi_at_builtin;refine stop ?_)
     unfold Stop
     refine appendI_limb w wr rfl _ _ rfl u5 j (x-y) rfl HO _ _ rfl ?_ (by omega) HBr ?_
     ·rw [HS.out.2];omega
     ·intro v2 w2 HO2 HB2
      gi_wp2
      exact⟨⟨j+1,0,by omega,by go_num,rfl,HS.out.1,HO2,HB2⟩,by simp [intOf];omega⟩
  ·have hjk0:j=k:=by omega
   subst hjk0
   have hlt:x-y<B^j:=Nat.lt_of_le_of_lt (Nat.sub_le _ _) HK.out.1
   have HT:=Hid.intro (rtrim_calls wr _ (x-y) j (rowI_limbs HO.out (by omega)) hlt)
   clear hlx hly hlt
   gi_wp2_with (gi_at_call 198;refine HT.out.mono ?_;rintro e w7 ⟨v',rfl,hm,hB7⟩;have HM:=Hid.intro hm;have HB7:=Hid.intro (HBr.out.trans (hB7.mono HBr.out.size));clear hm hB7)
   all_goals (first|go_returns|go_ret|go_end0)
   exact⟨v',rfl,⟨HM.out.1,fun k hk=>own_base HO.out (HM.out.2 ▸ hk)⟩,HB7.out⟩
theorem i64_small{x:Nat}(h:x<9223372036854775808):IntKind.i64.wrap (x:Int)=(x:Int):=by
 have e:IntKind.i64.wrap (x:Int)=if(decide ((x:Int)%18446744073709551616≥9223372036854775808))=true then(x:Int)%18446744073709551616-18446744073709551616 else(x:Int)%18446744073709551616:=rfl
 rw [e,if_neg (by simp;omega)]
 omega
set_option maxRecDepth 100000 in
set_option maxHeartbeats 4000000 in
theorem small_calls(w:World)(va:Value)(x b:Nat)(h:NatI w va x)(hb:0<b)(hB:b<B) :
  CallsIn Fence.wide 0 Tryz.prog 221 #[va,.int .i64 (b:Int)] w fun e w'=>∃v',e = .returned (.tuple #[v',.int .i64 ((x%b:Nat):Int)])∧(NatI w' v' (x/b)∧Fresh w.heap.size v')∧Below w.heap.size w w':=by
 obtain⟨k,hk,hl⟩:=h
 have hks:=hl.small
 obtain⟨o,c,rfl,h1⟩:=hl.form
 have H1:=Hid.intro h1
 have HK:=Hid.intro hk
 have HB:=Hid.intro hB
 have hBB:b<1000000000:=hB
 clear h1 hk hl hB
 refine callsIn_of_wp Tryz.func221 rfl trivial ?_ rfl
 simp only [Tryz.ntmps221,List.size_toArray,List.length_cons,List.length_nil,Nat.reduceAdd,Nat.reduceSub,Array.replicate_succ,Array.replicate_zero,List.push_toArray,List.append_toArray,List.nil_append,List.cons_append]
 gi_wp2_with (gi_at_make;refine stop ?_)
 unfold Stop
 refine wpListIn_make_full _ rfl _ _ _ rfl w.heap.size 3 Tryz.t3 _ 1 u30 t3_info t3_zero t3_size _ _ _ _ k rfl rfl rfl rfl (by rw [t3_bytes];omega) (by unfold maxLen;omega) (Nat.le_refl _) ?_
 intro W4 hown hgrow
 obtain⟨g,hg'⟩:∃g,w.heap.size=g:=⟨_,rfl⟩
 have HA4:Hid (ArrAt W4 g k fun i => .int .i64 ((topL (x/b) k i:Nat):Int)):=by
  rw [←hg']
  exact ArrAt.of_row hown fun i hi=>by unfold topL;rw [if_neg (by omega)];exact made_limbsI (by omega)
 have HB5:Hid (Below w.heap.size w W4):=(Below.refl _ w).grown hgrow (Nat.le_refl _) (fun _ h=>by cases h)
 have hg:w.heap.size≤g:=by omega
 have HE5:Hid (Elem W4 g 3):=by rw [←hg'];exact elem_of_row hown
 rw [hg']
 clear hown hgrow hg'
 gi_wp2
 gi_loopw [7,8] (fun r i wr=>∃(i0:Int) (r0:Nat),-1≤i0∧i0<k∧i = .int .i64 i0∧r = .int .i64 (r0:Int)∧r0<b∧Hid (x/B^(i0+1).toNat%b=r0)∧Hid (ArrAt wr g k fun j => .int .i64 ((topL (x/b) (i0+1).toNat j:Nat):Int))∧Hid (Below w.heap.size w wr)∧Hid (Elem wr g 3)) (fun _ i _=>(intOf i+1).toNat)
 case atStart=>exact⟨(k:Int)-1,0,by omega,by omega,rfl,rfl,hb,Hid.intro (by
  rw [show((k:Int)-1+1).toNat=k by omega,Nat.div_eq_of_lt HK.out.1,Nat.zero_mod]),by rw [show((k:Int)-1+1).toNat=k by omega];exact HA4.out,HB5.out,HE5.out⟩
 case round=>
  obtain⟨i0,r0,hi1,hi2,rfl,rfl,hr,HR,HA,HBr,HE⟩:=hrel
  clear HA4 HB5 HE5
  by_cases h0:0≤i0
  ·obtain⟨m,rfl⟩:∃m:Nat,i0=(m:Int):=⟨i0.toNat,by omega⟩
   obtain⟨a,rfl,ha,hc⟩:=H1.out (by omega)
   have p:=(HBr.out.cell (p:=a.add m) (by rw [add_block];exact ha)).trans (hc m (by omega))
   rw [show((m:Int)+1).toNat=m+1 by omega]at HR HA
   have s1:=short_limb hb (Nat.le_of_lt HB.out) x m
   have s2:=(rest_step x b m).1
   rw [HR.out]at s1 s2
   obtain⟨l,hl⟩:∃l,limb x m=l:=⟨_,rfl⟩
   have hlB:l<1000000000:=by rw [←hl];exact limb_lt x m
   rw [hl]at p s1 s2
   have hmk:m<k:=by omega
   have z1:wr.cell? ⟨g,m,none⟩=some (.int .i64 0):=(HA.out m hmk).1.trans (by show some (Value.int .i64 ((topL (x/b) (m+1) m:Nat):Int))=_;unfold topL;rw [if_neg (by omega)];rfl)
   have z2:=(HA.out m hmk).2
   obtain⟨t,ht⟩:∃t,r0*B+l=t:=⟨_,rfl⟩
   have htB:t<9223372036854775808:=by
    rw [←ht]
    have:r0*B≤1000000000*1000000000:=Nat.mul_le_mul (by omega) (Nat.le_refl _)
    omega
   have e1:IntKind.i64.wrap ((r0:Int)*1000000000)=((r0*1000000000:Nat):Int):=by
    have:r0*1000000000<9223372036854775808:=by omega
    have:=i64_small this
    rw [←this]
    simp
   have e2:IntKind.i64.wrap (((r0*1000000000:Nat):Int)+(l:Int))=(t:Int):=by
    have:=i64_small htB
    rw [←this,←ht]
    simp [B]
   rw [ht]at s1 s2
   have e3:((t:Int).tdiv (b:Int))=((t/b:Nat):Int):=rfl
   have e4:((t:Int).tmod (b:Int))=((t%b:Nat):Int):=rfl
   obtain⟨Q,hQ⟩:∃Q,t/b=Q:=⟨_,rfl⟩
   obtain⟨R,hRR⟩:∃R,t%b=R:=⟨_,rfl⟩
   rw [hQ]at s1 e3
   rw [hRR]at s2 e4
   have hRb:R<b:=by rw [←hRR];exact Nat.mod_lt _ hb
   have hQt:Q<9223372036854775808:=by rw [←hQ];exact Nat.lt_of_le_of_lt (Nat.div_le_self _ _) htB
   have e5:=i64_small hQt
   have e6:((r0:Int)*1000000000+(l:Int))/(b:Int)=(Q:Int):=by rw [←hQ,←ht];simp [B]
   have e7:((r0:Int)*1000000000+(l:Int))%(b:Int)=(R:Int):=by rw [←hRR,←ht];simp [B]
   have S1:=Hid.intro s1
   have S2:=Hid.intro s2
   have hb0:¬(b:Int)=0:=by omega
   clear hc hl s1 s2 ht hQ hRR
   gi_wp2
   refine⟨⟨(m:Int)-1,R,by omega,by omega,by go_num,congrArg (Value.int .i64) e7,hRb,?_,?_,HBr.out.setCell hg _,HE.out.setCell _ _⟩,by simp [intOf]⟩
   ·rw [show((m:Int)-1+1).toNat=m by omega]
    exact S2.out.symm
   ·rw [show((m:Int)-1+1).toNat=m by omega]
    refine Hid.intro (ArrAt.congr (HA.out.set hmk (.int .i64 (Q:Int))) fun j _ => ?_)
    unfold topL
    by_cases e:j=m
    ·subst e
     rw [if_pos rfl,if_pos (Nat.le_refl _),S1.out]
    ·rw [if_neg e]
     by_cases e2:m+1≤j
     ·rw [if_pos e2,if_pos (by omega)]
     ·rw [if_neg e2,if_neg (by omega)]
  ·have hm1:i0 = -1:=by omega
   subst hm1
   have hr0:x%b=r0:=by
    have:=HR.out
    simpa using this
   have HRE:=Hid.intro hr0
   have hlt:x/b<B^k:=Nat.lt_of_le_of_lt (Nat.div_le_self _ _) HK.out.1
   have hla:LimbsI wr (.slice (some ⟨g,0,none⟩) k k) (x/b) k:=by
    rcases Nat.eq_zero_or_pos k with h|h
    ·subst h;exact .inl ⟨rfl,_,_,rfl⟩
    ·refine ArrAt.limbsI (ArrAt.congr HA.out fun j _ => ?_) h (Nat.le_refl _) ⟨hks,by omega⟩ HE.out
     unfold topL
     rw [if_pos (by simp)]
   have HT:=Hid.intro (rtrim_calls wr _ (x/b) k hla hlt)
   clear hlt hla hr0
   gi_wp2_with (gi_at_call 198;refine HT.out.mono ?_;rintro e w7 ⟨v',rfl,hm,hB7⟩;have HM:=Hid.intro hm;have HB7:=Hid.intro (HBr.out.trans (hB7.mono HBr.out.size));clear hm hB7)
   all_goals (first|go_returns|go_ret|go_end0)
   refine⟨v',?_,⟨HM.out.1,fresh_of HM.out.2 hg⟩,HB7.out⟩
   rw [HRE.out]
   rfl
def carryT(x c j:Nat):Nat:=x%B^j*c/B^j
theorem carryT_zero(x c:Nat):carryT x c 0=0:=by unfold carryT;rw [low_zero];simp
theorem carryT_le(x c j:Nat):carryT x c j≤c:=by
 unfold carryT
 refine Nat.div_le_of_le_mul ?_
 exact Nat.mul_le_mul_right c (Nat.le_of_lt (low_lt x j))
theorem times_step(x c j:Nat):limb (x*c) j=(carryT x c j+limb x j*c)%B∧carryT x c (j+1)=(carryT x c j+limb x j*c)/B:=by
 have e1:x%B^(j+1)*c=x%B^j*c+B^j*(limb x j*c):=by rw [low_succ,Nat.add_mul,Nat.mul_assoc]
 have e2:x%B^(j+1)*c/B^j=carryT x c j+limb x j*c:=by rw [e1,Nat.add_mul_div_left _ _ (pow_pos' j)];rfl
 refine⟨?_,?_⟩
 ·have e3:x*c=x%B^(j+1)*c+B^j*(B*(x/B^(j+1)*c)):=by
   have h:=Nat.mod_add_div x (B^(j+1))
   calc x*c=(x%B^(j+1)+B^(j+1)*(x/B^(j+1)))*c:=by rw [h]
    _=_:=by rw [Nat.add_mul,Nat.pow_succ];simp only [Nat.mul_assoc]
  unfold limb
  rw [e3,Nat.add_mul_div_left _ _ (pow_pos' j),e2,Nat.add_mul_mod_self_left]
  rfl
 ·show x%B^(j+1)*c/B^(j+1)=_
  rw [←e2,Nat.div_div_eq_div_mul,←Nat.pow_succ]
theorem times_end{x c j:Nat}(hx:x<B^j)(h:carryT x c j=0):x*c<B^j:=by
 unfold carryT at h
 rw [low_high hx]at h
 exact Nat.lt_of_div_eq_zero (pow_pos' j) h
set_option maxRecDepth 100000 in
set_option maxHeartbeats 8000000 in
theorem timesN_calls(w:World)(va:Value)(x c:Nat)(L:Nat)(ha:NatI w va x)(hx:x<B^L)(hL:L≤100000000)(hc:c<B) :
  CallsIn Fence.wide 0 Tryz.prog 220 #[va,.int .i64 (c:Int)] w fun e w'=>∃v',e = .returned v'∧(NatI w' v' (x*c)∧Fresh w.heap.size v')∧Below w.heap.size w w':=by
 obtain⟨k,hk,hla⟩:=ha
 have hks:=hla.small
 obtain⟨o1,c1,rfl,h1⟩:=hla.form
 have hcB:c<1000000000:=hc
 have H1:=Hid.intro h1
 have HK:=Hid.intro hk
 have hk9:k≤100000000:=by have:=HK.out.le hx;omega
 clear hx
 clear h1 hk hla hc
 refine callsIn_of_wp Tryz.func220 rfl trivial ?_ rfl
 simp only [Tryz.ntmps220,List.size_toArray,List.length_cons,List.length_nil,Nat.reduceAdd,Nat.reduceSub,Array.replicate_succ,Array.replicate_zero,List.push_toArray,List.append_toArray,List.nil_append,List.cons_append]
 have HO4:Hid (w.ownsRow w.heap.size 3 1 (.slice none 0 0) 0 (firstI (x*c) 0)):=World.ownsRow_nil _ _ _ _
 have HB4:Hid (Below w.heap.size w w):=Below.refl _ w
 gi_wp2
 gi_loopw [5,6,7] (fun v cv i wr=>∃j ca:Nat,j≤k+1∧i = .int .i64 (j:Int)∧cv = .int .i64 (ca:Int)∧Hid (carryT x c j=ca)∧(j=k+1→ca=0)∧Hid (wr.ownsRow w.heap.size 3 1 v j (firstI (x*c) j))∧Hid (Below w.heap.size w wr)) (fun _ _ i _=>k+2-(intOf i).toNat)
 case atStart=>exact⟨0,0,by omega,rfl,rfl,Hid.intro (carryT_zero x c),fun h=>by omega,HO4.out,HB4.out⟩
 case round=>
  obtain⟨j,ca,hj,rfl,rfl,HC,hca0,HO,HBr⟩:=hrel
  have hcle:ca≤c:=by rw [←HC.out];exact carryT_le x c j
  clear HO4 HB4
  by_cases hjk:j<k
  ·obtain⟨a1,rfl,ha1,hc1'⟩:=H1.out (by omega)
   have p1:=(HBr.out.cell (p:=a1.add j) (by rw [add_block];exact ha1)).trans (hc1' j hjk)
   have s:=times_step x c j
   rw [HC.out]at s
   obtain⟨lx,hlx⟩:∃l,limb x j=l:=⟨_,rfl⟩
   have bx:lx<1000000000:=by rw [←hlx];exact limb_lt x j
   rw [hlx]at p1 s
   obtain⟨P,hP⟩:∃P,lx*c=P:=⟨_,rfl⟩
   have hPB:P≤999999998000000001:=by
    rw [←hP]
    exact Nat.mul_le_mul (Nat.le_of_lt_succ bx) (Nat.le_of_lt_succ hcB)
   have e1:((lx:Int)*(c:Int))=(P:Int):=by rw [←hP];simp
   rw [hP]at s
   have hBB:B=1000000000:=rfl
   rw [hBB]at s
   have HSt:=Hid.intro s
   have hjkd:decide ((j:Int)<(k:Int))=true:=decide_eq_true (by omega)
   clear hc1' hlx hP s hBB
   gi_wp2_with (gi_at_builtin;refine stop ?_)
   unfold Stop
   refine appendI_limb w wr rfl _ _ rfl u5 j (x*c) rfl HO _ _ rfl ?_ (by omega) HBr ?_
   ·rw [HSt.out.1];go_num
   ·intro v2 w2 HO2 HB2
    gi_wp2
    refine⟨⟨j+1,(ca+P)/1000000000,by omega,by go_num,?_,HSt.out.2,fun h=>by omega,HO2,HB2⟩,by simp [intOf];omega⟩
    exact congrArg (Value.int .i64) (by go_num)
  ·by_cases hc0:0<ca
   ·have hjk0:j=k:=by omega
    subst hjk0
    have s:=times_step x c j
    rw [HC.out,limb_high HK.out.1]at s
    simp only [Nat.zero_mul,Nat.add_zero]at s
    have hca9:ca<1000000000:=by omega
    have hBB:B=1000000000:=rfl
    rw [hBB]at s
    rw [Nat.mod_eq_of_lt hca9,Nat.div_eq_of_lt hca9]at s
    have HSt:=Hid.intro s
    have hjkd:decide ((j:Int)<(j:Int))=false:=decide_eq_false (by omega)
    clear s hBB
    gi_wp2_with (gi_at_builtin;refine stop ?_)
    unfold Stop
    refine appendI_limb w wr rfl _ _ rfl u5 j (x*c) rfl HO _ _ rfl ?_ (by omega) HBr ?_
    ·rw [HSt.out.1];go_num
    ·intro v2 w2 HO2 HB2
     gi_wp2
     refine⟨⟨j+1,0,by omega,by go_num,?_,HSt.out.2,fun h=>rfl,HO2,HB2⟩,by simp [intOf] <;> omega⟩
     exact congrArg (Value.int .i64) (by go_num)
   ·have hc00:ca=0:=by omega
    subst hc00
    have hjkd:decide ((j:Int)<(k:Int))=false:=decide_eq_false (by omega)
    have hlt:x*c<B^j:=times_end (Nat.lt_of_lt_of_le HK.out.1 (pow_mono (by omega))) HC.out
    have HT:=Hid.intro (rtrim_calls wr _ (x*c) j (rowI_limbs HO.out (by omega)) hlt)
    clear hlt
    gi_wp2_with (gi_at_call 198;refine HT.out.mono ?_;rintro e w7 ⟨v',rfl,hm,hB7⟩;have HM:=Hid.intro hm;have HB7:=Hid.intro (HBr.out.trans (hB7.mono HBr.out.size));clear hm hB7)
    all_goals (first|go_returns|go_ret|go_end0)
    exact⟨v',rfl,⟨HM.out.1,fun k hk=>own_base HO.out (HM.out.2 ▸ hk)⟩,HB7.out⟩
def cellN(S c y x i l j p:Nat):Nat:=if j≤l then cellM S c y i j p else limb (x%B^(i+1)*y) p
theorem cellN_zero{S c y x i l:Nat}(p:Nat):cellN S c y x i l 0 p=limb S p:=by
 unfold cellN
 rw [if_pos (Nat.zero_le _),cellM_zero]
set_option maxRecDepth 100000 in
set_option maxHeartbeats 8000000 in
theorem mulN_calls(w:World)(va vb:Value)(x y L:Nat)(ha:NatI w va x)(hb:NatI w vb y)(hx:x<B^L)(hy:y<B^L)(hL:L≤100000000) :
  CallsIn Fence.wide 0 Tryz.prog 159 #[va,vb] w fun e w'=>∃v',e = .returned v'∧(NatI w' v' (x*y)∧Fresh w.heap.size v')∧Below w.heap.size w w':=by
 obtain⟨k,hk,hla⟩:=ha
 obtain⟨l,hl,hlb⟩:=hb
 have hkL:=hk.le hx
 have hlL:=hl.le hy
 clear hx hy
 obtain⟨o1,c1,rfl,h1⟩:=hla.form
 obtain⟨o2,c2,rfl,h2⟩:=hlb.form
 have H1:=Hid.intro h1
 have H2:=Hid.intro h2
 have HK:=Hid.intro hk
 have HL:=Hid.intro hl
 clear h1 h2 hk hl hla hlb
 refine callsIn_of_wp Tryz.func159 rfl trivial ?_ rfl
 simp only [Tryz.ntmps159,List.size_toArray,List.length_cons,List.length_nil,Nat.reduceAdd,Nat.reduceSub,Array.replicate_succ,Array.replicate_zero,List.push_toArray,List.append_toArray,List.nil_append,List.cons_append]
 gi_wp2_with (gi_at_make;refine stop ?_)
 unfold Stop
 refine wpListIn_make_full _ rfl _ _ _ rfl w.heap.size 3 Tryz.t3 _ 1 Go.Num.u30 t3_info t3_zero t3_size _ _ _ _ (k+l) rfl rfl (by omega) (by omega) (by rw [t3_bytes];omega) (by unfold maxLen;omega) (Nat.le_refl _) ?_
 intro W4 hown hgrow
 obtain⟨g,hg'⟩:∃g,w.heap.size=g:=⟨_,rfl⟩
 have HA4:Hid (ArrAt W4 g (k+l) fun p => .int .i64 ((limb (x%B^0*y) p:Nat):Int)):=by
  rw [←hg']
  exact ArrAt.of_row hown fun i hi=>by rw [low_zero,Nat.zero_mul,limb_zero];exact made_limbsI (by omega)
 have HB5:Hid (Below w.heap.size w W4):=(Below.refl _ w).grown hgrow (Nat.le_refl _) (fun _ h=>by cases h)
 have hg:w.heap.size≤g:=by omega
 have HE5:Hid (Elem W4 g 3):=by rw [←hg'];exact elem_of_row hown
 rw [hg']
 clear hown hgrow hg'
 gi_wp2
 gi_loopw [6] (fun i wr=>∃i0:Nat,i0≤k∧i = .int .i64 (i0:Int)∧Hid (ArrAt wr g (k+l) fun p => .int .i64 ((limb (x%B^i0*y) p:Nat):Int))∧Hid (Below w.heap.size w wr)∧Hid (Elem wr g 3)) (fun i _=>k-(intOf i).toNat)
 case atStart=>exact⟨0,by omega,rfl,HA4.out,HB5.out,HE5.out⟩
 case round=>
  obtain⟨i0,hi,rfl,HA,HBr,HE⟩:=hrel
  clear HA4 HB5 HE5
  by_cases hik:i0<k
  ·obtain⟨a1,rfl,ha1,hc1'⟩:=H1.out (by omega)
   have p1:=(HBr.out.cell (p:=a1.add i0) (by rw [add_block];exact ha1)).trans (hc1' i0 hik)
   obtain⟨cx,hcx⟩:∃l,limb x i0=l:=⟨_,rfl⟩
   have bx:cx<1000000000:=by rw [←hcx];exact limb_lt x i0
   rw [hcx]at p1
   obtain⟨S,hS⟩:∃S,x%B^i0*y=S:=⟨_,rfl⟩
   have HCX:=Hid.intro hcx
   have HSS:=Hid.intro hS
   have HP1:=Hid.intro ((HBr.out.cell (p:=a1.add i0) (by rw [add_block];exact ha1)).symm.trans p1)
   rw [hS]at HA
   clear hc1' hcx hS
   gi_wp2
   gi_loopw [7,8,9] (fun cv jv _ wr=>∃(j ca:Nat),j≤l+1∧jv = .int .i64 (j:Int)∧cv = .int .i64 (ca:Int)∧(j=l+1→ca=0)∧Hid (j≤l→carryM S cx y i0 j=ca)∧Hid (ArrAt wr g (k+l) fun p => .int .i64 ((cellN S cx y x i0 l j p:Nat):Int))∧Hid (Below w.heap.size w wr)∧Hid (Elem wr g 3)) (fun _ jv _ _=>l+1-(intOf jv).toNat)
   case atStart=>exact⟨0,0,by omega,rfl,rfl,fun h=>rfl,Hid.intro (fun _=>carryM_zero _ _ _ _),Hid.intro (ArrAt.congr HA.out fun p _=>by rw [cellN_zero]),HBr.out,HE.out⟩
   case round=>
    obtain⟨j,ca,hj,rfl,rfl,hca0,HC,HA2,HB2,HE2⟩:=hrel
    clear HA
    by_cases hjl:j<l
    ·have HC:=Hid.intro (HC.out (by omega))
     have hcle:ca≤cx:=by rw [←HC.out];exact carryM_le S cx y i0 j
     obtain⟨a2,rfl,ha2,hc2'⟩:=H2.out (by omega)
     have p2:=(HB2.out.cell (p:=a2.add j) (by rw [add_block];exact ha2)).trans (hc2' j hjl)
     have p1:=(HB2.out.cell (p:=a1.add i0) (by rw [add_block];exact ha1)).trans (HP1.out)
     have s:=mul_step S cx y i0 j
     rw [HC.out]at s
     obtain⟨ly,hly⟩:∃l,limb y j=l:=⟨_,rfl⟩
     have by':ly<1000000000:=by rw [←hly];exact limb_lt y j
     obtain⟨lo,hlo⟩:∃l,limb S (i0+j)=l:=⟨_,rfl⟩
     have bo:lo<1000000000:=by rw [←hlo];exact limb_lt S (i0+j)
     rw [hly]at p2 s
     have hij:i0+j<k+l:=by omega
     have z1:wr.cell? ⟨g,i0+j,none⟩=some (.int .i64 (lo:Int)):=(HA2.out (i0+j) hij).1.trans (by show some (Value.int .i64 ((cellN S cx y x i0 l j (i0+j):Nat):Int))=_;unfold cellN;rw [if_pos (by omega)];unfold cellM;rw [if_neg (by omega),hlo])
     have z2:=(HA2.out (i0+j) hij).2
     rw [hlo]at s
     obtain⟨P,hP⟩:∃P,cx*ly=P:=⟨_,rfl⟩
     have hPB:P≤999999998000000001:=by
      rw [←hP]
      exact Nat.mul_le_mul (Nat.le_of_lt_succ bx) (Nat.le_of_lt_succ by')
     have e1:((cx:Int)*(ly:Int))=(P:Int):=by rw [←hP];simp
     have e1w:IntKind.i64.wrap ((cx:Int)*(ly:Int))=(P:Int):=by rw [e1];exact i64_small (by omega)
     rw [hP]at s
     have hBB:B=1000000000:=rfl
     rw [hBB]at s
     have HSt:=Hid.intro s
     have hQ:(ca+lo+P)%1000000000<1000000000:=Nat.mod_lt _ (by decide)
     have hjld:decide ((j:Int)<(l:Int))=true:=decide_eq_true (by omega)
     clear hc2' hly hlo hP s hBB
     gi_wp2
     gi_quiet (fail)
     gi_wp2
     refine⟨⟨j+1,(ca+lo+P)/1000000000,by omega,by go_num,congrArg (Value.int .i64) (by go_num),fun h=>by omega,Hid.intro (fun _=>HSt.out.2.1),?_,?_,?_⟩,by simp [intOf];omega⟩
     ·refine Hid.intro (ArrAt.congr ((show ArrAt (wr.drewN _) g (k+l) _ from HA2.out).set hij (.int .i64 (((lo:Int)+(ca:Int)+(P:Int))%1000000000))) fun p _ => ?_)
      have e1:cellN S cx y x i0 l j p=cellM S cx y i0 j p:=if_pos (by omega)
      have e2:cellN S cx y x i0 l (j+1) p=cellM S cx y i0 (j+1) p:=if_pos (by omega)
      rw [e2,cellM_step]
      by_cases e:p=i0+j
      ·rw [if_pos e,if_pos e,HSt.out.1]
       exact congrArg (Value.int .i64) (by omega)
      ·rw [if_neg e,if_neg e,e1]
     ·exact Hid.intro ((HB2.out.trans ((drewN_below _ _).mono HB2.out.size)).setCell hg _)
     ·exact Hid.intro ((show Elem (wr.drewN _) g 3 from HE2.out).setCell _ _)
    ·have hS0:Hid (limb S (i0+l)=0):=Hid.intro (limb_high (by rw [←HSS.out];exact prod_len (low_lt x i0) HL.out.1))
     have hce:Hid (∀p,(if p=i0+l then limb (x%B^(i0+1)*y) (i0+l)else cellM S cx y i0 l p)=limb (x%B^(i0+1)*y) p):=Hid.intro (fun p=>by
      have ce:=cellM_end (x:=x) (i:=i0) (p:=p) HL.out.1
      rw [HSS.out,HCX.out]at ce
      exact ce)
     have hre:Hid (carryM S cx y i0 l=limb (x%B^(i0+1)*y) (i0+l)):=Hid.intro (by
      have re:=(row_end (x:=x) (i:=i0) HL.out.1).2
      rw [HSS.out,HCX.out]at re
      exact re)
     have hjld:decide ((j:Int)<(l:Int))=false:=decide_eq_false (by omega)
     have hjld2:¬(j:Int)<(l:Int):=by omega
     by_cases hc0:0<ca
     ·have hjl0:j=l:=by
       apply Classical.byContradiction
       intro hno
       have:=hca0 (by omega)
       omega
      subst hjl0
      have HC:=Hid.intro (HC.out (Nat.le_refl _))
      have hcle:ca≤cx:=by rw [←HC.out];exact carryM_le S cx y i0 j
      have hij:i0+j<k+j:=by omega
      have z1:wr.cell? ⟨g,i0+j,none⟩=some (.int .i64 0):=(HA2.out (i0+j) hij).1.trans (by show some (Value.int .i64 ((cellN S cx y x i0 j j (i0+j):Nat):Int))=_;unfold cellN;rw [if_pos (by omega)];unfold cellM;rw [if_neg (by omega),hS0.out];rfl)
      have z2:=(HA2.out (i0+j) hij).2
      gi_wp2
      refine⟨⟨j+1,0,by omega,by go_num,congrArg (Value.int .i64) (by go_num),fun h=>rfl,Hid.intro (fun h=>by omega),?_,HB2.out.setCell hg _,HE2.out.setCell _ _⟩,by simp [intOf] <;> omega⟩
      refine Hid.intro (ArrAt.congr (HA2.out.set hij (.int .i64 ((ca:Int)%1000000000))) fun p _ => ?_)
      have e1:cellN S cx y x i0 j j p=cellM S cx y i0 j p:=if_pos (by omega)
      have e2:cellN S cx y x i0 j (j+1) p=limb (x%B^(i0+1)*y) p:=if_neg (by omega)
      rw [e2,←hce.out p]
      by_cases e:p=i0+j
      ·rw [if_pos e,if_pos e,←hre.out,HC.out]
       exact congrArg (Value.int .i64) (by omega)
      ·rw [if_neg e,if_neg e,e1]
     ·have hc00:ca=0:=by omega
      subst hc00
      gi_wp2
      refine⟨⟨i0+1,by omega,by go_num,?_,HB2.out,HE2.out⟩,by simp [intOf];omega⟩
      refine Hid.intro (ArrAt.congr HA2.out fun p _ => ?_)
      unfold cellN
      by_cases hj1:j≤l
      ·have hjl0:j=l:=by omega
       subst hjl0
       rw [if_pos hj1,←hce.out p]
       by_cases e:p=i0+j
       ·rw [if_pos e,←hre.out,HC.out hj1,e]
        unfold cellM
        rw [if_neg (by omega),hS0.out]
       ·rw [if_neg e]
      ·rw [if_neg hj1]
  ·have hik0:i0=k:=by omega
   subst hik0
   have hlt:x*y<B^(i0+l):=prod_len HK.out.1 HL.out.1
   have hla:LimbsI wr (.slice (some ⟨g,0,none⟩) (i0+l) (i0+l)) (x*y) (i0+l):=by
    rcases Nat.eq_zero_or_pos (i0+l)with h|h
    ·rw [h];exact .inl ⟨rfl,_,_,rfl⟩
    ·refine ArrAt.limbsI (ArrAt.congr HA.out fun p _ => ?_) h (Nat.le_refl _) ⟨by omega,by omega⟩ HE.out
     rw [low_high HK.out.1]
   have HT:=Hid.intro (rtrim_calls wr _ (x*y) (i0+l) hla hlt)
   clear hlt hla
   gi_wp2_with (gi_at_call 198;refine HT.out.mono ?_;rintro e w7 ⟨v',rfl,hm,hB7⟩;have HM:=Hid.intro hm;have HB7:=Hid.intro (HBr.out.trans (hB7.mono HBr.out.size));clear hm hB7)
   all_goals (first|go_returns|go_ret|go_end0)
   exact⟨v',rfl,⟨HM.out.1,fresh_of HM.out.2 hg⟩,HB7.out⟩
end Go.Num
