/-
  Rows of cells, and slices that are made: laws for the walk, of no program; what the program's table says of limbs. What 'add' of magnitudes 
  Conditions: see each statement.
-/
import Derived.Test.YtepakfjilnpodaaGreatDoorRDAF
import Derived.Laws.OwnMore
import Derived.Deep.AppendSrc
namespace Go.Num
open Go.RowKit Go.Proofs Go.Proofs.YtepakfjilnpodaaGreatDoor
theorem wpListIn_make_full{F:Fence}{n:Nat}{P:Program}(w:World){ops:Array Oper}{rest:List Oper}{o:Oper}{a:Act}{Q:Exit→Act→World→Prop}
  (hg:o.guard=none) (l c:Operand) (t:TypeId) (hop:o.op=Op.makeSlice t l c)
  (base:Nat) (e:TypeId) (i:TypeInfo) (z:Value) (size:Nat) (h1:P.underlying t=some (.slice e)) (h2:P.info? e=some i) (h3:i.zero=some z) (h4:i.size=size)
  (kl kc:IntKind) (L C:Int) (m:Nat) (hl:a.eval l = .int kl L) (hc:a.eval c = .int kc C) (hL:L=(m:Int)) (hC:C=(m:Int)) (b2:i.bytes*m≤281474976710656) (b3:m≤maxLen) (b4:base≤w.heap.size)
  (hK:∀w',w'.ownsRow base e size (.slice (some ⟨w.heap.size,0,none⟩) m m) m (madeCells z.cells (m*size)).toList→w.grownBy w' none→wpListIn F n P ops Q rest (a.put o.dst (.slice (some ⟨w.heap.size,0,none⟩) m m)) w') :
  wpListIn F n P ops Q (o :: rest) a w:=by
 refine wpListIn_plain hg fun K hK' => ?_
 obtain⟨w',hrun,r1,r2⟩:=run_make_full (P:=P) w base t e i z size h1 h2 h3 h4 kl kc m b2 b3 b4
 subst hL
 subst hC
 unfold Oper.wpIn
 refine⟨?_,?_⟩
 ·simp [Oper.about,hop]
 ·rw [Oper.semAt_plain F _ _ (by rw [hop];intro c hc';cases hc')]
  simp [execOp,hop,hl,hc,hrun,Result.andThen]
  exact hK' _ _ (hK w' r1 r2)
def ArrAt(w:World)(g n:Nat)(f:Nat→Value):Prop:=∀i,i<n→w.cell? ⟨g,i,none⟩=some (f i)∧w.frozen? ⟨g,i,none⟩=false
theorem ArrAt.set{w:World}{g n:Nat}{f:Nat→Value}(h:ArrAt w g n f){i:Nat}(hi:i<n)(v:Value):ArrAt (w.setCell ⟨g,i,none⟩ v) g n (fun j=>if j=i then v else f j):=by
 intro j hj
 refine⟨?_,by rw [World.frozen?_setCell];exact(h j hj).2⟩
 by_cases e:j=i
 ·subst e
  simp only [if_true]
  exact World.cell?_setCell_same _ _ _ (h j hj).1
 ·simp only [if_neg e]
  rw [World.cell?_setCell_other _ _ _ _ (by intro q;injection q;omega)]
  exact(h j hj).1
theorem ArrAt.congr{w:World}{g n:Nat}{f f':Nat→Value}(h:ArrAt w g n f)(e:∀i,i<n→f i=f' i):ArrAt w g n f':=fun i hi=>by rw [←e i hi];exact h i hi
theorem ArrAt.below{w w':World}{g n B:Nat}{f:Nat→Value}(h:ArrAt w g n f)(hg:g<B)(hb:Below B w w'):ArrAt w' g n f:=fun i hi=>by
 rw [hb.cell (p:=⟨g,i,none⟩) hg,hb.frozen (p:=⟨g,i,none⟩) hg];exact h i hi
theorem ArrAt.of_row{w:World}{base:Nat}{e:TypeId}{g n cap:Nat}{xs:List Value}(h:w.ownsRow base e 1 (.slice (some ⟨g,0,none⟩) n cap) n xs){f:Nat→Value}(hf:∀i,i<n→xs[i]? = some (f i)):ArrAt w g n f:=
 fun i hi=>⟨(h.cellAt i (by omega)).trans (hf i hi),h.frozenAt i⟩
theorem ArrAt.new(w:World)(cs:Array Value)(t:TypeId){n:Nat}{f:Nat→Value}(h:∀i,i<n→cs[i]? = some (f i)):ArrAt (w.alloc (.cells cs t)) w.heap.size n f:=
 fun i hi=>⟨by rw [World.cell?_alloc_new];exact h i hi,World.frozen?_alloc_new _ _ _ _⟩
theorem ArrAt.alloc{w:World}{g n:Nat}{f:Nat→Value}(h:ArrAt w g n f)(hg:g<w.heap.size)(o:Obj):ArrAt (w.alloc o) g n f:=
 fun i hi=>⟨by rw [World.cell?_alloc_lt _ _ _ hg];exact(h i hi).1,by rw [World.frozen?_alloc_old _ _ _ (by simp;omega)];exact(h i hi).2⟩
theorem ArrAt.lt{w:World}{g n:Nat}{f:Nat→Value}(h:ArrAt w g n f)(hn:0<n):g<w.heap.size:=World.block_lt_of_cell? _ _ (h 0 hn).1
theorem t111_info:Tryz.prog.info? 116=some Tryz.t116:=by kernel_rfl
theorem u23:Tryz.prog.underlying 25=some (.slice 116):=by kernel_rfl
theorem t111_zero:Tryz.t116.zero=some (.int .u64 0):=by kernel_rfl
theorem t111_size:Tryz.t116.size=1:=by kernel_rfl
theorem t111_bytes:Tryz.t116.bytes=8:=by kernel_rfl
theorem made_limbs{n i:Nat}(hi:i<n):(madeCells #[Value.int .u64 0] n).toList[i]? = some (.int .u64 0):=by
 simp [madeCells,hi,Nat.mod_one]
theorem limb_zero(i:Nat):limb 0 i=0:=by unfold limb;simp
theorem elem_of_row{w:World}{base:Nat}{e:TypeId}{size:Nat}{g n cap:Nat}{xs:List Value}(h:w.ownsRow base e size (.slice (some ⟨g,0,none⟩) n cap) n xs):Elem w g e:=by
 rcases h.2 with⟨h,_⟩|⟨g',cap',cur,h1,h2,h3,_⟩
 ·cases h
 ·injection h1 with h1 _ _
  injection h1 with h1
  injection h1 with h1 _ _
  subst h1
  exact⟨cur,(0,0),h3⟩
theorem ArrAt.limbs{w:World}{g n k cap:Nat}(h:ArrAt w g k fun i => .int .u64 ((limb n i:Nat):Int))(hk:0<k)(hc:k≤cap)(h9:k≤1000000000∧cap≤9223372036854775807)(hE:Elem w g 116):LimbsAt w (.slice (some ⟨g,0,none⟩) k cap) n k:=
 .inr ⟨⟨g,0,none⟩,cap,rfl,hk,hc,h9,hE,fun i hi=>by rw [Addr.add_lit,Nat.zero_add];exact(h i hi).1⟩
def firstL(n k:Nat):List Value:=(List.range k).map fun i => .int .u64 ((limb n i:Nat):Int)
theorem firstL_len(n k:Nat):(firstL n k).length=k:=by simp [firstL]
theorem firstL_succ(n k:Nat):firstL n (k+1)=firstL n k ++ [.int .u64 ((limb n k:Nat):Int)]:=by simp [firstL,List.range_succ]
theorem limb_new(w:World)(i:Int)(t:TypeId):∀k u,[Value.int .u64 i][k]? = some u→(w.alloc (.cells #[.int .u64 i] t)).cell? ((⟨w.heap.size,0,none⟩:Addr).add k)=some u:=by
 intro k u h
 rw [Addr.add_lit,Nat.zero_add,World.cell?_alloc_new]
 match k,h with
 | 0,h=>exact h
theorem row_limbs{w:World}{base n k:Nat}{v:Value}(h:w.ownsRow base 116 1 v k (firstL n k))(hk:k≤500000000):LimbsAt w v n k:=by
 rcases h.2 with⟨rfl,rfl⟩|⟨g,cap,cur,rfl,h1,h2,h3,h4,h5,h6⟩
 ·exact .inl ⟨rfl,none,0,rfl⟩
 ·rcases Nat.eq_zero_or_pos k with h0|h0
  ·subst h0;exact .inl ⟨rfl,_,_,rfl⟩
  ·refine .inr ⟨⟨g,0,none⟩,cap,rfl,h0,h3,⟨by omega,by unfold maxLen at h4;omega⟩,⟨cur,(0,0),h2⟩,fun i hi => ?_⟩
   have:=h.cells rfl i (.int .u64 ((limb n i:Nat):Int)) (by simp [firstL,hi])
   rw [Addr.add_lit]at this ⊢
   exact this
theorem LenIs.le{n k L:Nat}(h:LenIs n k)(hn:n<B^L):k≤L:=by
 apply Classical.byContradiction
 intro hno
 have h2:=h.2
 have:=pow_mono (i:=L) (j:=k-1) (by omega)
 omega
theorem own_base{w:World}{base:Nat}{e:TypeId}{size:Nat}{v:Value}{n:Nat}{xs:List Value}(h:w.ownsRow base e size v n xs){k:Nat}(hk:v.ownBlock=some k):base≤k:=by
 rcases h.2 with⟨rfl,_⟩|⟨g,cap,cur,rfl,hg,_⟩
 ·cases hk
 ·have:g=k:=by simpa [Value.ownBlock]using hk
  omega
theorem append_limb{F:Fence}{n:Nat}(w wr:World){ops:Array Oper}{rest:List Oper}{o:Oper}{a:Act}{Q:Exit→Act→World→Prop}
  (hg:o.guard=none) (s x:Operand) (hop:o.op=Op.call {callee:=Callee.builtin Builtin.append,args:=#[s,x],argTypes:=#[25,25]})
  (v:Value) (j N:Nat) (hs:a.eval s=v) (HO:Hid (wr.ownsRow w.heap.size 116 1 v j (firstL N j))) (z:Int) (t:TypeId) (hx:a.eval x = .slice (some ⟨wr.heap.size,0,none⟩) 1 1) (hz:z=((limb N j:Nat):Int)) (hj:j<500000000)
  (HB:Hid (Below w.heap.size w wr))
  (hK:∀v' w',Hid (w'.ownsRow w.heap.size 116 1 v' (j+1) (firstL N (j+1)))→Hid (Below w.heap.size w w')→wpListIn F n Tryz.prog ops Q rest (a.put o.dst v') w') :
  wpListIn F n Tryz.prog ops Q (o :: rest) a (wr.alloc (.cells #[.int .u64 z] t)):=by
 have hsz:=HB.out.size
 refine wpListIn_append_own _ hg s x 25 hop w.heap.size 116 Tryz.t116 _ 1 8 Go.Num.u23 t111_info t111_zero t111_size t111_bytes rfl (by decide) v j (firstL N j) hs (World.ownsRow.alloc HO.out _) ⟨wr.heap.size,0,none⟩ 1 1 [.int .u64 z] hx rfl (limb_new _ _ _) (fun u hu=>by simp at hu;subst hu;rfl) (by unfold maxLen;omega) (by omega) (by simp;omega) ?_
 intro v' w' h1 h2 _
 refine hK v' w' ?_ ?_
 ·rw [firstL_succ,←hz];exact h1
 ·refine(HB.out.alloc hsz _).grown h2 (by simp;omega) fun k hk => ?_
  exact own_base HO.out hk
set_option maxRecDepth 100000 in
set_option maxHeartbeats 8000000 in
theorem add_calls(w:World)(va vb:Value)(x y L:Nat)(ha:MagAt w va x)(hb:MagAt w vb y)(hx:x<B^L)(hy:y<B^L)(hL:L≤100000000) :
  CallsIn Fence.wide 0 Tryz.prog 136 #[va,vb] w fun e w'=>∃v',e = .returned v'∧(MagAt w' v' (x+y)∧Fresh w.heap.size v')∧Below w.heap.size w w':=by
 obtain⟨k,hk,hla⟩:=ha
 obtain⟨l,hl,hlb⟩:=hb
 have hkL:=hk.le hx
 have hlL:=hl.le hy
 clear hx hy
 obtain⟨o1,c1,rfl,h1⟩:=hla.form
 obtain⟨o2,c2,rfl,h2⟩:=hlb.form
 have H1:=Hid.intro h1
 have H2:=Hid.intro h2
 have HK:=Hid.intro hk
 have HL:=Hid.intro hl
 clear h1 h2 hk hl hla hlb
 refine callsIn_of_wp Tryz.func136 rfl trivial ?_ rfl
 simp only [Tryz.ntmps136,List.size_toArray,List.length_cons,List.length_nil,Nat.reduceAdd,Nat.reduceSub,Array.replicate_succ,Array.replicate_zero,List.push_toArray,List.append_toArray,List.nil_append,List.cons_append]
 obtain⟨M,hM⟩:∃M,max k l=M:=⟨_,rfl⟩
 have hMk:k≤M:=by omega
 have hMl:l≤M:=by omega
 have hM9:M≤100000000:=by omega
 have HS:Hid (x<B^M∧y<B^M):=⟨Nat.lt_of_lt_of_le HK.out.1 (pow_mono hMk),Nat.lt_of_lt_of_le HL.out.1 (pow_mono hMl)⟩
 by_cases hkl:k<l
 case' pos=>have hML:M=l:=by omega
 case' neg=>have hML:M=k:=by omega
 all_goals
  have HML:=Hid.intro hML
  clear hM hML
  gi_wp2_with (gi_at_make;refine stop ?_)
  unfold Stop
  refine wpListIn_make_own _ rfl _ _ _ rfl w.heap.size 116 Tryz.t116 _ 1 Go.Num.u23 t111_info t111_zero t111_size _ _ _ (_+1) rfl rfl rfl (by rw [t111_bytes];omega) (by unfold maxLen;omega) (Nat.le_refl _) ?_
  intro W4 hown hgrow
  have HO4:Hid (W4.ownsRow w.heap.size 116 1 _ 0 (firstL (x+y) 0)):=hown
  have HB4:Hid (Below w.heap.size w W4):=(Below.refl _ w).grown hgrow (Nat.le_refl _) (fun _ h=>by cases h)
  clear hown hgrow
  gi_wp2
  gi_loopw [5,6,7] (fun v cv i wr=>∃j c:Nat,j≤M+1∧i = .int .i64 (j:Int)∧cv = .int .u64 (c:Int)∧Hid (carryA x y j=c)∧Hid (wr.ownsRow w.heap.size 116 1 v j (firstL (x+y) j))∧Hid (Below w.heap.size w wr)) (fun _ _ i _=>M+2-(intOf i).toNat)
  case atStart=>exact⟨0,0,by omega,rfl,rfl,Hid.intro (carryA_zero x y),HO4.out,HB4.out⟩
  case round=>
   obtain⟨j,c,hj,rfl,rfl,HC,HO,HBr⟩:=hrel
   have hc1:c≤1:=by rw [←HC.out];exact carryA_le x y j
   have hjc:c=1→j≤M:=fun hc=>by
    apply Classical.byContradiction
    intro hno
    have:j=M+1:=by omega
    subst this
    have s:=(add_step x y M).2
    rw [limb_high HS.out.1,limb_high HS.out.2,HC.out,hc]at s
    have:=carryA_le x y M
    have hBB:B=1000000000:=rfl
    rw [Nat.div_eq_of_lt (by omega)]at s
    omega
   have s:=add_step x y j
   rw [HC.out]at s
   obtain⟨lx,hlx⟩:∃l,limb x j=l:=⟨_,rfl⟩
   obtain⟨ly,hly⟩:∃l,limb y j=l:=⟨_,rfl⟩
   have bx:lx<1000000000:=by rw [←hlx];exact limb_lt x j
   have by':ly<1000000000:=by rw [←hly];exact limb_lt y j
   rw [hlx,hly]at s
   have HSt:=Hid.intro s
   clear s HO4 HB4
   have hMM:=HML.out
   have hBB:B=1000000000:=rfl
   by_cases hjk:j<k
   ·by_cases hjl:j<l
    ·have hj1:j≤M:=by omega
     obtain⟨a1,rfl,ha1,hc1'⟩:=H1.out (by omega)
     have p1:=(HBr.out.cell (p:=a1.add j) (by rw [add_block];exact ha1)).trans (hc1' j hjk)
     rw [hlx]at p1
     clear hc1'
     obtain⟨a2,rfl,ha2,hc2'⟩:=H2.out (by omega)
     have p2:=(HBr.out.cell (p:=a2.add j) (by rw [add_block];exact ha2)).trans (hc2' j hjl)
     rw [hly]at p2
     clear hc2'
     have hjkd:decide ((j:Int)<(k:Int))=true:=decide_eq_true (by omega)
     have hjld:decide ((j:Int)<(l:Int))=true:=decide_eq_true (by omega)
     clear hlx hly
     gi_wp2_with (gi_at_builtin;refine stop ?_)
     unfold Stop
     refine append_limb w wr rfl _ _ rfl u5 j (x+y) rfl HO _ _ rfl ?_ (by omega) HBr ?_
     ·rw [HSt.out.1];simp [B];omega
     ·intro v2 w2 HO2 HB2
      gi_wp2
      refine⟨⟨j+1,(lx+ly+c)/B,by omega,by go_num,?_,HSt.out.2.symm ▸ rfl,HO2,HB2⟩,by simp [intOf];omega⟩
      simp [B];omega
    ·try omega
     all_goals
      have hj1:j≤M:=by omega
      obtain⟨a1,rfl,ha1,hc1'⟩:=H1.out (by omega)
      have p1:=(HBr.out.cell (p:=a1.add j) (by rw [add_block];exact ha1)).trans (hc1' j hjk)
      rw [hlx]at p1
      clear hc1'
      have hy0:ly=0:=by rw [←hly];exact limb_high (Nat.lt_of_lt_of_le HL.out.1 (pow_mono (by omega)))
      subst hy0
      have hjl':¬(j:Int)<(l:Int):=by omega
      have hjld:decide ((j:Int)<(l:Int))=false:=decide_eq_false (by omega)
      have hjkd:decide ((j:Int)<(k:Int))=true:=decide_eq_true (by omega)
      clear hlx hly
      gi_wp2_with (gi_at_builtin;refine stop ?_)
      unfold Stop
      refine append_limb w wr rfl _ _ rfl u5 j (x+y) rfl HO _ _ rfl ?_ (by omega) HBr ?_
      ·rw [HSt.out.1];simp [B];omega
      ·intro v2 w2 HO2 HB2
       gi_wp2
       refine⟨⟨j+1,(lx+0+c)/B,by omega,by go_num,?_,HSt.out.2.symm ▸ rfl,HO2,HB2⟩,by simp [intOf];omega⟩
       simp [B];omega
   ·by_cases hjl:j<l
    ·try omega
     all_goals
      have hj1:j≤M:=by omega
      have hx0:lx=0:=by rw [←hlx];exact limb_high (Nat.lt_of_lt_of_le HK.out.1 (pow_mono (by omega)))
      subst hx0
      have hjk':¬(j:Int)<(k:Int):=by omega
      have hjkd:decide ((j:Int)<(k:Int))=false:=decide_eq_false (by omega)
      obtain⟨a2,rfl,ha2,hc2'⟩:=H2.out (by omega)
      have p2:=(HBr.out.cell (p:=a2.add j) (by rw [add_block];exact ha2)).trans (hc2' j hjl)
      rw [hly]at p2
      clear hc2'
      have hjld:decide ((j:Int)<(l:Int))=true:=decide_eq_true (by omega)
      clear hlx hly
      gi_wp2_with (gi_at_builtin;refine stop ?_)
      unfold Stop
      refine append_limb w wr rfl _ _ rfl u5 j (x+y) rfl HO _ _ rfl ?_ (by omega) HBr ?_
      ·rw [HSt.out.1];simp [B];omega
      ·intro v2 w2 HO2 HB2
       gi_wp2
       refine⟨⟨j+1,(0+ly+c)/B,by omega,by go_num,?_,HSt.out.2.symm ▸ rfl,HO2,HB2⟩,by simp [intOf];omega⟩
       simp [B];omega
    ·by_cases hc0:c=1
     ·subst hc0
      have hj1:=hjc rfl
      have hx0:lx=0:=by rw [←hlx];exact limb_high (Nat.lt_of_lt_of_le HK.out.1 (pow_mono (by omega)))
      subst hx0
      have hjk':¬(j:Int)<(k:Int):=by omega
      have hjkd:decide ((j:Int)<(k:Int))=false:=decide_eq_false (by omega)
      have hy0:ly=0:=by rw [←hly];exact limb_high (Nat.lt_of_lt_of_le HL.out.1 (pow_mono (by omega)))
      subst hy0
      have hjl':¬(j:Int)<(l:Int):=by omega
      have hjld:decide ((j:Int)<(l:Int))=false:=decide_eq_false (by omega)
      clear hlx hly
      gi_wp2_with (gi_at_builtin;refine stop ?_)
      unfold Stop
      refine append_limb w wr rfl _ _ rfl u5 j (x+y) rfl HO _ _ rfl ?_ (by omega) HBr ?_
      ·rw [HSt.out.1];(first|(simp [B];done)|(simp [B];omega))
      ·intro v2 w2 HO2 HB2
       gi_wp2
       refine⟨⟨j+1,(0+0+1)/B,by omega,by go_num,?_,HSt.out.2.symm ▸ rfl,HO2,HB2⟩,by simp [intOf];omega⟩
       (first|(simp [B];done)|(simp [B];omega))
     ·have hc00:c=0:=by omega
      subst hc00
      have hjk':¬(j:Int)<(k:Int):=by omega
      have hjkd:decide ((j:Int)<(k:Int))=false:=decide_eq_false (by omega)
      have hjl':¬(j:Int)<(l:Int):=by omega
      have hjld:decide ((j:Int)<(l:Int))=false:=decide_eq_false (by omega)
      have hlt:x+y<B^j:=by
       have s0:=sum_low x y j
       rw [low_high (Nat.lt_of_lt_of_le HK.out.1 (pow_mono (by omega))),low_high (Nat.lt_of_lt_of_le HL.out.1 (pow_mono (by omega))),HC.out,Nat.mul_zero,Nat.add_zero]at s0
       rw [s0];exact low_lt _ _
      have HT:=Hid.intro (trim_calls wr _ (x+y) j (row_limbs HO.out (by omega)) hlt)
      clear hlx hly hlt
      gi_wp2_with (gi_at_call 138;refine HT.out.mono ?_;rintro e w7 ⟨v',rfl,hm,hB7⟩;have HM:=Hid.intro hm;have HB7:=Hid.intro (HBr.out.trans (hB7.mono HBr.out.size));clear hm hB7)
      all_goals (first|go_returns|go_ret|go_end0)
      exact⟨v',rfl,⟨HM.out.1,fun k hk=>own_base HO.out (HM.out.2 ▸ hk)⟩,HB7.out⟩
set_option maxRecDepth 100000 in
set_option maxHeartbeats 8000000 in
theorem sub_calls(w:World)(va vb:Value)(x y L:Nat)(ha:MagAt w va x)(hb:MagAt w vb y)(hyx:y≤x)(hx:x<B^L)(hL:L≤100000000) :
  CallsIn Fence.wide 0 Tryz.prog 137 #[va,vb] w fun e w'=>∃v',e = .returned v'∧(MagAt w' v' (x-y)∧Fresh w.heap.size v')∧Below w.heap.size w w':=by
 obtain⟨k,hk,hla⟩:=ha
 obtain⟨l,hl,hlb⟩:=hb
 have hkL:=hk.le hx
 have hls:=hlb.small
 clear hx
 obtain⟨o1,c1,rfl,h1⟩:=hla.form
 obtain⟨o2,c2,rfl,h2⟩:=hlb.form
 have H1:=Hid.intro h1
 have H2:=Hid.intro h2
 have HK:=Hid.intro hk
 have HL:=Hid.intro hl
 have HYX:=Hid.intro hyx
 clear h1 h2 hk hl hla hlb hyx
 refine callsIn_of_wp Tryz.func137 rfl trivial ?_ rfl
 simp only [Tryz.ntmps137,List.size_toArray,List.length_cons,List.length_nil,Nat.reduceAdd,Nat.reduceSub,Array.replicate_succ,Array.replicate_zero,List.push_toArray,List.append_toArray,List.nil_append,List.cons_append]
 gi_wp2_with (gi_at_make;refine stop ?_)
 unfold Stop
 refine wpListIn_make_own _ rfl _ _ _ rfl w.heap.size 116 Tryz.t116 _ 1 Go.Num.u23 t111_info t111_zero t111_size _ _ _ k rfl rfl rfl (by rw [t111_bytes];omega) (by unfold maxLen;omega) (Nat.le_refl _) ?_
 intro W4 hown hgrow
 have HO4:Hid (W4.ownsRow w.heap.size 116 1 _ 0 (firstL (x-y) 0)):=hown
 have HB4:Hid (Below w.heap.size w W4):=(Below.refl _ w).grown hgrow (Nat.le_refl _) (fun _ h=>by cases h)
 clear hown hgrow
 gi_wp2
 gi_loopw [5,6,15] (fun v bv i wr=>∃j bo:Nat,j≤k∧i = .int .i64 (j:Int)∧bv = .int .u64 (bo:Int)∧Hid (borrowS x y j=bo)∧Hid (wr.ownsRow w.heap.size 116 1 v j (firstL (x-y) j))∧Hid (Below w.heap.size w wr)) (fun _ _ i _=>k-(intOf i).toNat)
 case atStart=>exact⟨0,0,by omega,rfl,rfl,Hid.intro (borrowS_zero x y),HO4.out,HB4.out⟩
 case round=>
  obtain⟨j,bo,hj,rfl,rfl,HC,HO,HBr⟩:=hrel
  have hb1:bo≤1:=by rw [←HC.out];exact borrowS_le x y j
  have s:=sub_case HYX.out j
  rw [HC.out]at s
  obtain⟨lx,hlx⟩:∃l,limb x j=l:=⟨_,rfl⟩
  obtain⟨ly,hly⟩:∃l,limb y j=l:=⟨_,rfl⟩
  have bx:lx<1000000000:=by rw [←hlx];exact limb_lt x j
  have by':ly<1000000000:=by rw [←hly];exact limb_lt y j
  rw [hlx,hly]at s
  have hBB:B=1000000000:=rfl
  rw [hBB]at s
  have HSt:=Hid.intro s
  clear s HO4 HB4 hBB
  by_cases hjk:j<k
  ·obtain⟨a1,rfl,ha1,hc1'⟩:=H1.out (by omega)
   have p1:=(HBr.out.cell (p:=a1.add j) (by rw [add_block];exact ha1)).trans (hc1' j hjk)
   rw [hlx]at p1
   clear hc1'
   by_cases hjl:j<l
   ·obtain⟨a2,rfl,ha2,hc2'⟩:=H2.out (by omega)
    have p2:=(HBr.out.cell (p:=a2.add j) (by rw [add_block];exact ha2)).trans (hc2' j hjl)
    rw [hly]at p2
    clear hc2' hlx hly
    by_cases hlt:lx<ly+bo
    ·have hs:=HSt.out.1 hlt
     have HS:=Hid.intro hs
     have hlt':(lx:Int)<(bo:Int)+(ly:Int):=by omega
     clear hs hlt
     gi_wp2_with (gi_at_builtin;refine stop ?_)
     unfold Stop
     refine append_limb w wr rfl _ _ rfl u5 j (x-y) rfl HO _ _ rfl ?_ (by omega) HBr ?_
     ·rw [HS.out.2];omega
     ·intro v2 w2 HO2 HB2
      gi_wp2
      exact⟨⟨j+1,1,by omega,by go_num,rfl,HS.out.1,HO2,HB2⟩,by simp [intOf];omega⟩
    ·have hs:=HSt.out.2 hlt
     have HS:=Hid.intro hs
     have hlt':¬(lx:Int)<(bo:Int)+(ly:Int):=by omega
     clear hs
     gi_wp2_with (gi_at_builtin;refine stop ?_)
     unfold Stop
     refine append_limb w wr rfl _ _ rfl u5 j (x-y) rfl HO _ _ rfl ?_ (by omega) HBr ?_
     ·rw [HS.out.2];omega
     ·intro v2 w2 HO2 HB2
      gi_wp2
      exact⟨⟨j+1,0,by omega,by go_num,rfl,HS.out.1,HO2,HB2⟩,by simp [intOf];omega⟩
   ·have hy0:ly=0:=by rw [←hly];exact limb_high (Nat.lt_of_lt_of_le HL.out.1 (pow_mono (by omega)))
    subst hy0
    clear hlx hly
    by_cases hlt:lx<0+bo
    ·have hs:=HSt.out.1 hlt
     have HS:=Hid.intro hs
     have hlt':(lx:Int)<(bo:Int):=by omega
     clear hs hlt
     gi_wp2_with (gi_at_builtin;refine stop ?_)
     unfold Stop
     refine append_limb w wr rfl _ _ rfl u5 j (x-y) rfl HO _ _ rfl ?_ (by omega) HBr ?_
     ·rw [HS.out.2];omega
     ·intro v2 w2 HO2 HB2
      gi_wp2
      exact⟨⟨j+1,1,by omega,by go_num,rfl,HS.out.1,HO2,HB2⟩,by simp [intOf];omega⟩
    ·have hs:=HSt.out.2 hlt
     have HS:=Hid.intro hs
     have hlt':¬(lx:Int)<(bo:Int):=by omega
     clear hs
     gi_wp2_with (gi_at_builtin;refine stop ?_)
     unfold Stop
     refine append_limb w wr rfl _ _ rfl u5 j (x-y) rfl HO _ _ rfl ?_ (by omega) HBr ?_
     ·rw [HS.out.2];omega
     ·intro v2 w2 HO2 HB2
      gi_wp2
      exact⟨⟨j+1,0,by omega,by go_num,rfl,HS.out.1,HO2,HB2⟩,by simp [intOf];omega⟩
  ·have hjk0:j=k:=by omega
   subst hjk0
   have hlt:x-y<B^j:=Nat.lt_of_le_of_lt (Nat.sub_le _ _) HK.out.1
   have HT:=Hid.intro (trim_calls wr _ (x-y) j (row_limbs HO.out (by omega)) hlt)
   clear hlx hly hlt
   gi_wp2_with (gi_at_call 138;refine HT.out.mono ?_;rintro e w7 ⟨v',rfl,hm,hB7⟩;have HM:=Hid.intro hm;have HB7:=Hid.intro (HBr.out.trans (hB7.mono HBr.out.size));clear hm hB7)
   all_goals (first|go_returns|go_ret|go_end0)
   exact⟨v',rfl,⟨HM.out.1,fun k hk=>own_base HO.out (HM.out.2 ▸ hk)⟩,HB7.out⟩
def cellM(S c y i j p:Nat):Nat:=if p<i+j then limb (rowT S c y i j) p else limb S p
theorem cellM_zero{S c y i:Nat}(p:Nat):cellM S c y i 0 p=limb S p:=by
 unfold cellM
 rw [rowT_zero]
 split <;> rfl
theorem cellM_step{S c y i j p:Nat}:cellM S c y i (j+1) p=if p=i+j then limb (rowT S c y i (j+1)) (i+j)else cellM S c y i j p:=by
 unfold cellM
 by_cases e:p=i+j
 ·subst e
  rw [if_pos rfl,if_pos (by omega)]
 ·rw [if_neg e]
  by_cases h:p<i+j
  ·rw [if_pos (by omega),if_pos h,(mul_step S c y i j).2.2 p h]
  ·rw [if_neg (by omega),if_neg h]
theorem cellM_end{x y i l p:Nat}(hy:y<B^l):(if p=i+l then limb (x%B^(i+1)*y) (i+l)else cellM (x%B^i*y) (limb x i) y i l p)=limb (x%B^(i+1)*y) p:=by
 by_cases e:p=i+l
 ·subst e;rw [if_pos rfl]
 ·rw [if_neg e]
  unfold cellM
  rw [(row_end hy).1]
  by_cases h:p<i+l
  ·rw [if_pos h]
  ·rw [if_neg h]
   have h1:x%B^i*y<B^p:=Nat.lt_of_lt_of_le (prod_len (low_lt x i) hy) (pow_mono (by omega))
   have h2:x%B^(i+1)*y<B^p:=Nat.lt_of_lt_of_le (prod_len (low_lt x (i+1)) hy) (pow_mono (by omega))
   rw [limb_high h1,limb_high h2]
set_option maxRecDepth 100000 in
set_option maxHeartbeats 8000000 in
theorem mul_calls(w:World)(va vb:Value)(x y L:Nat)(ha:MagAt w va x)(hb:MagAt w vb y)(hx:x<B^L)(hy:y<B^L)(hL:L≤100000000) :
  CallsIn Fence.wide 0 Tryz.prog 131 #[va,vb] w fun e w'=>∃v',e = .returned v'∧(MagAt w' v' (x*y)∧Fresh w.heap.size v')∧Below w.heap.size w w':=by
 obtain⟨k,hk,hla⟩:=ha
 obtain⟨l,hl,hlb⟩:=hb
 have hkL:=hk.le hx
 have hlL:=hl.le hy
 clear hx hy
 obtain⟨o1,c1,rfl,h1⟩:=hla.form
 obtain⟨o2,c2,rfl,h2⟩:=hlb.form
 have H1:=Hid.intro h1
 have H2:=Hid.intro h2
 have HK:=Hid.intro hk
 have HL:=Hid.intro hl
 clear h1 h2 hk hl hla hlb
 refine callsIn_of_wp Tryz.func131 rfl trivial ?_ rfl
 simp only [Tryz.ntmps131,List.size_toArray,List.length_cons,List.length_nil,Nat.reduceAdd,Nat.reduceSub,Array.replicate_succ,Array.replicate_zero,List.push_toArray,List.append_toArray,List.nil_append,List.cons_append]
 gi_wp2_with (gi_at_make;refine stop ?_)
 unfold Stop
 refine wpListIn_make_full _ rfl _ _ _ rfl w.heap.size 116 Tryz.t116 _ 1 Go.Num.u23 t111_info t111_zero t111_size _ _ _ _ (k+l) rfl rfl (by omega) (by omega) (by rw [t111_bytes];omega) (by unfold maxLen;omega) (Nat.le_refl _) ?_
 intro W4 hown hgrow
 obtain⟨g,hg'⟩:∃g,w.heap.size=g:=⟨_,rfl⟩
 have HA4:Hid (ArrAt W4 g (k+l) fun p => .int .u64 ((limb (x%B^0*y) p:Nat):Int)):=by
  rw [←hg']
  exact ArrAt.of_row hown fun i hi=>by rw [low_zero,Nat.zero_mul,limb_zero];exact made_limbs (by omega)
 have HB5:Hid (Below w.heap.size w W4):=(Below.refl _ w).grown hgrow (Nat.le_refl _) (fun _ h=>by cases h)
 have hg:w.heap.size≤g:=by omega
 have HE5:Hid (Elem W4 g 116):=by rw [←hg'];exact elem_of_row hown
 rw [hg']
 clear hown hgrow hg'
 gi_wp2
 gi_loopw [19] (fun i wr=>∃i0:Nat,i0≤k∧i = .int .i64 (i0:Int)∧Hid (ArrAt wr g (k+l) fun p => .int .u64 ((limb (x%B^i0*y) p:Nat):Int))∧Hid (Below w.heap.size w wr)∧Hid (Elem wr g 116)) (fun i _=>k-(intOf i).toNat)
 case atStart=>exact⟨0,by omega,rfl,HA4.out,HB5.out,HE5.out⟩
 case round=>
  obtain⟨i0,hi,rfl,HA,HBr,HE⟩:=hrel
  clear HA4 HB5 HE5
  by_cases hik:i0<k
  ·obtain⟨a1,rfl,ha1,hc1'⟩:=H1.out (by omega)
   have p1:=(HBr.out.cell (p:=a1.add i0) (by rw [add_block];exact ha1)).trans (hc1' i0 hik)
   obtain⟨cx,hcx⟩:∃l,limb x i0=l:=⟨_,rfl⟩
   have bx:cx<1000000000:=by rw [←hcx];exact limb_lt x i0
   rw [hcx]at p1
   obtain⟨S,hS⟩:∃S,x%B^i0*y=S:=⟨_,rfl⟩
   have HCX:=Hid.intro hcx
   have HSS:=Hid.intro hS
   rw [hS]at HA
   clear hc1' hcx hS
   gi_wp2
   gi_loopw [8,26] (fun cv jv wr=>∃(j ca:Nat),j≤l∧jv = .int .i64 (j:Int)∧cv = .int .u64 (ca:Int)∧Hid (carryM S cx y i0 j=ca)∧Hid (ArrAt wr g (k+l) fun p => .int .u64 ((cellM S cx y i0 j p:Nat):Int))∧Hid (Below w.heap.size w wr)∧Hid (Elem wr g 116)) (fun _ jv _=>l-(intOf jv).toNat)
   case atStart=>exact⟨0,0,by omega,rfl,rfl,Hid.intro (carryM_zero _ _ _ _),Hid.intro (ArrAt.congr HA.out fun p _=>by rw [cellM_zero]),HBr.out,HE.out⟩
   case round=>
    obtain⟨j,ca,hj,rfl,rfl,HC,HA2,HB2,HE2⟩:=hrel
    have hcle:ca≤cx:=by rw [←HC.out];exact carryM_le S cx y i0 j
    clear HA
    by_cases hjl:j<l
    ·obtain⟨a2,rfl,ha2,hc2'⟩:=H2.out (by omega)
     have p2:=(HB2.out.cell (p:=a2.add j) (by rw [add_block];exact ha2)).trans (hc2' j hjl)
     have s:=mul_step S cx y i0 j
     rw [HC.out]at s
     obtain⟨ly,hly⟩:∃l,limb y j=l:=⟨_,rfl⟩
     have by':ly<1000000000:=by rw [←hly];exact limb_lt y j
     obtain⟨lo,hlo⟩:∃l,limb S (i0+j)=l:=⟨_,rfl⟩
     have bo:lo<1000000000:=by rw [←hlo];exact limb_lt S (i0+j)
     rw [hly]at p2 s
     have hij:i0+j<k+l:=by omega
     have z1:wr.cell? ⟨g,i0+j,none⟩=some (.int .u64 (lo:Int)):=(HA2.out (i0+j) hij).1.trans (by show some (Value.int .u64 ((cellM S cx y i0 j (i0+j):Nat):Int))=_;unfold cellM;rw [if_neg (by omega),hlo])
     have z2:=(HA2.out (i0+j) hij).2
     rw [hlo]at s
     obtain⟨P,hP⟩:∃P,cx*ly=P:=⟨_,rfl⟩
     have hPB:P≤999999998000000001:=by
      rw [←hP]
      exact Nat.mul_le_mul (Nat.le_of_lt_succ bx) (Nat.le_of_lt_succ by')
     have e1:IntKind.u64.wrap ((cx:Int)*(ly:Int))=(P:Int):=by
      have:=u64_small (x:=P) (by omega)
      rw [←this,←hP]
      simp
     rw [hP]at s
     have hBB:B=1000000000:=rfl
     rw [hBB]at s
     have HSt:=Hid.intro s
     have hQ:(ca+lo+P)%1000000000<1000000000:=Nat.mod_lt _ (by decide)
     clear hc2' hly hlo hP s hBB
     gi_wp2
     refine⟨⟨j+1,(ca+lo+P)/1000000000,by omega,by go_num,congrArg (Value.int .u64) (by omega),HSt.out.2.1,?_,HB2.out.setCell hg _,HE2.out.setCell _ _⟩,by simp [intOf];omega⟩
     refine Hid.intro (ArrAt.congr (HA2.out.set hij (.int .u64 (((ca:Int)+((lo:Int)+(P:Int)))%1000000000))) fun p _ => ?_)
     rw [cellM_step]
     by_cases e:p=i0+j
     ·rw [if_pos e,if_pos e,HSt.out.1]
      exact congrArg (Value.int .u64) (by omega)
     ·rw [if_neg e,if_neg e]
    ·have hjl0:j=l:=by omega
     subst hjl0
     have hij:i0+j<k+j:=by omega
     have z1:∃v,wr.cell? ⟨g,i0+j,none⟩=some v:=⟨_,(HA2.out (i0+j) hij).1⟩
     obtain⟨v1,z1⟩:=z1
     have z2:=(HA2.out (i0+j) hij).2
     gi_wp2
     refine⟨⟨i0+1,by omega,by go_num,?_,HB2.out.setCell hg _,HE2.out.setCell _ _⟩,by simp [intOf];omega⟩
     refine Hid.intro (ArrAt.congr (HA2.out.set hij (.int .u64 (ca:Int))) fun p _ => ?_)
     have ce:=cellM_end (x:=x) (i:=i0) (p:=p) HL.out.1
     have re:=(row_end (x:=x) (i:=i0) HL.out.1).2
     rw [HSS.out,HCX.out]at ce re
     rw [←ce,←re,HC.out]
     by_cases e:p=i0+j
     ·rw [if_pos e,if_pos e]
     ·rw [if_neg e,if_neg e]
  ·have hik0:i0=k:=by omega
   subst hik0
   have hlt:x*y<B^(i0+l):=prod_len HK.out.1 HL.out.1
   have hla:LimbsAt wr (.slice (some ⟨g,0,none⟩) (i0+l) (i0+l)) (x*y) (i0+l):=by
    rcases Nat.eq_zero_or_pos (i0+l)with h|h
    ·rw [h];exact .inl ⟨rfl,_,_,rfl⟩
    ·refine ArrAt.limbs (ArrAt.congr HA.out fun p _ => ?_) h (Nat.le_refl _) ⟨by omega,by omega⟩ HE.out
     rw [low_high HK.out.1]
   have HT:=Hid.intro (trim_calls wr _ (x*y) (i0+l) hla hlt)
   clear hlt hla
   gi_wp2_with (gi_at_call 138;refine HT.out.mono ?_;rintro e w7 ⟨v',rfl,hm,hB7⟩;have HM:=Hid.intro hm;have HB7:=Hid.intro (HBr.out.trans (hB7.mono HBr.out.size));clear hm hB7)
   all_goals (first|go_returns|go_ret|go_end0)
   exact⟨v',rfl,⟨HM.out.1,fresh_of HM.out.2 hg⟩,HB7.out⟩
theorem limb_moved(x n i:Nat):limb (x*B^n) i=if i<n then 0 else limb x (i-n):=by
 by_cases h:i<n
 ·rw [if_pos h]
  unfold limb
  obtain⟨d,rfl⟩:∃d,n=i+1+d:=⟨n-i-1,by omega⟩
  have:x*B^(i+1+d)=B^i*(B*(x*B^d)):=by
   rw [Nat.pow_add,Nat.pow_succ];ac_rfl
  rw [this,Nat.mul_div_cancel_left _ (pow_pos' i),Nat.mul_mod_right]
 ·rw [if_neg h]
  obtain⟨d,rfl⟩:∃d,i=n+d:=⟨i-n,by omega⟩
  unfold limb
  rw [Nat.pow_add,←Nat.div_div_eq_div_mul,Nat.mul_div_cancel _ (pow_pos' n)]
  rw [show n+d-n=d by omega]
theorem firstL_moved(x n k:Nat):(madeCells #[Value.int .u64 0] n).toList ++ firstL x k=firstL (x*B^n) (n+k):=by
 apply List.ext_getElem?
 intro i
 by_cases h:i<n
 ·rw [List.getElem?_append_left (by rw [Array.length_toList,size_madeCells];exact h),made_limbs h]
  simp [firstL,show i<n+k by omega,limb_moved,h]
 ·rw [List.getElem?_append_right (by rw [Array.length_toList,size_madeCells];omega),Array.length_toList,size_madeCells]
  by_cases h2:i<n+k
  ·simp [firstL,h2,limb_moved,h,show i-n<k by omega]
  ·simp [firstL,h2,show ¬i-n<k by omega]
theorem wpListIn_make_part{F:Fence}{n:Nat}{P:Program}(w:World){ops:Array Oper}{rest:List Oper}{o:Oper}{a:Act}{Q:Exit→Act→World→Prop}
  (hg:o.guard=none) (l c:Operand) (t:TypeId) (hop:o.op=Op.makeSlice t l c)
  (base:Nat) (e:TypeId) (i:TypeInfo) (z:Value) (size:Nat) (h1:P.underlying t=some (.slice e)) (h2:P.info? e=some i) (h3:i.zero=some z) (h4:i.size=size)
  (kl kc:IntKind) (L C:Int) (m cap:Nat) (hl:a.eval l = .int kl L) (hc:a.eval c = .int kc C) (hL:L=(m:Int)) (hC:C=(cap:Int)) (hmc:m≤cap) (b2:i.bytes*cap≤281474976710656) (b3:cap≤maxLen) (b4:base≤w.heap.size)
  (hK:∀w',w'.ownsRow base e size (.slice (some ⟨w.heap.size,0,none⟩) m cap) m ((madeCells z.cells (cap*size)).toList.take (m*size))→w.grownBy w' none→wpListIn F n P ops Q rest (a.put o.dst (.slice (some ⟨w.heap.size,0,none⟩) m cap)) w') :
  wpListIn F n P ops Q (o :: rest) a w:=by
 refine wpListIn_plain hg fun K hK' => ?_
 subst hL
 subst hC
 subst h4
 have h63':(cap:Int)≤9223372036854775807:=by
  have h:=b3
  simp [maxLen]at h
  omega
 have hb':(i.bytes:Int)*(cap:Int)≤281474976710656:=by
  have h:((i.bytes*cap:Nat):Int)≤281474976710656:=by omega
  rwa [Int.natCast_mul]at h
 have hrun:=run_make (P:=P) w t e i z h1 h2 h3 kl kc m cap (by omega) (by omega) hb' h63'
 simp only [Int.toNat_natCast]at hrun
 unfold Oper.wpIn
 refine⟨?_,?_⟩
 ·simp [Oper.about,hop]
 ·rw [Oper.semAt_plain F _ _ (by rw [hop];intro c hc';cases hc')]
  simp [execOp,hop,hl,hc,hrun,Result.andThen]
  refine hK' _ _ (hK _ ?_ (World.grownBy_alloc w _ none))
  have hs:=size_madeCells z.cells (cap*i.size)
  refine⟨?_,.inr ⟨w.heap.size,cap,_,rfl,b4,heap_alloc_new w _,hmc,b3,hs,rfl⟩⟩
  rw [List.length_take,Array.length_toList,hs]
  exact Nat.min_eq_left (Nat.mul_le_mul_right _ hmc)
theorem take_made(z:Value)(m cap:Nat)(h:m≤cap):(madeCells #[z] cap).toList.take m=(madeCells #[z] m).toList:=by
 apply List.ext_getElem?
 intro i
 by_cases hi:i<m
 ·rw [List.getElem?_take_of_lt hi]
  simp [madeCells,hi,show i<cap by omega,Nat.mod_one]
 ·rw [List.getElem?_take_eq_none (by omega)]
  simp [madeCells,hi]
theorem wpListIn_append_nothing{F:Fence}{n:Nat}{P:Program}(w:World){ops:Array Oper}{rest:List Oper}{o:Oper}{a:Act}{Q:Exit→Act→World→Prop}
  (hg:o.guard=none) (s x:Operand) (t:TypeId) (hop:o.op=Op.call {callee:=Callee.builtin Builtin.append,args:=#[s,x],argTypes:=#[t,t]})
  (e:TypeId) (i:TypeInfo) (h1:P.underlying t=some (.slice e)) (h2:P.info? e=some i)
  (g off k cap:Nat) (hk:k≤cap) (hs:a.eval s = .slice (some ⟨g,off,none⟩) k cap) (ad:Option Addr) (c:Nat) (hx:a.eval x = .slice ad 0 c)
  (hK:wpListIn F n P ops Q rest (a.put o.dst (.slice (some ⟨g,off,none⟩) k cap)) w) :
  wpListIn F n P ops Q (o :: rest) a w:=by
 refine wpListIn_plain hg fun K hK' => ?_
 have hsrc:Src P i.size t (.slice ad 0 c) 0 [] w:=by
  cases ad with
  | none=>exact Src.ofNil w h1 c
  | some ad=>exact Src.ofSlice w h1 ad 0 c [] (by simp) (fun j u h=>by simp at h) (fun _ h=>by cases h)
 have hrun:=run_append_room_src (P:=P) w t t o.type e i h1 h2 g off k cap _ 0 [] hsrc (by omega) (fun j h=>by simp at h) (fun j h=>by simp at h)
 have he:w.setCells g (off+k*i.size) []=w:=rfl
 rw [he,Nat.add_zero]at hrun
 unfold Oper.wpIn
 refine⟨?_,?_⟩
 ·simp [Oper.about,hop,resolve,Target.leads,Sem.run_pure]
 ·rw [Oper.semAt_plain F _ _ (by rw [hop];intro c hc';cases hc')]
  simp [execOp,hop,resolve,invoke,builtin,hs,hx,hrun,Result.andThen]
  exact hK' _ _ hK
set_option maxRecDepth 100000 in
set_option maxHeartbeats 8000000 in
theorem moved_calls(w:World)(va:Value)(x n L:Nat)(ha:MagAt w va x)(hx:x<B^L)(hL:L≤100000000)(hn:n≤100000000) :
  CallsIn Fence.wide 0 Tryz.prog 212 #[va,.int .i64 (n:Int)] w fun e w'=>∃v',e = .returned v'∧(MagAt w' v' (x*B^n)∧Fresh w.heap.size v')∧Below w.heap.size w w':=by
 obtain⟨k,hk,hla⟩:=ha
 have hkL:=hk.le hx
 clear hx
 obtain⟨o1,c1,rfl,h1⟩:=hla.form
 have H1:=Hid.intro h1
 have HK:=Hid.intro hk
 clear h1 hk hla
 have hlt:x*B^n<B^(n+k):=by
  rw [Nat.pow_add,Nat.mul_comm]
  exact Nat.mul_lt_mul_of_pos_left HK.out.1 (pow_pos' n)
 have HLT:=Hid.intro hlt
 clear hlt
 refine callsIn_of_wp Tryz.func212 rfl trivial ?_ rfl
 simp only [Tryz.ntmps212,List.size_toArray,List.length_cons,List.length_nil,Nat.reduceAdd,Nat.reduceSub,Array.replicate_succ,Array.replicate_zero,List.push_toArray,List.append_toArray,List.nil_append,List.cons_append]
 gi_wp2_with (gi_at_make;refine stop ?_)
 unfold Stop
 refine wpListIn_make_part _ rfl _ _ _ rfl w.heap.size 116 Tryz.t116 _ 1 Go.Num.u23 t111_info t111_zero t111_size _ _ _ _ n (n+k) rfl rfl (by omega) (by omega) (by omega) (by rw [t111_bytes];omega) (by unfold maxLen;omega) (Nat.le_refl _) ?_
 intro W4 hown hgrow
 have HB4:Hid (Below w.heap.size w W4):=(Below.refl _ w).grown hgrow (Nat.le_refl _) (fun _ h=>by cases h)
 have HO4:Hid (W4.ownsRow w.heap.size 116 1 (.slice (some ⟨w.heap.size,0,none⟩) n (n+k)) n (madeCells #[Value.int .u64 0] n).toList):=by
  have e:=take_made (.int .u64 0) n (n+k) (by omega)
  have h:=hown
  rw [Nat.mul_one,Nat.mul_one]at h
  rw [←e]
  exact h
 obtain⟨g,hg'⟩:∃g,w.heap.size=g:=⟨_,rfl⟩
 rw [hg']at HO4
 rw [hg']
 clear hown hgrow
 by_cases hk0:k=0
 ·subst hk0
  gi_wp2_with (gi_at_builtin;refine stop ?_)
  unfold Stop
  refine wpListIn_append_nothing _ rfl _ _ _ rfl _ Tryz.t116 Go.Num.u23 t111_info g 0 n n (Nat.le_refl _) rfl o1 c1 rfl ?_
  have hla:LimbsAt W4 (.slice (some ⟨g,0,none⟩) n n) (x*B^n) n:=by
   refine row_limbs (base:=g) ?_ (by omega)
   have:=firstL_moved x n 0
   rw [Nat.add_zero]at this
   rw [←this]
   have h0:firstL x 0 = []:=rfl
   rw [h0,List.append_nil]
   exact HO4.out
  have HT:=Hid.intro (trim_calls W4 _ (x*B^n) n hla HLT.out)
  clear hla
  gi_wp2_with (gi_at_call 138;refine HT.out.mono ?_;rintro e w7 ⟨v',rfl,hm,hB7⟩;have HM:=Hid.intro hm;have HB7:=Hid.intro (HB4.out.trans (hB7.mono HB4.out.size));clear hm hB7)
  all_goals (first|go_returns|go_ret|go_end0)
  exact⟨v',rfl,⟨HM.out.1,fresh_of HM.out.2 (by show w.heap.size≤g;omega)⟩,HB7.out⟩
 ·obtain⟨a1,rfl,ha1,hc1'⟩:=H1.out (by omega)
  have HC1:=Hid.intro hc1'
  clear hc1'
  gi_wp2_with (gi_at_builtin;refine stop ?_)
  unfold Stop
  refine wpListIn_append_fits _ rfl _ _ _ rfl g 116 Tryz.t116 1 Go.Num.u23 t111_info t111_size g n (n+k) _ rfl HO4.out a1 k c1 (firstL x k) rfl (by rw [firstL_len];omega) ?_ ?_ (Nat.le_refl _) ?_
  ·intro j u hu
   have hj:j<k:=by
    have:=(List.getElem?_eq_some_iff.1 hu).1
    rw [firstL_len]at this
    exact this
   have hcell:=(HB4.out.cell (p:=a1.add j) (by rw [add_block];exact ha1)).trans (HC1.out j hj)
   rw [hcell,←hu]
   simp [firstL,hj]
  ·intro u hu
   unfold firstL at hu
   obtain⟨i,_,rfl⟩:=List.mem_map.1 hu
   rfl
  ·intro w5 hown5 hgrow5
   have HB5:Hid (Below w.heap.size w w5):=HB4.out.grown hgrow5 HB4.out.size (fun k h=>by cases h;omega)
   rw [firstL_moved]at hown5
   have hla:=row_limbs hown5 (by omega)
   have HT:=Hid.intro (trim_calls w5 _ (x*B^n) (n+k) hla HLT.out)
   clear hla hown5 hgrow5
   gi_wp2_with (gi_at_call 138;refine HT.out.mono ?_;rintro e w7 ⟨v',rfl,hm,hB7⟩;have HM:=Hid.intro hm;have HB7:=Hid.intro (HB5.out.trans (hB7.mono HB5.out.size));clear hm hB7)
   all_goals (first|go_returns|go_ret|go_end0)
   exact⟨v',rfl,⟨HM.out.1,fresh_of HM.out.2 (by show w.heap.size≤g;omega)⟩,HB7.out⟩
def topL(q i j:Nat):Nat:=if i≤j then limb q j else 0
set_option maxRecDepth 100000 in
set_option maxHeartbeats 4000000 in
theorem short_calls(w:World)(va:Value)(x b:Nat)(h:MagAt w va x)(hb:0<b)(hB:b<B) :
  CallsIn Fence.wide 0 Tryz.prog 211 #[va,.int .u64 (b:Int)] w fun e w'=>∃v',e = .returned (.tuple #[v',.int .u64 ((x%b:Nat):Int)])∧(MagAt w' v' (x/b)∧Fresh w.heap.size v')∧Below w.heap.size w w':=by
 obtain⟨k,hk,hl⟩:=h
 have hks:=hl.small
 obtain⟨o,c,rfl,h1⟩:=hl.form
 have H1:=Hid.intro h1
 have HK:=Hid.intro hk
 have HB:=Hid.intro hB
 have hBB:b<1000000000:=hB
 clear h1 hk hl hB
 refine callsIn_of_wp Tryz.func211 rfl trivial ?_ rfl
 simp only [Tryz.ntmps211,List.size_toArray,List.length_cons,List.length_nil,Nat.reduceAdd,Nat.reduceSub,Array.replicate_succ,Array.replicate_zero,List.push_toArray,List.append_toArray,List.nil_append,List.cons_append]
 gi_wp2_with (gi_at_make;refine stop ?_)
 unfold Stop
 refine wpListIn_make_full _ rfl _ _ _ rfl w.heap.size 116 Tryz.t116 _ 1 u23 t111_info t111_zero t111_size _ _ _ _ k rfl rfl rfl rfl (by rw [t111_bytes];omega) (by unfold maxLen;omega) (Nat.le_refl _) ?_
 intro W4 hown hgrow
 obtain⟨g,hg'⟩:∃g,w.heap.size=g:=⟨_,rfl⟩
 have HA4:Hid (ArrAt W4 g k fun i => .int .u64 ((topL (x/b) k i:Nat):Int)):=by
  rw [←hg']
  exact ArrAt.of_row hown fun i hi=>by unfold topL;rw [if_neg (by omega)];exact made_limbs (by omega)
 have HB5:Hid (Below w.heap.size w W4):=(Below.refl _ w).grown hgrow (Nat.le_refl _) (fun _ h=>by cases h)
 have hg:w.heap.size≤g:=by omega
 have HE5:Hid (Elem W4 g 116):=by rw [←hg'];exact elem_of_row hown
 rw [hg']
 clear hown hgrow hg'
 gi_wp2
 gi_loopw [7,8] (fun r i wr=>∃(i0:Int) (r0:Nat),-1≤i0∧i0<k∧i = .int .i64 i0∧r = .int .u64 (r0:Int)∧r0<b∧Hid (x/B^(i0+1).toNat%b=r0)∧Hid (ArrAt wr g k fun j => .int .u64 ((topL (x/b) (i0+1).toNat j:Nat):Int))∧Hid (Below w.heap.size w wr)∧Hid (Elem wr g 116)) (fun _ i _=>(intOf i+1).toNat)
 case atStart=>exact⟨(k:Int)-1,0,by omega,by omega,rfl,rfl,hb,Hid.intro (by
  rw [show((k:Int)-1+1).toNat=k by omega,Nat.div_eq_of_lt HK.out.1,Nat.zero_mod]),by rw [show((k:Int)-1+1).toNat=k by omega];exact HA4.out,HB5.out,HE5.out⟩
 case round=>
  obtain⟨i0,r0,hi1,hi2,rfl,rfl,hr,HR,HA,HBr,HE⟩:=hrel
  clear HA4 HB5 HE5
  by_cases h0:0≤i0
  ·obtain⟨m,rfl⟩:∃m:Nat,i0=(m:Int):=⟨i0.toNat,by omega⟩
   obtain⟨a,rfl,ha,hc⟩:=H1.out (by omega)
   have p:=(HBr.out.cell (p:=a.add m) (by rw [add_block];exact ha)).trans (hc m (by omega))
   rw [show((m:Int)+1).toNat=m+1 by omega]at HR HA
   have s1:=short_limb hb (Nat.le_of_lt HB.out) x m
   have s2:=(rest_step x b m).1
   rw [HR.out]at s1 s2
   obtain⟨l,hl⟩:∃l,limb x m=l:=⟨_,rfl⟩
   have hlB:l<1000000000:=by rw [←hl];exact limb_lt x m
   rw [hl]at p s1 s2
   have hmk:m<k:=by omega
   have z1:wr.cell? ⟨g,m,none⟩=some (.int .u64 0):=(HA.out m hmk).1.trans (by show some (Value.int .u64 ((topL (x/b) (m+1) m:Nat):Int))=_;unfold topL;rw [if_neg (by omega)];rfl)
   have z2:=(HA.out m hmk).2
   obtain⟨t,ht⟩:∃t,r0*B+l=t:=⟨_,rfl⟩
   have htB:t<18446744073709551616:=by
    rw [←ht]
    have:r0*B≤1000000000*1000000000:=Nat.mul_le_mul (by omega) (Nat.le_refl _)
    omega
   have e1:IntKind.u64.wrap ((r0:Int)*1000000000)=((r0*1000000000:Nat):Int):=by
    have:r0*1000000000<18446744073709551616:=by omega
    have:=u64_small this
    rw [←this]
    simp
   have e2:IntKind.u64.wrap (((r0*1000000000:Nat):Int)+(l:Int))=(t:Int):=by
    have:=u64_small htB
    rw [←this,←ht]
    simp [B]
   rw [ht]at s1 s2
   have e3:((t:Int).tdiv (b:Int))=((t/b:Nat):Int):=rfl
   have e4:((t:Int).tmod (b:Int))=((t%b:Nat):Int):=rfl
   obtain⟨Q,hQ⟩:∃Q,t/b=Q:=⟨_,rfl⟩
   obtain⟨R,hRR⟩:∃R,t%b=R:=⟨_,rfl⟩
   rw [hQ]at s1 e3
   rw [hRR]at s2 e4
   have hRb:R<b:=by rw [←hRR];exact Nat.mod_lt _ hb
   have hQt:Q<18446744073709551616:=by rw [←hQ];exact Nat.lt_of_le_of_lt (Nat.div_le_self _ _) htB
   have e5:=u64_small hQt
   have e6:((r0:Int)*1000000000+(l:Int))/(b:Int)=(Q:Int):=by rw [←hQ,←ht];simp [B]
   have e7:((r0:Int)*1000000000+(l:Int))%(b:Int)=(R:Int):=by rw [←hRR,←ht];simp [B]
   have S1:=Hid.intro s1
   have S2:=Hid.intro s2
   have hb0:¬(b:Int)=0:=by omega
   clear hc hl s1 s2 ht hQ hRR
   gi_wp2
   refine⟨⟨(m:Int)-1,R,by omega,by omega,by go_num,congrArg (Value.int .u64) e7,hRb,?_,?_,HBr.out.setCell hg _,HE.out.setCell _ _⟩,by simp [intOf]⟩
   ·rw [show((m:Int)-1+1).toNat=m by omega]
    exact S2.out.symm
   ·rw [show((m:Int)-1+1).toNat=m by omega]
    refine Hid.intro (ArrAt.congr (HA.out.set hmk (.int .u64 (Q:Int))) fun j _ => ?_)
    unfold topL
    by_cases e:j=m
    ·subst e
     rw [if_pos rfl,if_pos (Nat.le_refl _),S1.out]
    ·rw [if_neg e]
     by_cases e2:m+1≤j
     ·rw [if_pos e2,if_pos (by omega)]
     ·rw [if_neg e2,if_neg (by omega)]
  ·have hm1:i0 = -1:=by omega
   subst hm1
   have hr0:x%b=r0:=by
    have:=HR.out
    simpa using this
   have HRE:=Hid.intro hr0
   have hlt:x/b<B^k:=Nat.lt_of_le_of_lt (Nat.div_le_self _ _) HK.out.1
   have hla:LimbsAt wr (.slice (some ⟨g,0,none⟩) k k) (x/b) k:=by
    rcases Nat.eq_zero_or_pos k with h|h
    ·subst h;exact .inl ⟨rfl,_,_,rfl⟩
    ·refine ArrAt.limbs (ArrAt.congr HA.out fun j _ => ?_) h (Nat.le_refl _) ⟨hks,by omega⟩ HE.out
     unfold topL
     rw [if_pos (by simp)]
   have HT:=Hid.intro (trim_calls wr _ (x/b) k hla hlt)
   clear hlt hla hr0
   gi_wp2_with (gi_at_call 138;refine HT.out.mono ?_;rintro e w7 ⟨v',rfl,hm,hB7⟩;have HM:=Hid.intro hm;have HB7:=Hid.intro (HBr.out.trans (hB7.mono HBr.out.size));clear hm hB7)
   all_goals (first|go_returns|go_ret|go_end0)
   refine⟨v',?_,⟨HM.out.1,fresh_of HM.out.2 hg⟩,HB7.out⟩
   rw [HRE.out]
   rfl
end Go.Num
