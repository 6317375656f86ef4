/-
  A fraction of the program.
  Conditions: see each statement.
-/
import Derived.Test.YtoamcgjbelhnkaaGreatDoorSAA
import Derived.Test.YtoamcgjbelhnkaaGreatDoorSAC
import Derived.Deep.AppendSrc
import Derived.Deep.MidRow
set_option maxRecDepth 100000
set_option maxHeartbeats 8000000
namespace Go.Num
open Go.RowKit Go.Proofs Go.Proofs.YtoamcgjbelhnkaaGreatDoor
theorem zcN(w:World)(va vb:Value)(x y L:Nat)(ha:zas w va x)(hb:zas w vb y)(hyx:y≤x)(hx:x<B^L)(hL:L≤100000000) :
  CallsIn Fence.wide 0 Tryz.prog 132 #[va,vb] w fun e w'=>∃v',e = .returned v'∧(zas w' v' (x-y)∧zc1 w.heap.size v')∧Below w.heap.size w w':=by
 obtain⟨k,hk,hla⟩:=ha;obtain⟨l,hl,hlb⟩:=hb;have hkL:=hk.le hx;have hls:=hlb.small;clear hx;obtain⟨o1,c1,rfl,h1⟩:=hla.form;obtain⟨o2,c2,rfl,h2⟩:=hlb.form;have H1:=zHi h1;have H2:=zHi h2;have HK:=zHi hk;have HL:=zHi hl;have HYX:=zHi hyx;clear h1 h2 hk hl hla hlb hyx;refine callsIn_of_wp Tryz.func132 rfl trivial ?_ rfl;simp only [Tryz.ntmps132,ztH,ztI,ztJ,Nat.reduceAdd,Nat.reduceSub,ztK,ztL,ztM,ztN,ztO,ztP];gi_wp2_with (gi_at_make;refine stop ?_)
 unfold Stop;refine wpListIn_make_own _ rfl _ _ _ rfl w.heap.size 111 Tryz.t111 _ 1 Go.Num.u23 zci zde zcM _ _ _ k rfl rfl rfl (by rw [zcw];omega) (by unfold maxLen;omega) (Nat.le_refl _) ?_;intro W4 hown hgrow;have HO4:Hid (W4.ownsRow w.heap.size 111 1 _ 0 (zbE (x-y) 0)):=hown;have HB4:Hid (Below w.heap.size w W4):=(Below.refl _ w).grown hgrow (Nat.le_refl _) (fun _ h=>by cases h);clear hown hgrow;gi_wp2;gi_loopw [5,6,15] (fun v bv i wr=>∃j bo:Nat,j≤k∧i = .int .i64 (j:Int)∧bv = .int .u64 (bo:Int)∧Hid (za7 x y j=bo)∧Hid (wr.ownsRow w.heap.size 111 1 v j (zbE (x-y) j))∧Hid (Below w.heap.size w wr)) (fun _ _ i _=>k-(intOf i).toNat)
 case atStart=>exact⟨0,0,by omega,rfl,rfl,zHi (zgU x y),HO4.out,HB4.out⟩
 case round=>
  obtain⟨j,bo,hj,rfl,rfl,HC,HO,HBr⟩:=hrel;have hb1:bo≤1:=by rw [←HC.out];exact zfc x y j
  have s:=znw HYX.out j;rw [HC.out]at s;obtain⟨lx,hlx⟩:∃l,limb x j=l:=⟨_,rfl⟩;obtain⟨ly,hly⟩:∃l,limb y j=l:=⟨_,rfl⟩;have bx:lx<1000000000:=by rw [←hlx];exact zaA x j
  have by':ly<1000000000:=by rw [←hly];exact zaA y j
  rw [hlx,hly]at s;have hBB:B=1000000000:=rfl;rw [hBB]at s;have HSt:=zHi s;clear s HO4 HB4 hBB;by_cases hjk:j<k
  ·obtain⟨a1,rfl,ha1,hc1'⟩:=H1.out (by omega);have p1:=(HBr.out.cell (p:=a1.add j) (by rw [zac];exact ha1)).trans (hc1' j hjk);rw [hlx]at p1;clear hc1';by_cases hjl:j<l
   ·obtain⟨a2,rfl,ha2,hc2'⟩:=H2.out (by omega);have p2:=(HBr.out.cell (p:=a2.add j) (by rw [zac];exact ha2)).trans (hc2' j hjl);rw [hly]at p2;clear hc2' hlx hly;by_cases hlt:lx<ly+bo
    ·have hs:=HSt.out.1 hlt;have HS:=zHi hs;have hlt':(lx:Int)<(bo:Int)+(ly:Int):=by omega
     clear hs hlt;gi_wp2_with (gi_at_builtin;refine stop ?_)
     unfold Stop;refine zbv w wr rfl _ _ rfl u5 j (x-y) rfl HO _ _ rfl ?_ (by omega) HBr ?_
     ·rw [HS.out.2];omega
     ·intro v2 w2 HO2 HB2;gi_wp2;exact⟨⟨j+1,1,by omega,by go_num,rfl,HS.out.1,HO2,HB2⟩,by simp [intOf];omega⟩
    ·have hs:=HSt.out.2 hlt;have HS:=zHi hs;have hlt':¬(lx:Int)<(bo:Int)+(ly:Int):=by omega
     clear hs;gi_wp2_with (gi_at_builtin;refine stop ?_)
     unfold Stop;refine zbv w wr rfl _ _ rfl u5 j (x-y) rfl HO _ _ rfl ?_ (by omega) HBr ?_
     ·rw [HS.out.2];omega
     ·intro v2 w2 HO2 HB2;gi_wp2;exact⟨⟨j+1,0,by omega,by go_num,rfl,HS.out.1,HO2,HB2⟩,by simp [intOf];omega⟩
   ·have hy0:ly=0:=by rw [←hly];exact zaN (Nat.lt_of_lt_of_le HL.out.1 (zag (by omega)))
    subst hy0;clear hlx hly;by_cases hlt:lx<0+bo
    ·have hs:=HSt.out.1 hlt;have HS:=zHi hs;have hlt':(lx:Int)<(bo:Int):=by omega
     clear hs hlt;gi_wp2_with (gi_at_builtin;refine stop ?_)
     unfold Stop;refine zbv w wr rfl _ _ rfl u5 j (x-y) rfl HO _ _ rfl ?_ (by omega) HBr ?_
     ·rw [HS.out.2];omega
     ·intro v2 w2 HO2 HB2;gi_wp2;exact⟨⟨j+1,1,by omega,by go_num,rfl,HS.out.1,HO2,HB2⟩,by simp [intOf];omega⟩
    ·have hs:=HSt.out.2 hlt;have HS:=zHi hs;have hlt':¬(lx:Int)<(bo:Int):=by omega
     clear hs;gi_wp2_with (gi_at_builtin;refine stop ?_)
     unfold Stop;refine zbv w wr rfl _ _ rfl u5 j (x-y) rfl HO _ _ rfl ?_ (by omega) HBr ?_
     ·rw [HS.out.2];omega
     ·intro v2 w2 HO2 HB2;gi_wp2;exact⟨⟨j+1,0,by omega,by go_num,rfl,HS.out.1,HO2,HB2⟩,by simp [intOf];omega⟩
  ·have hjk0:j=k:=by omega
   subst hjk0;have hlt:x-y<B^j:=Nat.lt_of_le_of_lt (Nat.sub_le _ _) HK.out.1;have HT:=zHi (zbT wr _ (x-y) j (zeD HO.out (by omega)) hlt);clear hlx hly hlt;gi_wp2_with (gi_at_call 107;refine HT.out.mono ?_;rintro e w7 ⟨v',rfl,hm,hB7⟩;have HM:=zHi hm;have HB7:=zBt HBr hB7;clear hm hB7)
   all_goals (first|go_returns|go_ret|go_end0)
   exact⟨v',rfl,⟨HM.out.1,fun k hk=>zbU HO.out (HM.out.2 ▸ hk)⟩,HB7.out⟩
def zeo(S c y i j p:Nat):Nat:=if p<i+j then limb (rowT S c y i j) p else limb S p
theorem zju{S c y i:Nat}(p:Nat):zeo S c y i 0 p=limb S p:=by
 unfold zeo;rw [zk9];split <;> rfl
theorem zjv{S c y i j p:Nat}:zeo S c y i (j+1) p=if p=i+j then limb (rowT S c y i (j+1)) (i+j)else zeo S c y i j p:=by
 unfold zeo;by_cases e:p=i+j
 ·subst e;rw [if_pos rfl,if_pos (by omega)]
 ·rw [if_neg e];by_cases h:p<i+j
  ·rw [if_pos (by omega),if_pos h,(zkg S c y i j).2.2 p h]
  ·rw [if_neg (by omega),if_neg h]
theorem zl0{x y i l p:Nat}(hy:y<B^l):(if p=i+l then limb (x%B^(i+1)*y) (i+l)else zeo (x%B^i*y) (limb x i) y i l p)=limb (x%B^(i+1)*y) p:=by
 by_cases e:p=i+l
 ·subst e;rw [if_pos rfl]
 ·rw [if_neg e];unfold zeo;rw [(zmy hy).1];by_cases h:p<i+l
  ·rw [if_pos h]
  ·rw [if_neg h];have h1:x%B^i*y<B^p:=Nat.lt_of_lt_of_le (zaK (zcr x i) hy) (zag (by omega));have h2:x%B^(i+1)*y<B^p:=Nat.lt_of_lt_of_le (zaK (zcr x (i+1)) hy) (zag (by omega));rw [zaN h1,zaN h2]
theorem zbJ(w:World)(va vb:Value)(x y L:Nat)(ha:zas w va x)(hb:zas w vb y)(hx:x<B^L)(hy:y<B^L)(hL:L≤100000000) :
  CallsIn Fence.wide 0 Tryz.prog 118 #[va,vb] w fun e w'=>∃v',e = .returned v'∧(zas w' v' (x*y)∧zc1 w.heap.size v')∧Below w.heap.size w w':=by
 obtain⟨k,hk,hla⟩:=ha;obtain⟨l,hl,hlb⟩:=hb;have hkL:=hk.le hx;have hlL:=hl.le hy;clear hx hy;obtain⟨o1,c1,rfl,h1⟩:=hla.form;obtain⟨o2,c2,rfl,h2⟩:=hlb.form;have H1:=zHi h1;have H2:=zHi h2;have HK:=zHi hk;have HL:=zHi hl;clear h1 h2 hk hl hla hlb;refine callsIn_of_wp Tryz.func118 rfl trivial ?_ rfl;simp only [Tryz.ntmps118,ztH,ztI,ztJ,Nat.reduceAdd,Nat.reduceSub,ztK,ztL,ztM,ztN,ztO,ztP];gi_wp2_with (gi_at_make;refine stop ?_)
 unfold Stop;refine zaL _ rfl _ _ _ rfl w.heap.size 111 Tryz.t111 _ 1 Go.Num.u23 zci zde zcM _ _ _ _ (k+l) rfl rfl (by omega) (by omega) (by rw [zcw];omega) (by unfold maxLen;omega) (Nat.le_refl _) ?_;intro W4 hown hgrow;obtain⟨g,hg'⟩:∃g,w.heap.size=g:=⟨_,rfl⟩;have HA4:Hid (zaj W4 g (k+l) fun p => .int .u64 ((limb (x%B^0*y) p:Nat):Int)):=by
  rw [←hg'];exact zaj.of_row hown fun i hi=>by rw [zcK,Nat.zero_mul,zlC];exact zdO (by omega)
 have HB5:Hid (Below w.heap.size w W4):=(Below.refl _ w).grown hgrow (Nat.le_refl _) (fun _ h=>by cases h);have hg:w.heap.size≤g:=by omega
 have HE5:Hid (Elem W4 g 111):=by rw [←hg'];exact zcF hown
 rw [hg'];clear hown hgrow hg';gi_wp2;gi_loopw [19] (fun i wr=>∃i0:Nat,i0≤k∧i = .int .i64 (i0:Int)∧Hid (zaj wr g (k+l) fun p => .int .u64 ((limb (x%B^i0*y) p:Nat):Int))∧Hid (Below w.heap.size w wr)∧Hid (Elem wr g 111)) (fun i _=>k-(intOf i).toNat)
 case atStart=>exact⟨0,by omega,rfl,HA4.out,HB5.out,HE5.out⟩
 case round=>
  obtain⟨i0,hi,rfl,HA,HBr,HE⟩:=hrel;clear HA4 HB5 HE5;by_cases hik:i0<k
  ·obtain⟨a1,rfl,ha1,hc1'⟩:=H1.out (by omega);have p1:=(HBr.out.cell (p:=a1.add i0) (by rw [zac];exact ha1)).trans (hc1' i0 hik);obtain⟨cx,hcx⟩:∃l,limb x i0=l:=⟨_,rfl⟩;have bx:cx<1000000000:=by rw [←hcx];exact zaA x i0
   rw [hcx]at p1;obtain⟨S,hS⟩:∃S,x%B^i0*y=S:=⟨_,rfl⟩;have HCX:=zHi hcx;have HSS:=zHi hS;rw [hS]at HA;clear hc1' hcx hS;gi_wp2;gi_loopw [8,26] (fun cv jv wr=>∃(j ca:Nat),j≤l∧jv = .int .i64 (j:Int)∧cv = .int .u64 (ca:Int)∧Hid (zdo S cx y i0 j=ca)∧Hid (zaj wr g (k+l) fun p => .int .u64 ((zeo S cx y i0 j p:Nat):Int))∧Hid (Below w.heap.size w wr)∧Hid (Elem wr g 111)) (fun _ jv _=>l-(intOf jv).toNat)
   case atStart=>exact⟨0,0,by omega,rfl,rfl,zHi (zic _ _ _ _),zHi (zaj.congr HA.out fun p _=>by rw [zju]),HBr.out,HE.out⟩
   case round=>
    obtain⟨j,ca,hj,rfl,rfl,HC,HA2,HB2,HE2⟩:=hrel;have hcle:ca≤cx:=by rw [←HC.out];exact zid S cx y i0 j
    clear HA;by_cases hjl:j<l
    ·obtain⟨a2,rfl,ha2,hc2'⟩:=H2.out (by omega);have p2:=(HB2.out.cell (p:=a2.add j) (by rw [zac];exact ha2)).trans (hc2' j hjl);have s:=zkg S cx y i0 j;rw [HC.out]at s;obtain⟨ly,hly⟩:∃l,limb y j=l:=⟨_,rfl⟩;have by':ly<1000000000:=by rw [←hly];exact zaA y j
     obtain⟨lo,hlo⟩:∃l,limb S (i0+j)=l:=⟨_,rfl⟩;have bo:lo<1000000000:=by rw [←hlo];exact zaA S (i0+j)
     rw [hly]at p2 s;have hij:i0+j<k+l:=by omega
     have z1:wr.cell? ⟨g,i0+j,none⟩=some (.int .u64 (lo:Int)):=(HA2.out (i0+j) hij).1.trans (by show some (Value.int .u64 ((zeo S cx y i0 j (i0+j):Nat):Int))=_;unfold zeo;rw [if_neg (by omega),hlo]);have z2:=(HA2.out (i0+j) hij).2;rw [hlo]at s;obtain⟨P,hP⟩:∃P,cx*ly=P:=⟨_,rfl⟩;have hPB:P≤999999998000000001:=by
      rw [←hP];exact Nat.mul_le_mul (Nat.le_of_lt_succ bx) (Nat.le_of_lt_succ by')
     have e1:IntKind.u64.wrap ((cx:Int)*(ly:Int))=(P:Int):=by
      have:=zdE (x:=P) (by omega);rw [←this,←hP];simp
     rw [hP]at s;have hBB:B=1000000000:=rfl;rw [hBB]at s;have HSt:=zHi s;have hQ:(ca+lo+P)%1000000000<1000000000:=Nat.mod_lt _ (by decide);clear hc2' hly hlo hP s hBB;gi_wp2;refine⟨⟨j+1,(ca+lo+P)/1000000000,by omega,by go_num,congrArg (Value.int .u64) (by omega),HSt.out.2.1,?_,HB2.out.setCell hg _,HE2.out.setCell _ _⟩,by simp [intOf];omega⟩;refine zHi (zaj.congr (HA2.out.set hij (.int .u64 (((ca:Int)+((lo:Int)+(P:Int)))%1000000000))) fun p _ => ?_);rw [zjv];by_cases e:p=i0+j
     ·rw [if_pos e,if_pos e,HSt.out.1];exact congrArg (Value.int .u64) (by omega)
     ·rw [if_neg e,if_neg e]
    ·have hjl0:j=l:=by omega
     subst hjl0;have hij:i0+j<k+j:=by omega
     have z1:∃v,wr.cell? ⟨g,i0+j,none⟩=some v:=⟨_,(HA2.out (i0+j) hij).1⟩;obtain⟨v1,z1⟩:=z1;have z2:=(HA2.out (i0+j) hij).2;gi_wp2;refine⟨⟨i0+1,by omega,by go_num,?_,HB2.out.setCell hg _,HE2.out.setCell _ _⟩,by simp [intOf];omega⟩;refine zHi (zaj.congr (HA2.out.set hij (.int .u64 (ca:Int))) fun p _ => ?_);have ce:=zl0 (x:=x) (i:=i0) (p:=p) HL.out.1;have re:=(zmy (x:=x) (i:=i0) HL.out.1).2;rw [HSS.out,HCX.out]at ce re;rw [←ce,←re,HC.out];by_cases e:p=i0+j
     ·rw [if_pos e,if_pos e]
     ·rw [if_neg e,if_neg e]
  ·have hik0:i0=k:=by omega
   subst hik0;have hlt:x*y<B^(i0+l):=zaK HK.out.1 HL.out.1;have hla:zbw wr (.slice (some ⟨g,0,none⟩) (i0+l) (i0+l)) (x*y) (i0+l):=by
    rcases Nat.eq_zero_or_pos (i0+l)with h|h
    ·rw [h];exact .inl ⟨rfl,_,_,rfl⟩
    ·refine zaj.limbs (zaj.congr HA.out fun p _ => ?_) h (Nat.le_refl _) ⟨by omega,by omega⟩ HE.out;rw [zbc HK.out.1]
   have HT:=zHi (zbT wr _ (x*y) (i0+l) hla hlt);clear hlt hla;gi_wp2_with (gi_at_call 107;refine HT.out.mono ?_;rintro e w7 ⟨v',rfl,hm,hB7⟩;have HM:=zHi hm;have HB7:=zBt HBr hB7;clear hm hB7)
   all_goals (first|go_returns|go_ret|go_end0)
   exact⟨v',rfl,⟨HM.out.1,zc6 HM.out.2 hg⟩,HB7.out⟩
theorem zjg(x n i:Nat):limb (x*B^n) i=if i<n then 0 else limb x (i-n):=by
 by_cases h:i<n
 ·rw [if_pos h];unfold limb;obtain⟨d,rfl⟩:∃d,n=i+1+d:=⟨n-i-1,by omega⟩;have:x*B^(i+1+d)=B^i*(B*(x*B^d)):=by
   rw [Nat.pow_add,Nat.pow_succ];ac_rfl
  rw [this,Nat.mul_div_cancel_left _ (zar i),Nat.mul_mod_right]
 ·rw [if_neg h];obtain⟨d,rfl⟩:∃d,i=n+d:=⟨i-n,by omega⟩;unfold limb;rw [Nat.pow_add,←Nat.div_div_eq_div_mul,Nat.mul_div_cancel _ (zar n)];rw [show n+d-n=d by omega]
theorem zgP(x n k:Nat):(madeCells #[Value.int .u64 0] n).toList ++ zbE x k=zbE (x*B^n) (n+k):=by
 apply List.ext_getElem?
 intro i;by_cases h:i<n
 ·rw [List.getElem?_append_left (by rw [Array.length_toList,size_madeCells];exact h),zdO h];simp [zbE,show i<n+k by omega,zjg,h]
 ·rw [List.getElem?_append_right (by rw [Array.length_toList,size_madeCells];omega),Array.length_toList,size_madeCells];by_cases h2:i<n+k
  ·simp [zbE,h2,zjg,h,show i-n<k by omega]
  ·simp [zbE,h2,show ¬i-n<k by omega]
theorem zfI{F:Fence}{n:Nat}{P:Program}(w:World){ops:Array Oper}{rest:List Oper}{o:Oper}{a:Act}{Q:Exit→Act→World→Prop}
  (hg:o.guard=none) (l c:Operand) (t:TypeId) (hop:o.op=Op.makeSlice t l c)
  (base:Nat) (e:TypeId) (i:TypeInfo) (z:Value) (size:Nat) (h1:P.underlying t=some (.slice e)) (h2:P.info? e=some i) (h3:i.zero=some z) (h4:i.size=size)
  (kl kc:IntKind) (L C:Int) (m cap:Nat) (hl:a.eval l = .int kl L) (hc:a.eval c = .int kc C) (hL:L=(m:Int)) (hC:C=(cap:Int)) (hmc:m≤cap) (b2:i.bytes*cap≤281474976710656) (b3:cap≤maxLen) (b4:base≤w.heap.size)
  (hK:∀w',w'.ownsRow base e size (.slice (some ⟨w.heap.size,0,none⟩) m cap) m ((madeCells z.cells (cap*size)).toList.take (m*size))→w.grownBy w' none→wpListIn F n P ops Q rest (a.put o.dst (.slice (some ⟨w.heap.size,0,none⟩) m cap)) w') :
  wpListIn F n P ops Q (o :: rest) a w:=by
 refine wpListIn_plain hg fun K hK' => ?_
 subst hL;subst hC;subst h4;have h63':(cap:Int)≤9223372036854775807:=by
  have h:=b3;simp [maxLen]at h
  omega
 have hb':(i.bytes:Int)*(cap:Int)≤281474976710656:=by
  have h:((i.bytes*cap:Nat):Int)≤281474976710656:=by omega
  rwa [Int.natCast_mul]at h
 have hrun:=run_make (P:=P) w t e i z h1 h2 h3 kl kc m cap (by omega) (by omega) hb' h63';simp only [Int.toNat_natCast]at hrun;unfold Oper.wpIn;refine⟨?_,?_⟩
 ·simp [Oper.about,hop]
 ·rw [Oper.semAt_plain F _ _ (by rw [hop];intro c hc';cases hc')];simp [execOp,hop,hl,hc,hrun,Result.andThen]
  refine hK' _ _ (hK _ ?_ (World.grownBy_alloc w _ none));have hs:=size_madeCells z.cells (cap*i.size);refine⟨?_,.inr ⟨w.heap.size,cap,_,rfl,b4,heap_alloc_new w _,hmc,b3,hs,rfl⟩⟩;rw [List.length_take,Array.length_toList,hs];exact Nat.min_eq_left (Nat.mul_le_mul_right _ hmc)
theorem zpw(z:Value)(m cap:Nat)(h:m≤cap):(madeCells #[z] cap).toList.take m=(madeCells #[z] m).toList:=by
 apply List.ext_getElem?
 intro i;by_cases hi:i<m
 ·rw [List.getElem?_take_of_lt hi];simp [madeCells,hi,show i<cap by omega,Nat.mod_one]
 ·rw [List.getElem?_take_eq_none (by omega)];simp [madeCells,hi]
theorem zch{F:Fence}{n:Nat}{P:Program}(w:World){ops:Array Oper}{rest:List Oper}{o:Oper}{a:Act}{Q:Exit→Act→World→Prop}
  (hg:o.guard=none) (s x:Operand) (t:TypeId) (hop:o.op=Op.call {callee:=Callee.builtin Builtin.append,args:=#[s,x],argTypes:=#[t,t]})
  (e:TypeId) (i:TypeInfo) (h1:P.underlying t=some (.slice e)) (h2:P.info? e=some i)
  (g off k cap:Nat) (hk:k≤cap) (hs:a.eval s = .slice (some ⟨g,off,none⟩) k cap) (ad:Option Addr) (c:Nat) (hx:a.eval x = .slice ad 0 c)
  (hK:wpListIn F n P ops Q rest (a.put o.dst (.slice (some ⟨g,off,none⟩) k cap)) w) :
  wpListIn F n P ops Q (o :: rest) a w:=by
 refine wpListIn_plain hg fun K hK' => ?_
 have hsrc:Src P i.size t (.slice ad 0 c) 0 [] w:=by
  cases ad with
  | none=>exact Src.ofNil w h1 c
  | some ad=>exact Src.ofSlice w h1 ad 0 c [] (by simp) (fun j u h=>by simp at h) (fun _ h=>by cases h)
 have hrun:=run_append_room_src (P:=P) w t t o.type e i h1 h2 g off k cap _ 0 [] hsrc (by omega) (fun j h=>by simp at h) (fun j h=>by simp at h);have he:w.setCells g (off+k*i.size) []=w:=rfl;rw [he,Nat.add_zero]at hrun;unfold Oper.wpIn;refine⟨?_,?_⟩
 ·simp [Oper.about,hop,resolve,Target.leads,Sem.run_pure]
 ·rw [Oper.semAt_plain F _ _ (by rw [hop];intro c hc';cases hc')];simp [execOp,hop,resolve,invoke,builtin,hs,hx,hrun,Result.andThen]
  exact hK' _ _ hK
theorem zea(w:World)(va:Value)(x n L:Nat)(ha:zas w va x)(hx:x<B^L)(hL:L≤100000000)(hn:n≤100000000) :
  CallsIn Fence.wide 0 Tryz.prog 150 #[va,.int .i64 (n:Int)] w fun e w'=>∃v',e = .returned v'∧(zas w' v' (x*B^n)∧zc1 w.heap.size v')∧Below w.heap.size w w':=by
 obtain⟨k,hk,hla⟩:=ha;have hkL:=hk.le hx;clear hx;obtain⟨o1,c1,rfl,h1⟩:=hla.form;have H1:=zHi h1;have HK:=zHi hk;clear h1 hk hla;have hlt:x*B^n<B^(n+k):=by
  rw [Nat.pow_add,Nat.mul_comm];exact Nat.mul_lt_mul_of_pos_left HK.out.1 (zar n)
 have HLT:=zHi hlt;clear hlt;refine callsIn_of_wp Tryz.func150 rfl trivial ?_ rfl;simp only [Tryz.ntmps150,ztH,ztI,ztJ,Nat.reduceAdd,Nat.reduceSub,ztK,ztL,ztM,ztN,ztO,ztP];gi_wp2_with (gi_at_make;refine stop ?_)
 unfold Stop;refine zfI _ rfl _ _ _ rfl w.heap.size 111 Tryz.t111 _ 1 Go.Num.u23 zci zde zcM _ _ _ _ n (n+k) rfl rfl (by omega) (by omega) (by omega) (by rw [zcw];omega) (by unfold maxLen;omega) (Nat.le_refl _) ?_;intro W4 hown hgrow;have HB4:Hid (Below w.heap.size w W4):=(Below.refl _ w).grown hgrow (Nat.le_refl _) (fun _ h=>by cases h);have HO4:Hid (W4.ownsRow w.heap.size 111 1 (.slice (some ⟨w.heap.size,0,none⟩) n (n+k)) n (madeCells #[Value.int .u64 0] n).toList):=by
  have e:=zpw (.int .u64 0) n (n+k) (by omega);have h:=hown;rw [Nat.mul_one,Nat.mul_one]at h;rw [←e];exact h
 obtain⟨g,hg'⟩:∃g,w.heap.size=g:=⟨_,rfl⟩;rw [hg']at HO4;rw [hg'];clear hown hgrow;by_cases hk0:k=0
 ·subst hk0;gi_wp2_with (gi_at_builtin;refine stop ?_)
  unfold Stop;refine zch _ rfl _ _ _ rfl _ Tryz.t111 Go.Num.u23 zci g 0 n n (Nat.le_refl _) rfl o1 c1 rfl ?_;have hla:zbw W4 (.slice (some ⟨g,0,none⟩) n n) (x*B^n) n:=by
   refine zeD (base:=g) ?_ (by omega);have:=zgP x n 0;rw [Nat.add_zero]at this;rw [←this];have h0:zbE x 0 = []:=rfl;rw [h0,List.append_nil];exact HO4.out
  have HT:=zHi (zbT W4 _ (x*B^n) n hla HLT.out);clear hla;gi_wp2_with (gi_at_call 107;refine HT.out.mono ?_;rintro e w7 ⟨v',rfl,hm,hB7⟩;have HM:=zHi hm;have HB7:=zBt HB4 hB7;clear hm hB7)
  all_goals (first|go_returns|go_ret|go_end0)
  exact⟨v',rfl,⟨HM.out.1,zc6 HM.out.2 (by show w.heap.size≤g;omega)⟩,HB7.out⟩
 ·obtain⟨a1,rfl,ha1,hc1'⟩:=H1.out (by omega);have HC1:=zHi hc1';clear hc1';gi_wp2_with (gi_at_builtin;refine stop ?_)
  unfold Stop;refine wpListIn_append_fits _ rfl _ _ _ rfl g 111 Tryz.t111 1 Go.Num.u23 zci zcM g n (n+k) _ rfl HO4.out a1 k c1 (zbE x k) rfl (by rw [zjl];omega) ?_ ?_ (Nat.le_refl _) ?_
  ·intro j u hu;have hj:j<k:=by
    have:=(List.getElem?_eq_some_iff.1 hu).1;rw [zjl]at this;exact this
   have hcell:=(HB4.out.cell (p:=a1.add j) (by rw [zac];exact ha1)).trans (HC1.out j hj);rw [hcell,←hu];simp [zbE,hj]
  ·intro u hu;unfold zbE at hu;obtain⟨i,_,rfl⟩:=List.mem_map.1 hu;rfl
  ·intro w5 hown5 hgrow5;have HB5:Hid (Below w.heap.size w w5):=HB4.out.grown hgrow5 HB4.out.size (fun k h=>by cases h;omega);rw [zgP]at hown5;have hla:=zeD hown5 (by omega);have HT:=zHi (zbT w5 _ (x*B^n) (n+k) hla HLT.out);clear hla hown5 hgrow5;gi_wp2_with (gi_at_call 107;refine HT.out.mono ?_;rintro e w7 ⟨v',rfl,hm,hB7⟩;have HM:=zHi hm;have HB7:=zBt HB5 hB7;clear hm hB7)
   all_goals (first|go_returns|go_ret|go_end0)
   exact⟨v',rfl,⟨HM.out.1,zc6 HM.out.2 (by show w.heap.size≤g;omega)⟩,HB7.out⟩
def topL(q i j:Nat):Nat:=if i≤j then limb q j else 0
theorem zhl(w:World)(va:Value)(x b:Nat)(h:zas w va x)(hb:0<b)(hB:b<B) :
  CallsIn Fence.wide 0 Tryz.prog 149 #[va,.int .u64 (b:Int)] w fun e w'=>∃v',e = .returned (.tuple #[v',.int .u64 ((x%b:Nat):Int)])∧(zas w' v' (x/b)∧zc1 w.heap.size v')∧Below w.heap.size w w':=by
 obtain⟨k,hk,hl⟩:=h;have hks:=hl.small;obtain⟨o,c,rfl,h1⟩:=hl.form;have H1:=zHi h1;have HK:=zHi hk;have HB:=zHi hB;have hBB:b<1000000000:=hB;clear h1 hk hl hB;refine callsIn_of_wp Tryz.func149 rfl trivial ?_ rfl;simp only [Tryz.ntmps149,ztH,ztI,ztJ,Nat.reduceAdd,Nat.reduceSub,ztK,ztL,ztM,ztN,ztO,ztP];gi_wp2_with (gi_at_make;refine stop ?_)
 unfold Stop;refine zaL _ rfl _ _ _ rfl w.heap.size 111 Tryz.t111 _ 1 u23 zci zde zcM _ _ _ _ k rfl rfl rfl rfl (by rw [zcw];omega) (by unfold maxLen;omega) (Nat.le_refl _) ?_;intro W4 hown hgrow;obtain⟨g,hg'⟩:∃g,w.heap.size=g:=⟨_,rfl⟩;have HA4:Hid (zaj W4 g k fun i => .int .u64 ((topL (x/b) k i:Nat):Int)):=by
  rw [←hg'];exact zaj.of_row hown fun i hi=>by unfold topL;rw [if_neg (by omega)];exact zdO (by omega)
 have HB5:Hid (Below w.heap.size w W4):=(Below.refl _ w).grown hgrow (Nat.le_refl _) (fun _ h=>by cases h);have hg:w.heap.size≤g:=by omega
 have HE5:Hid (Elem W4 g 111):=by rw [←hg'];exact zcF hown
 rw [hg'];clear hown hgrow hg';gi_wp2;gi_loopw [7,8] (fun r i wr=>∃(i0:Int) (r0:Nat),-1≤i0∧i0<k∧i = .int .i64 i0∧r = .int .u64 (r0:Int)∧r0<b∧Hid (x/B^(i0+1).toNat%b=r0)∧Hid (zaj wr g k fun j => .int .u64 ((topL (x/b) (i0+1).toNat j:Nat):Int))∧Hid (Below w.heap.size w wr)∧Hid (Elem wr g 111)) (fun _ i _=>(intOf i+1).toNat)
 case atStart=>exact⟨(k:Int)-1,0,by omega,by omega,rfl,rfl,hb,zHi (by
  rw [show((k:Int)-1+1).toNat=k by omega,Nat.div_eq_of_lt HK.out.1,Nat.zero_mod]),by rw [show((k:Int)-1+1).toNat=k by omega];exact HA4.out,HB5.out,HE5.out⟩
 case round=>
  obtain⟨i0,r0,hi1,hi2,rfl,rfl,hr,HR,HA,HBr,HE⟩:=hrel;clear HA4 HB5 HE5;by_cases h0:0≤i0
  ·obtain⟨m,rfl⟩:∃m:Nat,i0=(m:Int):=⟨i0.toNat,by omega⟩;obtain⟨a,rfl,ha,hc⟩:=H1.out (by omega);have p:=(HBr.out.cell (p:=a.add m) (by rw [zac];exact ha)).trans (hc m (by omega));rw [show((m:Int)+1).toNat=m+1 by omega]at HR HA;have s1:=ziV hb (Nat.le_of_lt HB.out) x m;have s2:=(zfS x b m).1;rw [HR.out]at s1 s2;obtain⟨l,hl⟩:∃l,limb x m=l:=⟨_,rfl⟩;have hlB:l<1000000000:=by rw [←hl];exact zaA x m
   rw [hl]at p s1 s2;have hmk:m<k:=by omega
   have z1:wr.cell? ⟨g,m,none⟩=some (.int .u64 0):=(HA.out m hmk).1.trans (by show some (Value.int .u64 ((topL (x/b) (m+1) m:Nat):Int))=_;unfold topL;rw [if_neg (by omega)];rfl);have z2:=(HA.out m hmk).2;obtain⟨t,ht⟩:∃t,r0*B+l=t:=⟨_,rfl⟩;have htB:t<18446744073709551616:=by
    rw [←ht];have:r0*B≤1000000000*1000000000:=Nat.mul_le_mul (by omega) (Nat.le_refl _);omega
   have e1:IntKind.u64.wrap ((r0:Int)*1000000000)=((r0*1000000000:Nat):Int):=by
    have:r0*1000000000<18446744073709551616:=by omega
    have:=zdE this;rw [←this];simp
   have e2:IntKind.u64.wrap (((r0*1000000000:Nat):Int)+(l:Int))=(t:Int):=by
    have:=zdE htB;rw [←this,←ht];simp [B]
   rw [ht]at s1 s2;have e3:((t:Int).tdiv (b:Int))=((t/b:Nat):Int):=rfl;have e4:((t:Int).tmod (b:Int))=((t%b:Nat):Int):=rfl;obtain⟨Q,hQ⟩:∃Q,t/b=Q:=⟨_,rfl⟩;obtain⟨R,hRR⟩:∃R,t%b=R:=⟨_,rfl⟩;rw [hQ]at s1 e3;rw [hRR]at s2 e4;have hRb:R<b:=by rw [←hRR];exact Nat.mod_lt _ hb
   have hQt:Q<18446744073709551616:=by rw [←hQ];exact Nat.lt_of_le_of_lt (Nat.div_le_self _ _) htB
   have e5:=zdE hQt;have e6:((r0:Int)*1000000000+(l:Int))/(b:Int)=(Q:Int):=by rw [←hQ,←ht];simp [B]
   have e7:((r0:Int)*1000000000+(l:Int))%(b:Int)=(R:Int):=by rw [←hRR,←ht];simp [B]
   have S1:=zHi s1;have S2:=zHi s2;have hb0:¬(b:Int)=0:=by omega
   clear hc hl s1 s2 ht hQ hRR;gi_wp2;refine⟨⟨(m:Int)-1,R,by omega,by omega,by go_num,congrArg (Value.int .u64) e7,hRb,?_,?_,HBr.out.setCell hg _,HE.out.setCell _ _⟩,by simp [intOf]⟩
   ·rw [show((m:Int)-1+1).toNat=m by omega];exact S2.out.symm
   ·rw [show((m:Int)-1+1).toNat=m by omega];refine zHi (zaj.congr (HA.out.set hmk (.int .u64 (Q:Int))) fun j _ => ?_);unfold topL;by_cases e:j=m
    ·subst e;rw [if_pos rfl,if_pos (Nat.le_refl _),S1.out]
    ·rw [if_neg e];by_cases e2:m+1≤j
     ·rw [if_pos e2,if_pos (by omega)]
     ·rw [if_neg e2,if_neg (by omega)]
  ·have hm1:i0 = -1:=by omega
   subst hm1;have hr0:x%b=r0:=by
    have:=HR.out;simpa using this
   have HRE:=zHi hr0;have hlt:x/b<B^k:=Nat.lt_of_le_of_lt (Nat.div_le_self _ _) HK.out.1;have hla:zbw wr (.slice (some ⟨g,0,none⟩) k k) (x/b) k:=by
    rcases Nat.eq_zero_or_pos k with h|h
    ·subst h;exact .inl ⟨rfl,_,_,rfl⟩
    ·refine zaj.limbs (zaj.congr HA.out fun j _ => ?_) h (Nat.le_refl _) ⟨hks,by omega⟩ HE.out;unfold topL;rw [if_pos (by simp)]
   have HT:=zHi (zbT wr _ (x/b) k hla hlt);clear hlt hla hr0;gi_wp2_with (gi_at_call 107;refine HT.out.mono ?_;rintro e w7 ⟨v',rfl,hm,hB7⟩;have HM:=zHi hm;have HB7:=zBt HBr hB7;clear hm hB7)
   all_goals (first|go_returns|go_ret|go_end0)
   refine⟨v',?_,⟨HM.out.1,zc6 HM.out.2 hg⟩,HB7.out⟩;rw [HRE.out];rfl
theorem zas.below{w w':World}{v:Value}{n:Nat}(h:zas w v n)(hb:Below w.heap.size w w'):zas w' v n:=by
 obtain⟨k,hk,hl⟩:=h;exact⟨k,hk,hl.below hb⟩
theorem zas.mag{w:World}{v:Value}{n k:Nat}(h:zas w v n)(hk:zcq n k):zbw w v n k:=by
 obtain⟨k',hk',hl⟩:=h;rw [hk.unique hk'];exact hl
theorem zdm(w:World)(o:Option Addr)(c:Nat):zas w (.slice o 0 c) 0:=⟨0,zbC,.inl ⟨rfl,o,c,rfl⟩⟩
theorem zhH{d:Nat}(h0:0<d)(hB:d<B):zcq d 1:=⟨by rw [Nat.pow_one];exact hB,.inr (by simp;omega)⟩
theorem zgt{d:Nat}(hB:d<B):limb d 0=d:=by unfold limb;rw [Nat.pow_zero,Nat.div_one,Nat.mod_eq_of_lt hB]
theorem zlz(w:World)(d:Nat)(h0:0<d)(hB:d<B):zas (w.alloc (.cells #[.int .u64 (d:Int)] 111)) (.slice (some ⟨w.heap.size,0,none⟩) 1 1) d:=by
 refine⟨1,zhH h0 hB,.inr ⟨⟨w.heap.size,0,none⟩,1,rfl,by omega,Nat.le_refl _,by omega,zaB _ _ _,fun i hi => ?_⟩⟩;obtain rfl:i=0:=by omega
 rw [Addr.add_lit,Nat.zero_add,World.cell?_alloc_new,zgt hB];rfl
theorem zaa(w:World)(o:Obj):Below w.heap.size w (w.alloc o):=(Below.refl _ w).alloc (Nat.le_refl _) o
theorem zas.setCell{w:World}{v:Value}{x g i:Nat}(h:zas w v x)(hne:v.ownBlock≠some g)(u:Value):zas (w.setCell ⟨g,i,none⟩ u) v x:=by
 obtain⟨k,hk,hl⟩:=h;refine⟨k,hk,?_⟩;rcases hl with h|⟨a,cap,rfl,h2,h3,h4,h5,h6⟩
 ·exact .inl h
 ·refine .inr ⟨a,cap,rfl,h2,h3,h4,h5.setCell _ _,fun j hj => ?_⟩;have hb:(a.add j).block≠g:=by rw [zac];exact fun e=>hne (by simp [Value.ownBlock,e])
  rw [World.cell?_setCell_other _ _ _ _ (by intro q;exact hb (by rw [←q]))];exact h6 j hj
theorem zas.lt{w:World}{v:Value}{x:Nat}(h:zas w v x)(h0:0<x):∀g,w.heap.size≤g→v.ownBlock≠some g:=by
 intro g hg;obtain⟨k,hk,hl⟩:=h;rcases hl with⟨rfl,_⟩|⟨a,cap,rfl,h2,h3,h4,h5,h6⟩
 ·have:=hk.zero;omega
 ·intro e;have:a.block=g:=by simpa [Value.ownBlock]using e
  have:=h5.lt;omega
theorem zqV{x y:Nat}{r:Int}(h:zrd x y r)(hg:y<x):0<r:=by
 have h1:=h.1;have h2:=h.2;apply Classical.byContradiction
 intro hno;rcases Int.lt_or_eq_of_le (Int.not_lt.1 hno)with h3|h3
 ·have:=h1.1 h3;omega
 ·have:=h2.1 h3;omega
theorem zoo{x y:Nat}{r:Int}(h:zrd x y r)(hg:¬y<x):¬0<r:=by
 have h1:=h.1;have h2:=h.2;intro hp;rcases Nat.lt_trichotomy x y with h3|h3|h3
 ·have:=h1.2 h3;omega
 ·have:=h2.2 h3;omega
 ·omega
structure zdr(w0 wr:World)(vr vc vd:Value)(R c d g n:Nat)(f:Nat→Value):Prop where
 rest:zas wr vr R
 restNe:vr.ownBlock≠some g
 div:zas wr vc c
 divNe:vc.ownBlock≠some g
 by':zas wr vd d
 byNe:vd.ownBlock≠some g
 arr:zaj wr g n f
 el:Elem wr g 111
 lt:g<wr.heap.size
 below:Below w0.heap.size w0 wr
theorem zdr.step{w0 wr w':World}{vr vc vd:Value}{R c d g n:Nat}{f:Nat→Value}(h:zdr w0 wr vr vc vd R c d g n f)(hb:Below wr.heap.size wr w'):zdr w0 w' vr vc vd R c d g n f:=
 ⟨h.rest.below hb,h.restNe,h.div.below hb,h.divNe,h.by'.below hb,h.byNe,h.arr.below h.lt hb,h.el.below hb h.lt,Nat.lt_of_lt_of_le h.lt hb.size,h.below.trans (hb.mono h.below.size)⟩
theorem zhZ(w:World)(va vb:Value)(x y L:Nat)(ha:zas w va x)(hb:zas w vb y)(hy:0<y)(hx:x<B^L)(hyL:y<B^L)(hL:L≤10000000) :
  CallsIn Fence.wide 0 Tryz.prog 108 #[va,vb] w fun e w'=>∃vq vr,e = .returned (.tuple #[vq,vr])∧(zas w' vq (x/y)∧zc1 w.heap.size vq)∧zas w' vr (x%y)∧Below w.heap.size w w':=by
 have HA:=zHi ha;have HB:=zHi hb;have HX:=zHi hx;have HY:=zHi hyL;clear hx hyL;by_cases hxy:x<y
 ·refine callsIn_of_wp Tryz.func108 rfl trivial ?_ rfl;simp only [Tryz.ntmps108,ztH,ztI,ztJ,Nat.reduceAdd,Nat.reduceSub,ztK,ztL,ztM,ztN,ztO,ztP];have HC:=zHi (zdV w va vb x y ha hb);clear ha hb;gi_wp2_with (gi_at_call 130;refine HC.out.mono ?_;rintro e w1 ⟨r,hr,rfl,hB1⟩;have hr0:r<0:=hr.1.2 hxy;have HB1:=zHi hB1;clear hr hB1)
  all_goals (first|go_returns|go_ret|go_end0)
  refine⟨_,_,rfl,?_,?_,HB1.out⟩
  ·rw [Nat.div_eq_of_lt hxy];exact⟨zdm _ _ _,fun k h=>by cases h⟩
  ·rw [Nat.mod_eq_of_lt hxy];exact HA.out.below HB1.out
 ·by_cases hy1:y<B
  ·obtain⟨l,hl,hlb⟩:=hb;have hl1:l=1:=hl.unique (zhH hy hy1);subst hl1;obtain⟨o2,c2,rfl,h2⟩:=hlb.form;obtain⟨a2,rfl,ha2,hc2⟩:=h2 (by omega);have hc0:=hc2 0 (by omega);rw [zgt hy1]at hc0;have hc1:w.cell? a2=some (.int .u64 (y:Int)):=hc0;clear hc2 hc0 h2 hlb hl;refine callsIn_of_wp Tryz.func108 rfl trivial ?_ rfl;simp only [Tryz.ntmps108,ztH,ztI,ztJ,Nat.reduceAdd,Nat.reduceSub,ztK,ztL,ztM,ztN,ztO,ztP];have HC:=zHi (zdV w va _ x y ha HB.out);clear ha;gi_wp2_with (gi_at_call 130;refine HC.out.mono ?_;rintro e w1 ⟨r,hr,rfl,hB1⟩;have hr0:¬r<0:=fun h=>hxy (hr.1.1 h);have HB1:=zHi hB1;have p1:=(hB1.cell (p:=a2) ha2).trans hc1;have HS:=zHi (zhl w1 va x y (HA.out.below hB1) hy hy1);clear hr hB1)
   gi_wp2_with (gi_at_call 149;refine HS.out.mono ?_;rintro e w2 ⟨vq,rfl,hm,hB2⟩;have HM:=zHi hm;have HB2:=zHi hB2;clear hm hB2)
   have hr1:x%y<18446744073709551616:=by
    have:=Nat.mod_lt x hy;have hBB:B=1000000000:=rfl;omega
   have HS2:=fun w2=>zHi (zeb w2 (x%y) hr1)
   gi_wp2_with (gi_at_call 74;refine(HS2 _).out.mono ?_;rintro e w3 ⟨vr,rfl,hm,hB3⟩;have HM3:=zHi hm;have HB3:=zHi hB3;clear hm hB3)
   all_goals (first|go_returns|go_ret|go_end0)
   exact⟨_,_,rfl,⟨HM.out.1.below HB3.out,HM.out.2.mono HB1.out.size⟩,HM3.out.1,(HB1.out.trans (HB2.out.mono HB1.out.size)).trans (HB3.out.mono (Nat.le_trans HB1.out.size HB2.out.size))⟩
  ·obtain⟨l,hl⟩:∃l,zcq y (l+1):=by
    obtain⟨k,hk,_⟩:=hb;rcases Nat.eq_zero_or_pos k with h|h
    ·subst h;exact absurd hk.zero (by omega)
    ·exact⟨k-1,by rw [Nat.sub_add_cancel h];exact hk⟩
   have hlb:=hb.mag hl;have hlL:=hl.le HY.out;have hl0:l≠0:=fun e=>by subst e;exact hy1 (by have:=hl.1;rw [Nat.zero_add,Nat.pow_one]at this;exact this)
   have tg:=zkS hl;have ht:=hl.top;have htB:=zaA y l;obtain⟨o2,c2,rfl,h2⟩:=hlb.form;obtain⟨a2,rfl,ha2,hc2⟩:=h2 (by omega);have hc0:=hc2 l (by omega);obtain⟨t,hts⟩:∃t,limb y l=t:=⟨_,rfl⟩;rw [hts]at tg ht htB hc0;obtain⟨d,hd⟩:∃d,B/(t+1)=d:=⟨_,rfl⟩;have ed:(1000000000:Int)/((t:Int)+1)=(d:Int):=by rw [←hd];simp [B]
   rw [hd]at tg;have hBB:B=1000000000:=rfl;have hd0:=tg.2.1;have hdB:=tg.2.2.1;rw [hBB]at htB;obtain⟨c,hcc⟩:∃c,y*d=c:=⟨_,rfl⟩;obtain⟨A,hAA⟩:∃A,x*d=A:=⟨_,rfl⟩;have hsc:A/c=x/y∧A%c/d=x%y:=by rw [←hcc,←hAA];exact zk8 hd0
   rw [hcc]at tg;have HTG:=zHi tg;have HSC:=zHi hsc;have HCC:=zHi hcc;have HAA:=zHi hAA;have HLY:=zHi hl;have hAL:A<B^(L+1):=by rw [←hAA];exact zaK HX.out (by rw [Nat.pow_one];exact hdB)
   have hcL:c<B^(L+1):=Nat.lt_of_lt_of_le tg.1.1 (zag (by omega));have HAL:=zHi hAL;have HCL:=zHi hcL;have hdL:d<B^(L+1):=Nat.lt_of_lt_of_le hdB (by have:=zag (i:=1) (j:=L+1) (by omega);rw [Nat.pow_one]at this;exact this);have HDL:=zHi hdL;clear hts hd hcc hAA hsc tg hlb hl hc2 h2 hAL hcL hdL;refine callsIn_of_wp Tryz.func108 rfl trivial ?_ rfl;simp only [Tryz.ntmps108,ztH,ztI,ztJ,Nat.reduceAdd,Nat.reduceSub,ztK,ztL,ztM,ztN,ztO,ztP];have HC:=zHi (zdV w va _ x y ha HB.out);clear ha hb;gi_wp2_with (gi_at_call 130;refine HC.out.mono ?_;rintro e w1 ⟨r,hr,rfl,hB1⟩;have hr0:¬r<0:=fun h=>hxy (hr.1.1 h);have HB1:=zHi hB1;have p1:=(hB1.cell (p:=a2.add l) (by rw [zac];exact ha2)).trans hc0;clear hr hB1)
   gi_wp2_with (gi_at_call 118;refine stop ?_)
   unfold Stop;obtain⟨W,hW⟩:∃W,W=w1.alloc (.cells #[.int .u64 (d:Int)] 111):=⟨_,rfl⟩;rw [←hW];have HMD:Hid (zas W (.slice (some ⟨w1.heap.size,0,none⟩) 1 1) d):=by rw [hW];exact zlz w1 d hd0 hdB
   have HWB:Hid (Below w.heap.size w W):=by rw [hW];exact HB1.out.trans ((zaa w1 _).mono HB1.out.size)
   have hgbW:w1.heap.size<W.heap.size:=by rw [hW];simp
   obtain⟨gb,hgb⟩:∃gb,w1.heap.size=gb:=⟨_,rfl⟩;rw [hgb]at HMD hgbW;rw [hgb];clear hW p1 HB1 HC hgb;refine(zbJ W va _ x d (L+1) (HA.out.below HWB.out) HMD.out (Nat.lt_of_lt_of_le HX.out (zag (by omega))) HDL.out (by omega)).mono ?_;rintro e w2 ⟨v9,rfl,⟨hm,_⟩,hB2⟩;rw [HAA.out]at hm;have HM9:=zHi hm;have HB2:=zBt HWB hB2;have HMD2:=zHi (HMD.out.below hB2);have hgb2:gb<w2.heap.size:=Nat.lt_of_lt_of_le hgbW hB2.size;clear hm hB2 HMD HWB hgbW;gi_wp2_with (gi_at_call 118;refine stop ?_)
   refine(zbJ w2 _ _ y d (L+1) (HB.out.below HB2.out) HMD2.out (Nat.lt_of_lt_of_le HY.out (zag (by omega))) HDL.out (by omega)).mono ?_;rintro e w3 ⟨v10,rfl,⟨hm,_⟩,hB3⟩;rw [HCC.out]at hm;have hm2:=hm.mag HTG.out.1;obtain⟨o10,c10,rfl,h10⟩:=hm2.form;obtain⟨a10,rfl,ha10,hc10⟩:=h10 (by omega);have hct:=hc10 l (by omega);have HMC:=zHi hm;obtain⟨kA,hkA,hlA⟩:=HM9.out.below hB3;obtain⟨o9,c9,rfl,h9⟩:=hlA.form;have hkAL:=hkA.le HAL.out;have HKA:=zHi hkA;have HM93:=zHi (HM9.out.below hB3);have HB3:=zBt HB2 hB3;have HMD3:=zHi (HMD2.out.below hB3);have hgb3:gb<w3.heap.size:=Nat.lt_of_lt_of_le hgb2 hB3.size;obtain⟨top,htop⟩:∃top,limb c l=top:=⟨_,rfl⟩;rw [htop]at hct;have HTOP:=zHi htop;have htopge:500000000≤top:=by
    have:=HTG.out.2.2.2;rw [htop,hBB]at this;omega
   have htopB:top<1000000000:=by rw [←htop];exact zaA c l
   obtain⟨n,hn⟩:∃n,n=kA-(l+1)+1:=⟨_,rfl⟩;clear hm hB3 hm2 h10 hc10 hkA hlA h9 HMD2 HB2 hgb2 HM9 htop ed hc0;have hkA1:l+1≤kA:=by
    apply Classical.byContradiction
    intro hno;have h1:=zgA HKA.out HTG.out.1 (by omega);have h2:c≤A:=by rw [←HCC.out,←HAA.out];exact Nat.mul_le_mul_right _ (by omega)
    omega
   have hn2:n+l=kA:=by omega
   clear hn;have hAn:A<c*B^n:=by
    have h1:=HKA.out.1;have h2:=HTG.out.1.2;have h3:B^l≤c:=by rcases h2 with h|h;omega;simpa using h
    have h4:B^l*B^n≤c*B^n:=Nat.mul_le_mul_right _ h3;rw [←Nat.pow_add,show l+n=kA by omega]at h4;omega
   have HAN:=zHi hAn;clear hAn;gi_wp2_with (gi_at_make;refine stop ?_)
   all_goals
    unfold Stop;refine zaL _ rfl _ _ _ rfl w3.heap.size 111 Tryz.t111 _ 1 Go.Num.u23 zci zde zcM _ _ _ _ n rfl rfl (by omega) (by omega) (by rw [zcw];omega) (by unfold maxLen;omega) (Nat.le_refl _) ?_;intro W4 hown hgrow;obtain⟨g,hg'⟩:∃g,w3.heap.size=g:=⟨_,rfl⟩;have hB34:Below w3.heap.size w3 W4:=(Below.refl _ w3).grown hgrow (Nat.le_refl _) (fun _ h=>by cases h);have hgW:g<W4.heap.size:=(zaj.of_row hown (n:=n) (f:=fun _ => .int .u64 0) (fun i hi=>zdO (by omega))).lt (by omega) |> fun h=>by rw [hg']at h;exact h
    have HK4:Hid (zdr w W4 (.slice o9 kA c9) (.slice (some a10) (l+1) c10) (.slice (some ⟨gb,0,none⟩) 1 1) A c d g n fun i => .int .u64 ((topL (A/c) n i:Nat):Int)):=by
     have hc0:0<c:=by rw [←HCC.out];exact Nat.mul_pos hy hd0
     have hA0:0<A:=by rw [←HAA.out];exact Nat.mul_pos (by omega) hd0
     refine⟨HM93.out.below hB34,HM93.out.lt hA0 g (by omega),HMC.out.below hB34,HMC.out.lt hc0 g (by omega),HMD3.out.below hB34,HMD3.out.lt hd0 g (by omega),?_,by rw [←hg'];exact zcF hown,hgW,HB3.out.trans (hB34.mono HB3.out.size)⟩;rw [←hg'];exact zaj.of_row hown fun i hi=>by unfold topL;rw [if_neg (by omega)];exact zdO (by omega)
    have hg:w.heap.size≤g:=by have:=HB3.out.size;omega
    rw [hg'];clear hown hgrow hg' hB34 HMD3 HM93 HMC hct hgW;gi_wp2;gi_loopw [9,13] (fun v9 iv wr=>∃(i0:Int) (R:Nat),-1≤i0∧i0<n∧iv = .int .i64 i0∧Hid (A%(c*B^(i0+1).toNat)=R)∧Hid (zdr w wr v9 (.slice (some a10) (l+1) c10) (.slice (some ⟨gb,0,none⟩) 1 1) R c d g n fun j => .int .u64 ((topL (A/c) (i0+1).toNat j:Nat):Int))) (fun _ iv _=>(intOf iv+1).toNat)
    case atStart=>
     refine⟨(n:Int)-1,A,by omega,by omega,(by first|rfl|(congr 1;omega)),?_,?_⟩
     ·rw [show((n:Int)-1+1).toNat=n by omega];exact Nat.mod_eq_of_lt HAN.out
     ·rw [show((n:Int)-1+1).toNat=n by omega];exact HK4.out
    case round=>
     obtain⟨i0,R,hi1,hi2,rfl,HRE,HK⟩:=hrel;clear HK4;by_cases h0:0≤i0
     ·obtain⟨m,rfl⟩:∃m:Nat,i0=(m:Int):=⟨i0.toNat,by omega⟩;rw [show((m:Int)+1).toNat=m+1 by omega]at HRE HK;have hc0:0<c:=by rw [←HCC.out];exact Nat.mul_pos hy hd0
      have hRc:R<c*B^(m+1):=by rw [←HRE.out];exact Nat.mod_lt _ (Nat.mul_pos hc0 (zar _))
      have hRB:R<B^(m+l+2):=by
       have h1:c*B^(m+1)≤B^(l+1)*B^(m+1):=Nat.mul_le_mul_right _ (Nat.le_of_lt HTG.out.1.1);rw [←Nat.pow_add,show l+1+(m+1)=m+l+2 by omega]at h1;omega
      have HRC:=zHi hRc;have HRB:=zHi hRB;obtain⟨kr,hkr,hlr⟩:=HK.out.rest;obtain⟨o9',c9',rfl,h9'⟩:=hlr.form;have hkr2:=hkr.le hRB;have HKR:=zHi hkr;have H9:=zHi h9';obtain⟨w5,hw5⟩:∃w5,w5=wr:=⟨_,rfl⟩;subst wr;clear hRc hRB hkr hlr h9';gi_wp2;gi_loopw [14,15] (fun hv kv wr=>∃p h:Nat,m+l≤p∧p≤m+l+2∧kv = .int .i64 ((p:Int)-1)∧hv = .int .u64 (h:Int)∧Hid (R/B^p=h)∧wr=w5) (fun _ kv _=>(intOf kv+1).toNat)
      case atStart=>
       refine⟨m+l+2,0,by omega,by omega,(by first|(go_num)|(congr 1;omega)),rfl,Nat.div_eq_of_lt HRB.out,rfl⟩
      case round=>
       obtain⟨p,h,hp1,hp2,rfl,rfl,HH,rfl⟩:=hrel;by_cases hpm:m+l+1≤p
       ·obtain⟨p',rfl⟩:∃p',p=p'+1:=⟨p-1,by omega⟩;have hhB:h<1000000000:=by
         rw [←HH.out];refine Nat.div_lt_of_lt_mul ?_;have h1:B^(m+l+2)≤B^(p'+1+1):=zag (by omega);rw [Nat.pow_succ B (p'+1)]at h1;exact Nat.lt_of_lt_of_le HRB.out h1
        have ds:R/B^p'=1000000000*h+limb R p':=by rw [zcn R p',HH.out];rfl
        have HDS:=zHi ds;clear ds;by_cases hpk:p'<kr
        ·obtain⟨a9,rfl,ha9,hc9⟩:=H9.out (by omega);have p9:=hc9 p' hpk;obtain⟨lr,hlr⟩:∃lr,limb R p'=lr:=⟨_,rfl⟩;have hlB:lr<1000000000:=by rw [←hlr];exact zaA R p'
         rw [hlr]at p9 HDS;clear hc9 hlr;gi_wp2;exact⟨⟨p',1000000000*h+lr,by omega,by omega,rfl,congrArg (Value.int .u64) (by omega),HDS.out,by first|trivial|rfl⟩,by first|(simp [intOf];done)|(simp [intOf];omega)⟩
        ·have hz:limb R p'=0:=zaN (Nat.lt_of_lt_of_le HKR.out.1 (zag (by omega)));rw [hz]at HDS;have hpk':¬(p':Int)<(kr:Int):=by omega
         clear hz;gi_wp2;exact⟨⟨p',1000000000*h+0,by omega,by omega,rfl,congrArg (Value.int .u64) (by omega),HDS.out,by first|trivial|rfl⟩,by first|(simp [intOf];done)|(simp [intOf];omega)⟩
       ·have hpm0:p=m+l:=by omega
        subst hpm0;obtain⟨q,hq⟩:∃q,R/(c*B^m)=q:=⟨_,rfl⟩;have hD:0<c*B^m:=Nat.mul_pos hc0 (zar m);have hq1:q≤h/top:=by
         rw [←hq,←HH.out];have:=zrK (R:=R) (c:=c) (i:=m) (l:=l+1) (top:=top) (by omega) (by
          have:=za8 c l;rw [zbc HTG.out.1.1,HTOP.out]at this;obtain⟨lo,hlo⟩:∃lo,c%B^l=lo:=⟨_,rfl⟩;rw [hlo]at this;rw [Nat.add_sub_cancel,Nat.mul_comm];omega) (by omega)
         exact this
        have hq2:q≤999999999:=by
         have h1:R<c*B^m*1000000000:=by
          have:=HRC.out;rw [Nat.pow_succ,←Nat.mul_assoc]at this;exact this
         have:=Nat.div_lt_of_lt_mul h1;omega
        have HQ:=zHi hq;have htop0:¬(top:Int)=0:=by omega
        have ehd:(h:Int)/(top:Int)=((h/top:Nat):Int):=rfl;obtain⟨G0,hG0⟩:∃G0,h/top=G0:=⟨_,rfl⟩;rw [hG0]at ehd hq1;have hGB:G0<1000000000000000000:=by
         have h1:h<1000000000000000000:=by
          rw [←HH.out];refine Nat.div_lt_of_lt_mul ?_;have h2:=HRB.out;rw [Nat.pow_add]at h2;exact h2
         rw [←hG0];exact Nat.lt_of_le_of_lt (Nat.div_le_self _ _) h1
        clear hq hG0;by_cases hgm:G0≤999999999
        ·gi_wp2_with (gi_at_call 74;refine stop ?_)
         refine(zeb wr G0 (by omega)).mono ?_;rintro e w6 ⟨v6,rfl,⟨hm6,_⟩,hB6⟩;have HK6:=zHi (HK.out.step hB6);have HM6:=zHi hm6;clear hm6 hB6 HK H9 HKR;gi_wp2_with (gi_at_call 118;refine stop ?_)
         unfold Stop;have hGL:G0<B^(L+1):=Nat.lt_of_lt_of_le (show G0<B by omega) (by have:=zag (i:=1) (j:=L+1) (by omega);rw [Nat.pow_one]at this;exact this);refine(zbJ w6 _ _ c G0 (L+1) HK6.out.div HM6.out HCL.out hGL (by omega)).mono ?_;rintro e w7 ⟨v7,rfl,⟨hm7,_⟩,hB7⟩;have HK7:=zHi (HK6.out.step hB7);have HM7:=zHi hm7;have HGL:=zHi hGL;clear hm7 hB7 HK6 HM6 hGL;gi_wp2_with (gi_at_call 150;refine stop ?_)
         refine(zea w7 _ (c*G0) m (L+1+(L+1)) HM7.out (zaK HCL.out HGL.out) (by omega) (by omega)).mono ?_;rintro e w8 ⟨v8,rfl,⟨hm8,hf8⟩,hB8⟩;have HK8:=zHi (HK7.out.step hB8);have HM8:=zHi hm8;have hne8:v8.ownBlock≠some g:=fun h=>by have:=hf8 _ h;have:=HK7.out.lt;omega
         clear hm8 hB8 HK7 HM7 hf8;gi_wp2;gi_loopw [16,17] (fun gv pv wr=>∃G:Nat,gv = .int .u64 (G:Int)∧q≤G∧G≤999999999∧Hid (zas wr pv (c*G*B^m))∧pv.ownBlock≠some g∧Hid (zdr w wr (.slice o9' kr c9') (.slice (some a10) (l+1) c10) (.slice (some ⟨gb,0,none⟩) 1 1) R c d g n fun j => .int .u64 ((topL (A/c) (m+1) j:Nat):Int))) (fun gv _ _=>(intOf gv).toNat)
         case atStart=>exact⟨G0,rfl,by omega,by omega,HM8.out,hne8,HK8.out⟩
         case round=>
          obtain⟨G,rfl,hqG,hG9,HP,hPne,HKg⟩:=hrel;clear HK8 HM8 hne8;have HC:=zHi (zdV wr _ _ _ _ HP.out HKg.out.rest);by_cases hgt:R<c*G*B^m
          ·obtain⟨G',rfl⟩:∃G',G=G'+1:=by
            rcases Nat.eq_zero_or_pos G with h|h
            ·subst h;simp at hgt
            ·exact⟨G-1,by omega⟩
           have HGT:=zHi hgt;clear hgt;gi_wp2_with (gi_at_call 130;refine HC.out.mono ?_;rintro e w6 ⟨r,hr,rfl,hB6⟩;have hr0:0<r:=zqV hr HGT.out;have HK6:=zHi (HKg.out.step hB6);have HP6:=zHi (HP.out.below hB6);clear hr hB6 HC HKg HP)
           gi_wp2_with (gi_at_call 150;refine stop ?_)
           refine(zea _ _ c m (L+1) HK6.out.div HCL.out (by omega) (by omega)).mono ?_;rintro e w7 ⟨v7,rfl,⟨hm7,_⟩,hB7⟩;have HK7:=zHi (HK6.out.step hB7);have HP7:=zHi (HP6.out.below hB7);have HM7:=zHi hm7;clear hm7 hB7 HK6 HP6;gi_wp2_with (gi_at_call 132;refine stop ?_)
           unfold Stop;have epart:c*(G'+1)*B^m=c*G'*B^m+c*B^m:=by rw [Nat.mul_add,Nat.mul_one,Nat.add_mul]
           have hPL:c*(G'+1)*B^m<B^(3*L+30):=by
            have h1:c*(G'+1)<B^(L+1)*B:=by
             exact Nat.mul_lt_mul_of_lt_of_le HCL.out (show G'+1≤B by omega) zkK
            have h2:c*(G'+1)*B^m<B^(L+1)*B*B^m:=Nat.mul_lt_mul_of_pos_right h1 (zar m);rw [←Nat.pow_succ,←Nat.pow_add]at h2;exact Nat.lt_of_lt_of_le h2 (zag (by omega))
           refine(zcN w7 _ _ (c*(G'+1)*B^m) (c*B^m) (3*L+30) HP7.out HM7.out (by rw [epart];exact Nat.le_add_left _ _) hPL (by omega)).mono ?_;rintro e w8 ⟨v8,rfl,⟨hm8,hf8⟩,hB8⟩;rw [epart,Nat.add_sub_cancel]at hm8;have HK8:=zHi (HK7.out.step hB8);have HM8:=zHi hm8;have hne8:v8.ownBlock≠some g:=fun h=>by have:=hf8 _ h;have:=HK7.out.lt;omega
           have hqG':q≤G':=by
            have:=zlL (R:=R) (D:=c*B^m) (g:=G'+1) hD (by rw [←Nat.mul_assoc,Nat.mul_comm (G'+1)];exact HGT.out);rw [HQ.out]at this;omega
           clear hm8 hf8 hB8 HK7 HP7 HM7 epart hPL;gi_wp2;exact⟨⟨G',by first|rfl|(go_num),hqG',by omega,HM8.out,hne8,HK8.out⟩,by simp [intOf]⟩
          ·have hGq:G=q:=by
            rw [←HQ.out];refine zn6 hD ?_ (by rw [HQ.out];exact hqG);rw [←Nat.mul_assoc,Nat.mul_comm G];exact Nat.not_lt.1 hgt
           subst hGq;have HGT:=zHi hgt;have hmn:m<n:=by omega
           clear hgt;gi_wp2_with (gi_at_call 130;refine HC.out.mono ?_;rintro e w6 ⟨r,hr,rfl,hB6⟩;have hr0:¬0<r:=zoo hr HGT.out;have HK6:=zHi (HKg.out.step hB6);have HP6:=zHi (HP.out.below hB6);have z1:∃v,w6.cell? ⟨g,m,none⟩=some v:=⟨_,((HKg.out.step hB6).arr m hmn).1⟩;obtain⟨v1,z1⟩:=z1;have z2:=((HKg.out.step hB6).arr m hmn).2;clear hr hB6 HC HKg HP)
           gi_wp2_with (gi_at_call 132;refine stop ?_)
           unfold Stop;obtain⟨W7,hW7⟩:∃W7,W7=w6.setCell ⟨g,m,none⟩ (.int .u64 (G:Int)):=⟨_,rfl⟩;rw [←hW7];have HK7:Hid (zdr w W7 (.slice o9' kr c9') (.slice (some a10) (l+1) c10) (.slice (some ⟨gb,0,none⟩) 1 1) R c d g n fun j => .int .u64 ((topL (A/c) m j:Nat):Int)):=by
            rw [hW7];have K:=HK6.out;refine⟨K.rest.setCell K.restNe _,K.restNe,K.div.setCell K.divNe _,K.divNe,K.by'.setCell K.byNe _,K.byNe,zaj.congr (K.arr.set hmn _) fun j _ => ?_,K.el.setCell _ _,by simp;exact K.lt,K.below.setCell hg _⟩;have hqs:=(zg1 (A:=A) (i:=m) hc0).1;rw [HRE.out,HQ.out]at hqs;unfold topL;by_cases e:j=m
            ·subst e;rw [if_pos rfl,if_pos (Nat.le_refl _),hqs]
            ·rw [if_neg e];by_cases e2:m+1≤j
             ·rw [if_pos e2,if_pos (by omega)]
             ·rw [if_neg e2,if_neg (by omega)]
           have HP7:Hid (zas W7 u17 (c*G*B^m)):=by rw [hW7];exact HP6.out.setCell hPne _
           clear hW7 HK6 HP6 z1 z2;have hRL:R<B^(L+1):=by rw [←HRE.out];exact Nat.lt_of_le_of_lt (Nat.mod_le _ _) HAL.out
           refine(zcN W7 _ _ R (c*G*B^m) (L+1) HK7.out.rest HP7.out (Nat.not_lt.1 HGT.out) hRL (by omega)).mono ?_;rintro e w8 ⟨v8,rfl,⟨hm8,hf8⟩,hB8⟩;have hqs:=(zg1 (A:=A) (i:=m) hc0).2;rw [HRE.out,HQ.out,←Nat.mul_assoc,Nat.mul_comm G]at hqs;rw [hqs]at hm8;have hne8:v8.ownBlock≠some g:=fun h=>by have:=hf8 _ h;have:=HK7.out.lt;omega
           have HK8:Hid (zdr w w8 v8 (.slice (some a10) (l+1) c10) (.slice (some ⟨gb,0,none⟩) 1 1) (A%(c*B^m)) c d g n fun j => .int .u64 ((topL (A/c) m j:Nat):Int)):=
            {HK7.out.step hB8 with rest:=hm8,restNe:=hne8}
           clear hm8 hf8 hB8 HK7 HP7 hRL hqs;gi_wp2;refine⟨⟨(m:Int)-1,A%(c*B^m),by omega,by omega,by first|rfl|(go_num),?_,?_⟩,by first|(simp [intOf];done)|(simp [intOf];omega)⟩
           ·rw [show((m:Int)-1+1).toNat=m by omega];exact zHi rfl
           ·rw [show((m:Int)-1+1).toNat=m by omega];exact HK8.out
        ·gi_wp2_with (gi_at_call 74;refine stop ?_)
         refine(zeb wr 999999999 (by omega)).mono ?_;rintro e w6 ⟨v6,rfl,⟨hm6,_⟩,hB6⟩;have HK6:=zHi (HK.out.step hB6);have HM6:=zHi hm6;clear hm6 hB6 HK H9 HKR;gi_wp2_with (gi_at_call 118;refine stop ?_)
         unfold Stop;have hGL:999999999<B^(L+1):=Nat.lt_of_lt_of_le (show 999999999<B by omega) (by have:=zag (i:=1) (j:=L+1) (by omega);rw [Nat.pow_one]at this;exact this);refine(zbJ w6 _ _ c 999999999 (L+1) HK6.out.div HM6.out HCL.out hGL (by omega)).mono ?_;rintro e w7 ⟨v7,rfl,⟨hm7,_⟩,hB7⟩;have HK7:=zHi (HK6.out.step hB7);have HM7:=zHi hm7;have HGL:=zHi hGL;clear hm7 hB7 HK6 HM6 hGL;gi_wp2_with (gi_at_call 150;refine stop ?_)
         refine(zea w7 _ (c*999999999) m (L+1+(L+1)) HM7.out (zaK HCL.out HGL.out) (by omega) (by omega)).mono ?_;rintro e w8 ⟨v8,rfl,⟨hm8,hf8⟩,hB8⟩;have HK8:=zHi (HK7.out.step hB8);have HM8:=zHi hm8;have hne8:v8.ownBlock≠some g:=fun h=>by have:=hf8 _ h;have:=HK7.out.lt;omega
         clear hm8 hB8 HK7 HM7 hf8;gi_wp2;gi_loopw [16,17] (fun gv pv wr=>∃G:Nat,gv = .int .u64 (G:Int)∧q≤G∧G≤999999999∧Hid (zas wr pv (c*G*B^m))∧pv.ownBlock≠some g∧Hid (zdr w wr (.slice o9' kr c9') (.slice (some a10) (l+1) c10) (.slice (some ⟨gb,0,none⟩) 1 1) R c d g n fun j => .int .u64 ((topL (A/c) (m+1) j:Nat):Int))) (fun gv _ _=>(intOf gv).toNat)
         case atStart=>exact⟨999999999,rfl,by omega,by omega,HM8.out,hne8,HK8.out⟩
         case round=>
          obtain⟨G,rfl,hqG,hG9,HP,hPne,HKg⟩:=hrel;clear HK8 HM8 hne8;have HC:=zHi (zdV wr _ _ _ _ HP.out HKg.out.rest);by_cases hgt:R<c*G*B^m
          ·obtain⟨G',rfl⟩:∃G',G=G'+1:=by
            rcases Nat.eq_zero_or_pos G with h|h
            ·subst h;simp at hgt
            ·exact⟨G-1,by omega⟩
           have HGT:=zHi hgt;clear hgt;gi_wp2_with (gi_at_call 130;refine HC.out.mono ?_;rintro e w6 ⟨r,hr,rfl,hB6⟩;have hr0:0<r:=zqV hr HGT.out;have HK6:=zHi (HKg.out.step hB6);have HP6:=zHi (HP.out.below hB6);clear hr hB6 HC HKg HP)
           gi_wp2_with (gi_at_call 150;refine stop ?_)
           refine(zea _ _ c m (L+1) HK6.out.div HCL.out (by omega) (by omega)).mono ?_;rintro e w7 ⟨v7,rfl,⟨hm7,_⟩,hB7⟩;have HK7:=zHi (HK6.out.step hB7);have HP7:=zHi (HP6.out.below hB7);have HM7:=zHi hm7;clear hm7 hB7 HK6 HP6;gi_wp2_with (gi_at_call 132;refine stop ?_)
           unfold Stop;have epart:c*(G'+1)*B^m=c*G'*B^m+c*B^m:=by rw [Nat.mul_add,Nat.mul_one,Nat.add_mul]
           have hPL:c*(G'+1)*B^m<B^(3*L+30):=by
            have h1:c*(G'+1)<B^(L+1)*B:=by
             exact Nat.mul_lt_mul_of_lt_of_le HCL.out (show G'+1≤B by omega) zkK
            have h2:c*(G'+1)*B^m<B^(L+1)*B*B^m:=Nat.mul_lt_mul_of_pos_right h1 (zar m);rw [←Nat.pow_succ,←Nat.pow_add]at h2;exact Nat.lt_of_lt_of_le h2 (zag (by omega))
           refine(zcN w7 _ _ (c*(G'+1)*B^m) (c*B^m) (3*L+30) HP7.out HM7.out (by rw [epart];exact Nat.le_add_left _ _) hPL (by omega)).mono ?_;rintro e w8 ⟨v8,rfl,⟨hm8,hf8⟩,hB8⟩;rw [epart,Nat.add_sub_cancel]at hm8;have HK8:=zHi (HK7.out.step hB8);have HM8:=zHi hm8;have hne8:v8.ownBlock≠some g:=fun h=>by have:=hf8 _ h;have:=HK7.out.lt;omega
           have hqG':q≤G':=by
            have:=zlL (R:=R) (D:=c*B^m) (g:=G'+1) hD (by rw [←Nat.mul_assoc,Nat.mul_comm (G'+1)];exact HGT.out);rw [HQ.out]at this;omega
           clear hm8 hf8 hB8 HK7 HP7 HM7 epart hPL;gi_wp2;exact⟨⟨G',by first|rfl|(go_num),hqG',by omega,HM8.out,hne8,HK8.out⟩,by simp [intOf]⟩
          ·have hGq:G=q:=by
            rw [←HQ.out];refine zn6 hD ?_ (by rw [HQ.out];exact hqG);rw [←Nat.mul_assoc,Nat.mul_comm G];exact Nat.not_lt.1 hgt
           subst hGq;have HGT:=zHi hgt;have hmn:m<n:=by omega
           clear hgt;gi_wp2_with (gi_at_call 130;refine HC.out.mono ?_;rintro e w6 ⟨r,hr,rfl,hB6⟩;have hr0:¬0<r:=zoo hr HGT.out;have HK6:=zHi (HKg.out.step hB6);have HP6:=zHi (HP.out.below hB6);have z1:∃v,w6.cell? ⟨g,m,none⟩=some v:=⟨_,((HKg.out.step hB6).arr m hmn).1⟩;obtain⟨v1,z1⟩:=z1;have z2:=((HKg.out.step hB6).arr m hmn).2;clear hr hB6 HC HKg HP)
           gi_wp2_with (gi_at_call 132;refine stop ?_)
           unfold Stop;obtain⟨W7,hW7⟩:∃W7,W7=w6.setCell ⟨g,m,none⟩ (.int .u64 (G:Int)):=⟨_,rfl⟩;rw [←hW7];have HK7:Hid (zdr w W7 (.slice o9' kr c9') (.slice (some a10) (l+1) c10) (.slice (some ⟨gb,0,none⟩) 1 1) R c d g n fun j => .int .u64 ((topL (A/c) m j:Nat):Int)):=by
            rw [hW7];have K:=HK6.out;refine⟨K.rest.setCell K.restNe _,K.restNe,K.div.setCell K.divNe _,K.divNe,K.by'.setCell K.byNe _,K.byNe,zaj.congr (K.arr.set hmn _) fun j _ => ?_,K.el.setCell _ _,by simp;exact K.lt,K.below.setCell hg _⟩;have hqs:=(zg1 (A:=A) (i:=m) hc0).1;rw [HRE.out,HQ.out]at hqs;unfold topL;by_cases e:j=m
            ·subst e;rw [if_pos rfl,if_pos (Nat.le_refl _),hqs]
            ·rw [if_neg e];by_cases e2:m+1≤j
             ·rw [if_pos e2,if_pos (by omega)]
             ·rw [if_neg e2,if_neg (by omega)]
           have HP7:Hid (zas W7 u17 (c*G*B^m)):=by rw [hW7];exact HP6.out.setCell hPne _
           clear hW7 HK6 HP6 z1 z2;have hRL:R<B^(L+1):=by rw [←HRE.out];exact Nat.lt_of_le_of_lt (Nat.mod_le _ _) HAL.out
           refine(zcN W7 _ _ R (c*G*B^m) (L+1) HK7.out.rest HP7.out (Nat.not_lt.1 HGT.out) hRL (by omega)).mono ?_;rintro e w8 ⟨v8,rfl,⟨hm8,hf8⟩,hB8⟩;have hqs:=(zg1 (A:=A) (i:=m) hc0).2;rw [HRE.out,HQ.out,←Nat.mul_assoc,Nat.mul_comm G]at hqs;rw [hqs]at hm8;have hne8:v8.ownBlock≠some g:=fun h=>by have:=hf8 _ h;have:=HK7.out.lt;omega
           have HK8:Hid (zdr w w8 v8 (.slice (some a10) (l+1) c10) (.slice (some ⟨gb,0,none⟩) 1 1) (A%(c*B^m)) c d g n fun j => .int .u64 ((topL (A/c) m j:Nat):Int)):=
            {HK7.out.step hB8 with rest:=hm8,restNe:=hne8}
           clear hm8 hf8 hB8 HK7 HP7 hRL hqs;gi_wp2;refine⟨⟨(m:Int)-1,A%(c*B^m),by omega,by omega,by first|rfl|(go_num),?_,?_⟩,by first|(simp [intOf];done)|(simp [intOf];omega)⟩
           ·rw [show((m:Int)-1+1).toNat=m by omega];exact zHi rfl
           ·rw [show((m:Int)-1+1).toNat=m by omega];exact HK8.out
     ·have hm1:i0 = -1:=by omega
      subst hm1;have e1:(( -1:Int)+1).toNat=0:=rfl;rw [e1]at HRE HK;rw [Nat.pow_zero,Nat.mul_one]at HRE;have hRL:R<B^(L+1):=by rw [←HRE.out];exact Nat.lt_of_le_of_lt (Nat.mod_le _ _) HAL.out
      have hd1:=HK.out.by'.mag (zhH hd0 hdB);obtain⟨o,cc,ef,hf⟩:=hd1.form;injection ef with ef1 ef2 ef3;subst ef1 ef3;clear ef2;obtain⟨ab,eb,hab,hcb⟩:=hf (by omega);injection eb with eb;subst eb;have p1:=hcb 0 (by omega);rw [zgt hdB]at p1;have p2:wr.cell? ⟨gb,0,none⟩=some (.int .u64 (d:Int)):=p1;clear p1 hcb hf hd1;have HS:=zHi (zhl wr _ R d HK.out.rest hd0 hdB);have hAcn:A/c<B^n:=Nat.div_lt_of_lt_mul HAN.out;have HACN:=zHi hAcn;clear hAcn hRL;gi_wp2_with (gi_at_call 149;refine HS.out.mono ?_;rintro e w6 ⟨v6,rfl,⟨hm6,_⟩,hB6⟩;have HM6:=zHi hm6;have HK6:=zHi (HK.out.step hB6);clear hm6 hB6 HK p2)
      have hla:zbw w6 (.slice (some ⟨g,0,none⟩) n n) (A/c) n:=by
       refine zaj.limbs (zaj.congr HK6.out.arr fun j _ => ?_) (by omega) (Nat.le_refl _) ⟨by omega,by omega⟩ HK6.out.el;unfold topL;rw [if_pos (by omega)]
      have HT:=zHi (zbT w6 _ (A/c) n hla HACN.out);clear hla;gi_wp2_with (gi_at_call 107;refine HT.out.mono ?_;rintro e w7 ⟨v7,rfl,⟨hm7,hf7⟩,hB7⟩;have HF7:=zHi (zc6 hf7 hg);have HM7:=zHi hm7;have HM67:=zHi (HM6.out.below hB7);have HB7:=zHi (HK6.out.step hB7).below;clear hm7 hB7 hf7)
      all_goals (first|go_returns|go_ret|go_end0)
      refine⟨_,_,rfl,?_,?_,HB7.out⟩
      ·rw [←HSC.out.1];exact⟨HM7.out,HF7.out⟩
      ·rw [←HSC.out.2,HRE.out];exact HM67.out
theorem zas.unique{w:World}{v:Value}{m n:Nat}(h:zas w v m)(h':zas w v n):m=n:=by
 obtain⟨k,hk,hl⟩:=h;obtain⟨k',hk',hl'⟩:=h';obtain⟨o,c,rfl,h1⟩:=hl.form;obtain⟨o',c',e,h2⟩:=hl'.form;injection e with e1 e2 e3;subst e1;subst e2;refine zn0 hk.1 hk'.1 fun i hi => ?_
 obtain⟨a,rfl,ha,hc⟩:=h1 (by omega);obtain⟨a',e,ha',hc'⟩:=h2 (by omega);injection e with e;subst e;have:=(hc i hi).symm.trans (hc' i hi);injection this with this;injection this with _ this;omega
open Classical in
noncomputable def zqn(w:World)(v:Value):Nat:=if h:∃n,zas w v n then Classical.choose h else 0
theorem zas.num{w:World}{v:Value}{n:Nat}(h:zas w v n):zqn w v=n:=by
 unfold zqn;rw [dif_pos ⟨n,h⟩];exact(Classical.choose_spec (⟨n,h⟩:∃n,zas w v n)).unique h
theorem zaI{w:World}{v:Value}{n:Nat}(h:zas w v n):∃o k c,v = .slice o k c∧(k=0↔n=0)∧k≤1000000000:=by
 obtain⟨k,hk,hl⟩:=h;obtain⟨o,c,rfl,h1⟩:=hl.form;refine⟨o,k,c,rfl,⟨fun e => ?_,fun e => ?_⟩,hl.small⟩
 ·subst e;exact hk.zero
 ·subst e;exact hk.unique zbC
theorem zeN(w:World)(va vb:Value)(x y L:Nat)(ha:zas w va x)(hb:zas w vb y)(hx:x<B^L)(hy:y<B^L)(hL:L≤10000000) :
  CallsIn Fence.wide 0 Tryz.prog 63 #[va,vb] w fun e w'=>∃v',e = .returned v'∧zas w' v' (Nat.gcd x y)∧Below w.heap.size w w':=by
 have HA:=zHi ha;have HB:=zHi hb;have HX:=zHi hx;have HY:=zHi hy;clear ha hb hx hy;refine callsIn_of_wp Tryz.func63 rfl trivial ?_ rfl;simp only [Tryz.ntmps63,ztH,ztI,ztJ,Nat.reduceAdd,Nat.reduceSub,ztK,ztL,ztM,ztN,ztO,ztP];gi_wp2;gi_loopw [0,1] (fun va vb wr=>∃a b:Nat,Hid (zas wr va a)∧Hid (zas wr vb b)∧Hid (a<B^L)∧Hid (b<B^L)∧Hid (Nat.gcd a b=Nat.gcd x y)∧Hid (Below w.heap.size w wr)) (fun _ vb wr=>zqn wr vb)
 case atStart=>exact⟨x,y,HA.out,HB.out,HX.out,HY.out,zHi rfl,Below.refl _ _⟩
 case round=>
  obtain⟨a,b,HMA,HMB,HLA,HLB,HG,HBr⟩:=hrel;clear HA HB;obtain⟨o,k,c,rfl,hk,hk9⟩:=zaI HMB.out;by_cases hb0:b=0
  ·have hk0:k=0:=hk.2 hb0;subst hk0;subst hb0;clear hk;gi_wp2;all_goals (first|go_returns|go_ret|go_end0)
   refine⟨_,rfl,?_,HBr.out⟩;rw [←HG.out,Nat.gcd_zero_right];exact HMA.out
  ·have hk0:0<k:=by
    rcases Nat.eq_zero_or_pos k with h|h
    ·exact absurd (hk.1 h) hb0
    ·exact h
   have HD:=zHi (zhZ wr _ _ a b L HMA.out HMB.out (by omega) HLA.out HLB.out hL);have HN:=zHi HMB.out.num;clear hk;gi_wp2_with (gi_at_call 108;refine HD.out.mono ?_;rintro e w6 ⟨vq,vr,rfl,_,hm6,hB6⟩;have HM6:=zHi hm6;have HB6:=zBt HBr hB6;have HMB6:=zHi (HMB.out.below hB6);clear hm6 hB6)
   refine⟨⟨b,a%b,HMB6.out,HM6.out,HLB.out,?_,?_,HB6.out⟩,?_⟩
   ·exact zHi (Nat.lt_of_lt_of_le (Nat.mod_lt a (by omega)) (Nat.le_of_lt HLB.out))
   ·exact zHi (zn7.symm.trans HG.out)
   ·rw [HM6.out.num,HN.out];exact Nat.mod_lt a (by omega)
def zbP(w:World)(v:Value)(n k:Nat):Prop:=
 (k=0∧∃o c,v = .slice o 0 c)∨∃(a:Addr) (cap:Nat),v = .slice (some a) k cap∧0<k∧k≤cap∧(k≤1000000000∧cap≤9223372036854775807)∧Elem w a.block 3∧∀i,i<k→w.cell? (a.add i)=some (.int .i64 ((limb n i:Nat):Int))
def NatI(w:World)(v:Value)(n:Nat):Prop:=∃k,zcq n k∧zbP w v n k
theorem zbP.below{w w':World}{v:Value}{n k:Nat}(h:zbP w v n k)(hb:Below w.heap.size w w'):zbP w' v n k:=by
 rcases h with h|⟨a,cap,h1,h2,h3,h4,h5,h6⟩
 ·exact .inl h
 ·exact .inr ⟨a,cap,h1,h2,h3,h4,h5.below hb h5.lt,fun i hi=>(hb.cell (p:=a.add i) (by rw [zac];exact h5.lt)).trans (h6 i hi)⟩
theorem zbP.form{w:World}{v:Value}{n k:Nat}(h:zbP w v n k):∃o c,v = .slice o k c∧(0<k→∃a:Addr,o=some a∧a.block<w.heap.size∧∀i,i<k→w.cell? (a.add i)=some (.int .i64 ((limb n i:Nat):Int))):=by
 rcases h with⟨rfl,o,c,rfl⟩|⟨a,cap,rfl,h2,h3,h4,h5,h6⟩
 ·exact⟨o,c,rfl,fun h=>by omega⟩
 ·exact⟨some a,cap,rfl,fun _=>⟨a,rfl,h5.lt,h6⟩⟩
theorem zbP.elem{w:World}{a:Addr}{n k c:Nat}(h:zbP w (.slice (some a) k c) n k)(hk:0<k):Elem w a.block 3:=by
 rcases h with⟨rfl,_⟩|⟨a',cap,e,h2,h3,h4,h5,h6⟩
 ·omega
 ·injection e with e _ _;injection e with e;subst e;exact h5
theorem zbP.small{w:World}{v:Value}{n k:Nat}(h:zbP w v n k):k≤1000000000:=by
 rcases h with⟨rfl,_⟩|⟨a,cap,rfl,h2,h3,h4,h5,h6⟩ <;> omega
def za3(n k:Nat):List Value:=(List.range k).map fun i => .int .i64 ((limb n i:Nat):Int)
theorem zm0(n k:Nat):za3 n (k+1)=za3 n k ++ [.int .i64 ((limb n k:Nat):Int)]:=by simp [za3,List.range_succ]
theorem zqr(w:World)(i:Int)(t:TypeId):∀k u,[Value.int .i64 i][k]? = some u→(w.alloc (.cells #[.int .i64 i] t)).cell? ((⟨w.heap.size,0,none⟩:Addr).add k)=some u:=by
 intro k u h;rw [Addr.add_lit,Nat.zero_add,World.cell?_alloc_new];match k,h with
 | 0,h=>exact h
theorem zbA{w:World}{base n k:Nat}{v:Value}(h:w.ownsRow base 3 1 v k (za3 n k))(hk:k≤500000000):zbP w v n k:=by
 rcases h.2 with⟨rfl,rfl⟩|⟨g,cap,cur,rfl,h1,h2,h3,h4,h5,h6⟩
 ·exact .inl ⟨rfl,none,0,rfl⟩
 ·rcases Nat.eq_zero_or_pos k with h0|h0
  ·subst h0;exact .inl ⟨rfl,_,_,rfl⟩
  ·refine .inr ⟨⟨g,0,none⟩,cap,rfl,h0,h3,⟨by omega,by unfold maxLen at h4;omega⟩,⟨cur,(0,0),h2⟩,fun i hi => ?_⟩;have:=h.cells rfl i (.int .i64 ((limb n i:Nat):Int)) (by simp [za3,hi]);rw [Addr.add_lit]at this ⊢;exact this
theorem zd0:Tryz.prog.info? 3=some Tryz.t3:=by kernel_rfl
theorem u30:Tryz.prog.underlying 30=some (.slice 3):=by kernel_rfl
theorem zfl:Tryz.t3.zero=some (.int .i64 0):=by kernel_rfl
theorem zev:Tryz.t3.size=1:=by kernel_rfl
theorem zd1:Tryz.t3.bytes=8:=by kernel_rfl
theorem zfs{n i:Nat}(hi:i<n):(madeCells #[Value.int .i64 0] n).toList[i]? = some (.int .i64 0):=by
 simp [madeCells,hi,Nat.mod_one]
theorem zaj.limbsI{w:World}{g n k cap:Nat}(h:zaj w g k fun i => .int .i64 ((limb n i:Nat):Int))(hk:0<k)(hc:k≤cap)(h9:k≤1000000000∧cap≤9223372036854775807)(hE:Elem w g 3):zbP w (.slice (some ⟨g,0,none⟩) k cap) n k:=
 .inr ⟨⟨g,0,none⟩,cap,rfl,hk,hc,h9,hE,fun i hi=>by rw [Addr.add_lit,Nat.zero_add];exact(h i hi).1⟩
theorem zaD{F:Fence}{n:Nat}(w wr:World){ops:Array Oper}{rest:List Oper}{o:Oper}{a:Act}{Q:Exit→Act→World→Prop}
  (hg:o.guard=none) (s x:Operand) (hop:o.op=Op.call {callee:=Callee.builtin Builtin.append,args:=#[s,x],argTypes:=#[30,30]})
  (v:Value) (j N:Nat) (hs:a.eval s=v) (HO:Hid (wr.ownsRow w.heap.size 3 1 v j (za3 N j))) (z:Int) (t:TypeId) (hx:a.eval x = .slice (some ⟨wr.heap.size,0,none⟩) 1 1) (hz:z=((limb N j:Nat):Int)) (hj:j<500000000)
  (HB:Hid (Below w.heap.size w wr))
  (hK:∀v' w',Hid (w'.ownsRow w.heap.size 3 1 v' (j+1) (za3 N (j+1)))→Hid (Below w.heap.size w w')→wpListIn F n Tryz.prog ops Q rest (a.put o.dst v') w') :
  wpListIn F n Tryz.prog ops Q (o :: rest) a (wr.alloc (.cells #[.int .i64 z] t)):=by
 have hsz:=HB.out.size;refine wpListIn_append_own _ hg s x 30 hop w.heap.size 3 Tryz.t3 _ 1 8 Go.Num.u30 zd0 zfl zev zd1 rfl (by decide) v j (za3 N j) hs (World.ownsRow.alloc HO.out _) ⟨wr.heap.size,0,none⟩ 1 1 [.int .i64 z] hx rfl (zqr _ _ _) (fun u hu=>by simp at hu;subst hu;rfl) (by unfold maxLen;omega) (by omega) (by simp;omega) ?_;intro v' w' h1 h2 _;refine hK v' w' ?_ ?_
 ·rw [zm0,←hz];exact h1
 ·refine(HB.out.alloc hsz _).grown h2 (by simp;omega) fun k hk => ?_
  exact zbU HO.out hk
theorem NatI.below{w w':World}{v:Value}{n:Nat}(h:NatI w v n)(hb:Below w.heap.size w w'):NatI w' v n:=by
 obtain⟨k,hk,hl⟩:=h;exact⟨k,hk,hl.below hb⟩
theorem NatI.limbs{w:World}{v:Value}{n k:Nat}(h:NatI w v n)(hk:zcq n k):zbP w v n k:=by
 obtain⟨k',hk',hl⟩:=h;rw [hk.unique hk'];exact hl
theorem zkd(w:World)(o:Option Addr)(c:Nat):NatI w (.slice o 0 c) 0:=⟨0,zbC,.inl ⟨rfl,o,c,rfl⟩⟩
theorem NatI.setCell{w:World}{v:Value}{x g i:Nat}(h:NatI w v x)(hne:v.ownBlock≠some g)(u:Value):NatI (w.setCell ⟨g,i,none⟩ u) v x:=by
 obtain⟨k,hk,hl⟩:=h;refine⟨k,hk,?_⟩;rcases hl with h|⟨a,cap,rfl,h2,h3,h4,h5,h6⟩
 ·exact .inl h
 ·refine .inr ⟨a,cap,rfl,h2,h3,h4,h5.setCell _ _,fun j hj => ?_⟩;have hb:(a.add j).block≠g:=by rw [zac];exact fun e=>hne (by simp [Value.ownBlock,e])
  rw [World.cell?_setCell_other _ _ _ _ (by intro q;exact hb (by rw [←q]))];exact h6 j hj
theorem NatI.lt{w:World}{v:Value}{x:Nat}(h:NatI w v x)(h0:0<x):∀g,w.heap.size≤g→v.ownBlock≠some g:=by
 intro g hg;obtain⟨k,hk,hl⟩:=h;rcases hl with⟨rfl,_⟩|⟨a,cap,rfl,h2,h3,h4,h5,h6⟩
 ·have:=hk.zero;omega
 ·intro e;have:a.block=g:=by simpa [Value.ownBlock]using e
  have:=h5.lt;omega
theorem NatI.unique{w:World}{v:Value}{m n:Nat}(h:NatI w v m)(h':NatI w v n):m=n:=by
 obtain⟨k,hk,hl⟩:=h;obtain⟨k',hk',hl'⟩:=h';obtain⟨o,c,rfl,h1⟩:=hl.form;obtain⟨o',c',e,h2⟩:=hl'.form;injection e with e1 e2 e3;subst e1;subst e2;refine zn0 hk.1 hk'.1 fun i hi => ?_
 obtain⟨a,rfl,ha,hc⟩:=h1 (by omega);obtain⟨a',e,ha',hc'⟩:=h2 (by omega);injection e with e;subst e;have:=(hc i hi).symm.trans (hc' i hi);injection this with this;injection this with _ this;omega
open Classical in
noncomputable def znT(w:World)(v:Value):Nat:=if h:∃n,NatI w v n then Classical.choose h else 0
theorem NatI.num{w:World}{v:Value}{n:Nat}(h:NatI w v n):znT w v=n:=by
 unfold znT;rw [dif_pos ⟨n,h⟩];exact(Classical.choose_spec (⟨n,h⟩:∃n,NatI w v n)).unique h
theorem zaC{w:World}{v:Value}{n:Nat}(h:NatI w v n):∃o k c,v = .slice o k c∧(k=0↔n=0)∧k≤1000000000:=by
 obtain⟨k,hk,hl⟩:=h;obtain⟨o,c,rfl,h1⟩:=hl.form;refine⟨o,k,c,rfl,⟨fun e => ?_,fun e => ?_⟩,hl.small⟩
 ·subst e;exact hk.zero
 ·subst e;exact hk.unique zbC
def zr8:Value→Nat
 | .slice _ k _=>k
 | _=>0
theorem zbe(w:World)(v:Value)(n k:Nat)(h:zbP w v n k)(hn:n<B^k) :
  CallsIn Fence.wide 0 Tryz.prog 111 #[v] w fun e w'=>∃v',e = .returned v'∧(NatI w' v' n∧v'.ownBlock=v.ownBlock)∧Below w.heap.size w w':=by
 have hks:=h.small;have HLA:=zHi h;obtain⟨o,c,rfl,h1⟩:=h.form;have H1:=zHi h1;have HN:=zHi hn;have hkc:k≤c∧c≤9223372036854775807∨k=0:=by
  rcases h with⟨h0,_⟩|⟨a,cap,hv,h2,h3,h4,h5,h6⟩
  ·exact .inr h0
  ·injection hv with _ _ hc;left;omega
 clear h h1 hn;refine callsIn_of_wp Tryz.func111 rfl trivial ?_ rfl;simp only [Tryz.ntmps111,ztH,ztI,ztJ,Nat.reduceAdd,Nat.reduceSub,ztK,ztL,ztM,ztN,ztO,ztP];gi_wp2;gi_loopw [0] (fun i wr=>∃j:Nat,j≤k∧i = .slice o j c∧Hid (n<B^j)∧Hid (Below w.heap.size w wr)) (fun i _=>zr8 i)
 case atStart=>exact⟨k,Nat.le_refl _,rfl,HN.out,Below.refl _ _⟩
 case round=>
  obtain⟨j,hj,rfl,HJ,HB⟩:=hrel;by_cases h0:0<j
  ·obtain⟨m,rfl⟩:∃m,j=m+1:=⟨j-1,by omega⟩;obtain⟨a,rfl,ha,hc⟩:=H1.out (by omega);have p:=(HB.out.cell (p:=a.add m) (by rw [zac];exact ha)).trans (hc m (by omega));obtain⟨l,hl⟩:∃l,limb n m=l:=⟨_,rfl⟩;rw [hl]at p;have HLm:=zHi hl;clear hc hl;by_cases hz:l=0
   ·subst hz;gi_wp2;exact⟨⟨m,by omega,rfl,zjd HJ.out HLm.out,HB.out⟩,by simp [zr8]⟩
   ·have hz':¬(l:Int)=0:=by omega
    have hz2:((l:Int) == 0)=false:=by simp;omega
    gi_wp2;all_goals (first|go_returns|go_ret|go_end0)
    obtain⟨a',e',ha',hc⟩:=H1.out (by omega);injection e' with e';subst e';exact⟨_,rfl,⟨⟨m+1,zn2 HJ.out (by rw [HLm.out];exact hz),.inr ⟨a,c,rfl,by omega,by omega,by omega,(HLA.out.elem (by omega)).below HB.out ha,fun i hi=>(HB.out.cell (p:=a.add i) (by rw [zac];exact ha)).trans (hc i (by omega))⟩⟩,rfl⟩,HB.out⟩
  ·have hj0:j=0:=by omega
   subst hj0;gi_wp2;all_goals (first|go_returns|go_ret|go_end0)
   exact⟨_,rfl,⟨⟨0,⟨HJ.out,.inl rfl⟩,.inl ⟨rfl,o,c,rfl⟩⟩,by cases o <;> rfl⟩,HB.out⟩
def cmpI(x y:Nat):Int:=if x<y then -1 else if x=y then 0 else 1
theorem zh9{x y:Nat}(h:x<y):cmpI x y = -1:=if_pos h
theorem zm8{x:Nat}:cmpI x x=0:=by unfold cmpI;simp
theorem zky{x y:Nat}(h:y<x):cmpI x y=1:=by unfold cmpI;rw [if_neg (by omega),if_neg (by omega)]
theorem zlV{x y m:Nat}(h:x/m<y/m):x<y:=by
 apply Classical.byContradiction
 intro hno;have:=Nat.div_le_div_right (c:=m) (show y≤x by omega);omega
theorem zjr(w:World)(va vb:Value)(x y:Nat)(ha:NatI w va x)(hb:NatI w vb y) :
  CallsIn Fence.wide 0 Tryz.prog 127 #[va,vb] w fun e w'=>e = .returned (.int .i64 (cmpI x y))∧Below w.heap.size w w':=by
 obtain⟨k,hk,hla⟩:=ha;obtain⟨l,hl,hlb⟩:=hb;have hks:=hla.small;have hls:=hlb.small;obtain⟨o1,c1,rfl,h1⟩:=hla.form;obtain⟨o2,c2,rfl,h2⟩:=hlb.form;have H1:=zHi h1;have H2:=zHi h2;have HK:=zHi hk;have HL:=zHi hl;clear h1 h2 hk hl hla hlb;refine callsIn_of_wp Tryz.func127 rfl trivial ?_ rfl;simp only [Tryz.ntmps127,ztH,ztI,ztJ,Nat.reduceAdd,Nat.reduceSub,ztK,ztL,ztM,ztN,ztO,ztP];by_cases hkl:k=l
 ·subst hkl;gi_wp2;gi_loopw [5] (fun i wr=>∃i0:Int,-1≤i0∧i0<k∧i = .int .i64 i0∧Hid (x/B^(i0+1).toNat=y/B^(i0+1).toNat)∧Hid (Below w.heap.size w wr)) (fun i _=>(intOf i+1).toNat)
  case atStart=>exact⟨(k:Int)-1,by omega,by omega,rfl,zHi (by
   rw [show((k:Int)-1+1).toNat=k by omega,Nat.div_eq_of_lt HK.out.1,Nat.div_eq_of_lt HL.out.1]),Below.refl _ _⟩
  case round=>
   obtain⟨i0,hi1,hi2,rfl,HE,HB⟩:=hrel;by_cases h0:0≤i0
   ·obtain⟨m,rfl⟩:∃m:Nat,i0=(m:Int):=⟨i0.toNat,by omega⟩;obtain⟨a1,rfl,ha1,hc1⟩:=H1.out (by omega);obtain⟨a2,rfl,ha2,hc2⟩:=H2.out (by omega);have p1:=(HB.out.cell (p:=a1.add m) (by rw [zac];exact ha1)).trans (hc1 m (by omega));have p2:=(HB.out.cell (p:=a2.add m) (by rw [zac];exact ha2)).trans (hc2 m (by omega));rw [show((m:Int)+1).toNat=m+1 by omega]at HE;have dx:=zcn x m;have dy:=zcn y m;obtain⟨lx,hlx⟩:∃l,limb x m=l:=⟨_,rfl⟩;obtain⟨ly,hly⟩:∃l,limb y m=l:=⟨_,rfl⟩;rw [hlx]at p1 dx;rw [hly]at p2 dy;rw [HE.out]at dx;have HX:=zHi dx;have HY:=zHi dy;clear hc1 hc2 hlx hly dx dy;by_cases hlt:lx<ly
    ·have HXY:Hid (cmpI x y = -1):=zHi (zh9 (zlV (m:=B^m) (by rw [HX.out,HY.out];omega)));have hl1:decide ((lx:Int)<(ly:Int))=true:=decide_eq_true (by omega);gi_wp2;gi_quiet (fail)
     gi_wp2;all_goals (first|go_returns|go_ret|go_end0)
     exact⟨by rw [HXY.out] <;> rfl,HB.out.trans (Below.mono (by first|exact zbh _ _|exact zdn _ _ _) HB.out.size)⟩
    ·have hl1:decide ((lx:Int)<(ly:Int))=false:=decide_eq_false (by omega);by_cases hgt:ly<lx
     ·have HXY:Hid (cmpI x y=1):=zHi (zky (zlV (m:=B^m) (by rw [HX.out,HY.out];omega)));have hl2:decide ((ly:Int)<(lx:Int))=true:=decide_eq_true (by omega);gi_wp2;gi_quiet (fail)
      gi_wp2;gi_quiet (fail)
      gi_wp2;all_goals (first|go_returns|go_ret|go_end0)
      exact⟨by rw [HXY.out] <;> rfl,HB.out.trans (Below.mono (by first|exact zbh _ _|exact zdn _ _ _) HB.out.size)⟩
     ·have hee:lx=ly:=by omega
      subst hee;have hl2:decide ((lx:Int)<(lx:Int))=false:=decide_eq_false (by omega);gi_wp2;gi_quiet (fail)
      gi_wp2;gi_quiet (fail)
      gi_wp2;refine⟨⟨(m:Int)-1,by omega,by omega,by go_num,zHi ?_,HB.out.trans (Below.mono (by first|exact zbh _ _|exact zdn _ _ _) HB.out.size)⟩,by simp [intOf]⟩;rw [show((m:Int)-1+1).toNat=m by omega,HX.out,HY.out]
   ·have hm1:i0 = -1:=by omega
    subst hm1;have hxy:x=y:=by
     have:=HE.out;simpa using this
    subst hxy;gi_wp2;all_goals (first|go_returns|go_ret|go_end0)
    exact⟨by rw [zm8] <;> rfl,HB.out⟩
 ·have hkl':¬(k:Int)=(l:Int):=by omega
  by_cases hlt:k<l
  ·have HXY:Hid (cmpI x y = -1):=zHi (zh9 (zgA HK.out HL.out hlt));have hl1:(k:Int)<(l:Int):=by omega
   gi_wp2;all_goals (first|go_returns|go_ret|go_end0)
   exact⟨by rw [HXY.out] <;> rfl,Below.refl _ _⟩
  ·have HXY:Hid (cmpI x y=1):=zHi (zky (zgA HL.out HK.out (by omega)));have hl1:¬(k:Int)<(l:Int):=by omega
   gi_wp2;all_goals (first|go_returns|go_ret|go_end0)
   exact⟨by rw [HXY.out] <;> rfl,Below.refl _ _⟩
theorem zpj(w:World)(va vb:Value)(x y L:Nat)(ha:NatI w va x)(hb:NatI w vb y)(hx:x<B^L)(hy:y<B^L)(hL:L≤100000000) :
  CallsIn Fence.wide 0 Tryz.prog 126 #[va,vb] w fun e w'=>∃v',e = .returned v'∧(NatI w' v' (x+y)∧zc1 w.heap.size v')∧Below w.heap.size w w':=by
 obtain⟨k,hk,hla⟩:=ha;obtain⟨l,hl,hlb⟩:=hb;have hkL:=hk.le hx;have hlL:=hl.le hy;clear hx hy;obtain⟨o1,c1,rfl,h1⟩:=hla.form;obtain⟨o2,c2,rfl,h2⟩:=hlb.form;have H1:=zHi h1;have H2:=zHi h2;have HK:=zHi hk;have HL:=zHi hl;clear h1 h2 hk hl hla hlb;refine callsIn_of_wp Tryz.func126 rfl trivial ?_ rfl;simp only [Tryz.ntmps126,ztH,ztI,ztJ,Nat.reduceAdd,Nat.reduceSub,ztK,ztL,ztM,ztN,ztO,ztP];obtain⟨M,hM⟩:∃M,max k l=M:=⟨_,rfl⟩;have hMk:k≤M:=by omega
 have hMl:l≤M:=by omega
 have hM9:M≤100000000:=by omega
 have HS:Hid (x<B^M∧y<B^M):=⟨Nat.lt_of_lt_of_le HK.out.1 (zag hMk),Nat.lt_of_lt_of_le HL.out.1 (zag hMl)⟩;by_cases hkl:k<l
 case' pos=>have hML:M=l:=by omega
 case' neg=>have hML:M=k:=by omega
 all_goals
  have HML:=zHi hML;clear hM hML;have HO4:Hid (w.ownsRow w.heap.size 3 1 (.slice none 0 0) 0 (za3 (x+y) 0)):=World.ownsRow_nil _ _ _ _;have HB4:Hid (Below w.heap.size w w):=Below.refl _ w;gi_wp2;gi_loopw [5,6,7] (fun v cv i wr=>∃j c:Nat,j≤M+1∧i = .int .i64 (j:Int)∧cv = .int .i64 (c:Int)∧Hid (zcs x y j=c)∧Hid (j=M+1→B^M≤x+y)∧Hid (wr.ownsRow w.heap.size 3 1 v j (za3 (x+y) j))∧Hid (Below w.heap.size w wr)) (fun _ _ i _=>M+2-(intOf i).toNat)
  case atStart=>exact⟨0,0,by omega,rfl,rfl,zHi (zie x y),zHi (fun h=>by omega),HO4.out,HB4.out⟩
  case round=>
   obtain⟨j,c,hj,rfl,rfl,HC,HT,HO,HBr⟩:=hrel;have hc1:c≤1:=by rw [←HC.out];exact zeU x y j
   have hjc:c=1→j≤M:=fun hc=>by
    apply Classical.byContradiction
    intro hno;have:j=M+1:=by omega
    subst this;have s:=(zha x y M).2;rw [zaN HS.out.1,zaN HS.out.2,HC.out,hc]at s;have:=zeU x y M;have hBB:B=1000000000:=rfl;rw [Nat.div_eq_of_lt (by omega)]at s;omega
   have s:=zha x y j;rw [HC.out]at s;obtain⟨lx,hlx⟩:∃l,limb x j=l:=⟨_,rfl⟩;obtain⟨ly,hly⟩:∃l,limb y j=l:=⟨_,rfl⟩;have bx:lx<1000000000:=by rw [←hlx];exact zaA x j
   have by':ly<1000000000:=by rw [←hly];exact zaA y j
   rw [hlx,hly]at s;have HSt:=zHi s;clear s HO4 HB4;have hMM:=HML.out;have hBB:B=1000000000:=rfl;by_cases hjk:j<k
   ·by_cases hjl:j<l
    ·have hj1:j≤M:=by omega
     obtain⟨a1,rfl,ha1,hc1'⟩:=H1.out (by omega);have p1:=(HBr.out.cell (p:=a1.add j) (by rw [zac];exact ha1)).trans (hc1' j hjk);rw [hlx]at p1;clear hc1';obtain⟨a2,rfl,ha2,hc2'⟩:=H2.out (by omega);have p2:=(HBr.out.cell (p:=a2.add j) (by rw [zac];exact ha2)).trans (hc2' j hjl);rw [hly]at p2;clear hc2';have hjkd:decide ((j:Int)<(k:Int))=true:=decide_eq_true (by omega);have hjld:decide ((j:Int)<(l:Int))=true:=decide_eq_true (by omega);clear hlx hly;gi_wp2_with (gi_at_builtin;refine stop ?_)
     unfold Stop;refine zaD w wr rfl _ _ rfl u5 j (x+y) rfl HO _ _ rfl ?_ (by omega) HBr ?_
     ·rw [HSt.out.1];simp [B];omega
     ·intro v2 w2 HO2 HB2;gi_wp2;refine⟨⟨j+1,(lx+ly+c)/B,by omega,by go_num,?_,HSt.out.2.symm ▸ rfl,zHi (fun h=>by omega),HO2,HB2⟩,by simp [intOf];omega⟩;simp [B];omega
    ·try omega
     all_goals
      have hj1:j≤M:=by omega
      obtain⟨a1,rfl,ha1,hc1'⟩:=H1.out (by omega);have p1:=(HBr.out.cell (p:=a1.add j) (by rw [zac];exact ha1)).trans (hc1' j hjk);rw [hlx]at p1;clear hc1';have hy0:ly=0:=by rw [←hly];exact zaN (Nat.lt_of_lt_of_le HL.out.1 (zag (by omega)))
      subst hy0;have hjl':¬(j:Int)<(l:Int):=by omega
      have hjld:decide ((j:Int)<(l:Int))=false:=decide_eq_false (by omega);have hjkd:decide ((j:Int)<(k:Int))=true:=decide_eq_true (by omega);clear hlx hly;gi_wp2_with (gi_at_builtin;refine stop ?_)
      unfold Stop;refine zaD w wr rfl _ _ rfl u5 j (x+y) rfl HO _ _ rfl ?_ (by omega) HBr ?_
      ·rw [HSt.out.1];simp [B];omega
      ·intro v2 w2 HO2 HB2;gi_wp2;refine⟨⟨j+1,(lx+0+c)/B,by omega,by go_num,?_,HSt.out.2.symm ▸ rfl,zHi (fun h=>by omega),HO2,HB2⟩,by simp [intOf];omega⟩;simp [B];omega
   ·by_cases hjl:j<l
    ·try omega
     all_goals
      have hj1:j≤M:=by omega
      have hx0:lx=0:=by rw [←hlx];exact zaN (Nat.lt_of_lt_of_le HK.out.1 (zag (by omega)))
      subst hx0;have hjk':¬(j:Int)<(k:Int):=by omega
      have hjkd:decide ((j:Int)<(k:Int))=false:=decide_eq_false (by omega);obtain⟨a2,rfl,ha2,hc2'⟩:=H2.out (by omega);have p2:=(HBr.out.cell (p:=a2.add j) (by rw [zac];exact ha2)).trans (hc2' j hjl);rw [hly]at p2;clear hc2';have hjld:decide ((j:Int)<(l:Int))=true:=decide_eq_true (by omega);clear hlx hly;gi_wp2_with (gi_at_builtin;refine stop ?_)
      unfold Stop;refine zaD w wr rfl _ _ rfl u5 j (x+y) rfl HO _ _ rfl ?_ (by omega) HBr ?_
      ·rw [HSt.out.1];simp [B];omega
      ·intro v2 w2 HO2 HB2;gi_wp2;refine⟨⟨j+1,(0+ly+c)/B,by omega,by go_num,?_,HSt.out.2.symm ▸ rfl,zHi (fun h=>by omega),HO2,HB2⟩,by simp [intOf];omega⟩;simp [B];omega
    ·by_cases hc0:c=1
     ·subst hc0;have hj1:=hjc rfl;have HCar:Hid (B^j≤x+y):=zHi (by
       have s0:=zgj x y j;rw [HC.out,Nat.mul_one]at s0;have h1:=Nat.mod_le x (B^j);have h2:=Nat.mod_le y (B^j);generalize (x+y)%B^j=q at s0
       generalize x%B^j=q1 at s0 h1
       generalize y%B^j=q2 at s0 h2
       omega)
      have hx0:lx=0:=by rw [←hlx];exact zaN (Nat.lt_of_lt_of_le HK.out.1 (zag (by omega)))
      subst hx0;have hjk':¬(j:Int)<(k:Int):=by omega
      have hjkd:decide ((j:Int)<(k:Int))=false:=decide_eq_false (by omega);have hy0:ly=0:=by rw [←hly];exact zaN (Nat.lt_of_lt_of_le HL.out.1 (zag (by omega)))
      subst hy0;have hjl':¬(j:Int)<(l:Int):=by omega
      have hjld:decide ((j:Int)<(l:Int))=false:=decide_eq_false (by omega);clear hlx hly;gi_wp2_with (gi_at_builtin;refine stop ?_)
      unfold Stop;refine zaD w wr rfl _ _ rfl u5 j (x+y) rfl HO _ _ rfl ?_ (by omega) HBr ?_
      ·rw [HSt.out.1];(first|(simp [B];done)|(simp [B];omega))
      ·intro v2 w2 HO2 HB2;gi_wp2;refine⟨⟨j+1,(0+0+1)/B,by omega,by go_num,?_,HSt.out.2.symm ▸ rfl,zHi (fun h=>(show j=M by omega) ▸ HCar.out),HO2,HB2⟩,by simp [intOf];omega⟩
       (first|(simp [B];done)|(simp [B];omega))
     ·have hc00:c=0:=by omega
      subst hc00;have hjk':¬(j:Int)<(k:Int):=by omega
      have hjkd:decide ((j:Int)<(k:Int))=false:=decide_eq_false (by omega);have hjl':¬(j:Int)<(l:Int):=by omega
      have hjld:decide ((j:Int)<(l:Int))=false:=decide_eq_false (by omega);have hlt:x+y<B^j:=by
       have s0:=zgj x y j;rw [zbc (Nat.lt_of_lt_of_le HK.out.1 (zag (by omega))),zbc (Nat.lt_of_lt_of_le HL.out.1 (zag (by omega))),HC.out,Nat.mul_zero,Nat.add_zero]at s0;rw [s0];exact zcr _ _
      have HLen:Hid (zcq (x+y) j):=zHi ⟨hlt,by
       rcases Nat.eq_zero_or_pos j with h0|h0
       ·exact .inl h0
       ·right;by_cases hjM:j=M+1
        ·rw [hjM];exact HT.out hjM
        ·have hkj:j=M:=by omega
         have h3:=HK.out.2;have h4:=HL.out.2;have h5:j=k∨j=l:=by omega
         rcases h5 with h5|h5
         ·rw [h5]at h0 ⊢;omega
         ·rw [h5]at h0 ⊢;omega⟩
      clear hlx hly hlt;gi_wp2;all_goals (first|go_returns|go_ret|go_end0)
      exact⟨_,rfl,⟨⟨j,HLen.out,zbA HO.out (by omega)⟩,fun k hk=>zbU HO.out hk⟩,HBr.out⟩
theorem ziT(w:World)(va vb:Value)(x y L:Nat)(ha:NatI w va x)(hb:NatI w vb y)(hyx:y≤x)(hx:x<B^L)(hL:L≤100000000) :
  CallsIn Fence.wide 0 Tryz.prog 128 #[va,vb] w fun e w'=>∃v',e = .returned v'∧(NatI w' v' (x-y)∧zc1 w.heap.size v')∧Below w.heap.size w w':=by
 obtain⟨k,hk,hla⟩:=ha;obtain⟨l,hl,hlb⟩:=hb;have hkL:=hk.le hx;have hls:=hlb.small;clear hx;obtain⟨o1,c1,rfl,h1⟩:=hla.form;obtain⟨o2,c2,rfl,h2⟩:=hlb.form;have H1:=zHi h1;have H2:=zHi h2;have HK:=zHi hk;have HL:=zHi hl;have HYX:=zHi hyx;clear h1 h2 hk hl hla hlb hyx;refine callsIn_of_wp Tryz.func128 rfl trivial ?_ rfl;simp only [Tryz.ntmps128,ztH,ztI,ztJ,Nat.reduceAdd,Nat.reduceSub,ztK,ztL,ztM,ztN,ztO,ztP];have HO4:Hid (w.ownsRow w.heap.size 3 1 (.slice none 0 0) 0 (za3 (x-y) 0)):=World.ownsRow_nil _ _ _ _;have HB4:Hid (Below w.heap.size w w):=Below.refl _ w;gi_wp2;gi_loopw [5,6,7] (fun v bv i wr=>∃j bo:Nat,j≤k∧i = .int .i64 (j:Int)∧bv = .int .i64 (bo:Int)∧Hid (za7 x y j=bo)∧Hid (wr.ownsRow w.heap.size 3 1 v j (za3 (x-y) j))∧Hid (Below w.heap.size w wr)) (fun _ _ i _=>k-(intOf i).toNat)
 case atStart=>exact⟨0,0,by omega,rfl,rfl,zHi (zgU x y),HO4.out,HB4.out⟩
 case round=>
  obtain⟨j,bo,hj,rfl,rfl,HC,HO,HBr⟩:=hrel;have hb1:bo≤1:=by rw [←HC.out];exact zfc x y j
  have s:=znw HYX.out j;rw [HC.out]at s;obtain⟨lx,hlx⟩:∃l,limb x j=l:=⟨_,rfl⟩;obtain⟨ly,hly⟩:∃l,limb y j=l:=⟨_,rfl⟩;have bx:lx<1000000000:=by rw [←hlx];exact zaA x j
  have by':ly<1000000000:=by rw [←hly];exact zaA y j
  rw [hlx,hly]at s;have hBB:B=1000000000:=rfl;rw [hBB]at s;have HSt:=zHi s;clear s HO4 HB4 hBB;by_cases hjk:j<k
  ·obtain⟨a1,rfl,ha1,hc1'⟩:=H1.out (by omega);have p1:=(HBr.out.cell (p:=a1.add j) (by rw [zac];exact ha1)).trans (hc1' j hjk);rw [hlx]at p1;clear hc1';by_cases hjl:j<l
   ·obtain⟨a2,rfl,ha2,hc2'⟩:=H2.out (by omega);have p2:=(HBr.out.cell (p:=a2.add j) (by rw [zac];exact ha2)).trans (hc2' j hjl);rw [hly]at p2;clear hc2' hlx hly;by_cases hlt:lx<ly+bo
    ·have hs:=HSt.out.1 hlt;have HS:=zHi hs;have hlt':(lx:Int)<(bo:Int)+(ly:Int):=by omega
     clear hs hlt;gi_wp2_with (gi_at_builtin;refine stop ?_)
     unfold Stop;refine zaD w wr rfl _ _ rfl u5 j (x-y) rfl HO _ _ rfl ?_ (by omega) HBr ?_
     ·rw [HS.out.2];omega
     ·intro v2 w2 HO2 HB2;gi_wp2;exact⟨⟨j+1,1,by omega,by go_num,rfl,HS.out.1,HO2,HB2⟩,by simp [intOf];omega⟩
    ·have hs:=HSt.out.2 hlt;have HS:=zHi hs;have hlt':¬(lx:Int)<(bo:Int)+(ly:Int):=by omega
     clear hs;gi_wp2_with (gi_at_builtin;refine stop ?_)
     unfold Stop;refine zaD w wr rfl _ _ rfl u5 j (x-y) rfl HO _ _ rfl ?_ (by omega) HBr ?_
     ·rw [HS.out.2];omega
     ·intro v2 w2 HO2 HB2;gi_wp2;exact⟨⟨j+1,0,by omega,by go_num,rfl,HS.out.1,HO2,HB2⟩,by simp [intOf];omega⟩
   ·have hy0:ly=0:=by rw [←hly];exact zaN (Nat.lt_of_lt_of_le HL.out.1 (zag (by omega)))
    subst hy0;clear hlx hly;by_cases hlt:lx<0+bo
    ·have hs:=HSt.out.1 hlt;have HS:=zHi hs;have hlt':(lx:Int)<(bo:Int):=by omega
     clear hs hlt;gi_wp2_with (gi_at_builtin;refine stop ?_)
     unfold Stop;refine zaD w wr rfl _ _ rfl u5 j (x-y) rfl HO _ _ rfl ?_ (by omega) HBr ?_
     ·rw [HS.out.2];omega
     ·intro v2 w2 HO2 HB2;gi_wp2;exact⟨⟨j+1,1,by omega,by go_num,rfl,HS.out.1,HO2,HB2⟩,by simp [intOf];omega⟩
    ·have hs:=HSt.out.2 hlt;have HS:=zHi hs;have hlt':¬(lx:Int)<(bo:Int):=by omega
     clear hs;gi_wp2_with (gi_at_builtin;refine stop ?_)
     unfold Stop;refine zaD w wr rfl _ _ rfl u5 j (x-y) rfl HO _ _ rfl ?_ (by omega) HBr ?_
     ·rw [HS.out.2];omega
     ·intro v2 w2 HO2 HB2;gi_wp2;exact⟨⟨j+1,0,by omega,by go_num,rfl,HS.out.1,HO2,HB2⟩,by simp [intOf];omega⟩
  ·have hjk0:j=k:=by omega
   subst hjk0;have hlt:x-y<B^j:=Nat.lt_of_le_of_lt (Nat.sub_le _ _) HK.out.1;have HT:=zHi (zbe wr _ (x-y) j (zbA HO.out (by omega)) hlt);clear hlx hly hlt;gi_wp2_with (gi_at_call 111;refine HT.out.mono ?_;rintro e w7 ⟨v',rfl,hm,hB7⟩;have HM:=zHi hm;have HB7:=zBt HBr hB7;clear hm hB7)
   all_goals (first|go_returns|go_ret|go_end0)
   exact⟨v',rfl,⟨HM.out.1,fun k hk=>zbU HO.out (HM.out.2 ▸ hk)⟩,HB7.out⟩
theorem zeM{x:Nat}(h:x<9223372036854775808):IntKind.i64.wrap (x:Int)=(x:Int):=by
 have e:IntKind.i64.wrap (x:Int)=if(decide ((x:Int)%18446744073709551616≥9223372036854775808))=true then(x:Int)%18446744073709551616-18446744073709551616 else(x:Int)%18446744073709551616:=rfl
 rw [e,if_neg (by simp;omega)];omega
theorem zmr(w:World)(va:Value)(x b:Nat)(h:NatI w va x)(hb:0<b)(hB:b<B) :
  CallsIn Fence.wide 0 Tryz.prog 174 #[va,.int .i64 (b:Int)] w fun e w'=>∃v',e = .returned (.tuple #[v',.int .i64 ((x%b:Nat):Int)])∧(NatI w' v' (x/b)∧zc1 w.heap.size v')∧Below w.heap.size w w':=by
 obtain⟨k,hk,hl⟩:=h;have hks:=hl.small;obtain⟨o,c,rfl,h1⟩:=hl.form;have H1:=zHi h1;have HK:=zHi hk;have HB:=zHi hB;have hBB:b<1000000000:=hB;clear h1 hk hl hB;refine callsIn_of_wp Tryz.func174 rfl trivial ?_ rfl;simp only [Tryz.ntmps174,ztH,ztI,ztJ,Nat.reduceAdd,Nat.reduceSub,ztK,ztL,ztM,ztN,ztO,ztP];gi_wp2_with (gi_at_make;refine stop ?_)
 unfold Stop;refine zaL _ rfl _ _ _ rfl w.heap.size 3 Tryz.t3 _ 1 u30 zd0 zfl zev _ _ _ _ k rfl rfl rfl rfl (by rw [zd1];omega) (by unfold maxLen;omega) (Nat.le_refl _) ?_;intro W4 hown hgrow;obtain⟨g,hg'⟩:∃g,w.heap.size=g:=⟨_,rfl⟩;have HA4:Hid (zaj W4 g k fun i => .int .i64 ((topL (x/b) k i:Nat):Int)):=by
  rw [←hg'];exact zaj.of_row hown fun i hi=>by unfold topL;rw [if_neg (by omega)];exact zfs (by omega)
 have HB5:Hid (Below w.heap.size w W4):=(Below.refl _ w).grown hgrow (Nat.le_refl _) (fun _ h=>by cases h);have hg:w.heap.size≤g:=by omega
 have HE5:Hid (Elem W4 g 3):=by rw [←hg'];exact zcF hown
 rw [hg'];clear hown hgrow hg';gi_wp2;gi_loopw [7,8] (fun r i wr=>∃(i0:Int) (r0:Nat),-1≤i0∧i0<k∧i = .int .i64 i0∧r = .int .i64 (r0:Int)∧r0<b∧Hid (x/B^(i0+1).toNat%b=r0)∧Hid (zaj wr g k fun j => .int .i64 ((topL (x/b) (i0+1).toNat j:Nat):Int))∧Hid (Below w.heap.size w wr)∧Hid (Elem wr g 3)) (fun _ i _=>(intOf i+1).toNat)
 case atStart=>exact⟨(k:Int)-1,0,by omega,by omega,rfl,rfl,hb,zHi (by
  rw [show((k:Int)-1+1).toNat=k by omega,Nat.div_eq_of_lt HK.out.1,Nat.zero_mod]),by rw [show((k:Int)-1+1).toNat=k by omega];exact HA4.out,HB5.out,HE5.out⟩
 case round=>
  obtain⟨i0,r0,hi1,hi2,rfl,rfl,hr,HR,HA,HBr,HE⟩:=hrel;clear HA4 HB5 HE5;by_cases h0:0≤i0
  ·obtain⟨m,rfl⟩:∃m:Nat,i0=(m:Int):=⟨i0.toNat,by omega⟩;obtain⟨a,rfl,ha,hc⟩:=H1.out (by omega);have p:=(HBr.out.cell (p:=a.add m) (by rw [zac];exact ha)).trans (hc m (by omega));rw [show((m:Int)+1).toNat=m+1 by omega]at HR HA;have s1:=ziV hb (Nat.le_of_lt HB.out) x m;have s2:=(zfS x b m).1;rw [HR.out]at s1 s2;obtain⟨l,hl⟩:∃l,limb x m=l:=⟨_,rfl⟩;have hlB:l<1000000000:=by rw [←hl];exact zaA x m
   rw [hl]at p s1 s2;have hmk:m<k:=by omega
   have z1:wr.cell? ⟨g,m,none⟩=some (.int .i64 0):=(HA.out m hmk).1.trans (by show some (Value.int .i64 ((topL (x/b) (m+1) m:Nat):Int))=_;unfold topL;rw [if_neg (by omega)];rfl);have z2:=(HA.out m hmk).2;obtain⟨t,ht⟩:∃t,r0*B+l=t:=⟨_,rfl⟩;have htB:t<9223372036854775808:=by
    rw [←ht];have:r0*B≤1000000000*1000000000:=Nat.mul_le_mul (by omega) (Nat.le_refl _);omega
   have e1:IntKind.i64.wrap ((r0:Int)*1000000000)=((r0*1000000000:Nat):Int):=by
    have:r0*1000000000<9223372036854775808:=by omega
    have:=zeM this;rw [←this];simp
   have e2:IntKind.i64.wrap (((r0*1000000000:Nat):Int)+(l:Int))=(t:Int):=by
    have:=zeM htB;rw [←this,←ht];simp [B]
   rw [ht]at s1 s2;have e3:((t:Int).tdiv (b:Int))=((t/b:Nat):Int):=rfl;have e4:((t:Int).tmod (b:Int))=((t%b:Nat):Int):=rfl;obtain⟨Q,hQ⟩:∃Q,t/b=Q:=⟨_,rfl⟩;obtain⟨R,hRR⟩:∃R,t%b=R:=⟨_,rfl⟩;rw [hQ]at s1 e3;rw [hRR]at s2 e4;have hRb:R<b:=by rw [←hRR];exact Nat.mod_lt _ hb
   have hQt:Q<9223372036854775808:=by rw [←hQ];exact Nat.lt_of_le_of_lt (Nat.div_le_self _ _) htB
   have e5:=zeM hQt;have e6:((r0:Int)*1000000000+(l:Int))/(b:Int)=(Q:Int):=by rw [←hQ,←ht];simp [B]
   have e7:((r0:Int)*1000000000+(l:Int))%(b:Int)=(R:Int):=by rw [←hRR,←ht];simp [B]
   have S1:=zHi s1;have S2:=zHi s2;have hb0:¬(b:Int)=0:=by omega
   clear hc hl s1 s2 ht hQ hRR;gi_wp2;refine⟨⟨(m:Int)-1,R,by omega,by omega,by go_num,congrArg (Value.int .i64) e7,hRb,?_,?_,HBr.out.setCell hg _,HE.out.setCell _ _⟩,by simp [intOf]⟩
   ·rw [show((m:Int)-1+1).toNat=m by omega];exact S2.out.symm
   ·rw [show((m:Int)-1+1).toNat=m by omega];refine zHi (zaj.congr (HA.out.set hmk (.int .i64 (Q:Int))) fun j _ => ?_);unfold topL;by_cases e:j=m
    ·subst e;rw [if_pos rfl,if_pos (Nat.le_refl _),S1.out]
    ·rw [if_neg e];by_cases e2:m+1≤j
     ·rw [if_pos e2,if_pos (by omega)]
     ·rw [if_neg e2,if_neg (by omega)]
  ·have hm1:i0 = -1:=by omega
   subst hm1;have hr0:x%b=r0:=by
    have:=HR.out;simpa using this
   have HRE:=zHi hr0;have hlt:x/b<B^k:=Nat.lt_of_le_of_lt (Nat.div_le_self _ _) HK.out.1;have hla:zbP wr (.slice (some ⟨g,0,none⟩) k k) (x/b) k:=by
    rcases Nat.eq_zero_or_pos k with h|h
    ·subst h;exact .inl ⟨rfl,_,_,rfl⟩
    ·refine zaj.limbsI (zaj.congr HA.out fun j _ => ?_) h (Nat.le_refl _) ⟨hks,by omega⟩ HE.out;unfold topL;rw [if_pos (by simp)]
   have HT:=zHi (zbe wr _ (x/b) k hla hlt);clear hlt hla hr0;gi_wp2_with (gi_at_call 111;refine HT.out.mono ?_;rintro e w7 ⟨v',rfl,hm,hB7⟩;have HM:=zHi hm;have HB7:=zBt HBr hB7;clear hm hB7)
   all_goals (first|go_returns|go_ret|go_end0)
   refine⟨v',?_,⟨HM.out.1,zc6 HM.out.2 hg⟩,HB7.out⟩;rw [HRE.out];rfl
def zeT(x c j:Nat):Nat:=x%B^j*c/B^j
theorem zna(x c:Nat):zeT x c 0=0:=by unfold zeT;rw [zcK];simp
theorem zq0(x c j:Nat):zeT x c j≤c:=by
 unfold zeT;refine Nat.div_le_of_le_mul ?_;exact Nat.mul_le_mul_right c (Nat.le_of_lt (zcr x j))
theorem ziO(x c j:Nat):limb (x*c) j=(zeT x c j+limb x j*c)%B∧zeT x c (j+1)=(zeT x c j+limb x j*c)/B:=by
 have e1:x%B^(j+1)*c=x%B^j*c+B^j*(limb x j*c):=by rw [za8,Nat.add_mul,Nat.mul_assoc]
 have e2:x%B^(j+1)*c/B^j=zeT x c j+limb x j*c:=by rw [e1,Nat.add_mul_div_left _ _ (zar j)];rfl
 refine⟨?_,?_⟩
 ·have e3:x*c=x%B^(j+1)*c+B^j*(B*(x/B^(j+1)*c)):=by
   have h:=Nat.mod_add_div x (B^(j+1));calc x*c=(x%B^(j+1)+B^(j+1)*(x/B^(j+1)))*c:=by rw [h]
    _=_:=by rw [Nat.add_mul,Nat.pow_succ];simp only [Nat.mul_assoc]
  unfold limb;rw [e3,Nat.add_mul_div_left _ _ (zar j),e2,Nat.add_mul_mod_self_left];rfl
 ·show x%B^(j+1)*c/B^(j+1)=_
  rw [←e2,Nat.div_div_eq_div_mul,←Nat.pow_succ]
theorem zps{x c j:Nat}(hx:x<B^j)(h:zeT x c j=0):x*c<B^j:=by
 unfold zeT at h;rw [zbc hx]at h;exact Nat.lt_of_div_eq_zero (zar j) h
theorem zeu(w:World)(va:Value)(x c:Nat)(L:Nat)(ha:NatI w va x)(hx:x<B^L)(hL:L≤100000000)(hc:c<B) :
  CallsIn Fence.wide 0 Tryz.prog 173 #[va,.int .i64 (c:Int)] w fun e w'=>∃v',e = .returned v'∧(NatI w' v' (x*c)∧zc1 w.heap.size v')∧Below w.heap.size w w':=by
 obtain⟨k,hk,hla⟩:=ha;have hks:=hla.small;obtain⟨o1,c1,rfl,h1⟩:=hla.form;have hcB:c<1000000000:=hc;have H1:=zHi h1;have HK:=zHi hk;have hk9:k≤100000000:=by have:=HK.out.le hx;omega
 clear hx;clear h1 hk hla hc;refine callsIn_of_wp Tryz.func173 rfl trivial ?_ rfl;simp only [Tryz.ntmps173,ztH,ztI,ztJ,Nat.reduceAdd,Nat.reduceSub,ztK,ztL,ztM,ztN,ztO,ztP];have HO4:Hid (w.ownsRow w.heap.size 3 1 (.slice none 0 0) 0 (za3 (x*c) 0)):=World.ownsRow_nil _ _ _ _;have HB4:Hid (Below w.heap.size w w):=Below.refl _ w;gi_wp2;gi_loopw [5,6,7] (fun v cv i wr=>∃j ca:Nat,j≤k+1∧i = .int .i64 (j:Int)∧cv = .int .i64 (ca:Int)∧Hid (zeT x c j=ca)∧(j=k+1→ca=0)∧Hid (wr.ownsRow w.heap.size 3 1 v j (za3 (x*c) j))∧Hid (Below w.heap.size w wr)) (fun _ _ i _=>k+2-(intOf i).toNat)
 case atStart=>exact⟨0,0,by omega,rfl,rfl,zHi (zna x c),fun h=>by omega,HO4.out,HB4.out⟩
 case round=>
  obtain⟨j,ca,hj,rfl,rfl,HC,hca0,HO,HBr⟩:=hrel;have hcle:ca≤c:=by rw [←HC.out];exact zq0 x c j
  clear HO4 HB4;by_cases hjk:j<k
  ·obtain⟨a1,rfl,ha1,hc1'⟩:=H1.out (by omega);have p1:=(HBr.out.cell (p:=a1.add j) (by rw [zac];exact ha1)).trans (hc1' j hjk);have s:=ziO x c j;rw [HC.out]at s;obtain⟨lx,hlx⟩:∃l,limb x j=l:=⟨_,rfl⟩;have bx:lx<1000000000:=by rw [←hlx];exact zaA x j
   rw [hlx]at p1 s;obtain⟨P,hP⟩:∃P,lx*c=P:=⟨_,rfl⟩;have hPB:P≤999999998000000001:=by
    rw [←hP];exact Nat.mul_le_mul (Nat.le_of_lt_succ bx) (Nat.le_of_lt_succ hcB)
   have e1:((lx:Int)*(c:Int))=(P:Int):=by rw [←hP];simp
   rw [hP]at s;have hBB:B=1000000000:=rfl;rw [hBB]at s;have HSt:=zHi s;have hjkd:decide ((j:Int)<(k:Int))=true:=decide_eq_true (by omega);clear hc1' hlx hP s hBB;gi_wp2_with (gi_at_builtin;refine stop ?_)
   unfold Stop;refine zaD w wr rfl _ _ rfl u5 j (x*c) rfl HO _ _ rfl ?_ (by omega) HBr ?_
   ·rw [HSt.out.1];go_num
   ·intro v2 w2 HO2 HB2;gi_wp2;refine⟨⟨j+1,(ca+P)/1000000000,by omega,by go_num,?_,HSt.out.2,fun h=>by omega,HO2,HB2⟩,by simp [intOf];omega⟩;exact congrArg (Value.int .i64) (by go_num)
  ·by_cases hc0:0<ca
   ·have hjk0:j=k:=by omega
    subst hjk0;have s:=ziO x c j;rw [HC.out,zaN HK.out.1]at s;simp only [Nat.zero_mul,Nat.add_zero]at s;have hca9:ca<1000000000:=by omega
    have hBB:B=1000000000:=rfl;rw [hBB]at s;rw [Nat.mod_eq_of_lt hca9,Nat.div_eq_of_lt hca9]at s;have HSt:=zHi s;have hjkd:decide ((j:Int)<(j:Int))=false:=decide_eq_false (by omega);clear s hBB;gi_wp2_with (gi_at_builtin;refine stop ?_)
    unfold Stop;refine zaD w wr rfl _ _ rfl u5 j (x*c) rfl HO _ _ rfl ?_ (by omega) HBr ?_
    ·rw [HSt.out.1];go_num
    ·intro v2 w2 HO2 HB2;gi_wp2;refine⟨⟨j+1,0,by omega,by go_num,?_,HSt.out.2,fun h=>rfl,HO2,HB2⟩,by simp [intOf] <;> omega⟩;exact congrArg (Value.int .i64) (by go_num)
   ·have hc00:ca=0:=by omega
    subst hc00;have hjkd:decide ((j:Int)<(k:Int))=false:=decide_eq_false (by omega);have hlt:x*c<B^j:=zps (Nat.lt_of_lt_of_le HK.out.1 (zag (by omega))) HC.out;have HT:=zHi (zbe wr _ (x*c) j (zbA HO.out (by omega)) hlt);clear hlt;gi_wp2_with (gi_at_call 111;refine HT.out.mono ?_;rintro e w7 ⟨v',rfl,hm,hB7⟩;have HM:=zHi hm;have HB7:=zBt HBr hB7;clear hm hB7)
    all_goals (first|go_returns|go_ret|go_end0)
    exact⟨v',rfl,⟨HM.out.1,fun k hk=>zbU HO.out (HM.out.2 ▸ hk)⟩,HB7.out⟩
def zgZ(S c y x i l j p:Nat):Nat:=if j≤l then zeo S c y i j p else limb (x%B^(i+1)*y) p
theorem zpi{S c y x i l:Nat}(p:Nat):zgZ S c y x i l 0 p=limb S p:=by
 unfold zgZ;rw [if_pos (Nat.zero_le _),zju]
theorem zoZ(w:World)(va vb:Value)(x y L:Nat)(ha:NatI w va x)(hb:NatI w vb y)(hx:x<B^L)(hy:y<B^L)(hL:L≤100000000) :
  CallsIn Fence.wide 0 Tryz.prog 129 #[va,vb] w fun e w'=>∃v',e = .returned v'∧(NatI w' v' (x*y)∧zc1 w.heap.size v')∧Below w.heap.size w w':=by
 obtain⟨k,hk,hla⟩:=ha;obtain⟨l,hl,hlb⟩:=hb;have hkL:=hk.le hx;have hlL:=hl.le hy;clear hx hy;obtain⟨o1,c1,rfl,h1⟩:=hla.form;obtain⟨o2,c2,rfl,h2⟩:=hlb.form;have H1:=zHi h1;have H2:=zHi h2;have HK:=zHi hk;have HL:=zHi hl;clear h1 h2 hk hl hla hlb;refine callsIn_of_wp Tryz.func129 rfl trivial ?_ rfl;simp only [Tryz.ntmps129,ztH,ztI,ztJ,Nat.reduceAdd,Nat.reduceSub,ztK,ztL,ztM,ztN,ztO,ztP];gi_wp2_with (gi_at_make;refine stop ?_)
 unfold Stop;refine zaL _ rfl _ _ _ rfl w.heap.size 3 Tryz.t3 _ 1 Go.Num.u30 zd0 zfl zev _ _ _ _ (k+l) rfl rfl (by omega) (by omega) (by rw [zd1];omega) (by unfold maxLen;omega) (Nat.le_refl _) ?_;intro W4 hown hgrow;obtain⟨g,hg'⟩:∃g,w.heap.size=g:=⟨_,rfl⟩;have HA4:Hid (zaj W4 g (k+l) fun p => .int .i64 ((limb (x%B^0*y) p:Nat):Int)):=by
  rw [←hg'];exact zaj.of_row hown fun i hi=>by rw [zcK,Nat.zero_mul,zlC];exact zfs (by omega)
 have HB5:Hid (Below w.heap.size w W4):=(Below.refl _ w).grown hgrow (Nat.le_refl _) (fun _ h=>by cases h);have hg:w.heap.size≤g:=by omega
 have HE5:Hid (Elem W4 g 3):=by rw [←hg'];exact zcF hown
 rw [hg'];clear hown hgrow hg';gi_wp2;gi_loopw [6] (fun i wr=>∃i0:Nat,i0≤k∧i = .int .i64 (i0:Int)∧Hid (zaj wr g (k+l) fun p => .int .i64 ((limb (x%B^i0*y) p:Nat):Int))∧Hid (Below w.heap.size w wr)∧Hid (Elem wr g 3)) (fun i _=>k-(intOf i).toNat)
 case atStart=>exact⟨0,by omega,rfl,HA4.out,HB5.out,HE5.out⟩
 case round=>
  obtain⟨i0,hi,rfl,HA,HBr,HE⟩:=hrel;clear HA4 HB5 HE5;by_cases hik:i0<k
  ·obtain⟨a1,rfl,ha1,hc1'⟩:=H1.out (by omega);have p1:=(HBr.out.cell (p:=a1.add i0) (by rw [zac];exact ha1)).trans (hc1' i0 hik);obtain⟨cx,hcx⟩:∃l,limb x i0=l:=⟨_,rfl⟩;have bx:cx<1000000000:=by rw [←hcx];exact zaA x i0
   rw [hcx]at p1;obtain⟨S,hS⟩:∃S,x%B^i0*y=S:=⟨_,rfl⟩;have HCX:=zHi hcx;have HSS:=zHi hS;have HP1:=zHi ((HBr.out.cell (p:=a1.add i0) (by rw [zac];exact ha1)).symm.trans p1);rw [hS]at HA;clear hc1' hcx hS;gi_wp2;gi_loopw [7,8,9] (fun cv jv _ wr=>∃(j ca:Nat),j≤l+1∧jv = .int .i64 (j:Int)∧cv = .int .i64 (ca:Int)∧(j=l+1→ca=0)∧Hid (j≤l→zdo S cx y i0 j=ca)∧Hid (zaj wr g (k+l) fun p => .int .i64 ((zgZ S cx y x i0 l j p:Nat):Int))∧Hid (Below w.heap.size w wr)∧Hid (Elem wr g 3)) (fun _ jv _ _=>l+1-(intOf jv).toNat)
   case atStart=>exact⟨0,0,by omega,rfl,rfl,fun h=>rfl,zHi (fun _=>zic _ _ _ _),zHi (zaj.congr HA.out fun p _=>by rw [zpi]),HBr.out,HE.out⟩
   case round=>
    obtain⟨j,ca,hj,rfl,rfl,hca0,HC,HA2,HB2,HE2⟩:=hrel;clear HA;by_cases hjl:j<l
    ·have HC:=zHi (HC.out (by omega));have hcle:ca≤cx:=by rw [←HC.out];exact zid S cx y i0 j
     obtain⟨a2,rfl,ha2,hc2'⟩:=H2.out (by omega);have p2:=(HB2.out.cell (p:=a2.add j) (by rw [zac];exact ha2)).trans (hc2' j hjl);have p1:=(HB2.out.cell (p:=a1.add i0) (by rw [zac];exact ha1)).trans (HP1.out);have s:=zkg S cx y i0 j;rw [HC.out]at s;obtain⟨ly,hly⟩:∃l,limb y j=l:=⟨_,rfl⟩;have by':ly<1000000000:=by rw [←hly];exact zaA y j
     obtain⟨lo,hlo⟩:∃l,limb S (i0+j)=l:=⟨_,rfl⟩;have bo:lo<1000000000:=by rw [←hlo];exact zaA S (i0+j)
     rw [hly]at p2 s;have hij:i0+j<k+l:=by omega
     have z1:wr.cell? ⟨g,i0+j,none⟩=some (.int .i64 (lo:Int)):=(HA2.out (i0+j) hij).1.trans (by show some (Value.int .i64 ((zgZ S cx y x i0 l j (i0+j):Nat):Int))=_;unfold zgZ;rw [if_pos (by omega)];unfold zeo;rw [if_neg (by omega),hlo]);have z2:=(HA2.out (i0+j) hij).2;rw [hlo]at s;obtain⟨P,hP⟩:∃P,cx*ly=P:=⟨_,rfl⟩;have hPB:P≤999999998000000001:=by
      rw [←hP];exact Nat.mul_le_mul (Nat.le_of_lt_succ bx) (Nat.le_of_lt_succ by')
     have e1:((cx:Int)*(ly:Int))=(P:Int):=by rw [←hP];simp
     have e1w:IntKind.i64.wrap ((cx:Int)*(ly:Int))=(P:Int):=by rw [e1];exact zeM (by omega)
     rw [hP]at s;have hBB:B=1000000000:=rfl;rw [hBB]at s;have HSt:=zHi s;have hQ:(ca+lo+P)%1000000000<1000000000:=Nat.mod_lt _ (by decide);have hjld:decide ((j:Int)<(l:Int))=true:=decide_eq_true (by omega);clear hc2' hly hlo hP s hBB;gi_wp2;gi_quiet (fail)
     gi_wp2;refine⟨⟨j+1,(ca+lo+P)/1000000000,by omega,by go_num,congrArg (Value.int .i64) (by go_num),fun h=>by omega,zHi (fun _=>HSt.out.2.1),?_,?_,?_⟩,by simp [intOf];omega⟩
     ·refine zHi (zaj.congr ((show zaj (wr.drewN _) g (k+l) _ from HA2.out).set hij (.int .i64 (((lo:Int)+(ca:Int)+(P:Int))%1000000000))) fun p _ => ?_);have e1:zgZ S cx y x i0 l j p=zeo S cx y i0 j p:=if_pos (by omega);have e2:zgZ S cx y x i0 l (j+1) p=zeo S cx y i0 (j+1) p:=if_pos (by omega);rw [e2,zjv];by_cases e:p=i0+j
      ·rw [if_pos e,if_pos e,HSt.out.1];exact congrArg (Value.int .i64) (by omega)
      ·rw [if_neg e,if_neg e,e1]
     ·exact zHi ((HB2.out.trans ((zbh _ _).mono HB2.out.size)).setCell hg _)
     ·exact zHi ((show Elem (wr.drewN _) g 3 from HE2.out).setCell _ _)
    ·have hS0:Hid (limb S (i0+l)=0):=zHi (zaN (by rw [←HSS.out];exact zaK (zcr x i0) HL.out.1));have hce:Hid (∀p,(if p=i0+l then limb (x%B^(i0+1)*y) (i0+l)else zeo S cx y i0 l p)=limb (x%B^(i0+1)*y) p):=zHi (fun p=>by
      have ce:=zl0 (x:=x) (i:=i0) (p:=p) HL.out.1;rw [HSS.out,HCX.out]at ce;exact ce)
     have hre:Hid (zdo S cx y i0 l=limb (x%B^(i0+1)*y) (i0+l)):=zHi (by
      have re:=(zmy (x:=x) (i:=i0) HL.out.1).2;rw [HSS.out,HCX.out]at re;exact re)
     have hjld:decide ((j:Int)<(l:Int))=false:=decide_eq_false (by omega);have hjld2:¬(j:Int)<(l:Int):=by omega
     by_cases hc0:0<ca
     ·have hjl0:j=l:=by
       apply Classical.byContradiction
       intro hno;have:=hca0 (by omega);omega
      subst hjl0;have HC:=zHi (HC.out (Nat.le_refl _));have hcle:ca≤cx:=by rw [←HC.out];exact zid S cx y i0 j
      have hij:i0+j<k+j:=by omega
      have z1:wr.cell? ⟨g,i0+j,none⟩=some (.int .i64 0):=(HA2.out (i0+j) hij).1.trans (by show some (Value.int .i64 ((zgZ S cx y x i0 j j (i0+j):Nat):Int))=_;unfold zgZ;rw [if_pos (by omega)];unfold zeo;rw [if_neg (by omega),hS0.out];rfl);have z2:=(HA2.out (i0+j) hij).2;gi_wp2;refine⟨⟨j+1,0,by omega,by go_num,congrArg (Value.int .i64) (by go_num),fun h=>rfl,zHi (fun h=>by omega),?_,HB2.out.setCell hg _,HE2.out.setCell _ _⟩,by simp [intOf] <;> omega⟩;refine zHi (zaj.congr (HA2.out.set hij (.int .i64 ((ca:Int)%1000000000))) fun p _ => ?_);have e1:zgZ S cx y x i0 j j p=zeo S cx y i0 j p:=if_pos (by omega);have e2:zgZ S cx y x i0 j (j+1) p=limb (x%B^(i0+1)*y) p:=if_neg (by omega);rw [e2,←hce.out p];by_cases e:p=i0+j
      ·rw [if_pos e,if_pos e,←hre.out,HC.out];exact congrArg (Value.int .i64) (by omega)
      ·rw [if_neg e,if_neg e,e1]
     ·have hc00:ca=0:=by omega
      subst hc00;gi_wp2;refine⟨⟨i0+1,by omega,by go_num,?_,HB2.out,HE2.out⟩,by simp [intOf];omega⟩;refine zHi (zaj.congr HA2.out fun p _ => ?_);unfold zgZ;by_cases hj1:j≤l
      ·have hjl0:j=l:=by omega
       subst hjl0;rw [if_pos hj1,←hce.out p];by_cases e:p=i0+j
       ·rw [if_pos e,←hre.out,HC.out hj1,e];unfold zeo;rw [if_neg (by omega),hS0.out]
       ·rw [if_neg e]
      ·rw [if_neg hj1]
  ·have hik0:i0=k:=by omega
   subst hik0;have hlt:x*y<B^(i0+l):=zaK HK.out.1 HL.out.1;have hla:zbP wr (.slice (some ⟨g,0,none⟩) (i0+l) (i0+l)) (x*y) (i0+l):=by
    rcases Nat.eq_zero_or_pos (i0+l)with h|h
    ·rw [h];exact .inl ⟨rfl,_,_,rfl⟩
    ·refine zaj.limbsI (zaj.congr HA.out fun p _ => ?_) h (Nat.le_refl _) ⟨by omega,by omega⟩ HE.out;rw [zbc HK.out.1]
   have HT:=zHi (zbe wr _ (x*y) (i0+l) hla hlt);clear hlt hla;gi_wp2_with (gi_at_call 111;refine HT.out.mono ?_;rintro e w7 ⟨v',rfl,hm,hB7⟩;have HM:=zHi hm;have HB7:=zBt HBr hB7;clear hm hB7)
   all_goals (first|go_returns|go_ret|go_end0)
   exact⟨v',rfl,⟨HM.out.1,zc6 HM.out.2 hg⟩,HB7.out⟩
def zau(w:World)(v:Value)(q:Rat):Prop:=∃vn vd,v = .agg #[.bool (decide (q.num<0)),vn,vd]∧zas w vn q.num.natAbs∧zas w vd (if q.den=1 then 0 else q.den)
theorem zau.below{w w':World}{v:Value}{q:Rat}(h:zau w v q)(hb:Below w.heap.size w w'):zau w' v q:=by
 obtain⟨vn,vd,h1,h2,h3⟩:=h;exact⟨vn,vd,h1,h2.below hb,h3.below hb⟩
def zan(q:Rat)(L:Nat):Prop:=q.num.natAbs<B^L∧q.den<B^L
theorem zly(w:World):zas (w.alloc (.cells #[.int .u64 1] 111)) (.slice (some ⟨w.heap.size,0,none⟩) 1 1) 1:=zlz w 1 (by decide) (by decide)
theorem za4(w:World)(v:Value)(q:Rat)(h:zau w v q) :
  CallsIn Fence.wide 0 Tryz.prog 64 #[v] w fun e w'=>∃v',e = .returned v'∧zas w' v' q.den∧Below w.heap.size w w':=by
 obtain⟨vn,vd,rfl,hn,hd⟩:=h;have hd0:q.den≠0:=q.den_nz;by_cases h1:q.den=1
 ·rw [if_pos h1]at hd;obtain⟨o,k,c,rfl,hk,hk9⟩:=zaI hd;have hk0:k=0:=hk.2 rfl;subst hk0;clear hk hd hn;refine callsIn_of_wp Tryz.func64 rfl trivial ?_ rfl;simp only [Tryz.ntmps64,ztH,ztI,ztJ,Nat.reduceAdd,Nat.reduceSub,ztK,ztL,ztM,ztN,ztO,ztP];gi_wp2;all_goals (first|go_returns|go_ret|go_end0)
  rw [h1];have h:=zly (w.alloc (.cells #[.bool (decide (q.num<0)),vn,.slice o 0 c] 25));rw [show(w.alloc (.cells #[.bool (decide (q.num<0)),vn,.slice o 0 c] 25)).heap.size=w.heap.size+1 by simp]at h;refine⟨_,rfl,h,?_⟩;exact((zaa w _).alloc (by simp) _)
 ·rw [if_neg h1]at hd;have HD:=zHi hd;obtain⟨o,k,c,rfl,hk,hk9⟩:=zaI hd;have hk0:¬(k:Int)=0:=by
   intro h;exact hd0 (hk.1 (by omega))
  clear hk hd hn;refine callsIn_of_wp Tryz.func64 rfl trivial ?_ rfl;simp only [Tryz.ntmps64,ztH,ztI,ztJ,Nat.reduceAdd,Nat.reduceSub,ztK,ztL,ztM,ztN,ztO,ztP];gi_wp2;all_goals (first|go_returns|go_ret|go_end0)
  exact⟨_,rfl,HD.out.below (zaa w _),zaa w _⟩
theorem zas.setCell'{w:World}{v:Value}{x g i:Nat}(h:zas w v x)(hne:x=0∨v.ownBlock≠some g)(u:Value):zas (w.setCell ⟨g,i,none⟩ u) v x:=by
 rcases hne with h0|hne
 ·subst h0;obtain⟨k,hk,hl⟩:=h;have:k=0:=hk.unique zbC;subst this;rcases hl with h|⟨a,cap,rfl,h2,_⟩
  ·exact⟨0,hk,.inl h⟩
  ·omega
 ·exact h.setCell hne u
theorem zas.lt'{w:World}{v:Value}{x:Nat}(h:zas w v x){g:Nat}(hg:w.heap.size≤g):x=0∨v.ownBlock≠some g:=by
 rcases Nat.eq_zero_or_pos x with h0|h0
 ·exact .inl h0
 ·exact .inr (h.lt h0 g hg)
theorem zc1.ne{b g:Nat}{v:Value}(h:zc1 b v)(hg:g<b)(x:Nat):x=0∨v.ownBlock≠some g:=.inr fun e=>by have:=h _ e;omega
theorem zlG(w:World)(v:Value)(n:Nat)(h:zas w v n)(h1:n=1) :
  CallsIn Fence.wide 0 Tryz.prog 65 #[v] w fun e w'=>e = .returned (.bool true)∧Below w.heap.size w w':=by
 have:=zcC w v n h;rw [decide_eq_true h1]at this;exact this
theorem zn4(w:World)(v:Value)(n:Nat)(h:zas w v n)(h1:n≠1) :
  CallsIn Fence.wide 0 Tryz.prog 65 #[v] w fun e w'=>e = .returned (.bool false)∧Below w.heap.size w w':=by
 have:=zcC w v n h;rw [decide_eq_false h1]at this;exact this
def Own3(w W:World):Prop:=(∃f,zaj W w.heap.size 3 f)∧w.heap.size<W.heap.size∧Below w.heap.size w W
theorem Own3.step{w W W':World}(h:Own3 w W)(hb:Below W.heap.size W W'):Own3 w W':=by
 obtain⟨⟨f,h1⟩,h2,h3⟩:=h;exact⟨⟨f,h1.below h2 hb⟩,Nat.lt_of_lt_of_le h2 hb.size,h3.trans (hb.mono h3.size)⟩
theorem Own3.cells{w W:World}(h:Own3 w W):∃x y z,W.cell? ⟨w.heap.size,0,none⟩=some x∧W.cell? ⟨w.heap.size,1,none⟩=some y∧W.cell? ⟨w.heap.size,2,none⟩=some z∧W.frozen? ⟨w.heap.size,0,none⟩=false∧W.frozen? ⟨w.heap.size,1,none⟩=false∧W.frozen? ⟨w.heap.size,2,none⟩=false:=by
 obtain⟨⟨f,h⟩,_,_⟩:=h;exact⟨_,_,_,(h 0 (by omega)).1,(h 1 (by omega)).1,(h 2 (by omega)).1,(h 0 (by omega)).2,(h 1 (by omega)).2,(h 2 (by omega)).2⟩
theorem ze2(w:World)(a b c:Value)(t:TypeId):Own3 w (w.alloc (.cells #[a,b,c] t)):=
 ⟨⟨fun i => [a,b,c].getD i a,zaj.new _ _ _ fun i hi=>by
  have:i=0∨i=1∨i=2:=by omega
  rcases this with rfl|rfl|rfl <;> rfl⟩,by simp,(Below.refl _ w).alloc (Nat.le_refl _) _⟩
theorem u25b:(match Tryz.prog.underlying 25 with|some (.struct _)=>true|_=>false)=true:=by kernel_rfl
theorem u25:∃fs,Tryz.prog.underlying 25=some (.struct fs):=by
 have h:=u25b;split at h
 ·rename_i fs e;exact⟨fs,e⟩
 ·cases h
theorem i25:(Tryz.prog.info? 25).map (·.size)=some 3:=by kernel_rfl
theorem zjW{fn:Func}{p:Tmp}{R:Ending→World→Prop}{a:Act}{w:World}{x y z:Value}(h:fn.results=#[.cell p 25])(hd:a.defers = [])(g:Nat)(hp:a.tmps.getD p undef = .pointer (some ⟨g,0,none⟩))
  (h0:w.cell? ⟨g,0,none⟩=some x) (h1:w.cell? ⟨g,1,none⟩=some y) (h2:w.cell? ⟨g,2,none⟩=some z) (hR:R (.returned (.agg #[x,y,z])) w):bodyPost Tryz.prog fn R .ret a w:=by
 refine bodyPost_ret ?_ hd hR;obtain⟨fs,hu⟩:=u25;have hl:=run_loadVar_mid (P:=Tryz.prog) w g 0 25 [x,y,z] (.struct fs) (fun j v hj=>by
  match j,hj with
  | 0,hj=>rw [←hj];exact h0
  | 1,hj=>rw [←hj];exact h1
  | 2,hj=>rw [←hj];exact h2
  | n+3,hj=>simp at hj) hu rfl i25
 simp only [results,h];have hp':a.tmps[p]?.getD undef = .pointer (some ⟨g,0,none⟩):=by simpa using hp
 simp [hp',asAddr,hl]
theorem zbk{fn:Func}{p:Tmp}{R:Ending→World→Prop}{a:Act}{w:World}{x y z x0 x1 x2:Value}(h:fn.results=#[.cell p 25])(hd:a.defers = [])(g:Nat)(hp:a.tmps.getD p undef = .pointer (some ⟨g,0,none⟩))
  (h0:w.cell? ⟨g,0,none⟩=some x0) (h1:w.cell? ⟨g,1,none⟩=some x1) (h2:w.cell? ⟨g,2,none⟩=some x2) (hR:R (.returned (.agg #[x,y,z])) (((w.setCell ⟨g,0,none⟩ x).setCell ⟨g,1,none⟩ y).setCell ⟨g,2,none⟩ z)) :
  bodyPost Tryz.prog fn R .ret a (((w.setCell ⟨g,0,none⟩ x).setCell ⟨g,1,none⟩ y).setCell ⟨g,2,none⟩ z):=by
 have n01:(⟨g,0,none⟩:Addr)≠⟨g,1,none⟩:=by intro e;injection e with _ e;omega
 have n02:(⟨g,0,none⟩:Addr)≠⟨g,2,none⟩:=by intro e;injection e with _ e;omega
 have n12:(⟨g,1,none⟩:Addr)≠⟨g,2,none⟩:=by intro e;injection e with _ e;omega
 refine zjW h hd g hp ?_ ?_ ?_ hR
 ·rw [World.cell?_setCell_other _ _ _ _ n02.symm,World.cell?_setCell_other _ _ _ _ n01.symm,World.cell?_setCell_same _ _ _ h0]
 ·rw [World.cell?_setCell_other _ _ _ _ n12.symm,World.cell?_setCell_same _ _ _ (by rw [World.cell?_setCell_other _ _ _ _ n01];exact h1)]
 ·rw [World.cell?_setCell_same _ _ _ (by rw [World.cell?_setCell_other _ _ _ _ n12,World.cell?_setCell_other _ _ _ _ n02];exact h2)]
theorem ze5{q:Rat}{neg:Bool}{n n' d' g:Nat}(h:q.num.natAbs=n'∧q.den=d'∧(q.num<0↔neg=true∧0<n))(hq:n/g=n'):decide (q.num<0)=(neg && decide (0<n')):=by
 cases neg with
 | false=>simp at h ⊢;exact h.2.2
 | true=>
  by_cases h0:0<n'
  ·have:q.num<0:=h.2.2.2 ⟨rfl,by
    rcases Nat.eq_zero_or_pos n with e|e
    ·subst e;rw [Nat.zero_div]at hq;omega
    ·exact e⟩
   simp [this,h0]
  ·have:¬q.num<0:=by have:=h.1;omega
   simp [this,h0]
theorem zbp(w:World)(neg:Bool)(vn vd:Value)(n d L:Nat)(hn:zas w vn n)(hd:zas w vd d)(hd0:d≠0)(hnL:n<B^L)(hdL:d<B^L)(hL:L≤10000000) :
  CallsIn Fence.wide 0 Tryz.prog 117 #[.bool neg,vn,vd] w fun e w'=>∃v',e = .returned v'∧zau w' v' (frac neg n d)∧Below w.heap.size w w':=by
 have HN:=zHi hn;have HD:=zHi hd;have HNL:=zHi hnL;have HDL:=zHi hdL;have HFP:=zHi (zdS (neg:=neg) (n:=n) hd0);obtain⟨g,hg⟩:∃g,Nat.gcd d n=g:=⟨_,rfl⟩;have hg0:0<g:=by rw [←hg];exact Nat.gcd_pos_of_pos_left _ (Nat.pos_of_ne_zero hd0)
 have hgL:g<B^L:=Nat.lt_of_le_of_lt (by rw [←hg];exact Nat.gcd_le_left _ (Nat.pos_of_ne_zero hd0)) hdL;have HGL:=zHi hgL;have HG:=zHi hg;rw [hg]at HFP;clear hn hd hnL hdL hgL hg;refine callsIn_of_wp Tryz.func117 rfl trivial ?_ rfl;simp only [Tryz.ntmps117,ztH,ztI,ztJ,Nat.reduceAdd,Nat.reduceSub,ztK,ztL,ztM,ztN,ztO,ztP];gi_wp2_with (gi_at_call 63;refine stop ?_)
 unfold Stop;obtain⟨W,hW⟩:∃W,W=w.alloc (.cells #[.bool false,.slice none 0 0,.slice none 0 0] 25):=⟨_,rfl⟩;rw [←hW];have HK:Hid (Own3 w W):=by rw [hW];exact ze2 _ _ _ _ _
 clear hW;refine(zeN W vd vn d n L (HD.out.below HK.out.2.2) (HN.out.below HK.out.2.2) HDL.out HNL.out hL).mono ?_;rintro e w2 ⟨v7,rfl,hm,hB2⟩;rw [HG.out]at hm;have HK2:=zHi (HK.out.step hB2);have HM7:=zHi hm;have HN2:=zHi (HN.out.below HK2.out.2.2);have HD2:=zHi (HD.out.below HK2.out.2.2);have HNF2:Hid (n=0∨vn.ownBlock≠some w.heap.size):=HN.out.lt' (Nat.le_refl _);have HDF2:Hid (d=0∨vd.ownBlock≠some w.heap.size):=HD.out.lt' (Nat.le_refl _);clear hm hB2 HN HD HK;by_cases hg1:g=1
 case' pos=>
  have HI:=zHi (zlG w2 v7 g HM7.out hg1);gi_wp2_with (gi_at_call 65;refine stop ?_)
  unfold Stop;refine HI.out.mono ?_;rintro e w4 ⟨rfl,hB3⟩;have HK3:=zHi (HK2.out.step hB3);have HN3:=zHi (HN2.out.below hB3);have HD3:=zHi (HD2.out.below hB3);clear hB3;gi_wp2_with (gi_at_call 65;refine stop ?_)
  unfold Stop;obtain⟨n',hn'⟩:∃n',n=n':=⟨_,rfl⟩;obtain⟨d',hd'⟩:∃d',d=d':=⟨_,rfl⟩;obtain⟨vn',hvn'⟩:∃vn',vn=vn':=⟨_,rfl⟩;obtain⟨vd',hvd'⟩:∃vd',vd=vd':=⟨_,rfl⟩;have hqn:n/g=n':=by rw [hg1,Nat.div_one,hn']
  have hqd:d/g=d':=by rw [hg1,Nat.div_one,hd']
  rw [hn',hvn']at HN3 HNF2;rw [hd',hvd']at HD3 HDF2;rw [hvn',hvd'];clear hn' hd' hvn' hvd' HI HM7 HN2 HD2 HK2
 case' neg=>
  have HI:=zHi (zn4 w2 v7 g HM7.out hg1);gi_wp2_with (gi_at_call 65;refine stop ?_)
  unfold Stop;refine HI.out.mono ?_;rintro e w4 ⟨rfl,hB3⟩;have HK3:=zHi (HK2.out.step hB3);have HN3:=zHi (HN2.out.below hB3);have HD3:=zHi (HD2.out.below hB3);have HM3:=zHi (HM7.out.below hB3);clear hB3;gi_wp2_with (gi_at_call 108;refine stop ?_)
  refine(zhZ w4 vn v7 n g L HN3.out HM3.out hg0 HNL.out HGL.out hL).mono ?_;rintro e w5 ⟨vn',v16,rfl,⟨hm5,hf5⟩,_,hB5⟩;have HK5:=zHi (HK3.out.step hB5);have HN5:=zHi hm5;have HD5:=zHi (HD3.out.below hB5);have HM5:=zHi (HM3.out.below hB5);have HNF5:Hid (n/g=0∨vn'.ownBlock≠some w.heap.size):=hf5.ne HK3.out.2.1 _;clear hm5 hf5 hB5 HK3 HN3 HD3 HM3 HK2 HN2 HD2 HNF2 HDF2 HM7 HI;gi_wp2_with (gi_at_call 108;refine stop ?_)
  refine(zhZ w5 vd v7 d g L HD5.out HM5.out hg0 HDL.out HGL.out hL).mono ?_;rintro e w6 ⟨vd',v17,rfl,⟨hm5,hf5⟩,_,hB5⟩;have HK3:=zHi (HK5.out.step hB5);have HN3:=zHi (HN5.out.below hB5);have HD3:=zHi hm5;have HNF2:=HNF5;have HDF2:Hid (d/g=0∨vd'.ownBlock≠some w.heap.size):=hf5.ne HK5.out.2.1 _;clear hm5 hf5 hB5 HK5 HN5 HD5 HM5 HNF5;gi_wp2_with (gi_at_call 65;refine stop ?_)
  unfold Stop;obtain⟨n',hqn⟩:∃n',n/g=n':=⟨_,rfl⟩;obtain⟨d',hqd⟩:∃d',d/g=d':=⟨_,rfl⟩;rw [hqn]at HN3 HNF2;rw [hqd]at HD3 HDF2
 all_goals
  rw [hqn,hqd]at HFP;by_cases hd1:d'=1
  case' pos=>
   refine(zlG _ vd' d' HD3.out hd1).mono ?_;rintro e w8 ⟨rfl,hB8⟩;have HK8:=zHi (HK3.out.step hB8);have HN8:=zHi (HN3.out.below hB8);have HD8:=zHi (HD3.out.below hB8);clear hB8 HK3 HN3 HD3;obtain⟨x0,x1,x2,z0,z1,z2,y0,y1,y2⟩:=HK8.out.cells;obtain⟨o,k,c,rfl,hk,hk9⟩:=zaI HN8.out;have HKn:=zHi hk;clear hk
   cases neg with
   | false=>
    have HS:Hid (decide ((frac false n d).num<0)=false):=zHi (by have:=ze5 HFP.out hqn;simpa using this);clear HKn;gi_wp2;refine zbk rfl rfl w.heap.size rfl z0 z1 z2 ?_;have hB:=HK8.out.2.2;refine⟨_,rfl,⟨.slice o k c,.slice none 0 0,?_,?_,?_⟩,((hB.setCell (Nat.le_refl _) _).setCell (Nat.le_refl _) _).setCell (Nat.le_refl _) _⟩
    ·first|(rw [HS.out];done)|(rw [HS.out];simp;done)|(rw [HS.out];simp;omega)
    ·rw [HFP.out.1];exact((HN8.out.setCell' HNF2.out _).setCell' HNF2.out _).setCell' HNF2.out _
    ·rw [HFP.out.2.1];rw [hd1,if_pos rfl];exact zdm _ _ _
   | true=>
    by_cases hn0:0<n'
    ·have hk0:(0:Int)<(k:Int):=by
      rcases Nat.eq_zero_or_pos k with h|h
      ·have:=HKn.out.1 h;omega
      ·omega
     have hk1:decide ((0:Int)<(k:Int))=true:=decide_eq_true hk0;have HS:Hid (decide ((frac true n d).num<0)=true):=zHi (by have:=ze5 HFP.out hqn;simpa [hn0]using this);clear HKn;gi_wp2;refine zbk rfl rfl w.heap.size rfl z0 z1 z2 ?_;have hB:=HK8.out.2.2;refine⟨_,rfl,⟨.slice o k c,.slice none 0 0,?_,?_,?_⟩,((hB.setCell (Nat.le_refl _) _).setCell (Nat.le_refl _) _).setCell (Nat.le_refl _) _⟩
     ·first|(rw [HS.out];done)|(rw [HS.out];simp;done)|(rw [HS.out];simp;omega)
     ·rw [HFP.out.1];exact((HN8.out.setCell' HNF2.out _).setCell' HNF2.out _).setCell' HNF2.out _
     ·rw [HFP.out.2.1];rw [hd1,if_pos rfl];exact zdm _ _ _
    ·have hk0:¬(0:Int)<(k:Int):=by have:=HKn.out.2 (by omega);omega
     have hk1:decide ((0:Int)<(k:Int))=false:=decide_eq_false hk0;have HS:Hid (decide ((frac true n d).num<0)=false):=zHi (by have:=ze5 HFP.out hqn;simpa [hn0]using this);clear HKn;gi_wp2;refine zbk rfl rfl w.heap.size rfl z0 z1 z2 ?_;have hB:=HK8.out.2.2;refine⟨_,rfl,⟨.slice o k c,.slice none 0 0,?_,?_,?_⟩,((hB.setCell (Nat.le_refl _) _).setCell (Nat.le_refl _) _).setCell (Nat.le_refl _) _⟩
     ·first|(rw [HS.out];done)|(rw [HS.out];simp;done)|(rw [HS.out];simp;omega)
     ·rw [HFP.out.1];exact((HN8.out.setCell' HNF2.out _).setCell' HNF2.out _).setCell' HNF2.out _
     ·rw [HFP.out.2.1];rw [hd1,if_pos rfl];exact zdm _ _ _
  case' neg=>
   refine(zn4 _ vd' d' HD3.out hd1).mono ?_;rintro e w8 ⟨rfl,hB8⟩;have HK8:=zHi (HK3.out.step hB8);have HN8:=zHi (HN3.out.below hB8);have HD8:=zHi (HD3.out.below hB8);clear hB8 HK3 HN3 HD3;obtain⟨x0,x1,x2,z0,z1,z2,y0,y1,y2⟩:=HK8.out.cells;obtain⟨o,k,c,rfl,hk,hk9⟩:=zaI HN8.out;obtain⟨o2,k2,c2,rfl,_,_⟩:=zaI HD8.out;have HKn:=zHi hk;clear hk
   cases neg with
   | false=>
    have HS:Hid (decide ((frac false n d).num<0)=false):=zHi (by have:=ze5 HFP.out hqn;simpa using this);clear HKn;gi_wp2;refine zbk rfl rfl w.heap.size rfl z0 z1 z2 ?_;have hB:=HK8.out.2.2;refine⟨_,rfl,⟨.slice o k c,.slice o2 k2 c2,?_,?_,?_⟩,((hB.setCell (Nat.le_refl _) _).setCell (Nat.le_refl _) _).setCell (Nat.le_refl _) _⟩
    ·first|(rw [HS.out];done)|(rw [HS.out];simp;done)|(rw [HS.out];simp;omega)
    ·rw [HFP.out.1];exact((HN8.out.setCell' HNF2.out _).setCell' HNF2.out _).setCell' HNF2.out _
    ·rw [HFP.out.2.1];rw [if_neg hd1];exact((HD8.out.setCell' HDF2.out _).setCell' HDF2.out _).setCell' HDF2.out _
   | true=>
    by_cases hn0:0<n'
    ·have hk0:(0:Int)<(k:Int):=by
      rcases Nat.eq_zero_or_pos k with h|h
      ·have:=HKn.out.1 h;omega
      ·omega
     have hk1:decide ((0:Int)<(k:Int))=true:=decide_eq_true hk0;have HS:Hid (decide ((frac true n d).num<0)=true):=zHi (by have:=ze5 HFP.out hqn;simpa [hn0]using this);clear HKn;gi_wp2;refine zbk rfl rfl w.heap.size rfl z0 z1 z2 ?_;have hB:=HK8.out.2.2;refine⟨_,rfl,⟨.slice o k c,.slice o2 k2 c2,?_,?_,?_⟩,((hB.setCell (Nat.le_refl _) _).setCell (Nat.le_refl _) _).setCell (Nat.le_refl _) _⟩
     ·first|(rw [HS.out];done)|(rw [HS.out];simp;done)|(rw [HS.out];simp;omega)
     ·rw [HFP.out.1];exact((HN8.out.setCell' HNF2.out _).setCell' HNF2.out _).setCell' HNF2.out _
     ·rw [HFP.out.2.1];rw [if_neg hd1];exact((HD8.out.setCell' HDF2.out _).setCell' HDF2.out _).setCell' HDF2.out _
    ·have hk0:¬(0:Int)<(k:Int):=by have:=HKn.out.2 (by omega);omega
     have hk1:decide ((0:Int)<(k:Int))=false:=decide_eq_false hk0;have HS:Hid (decide ((frac true n d).num<0)=false):=zHi (by have:=ze5 HFP.out hqn;simpa [hn0]using this);clear HKn;gi_wp2;refine zbk rfl rfl w.heap.size rfl z0 z1 z2 ?_;have hB:=HK8.out.2.2;refine⟨_,rfl,⟨.slice o k c,.slice o2 k2 c2,?_,?_,?_⟩,((hB.setCell (Nat.le_refl _) _).setCell (Nat.le_refl _) _).setCell (Nat.le_refl _) _⟩
     ·first|(rw [HS.out];done)|(rw [HS.out];simp;done)|(rw [HS.out];simp;omega)
     ·rw [HFP.out.1];exact((HN8.out.setCell' HNF2.out _).setCell' HNF2.out _).setCell' HNF2.out _
     ·rw [HFP.out.2.1];rw [if_neg hd1];exact((HD8.out.setCell' HDF2.out _).setCell' HDF2.out _).setCell' HDF2.out _
end Go.Num
