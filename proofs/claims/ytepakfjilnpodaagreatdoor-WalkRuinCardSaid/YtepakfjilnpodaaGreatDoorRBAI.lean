/-
  A fraction of the program; what 'bottom' and 'lowest' answer. What 'DivN' and 'GcdN' of the reference answer. What 'small', 'times' and 'Mul
  Conditions: see each statement.
-/
import Derived.Test.YtepakfjilnpodaaGreatDoorRBAA
import Derived.Test.YtepakfjilnpodaaGreatDoorRBAH
import Derived.Test.YtepakfjilnpodaaGreatDoorRBAG
import Derived.Deep.MidRow
set_option maxRecDepth 100000
set_option maxHeartbeats 16000000
namespace Go.Num
open Go.RowKit Go.Proofs Go.Proofs.YtepakfjilnpodaaGreatDoor
theorem zeZ{x:Nat}(h:x<9223372036854775808):IntKind.i64.wrap (x:Int)=(x:Int):=by
 have e:IntKind.i64.wrap (x:Int)=if(decide ((x:Int)%18446744073709551616≥9223372036854775808))=true then(x:Int)%18446744073709551616-18446744073709551616 else(x:Int)%18446744073709551616:=rfl
 rw [e,if_neg (by simp;omega)];omega
theorem zlO(w:World)(va:Value)(x b:Nat)(h:NatI w va x)(hb:0<b)(hB:b<B) :
  CallsIn Fence.wide 0 Tryz.prog 221 #[va,.int .i64 (b:Int)] w fun e w'=>∃v',e = .returned (.tuple #[v',.int .i64 ((x%b:Nat):Int)])∧(NatI w' v' (x/b)∧zdp w.heap.size v')∧Below w.heap.size w w':=by
 obtain⟨k,hk,hl⟩:=h;have hks:=hl.small;obtain⟨o,c,rfl,h1⟩:=hl.form;have H1:=zHi h1;have HK:=zHi hk;have HB:=zHi hB;have hBB:b<1000000000:=hB;clear h1 hk hl hB;refine callsIn_of_wp Tryz.func221 rfl trivial ?_ rfl;simp only [Tryz.ntmps221,zsj,zsk,zsl,Nat.reduceAdd,Nat.reduceSub,zsm,zsn,zso,zsp,zsq,zsr];gi_wp2_with (gi_at_make;refine stop ?_)
 unfold Stop;refine zaS _ rfl _ _ _ rfl w.heap.size 3 Tryz.t3 _ 1 u30 zgx zhz zhA _ _ _ _ k rfl rfl rfl rfl (by rw [zf6];omega) (by unfold maxLen;omega) (Nat.le_refl _) ?_;intro W4 hown hgrow;obtain⟨g,hg'⟩:∃g,w.heap.size=g:=⟨_,rfl⟩;have HA4:Hid (zag W4 g k fun i => .int .i64 ((topL (x/b) k i:Nat):Int)):=by
  rw [←hg'];exact zag.of_row hown fun i hi=>by unfold topL;rw [if_neg (by omega)];exact zfJ (by omega)
 have HB5:Hid (Below w.heap.size w W4):=(Below.refl _ w).grown hgrow (Nat.le_refl _) (fun _ h=>by cases h);have hg:w.heap.size≤g:=by omega
 have HE5:Hid (Elem W4 g 3):=by rw [←hg'];exact zcR hown
 rw [hg'];clear hown hgrow hg';gi_wp2;gi_loopw [7,8] (fun r i wr=>∃(i0:Int) (r0:Nat),-1≤i0∧i0<k∧i = .int .i64 i0∧r = .int .i64 (r0:Int)∧r0<b∧Hid (x/B^(i0+1).toNat%b=r0)∧Hid (zag wr g k fun j => .int .i64 ((topL (x/b) (i0+1).toNat j:Nat):Int))∧Hid (Below w.heap.size w wr)∧Hid (Elem wr g 3)) (fun _ i _=>(intOf i+1).toNat)
 case atStart=>exact⟨(k:Int)-1,0,by omega,by omega,rfl,rfl,hb,zHi (by
  rw [show((k:Int)-1+1).toNat=k by omega,Nat.div_eq_of_lt HK.out.1,Nat.zero_mod]),by rw [show((k:Int)-1+1).toNat=k by omega];exact HA4.out,HB5.out,HE5.out⟩
 case round=>
  obtain⟨i0,r0,hi1,hi2,rfl,rfl,hr,HR,HA,HBr,HE⟩:=hrel;clear HA4 HB5 HE5;by_cases h0:0≤i0
  ·obtain⟨m,rfl⟩:∃m:Nat,i0=(m:Int):=⟨i0.toNat,by omega⟩;obtain⟨a,rfl,ha,hc⟩:=H1.out (by omega);have p:=(HBr.out.cell (p:=a.add m) (by rw [zaf];exact ha)).trans (hc m (by omega));rw [show((m:Int)+1).toNat=m+1 by omega]at HR HA;have s1:=zja hb (Nat.le_of_lt HB.out) x m;have s2:=(zgd x b m).1;rw [HR.out]at s1 s2;obtain⟨l,hl⟩:∃l,limb x m=l:=⟨_,rfl⟩;have hlB:l<1000000000:=by rw [←hl];exact zaB x m
   rw [hl]at p s1 s2;have hmk:m<k:=by omega
   have z1:wr.cell? ⟨g,m,none⟩=some (.int .i64 0):=(HA.out m hmk).1.trans (by show some (Value.int .i64 ((topL (x/b) (m+1) m:Nat):Int))=_;unfold topL;rw [if_neg (by omega)];rfl);have z2:=(HA.out m hmk).2;obtain⟨t,ht⟩:∃t,r0*B+l=t:=⟨_,rfl⟩;have htB:t<9223372036854775808:=by
    rw [←ht];have:r0*B≤1000000000*1000000000:=Nat.mul_le_mul (by omega) (Nat.le_refl _);omega
   have e1:IntKind.i64.wrap ((r0:Int)*1000000000)=((r0*1000000000:Nat):Int):=by
    have:r0*1000000000<9223372036854775808:=by omega
    have:=zeZ this;rw [←this];simp
   have e2:IntKind.i64.wrap (((r0*1000000000:Nat):Int)+(l:Int))=(t:Int):=by
    have:=zeZ htB;rw [←this,←ht];simp [B]
   rw [ht]at s1 s2;have e3:((t:Int).tdiv (b:Int))=((t/b:Nat):Int):=rfl;have e4:((t:Int).tmod (b:Int))=((t%b:Nat):Int):=rfl;obtain⟨Q,hQ⟩:∃Q,t/b=Q:=⟨_,rfl⟩;obtain⟨R,hRR⟩:∃R,t%b=R:=⟨_,rfl⟩;rw [hQ]at s1 e3;rw [hRR]at s2 e4;have hRb:R<b:=by rw [←hRR];exact Nat.mod_lt _ hb
   have hQt:Q<9223372036854775808:=by rw [←hQ];exact Nat.lt_of_le_of_lt (Nat.div_le_self _ _) htB
   have e5:=zeZ hQt;have e6:((r0:Int)*1000000000+(l:Int))/(b:Int)=(Q:Int):=by rw [←hQ,←ht];simp [B]
   have e7:((r0:Int)*1000000000+(l:Int))%(b:Int)=(R:Int):=by rw [←hRR,←ht];simp [B]
   have S1:=zHi s1;have S2:=zHi s2;have hb0:¬(b:Int)=0:=by omega
   clear hc hl s1 s2 ht hQ hRR;gi_wp2;refine⟨⟨(m:Int)-1,R,by omega,by omega,by go_num,congrArg (Value.int .i64) e7,hRb,?_,?_,HBr.out.setCell hg _,HE.out.setCell _ _⟩,by simp [intOf]⟩
   ·rw [show((m:Int)-1+1).toNat=m by omega];exact S2.out.symm
   ·rw [show((m:Int)-1+1).toNat=m by omega];refine zHi (zag.congr (HA.out.set hmk (.int .i64 (Q:Int))) fun j _ => ?_);unfold topL;by_cases e:j=m
    ·subst e;rw [if_pos rfl,if_pos (Nat.le_refl _),S1.out]
    ·rw [if_neg e];by_cases e2:m+1≤j
     ·rw [if_pos e2,if_pos (by omega)]
     ·rw [if_neg e2,if_neg (by omega)]
  ·have hm1:i0 = -1:=by omega
   subst hm1;have hr0:x%b=r0:=by
    have:=HR.out;simpa using this
   have HRE:=zHi hr0;have hlt:x/b<B^k:=Nat.lt_of_le_of_lt (Nat.div_le_self _ _) HK.out.1;have hla:zbZ wr (.slice (some ⟨g,0,none⟩) k k) (x/b) k:=by
    rcases Nat.eq_zero_or_pos k with h|h
    ·subst h;exact .inl ⟨rfl,_,_,rfl⟩
    ·refine zag.limbsI (zag.congr HA.out fun j _ => ?_) h (Nat.le_refl _) ⟨hks,by omega⟩ HE.out;unfold topL;rw [if_pos (by simp)]
   have HT:=zHi (zbs wr _ (x/b) k hla hlt);clear hlt hla hr0;gi_wp2_with (gi_at_call 198;refine HT.out.mono ?_;rintro e w7 ⟨v',rfl,hm,hB7⟩;have HM:=zHi hm;have HB7:=zHi (HBr.out.trans (hB7.mono HBr.out.size));clear hm hB7)
   all_goals (first|go_returns|go_ret|go_end0)
   refine⟨v',?_,⟨HM.out.1,zdl HM.out.2 hg⟩,HB7.out⟩;rw [HRE.out];rfl
def ze5(x c j:Nat):Nat:=x%B^j*c/B^j
theorem zmq(x c:Nat):ze5 x c 0=0:=by unfold ze5;rw [zcX];simp
theorem zpC(x c j:Nat):ze5 x c j≤c:=by
 unfold ze5;refine Nat.div_le_of_le_mul ?_;exact Nat.mul_le_mul_right c (Nat.le_of_lt (zcG x j))
theorem zi3(x c j:Nat):limb (x*c) j=(ze5 x c j+limb x j*c)%B∧ze5 x c (j+1)=(ze5 x c j+limb x j*c)/B:=by
 have e1:x%B^(j+1)*c=x%B^j*c+B^j*(limb x j*c):=by rw [zbg,Nat.add_mul,Nat.mul_assoc]
 have e2:x%B^(j+1)*c/B^j=ze5 x c j+limb x j*c:=by rw [e1,Nat.add_mul_div_left _ _ (zar j)];rfl
 refine⟨?_,?_⟩
 ·have e3:x*c=x%B^(j+1)*c+B^j*(B*(x/B^(j+1)*c)):=by
   have h:=Nat.mod_add_div x (B^(j+1));calc x*c=(x%B^(j+1)+B^(j+1)*(x/B^(j+1)))*c:=by rw [h]
    _=_:=by rw [Nat.add_mul,Nat.pow_succ];simp only [Nat.mul_assoc]
  unfold limb;rw [e3,Nat.add_mul_div_left _ _ (zar j),e2,Nat.add_mul_mod_self_left];rfl
 ·show x%B^(j+1)*c/B^(j+1)=_
  rw [←e2,Nat.div_div_eq_div_mul,←Nat.pow_succ]
theorem zoi{x c j:Nat}(hx:x<B^j)(h:ze5 x c j=0):x*c<B^j:=by
 unfold ze5 at h;rw [zbn hx]at h;exact Nat.lt_of_div_eq_zero (zar j) h
theorem zeJ(w:World)(va:Value)(x c:Nat)(L:Nat)(ha:NatI w va x)(hx:x<B^L)(hL:L≤100000000)(hc:c<B) :
  CallsIn Fence.wide 0 Tryz.prog 220 #[va,.int .i64 (c:Int)] w fun e w'=>∃v',e = .returned v'∧(NatI w' v' (x*c)∧zdp w.heap.size v')∧Below w.heap.size w w':=by
 obtain⟨k,hk,hla⟩:=ha;have hks:=hla.small;obtain⟨o1,c1,rfl,h1⟩:=hla.form;have hcB:c<1000000000:=hc;have H1:=zHi h1;have HK:=zHi hk;have hk9:k≤100000000:=by have:=HK.out.le hx;omega
 clear hx;clear h1 hk hla hc;refine callsIn_of_wp Tryz.func220 rfl trivial ?_ rfl;simp only [Tryz.ntmps220,zsj,zsk,zsl,Nat.reduceAdd,Nat.reduceSub,zsm,zsn,zso,zsp,zsq,zsr];have HO4:Hid (w.ownsRow w.heap.size 3 1 (.slice none 0 0) 0 (zba (x*c) 0)):=World.ownsRow_nil _ _ _ _;have HB4:Hid (Below w.heap.size w w):=Below.refl _ w;gi_wp2;gi_loopw [5,6,7] (fun v cv i wr=>∃j ca:Nat,j≤k+1∧i = .int .i64 (j:Int)∧cv = .int .i64 (ca:Int)∧Hid (ze5 x c j=ca)∧(j=k+1→ca=0)∧Hid (wr.ownsRow w.heap.size 3 1 v j (zba (x*c) j))∧Hid (Below w.heap.size w wr)) (fun _ _ i _=>k+2-(intOf i).toNat)
 case atStart=>exact⟨0,0,by omega,rfl,rfl,zHi (zmq x c),fun h=>by omega,HO4.out,HB4.out⟩
 case round=>
  obtain⟨j,ca,hj,rfl,rfl,HC,hca0,HO,HBr⟩:=hrel;have hcle:ca≤c:=by rw [←HC.out];exact zpC x c j
  clear HO4 HB4;by_cases hjk:j<k
  ·obtain⟨a1,rfl,ha1,hc1'⟩:=H1.out (by omega);have p1:=(HBr.out.cell (p:=a1.add j) (by rw [zaf];exact ha1)).trans (hc1' j hjk);have s:=zi3 x c j;rw [HC.out]at s;obtain⟨lx,hlx⟩:∃l,limb x j=l:=⟨_,rfl⟩;have bx:lx<1000000000:=by rw [←hlx];exact zaB x j
   rw [hlx]at p1 s;obtain⟨P,hP⟩:∃P,lx*c=P:=⟨_,rfl⟩;have hPB:P≤999999998000000001:=by
    rw [←hP];exact Nat.mul_le_mul (Nat.le_of_lt_succ bx) (Nat.le_of_lt_succ hcB)
   have e1:((lx:Int)*(c:Int))=(P:Int):=by rw [←hP];simp
   rw [hP]at s;have hBB:B=1000000000:=rfl;rw [hBB]at s;have HSt:=zHi s;have hjkd:decide ((j:Int)<(k:Int))=true:=decide_eq_true (by omega);clear hc1' hlx hP s hBB;gi_wp2_with (gi_at_builtin;refine stop ?_)
   unfold Stop;refine zaE w wr rfl _ _ rfl u5 j (x*c) rfl HO _ _ rfl ?_ (by omega) HBr ?_
   ·rw [HSt.out.1];go_num
   ·intro v2 w2 HO2 HB2;gi_wp2;refine⟨⟨j+1,(ca+P)/1000000000,by omega,by go_num,?_,HSt.out.2,fun h=>by omega,HO2,HB2⟩,by simp [intOf];omega⟩;exact congrArg (Value.int .i64) (by go_num)
  ·by_cases hc0:0<ca
   ·have hjk0:j=k:=by omega
    subst hjk0;have s:=zi3 x c j;rw [HC.out,zaJ HK.out.1]at s;simp only [Nat.zero_mul,Nat.add_zero]at s;have hca9:ca<1000000000:=by omega
    have hBB:B=1000000000:=rfl;rw [hBB]at s;rw [Nat.mod_eq_of_lt hca9,Nat.div_eq_of_lt hca9]at s;have HSt:=zHi s;have hjkd:decide ((j:Int)<(j:Int))=false:=decide_eq_false (by omega);clear s hBB;gi_wp2_with (gi_at_builtin;refine stop ?_)
    unfold Stop;refine zaE w wr rfl _ _ rfl u5 j (x*c) rfl HO _ _ rfl ?_ (by omega) HBr ?_
    ·rw [HSt.out.1];go_num
    ·intro v2 w2 HO2 HB2;gi_wp2;refine⟨⟨j+1,0,by omega,by go_num,?_,HSt.out.2,fun h=>rfl,HO2,HB2⟩,by simp [intOf] <;> omega⟩;exact congrArg (Value.int .i64) (by go_num)
   ·have hc00:ca=0:=by omega
    subst hc00;have hjkd:decide ((j:Int)<(k:Int))=false:=decide_eq_false (by omega);have hlt:x*c<B^j:=zoi (Nat.lt_of_lt_of_le HK.out.1 (zah (by omega))) HC.out;have HT:=zHi (zbs wr _ (x*c) j (zbJ HO.out (by omega)) hlt);clear hlt;gi_wp2_with (gi_at_call 198;refine HT.out.mono ?_;rintro e w7 ⟨v',rfl,hm,hB7⟩;have HM:=zHi hm;have HB7:=zHi (HBr.out.trans (hB7.mono HBr.out.size));clear hm hB7)
    all_goals (first|go_returns|go_ret|go_end0)
    exact⟨v',rfl,⟨HM.out.1,fun k hk=>zcp HO.out (HM.out.2 ▸ hk)⟩,HB7.out⟩
def zhe(S c y x i l j p:Nat):Nat:=if j≤l then zeD S c y i j p else limb (x%B^(i+1)*y) p
theorem zn3{S c y x i l:Nat}(p:Nat):zhe S c y x i l 0 p=limb S p:=by
 unfold zhe;rw [if_pos (Nat.zero_le _),zjA]
theorem znO(w:World)(va vb:Value)(x y L:Nat)(ha:NatI w va x)(hb:NatI w vb y)(hx:x<B^L)(hy:y<B^L)(hL:L≤100000000) :
  CallsIn Fence.wide 0 Tryz.prog 159 #[va,vb] w fun e w'=>∃v',e = .returned v'∧(NatI w' v' (x*y)∧zdp w.heap.size v')∧Below w.heap.size w w':=by
 obtain⟨k,hk,hla⟩:=ha;obtain⟨l,hl,hlb⟩:=hb;have hkL:=hk.le hx;have hlL:=hl.le hy;clear hx hy;obtain⟨o1,c1,rfl,h1⟩:=hla.form;obtain⟨o2,c2,rfl,h2⟩:=hlb.form;have H1:=zHi h1;have H2:=zHi h2;have HK:=zHi hk;have HL:=zHi hl;clear h1 h2 hk hl hla hlb;refine callsIn_of_wp Tryz.func159 rfl trivial ?_ rfl;simp only [Tryz.ntmps159,zsj,zsk,zsl,Nat.reduceAdd,Nat.reduceSub,zsm,zsn,zso,zsp,zsq,zsr];gi_wp2_with (gi_at_make;refine stop ?_)
 unfold Stop;refine zaS _ rfl _ _ _ rfl w.heap.size 3 Tryz.t3 _ 1 Go.Num.u30 zgx zhz zhA _ _ _ _ (k+l) rfl rfl (by omega) (by omega) (by rw [zf6];omega) (by unfold maxLen;omega) (Nat.le_refl _) ?_;intro W4 hown hgrow;obtain⟨g,hg'⟩:∃g,w.heap.size=g:=⟨_,rfl⟩;have HA4:Hid (zag W4 g (k+l) fun p => .int .i64 ((limb (x%B^0*y) p:Nat):Int)):=by
  rw [←hg'];exact zag.of_row hown fun i hi=>by rw [zcX,Nat.zero_mul,zk9];exact zfJ (by omega)
 have HB5:Hid (Below w.heap.size w W4):=(Below.refl _ w).grown hgrow (Nat.le_refl _) (fun _ h=>by cases h);have hg:w.heap.size≤g:=by omega
 have HE5:Hid (Elem W4 g 3):=by rw [←hg'];exact zcR hown
 rw [hg'];clear hown hgrow hg';gi_wp2;gi_loopw [6] (fun i wr=>∃i0:Nat,i0≤k∧i = .int .i64 (i0:Int)∧Hid (zag wr g (k+l) fun p => .int .i64 ((limb (x%B^i0*y) p:Nat):Int))∧Hid (Below w.heap.size w wr)∧Hid (Elem wr g 3)) (fun i _=>k-(intOf i).toNat)
 case atStart=>exact⟨0,by omega,rfl,HA4.out,HB5.out,HE5.out⟩
 case round=>
  obtain⟨i0,hi,rfl,HA,HBr,HE⟩:=hrel;clear HA4 HB5 HE5;by_cases hik:i0<k
  ·obtain⟨a1,rfl,ha1,hc1'⟩:=H1.out (by omega);have p1:=(HBr.out.cell (p:=a1.add i0) (by rw [zaf];exact ha1)).trans (hc1' i0 hik);obtain⟨cx,hcx⟩:∃l,limb x i0=l:=⟨_,rfl⟩;have bx:cx<1000000000:=by rw [←hcx];exact zaB x i0
   rw [hcx]at p1;obtain⟨S,hS⟩:∃S,x%B^i0*y=S:=⟨_,rfl⟩;have HCX:=zHi hcx;have HSS:=zHi hS;have HP1:=zHi ((HBr.out.cell (p:=a1.add i0) (by rw [zaf];exact ha1)).symm.trans p1);rw [hS]at HA;clear hc1' hcx hS;gi_wp2;gi_loopw [7,8,9] (fun cv jv _ wr=>∃(j ca:Nat),j≤l+1∧jv = .int .i64 (j:Int)∧cv = .int .i64 (ca:Int)∧(j=l+1→ca=0)∧Hid (j≤l→zdF S cx y i0 j=ca)∧Hid (zag wr g (k+l) fun p => .int .i64 ((zhe S cx y x i0 l j p:Nat):Int))∧Hid (Below w.heap.size w wr)∧Hid (Elem wr g 3)) (fun _ jv _ _=>l+1-(intOf jv).toNat)
   case atStart=>exact⟨0,0,by omega,rfl,rfl,fun h=>rfl,zHi (fun _=>zit _ _ _ _),zHi (zag.congr HA.out fun p _=>by rw [zn3]),HBr.out,HE.out⟩
   case round=>
    obtain⟨j,ca,hj,rfl,rfl,hca0,HC,HA2,HB2,HE2⟩:=hrel;clear HA;by_cases hjl:j<l
    ·have HC:=zHi (HC.out (by omega));have hcle:ca≤cx:=by rw [←HC.out];exact ziu S cx y i0 j
     obtain⟨a2,rfl,ha2,hc2'⟩:=H2.out (by omega);have p2:=(HB2.out.cell (p:=a2.add j) (by rw [zaf];exact ha2)).trans (hc2' j hjl);have p1:=(HB2.out.cell (p:=a1.add i0) (by rw [zaf];exact ha1)).trans (HP1.out);have s:=zj9 S cx y i0 j;rw [HC.out]at s;obtain⟨ly,hly⟩:∃l,limb y j=l:=⟨_,rfl⟩;have by':ly<1000000000:=by rw [←hly];exact zaB y j
     obtain⟨lo,hlo⟩:∃l,limb S (i0+j)=l:=⟨_,rfl⟩;have bo:lo<1000000000:=by rw [←hlo];exact zaB S (i0+j)
     rw [hly]at p2 s;have hij:i0+j<k+l:=by omega
     have z1:wr.cell? ⟨g,i0+j,none⟩=some (.int .i64 (lo:Int)):=(HA2.out (i0+j) hij).1.trans (by show some (Value.int .i64 ((zhe S cx y x i0 l j (i0+j):Nat):Int))=_;unfold zhe;rw [if_pos (by omega)];unfold zeD;rw [if_neg (by omega),hlo]);have z2:=(HA2.out (i0+j) hij).2;rw [hlo]at s;obtain⟨P,hP⟩:∃P,cx*ly=P:=⟨_,rfl⟩;have hPB:P≤999999998000000001:=by
      rw [←hP];exact Nat.mul_le_mul (Nat.le_of_lt_succ bx) (Nat.le_of_lt_succ by')
     have e1:((cx:Int)*(ly:Int))=(P:Int):=by rw [←hP];simp
     have e1w:IntKind.i64.wrap ((cx:Int)*(ly:Int))=(P:Int):=by rw [e1];exact zeZ (by omega)
     rw [hP]at s;have hBB:B=1000000000:=rfl;rw [hBB]at s;have HSt:=zHi s;have hQ:(ca+lo+P)%1000000000<1000000000:=Nat.mod_lt _ (by decide);have hjld:decide ((j:Int)<(l:Int))=true:=decide_eq_true (by omega);clear hc2' hly hlo hP s hBB;gi_wp2;gi_quiet (fail)
     gi_wp2;refine⟨⟨j+1,(ca+lo+P)/1000000000,by omega,by go_num,congrArg (Value.int .i64) (by go_num),fun h=>by omega,zHi (fun _=>HSt.out.2.1),?_,?_,?_⟩,by simp [intOf];omega⟩
     ·refine zHi (zag.congr ((show zag (wr.drewN _) g (k+l) _ from HA2.out).set hij (.int .i64 (((lo:Int)+(ca:Int)+(P:Int))%1000000000))) fun p _ => ?_);have e1:zhe S cx y x i0 l j p=zeD S cx y i0 j p:=if_pos (by omega);have e2:zhe S cx y x i0 l (j+1) p=zeD S cx y i0 (j+1) p:=if_pos (by omega);rw [e2,zjB];by_cases e:p=i0+j
      ·rw [if_pos e,if_pos e,HSt.out.1];exact congrArg (Value.int .i64) (by omega)
      ·rw [if_neg e,if_neg e,e1]
     ·exact zHi ((HB2.out.trans ((zbC _ _).mono HB2.out.size)).setCell hg _)
     ·exact zHi ((show Elem (wr.drewN _) g 3 from HE2.out).setCell _ _)
    ·have hS0:Hid (limb S (i0+l)=0):=zHi (zaJ (by rw [←HSS.out];exact zaI (zcG x i0) HL.out.1));have hce:Hid (∀p,(if p=i0+l then limb (x%B^(i0+1)*y) (i0+l)else zeD S cx y i0 l p)=limb (x%B^(i0+1)*y) p):=zHi (fun p=>by
      have ce:=zls (x:=x) (i:=i0) (p:=p) HL.out.1;rw [HSS.out,HCX.out]at ce;exact ce)
     have hre:Hid (zdF S cx y i0 l=limb (x%B^(i0+1)*y) (i0+l)):=zHi (by
      have re:=(zlW (x:=x) (i:=i0) HL.out.1).2;rw [HSS.out,HCX.out]at re;exact re)
     have hjld:decide ((j:Int)<(l:Int))=false:=decide_eq_false (by omega);have hjld2:¬(j:Int)<(l:Int):=by omega
     by_cases hc0:0<ca
     ·have hjl0:j=l:=by
       apply Classical.byContradiction
       intro hno;have:=hca0 (by omega);omega
      subst hjl0;have HC:=zHi (HC.out (Nat.le_refl _));have hcle:ca≤cx:=by rw [←HC.out];exact ziu S cx y i0 j
      have hij:i0+j<k+j:=by omega
      have z1:wr.cell? ⟨g,i0+j,none⟩=some (.int .i64 0):=(HA2.out (i0+j) hij).1.trans (by show some (Value.int .i64 ((zhe S cx y x i0 j j (i0+j):Nat):Int))=_;unfold zhe;rw [if_pos (by omega)];unfold zeD;rw [if_neg (by omega),hS0.out];rfl);have z2:=(HA2.out (i0+j) hij).2;gi_wp2;refine⟨⟨j+1,0,by omega,by go_num,congrArg (Value.int .i64) (by go_num),fun h=>rfl,zHi (fun h=>by omega),?_,HB2.out.setCell hg _,HE2.out.setCell _ _⟩,by simp [intOf] <;> omega⟩;refine zHi (zag.congr (HA2.out.set hij (.int .i64 ((ca:Int)%1000000000))) fun p _ => ?_);have e1:zhe S cx y x i0 j j p=zeD S cx y i0 j p:=if_pos (by omega);have e2:zhe S cx y x i0 j (j+1) p=limb (x%B^(i0+1)*y) p:=if_neg (by omega);rw [e2,←hce.out p];by_cases e:p=i0+j
      ·rw [if_pos e,if_pos e,←hre.out,HC.out];exact congrArg (Value.int .i64) (by omega)
      ·rw [if_neg e,if_neg e,e1]
     ·have hc00:ca=0:=by omega
      subst hc00;gi_wp2;refine⟨⟨i0+1,by omega,by go_num,?_,HB2.out,HE2.out⟩,by simp [intOf];omega⟩;refine zHi (zag.congr HA2.out fun p _ => ?_);unfold zhe;by_cases hj1:j≤l
      ·have hjl0:j=l:=by omega
       subst hjl0;rw [if_pos hj1,←hce.out p];by_cases e:p=i0+j
       ·rw [if_pos e,←hre.out,HC.out hj1,e];unfold zeD;rw [if_neg (by omega),hS0.out]
       ·rw [if_neg e]
      ·rw [if_neg hj1]
  ·have hik0:i0=k:=by omega
   subst hik0;have hlt:x*y<B^(i0+l):=zaI HK.out.1 HL.out.1;have hla:zbZ wr (.slice (some ⟨g,0,none⟩) (i0+l) (i0+l)) (x*y) (i0+l):=by
    rcases Nat.eq_zero_or_pos (i0+l)with h|h
    ·rw [h];exact .inl ⟨rfl,_,_,rfl⟩
    ·refine zag.limbsI (zag.congr HA.out fun p _ => ?_) h (Nat.le_refl _) ⟨by omega,by omega⟩ HE.out;rw [zbn HK.out.1]
   have HT:=zHi (zbs wr _ (x*y) (i0+l) hla hlt);clear hlt hla;gi_wp2_with (gi_at_call 198;refine HT.out.mono ?_;rintro e w7 ⟨v',rfl,hm,hB7⟩;have HM:=zHi hm;have HB7:=zHi (HBr.out.trans (hB7.mono HBr.out.size));clear hm hB7)
   all_goals (first|go_returns|go_ret|go_end0)
   exact⟨v',rfl,⟨HM.out.1,zdl HM.out.2 hg⟩,HB7.out⟩
def zaj(w:World)(v:Value)(q:Rat):Prop:=∃vn vd,v = .agg #[.bool (decide (q.num<0)),vn,vd]∧zaq w vn q.num.natAbs∧zaq w vd (if q.den=1 then 0 else q.den)
theorem zaj.below{w w':World}{v:Value}{q:Rat}(h:zaj w v q)(hb:Below w.heap.size w w'):zaj w' v q:=by
 obtain⟨vn,vd,h1,h2,h3⟩:=h;exact⟨vn,vd,h1,h2.below hb,h3.below hb⟩
def zad(q:Rat)(L:Nat):Prop:=q.num.natAbs<B^L∧q.den<B^L
theorem zk4(w:World):zaq (w.alloc (.cells #[.int .u64 1] 116)) (.slice (some ⟨w.heap.size,0,none⟩) 1 1) 1:=zk5 w 1 (by decide) (by decide)
theorem zbb(w:World)(v:Value)(q:Rat)(h:zaj w v q) :
  CallsIn Fence.wide 0 Tryz.prog 132 #[v] w fun e w'=>∃v',e = .returned v'∧zaq w' v' q.den∧Below w.heap.size w w':=by
 obtain⟨vn,vd,rfl,hn,hd⟩:=h;have hd0:q.den≠0:=q.den_nz;by_cases h1:q.den=1
 ·rw [if_pos h1]at hd;obtain⟨o,k,c,rfl,hk,hk9⟩:=zaG hd;have hk0:k=0:=hk.2 rfl;subst hk0;clear hk hd hn;refine callsIn_of_wp Tryz.func132 rfl trivial ?_ rfl;simp only [Tryz.ntmps132,zsj,zsk,zsl,Nat.reduceAdd,Nat.reduceSub,zsm,zsn,zso,zsp,zsq,zsr];gi_wp2;all_goals (first|go_returns|go_ret|go_end0)
  rw [h1];have h:=zk4 (w.alloc (.cells #[.bool (decide (q.num<0)),vn,.slice o 0 c] 27));rw [show(w.alloc (.cells #[.bool (decide (q.num<0)),vn,.slice o 0 c] 27)).heap.size=w.heap.size+1 by simp]at h;refine⟨_,rfl,h,?_⟩;exact((zaa w _).alloc (by simp) _)
 ·rw [if_neg h1]at hd;have HD:=zHi hd;obtain⟨o,k,c,rfl,hk,hk9⟩:=zaG hd;have hk0:¬(k:Int)=0:=by
   intro h;exact hd0 (hk.1 (by omega))
  clear hk hd hn;refine callsIn_of_wp Tryz.func132 rfl trivial ?_ rfl;simp only [Tryz.ntmps132,zsj,zsk,zsl,Nat.reduceAdd,Nat.reduceSub,zsm,zsn,zso,zsp,zsq,zsr];gi_wp2;all_goals (first|go_returns|go_ret|go_end0)
  exact⟨_,rfl,HD.out.below (zaa w _),zaa w _⟩
theorem zaq.setCell'{w:World}{v:Value}{x g i:Nat}(h:zaq w v x)(hne:x=0∨v.ownBlock≠some g)(u:Value):zaq (w.setCell ⟨g,i,none⟩ u) v x:=by
 rcases hne with h0|hne
 ·subst h0;obtain⟨k,hk,hl⟩:=h;have:k=0:=hk.unique zcf;subst this;rcases hl with h|⟨a,cap,rfl,h2,_⟩
  ·exact⟨0,hk,.inl h⟩
  ·omega
 ·exact h.setCell hne u
theorem zaq.lt'{w:World}{v:Value}{x:Nat}(h:zaq w v x){g:Nat}(hg:w.heap.size≤g):x=0∨v.ownBlock≠some g:=by
 rcases Nat.eq_zero_or_pos x with h0|h0
 ·exact .inl h0
 ·exact .inr (h.lt h0 g hg)
theorem zdp.ne{b g:Nat}{v:Value}(h:zdp b v)(hg:g<b)(x:Nat):x=0∨v.ownBlock≠some g:=.inr fun e=>by have:=h _ e;omega
theorem zlf(w:World)(v:Value)(n:Nat)(h:zaq w v n)(h1:n=1) :
  CallsIn Fence.wide 0 Tryz.prog 168 #[v] w fun e w'=>e = .returned (.bool true)∧Below w.heap.size w w':=by
 have:=zcQ w v n h;rw [decide_eq_true h1]at this;exact this
theorem zm9(w:World)(v:Value)(n:Nat)(h:zaq w v n)(h1:n≠1) :
  CallsIn Fence.wide 0 Tryz.prog 168 #[v] w fun e w'=>e = .returned (.bool false)∧Below w.heap.size w w':=by
 have:=zcQ w v n h;rw [decide_eq_false h1]at this;exact this
def Own3(w W:World):Prop:=(∃f,zag W w.heap.size 3 f)∧w.heap.size<W.heap.size∧Below w.heap.size w W
theorem Own3.step{w W W':World}(h:Own3 w W)(hb:Below W.heap.size W W'):Own3 w W':=by
 obtain⟨⟨f,h1⟩,h2,h3⟩:=h;exact⟨⟨f,h1.below h2 hb⟩,Nat.lt_of_lt_of_le h2 hb.size,h3.trans (hb.mono h3.size)⟩
theorem Own3.cells{w W:World}(h:Own3 w W):∃x y z,W.cell? ⟨w.heap.size,0,none⟩=some x∧W.cell? ⟨w.heap.size,1,none⟩=some y∧W.cell? ⟨w.heap.size,2,none⟩=some z∧W.frozen? ⟨w.heap.size,0,none⟩=false∧W.frozen? ⟨w.heap.size,1,none⟩=false∧W.frozen? ⟨w.heap.size,2,none⟩=false:=by
 obtain⟨⟨f,h⟩,_,_⟩:=h;exact⟨_,_,_,(h 0 (by omega)).1,(h 1 (by omega)).1,(h 2 (by omega)).1,(h 0 (by omega)).2,(h 1 (by omega)).2,(h 2 (by omega)).2⟩
theorem zel(w:World)(a b c:Value)(t:TypeId):Own3 w (w.alloc (.cells #[a,b,c] t)):=
 ⟨⟨fun i => [a,b,c].getD i a,zag.new _ _ _ fun i hi=>by
  have:i=0∨i=1∨i=2:=by omega
  rcases this with rfl|rfl|rfl <;> rfl⟩,by simp,(Below.refl _ w).alloc (Nat.le_refl _) _⟩
theorem u25b:(match Tryz.prog.underlying 27 with|some (.struct _)=>true|_=>false)=true:=by kernel_rfl
theorem u25:∃fs,Tryz.prog.underlying 27=some (.struct fs):=by
 have h:=u25b;split at h
 ·rename_i fs e;exact⟨fs,e⟩
 ·cases h
theorem i25:(Tryz.prog.info? 27).map (·.size)=some 3:=by kernel_rfl
theorem zjW{fn:Func}{p:Tmp}{R:Ending→World→Prop}{a:Act}{w:World}{x y z:Value}(h:fn.results=#[.cell p 27])(hd:a.defers = [])(g:Nat)(hp:a.tmps.getD p undef = .pointer (some ⟨g,0,none⟩))
  (h0:w.cell? ⟨g,0,none⟩=some x) (h1:w.cell? ⟨g,1,none⟩=some y) (h2:w.cell? ⟨g,2,none⟩=some z) (hR:R (.returned (.agg #[x,y,z])) w):bodyPost Tryz.prog fn R .ret a w:=by
 refine bodyPost_ret ?_ hd hR;obtain⟨fs,hu⟩:=u25;have hl:=run_loadVar_mid (P:=Tryz.prog) w g 0 27 [x,y,z] (.struct fs) (fun j v hj=>by
  match j,hj with
  | 0,hj=>rw [←hj];exact h0
  | 1,hj=>rw [←hj];exact h1
  | 2,hj=>rw [←hj];exact h2
  | n+3,hj=>simp at hj) hu rfl i25
 simp only [results,h];have hp':a.tmps[p]?.getD undef = .pointer (some ⟨g,0,none⟩):=by simpa using hp
 simp [hp',asAddr,hl]
theorem zbe{fn:Func}{p:Tmp}{R:Ending→World→Prop}{a:Act}{w:World}{x y z x0 x1 x2:Value}(h:fn.results=#[.cell p 27])(hd:a.defers = [])(g:Nat)(hp:a.tmps.getD p undef = .pointer (some ⟨g,0,none⟩))
  (h0:w.cell? ⟨g,0,none⟩=some x0) (h1:w.cell? ⟨g,1,none⟩=some x1) (h2:w.cell? ⟨g,2,none⟩=some x2) (hR:R (.returned (.agg #[x,y,z])) (((w.setCell ⟨g,0,none⟩ x).setCell ⟨g,1,none⟩ y).setCell ⟨g,2,none⟩ z)) :
  bodyPost Tryz.prog fn R .ret a (((w.setCell ⟨g,0,none⟩ x).setCell ⟨g,1,none⟩ y).setCell ⟨g,2,none⟩ z):=by
 have n01:(⟨g,0,none⟩:Addr)≠⟨g,1,none⟩:=by intro e;injection e with _ e;omega
 have n02:(⟨g,0,none⟩:Addr)≠⟨g,2,none⟩:=by intro e;injection e with _ e;omega
 have n12:(⟨g,1,none⟩:Addr)≠⟨g,2,none⟩:=by intro e;injection e with _ e;omega
 refine zjW h hd g hp ?_ ?_ ?_ hR
 ·rw [World.cell?_setCell_other _ _ _ _ n02.symm,World.cell?_setCell_other _ _ _ _ n01.symm,World.cell?_setCell_same _ _ _ h0]
 ·rw [World.cell?_setCell_other _ _ _ _ n12.symm,World.cell?_setCell_same _ _ _ (by rw [World.cell?_setCell_other _ _ _ _ n01];exact h1)]
 ·rw [World.cell?_setCell_same _ _ _ (by rw [World.cell?_setCell_other _ _ _ _ n12,World.cell?_setCell_other _ _ _ _ n02];exact h2)]
theorem zff{q:Rat}{neg:Bool}{n n' d' g:Nat}(h:q.num.natAbs=n'∧q.den=d'∧(q.num<0↔neg=true∧0<n))(hq:n/g=n'):decide (q.num<0)=(neg && decide (0<n')):=by
 cases neg with
 | false=>simp at h ⊢;exact h.2.2
 | true=>
  by_cases h0:0<n'
  ·have:q.num<0:=h.2.2.2 ⟨rfl,by
    rcases Nat.eq_zero_or_pos n with e|e
    ·subst e;rw [Nat.zero_div]at hq;omega
    ·exact e⟩
   simp [this,h0]
  ·have:¬q.num<0:=by have:=h.1;omega
   simp [this,h0]
theorem zbz(w:World)(neg:Bool)(vn vd:Value)(n d L:Nat)(hn:zaq w vn n)(hd:zaq w vd d)(hd0:d≠0)(hnL:n<B^L)(hdL:d<B^L)(hL:L≤10000000) :
  CallsIn Fence.wide 0 Tryz.prog 130 #[.bool neg,vn,vd] w fun e w'=>∃v',e = .returned v'∧zaj w' v' (frac neg n d)∧Below w.heap.size w w':=by
 have HN:=zHi hn;have HD:=zHi hd;have HNL:=zHi hnL;have HDL:=zHi hdL;have HFP:=zHi (zfi (neg:=neg) (n:=n) hd0);obtain⟨g,hg⟩:∃g,Nat.gcd d n=g:=⟨_,rfl⟩;have hg0:0<g:=by rw [←hg];exact Nat.gcd_pos_of_pos_left _ (Nat.pos_of_ne_zero hd0)
 have hgL:g<B^L:=Nat.lt_of_le_of_lt (by rw [←hg];exact Nat.gcd_le_left _ (Nat.pos_of_ne_zero hd0)) hdL;have HGL:=zHi hgL;have HG:=zHi hg;rw [hg]at HFP;clear hn hd hnL hdL hgL hg;refine callsIn_of_wp Tryz.func130 rfl trivial ?_ rfl;simp only [Tryz.ntmps130,zsj,zsk,zsl,Nat.reduceAdd,Nat.reduceSub,zsm,zsn,zso,zsp,zsq,zsr];gi_wp2_with (gi_at_call 167;refine stop ?_)
 unfold Stop;obtain⟨W,hW⟩:∃W,W=w.alloc (.cells #[.bool false,.slice none 0 0,.slice none 0 0] 27):=⟨_,rfl⟩;rw [←hW];have HK:Hid (Own3 w W):=by rw [hW];exact zel _ _ _ _ _
 clear hW;refine(ze0 W vd vn d n L (HD.out.below HK.out.2.2) (HN.out.below HK.out.2.2) HDL.out HNL.out hL).mono ?_;rintro e w2 ⟨v7,rfl,hm,hB2⟩;rw [HG.out]at hm;have HK2:=zHi (HK.out.step hB2);have HM7:=zHi hm;have HN2:=zHi (HN.out.below HK2.out.2.2);have HD2:=zHi (HD.out.below HK2.out.2.2);have HNF2:Hid (n=0∨vn.ownBlock≠some w.heap.size):=HN.out.lt' (Nat.le_refl _);have HDF2:Hid (d=0∨vd.ownBlock≠some w.heap.size):=HD.out.lt' (Nat.le_refl _);clear hm hB2 HN HD HK;by_cases hg1:g=1
 case' pos=>
  have HI:=zHi (zlf w2 v7 g HM7.out hg1);gi_wp2_with (gi_at_call 168;refine stop ?_)
  unfold Stop;refine HI.out.mono ?_;rintro e w4 ⟨rfl,hB3⟩;have HK3:=zHi (HK2.out.step hB3);have HN3:=zHi (HN2.out.below hB3);have HD3:=zHi (HD2.out.below hB3);clear hB3;gi_wp2_with (gi_at_call 168;refine stop ?_)
  unfold Stop;obtain⟨n',hn'⟩:∃n',n=n':=⟨_,rfl⟩;obtain⟨d',hd'⟩:∃d',d=d':=⟨_,rfl⟩;obtain⟨vn',hvn'⟩:∃vn',vn=vn':=⟨_,rfl⟩;obtain⟨vd',hvd'⟩:∃vd',vd=vd':=⟨_,rfl⟩;have hqn:n/g=n':=by rw [hg1,Nat.div_one,hn']
  have hqd:d/g=d':=by rw [hg1,Nat.div_one,hd']
  rw [hn',hvn']at HN3 HNF2;rw [hd',hvd']at HD3 HDF2;rw [hvn',hvd'];clear hn' hd' hvn' hvd' HI HM7 HN2 HD2 HK2
 case' neg=>
  have HI:=zHi (zm9 w2 v7 g HM7.out hg1);gi_wp2_with (gi_at_call 168;refine stop ?_)
  unfold Stop;refine HI.out.mono ?_;rintro e w4 ⟨rfl,hB3⟩;have HK3:=zHi (HK2.out.step hB3);have HN3:=zHi (HN2.out.below hB3);have HD3:=zHi (HD2.out.below hB3);have HM3:=zHi (HM7.out.below hB3);clear hB3;gi_wp2_with (gi_at_call 181;refine stop ?_)
  unfold Stop;refine(zih w4 vn v7 n g L HN3.out HM3.out hg0 HNL.out HGL.out hL).mono ?_;rintro e w5 ⟨vn',v16,rfl,⟨hm5,hf5⟩,_,hB5⟩;have HK5:=zHi (HK3.out.step hB5);have HN5:=zHi hm5;have HD5:=zHi (HD3.out.below hB5);have HM5:=zHi (HM3.out.below hB5);have HNF5:Hid (n/g=0∨vn'.ownBlock≠some w.heap.size):=hf5.ne HK3.out.2.1 _;clear hm5 hf5 hB5 HK3 HN3 HD3 HM3 HK2 HN2 HD2 HNF2 HDF2 HM7 HI;gi_wp2_with (gi_at_call 181;refine stop ?_)
  unfold Stop;refine(zih w5 vd v7 d g L HD5.out HM5.out hg0 HDL.out HGL.out hL).mono ?_;rintro e w6 ⟨vd',v17,rfl,⟨hm5,hf5⟩,_,hB5⟩;have HK3:=zHi (HK5.out.step hB5);have HN3:=zHi (HN5.out.below hB5);have HD3:=zHi hm5;have HNF2:=HNF5;have HDF2:Hid (d/g=0∨vd'.ownBlock≠some w.heap.size):=hf5.ne HK5.out.2.1 _;clear hm5 hf5 hB5 HK5 HN5 HD5 HM5 HNF5;gi_wp2_with (gi_at_call 168;refine stop ?_)
  unfold Stop;obtain⟨n',hqn⟩:∃n',n/g=n':=⟨_,rfl⟩;obtain⟨d',hqd⟩:∃d',d/g=d':=⟨_,rfl⟩;rw [hqn]at HN3 HNF2;rw [hqd]at HD3 HDF2
 all_goals
  rw [hqn,hqd]at HFP;by_cases hd1:d'=1
  case' pos=>
   refine(zlf _ vd' d' HD3.out hd1).mono ?_;rintro e w8 ⟨rfl,hB8⟩;have HK8:=zHi (HK3.out.step hB8);have HN8:=zHi (HN3.out.below hB8);have HD8:=zHi (HD3.out.below hB8);clear hB8 HK3 HN3 HD3;obtain⟨x0,x1,x2,z0,z1,z2,y0,y1,y2⟩:=HK8.out.cells;obtain⟨o,k,c,rfl,hk,hk9⟩:=zaG HN8.out;have HKn:=zHi hk;clear hk
   cases neg with
   | false=>
    have HS:Hid (decide ((frac false n d).num<0)=false):=zHi (by have:=zff HFP.out hqn;simpa using this);clear HKn;gi_wp2;refine zbe rfl rfl w.heap.size rfl z0 z1 z2 ?_;have hB:=HK8.out.2.2;refine⟨_,rfl,⟨.slice o k c,.slice none 0 0,?_,?_,?_⟩,((hB.setCell (Nat.le_refl _) _).setCell (Nat.le_refl _) _).setCell (Nat.le_refl _) _⟩
    ·first|(rw [HS.out];done)|(rw [HS.out];simp;done)|(rw [HS.out];simp;omega)
    ·rw [HFP.out.1];exact((HN8.out.setCell' HNF2.out _).setCell' HNF2.out _).setCell' HNF2.out _
    ·rw [HFP.out.2.1];rw [hd1,if_pos rfl];exact zdD _ _ _
   | true=>
    by_cases hn0:0<n'
    ·have hk0:(0:Int)<(k:Int):=by
      rcases Nat.eq_zero_or_pos k with h|h
      ·have:=HKn.out.1 h;omega
      ·omega
     have hk1:decide ((0:Int)<(k:Int))=true:=decide_eq_true hk0;have HS:Hid (decide ((frac true n d).num<0)=true):=zHi (by have:=zff HFP.out hqn;simpa [hn0]using this);clear HKn;gi_wp2;refine zbe rfl rfl w.heap.size rfl z0 z1 z2 ?_;have hB:=HK8.out.2.2;refine⟨_,rfl,⟨.slice o k c,.slice none 0 0,?_,?_,?_⟩,((hB.setCell (Nat.le_refl _) _).setCell (Nat.le_refl _) _).setCell (Nat.le_refl _) _⟩
     ·first|(rw [HS.out];done)|(rw [HS.out];simp;done)|(rw [HS.out];simp;omega)
     ·rw [HFP.out.1];exact((HN8.out.setCell' HNF2.out _).setCell' HNF2.out _).setCell' HNF2.out _
     ·rw [HFP.out.2.1];rw [hd1,if_pos rfl];exact zdD _ _ _
    ·have hk0:¬(0:Int)<(k:Int):=by have:=HKn.out.2 (by omega);omega
     have hk1:decide ((0:Int)<(k:Int))=false:=decide_eq_false hk0;have HS:Hid (decide ((frac true n d).num<0)=false):=zHi (by have:=zff HFP.out hqn;simpa [hn0]using this);clear HKn;gi_wp2;refine zbe rfl rfl w.heap.size rfl z0 z1 z2 ?_;have hB:=HK8.out.2.2;refine⟨_,rfl,⟨.slice o k c,.slice none 0 0,?_,?_,?_⟩,((hB.setCell (Nat.le_refl _) _).setCell (Nat.le_refl _) _).setCell (Nat.le_refl _) _⟩
     ·first|(rw [HS.out];done)|(rw [HS.out];simp;done)|(rw [HS.out];simp;omega)
     ·rw [HFP.out.1];exact((HN8.out.setCell' HNF2.out _).setCell' HNF2.out _).setCell' HNF2.out _
     ·rw [HFP.out.2.1];rw [hd1,if_pos rfl];exact zdD _ _ _
  case' neg=>
   refine(zm9 _ vd' d' HD3.out hd1).mono ?_;rintro e w8 ⟨rfl,hB8⟩;have HK8:=zHi (HK3.out.step hB8);have HN8:=zHi (HN3.out.below hB8);have HD8:=zHi (HD3.out.below hB8);clear hB8 HK3 HN3 HD3;obtain⟨x0,x1,x2,z0,z1,z2,y0,y1,y2⟩:=HK8.out.cells;obtain⟨o,k,c,rfl,hk,hk9⟩:=zaG HN8.out;obtain⟨o2,k2,c2,rfl,_,_⟩:=zaG HD8.out;have HKn:=zHi hk;clear hk
   cases neg with
   | false=>
    have HS:Hid (decide ((frac false n d).num<0)=false):=zHi (by have:=zff HFP.out hqn;simpa using this);clear HKn;gi_wp2;refine zbe rfl rfl w.heap.size rfl z0 z1 z2 ?_;have hB:=HK8.out.2.2;refine⟨_,rfl,⟨.slice o k c,.slice o2 k2 c2,?_,?_,?_⟩,((hB.setCell (Nat.le_refl _) _).setCell (Nat.le_refl _) _).setCell (Nat.le_refl _) _⟩
    ·first|(rw [HS.out];done)|(rw [HS.out];simp;done)|(rw [HS.out];simp;omega)
    ·rw [HFP.out.1];exact((HN8.out.setCell' HNF2.out _).setCell' HNF2.out _).setCell' HNF2.out _
    ·rw [HFP.out.2.1];rw [if_neg hd1];exact((HD8.out.setCell' HDF2.out _).setCell' HDF2.out _).setCell' HDF2.out _
   | true=>
    by_cases hn0:0<n'
    ·have hk0:(0:Int)<(k:Int):=by
      rcases Nat.eq_zero_or_pos k with h|h
      ·have:=HKn.out.1 h;omega
      ·omega
     have hk1:decide ((0:Int)<(k:Int))=true:=decide_eq_true hk0;have HS:Hid (decide ((frac true n d).num<0)=true):=zHi (by have:=zff HFP.out hqn;simpa [hn0]using this);clear HKn;gi_wp2;refine zbe rfl rfl w.heap.size rfl z0 z1 z2 ?_;have hB:=HK8.out.2.2;refine⟨_,rfl,⟨.slice o k c,.slice o2 k2 c2,?_,?_,?_⟩,((hB.setCell (Nat.le_refl _) _).setCell (Nat.le_refl _) _).setCell (Nat.le_refl _) _⟩
     ·first|(rw [HS.out];done)|(rw [HS.out];simp;done)|(rw [HS.out];simp;omega)
     ·rw [HFP.out.1];exact((HN8.out.setCell' HNF2.out _).setCell' HNF2.out _).setCell' HNF2.out _
     ·rw [HFP.out.2.1];rw [if_neg hd1];exact((HD8.out.setCell' HDF2.out _).setCell' HDF2.out _).setCell' HDF2.out _
    ·have hk0:¬(0:Int)<(k:Int):=by have:=HKn.out.2 (by omega);omega
     have hk1:decide ((0:Int)<(k:Int))=false:=decide_eq_false hk0;have HS:Hid (decide ((frac true n d).num<0)=false):=zHi (by have:=zff HFP.out hqn;simpa [hn0]using this);clear HKn;gi_wp2;refine zbe rfl rfl w.heap.size rfl z0 z1 z2 ?_;have hB:=HK8.out.2.2;refine⟨_,rfl,⟨.slice o k c,.slice o2 k2 c2,?_,?_,?_⟩,((hB.setCell (Nat.le_refl _) _).setCell (Nat.le_refl _) _).setCell (Nat.le_refl _) _⟩
     ·first|(rw [HS.out];done)|(rw [HS.out];simp;done)|(rw [HS.out];simp;omega)
     ·rw [HFP.out.1];exact((HN8.out.setCell' HNF2.out _).setCell' HNF2.out _).setCell' HNF2.out _
     ·rw [HFP.out.2.1];rw [if_neg hd1];exact((HD8.out.setCell' HDF2.out _).setCell' HDF2.out _).setCell' HDF2.out _
theorem zp4{A c m:Nat}(hc:0<c):limb (A/c) m=((A/B^(m+1)%c)*B+limb A m)/c∧((A/B^(m+1)%c)*B+limb A m)/c<B:=by
 have h:=zgd A c m;have hlt:((A/B^(m+1)%c)*B+limb A m)/c<B:=by
  refine Nat.div_lt_of_lt_mul ?_;have h1:=Nat.mod_lt (A/B^(m+1)) hc;have h2:=zaB A m;have h3:(A/B^(m+1)%c+1)*B≤c*B:=Nat.mul_le_mul_right _ h1;rw [Nat.add_mul,Nat.one_mul]at h3;omega
 refine⟨?_,hlt⟩;have e:limb (A/c) m=A/B^m/c%B:=by
  unfold limb;rw [Nat.div_div_eq_div_mul,Nat.div_div_eq_div_mul,Nat.mul_comm]
 rw [e,←h.2,Nat.mul_comm,Nat.mul_add_mod,Nat.mod_eq_of_lt hlt]
theorem ziP{R z:Nat}(hz:z<B):limb (R*B+z) 0=z:=by
 unfold limb;rw [Nat.pow_zero,Nat.div_one,Nat.mul_comm,Nat.mul_add_mod,Nat.mod_eq_of_lt hz]
theorem ziQ{R z i:Nat}(hz:z<B):limb (R*B+z) (i+1)=limb R i:=by
 unfold limb;rw [Nat.pow_succ,Nat.mul_comm (B^i) B,←Nat.div_div_eq_div_mul];congr 2
 rw [Nat.mul_comm,Nat.mul_add_div zkt,Nat.div_eq_of_lt hz,Nat.add_zero]
theorem zh9{R z k:Nat}(hz:z<B):Value.int .i64 (z:Int) :: zba R k=zba (R*B+z) (k+1):=by
 apply List.ext_getElem?
 intro i
 cases i with
 | zero=>simp [zba,ziP hz,List.range_succ_eq_map]
 | succ i=>simp only [List.getElem?_cons_succ,zba,List.getElem?_map,List.range_succ_eq_map,List.map_map,List.map_cons];simp [Function.comp_def,ziQ hz]
theorem zpx{R z c:Nat}(hz:z<B)(hR:R<c):R*B+z<c*B:=by
 have h3:(R+1)*B≤c*B:=Nat.mul_le_mul_right _ hR;rw [Nat.add_mul,Nat.one_mul]at h3;omega
theorem zmo{R z k:Nat}(hz:z<B)(hR:R<B^k):R*B+z<B^(1+k):=by
 rw [Nat.add_comm 1 k,Nat.pow_succ];exact zpx hz hR
theorem zkv{F:Fence}{n:Nat}{P:Program}{w:World}{ops:Array Oper}{rest:List Oper}{o:Oper}{a:Act}{Q:Exit→Act→World→Prop}
  (hg:o.guard=none) (x y:Operand) (ts:Array TypeId) (hop:o.op=Op.call {callee:=Callee.builtin Builtin.min,args:=#[x,y],argTypes:=ts}) (k:IntKind) (X Y Z:Int) (hx:a.eval x = .int k X) (hy:a.eval y = .int k Y) (hz:(if Y<X then Y else X)=Z)
  (h:wpListIn F n P ops Q rest (a.put o.dst (.int k Z)) w):wpListIn F n P ops Q (o :: rest) a w:=by
 refine wpListIn_plain hg fun K hK => ?_
 unfold Oper.wpIn;refine⟨by simp [Oper.about,hop,resolve,Target.leads,Sem.run_pure],?_⟩;rw [Oper.semAt_plain F _ _ (by rw [hop];intro c hc';cases hc')];simp [execOp,hop,resolve,invoke,builtin,Builtin.min_,Builtin.min2,hx,hy,Sem.run_pure,hz]
 exact hK _ _ h
theorem zkw{F:Fence}{n:Nat}{P:Program}{w:World}{ops:Array Oper}{rest:List Oper}{o:Oper}{a:Act}{Q:Exit→Act→World→Prop}
  (hg:o.guard=none) (x y:Operand) (ts:Array TypeId) (hop:o.op=Op.call {callee:=Callee.builtin Builtin.max,args:=#[x,y],argTypes:=ts}) (k:IntKind) (X Y Z:Int) (hx:a.eval x = .int k X) (hy:a.eval y = .int k Y) (hz:(if Y>X then Y else X)=Z)
  (h:wpListIn F n P ops Q rest (a.put o.dst (.int k Z)) w):wpListIn F n P ops Q (o :: rest) a w:=by
 refine wpListIn_plain hg fun K hK => ?_
 unfold Oper.wpIn;refine⟨by simp [Oper.about,hop,resolve,Target.leads,Sem.run_pure],?_⟩;rw [Oper.semAt_plain F _ _ (by rw [hop];intro c hc';cases hc')];simp [execOp,hop,resolve,invoke,builtin,Builtin.max_,Builtin.max2,hx,hy,Sem.run_pure,hz]
 exact hK _ _ h
theorem zpW{F:Fence}{n:Nat}{P:Program}{w:World}{ops:Array Oper}{rest:List Oper}{a:Act}{Q:Exit→Act→World→Prop}{dst:Option Tmp}{ty:TypeId}{ps:String}{af:Array Edge}{gd:Option (Nat × Bool)}{xs:Array Operand}{ts:Array TypeId}
  (h:Stop (wpListIn F n P ops Q ({dst:=dst,op:=Op.call {callee:=Callee.builtin Builtin.min,args:=xs,argTypes:=ts},type:=ty,pos:=ps,after:=af,guard:=gd} :: rest) a w)) :
  wpListIn F n P ops Q ({dst:=dst,op:=Op.call {callee:=Callee.builtin Builtin.min,args:=xs,argTypes:=ts},type:=ty,pos:=ps,after:=af,guard:=gd} :: rest) a w:=h
theorem zku{x:Nat}(h:x<9223372036854775808):wrap64 (x:Int)=(x:Int):=by
 unfold wrap64;omega
structure DivI(w0 wr:World)(vx vr vy:Value)(A R c g n:Nat)(f:Nat→Value):Prop where
 num:NatI wr vx A
 numNe:A=0∨vx.ownBlock≠some g
 rest:NatI wr vr R
 restNe:R=0∨vr.ownBlock≠some g
 div:NatI wr vy c
 divNe:c=0∨vy.ownBlock≠some g
 arr:zag wr g n f
 el:Elem wr g 3
 lt:g<wr.heap.size
 below:Below w0.heap.size w0 wr
theorem DivI.step{w0 wr w':World}{vx vr vy:Value}{A R c g n:Nat}{f:Nat→Value}(h:DivI w0 wr vx vr vy A R c g n f)(hb:Below wr.heap.size wr w'):DivI w0 w' vx vr vy A R c g n f:=
 ⟨h.num.below hb,h.numNe,h.rest.below hb,h.restNe,h.div.below hb,h.divNe,h.arr.below h.lt hb,h.el.below hb h.lt,Nat.lt_of_lt_of_le h.lt hb.size,h.below.trans (hb.mono h.below.size)⟩
theorem DivI.with{w0 wr:World}{vx vr vy vr':Value}{A R c g n R':Nat}{f:Nat→Value}(h:DivI w0 wr vx vr vy A R c g n f)(h1:NatI wr vr' R')(h2:R'=0∨vr'.ownBlock≠some g):DivI w0 wr vx vr' vy A R' c g n f:=
 ⟨h.num,h.numNe,h1,h2,h.div,h.divNe,h.arr,h.el,h.lt,h.below⟩
theorem NatI.setCell'{w:World}{v:Value}{x g i:Nat}(h:NatI w v x)(hne:x=0∨v.ownBlock≠some g)(u:Value):NatI (w.setCell ⟨g,i,none⟩ u) v x:=by
 rcases hne with rfl|hne
 ·obtain⟨k,hk,hl⟩:=h;have hk0:k=0:=hk.unique zcf;subst hk0;rcases hl with h|⟨a,cap,rfl,h2,_⟩
  ·exact⟨0,hk,.inl h⟩
  ·omega
 ·exact h.setCell hne u
theorem DivI.set{w0 wr:World}{vx vr vy:Value}{A R c g n:Nat}{f:Nat→Value}(h:DivI w0 wr vx vr vy A R c g n f){i:Nat}(hi:i<n)(hg:w0.heap.size≤g)(u:Value){f':Nat→Value}(hf:∀j,j<n→(if j=i then u else f j)=f' j):DivI w0 (wr.setCell ⟨g,i,none⟩ u) vx vr vy A R c g n f':=
 ⟨h.num.setCell' h.numNe u,h.numNe,h.rest.setCell' h.restNe u,h.restNe,h.div.setCell' h.divNe u,h.divNe,zag.congr (h.arr.set hi u) hf,h.el.setCell _ _,by rw [show(wr.setCell ⟨g,i,none⟩ u).heap.size=wr.heap.size by simp [World.setCell]];exact h.lt,h.below.setCell hg _⟩
theorem NatI.lt'{w:World}{v:Value}{x:Nat}(h:NatI w v x){g:Nat}(hg:w.heap.size≤g):x=0∨v.ownBlock≠some g:=by
 rcases Nat.eq_zero_or_pos x with h0|h0
 ·exact .inl h0
 ·exact .inr (h.lt h0 g hg)
theorem zdp.ne'{b g:Nat}{v:Value}(h:zdp b v)(hg:g<b)(x:Nat):x=0∨v.ownBlock≠some g:=.inr fun e=>by have:=h _ e;omega
theorem zqj{T c l top h n:Nat}(hc:0<c)(hT:c≤T)(htop:limb c l=top)(hcl:c<B^(l+1))(hh:T/B^l=h)(hn:n=max 1 (min 999999999 (h/(top+1)))):1≤n∧n≤999999999∧n*c≤T:=by
 refine⟨by omega,by omega,?_⟩;have hct:c<(top+1)*B^(l+1-1):=by
  have h1:=zbg c l;rw [zbn hcl,htop]at h1;have h2:=zcG c l;rw [Nat.add_sub_cancel,Nat.add_mul,Nat.one_mul,Nat.mul_comm top];omega
 have hg:=zqk (R:=T) hc hct;rw [Nat.add_sub_cancel,hh]at hg;rcases Nat.eq_zero_or_pos (h/(top+1))with h0|h0
 ·have:n=1:=by omega
  subst this;omega
 ·exact Nat.le_trans (Nat.mul_le_mul_right c (by omega)) hg
theorem append_cons{F:Fence}{n:Nat}(wr:World){ops:Array Oper}{rest:List Oper}{o:Oper}{a:Act}{Q:Exit→Act→World→Prop}
  (hg:o.guard=none) (s x:Operand) (hop:o.op=Op.call {callee:=Callee.builtin Builtin.append,args:=#[s,x],argTypes:=#[58,58]})
  (z R k:Nat) (hz:z<B) (hs:a.eval s = .slice (some ⟨wr.heap.size,0,none⟩) 1 1) (vr:Value) (hx:a.eval x=vr) (hR:zbZ wr vr R k) (hk:k≤400000000) (zz:Int) (hzz:zz=(z:Int))
  (hK:∀v' w',zbZ w' v' (R*B+z) (1+k)→zdp wr.heap.size v'→Below wr.heap.size wr w'→wpListIn F n Tryz.prog ops Q rest (a.put o.dst v') w') :
  wpListIn F n Tryz.prog ops Q (o :: rest) a (wr.alloc (.cells #[.int .i64 zz] 3)):=by
 subst hzz;obtain⟨W,hW⟩:∃W,W=wr.alloc (.cells #[.int .i64 (z:Int)] 3):=⟨_,rfl⟩;have hb:Below wr.heap.size wr W:=by rw [hW];exact zaa _ _
 have hown:W.ownsRow wr.heap.size 3 1 (.slice (some ⟨wr.heap.size,0,none⟩) 1 1) 1 [.int .i64 (z:Int)]:=by rw [hW];exact World.ownsRow_lit wr #[.int .i64 (z:Int)] 1 (Nat.le_refl _) (by unfold maxLen;omega) (by simp)
 have h0:[Value.int .i64 (z:Int)]=zba (R*B+z) 1:=zh9 (k:=0) hz;rw [←hW];rcases Nat.eq_zero_or_pos k with hk0|hk0
 ·subst hk0;obtain⟨o1,c1,rfl,_⟩:=hR.form;refine zcx _ hg _ _ _ hop _ Tryz.t3 Go.Num.u30 zgx wr.heap.size 0 1 1 (Nat.le_refl _) hs o1 c1 hx ?_;rw [h0]at hown;exact hK _ _ (zbJ hown (by omega)) (fun k hk=>by have q:wr.heap.size=k:=(by simpa [Value.ownBlock]using hk);omega) hb
 ·obtain⟨o1,c1,rfl,h1⟩:=hR.form;obtain⟨a1,rfl,ha1,hc1⟩:=h1 hk0;refine wpListIn_append_own _ hg s x 58 hop wr.heap.size 3 Tryz.t3 _ 1 8 Go.Num.u30 zgx zhz zhA zf6 rfl (by decide) _ 1 _ hs hown a1 k c1 (zba R k) hx (by simp [zba]) ?_ ?_ (by unfold maxLen;omega) (by omega) hb.size ?_
  ·intro j u hu;have hj:j<k:=by
    have:=(List.getElem?_eq_some_iff.1 hu).1;simpa [zba]using this
   rw [hb.cell (p:=a1.add j) (by rw [zaf];exact ha1),hc1 j hj,←hu];simp [zba,hj]
  ·intro u hu;unfold zba at hu;obtain⟨i,_,rfl⟩:=List.mem_map.1 hu;rfl
  ·intro v' w' h1 h2 _;have e:[Value.int .i64 (z:Int)] ++ zba R k=zba (R*B+z) (1+k):=by rw [Nat.add_comm 1 k,←zh9 hz];rfl
   rw [e]at h1;exact hK v' w' (zbJ h1 (by omega)) (fun k hk=>zcp h1 hk) (hb.grown h2 hb.size fun k hk=>zcp hown hk)
theorem znY(w:World)(va vb:Value)(x y L:Nat)(ha:NatI w va x)(hb:NatI w vb y)(hy:0<y)(hx:x<B^L)(hyL:y<B^L)(hL:L≤10000000) :
  CallsIn Fence.wide 0 Tryz.prog 197 #[va,vb] w fun e w'=>∃vq vr,e = .returned (.tuple #[vq,vr])∧(NatI w' vq (x/y)∧zdp w.heap.size vq)∧NatI w' vr (x%y)∧Below w.heap.size w w':=by
 have HA:=zHi ha;have HB:=zHi hb;have HX:=zHi hx;have HY:=zHi hyL;clear hx hyL;obtain⟨l,hl⟩:∃l,zcV y (l+1):=by
  obtain⟨k,hk,_⟩:=hb;rcases Nat.eq_zero_or_pos k with h|h
  ·subst h;exact absurd hk.zero (by omega)
  ·exact⟨k-1,by rw [Nat.sub_add_cancel h];exact hk⟩
 have hlb:=hb.limbs hl;have hlL:=hl.le HY.out;have tg:=zky hl;have ht:=hl.top;have htB:=zaB y l;obtain⟨o2,c2,rfl,h2⟩:=hlb.form;obtain⟨a2,rfl,ha2,hc2⟩:=h2 (by omega);have hc0:=hc2 l (by omega);obtain⟨t,hts⟩:∃t,limb y l=t:=⟨_,rfl⟩;rw [hts]at tg ht htB hc0;obtain⟨d,hd⟩:∃d,B/(t+1)=d:=⟨_,rfl⟩;have ed:(1000000000:Int)/((t:Int)+1)=(d:Int):=by rw [←hd];simp [B]
 have ed2:Int.tdiv (1000000000:Int) ((t:Int)+1)=(d:Int):=by rw [←hd];rfl
 rw [hd]at tg;have hBB:B=1000000000:=rfl;have hd0:=tg.2.1;have hdB:=tg.2.2.1;rw [hBB]at htB;obtain⟨c,hcc⟩:∃c,y*d=c:=⟨_,rfl⟩;obtain⟨A,hAA⟩:∃A,x*d=A:=⟨_,rfl⟩;have hsc:A/c=x/y∧A%c/d=x%y:=by rw [←hcc,←hAA];exact zkM hd0
 rw [hcc]at tg;have HTG:=zHi tg;have HSC:=zHi hsc;have HCC:=zHi hcc;have HAA:=zHi hAA;have hcpos:0<c:=by rw [←hcc];exact Nat.mul_pos hy hd0
 have hAL:A<B^(L+1):=by rw [←hAA];exact zaI HX.out (by rw [Nat.pow_one];exact hdB)
 have hcL:c<B^(L+1):=Nat.lt_of_lt_of_le tg.1.1 (zah (by omega));have HAL:=zHi hAL;have HCL:=zHi hcL;have HT0:=zHi (zeJ w va x d L ha HX.out (by omega) hdB);have HT1:=fun (w1:World) (h:Below w.heap.size w w1)=>zHi (zeJ w1 _ y d L (hb.below h) HY.out (by omega) hdB)
 clear hts hd hcc hAA hsc tg hlb hl hc2 h2 hAL hcL ha hb;refine callsIn_of_wp Tryz.func197 rfl trivial ?_ rfl;simp only [Tryz.ntmps197,zsj,zsk,zsl,Nat.reduceAdd,Nat.reduceSub,zsm,zsn,zso,zsp,zsq,zsr];gi_wp2_with (gi_at_call 220;refine stop ?_)
 unfold Stop;refine HT0.out.mono ?_;rintro e w1 ⟨v7,rfl,⟨hm,_⟩,hB1⟩;rw [HAA.out]at hm;have HM7:=zHi hm;have HB1:=zHi hB1;clear hm hB1 HT0;gi_wp2_with (gi_at_call 220;refine stop ?_)
 unfold Stop;refine(HT1 w1 HB1.out).out.mono ?_;rintro e w2 ⟨v8,rfl,⟨hm,_⟩,hB2⟩;rw [HCC.out]at hm;have hm2:=hm.limbs HTG.out.1;obtain⟨o8,c8,rfl,h8⟩:=hm2.form;obtain⟨a8,rfl,ha8,hc8⟩:=h8 (by omega);have hct:=hc8 l (by omega);have HMC:=zHi hm;obtain⟨kA,hkA,hlA⟩:=HM7.out.below hB2;obtain⟨o7,c7,rfl,h7⟩:=hlA.form;have hkAL:=hkA.le HAL.out;have HKA:=zHi hkA;have HM72:=zHi (HM7.out.below hB2);have HB2:=zHi (HB1.out.trans (hB2.mono HB1.out.size));obtain⟨top,htop⟩:∃top,limb c l=top:=⟨_,rfl⟩;rw [htop]at hct;have HTOP:=zHi htop;have htopB:top<1000000000:=by rw [←htop];exact zaB c l
 clear hm hB2 hm2 h8 hc8 hkA hlA h7 HM7 htop ed ed2 hc0 HT1;gi_wp2_with (gi_at_make;refine stop ?_)
 unfold Stop;obtain⟨hi,hhi⟩:∃hi,top+1=hi:=⟨_,rfl⟩;rw [show((top:Int)+1)=(hi:Int)by omega];have HHI:=zHi hhi.symm;refine zaS _ rfl _ _ _ rfl w2.heap.size 3 Tryz.t3 _ 1 Go.Num.u30 zgx zhz zhA _ _ _ _ kA rfl rfl (by omega) (by omega) (by rw [zf6];omega) (by unfold maxLen;omega) (Nat.le_refl _) ?_;intro W4 hown hgrow;obtain⟨g,hg'⟩:∃g,w2.heap.size=g:=⟨_,rfl⟩;have hB34:Below w2.heap.size w2 W4:=(Below.refl _ w2).grown hgrow (Nat.le_refl _) (fun _ h=>by cases h);have hE4:Elem W4 g 3:=by rw [←hg'];exact zcR hown
 have HK4:Hid (DivI w W4 (.slice o7 kA c7) (.slice none 0 0) (.slice (some a8) (l+1) c8) A 0 c g kA fun i => .int .i64 ((topL (A/c) kA i:Nat):Int)):=by
  refine⟨HM72.out.below hB34,HM72.out.lt' (by omega),zp7 _ _ _,.inl rfl,HMC.out.below hB34,HMC.out.lt' (by omega),?_,hE4,hE4.lt,HB2.out.trans (hB34.mono HB2.out.size)⟩;rw [←hg'];exact zag.of_row hown fun i hi=>by unfold topL;rw [if_neg (by omega)];exact zfJ (by omega)
 have hg:w.heap.size≤g:=by have:=HB2.out.size;omega
 rw [hg'];clear hown hgrow hg' hB34 HM72 HMC hct hE4 HB2;gi_wp2;gi_loopw [11,12] (fun v11 iv wr=>∃(i0:Int) (R:Nat),-1≤i0∧i0<kA∧iv = .int .i64 i0∧Hid (A/B^(i0+1).toNat%c=R)∧Hid (DivI w wr (.slice o7 kA c7) v11 (.slice (some a8) (l+1) c8) A R c g kA fun j => .int .i64 ((topL (A/c) (i0+1).toNat j:Nat):Int))) (fun _ iv _=>(intOf iv+1).toNat)
 case atStart=>
  refine⟨(kA:Int)-1,0,by omega,by omega,(by first|rfl|(congr 1;omega)),?_,?_⟩
  ·rw [show((kA:Int)-1+1).toNat=kA by omega,Nat.div_eq_of_lt HKA.out.1];exact Nat.zero_mod _
  ·rw [show((kA:Int)-1+1).toNat=kA by omega];exact HK4.out
 case round=>
  obtain⟨i0,R,hi1,hi2,rfl,HRE,HK⟩:=hrel;clear HK4;by_cases h0:0≤i0
  ·obtain⟨m,rfl⟩:∃m:Nat,i0=(m:Int):=⟨i0.toNat,by omega⟩;rw [show((m:Int)+1).toNat=m+1 by omega]at HRE HK;have hmk:m<kA:=by omega
   obtain⟨o7',c7',e7,h7⟩:=(HK.out.num.limbs HKA.out).form;injection e7 with e7 e7' e7'';subst e7;subst e7'';obtain⟨a7,rfl,ha7,hc7⟩:=h7 (by omega);have p7:=hc7 m hmk;obtain⟨z,hz⟩:∃z,limb A m=z:=⟨_,rfl⟩;have hzB:z<B:=by rw [←hz];exact zaB A m
   rw [hz]at p7;have hRc:R<c:=by rw [←HRE.out];exact Nat.mod_lt _ hcpos
   obtain⟨kr,hkr,hlr⟩:=HK.out.rest;have hkrL:kr≤L+1:=hkr.le (Nat.lt_trans hRc HCL.out);have HLR:=zHi hlr;have HKR:=zHi hkr;have HZ:=zHi hz;clear hc7 h7 hlr hkr hz;gi_wp2_with (gi_at_builtin;refine stop ?_)
   unfold Stop;refine append_cons wr rfl _ _ rfl z R kr hzB rfl u11 rfl HLR.out (by omega) _ rfl ?_;intro v5 w5 hl5 hf5 hb5;have HT:=zHi (zbs w5 v5 (R*B+z) (1+kr) hl5 (zmo hzB HKR.out.1));have HF5:=zHi hf5;have HB5:=zHi hb5;clear hl5 hf5 hb5;gi_wp2_with (gi_at_call 198;refine stop ?_)
   unfold Stop;refine HT.out.mono ?_;rintro e w6 ⟨v6,rfl,⟨hm6,hf6⟩,hb6⟩;obtain⟨S,hS⟩:∃S,R*B+z=S:=⟨_,rfl⟩;have hSc:S<c*B:=by rw [←hS];exact zpx hzB hRc
   rw [hS]at hm6;have HS:=zHi hS;have HK6:Hid (DivI w w6 (.slice (some a7) kA c7) v6 (.slice (some a8) (l+1) c8) A S c g kA fun j => .int .i64 (((if j=m then 0 else topL (A/c) (m+1) j):Nat):Int)):=by
    have h6:=(HK.out.step (HB5.out.trans (hb6.mono HB5.out.size))).with hm6 (zdp.ne' (b:=wr.heap.size) (fun k hk=>HF5.out k (hf6 ▸ hk)) HK.out.lt S);refine⟨h6.num,h6.numNe,h6.rest,h6.restNe,h6.div,h6.divNe,zag.congr h6.arr fun j _ => ?_,h6.el,h6.lt,h6.below⟩;by_cases e:j=m
    ·subst e;rw [if_pos rfl];unfold topL;rw [if_neg (by omega)]
    ·rw [if_neg e]
   clear hm6 hf6 hb6 hS HT HF5 HB5 HLR HKR p7;gi_wp2;gi_loopw [11] (fun v11 wr=>∃(T t:Nat),Hid (T+t*c=S)∧Hid (DivI w wr (.slice (some a7) kA c7) v11 (.slice (some a8) (l+1) c8) A T c g kA fun j => .int .i64 (((if j=m then t else topL (A/c) (m+1) j):Nat):Int))) (fun v11 wr=>zm0 wr v11)
   case atStart=>exact⟨S,0,zHi (by omega),HK6.out⟩
   case round=>
    obtain⟨T,t,HTt,HK7⟩:=hrel;clear HK6;obtain⟨kT,hkT,hlT⟩:=HK7.out.rest;obtain⟨o11,c11,rfl,_⟩:=hlT.form;have hkT9:=hlT.small;have HKT:=zHi hkT;have HTc:=zHi (zjy wr _ _ T c HK7.out.rest HK7.out.div);clear hkT hlT;by_cases hTc:T<c
    ·have hq:cmpI T c = -1:=zis hTc;rw [hq]at HTc;gi_wp2_with (gi_at_call 200;refine HTc.out.mono ?_;rintro e w8 ⟨rfl,hb8⟩;have HB8:=zHi hb8;clear hb8)
     have hTS:S%c=T∧S/c=t:=by
      rw [←HTt.out];exact⟨by rw [Nat.add_mul_mod_self_right,Nat.mod_eq_of_lt hTc],by rw [Nat.add_mul_div_right _ _ hcpos,Nat.div_eq_of_lt hTc,Nat.zero_add]⟩
     have hrs:=(zgd A c m).1;have hql:=(zp4 (A:=A) (m:=m) hcpos).1;rw [HRE.out,HZ.out,HS.out]at hrs hql;refine⟨⟨(m:Int)-1,T,by omega,by omega,by go_num,?_,?_⟩,by simp [intOf]⟩
     ·rw [show((m:Int)-1+1).toNat=m by omega];exact zHi (by rw [←hrs,hTS.1])
     ·rw [show((m:Int)-1+1).toNat=m by omega];have h8:=HK7.out.step HB8.out;refine zHi ⟨h8.num,h8.numNe,h8.rest,h8.restNe,h8.div,h8.divNe,zag.congr h8.arr fun j _ => ?_,h8.el,h8.lt,h8.below⟩;by_cases e:j=m
      ·rw [if_pos e,e];unfold topL;rw [if_pos (Nat.le_refl _),hql,hTS.2]
      ·rw [if_neg e];unfold topL;by_cases e2:m+1≤j
       ·rw [if_pos e2,if_pos (by omega)]
       ·rw [if_neg e2,if_neg (by omega)]
    ·obtain⟨q,hq⟩:∃q,cmpI T c=q:=⟨_,rfl⟩;have hq0:0≤q:=by
      rw [←hq];unfold cmpI;rw [if_neg hTc];split <;> omega
     rw [hq]at HTc;have HK8:∀w8,Below wr.heap.size wr w8→Hid (DivI w w8 (.slice (some a7) kA c7) (.slice o11 kT c11) (.slice (some a8) (l+1) c8) A T c g kA fun j => .int .i64 (((if j=m then t else topL (A/c) (m+1) j):Nat):Int)):=fun w8 h=>HK7.out.step h
     have hSle:T≤S:=by have:=HTt.out;omega
     have hTB:T<c*B:=Nat.lt_of_le_of_lt hSle hSc;have hTp:T<B^(l+2):=by
      have h1:c*B≤B^(l+1)*B:=Nat.mul_le_mul_right _ (Nat.le_of_lt HTG.out.1.1);rw [show B^(l+1)*B=B^(l+2)from(Nat.pow_succ _ _).symm]at h1;omega
     have hkT2:kT≤l+2:=HKT.out.le hTp;have hkT1:l+1≤kT:=by
      apply Classical.byContradiction
      intro hno;have:=zgO HKT.out HTG.out.1 (by omega);omega
     have HTP:=zHi hTp;have HTB:=zHi hTB;clear hTp hTB;gi_wp2_with (gi_at_call 200;refine HTc.out.mono ?_;rintro e w8 ⟨rfl,hb8⟩;have HK8:=HK8 w8 hb8;clear hb8)
     obtain⟨w9,hw9⟩:∃w9,w9=w8:=⟨_,rfl⟩;rw [←hw9];rw [←hw9]at HK8;have HNUM:=zHi HK7.out.rest.num;clear hw9 HK7 HTc;gi_loopw [14,15] (fun hv kv wr=>∃p h:Nat,l≤p∧p≤kT∧kv = .int .i64 ((p:Int)-1)∧hv = .int .i64 (h:Int)∧Hid (T/B^p=h)∧wr=w9) (fun _ kv _=>(intOf kv+1).toNat)
     case atStart=>exact⟨kT,0,by omega,Nat.le_refl _,(by first|rfl|go_num),rfl,Nat.div_eq_of_lt HKT.out.1,rfl⟩
     case round=>
      obtain⟨p,hv0,hp1,hp2,rfl,rfl,HH,rfl⟩:=hrel;by_cases hpm:l+1≤p
      ·obtain⟨p',rfl⟩:∃p',p=p'+1:=⟨p-1,by omega⟩;have hhB:hv0<1000000000:=by
        rw [←HH.out];refine Nat.div_lt_of_lt_mul ?_;have h1:B^(l+2)≤B^(p'+1+1):=zah (by omega);rw [Nat.pow_succ B (p'+1)]at h1;exact Nat.lt_of_lt_of_le HTP.out h1
       have ds:T/B^p'=1000000000*hv0+limb T p':=by rw [zcD T p',HH.out];rfl
       obtain⟨o',c',e',h11⟩:=(HK8.out.rest.limbs HKT.out).form;injection e' with e1 e2 e3;subst e1;subst e3;obtain⟨a11,rfl,ha11,hc11⟩:=h11 (by omega);have p11:=hc11 p' (by omega);obtain⟨lr,hlr⟩:∃lr,limb T p'=lr:=⟨_,rfl⟩;have hlB:lr<1000000000:=by rw [←hlr];exact zaB T p'
       rw [hlr]at p11 ds;have HDS:=zHi ds;clear hc11 hlr ds h11;gi_wp2;exact⟨⟨p',1000000000*hv0+lr,by omega,by omega,by go_num,congrArg (Value.int .i64) (by omega),HDS.out,by first|trivial|rfl⟩,by first|(simp [intOf];done)|(simp [intOf];omega)⟩
      ·have hpm0:l=p:=by omega
       subst hpm0;have htop0:¬(hi:Int)=0:=by omega
       clear hhi;gi_wp2_with (with_reducible refine zpW ?_)
       unfold Stop;obtain⟨N,hN⟩:∃N,max 1 (min 999999999 (hv0/hi))=N:=⟨_,rfl⟩;obtain⟨M,hM⟩:∃M,min 999999999 (hv0/hi)=M:=⟨_,rfl⟩;have htop1:((hv0:Int)/(hi:Int))=((hv0/hi:Nat):Int):=rfl;have hgs:=zqj (n:=N) hcpos (Nat.le_of_not_lt hTc) HTOP.out HTG.out.1.1 HH.out (by rw [←HHI.out,hN]);have hTt:=HTt.out;have hNS:S/c<B:=Nat.div_lt_of_lt_mul hSc;have htN:t+N≤S/c:=by
        rw [Nat.le_div_iff_mul_le hcpos,Nat.add_mul];omega
       have HGS:=zHi hgs;have HTN:=zHi (show t+N<1000000000 from Nat.lt_of_le_of_lt htN hNS);have hN2:=hgs.2.1;have HNB:=zHi (show N<B from Nat.lt_of_le_of_lt hN2 (by unfold B;omega));have hmul1:=zHi (show 0<N*c from Nat.mul_pos hgs.1 hcpos);have htop2:(Int.tdiv (hv0:Int) (hi:Int))=((hv0/hi:Nat):Int):=rfl;have hw:wrap64 ((hv0/hi:Nat):Int)=((hv0/hi:Nat):Int)   := zku (x:=hv0/hi) (by
        have h1:hv0<1000000000000000000:=by
         rw [←HH.out];refine Nat.div_lt_of_lt_mul ?_;have h2:=HTP.out;rw [Nat.pow_add]at h2;exact h2
        have h3:=Nat.div_le_self hv0 hi;omega)
       refine zkv rfl _ _ _ rfl .i64 _ _ (M:Int) rfl rfl (by rw [htop1,hw,←hM];generalize hv0/hi=G0;split <;> omega) ?_;refine zkw rfl _ _ _ rfl .i64 _ _ (N:Int) rfl rfl (by rw [←hN,hM];split <;> omega) ?_;clear hgs hTt hNS htN hN2 hN hM htop1 htop2 hw htop0 HH;gi_wp2_with (gi_at_call 220;refine stop ?_)
       unfold Stop;refine(zeJ wr _ c N (L+1) HK8.out.div HCL.out (by omega) HNB.out).mono ?_;rintro e wa ⟨va',rfl,⟨hma,_⟩,hba⟩;have HK9:=zHi (HK8.out.step hba);have HMA:=zHi hma;clear hma hba HK8;gi_wp2_with (gi_at_call 201;refine stop ?_)
       unfold Stop;refine(zi8 wa _ _ T (c*N) (l+2) HK9.out.rest HMA.out (by rw [Nat.mul_comm];exact HGS.out.2.2) HTP.out (by omega)).mono ?_;rintro e wb ⟨vb',rfl,⟨hmb,hfb⟩,hbb⟩;have HKA2:=zHi ((HK9.out.step hbb).with hmb (zdp.ne' hfb HK9.out.lt _));clear hmb hfb hbb HK9 HMA;have z1:wb.cell? ⟨g,m,none⟩=some (.int .i64 (t:Int)):=(HKA2.out.arr m hmk).1.trans (by rw [if_pos rfl]);have z2:=(HKA2.out.arr m hmk).2;have htN2:=HTN.out;gi_wp2;have hset:=HKA2.out.set hmk hg (.int .i64 ((t:Int)+(N:Int))) (f':=fun j => .int .i64 (((if j=m then t+N else topL (A/c) (m+1) j):Nat):Int)) fun j hj=>by
        by_cases e:j=m
        ·rw [if_pos e,if_pos e];exact congrArg (Value.int .i64) (by omega)
        ·rw [if_neg e,if_neg e,if_neg e]
       refine⟨⟨T-c*N,t+N,zHi ?_,zHi hset⟩,?_⟩
       ·have h1:=HTt.out;have h2:=HGS.out.2.2;rw [Nat.add_mul,Nat.mul_comm c N];omega
       ·rw [hset.rest.num,HNUM.out,Nat.mul_comm c N];have h1:=hmul1.out;omega
  ·have hm1:i0 = -1:=by omega
   subst hm1;have hR0:A%c=R:=by
    have:=HRE.out;simpa using this
   have HR0:=zHi hR0;have HSM:=zHi (zlO wr _ R d HK.out.rest hd0 hdB);clear hR0;gi_wp2_with (gi_at_call 221;refine stop ?_)
   unfold Stop;refine HSM.out.mono ?_;rintro e w5 ⟨vs,rfl,⟨hm,_⟩,hb5⟩;have HM:=zHi hm;have HK5:=zHi (HK.out.step hb5);clear hm hb5 HK HSM;have hlt:A/c<B^kA:=Nat.lt_of_le_of_lt (Nat.div_le_self _ _) HKA.out.1;have hla:zbZ w5 (.slice (some ⟨g,0,none⟩) kA kA) (A/c) kA:=by
    rcases Nat.eq_zero_or_pos kA with h|h
    ·subst h;exact .inl ⟨rfl,_,_,rfl⟩
    ·refine zag.limbsI (zag.congr HK5.out.arr fun j _ => ?_) h (Nat.le_refl _) ⟨by omega,by omega⟩ HK5.out.el;unfold topL;rw [if_pos (by simp)]
   have HT:=zHi (zbs w5 _ (A/c) kA hla hlt);clear hla hlt;gi_wp2_with (gi_at_call 198;refine stop ?_)
   unfold Stop;refine HT.out.mono ?_;rintro e w6 ⟨vq,rfl,⟨hm,hf⟩,hb6⟩;have HQ:=zHi hm;have HFr:=zHi (zdl hf hg);have HB6:=zHi hb6;clear hm hf hb6 HT;gi_wp2;all_goals (first|go_returns|go_ret|go_end0)
   refine⟨vq,vs,rfl,⟨?_,HFr.out⟩,?_,HK5.out.below.trans (HB6.out.mono HK5.out.below.size)⟩
   ·rw [←HSC.out.1];exact HQ.out
   ·rw [←HSC.out.2,HR0.out];exact HM.out.below HB6.out
theorem zjw(w:World)(va vb:Value)(x y L:Nat)(ha:NatI w va x)(hb:NatI w vb y)(hy:0<y)(hx:x<B^L)(hyL:y<B^L)(hL:L≤10000000) :
  CallsIn Fence.wide 0 Tryz.prog 197 #[va,vb] w fun e w'=>∃vq vr,e = .returned (.tuple #[vq,vr])∧NatI w' vq (x/y)∧NatI w' vr (x%y)∧Below w.heap.size w w':=
 (znY w va vb x y L ha hb hy hx hyL hL).mono (fun _ _ ⟨vq,vr,h1,h2,h3,h4⟩=>⟨vq,vr,h1,h2.1,h3,h4⟩)
end Go.Num
