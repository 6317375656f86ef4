/-
  A region that draws its order and calls functions.
  Conditions: see each statement.
-/
import Derived.Test.YtoamcgjbelhnkaaGreatDoorSAA
import Derived.Test.YtoamcgjbelhnkaaGreatDoorSAD
import Derived.Test.YtoamcgjbelhnkaaGreatDoorSAC
import Derived.Below
import Derived.WalkKit
import Derived.Deep.MidRow
set_option maxRecDepth 100000
set_option maxHeartbeats 16000000
namespace Go.Num
open Go.RowKit Go.Proofs Go.Proofs.YtoamcgjbelhnkaaGreatDoor
theorem zru{A c m:Nat}(hc:0<c):limb (A/c) m=((A/B^(m+1)%c)*B+limb A m)/c∧((A/B^(m+1)%c)*B+limb A m)/c<B:=by
 have h:=zfS A c m;have hlt:((A/B^(m+1)%c)*B+limb A m)/c<B:=by
  refine Nat.div_lt_of_lt_mul ?_;have h1:=Nat.mod_lt (A/B^(m+1)) hc;have h2:=zaA A m;have h3:(A/B^(m+1)%c+1)*B≤c*B:=Nat.mul_le_mul_right _ h1;rw [Nat.add_mul,Nat.one_mul]at h3;omega
 refine⟨?_,hlt⟩;have e:limb (A/c) m=A/B^m/c%B:=by
  unfold limb;rw [Nat.div_div_eq_div_mul,Nat.div_div_eq_div_mul,Nat.mul_comm]
 rw [e,←h.2,Nat.mul_comm,Nat.mul_add_mod,Nat.mod_eq_of_lt hlt]
theorem zix{R z:Nat}(hz:z<B):limb (R*B+z) 0=z:=by
 unfold limb;rw [Nat.pow_zero,Nat.div_one,Nat.mul_comm,Nat.mul_add_mod,Nat.mod_eq_of_lt hz]
theorem ziy{R z i:Nat}(hz:z<B):limb (R*B+z) (i+1)=limb R i:=by
 unfold limb;rw [Nat.pow_succ,Nat.mul_comm (B^i) B,←Nat.div_div_eq_div_mul];congr 2
 rw [Nat.mul_comm,Nat.mul_add_div zkK,Nat.div_eq_of_lt hz,Nat.add_zero]
theorem zhO{R z k:Nat}(hz:z<B):Value.int .i64 (z:Int) :: za3 R k=za3 (R*B+z) (k+1):=by
 apply List.ext_getElem?
 intro i
 cases i with
 | zero=>simp [za3,zix hz,List.range_succ_eq_map]
 | succ i=>simp only [List.getElem?_cons_succ,za3,List.getElem?_map,List.range_succ_eq_map,List.map_map,List.map_cons];simp [Function.comp_def,ziy hz]
theorem zqU{R z c:Nat}(hz:z<B)(hR:R<c):R*B+z<c*B:=by
 have h3:(R+1)*B≤c*B:=Nat.mul_le_mul_right _ hR;rw [Nat.add_mul,Nat.one_mul]at h3;omega
theorem zm7{R z k:Nat}(hz:z<B)(hR:R<B^k):R*B+z<B^(1+k):=by
 rw [Nat.add_comm 1 k,Nat.pow_succ];exact zqU hz hR
theorem zkL{F:Fence}{n:Nat}{P:Program}{w:World}{ops:Array Oper}{rest:List Oper}{o:Oper}{a:Act}{Q:Exit→Act→World→Prop}
  (hg:o.guard=none) (x y:Operand) (ts:Array TypeId) (hop:o.op=Op.call {callee:=Callee.builtin Builtin.min,args:=#[x,y],argTypes:=ts}) (k:IntKind) (X Y Z:Int) (hx:a.eval x = .int k X) (hy:a.eval y = .int k Y) (hz:(if Y<X then Y else X)=Z)
  (h:wpListIn F n P ops Q rest (a.put o.dst (.int k Z)) w):wpListIn F n P ops Q (o :: rest) a w:=by
 refine wpListIn_plain hg fun K hK => ?_
 unfold Oper.wpIn;refine⟨by simp [Oper.about,hop,resolve,Target.leads,Sem.run_pure],?_⟩;rw [Oper.semAt_plain F _ _ (by rw [hop];intro c hc';cases hc')];simp [execOp,hop,resolve,invoke,builtin,Builtin.min_,Builtin.min2,hx,hy,Sem.run_pure,hz]
 exact hK _ _ h
theorem zkM{F:Fence}{n:Nat}{P:Program}{w:World}{ops:Array Oper}{rest:List Oper}{o:Oper}{a:Act}{Q:Exit→Act→World→Prop}
  (hg:o.guard=none) (x y:Operand) (ts:Array TypeId) (hop:o.op=Op.call {callee:=Callee.builtin Builtin.max,args:=#[x,y],argTypes:=ts}) (k:IntKind) (X Y Z:Int) (hx:a.eval x = .int k X) (hy:a.eval y = .int k Y) (hz:(if Y>X then Y else X)=Z)
  (h:wpListIn F n P ops Q rest (a.put o.dst (.int k Z)) w):wpListIn F n P ops Q (o :: rest) a w:=by
 refine wpListIn_plain hg fun K hK => ?_
 unfold Oper.wpIn;refine⟨by simp [Oper.about,hop,resolve,Target.leads,Sem.run_pure],?_⟩;rw [Oper.semAt_plain F _ _ (by rw [hop];intro c hc';cases hc')];simp [execOp,hop,resolve,invoke,builtin,Builtin.max_,Builtin.max2,hx,hy,Sem.run_pure,hz]
 exact hK _ _ h
theorem zrl{F:Fence}{n:Nat}{P:Program}{w:World}{ops:Array Oper}{rest:List Oper}{a:Act}{Q:Exit→Act→World→Prop}{dst:Option Tmp}{ty:TypeId}{ps:String}{af:Array Edge}{gd:Option (Nat × Bool)}{xs:Array Operand}{ts:Array TypeId}
  (h:Stop (wpListIn F n P ops Q ({dst:=dst,op:=Op.call {callee:=Callee.builtin Builtin.min,args:=xs,argTypes:=ts},type:=ty,pos:=ps,after:=af,guard:=gd} :: rest) a w)) :
  wpListIn F n P ops Q ({dst:=dst,op:=Op.call {callee:=Callee.builtin Builtin.min,args:=xs,argTypes:=ts},type:=ty,pos:=ps,after:=af,guard:=gd} :: rest) a w:=h
theorem zeq{x:Nat}(h:x<9223372036854775808):wrap64 (x:Int)=(x:Int):=by
 unfold wrap64;omega
structure DivI(w0 wr:World)(vx vr vy:Value)(A R c g n:Nat)(f:Nat→Value):Prop where
 num:NatI wr vx A
 numNe:A=0∨vx.ownBlock≠some g
 rest:NatI wr vr R
 restNe:R=0∨vr.ownBlock≠some g
 div:NatI wr vy c
 divNe:c=0∨vy.ownBlock≠some g
 arr:zaj wr g n f
 el:Elem wr g 3
 lt:g<wr.heap.size
 below:Below w0.heap.size w0 wr
theorem DivI.step{w0 wr w':World}{vx vr vy:Value}{A R c g n:Nat}{f:Nat→Value}(h:DivI w0 wr vx vr vy A R c g n f)(hb:Below wr.heap.size wr w'):DivI w0 w' vx vr vy A R c g n f:=
 ⟨h.num.below hb,h.numNe,h.rest.below hb,h.restNe,h.div.below hb,h.divNe,h.arr.below h.lt hb,h.el.below hb h.lt,Nat.lt_of_lt_of_le h.lt hb.size,h.below.trans (hb.mono h.below.size)⟩
theorem DivI.with{w0 wr:World}{vx vr vy vr':Value}{A R c g n R':Nat}{f:Nat→Value}(h:DivI w0 wr vx vr vy A R c g n f)(h1:NatI wr vr' R')(h2:R'=0∨vr'.ownBlock≠some g):DivI w0 wr vx vr' vy A R' c g n f:=
 ⟨h.num,h.numNe,h1,h2,h.div,h.divNe,h.arr,h.el,h.lt,h.below⟩
theorem NatI.setCell'{w:World}{v:Value}{x g i:Nat}(h:NatI w v x)(hne:x=0∨v.ownBlock≠some g)(u:Value):NatI (w.setCell ⟨g,i,none⟩ u) v x:=by
 rcases hne with rfl|hne
 ·obtain⟨k,hk,hl⟩:=h;have hk0:k=0:=hk.unique zbC;subst hk0;rcases hl with h|⟨a,cap,rfl,h2,_⟩
  ·exact⟨0,hk,.inl h⟩
  ·omega
 ·exact h.setCell hne u
theorem DivI.set{w0 wr:World}{vx vr vy:Value}{A R c g n:Nat}{f:Nat→Value}(h:DivI w0 wr vx vr vy A R c g n f){i:Nat}(hi:i<n)(hg:w0.heap.size≤g)(u:Value){f':Nat→Value}(hf:∀j,j<n→(if j=i then u else f j)=f' j):DivI w0 (wr.setCell ⟨g,i,none⟩ u) vx vr vy A R c g n f':=
 ⟨h.num.setCell' h.numNe u,h.numNe,h.rest.setCell' h.restNe u,h.restNe,h.div.setCell' h.divNe u,h.divNe,zaj.congr (h.arr.set hi u) hf,h.el.setCell _ _,by rw [show(wr.setCell ⟨g,i,none⟩ u).heap.size=wr.heap.size by simp [World.setCell]];exact h.lt,h.below.setCell hg _⟩
theorem NatI.lt'{w:World}{v:Value}{x:Nat}(h:NatI w v x){g:Nat}(hg:w.heap.size≤g):x=0∨v.ownBlock≠some g:=by
 rcases Nat.eq_zero_or_pos x with h0|h0
 ·exact .inl h0
 ·exact .inr (h.lt h0 g hg)
theorem zc1.ne'{b g:Nat}{v:Value}(h:zc1 b v)(hg:g<b)(x:Nat):x=0∨v.ownBlock≠some g:=.inr fun e=>by have:=h _ e;omega
theorem zrI{T c l top h n:Nat}(hc:0<c)(hT:c≤T)(htop:limb c l=top)(hcl:c<B^(l+1))(hh:T/B^l=h)(hn:n=max 1 (min 999999999 (h/(top+1)))):1≤n∧n≤999999999∧n*c≤T:=by
 refine⟨by omega,by omega,?_⟩;have hct:c<(top+1)*B^(l+1-1):=by
  have h1:=za8 c l;rw [zbc hcl,htop]at h1;have h2:=zcr c l;rw [Nat.add_sub_cancel,Nat.add_mul,Nat.one_mul,Nat.mul_comm top];omega
 have hg:=zrJ (R:=T) hc hct;rw [Nat.add_sub_cancel,hh]at hg;rcases Nat.eq_zero_or_pos (h/(top+1))with h0|h0
 ·have:n=1:=by omega
  subst this;omega
 ·exact Nat.le_trans (Nat.mul_le_mul_right c (by omega)) hg
theorem append_cons{F:Fence}{n:Nat}(wr:World){ops:Array Oper}{rest:List Oper}{o:Oper}{a:Act}{Q:Exit→Act→World→Prop}
  (hg:o.guard=none) (s x:Operand) (hop:o.op=Op.call {callee:=Callee.builtin Builtin.append,args:=#[s,x],argTypes:=#[30,30]})
  (z R k:Nat) (hz:z<B) (hs:a.eval s = .slice (some ⟨wr.heap.size,0,none⟩) 1 1) (vr:Value) (hx:a.eval x=vr) (hR:zbP wr vr R k) (hk:k≤400000000) (zz:Int) (hzz:zz=(z:Int))
  (hK:∀v' w',zbP w' v' (R*B+z) (1+k)→zc1 wr.heap.size v'→Below wr.heap.size wr w'→wpListIn F n Tryz.prog ops Q rest (a.put o.dst v') w') :
  wpListIn F n Tryz.prog ops Q (o :: rest) a (wr.alloc (.cells #[.int .i64 zz] 3)):=by
 subst hzz;obtain⟨W,hW⟩:∃W,W=wr.alloc (.cells #[.int .i64 (z:Int)] 3):=⟨_,rfl⟩;have hb:Below wr.heap.size wr W:=by rw [hW];exact zaa _ _
 have hown:W.ownsRow wr.heap.size 3 1 (.slice (some ⟨wr.heap.size,0,none⟩) 1 1) 1 [.int .i64 (z:Int)]:=by rw [hW];exact World.ownsRow_lit wr #[.int .i64 (z:Int)] 1 (Nat.le_refl _) (by unfold maxLen;omega) (by simp)
 have h0:[Value.int .i64 (z:Int)]=za3 (R*B+z) 1:=zhO (k:=0) hz;rw [←hW];rcases Nat.eq_zero_or_pos k with hk0|hk0
 ·subst hk0;obtain⟨o1,c1,rfl,_⟩:=hR.form;refine zch _ hg _ _ _ hop _ Tryz.t3 Go.Num.u30 zd0 wr.heap.size 0 1 1 (Nat.le_refl _) hs o1 c1 hx ?_;rw [h0]at hown;exact hK _ _ (zbA hown (by omega)) (fun k hk=>by have q:wr.heap.size=k:=(by simpa [Value.ownBlock]using hk);omega) hb
 ·obtain⟨o1,c1,rfl,h1⟩:=hR.form;obtain⟨a1,rfl,ha1,hc1⟩:=h1 hk0;refine wpListIn_append_own _ hg s x 30 hop wr.heap.size 3 Tryz.t3 _ 1 8 Go.Num.u30 zd0 zfl zev zd1 rfl (by decide) _ 1 _ hs hown a1 k c1 (za3 R k) hx (by simp [za3]) ?_ ?_ (by unfold maxLen;omega) (by omega) hb.size ?_
  ·intro j u hu;have hj:j<k:=by
    have:=(List.getElem?_eq_some_iff.1 hu).1;simpa [za3]using this
   rw [hb.cell (p:=a1.add j) (by rw [zac];exact ha1),hc1 j hj,←hu];simp [za3,hj]
  ·intro u hu;unfold za3 at hu;obtain⟨i,_,rfl⟩:=List.mem_map.1 hu;rfl
  ·intro v' w' h1 h2 _;have e:[Value.int .i64 (z:Int)] ++ za3 R k=za3 (R*B+z) (1+k):=by rw [Nat.add_comm 1 k,←zhO hz];rfl
   rw [e]at h1;exact hK v' w' (zbA h1 (by omega)) (fun k hk=>zbU h1 hk) (hb.grown h2 hb.size fun k hk=>zbU hown hk)
theorem zjn(w:World)(va vb:Value)(x y L:Nat)(ha:NatI w va x)(hb:NatI w vb y)(hy:0<y)(hx:x<B^L)(hyL:y<B^L)(hL:L≤10000000) :
  CallsIn Fence.wide 0 Tryz.prog 151 #[va,vb] w fun e w'=>∃vq vr,e = .returned (.tuple #[vq,vr])∧(NatI w' vq (x/y)∧zc1 w.heap.size vq)∧NatI w' vr (x%y)∧Below w.heap.size w w':=by
 have HA:=zHi ha;have HB:=zHi hb;have HX:=zHi hx;have HY:=zHi hyL;clear hx hyL;obtain⟨l,hl⟩:∃l,zcq y (l+1):=by
  obtain⟨k,hk,_⟩:=hb;rcases Nat.eq_zero_or_pos k with h|h
  ·subst h;exact absurd hk.zero (by omega)
  ·exact⟨k-1,by rw [Nat.sub_add_cancel h];exact hk⟩
 have hlb:=hb.limbs hl;have hlL:=hl.le HY.out;have tg:=zkS hl;have ht:=hl.top;have htB:=zaA y l;obtain⟨o2,c2,rfl,h2⟩:=hlb.form;obtain⟨a2,rfl,ha2,hc2⟩:=h2 (by omega);have hc0:=hc2 l (by omega);obtain⟨t,hts⟩:∃t,limb y l=t:=⟨_,rfl⟩;rw [hts]at tg ht htB hc0;obtain⟨d,hd⟩:∃d,B/(t+1)=d:=⟨_,rfl⟩;have ed:(1000000000:Int)/((t:Int)+1)=(d:Int):=by rw [←hd];simp [B]
 have ed2:Int.tdiv (1000000000:Int) ((t:Int)+1)=(d:Int):=by rw [←hd];rfl
 rw [hd]at tg;have hBB:B=1000000000:=rfl;have hd0:=tg.2.1;have hdB:=tg.2.2.1;rw [hBB]at htB;obtain⟨c,hcc⟩:∃c,y*d=c:=⟨_,rfl⟩;obtain⟨A,hAA⟩:∃A,x*d=A:=⟨_,rfl⟩;have hsc:A/c=x/y∧A%c/d=x%y:=by rw [←hcc,←hAA];exact zk8 hd0
 rw [hcc]at tg;have HTG:=zHi tg;have HSC:=zHi hsc;have HCC:=zHi hcc;have HAA:=zHi hAA;have hcpos:0<c:=by rw [←hcc];exact Nat.mul_pos hy hd0
 have hAL:A<B^(L+1):=by rw [←hAA];exact zaK HX.out (by rw [Nat.pow_one];exact hdB)
 have hcL:c<B^(L+1):=Nat.lt_of_lt_of_le tg.1.1 (zag (by omega));have HAL:=zHi hAL;have HCL:=zHi hcL;have HT0:=zHi (zeu w va x d L ha HX.out (by omega) hdB);have HT1:=fun (w1:World) (h:Below w.heap.size w w1)=>zHi (zeu w1 _ y d L (hb.below h) HY.out (by omega) hdB)
 clear hts hd hcc hAA hsc tg hlb hl hc2 h2 hAL hcL ha hb;refine callsIn_of_wp Tryz.func151 rfl trivial ?_ rfl;simp only [Tryz.ntmps151,ztH,ztI,ztJ,Nat.reduceAdd,Nat.reduceSub,ztK,ztL,ztM,ztN,ztO,ztP];gi_wp2_with (gi_at_call 173;refine stop ?_)
 unfold Stop;refine HT0.out.mono ?_;rintro e w1 ⟨v7,rfl,⟨hm,_⟩,hB1⟩;rw [HAA.out]at hm;have HM7:=zHi hm;have HB1:=zHi hB1;clear hm hB1 HT0;gi_wp2_with (gi_at_call 173;refine stop ?_)
 refine(HT1 w1 HB1.out).out.mono ?_;rintro e w2 ⟨v8,rfl,⟨hm,_⟩,hB2⟩;rw [HCC.out]at hm;have hm2:=hm.limbs HTG.out.1;obtain⟨o8,c8,rfl,h8⟩:=hm2.form;obtain⟨a8,rfl,ha8,hc8⟩:=h8 (by omega);have hct:=hc8 l (by omega);have HMC:=zHi hm;obtain⟨kA,hkA,hlA⟩:=HM7.out.below hB2;obtain⟨o7,c7,rfl,h7⟩:=hlA.form;have hkAL:=hkA.le HAL.out;have HKA:=zHi hkA;have HM72:=zHi (HM7.out.below hB2);have HB2:=zBt HB1 hB2;obtain⟨top,htop⟩:∃top,limb c l=top:=⟨_,rfl⟩;rw [htop]at hct;have HTOP:=zHi htop;have htopB:top<1000000000:=by rw [←htop];exact zaA c l
 clear hm hB2 hm2 h8 hc8 hkA hlA h7 HM7 htop ed ed2 hc0 HT1;gi_wp2_with (gi_at_make;refine stop ?_)
 unfold Stop;obtain⟨hi,hhi⟩:∃hi,top+1=hi:=⟨_,rfl⟩;rw [show((top:Int)+1)=(hi:Int)by omega];have HHI:=zHi hhi.symm;refine zaL _ rfl _ _ _ rfl w2.heap.size 3 Tryz.t3 _ 1 Go.Num.u30 zd0 zfl zev _ _ _ _ kA rfl rfl (by omega) (by omega) (by rw [zd1];omega) (by unfold maxLen;omega) (Nat.le_refl _) ?_;intro W4 hown hgrow;obtain⟨g,hg'⟩:∃g,w2.heap.size=g:=⟨_,rfl⟩;have hB34:Below w2.heap.size w2 W4:=(Below.refl _ w2).grown hgrow (Nat.le_refl _) (fun _ h=>by cases h);have hE4:Elem W4 g 3:=by rw [←hg'];exact zcF hown
 have HK4:Hid (DivI w W4 (.slice o7 kA c7) (.slice none 0 0) (.slice (some a8) (l+1) c8) A 0 c g kA fun i => .int .i64 ((topL (A/c) kA i:Nat):Int)):=by
  refine⟨HM72.out.below hB34,HM72.out.lt' (by omega),zkd _ _ _,.inl rfl,HMC.out.below hB34,HMC.out.lt' (by omega),?_,hE4,hE4.lt,HB2.out.trans (hB34.mono HB2.out.size)⟩;rw [←hg'];exact zaj.of_row hown fun i hi=>by unfold topL;rw [if_neg (by omega)];exact zfs (by omega)
 have hg:w.heap.size≤g:=by have:=HB2.out.size;omega
 rw [hg'];clear hown hgrow hg' hB34 HM72 HMC hct hE4 HB2;gi_wp2;gi_loopw [11,12] (fun v11 iv wr=>∃(i0:Int) (R:Nat),-1≤i0∧i0<kA∧iv = .int .i64 i0∧Hid (A/B^(i0+1).toNat%c=R)∧Hid (DivI w wr (.slice o7 kA c7) v11 (.slice (some a8) (l+1) c8) A R c g kA fun j => .int .i64 ((topL (A/c) (i0+1).toNat j:Nat):Int))) (fun _ iv _=>(intOf iv+1).toNat)
 case atStart=>
  refine⟨(kA:Int)-1,0,by omega,by omega,(by first|rfl|(congr 1;omega)),?_,?_⟩
  ·rw [show((kA:Int)-1+1).toNat=kA by omega,Nat.div_eq_of_lt HKA.out.1];exact Nat.zero_mod _
  ·rw [show((kA:Int)-1+1).toNat=kA by omega];exact HK4.out
 case round=>
  obtain⟨i0,R,hi1,hi2,rfl,HRE,HK⟩:=hrel;clear HK4;by_cases h0:0≤i0
  ·obtain⟨m,rfl⟩:∃m:Nat,i0=(m:Int):=⟨i0.toNat,by omega⟩;rw [show((m:Int)+1).toNat=m+1 by omega]at HRE HK;have hmk:m<kA:=by omega
   obtain⟨o7',c7',e7,h7⟩:=(HK.out.num.limbs HKA.out).form;injection e7 with e7 e7' e7'';subst e7;subst e7'';obtain⟨a7,rfl,ha7,hc7⟩:=h7 (by omega);have p7:=hc7 m hmk;obtain⟨z,hz⟩:∃z,limb A m=z:=⟨_,rfl⟩;have hzB:z<B:=by rw [←hz];exact zaA A m
   rw [hz]at p7;have hRc:R<c:=by rw [←HRE.out];exact Nat.mod_lt _ hcpos
   obtain⟨kr,hkr,hlr⟩:=HK.out.rest;have hkrL:kr≤L+1:=hkr.le (Nat.lt_trans hRc HCL.out);have HLR:=zHi hlr;have HKR:=zHi hkr;have HZ:=zHi hz;clear hc7 h7 hlr hkr hz;gi_wp2_with (gi_at_builtin;refine stop ?_)
   unfold Stop;refine append_cons wr rfl _ _ rfl z R kr hzB rfl u11 rfl HLR.out (by omega) _ rfl ?_;intro v5 w5 hl5 hf5 hb5;have HT:=zHi (zbe w5 v5 (R*B+z) (1+kr) hl5 (zm7 hzB HKR.out.1));have HF5:=zHi hf5;have HB5:=zHi hb5;clear hl5 hf5 hb5;gi_wp2_with (gi_at_call 111;refine stop ?_)
   unfold Stop;refine HT.out.mono ?_;rintro e w6 ⟨v6,rfl,⟨hm6,hf6⟩,hb6⟩;obtain⟨S,hS⟩:∃S,R*B+z=S:=⟨_,rfl⟩;have hSc:S<c*B:=by rw [←hS];exact zqU hzB hRc
   rw [hS]at hm6;have HS:=zHi hS;have HK6:Hid (DivI w w6 (.slice (some a7) kA c7) v6 (.slice (some a8) (l+1) c8) A S c g kA fun j => .int .i64 (((if j=m then 0 else topL (A/c) (m+1) j):Nat):Int)):=by
    have h6:=(HK.out.step (HB5.out.trans (hb6.mono HB5.out.size))).with hm6 (zc1.ne' (b:=wr.heap.size) (fun k hk=>HF5.out k (hf6 ▸ hk)) HK.out.lt S);refine⟨h6.num,h6.numNe,h6.rest,h6.restNe,h6.div,h6.divNe,zaj.congr h6.arr fun j _ => ?_,h6.el,h6.lt,h6.below⟩;by_cases e:j=m
    ·subst e;rw [if_pos rfl];unfold topL;rw [if_neg (by omega)]
    ·rw [if_neg e]
   clear hm6 hf6 hb6 hS HT HF5 HB5 HLR HKR p7;gi_wp2;gi_loopw [11] (fun v11 wr=>∃(T t:Nat),Hid (T+t*c=S)∧Hid (DivI w wr (.slice (some a7) kA c7) v11 (.slice (some a8) (l+1) c8) A T c g kA fun j => .int .i64 (((if j=m then t else topL (A/c) (m+1) j):Nat):Int))) (fun v11 wr=>znT wr v11)
   case atStart=>exact⟨S,0,zHi (by omega),HK6.out⟩
   case round=>
    obtain⟨T,t,HTt,HK7⟩:=hrel;clear HK6;obtain⟨kT,hkT,hlT⟩:=HK7.out.rest;obtain⟨o11,c11,rfl,_⟩:=hlT.form;have hkT9:=hlT.small;have HKT:=zHi hkT;have HTc:=zHi (zjr wr _ _ T c HK7.out.rest HK7.out.div);clear hkT hlT;by_cases hTc:T<c
    ·have hq:cmpI T c = -1:=zh9 hTc;rw [hq]at HTc;gi_wp2_with (gi_at_call 127;refine HTc.out.mono ?_;rintro e w8 ⟨rfl,hb8⟩;have HB8:=zHi hb8;clear hb8)
     have hTS:S%c=T∧S/c=t:=by
      rw [←HTt.out];exact⟨by rw [Nat.add_mul_mod_self_right,Nat.mod_eq_of_lt hTc],by rw [Nat.add_mul_div_right _ _ hcpos,Nat.div_eq_of_lt hTc,Nat.zero_add]⟩
     have hrs:=(zfS A c m).1;have hql:=(zru (A:=A) (m:=m) hcpos).1;rw [HRE.out,HZ.out,HS.out]at hrs hql;refine⟨⟨(m:Int)-1,T,by omega,by omega,by go_num,?_,?_⟩,by simp [intOf]⟩
     ·rw [show((m:Int)-1+1).toNat=m by omega];exact zHi (by rw [←hrs,hTS.1])
     ·rw [show((m:Int)-1+1).toNat=m by omega];have h8:=HK7.out.step HB8.out;refine zHi ⟨h8.num,h8.numNe,h8.rest,h8.restNe,h8.div,h8.divNe,zaj.congr h8.arr fun j _ => ?_,h8.el,h8.lt,h8.below⟩;by_cases e:j=m
      ·rw [if_pos e,e];unfold topL;rw [if_pos (Nat.le_refl _),hql,hTS.2]
      ·rw [if_neg e];unfold topL;by_cases e2:m+1≤j
       ·rw [if_pos e2,if_pos (by omega)]
       ·rw [if_neg e2,if_neg (by omega)]
    ·obtain⟨q,hq⟩:∃q,cmpI T c=q:=⟨_,rfl⟩;have hq0:0≤q:=by
      rw [←hq];unfold cmpI;rw [if_neg hTc];split <;> omega
     rw [hq]at HTc;have HK8:∀w8,Below wr.heap.size wr w8→Hid (DivI w w8 (.slice (some a7) kA c7) (.slice o11 kT c11) (.slice (some a8) (l+1) c8) A T c g kA fun j => .int .i64 (((if j=m then t else topL (A/c) (m+1) j):Nat):Int)):=fun w8 h=>HK7.out.step h
     have hSle:T≤S:=by have:=HTt.out;omega
     have hTB:T<c*B:=Nat.lt_of_le_of_lt hSle hSc;have hTp:T<B^(l+2):=by
      have h1:c*B≤B^(l+1)*B:=Nat.mul_le_mul_right _ (Nat.le_of_lt HTG.out.1.1);rw [show B^(l+1)*B=B^(l+2)from(Nat.pow_succ _ _).symm]at h1;omega
     have hkT2:kT≤l+2:=HKT.out.le hTp;have hkT1:l+1≤kT:=by
      apply Classical.byContradiction
      intro hno;have:=zgA HKT.out HTG.out.1 (by omega);omega
     have HTP:=zHi hTp;have HTB:=zHi hTB;clear hTp hTB;gi_wp2_with (gi_at_call 127;refine HTc.out.mono ?_;rintro e w8 ⟨rfl,hb8⟩;have HK8:=HK8 w8 hb8;clear hb8)
     obtain⟨w9,hw9⟩:∃w9,w9=w8:=⟨_,rfl⟩;rw [←hw9];rw [←hw9]at HK8;have HNUM:=zHi HK7.out.rest.num;clear hw9 HK7 HTc;gi_loopw [14,15] (fun hv kv wr=>∃p h:Nat,l≤p∧p≤kT∧kv = .int .i64 ((p:Int)-1)∧hv = .int .i64 (h:Int)∧Hid (T/B^p=h)∧wr=w9) (fun _ kv _=>(intOf kv+1).toNat)
     case atStart=>exact⟨kT,0,by omega,Nat.le_refl _,(by first|rfl|go_num),rfl,Nat.div_eq_of_lt HKT.out.1,rfl⟩
     case round=>
      obtain⟨p,hv0,hp1,hp2,rfl,rfl,HH,rfl⟩:=hrel;by_cases hpm:l+1≤p
      ·obtain⟨p',rfl⟩:∃p',p=p'+1:=⟨p-1,by omega⟩;have hhB:hv0<1000000000:=by
        rw [←HH.out];refine Nat.div_lt_of_lt_mul ?_;have h1:B^(l+2)≤B^(p'+1+1):=zag (by omega);rw [Nat.pow_succ B (p'+1)]at h1;exact Nat.lt_of_lt_of_le HTP.out h1
       have ds:T/B^p'=1000000000*hv0+limb T p':=by rw [zcn T p',HH.out];rfl
       obtain⟨o',c',e',h11⟩:=(HK8.out.rest.limbs HKT.out).form;injection e' with e1 e2 e3;subst e1;subst e3;obtain⟨a11,rfl,ha11,hc11⟩:=h11 (by omega);have p11:=hc11 p' (by omega);obtain⟨lr,hlr⟩:∃lr,limb T p'=lr:=⟨_,rfl⟩;have hlB:lr<1000000000:=by rw [←hlr];exact zaA T p'
       rw [hlr]at p11 ds;have HDS:=zHi ds;clear hc11 hlr ds h11;gi_wp2;exact⟨⟨p',1000000000*hv0+lr,by omega,by omega,by go_num,congrArg (Value.int .i64) (by omega),HDS.out,by first|trivial|rfl⟩,by first|(simp [intOf];done)|(simp [intOf];omega)⟩
      ·have hpm0:l=p:=by omega
       subst hpm0;have htop0:¬(hi:Int)=0:=by omega
       clear hhi;gi_wp2_with (with_reducible refine zrl ?_)
       unfold Stop;obtain⟨N,hN⟩:∃N,max 1 (min 999999999 (hv0/hi))=N:=⟨_,rfl⟩;obtain⟨M,hM⟩:∃M,min 999999999 (hv0/hi)=M:=⟨_,rfl⟩;have htop1:((hv0:Int)/(hi:Int))=((hv0/hi:Nat):Int):=rfl;have hgs:=zrI (n:=N) hcpos (Nat.le_of_not_lt hTc) HTOP.out HTG.out.1.1 HH.out (by rw [←HHI.out,hN]);have hTt:=HTt.out;have hNS:S/c<B:=Nat.div_lt_of_lt_mul hSc;have htN:t+N≤S/c:=by
        rw [Nat.le_div_iff_mul_le hcpos,Nat.add_mul];omega
       have HGS:=zHi hgs;have HTN:=zHi (show t+N<1000000000 from Nat.lt_of_le_of_lt htN hNS);have hN2:=hgs.2.1;have HNB:=zHi (show N<B from Nat.lt_of_le_of_lt hN2 (by unfold B;omega));have hmul1:=zHi (show 0<N*c from Nat.mul_pos hgs.1 hcpos);have htop2:(Int.tdiv (hv0:Int) (hi:Int))=((hv0/hi:Nat):Int):=rfl;have hw:wrap64 ((hv0/hi:Nat):Int)=((hv0/hi:Nat):Int)   := zeq (x:=hv0/hi) (by
        have h1:hv0<1000000000000000000:=by
         rw [←HH.out];refine Nat.div_lt_of_lt_mul ?_;have h2:=HTP.out;rw [Nat.pow_add]at h2;exact h2
        have h3:=Nat.div_le_self hv0 hi;omega)
       refine zkL rfl _ _ _ rfl .i64 _ _ (M:Int) rfl rfl (by rw [htop1,hw,←hM];generalize hv0/hi=G0;split <;> omega) ?_;refine zkM rfl _ _ _ rfl .i64 _ _ (N:Int) rfl rfl (by rw [←hN,hM];split <;> omega) ?_;clear hgs hTt hNS htN hN2 hN hM htop1 htop2 hw htop0 HH;gi_wp2_with (gi_at_call 173;refine stop ?_)
       refine(zeu wr _ c N (L+1) HK8.out.div HCL.out (by omega) HNB.out).mono ?_;rintro e wa ⟨va',rfl,⟨hma,_⟩,hba⟩;have HK9:=zHi (HK8.out.step hba);have HMA:=zHi hma;clear hma hba HK8;gi_wp2_with (gi_at_call 128;refine stop ?_)
       refine(ziT wa _ _ T (c*N) (l+2) HK9.out.rest HMA.out (by rw [Nat.mul_comm];exact HGS.out.2.2) HTP.out (by omega)).mono ?_;rintro e wb ⟨vb',rfl,⟨hmb,hfb⟩,hbb⟩;have HKA2:=zHi ((HK9.out.step hbb).with hmb (zc1.ne' hfb HK9.out.lt _));clear hmb hfb hbb HK9 HMA;have z1:wb.cell? ⟨g,m,none⟩=some (.int .i64 (t:Int)):=(HKA2.out.arr m hmk).1.trans (by rw [if_pos rfl]);have z2:=(HKA2.out.arr m hmk).2;have htN2:=HTN.out;gi_wp2;have hset:=HKA2.out.set hmk hg (.int .i64 ((t:Int)+(N:Int))) (f':=fun j => .int .i64 (((if j=m then t+N else topL (A/c) (m+1) j):Nat):Int)) fun j hj=>by
        by_cases e:j=m
        ·rw [if_pos e,if_pos e];exact congrArg (Value.int .i64) (by omega)
        ·rw [if_neg e,if_neg e,if_neg e]
       refine⟨⟨T-c*N,t+N,zHi ?_,zHi hset⟩,?_⟩
       ·have h1:=HTt.out;have h2:=HGS.out.2.2;rw [Nat.add_mul,Nat.mul_comm c N];omega
       ·rw [hset.rest.num,HNUM.out,Nat.mul_comm c N];have h1:=hmul1.out;omega
  ·have hm1:i0 = -1:=by omega
   subst hm1;have hR0:A%c=R:=by
    have:=HRE.out;simpa using this
   have HR0:=zHi hR0;have HSM:=zHi (zmr wr _ R d HK.out.rest hd0 hdB);clear hR0;gi_wp2_with (gi_at_call 174;refine stop ?_)
   unfold Stop;refine HSM.out.mono ?_;rintro e w5 ⟨vs,rfl,⟨hm,_⟩,hb5⟩;have HM:=zHi hm;have HK5:=zHi (HK.out.step hb5);clear hm hb5 HK HSM;have hlt:A/c<B^kA:=Nat.lt_of_le_of_lt (Nat.div_le_self _ _) HKA.out.1;have hla:zbP w5 (.slice (some ⟨g,0,none⟩) kA kA) (A/c) kA:=by
    rcases Nat.eq_zero_or_pos kA with h|h
    ·subst h;exact .inl ⟨rfl,_,_,rfl⟩
    ·refine zaj.limbsI (zaj.congr HK5.out.arr fun j _ => ?_) h (Nat.le_refl _) ⟨by omega,by omega⟩ HK5.out.el;unfold topL;rw [if_pos (by simp)]
   have HT:=zHi (zbe w5 _ (A/c) kA hla hlt);clear hla hlt;gi_wp2_with (gi_at_call 111;refine stop ?_)
   unfold Stop;refine HT.out.mono ?_;rintro e w6 ⟨vq,rfl,⟨hm,hf⟩,hb6⟩;have HQ:=zHi hm;have HFr:=zHi (zc6 hf hg);have HB6:=zHi hb6;clear hm hf hb6 HT;gi_wp2;all_goals (first|go_returns|go_ret|go_end0)
   refine⟨vq,vs,rfl,⟨?_,HFr.out⟩,?_,HK5.out.below.trans (HB6.out.mono HK5.out.below.size)⟩
   ·rw [←HSC.out.1];exact HQ.out
   ·rw [←HSC.out.2,HR0.out];exact HM.out.below HB6.out
theorem zjo(w:World)(va vb:Value)(x y L:Nat)(ha:NatI w va x)(hb:NatI w vb y)(hy:0<y)(hx:x<B^L)(hyL:y<B^L)(hL:L≤10000000) :
  CallsIn Fence.wide 0 Tryz.prog 151 #[va,vb] w fun e w'=>∃vq vr,e = .returned (.tuple #[vq,vr])∧NatI w' vq (x/y)∧NatI w' vr (x%y)∧Below w.heap.size w w':=
 (zjn w va vb x y L ha hb hy hx hyL hL).mono (fun e w' ⟨vq,vr,h1,h2,h3,h4⟩=>⟨vq,vr,h1,h2.1,h3,h4⟩)
theorem zo5(w:World)(va vb:Value)(x y L:Nat)(ha:NatI w va x)(hb:NatI w vb y)(hx:x<B^L)(hy:y<B^L)(hL:L≤10000000) :
  CallsIn Fence.wide 0 Tryz.prog 112 #[va,vb] w fun e w'=>∃v',e = .returned v'∧NatI w' v' (Nat.gcd x y)∧Below w.heap.size w w':=by
 have HA:=zHi ha;have HB:=zHi hb;have HX:=zHi hx;have HY:=zHi hy;clear ha hb hx hy;refine callsIn_of_wp Tryz.func112 rfl trivial ?_ rfl;simp only [Tryz.ntmps112,ztH,ztI,ztJ,Nat.reduceAdd,Nat.reduceSub,ztK,ztL,ztM,ztN,ztO,ztP];gi_wp2;gi_loopw [0,1] (fun va vb wr=>∃a b:Nat,Hid (NatI wr va a)∧Hid (NatI wr vb b)∧Hid (a<B^L)∧Hid (b<B^L)∧Hid (Nat.gcd a b=Nat.gcd x y)∧Hid (Below w.heap.size w wr)) (fun _ vb wr=>znT wr vb)
 case atStart=>exact⟨x,y,HA.out,HB.out,HX.out,HY.out,zHi rfl,Below.refl _ _⟩
 case round=>
  obtain⟨a,b,HMA,HMB,HLA,HLB,HG,HBr⟩:=hrel;clear HA HB;obtain⟨o,k,c,rfl,hk,hk9⟩:=zaC HMB.out;by_cases hb0:b=0
  ·have hk0:k=0:=hk.2 hb0;subst hk0;subst hb0;clear hk;gi_wp2;all_goals (first|go_returns|go_ret|go_end0)
   refine⟨_,rfl,?_,HBr.out⟩;rw [←HG.out,Nat.gcd_zero_right];exact HMA.out
  ·have hk0:0<k:=by
    rcases Nat.eq_zero_or_pos k with h|h
    ·exact absurd (hk.1 h) hb0
    ·exact h
   have HD:=zHi (zjo wr _ _ a b L HMA.out HMB.out (by omega) HLA.out HLB.out hL);have HN:=zHi HMB.out.num;clear hk;gi_wp2_with (gi_at_call 151;refine HD.out.mono ?_;rintro e w6 ⟨vq,vr,rfl,_,hm6,hB6⟩;have HM6:=zHi hm6;have HB6:=zBt HBr hB6;have HMB6:=zHi (HMB.out.below hB6);clear hm6 hB6)
   refine⟨⟨b,a%b,HMB6.out,HM6.out,HLB.out,?_,?_,HB6.out⟩,?_⟩
   ·exact zHi (Nat.lt_of_lt_of_le (Nat.mod_lt a (by omega)) (Nat.le_of_lt HLB.out))
   ·exact zHi (zn7.symm.trans HG.out)
   ·rw [HM6.out.num,HN.out];exact Nat.mod_lt a (by omega)
def ZAt(w:World)(v:Value)(z:Int):Prop:=∃m,v = .agg #[.bool (decide (z<0)),m]∧NatI w m z.natAbs
theorem ZAt.below{w w':World}{v:Value}{z:Int}(h:ZAt w v z)(hb:Below w.heap.size w w'):ZAt w' v z:=by
 obtain⟨m,e,hm⟩:=h;exact⟨m,e,hm.below hb⟩
theorem zn5(w:World)(neg:Bool)(v:Value)(n:Nat)(h:NatI w v n) :
  CallsIn Fence.wide 0 Tryz.prog 75 #[.bool neg,v] w fun e w'=>∃v',e = .returned v'∧(ZAt w' v' (sgn neg n)∧∃x:Value,v' = .agg #[x,v])∧Below w.heap.size w w':=by
 have HM:=zHi h;obtain⟨o,k,c,rfl,hk,hk9⟩:=zaC h;have HK:=zHi hk;clear h hk;have fin:∀(w':World) (b:Bool),b=decide (sgn neg n<0)→Below w.heap.size w w'→∃v',Ending.returned (Value.agg #[.bool b,.slice o k c]) = .returned v'∧(ZAt w' v' (sgn neg n)∧∃x:Value,v' = .agg #[x,.slice o k c])∧Below w.heap.size w w':=by
  intro w' b hb hB;exact⟨_,rfl,⟨⟨_,by rw [hb],by rw [zbl];exact HM.out.below hB⟩,_,rfl⟩,hB⟩
 have FIN:=zHi fin;clear fin;refine callsIn_of_wp Tryz.func75 rfl trivial ?_ rfl;simp only [Tryz.ntmps75,ztH,ztI,ztJ,Nat.reduceAdd,Nat.reduceSub,ztK,ztL,ztM,ztN,ztO,ztP]
 cases neg with
 | false=>
  have HS:Hid (false=decide (sgn false n<0)):=zHi (decide_eq_false (by rw [zgl];simp)).symm;gi_wp2;all_goals (first|go_returns|go_ret|go_end0)
  exact FIN.out _ _ HS.out (zaa _ _)
 | true=>
  by_cases hk0:k=0
  ·subst hk0;have HS:Hid (false=decide (sgn true n<0)):=zHi (decide_eq_false (by rw [zgl,HK.out.1 rfl];simp)).symm;gi_wp2;all_goals (first|go_returns|go_ret|go_end0)
   exact FIN.out _ _ HS.out (zaa _ _)
  ·have hk1:(0:Int)<(k:Int):=by omega
   have HS:Hid (true=decide (sgn true n<0)):=zHi (decide_eq_true (by rw [zgl];exact⟨rfl,Nat.pos_of_ne_zero fun e=>hk0 (HK.out.2 e)⟩)).symm;gi_wp2;all_goals (first|go_returns|go_ret|go_end0)
   exact FIN.out _ _ (by rw [←HS.out];exact decide_eq_true (by omega)) (zaa _ _)
theorem zdQ(w:World)(neg:Bool)(v:Value)(n:Nat)(h:NatI w v n) :
  CallsIn Fence.wide 0 Tryz.prog 75 #[.bool neg,v] w fun e w'=>∃v',e = .returned v'∧ZAt w' v' (sgn neg n)∧Below w.heap.size w w':=
 (zn5 w neg v n h).mono (fun e w' ⟨v',h1,h2,h3⟩=>⟨v',h1,h2.1,h3⟩)
theorem zfg(w:World)(v:Value)(z:Int)(h:ZAt w v z) :
  CallsIn Fence.wide 0 Tryz.prog 72 #[v] w fun e w'=>e = .returned (.int .i64 z.sign)∧Below w.heap.size w w':=by
 obtain⟨m,rfl,hn⟩:=h;obtain⟨o,k,c,rfl,hk,hk9⟩:=zaC hn;have HK:=zHi hk;clear hn hk;refine callsIn_of_wp Tryz.func72 rfl trivial ?_ rfl;simp only [Tryz.ntmps72,ztH,ztI,ztJ,Nat.reduceAdd,Nat.reduceSub,ztK,ztL,ztM,ztN,ztO,ztP];by_cases h1:z=0
 ·have hs:Hid (z.sign=0):=zHi (by rw [h1];rfl);have hk0:k=0:=HK.out.2 (by rw [h1];rfl);subst hk0;have hd:decide (z<0)=false:=decide_eq_false (by omega);rw [hd];clear hd h1;gi_wp2;all_goals (first|go_returns|go_ret|go_end0)
  exact⟨by rw [hs.out] <;> rfl,zaa _ _⟩
 ·have hk0:¬(k:Int)=0:=by
   intro q;have:=HK.out.1 (by omega);omega
  have hk2:((k:Int) == 0)=false:=by simp;omega
  by_cases h0:z<0
  ·have hs:Hid (z.sign = -1):=zHi (Int.sign_eq_neg_one_of_neg h0);have hd:decide (z<0)=true:=decide_eq_true h0;rw [hd];clear hd h0 h1;gi_wp2;all_goals (first|go_returns|go_ret|go_end0)
   exact⟨by rw [hs.out] <;> rfl,zaa _ _⟩
  ·have hs:Hid (z.sign=1):=zHi (Int.sign_eq_one_of_pos (by omega));have hd:decide (z<0)=false:=decide_eq_false h0;rw [hd];clear hd h0 h1;gi_wp2;all_goals (first|go_returns|go_ret|go_end0)
   exact⟨by rw [hs.out] <;> rfl,zaa _ _⟩
end Go.Num
namespace Go.Eng
open Go.RowKit
def zdK(o:Oper):Bool:=o.guard.isNone && (match o.op with | .defer _=>false | .select .. => false|_=>true)
theorem zql{ops:Array Oper}{p:Plan}(hp:zen ops p):∀(i:Nat) (o:Oper),ops[i]? = some o→∀j,(bsAt p.bs i).testBit j=true→j<i:=by
 intro i;induction i using Nat.strongRecOn with
 | ind i ih=>
  intro o ho j hj;obtain⟨e,h1,h2,h3⟩:=hp.mask i o ho j hj;have h4:=hp.lower i o ho e h1 h2;rcases h3 with rfl|h3
  ·exact h4
  ·have hlt:e.on<ops.size:=by have:=(Array.getElem?_eq_some_iff.1 ho).1;omega
   have:=ih e.on h4 _ (Array.getElem?_eq_getElem hlt) j h3;omega
section
variable {P:Program} {ops:Array Oper} {p:Plan}
theorem zsU{c c':CAct}(h1:c.tmps.size=c'.tmps.size)(h2:∀t,t<c.tmps.size→c.tmps.getD t undef=c'.tmps.getD t undef)(h3:c.defers=c'.defers):c=c':=by
 obtain⟨t,d⟩:=c;obtain⟨t',d'⟩:=c';simp only at h1 h2 h3;subst h3;congr 1
 refine Array.ext h1 fun i hi hi' => ?_
 have:=h2 i hi;simpa [hi,hi']using this
end
def zit(bs bars:List Nat):List Nat→Bool
 | []=>true
 | i :: r=>r.all (fun j => !(bsAt bs i).testBit j && !Nat.beq i j) && (!bars.contains i || r.all fun j=>(bsAt bs j).testBit i) && zit bs bars r
theorem znS{bs bars:List Nat}{i:Nat}{r:List Nat}(h:zit bs bars (i :: r)=true):(∀j∈r,(bsAt bs i).testBit j=false∧i≠j∧(i∈bars→(bsAt bs j).testBit i=true))∧zit bs bars r=true:=by
 simp only [zit,Bool.and_eq_true,List.all_eq_true,Bool.or_eq_true,Bool.not_eq_true']at h;obtain⟨⟨h1,h2⟩,h3⟩:=h;refine⟨fun j hj=>⟨(h1 j hj).1,fun e => ?_,fun hi => ?_⟩,h3⟩
 ·have:=(h1 j hj).2;rw [e,Nat.beq_refl]at this
  cases this
 ·rcases h2 with h2|h2
  ·have:bars.contains i=true:=by simpa using hi
   rw [this]at h2;cases h2
  ·exact h2 j hj
theorem zdN{bs bars:List Nat}:∀{pre:List Nat} {i:Nat} {r:List Nat},zit bs bars (pre ++ i :: r)=true →
  (∀j∈r,(bsAt bs i).testBit j=false∧i≠j∧(i∈bars→(bsAt bs j).testBit i=true))∧(∀j∈pre,(bsAt bs j).testBit i=false∧j≠i∧(j∈bars→(bsAt bs i).testBit j=true))
 | [],i,r,h=>⟨(znS h).1,fun j hj=>by cases hj⟩
 | k :: pre,i,r,h=>by
  obtain⟨h1,h2⟩:=znS h;obtain⟨h3,h4⟩:=zdN (pre:=pre) h2;refine⟨h3,fun j hj => ?_⟩;rcases List.mem_cons.1 hj with rfl|hj
  ·exact h1 i (by simp)
  ·exact h4 j hj
def zmM(bs:List Nat)(n i:Nat):Bool:=(List.range n).all fun j=>Nat.beq i j || ((bsAt bs i).testBit j || (bsAt bs j).testBit i)
def zkl(bs ks:List Nat)(n i:Nat):Bool:=(List.range n).all fun j=>Nat.beq i j || ((bsAt bs i).testBit j || (bsAt bs j).testBit i || ks.contains j)
theorem zrA{bs ks:List Nat}{n i:Nat}(h:zmM bs n i=true):zkl bs ks n i=true:=by
 unfold zmM at h;unfold zkl;rw [List.all_eq_true]at h ⊢;intro j hj;have:=h j hj;rw [Bool.or_eq_true]at this ⊢;exact this.imp id (fun q=>by rw [q];rfl)
def OWK(K:World→Prop)(ks:List Nat)(P:Program)(ro:Option Nat)(ops:Array Oper)(bs bars:List Nat)(Q:CAct→World→Prop):List Nat→CAct→World→Prop
 | [],a,w=>Q a w
 | i :: r,a,w=>∃o,ops[i]? = some o ∧
   ((bars.contains i=true ∧
     ((∃f args,(execOp a.eval o).run P w = .ok (.enter f args) w∧CallsIn (Fz ro) 0 P f args w fun e w'=>∃v,e = .returned v∧((zkl bs ks ops.size i=true∧K w')∨Below w.heap.size w w')∧OWK K ks P ro ops bs bars Q r (a.put o.dst v) w') ∨
      (∃w' v,((execOp a.eval o).run P w = .ok (.value v) w'∨((execOp a.eval o).run P w = .ok .skip w'∧v=undef))∧((zkl bs ks ops.size i=true∧K w')∨Below w.heap.size w w')∧OWK K ks P ro ops bs bars Q r (a.put o.dst v) w'))) ∨
    (bars.contains i=false∧∃v,(∀w',(Below w.heap.size w w'∨(ks.contains i=true∧K w'))→(execOp a.eval o).run P w' = .ok (.value v) w')∧OWK K ks P ro ops bs bars Q r (a.put o.dst v) w))
abbrev OW(P:Program)(ro:Option Nat)(ops:Array Oper)(bs bars:List Nat)(Q:CAct→World→Prop):List Nat→CAct→World→Prop:=OWK (fun _=>True) [] P ro ops bs bars Q
section
variable {P:Program} {ops:Array Oper} {p:Plan}
def ziH(ops:Array Oper)(p:Plan)(val:Nat→Value)(a:CAct)(i:Nat)(o:Oper)(c:CAct):Prop:=
 ∀t∈zgI o,(∀j q,(bsAt p.bs i).testBit j=true→ops[j]? = some q→q.dst=some t→c.tmps.getD t undef=val j) ∧
  ((∀j q,(bsAt p.bs i).testBit j=true→ops[j]? = some q→q.dst≠some t)→c.tmps.getD t undef=a.tmps.getD t undef)
theorem ziH.eval{val:Nat→Value}{a:CAct}{i:Nat}{o:Oper}{c c':CAct}(h:ziH ops p val a i o c)(h':ziH ops p val a i o c'):∀x∈o.op.operands,c.eval x=c'.eval x:=by
 intro x hx
 cases x with
 | tmp t=>
  have hmem:t∈zgI o:=by
   unfold zgI;rw [List.mem_filterMap];exact⟨.tmp t,by simpa using hx,rfl⟩
  show c.tmps.getD t undef=c'.tmps.getD t undef
  by_cases hw:∃(j:Nat) (q:Oper),(bsAt p.bs i).testBit j=true∧ops[j]? = some q∧q.dst=some t
  ·obtain⟨j,q,h1,h2,h3⟩:=hw;rw [(h t hmem).1 j q h1 h2 h3,(h' t hmem).1 j q h1 h2 h3]
  ·have hno:∀j q,(bsAt p.bs i).testBit j=true→ops[j]? = some q→q.dst≠some t:=fun j q h1 h2 h3=>hw ⟨j,q,h1,h2,h3⟩
   rw [(h t hmem).2 hno,(h' t hmem).2 hno]
 | const u=>rfl
 | global g=>rfl
 | func f=>rfl
structure Core(K:World→Prop)(ks:List Nat)(P:Program)(ro:Option Nat)(ops:Array Oper)(p:Plan)(bars:List Nat)(Q:CAct→World→Prop)(a:CAct)(ord done rest:List Nat)(val:Nat→Value)(g:CAct)(listed:Array Bool)(w:World):Prop where
 ord:done ++ rest=ord
 size:g.tmps.size=a.tmps.size
 defers:g.defers=a.defers
 gW:∀j∈done,∀o d,ops[j]? = some o→o.dst=some d→g.tmps.getD d undef=val j
 g0:∀t,(∀j∈done,∀o,ops[j]? = some o→o.dst≠some t)→g.tmps.getD t undef=a.tmps.getD t undef
 quiet:∀i∈done,¬Did listed i→∀o,ops[i]? = some o→i∉bars∧∀c:CAct,ziH ops p val a i o c→∀w',(Below w.heap.size w w'∨(ks.contains i=true∧K w'))→(execOp c.eval o).run P w' = .ok (.value (val i)) w'
 cont:OWK K ks P ro ops p.bs bars Q rest g w
theorem zjq{K:World→Prop}{ks:List Nat}{ro:Option Nat}{bars:List Nat}{Q:CAct→World→Prop}{a:CAct}{ord done r:List Nat}{i:Nat}{val:Nat→Value}{g:CAct}{listed:Array Bool}{w:World}(hp:zen ops p)(hord:zit p.bs bars ord=true)(hall:∀i,i<ops.size→i∈ord)
  (hC:Core K ks P ro ops p bars Q a ord done (i :: r) val g listed w) {o:Oper} (ho:ops[i]? = some o):ziH ops p val a i o g:=by
 have hs:=hC.ord ▸ hord;obtain⟨h1,h2⟩:=zdN hs;intro t ht;refine⟨fun j q hj hq hd => ?_,fun hno => ?_⟩
 ·refine hC.gW j ?_ q t hq hd;have hjo:j∈ord:=hall j (Array.getElem?_eq_some_iff.1 hq).1;rw [←hC.ord]at hjo;rcases List.mem_append.1 hjo with h|h
  ·exact h
  ·rcases List.mem_cons.1 h with rfl|h
   ·have:=zql hp j o ho j hj;omega
   ·have:=(h1 j h).1;rw [hj]at this;cases this
 ·refine hC.g0 t fun j hj q hq hd => ?_
  rcases hp.reads i j o q t ho hq hd ht with rfl|hb|hb
  ·exact(h2 i hj).2.1 rfl
  ·exact hno j q hb hq hd
  ·have:=(h2 j hj).1;rw [hb]at this;cases this
def upd(val:Nat→Value)(i:Nat)(v:Value):Nat→Value:=fun k=>if k=i then v else val k
theorem zjI(val:Nat→Value)(i:Nat)(v:Value):upd val i v i=v:=if_pos rfl
theorem zkQ(val:Nat→Value)(i:Nat)(v:Value){k:Nat}(h:k≠i):upd val i v k=val k:=if_neg h
theorem zom{K:World→Prop}{ks:List Nat}{ro:Option Nat}{bars:List Nat}{Q:CAct→World→Prop}{a:CAct}{ord done r:List Nat}{i:Nat}{val:Nat→Value}{g:CAct}{listed listed':Array Bool}{w w':World}(hp:zen ops p)(hord:zit p.bs bars ord=true)
  (hdst:∀o∈ops.toList,∀d,o.dst=some d→d<a.tmps.size)
  (hC:Core K ks P ro ops p bars Q a ord done (i :: r) val g listed w) {o:Oper} (ho:ops[i]? = some o) (v:Value) (hcont:OWK K ks P ro ops p.bs bars Q r (g.put o.dst v) w')
  (hq:∀j∈done,¬Did listed' j→∀q,ops[j]? = some q→j∉bars∧∀c:CAct,ziH ops p val a j q c→∀w2,(Below w'.heap.size w' w2∨(ks.contains j=true∧K w2))→(execOp c.eval q).run P w2 = .ok (.value (val j)) w2)
  (hi:¬Did listed' i→i∉bars∧∀c:CAct,ziH ops p val a i o c→∀w2,(Below w'.heap.size w' w2∨(ks.contains i=true∧K w2))→(execOp c.eval o).run P w2 = .ok (.value v) w2) :
  Core K ks P ro ops p bars Q a ord (done ++ [i]) r (upd val i v) (g.put o.dst v) listed' w':=by
 have hs:=hC.ord ▸ hord;obtain⟨h1,h2⟩:=zdN hs;have hom:o∈ops.toList:=List.mem_of_getElem? (by simpa using ho);have hagree:∀j q c,(bsAt p.bs j).testBit i=false→ziH ops p (upd val i v) a j q c→ziH ops p val a j q c:=by
  intro j q c hji hA t ht;refine⟨fun k q' hk hq' hd => ?_,(hA t ht).2⟩;have:=(hA t ht).1 k q' hk hq' hd;rw [zkQ _ _ _ (fun e=>by rw [e]at hk;rw [hk]at hji;cases hji)]at this;exact this
 refine⟨by rw [←hC.ord];simp,by rw [zg2];exact hC.size,by rw [zgo];exact hC.defers,?_,?_,?_,hcont⟩
 ·intro j hj q d hq' hd;by_cases hji:j=i
  ·subst hji;rw [ho]at hq';cases hq';rw [zjI,hd,zg3 (by rw [hC.size];exact hdst o hom d hd)]
  ·rw [zkQ _ _ _ hji,zdi (fun e=>hji (hp.dsts j i q o d hq' ho hd e))];rcases List.mem_append.1 hj with h|h
   ·exact hC.gW j h q d hq' hd
   ·simp at h;exact absurd h hji
 ·intro t ht;rw [zdi (ht i (by simp) o ho)];exact hC.g0 t fun j hj q hq'=>ht j (by simp [hj]) q hq'
 ·intro j hj hnd q hq';rcases List.mem_append.1 hj with h|h
  ·have hji:=h2 j h;rw [zkQ _ _ _ hji.2.1];obtain⟨h3,h4⟩:=hq j h hnd q hq';exact⟨h3,fun c hA=>h4 c (hagree j q c hji.1 hA)⟩
  ·have hji:j=i:=by simpa using h
   subst hji;rw [ho]at hq';cases hq';rw [zjI];obtain⟨h3,h4⟩:=hi hnd;refine⟨h3,fun c hA=>h4 c (hagree j o c ?_ hA)⟩
   cases e:(bsAt p.bs j).testBit j with
   | false=>rfl
   | true=>have:=zql hp j o ho j e;omega
theorem zeR{K:World→Prop}{ks:List Nat}{ro:Option Nat}{bars:List Nat}{Q:CAct→World→Prop}{a:CAct}{ord:List Nat}{listed:Array Bool}{w:World}(hp:zen ops p)(hord:zit p.bs bars ord=true)(hall:∀i,i<ops.size→i∈ord)
  (hnosel:∀o∈ops.toList,∀cs b,o.op ≠ .select cs b) (hdst:∀o∈ops.toList,∀d,o.dst=some d→d<a.tmps.size) :
  ∀(rest done:List Nat) (val:Nat→Value) (g:CAct),Core K ks P ro ops p bars Q a ord done rest val g listed w →
   ∃done' rest' val' g',Core K ks P ro ops p bars Q a ord done' rest' val' g' listed w∧(∀e r,rest'=e :: r→e∈bars)∧(∀j,j∈done→j∈done'∧val' j=val j)∧(∀j,j∈done'→j∈bars→j∈done)
 | [],done,val,g,hC=>⟨done,[],val,g,hC,fun e r h=>(by cases h),fun j hj=>⟨hj,rfl⟩,fun j hj _=>hj⟩
 | i :: r,done,val,g,hC=>by
  obtain⟨o,ho,hh⟩:=hC.cont;rcases hh with⟨hb,hh⟩|⟨hb,v,hv,hcont⟩
  ·exact⟨done,i :: r,val,g,hC,fun e r' h=>by injection h with h1 h2;subst h1;simpa using hb,fun j hj=>⟨hj,rfl⟩,fun j hj _=>hj⟩
  ·have hs:=hC.ord ▸ hord;obtain⟨h1,h2⟩:=zdN hs;have hnb:i∉bars:=by intro h;rw [show bars.contains i=true by simpa using h]at hb;cases hb
   have hA:=zjq hp hord hall hC ho;have hom:o∈ops.toList:=List.mem_of_getElem? (by simpa using ho);have hC':=zom hp hord hdst hC ho v hcont hC.quiet (listed':=listed) (fun _=>⟨hnb,fun c hAc w2 hb2=>by
    rw [execOp_congr o (hnosel o hom) (hAc.eval hA)];exact hv w2 hb2⟩)
   obtain⟨done',rest',val',g',k1,k2,k3,k4⟩:=zeR hp hord hall hnosel hdst r (done ++ [i]) _ _ hC';refine⟨done',rest',val',g',k1,k2,fun j hj => ?_,fun j hj hjb => ?_⟩
   ·obtain⟨h3,h4⟩:=k3 j (by simp [hj]);refine⟨h3,?_⟩;rw [h4,zkQ _ _ _ (h2 j hj).2.1]
   ·have:=k4 j hj hjb;rcases List.mem_append.1 this with h|h
    ·exact h
    ·have:j=i:=by simpa using h
     subst this;exact absurd hjb hnb
structure EInv(K:World→Prop)(ks:List Nat)(P:Program)(ro:Option Nat)(ops:Array Oper)(p:Plan)(bars:List Nat)(Q:CAct→World→Prop)(a:CAct)(ord done rest:List Nat)(val:Nat→Value)(g:CAct)(listed:Array Bool)(c:CAct)(w:World):Prop where
 core:Core K ks P ro ops p bars Q a ord done rest val g listed w
 kw:K w
 head:∀e r,rest=e :: r→e∈bars
 lsize:listed.size=ops.size
 closed:∀i j,Did listed i→(bsAt p.bs i).testBit j=true→Did listed j
 sub:∀j,Did listed j→j∈done
 cdefers:c.defers=a.defers
 csize:c.tmps.size=a.tmps.size
 cW:∀j o d,Did listed j→ops[j]? = some o→o.dst=some d→c.tmps.getD d undef=val j
 c0:∀t,(∀j o,Did listed j→ops[j]? = some o→o.dst≠some t)→c.tmps.getD t undef=a.tmps.getD t undef
theorem ztc{K:World→Prop}{ks:List Nat}(hKB:∀w w',K w→Below w.heap.size w w'→K w')(hp:zen ops p){bars ord:List Nat}(hord:zit p.bs bars ord=true)(hall:∀i,i<ops.size→i∈ord)(hlt:∀i∈ord,i<ops.size)(hpl:∀o∈ops.toList,zdK o=true){a:CAct}{ro:Option Nat}{Q:Exit→CAct→World→Prop}
  (hdst:∀o∈ops.toList,∀d,o.dst=some d→d<a.tmps.size) :
  ∀(fuel:Nat) (done rest:List Nat) (val:Nat→Value) (g:CAct) (listed:Array Bool) (c:CAct) (w:World),EInv K ks P ro ops p bars (fun a' w'=>Q .normal a' w') a ord done rest val g listed c w→cntF (fun i=>listed.getD i false) ops.size≤fuel→wpAnyIn (Fz ro) 0 P .any ops Q fuel listed c w:=by
 have hnosel:∀o∈ops.toList,∀cs b,o.op ≠ .select cs b:=by
  intro o ho cs b e;have:=hpl o ho;simp only [zdK,Bool.and_eq_true]at this;rw [e]at this
  cases this.2
 have fin:∀{done rest val g listed c w},EInv K ks P ro ops p bars (fun a' w'=>Q .normal a' w') a ord done rest val g listed c w→Region.ready .any ops listed = []→Q .normal c w:=by
  intro done rest val g listed c w hI hr;have hdid:=zld hp hI.lsize hr;have hrest:rest = []:=by
   cases hre:rest with
   | nil=>rfl
   | cons e r=>
    exfalso;have hC:=hI.core;rw [hre]at hC;have heo:e∈ord:=by rw [←hC.ord];simp
    have hs:=hC.ord ▸ hord;have:=(zdN hs).2 e (hI.sub e (hdid e (hlt e heo)));exact this.2.1 rfl
  subst hrest;have hQ:=hI.core.cont;have hcg:c=g:=by
   refine zsU (by rw [hI.csize,hI.core.size]) (fun t ht => ?_) (by rw [hI.cdefers,hI.core.defers]);by_cases hw:∃(j:Nat) (o:Oper),ops[j]? = some o∧o.dst=some t
   ·obtain⟨j,o,ho,hod⟩:=hw;have hj:=hdid j (Array.getElem?_eq_some_iff.1 ho).1;rw [hI.cW j o t hj ho hod,hI.core.gW j (hI.sub j hj) o t ho hod]
   ·rw [hI.c0 t (fun j o _ ho hod=>hw ⟨j,o,ho,hod⟩),hI.core.g0 t (fun j _ o ho hod=>hw ⟨j,o,ho,hod⟩)]
  rw [hcg];exact hQ
 intro fuel;induction fuel with
 | zero=>
  intro done rest val g listed c w hI hcnt;have hz:cntF (fun i=>listed.getD i false) ops.size=0:=by omega
  have hal:=zh8 hz;have hr:Region.ready .any ops listed = []:=by
   cases hq:Region.ready .any ops listed with
   | nil=>rfl
   | cons i r=>
    have:=ze1 hI.lsize (i:=i) (by rw [hq];simp);exact absurd (hal i this.1) this.2.1
  exact⟨hr,fin hI hr⟩
 | succ fuel ih=>
  intro done rest val g listed c w hI hcnt;refine⟨fin hI,?_⟩;intro i hi;obtain⟨hin,hnd,o,ho,hedges⟩:=ze1 hI.lsize hi;have hready:=znV hp hI.closed ho hedges;have hol:ops.toList[i]? = some o:=by simpa using ho
  have hom:o∈ops.toList:=List.mem_of_getElem? hol;have hilt:i<listed.size:=by rw [hI.lsize];exact hin
  have hcnt':cntF (fun j=>(listed.setIfInBounds i true).getD j false) ops.size≤fuel:=by
   have:=zkx (f:=fun j=>listed.getD j false) (g:=fun j=>(listed.setIfInBounds i true).getD j false) (i:=i) hnd (zbK hilt) (by
    intro j hj;simp [Array.getD_eq_getD_getElem?,Ne.symm hj]) hin
   omega
  have hplo:=hpl o hom;simp only [zdK,Bool.and_eq_true,Option.isNone_iff_eq_none]at hplo;obtain⟨hguard,hop⟩:=hplo;have hnodef:∀q,o.op ≠ .defer q:=by intro q e;rw [e]at hop;cases hop
  have hwant:Region.wanted o (yielded ops c.tmps)=true:=by unfold Region.wanted;rw [hguard]
  have hclosed':∀x j,Did (listed.setIfInBounds i true) x→(bsAt p.bs x).testBit j=true→Did (listed.setIfInBounds i true) j:=by
   intro x j hx hj;rcases zeQ hx with rfl|hx
   ·exact zaO (hready j hj)
   ·exact zaO (hI.closed x j hx hj)
  have hcA:ziH ops p val a i o c:=by
   intro t ht;refine⟨fun j q hj hq hd=>hI.cW j q t (hready j hj) hq hd,fun hno => ?_⟩;refine hI.c0 t fun j q hj hq hd => ?_
   rcases hp.reads i j o q t ho hq hd ht with rfl|hb|hb
   ·exact hnd hj
   ·exact hno j q hb hq hd
   ·exact hnd (hI.closed j i hj hb)
  have hput:∀(val':Nat→Value) (v:Value),(∀j,Did listed j→val' j=val j)→val' i=v →
    (c.put o.dst v).defers=a.defers∧(c.put o.dst v).tmps.size=a.tmps.size ∧
    (∀j q d,Did (listed.setIfInBounds i true) j→ops[j]? = some q→q.dst=some d→(c.put o.dst v).tmps.getD d undef=val' j) ∧
    (∀t,(∀j q,Did (listed.setIfInBounds i true) j→ops[j]? = some q→q.dst≠some t)→(c.put o.dst v).tmps.getD t undef=a.tmps.getD t undef):=by
   intro val' v hold hnew;refine⟨by rw [zgo];exact hI.cdefers,by rw [zg2];exact hI.csize,?_,?_⟩
   ·intro j q d hj hq hd;by_cases hji:j=i
    ·subst hji;rw [ho]at hq;cases hq;rw [hd,zg3 (by rw [hI.csize];exact hdst o hom d hd),hnew]
    ·rcases zeQ hj with e|hj
     ·exact absurd e hji
     ·rw [zdi (fun e=>hji (hp.dsts j i q o d hq ho hd e)),hold j hj];exact hI.cW j q d hj hq hd
   ·intro t ht;rw [zdi (ht i o (zbK hilt) ho)];exact hI.c0 t (fun j q hj hq=>ht j q (zaO hj) hq)
  by_cases hid:i∈done
  ·
   obtain⟨hnb,hq⟩:=hI.core.quiet i hid hnd o ho;have hrun:=hq c hcA w (.inl (Below.refl _ _));obtain⟨e1,e2,e3,e4⟩:=hput val (val i) (fun _ _=>rfl) rfl;have hnext:EInv K ks P ro ops p bars (fun a' w'=>Q .normal a' w') a ord done rest val g (listed.setIfInBounds i true) (c.put o.dst (val i)) w:=
    ⟨⟨hI.core.ord,hI.core.size,hI.core.defers,hI.core.gW,hI.core.g0,fun j hj hnj=>hI.core.quiet j hj (fun h=>hnj (zaO h)),hI.core.cont⟩,hI.kw,hI.head,by simp [hI.lsize],hclosed',
     fun j hj=>(zeQ hj).elim (fun e=>e ▸ hid) (fun hj=>hI.sub j hj),e1,e2,e3,e4⟩
   have hrest:=ih _ _ _ _ _ _ _ hnext hcnt';simp only [wpOpIn,ho];rw [if_pos hwant];refine⟨fun f _=>zkI ro f,?_⟩;rw [Oper.semAt_eq _ _ _ hnodef,hrun];exact hrest
  ·
   have hio:i∈ord:=hall i hin;rw [←hI.core.ord]at hio;have hir:i∈rest:=by
    rcases List.mem_append.1 hio with h|h
    ·exact absurd h hid
    ·exact h
   obtain⟨e,r,hre⟩:∃e r,rest=e :: r:=by
    cases hrest:rest with
    | nil=>rw [hrest]at hir;cases hir
    | cons e r=>exact⟨e,r,rfl⟩
   have heb:=hI.head e r hre;subst hre;have hs:=hI.core.ord ▸ hord;obtain⟨h1,h2⟩:=zdN hs;have hie:i=e:=by
    rcases List.mem_cons.1 hir with h|h
    ·exact h
    ·exfalso;have hm:=(h1 i h).2.2 heb;exact(h2 e (hI.sub e (hready e hm))).2.1 rfl
   subst hie;obtain⟨o',ho',hh⟩:=hI.core.cont;rw [ho]at ho';have ho':=Option.some.inj ho';subst ho';have hgA:=zjq hp hord hall hI.core ho;have hexec:=execOp_congr o (hnosel o hom) (hcA.eval hgA);have hcontb:bars.contains i=true:=by simpa using heb
   have after:∀(v:Value) (w':World),((zkl p.bs ks ops.size i=true∧K w')∨Below w.heap.size w w')→OWK K ks P ro ops p.bs bars (fun a' w'=>Q .normal a' w') r (g.put o.dst v) w'→wpAnyIn (Fz ro) 0 P .any ops Q fuel (listed.setIfInBounds i true) (c.put o.dst v) w':=by
    intro v w' hB hcont;have hC':Core K ks P ro ops p bars (fun a' w'=>Q .normal a' w') a ord (done ++ [i]) r (upd val i v) (g.put o.dst v) (listed.setIfInBounds i true) w':=by
     refine zom hp hord hdst hI.core ho v hcont (fun j hj hnj q hq => ?_) (fun h=>absurd (zbK hilt) h);obtain⟨h3,h4⟩:=hI.core.quiet j hj (fun h=>hnj (zaO h)) q hq;rcases hB with⟨hr,hKw⟩|hB
     ·
      have hjl:j<ops.size:=(Array.getElem?_eq_some_iff.1 hq).1;unfold zkl at hr;rw [List.all_eq_true]at hr;have:=hr j (List.mem_range.2 hjl);rw [Bool.or_eq_true,Bool.or_eq_true,Bool.or_eq_true]at this;rcases this with h|(h|h)|h
      ·exact absurd (Nat.eq_of_beq_eq_true h) (fun e=>hid (e ▸ hj))
      ·exact absurd (zaO (hready j h)) hnj
      ·rw [(h2 j hj).1]at h;cases h
      ·exact⟨h3,fun c' hA w2 hb2=>h4 c' hA w2 (.inr ⟨h,hb2.elim (fun q=>hKB _ _ hKw q) (fun q=>q.2)⟩)⟩
     ·exact⟨h3,fun c' hA w2 hb2=>h4 c' hA w2 (hb2.imp (fun q=>hB.trans (q.mono hB.size)) id)⟩
    obtain⟨done',rest',val',g',k1,k2,k3,k4⟩:=zeR hp hord hall hnosel hdst r _ _ _ hC';obtain⟨e1,e2,e3,e4⟩:=hput val' v (fun j hj=>by
      rw [(k3 j (by simp [hI.sub j hj])).2,zkQ _ _ _ (fun e:j=i=>hnd (e ▸ hj))]) (by rw [(k3 i (by simp)).2,zjI])
    refine ih done' rest' val' g' _ _ _ ⟨k1,hB.elim (fun q=>q.2) (fun q=>hKB _ _ hI.kw q),k2,by simp [hI.lsize],hclosed',fun j hj => ?_,e1,e2,e3,e4⟩ hcnt';rcases zeQ hj with rfl|hj
    ·exact(k3 j (by simp)).1
    ·exact(k3 j (by simp [hI.sub j hj])).1
   simp only [wpOpIn,ho];rw [if_pos hwant];refine⟨fun f _=>zkI ro f,?_⟩;rw [Oper.semAt_eq _ _ _ hnodef,hexec];rcases hh with⟨_,hh⟩|⟨hb,_⟩
   ·rcases hh with⟨f,args,hrun,hcalls⟩|⟨w',v,hrun,hB,hcont⟩
    ·rw [hrun];refine⟨fun h=>absurd (zkJ ro h) (by omega),?_⟩;refine CallsIn.mono hcalls ?_;rintro e w' ⟨v,rfl,hB,hcont⟩;exact after v w' hB hcont
    ·rcases hrun with hrun|⟨hrun,rfl⟩
     ·rw [hrun];exact after v w' hB hcont
     ·rw [hrun];exact after undef w' hB hcont
   ·rw [hcontb]at hb;cases hb
def zf5(l:List Oper)(bars ord:List Nat)(nt:Nat):Bool:=
 match zi4 l.toArray with
 | none=>false
 | some p=>zit p.bs bars ord && (List.range l.length).all (fun i=>ord.contains i) && ord.all (fun i=>Nat.blt i l.length) && l.all zdK && l.all (fun o=>match o.dst with|some d=>Nat.blt d nt|none=>true)
theorem zer{K:World→Prop}(ks:List Nat)(hKB:∀w w',K w→Below w.heap.size w w'→K w'){id:Nat}{l:List Oper}(bars ord:List Nat)(bs:List Nat){a:CAct}{w:World}{ro:Option Nat}{Q:Exit→CAct→World→Prop}(hm:P.follows .mixedOrders=true)
  (nt:Nat) (hnt:a.tmps.size=nt) (hc:zf5 l bars ord nt=true) (hbs:zgY l []=bs) (hK:K w.drew) (h:OWK K ks P ro l.toArray bs bars (fun a' w'=>Q .normal a' w') ord a w.drew):(Code.region id l.toArray true).wpIn (Fz ro) 0 P Q a w:=by
 subst hnt;unfold zf5 at hc;split at hc
 ·cases hc
 ·rename_i p hplan;have hp:=zp6 hplan;have hpbs:p.bs=bs:=by
   have h2:=hplan;unfold zi4 at h2;simp only [Bool.cond_eq_ite]at h2;split at h2
   ·injection h2 with h2;rw [←h2];exact hbs
   ·cases h2
  subst hpbs;simp only [Bool.and_eq_true,List.all_eq_true]at hc;obtain⟨⟨⟨⟨h1,h2⟩,h3⟩,h4⟩,h5⟩:=hc;have hall:∀i,i<l.toArray.size→i∈ord:=fun i hi=>by simpa using h2 i (List.mem_range.2 (by simpa using hi))
  have hlt:∀i∈ord,i<l.toArray.size:=fun i hi=>by simpa using (zca _ _).1 (h3 i hi)
  have hpl:∀o∈l.toArray.toList,zdK o=true:=by simpa using h4
  have hdst:∀o∈l.toArray.toList,∀d,o.dst=some d→d<a.tmps.size:=fun o ho d hd=>by
   have:=h5 o (by simpa using ho);rw [hd]at this;exact(zca _ _).1 this
  have hno:∀i,¬Did (Array.replicate l.toArray.size false) i:=by
   intro i hi;unfold Did at hi;rw [Array.getD_eq_getD_getElem?,Array.getElem?_replicate]at hi;split at hi <;> simp at hi
  have hnosel:∀o∈l.toArray.toList,∀cs b,o.op ≠ .select cs b:=by
   intro o ho cs b e;have:=hpl o ho;simp only [zdK,Bool.and_eq_true]at this;rw [e]at this
   cases this.2
  have hC:Core K ks P ro l.toArray p bars (fun a' w'=>Q .normal a' w') a ord [] ord (fun _=>undef) a (Array.replicate l.toArray.size false) w.drew:=
   ⟨rfl,rfl,rfl,fun j hj=>(by cases hj),fun _ _=>rfl,fun j hj=>(by cases hj),h⟩
  obtain⟨done',rest',val',g',k1,k2,k3,k4⟩:=zeR hp h1 hall hnosel hdst ord [] _ _ hC;refine wpIn_region_any hm (ztc hKB hp h1 hall hlt hpl hdst _ done' rest' val' g' _ _ _ ⟨k1,hK,k2,by simp,fun i j hi=>absurd hi (hno i),fun j hj=>absurd hj (hno j),rfl,rfl,fun j o d hj=>absurd hj (hno j),fun _ _=>rfl⟩ ?_);have:∀(f:Nat→Bool) n,cntF f n≤n:=by
   intro f n;induction n with
   | zero=>exact Nat.le_refl _
   | succ n ih=>simp only [cntF];split <;> omega
  exact this _ _
theorem zao{id:Nat}{l:List Oper}(bars ord:List Nat)(bs:List Nat){a:CAct}{w:World}{ro:Option Nat}{Q:Exit→CAct→World→Prop}(hm:P.follows .mixedOrders=true)
  (nt:Nat) (hnt:a.tmps.size=nt) (hc:zf5 l bars ord nt=true) (hbs:zgY l []=bs) (h:OW P ro l.toArray bs bars (fun a' w'=>Q .normal a' w') ord a w.drew):(Code.region id l.toArray true).wpIn (Fz ro) 0 P Q a w:=
 zer (K:=fun _=>True) [] (fun _ _ _ _=>trivial) bars ord bs hm nt hnt hc hbs trivial h
end
section
variable {P:Program} {ops:Array Oper} {bs bars r:List Nat} {i:Nat} {a:CAct} {w:World} {Q:CAct→World→Prop} {o:Oper}
theorem OW.read(ho:ops[i]? = some o)(hb:bars.contains i=false)(v:Value)(hd:∀w',Below w.heap.size w w'→(execOp a.eval o).run P w' = .ok (.value v) w')(h:OW P none ops bs bars Q r (a.put o.dst v) w):OW P none ops bs bars Q (i :: r) a w:=
 ⟨o,ho,.inr ⟨hb,v,fun w' q=>q.elim (hd w') (fun q=>by cases q.1),h⟩⟩
theorem OW.move{x:Operand}{d:Option Tmp}{ty:TypeId}{ps:String}{af:Array Edge}(ho:ops[i]? = some {op:=.move x,dst:=d,type:=ty,pos:=ps,after:=af,guard:=none})(hb:bars.contains i=false)(v:Value)(hx:a.eval x=v)(h:OW P none ops bs bars Q r (a.put d v) w):OW P none ops bs bars Q (i :: r) a w:=
 OW.read ho hb v (fun w' _=>by subst hx;rfl) h
theorem OW.assign{x:Operand}{d:Option Tmp}{ty:TypeId}{ps:String}{af:Array Edge}(ho:ops[i]? = some {op:=.assign x,dst:=d,type:=ty,pos:=ps,after:=af,guard:=none})(hb:bars.contains i=false)(v:Value)(hx:a.eval x=v)(h:OW P none ops bs bars Q r (a.put d v) w):OW P none ops bs bars Q (i :: r) a w:=
 OW.read ho hb v (fun w' _=>by subst hx;rfl) h
def zfF(P:Program)(s:TypeId)(f off:Nat):Prop:=∀g w,(Instr.fieldAt s (.pointer (some ⟨g,0,none⟩)) f).run P w = .ok (.pointer (some ⟨g,off,none⟩)) w
theorem zo8{P:Program}{s:TypeId}{f off:Nat}{fs:Array Field}{fd:Field}(h1:P.underlying s=some (.struct fs))(h2:fs[f]? = some fd)(h3:fd.offset=off)(h4:((P.info? fd.type).map fun i=>decide (i.size=0))=some false):zfF P s f off:=by
 intro g w;obtain⟨inf,h5⟩:∃inf,P.info? fd.type=some inf:=by
  cases e:P.info? fd.type with
  | none=>rw [e]at h4;cases h4
  | some inf=>exact⟨inf,rfl⟩
 rw [h5]at h4;simp at h4
 subst h3;simp [Instr.fieldAt,run_underlying h1,h2,Instr.sureAddr,fieldPlace,sizeOf,typeInfo,h5,h4,Addr.add_lit]
theorem OW.fieldAddr{s:TypeId}{x:Operand}{f off g:Nat}{d:Option Tmp}{ty:TypeId}{ps:String}{af:Array Edge}(ho:ops[i]? = some {op:=.fieldAddr s x f,dst:=d,type:=ty,pos:=ps,after:=af,guard:=none})(hb:bars.contains i=false)
  (hF:zfF P s f off) (hx:a.eval x = .pointer (some ⟨g,0,none⟩)) (h:OW P none ops bs bars Q r (a.put d (.pointer (some ⟨g,off,none⟩))) w):OW P none ops bs bars Q (i :: r) a w:=
 OW.read ho hb _ (fun w' _=>by simp [execOp,hx,hF g w']) h
def zcc(P:Program)(t:TypeId):Prop:=∀p v w,World.cell? w p=some v→(Instr.loadAt t (.pointer (some p))).run P w = .ok v w
theorem zbm{P:Program}{t:TypeId}(h:(match P.underlying t with|some (.struct _)|some (.array _ _)=>false|some _=>true|none=>false)=true):zcc P t:=by
 intro p v w hc
 cases hu:P.underlying t with
 | none=>rw [hu]at h;cases h
 | some d=>
  rw [hu]at h
  cases d <;> first|(cases h;done)|(simp [Instr.loadAt,Instr.sureAddr,loadVar,isAgg,run_underlying hu,hc])
theorem OW.load{t:TypeId}{x:Operand}{p:Addr}{v:Value}{d:Option Tmp}{ty:TypeId}{ps:String}{af:Array Edge}(ho:ops[i]? = some {op:=.load t x,dst:=d,type:=ty,pos:=ps,after:=af,guard:=none})(hb:bars.contains i=false)
  (hL:zcc P t) (hc:w.cell? p=some v) (hx:a.eval x = .pointer (some p)) (h:OW P none ops bs bars Q r (a.put d v) w):OW P none ops bs bars Q (i :: r) a w:=
 OW.read ho hb _ (fun w' hb'=>by
  have hp:p.block<w.heap.size:=World.block_lt_of_cell? _ _ hc;simp [execOp,hx,hL p v w' ((hb'.cell hp).trans hc)]) h
def zcd(P:Program)(t:TypeId)(n:Nat):Prop:=∀g (cs:List Value) w,cs.length=n→(∀j v,cs[j]? = some v→World.cell? w ⟨g,j,none⟩=some v)→(Instr.loadAt t (.pointer (some ⟨g,0,none⟩))).run P w = .ok (.agg cs.toArray) w
theorem zbB{P:Program}{t:TypeId}{n:Nat}(h:(match P.underlying t with|some (.struct _)=>true|_=>false)=true)(hi:(P.info? t).map (·.size)=some n):zcd P t n:=by
 intro g cs w hn hc
 cases hu:P.underlying t with
 | none=>rw [hu]at h;cases h
 | some d=>
  rw [hu]at h
  cases d with
  | struct fs=>
   have hl:=run_loadVar_mid (P:=P) w g 0 t cs (.struct fs) (fun j v hj=>by rw [Nat.zero_add];exact hc j v hj) hu rfl (by rw [hn];exact hi);simp [Instr.loadAt,Instr.sureAddr,hl]
  | _=>cases h
theorem OW.loadAll{t:TypeId}{x:Operand}{g n:Nat}{cs:List Value}{d:Option Tmp}{ty:TypeId}{ps:String}{af:Array Edge}(ho:ops[i]? = some {op:=.load t x,dst:=d,type:=ty,pos:=ps,after:=af,guard:=none})(hb:bars.contains i=false)
  (hL:zcd P t n) (hn:cs.length=n) (h0:0<n) (hc:∀j v,cs[j]? = some v→w.cell? ⟨g,j,none⟩=some v) (hx:a.eval x = .pointer (some ⟨g,0,none⟩)) (h:OW P none ops bs bars Q r (a.put d (.agg cs.toArray)) w):OW P none ops bs bars Q (i :: r) a w:=
 OW.read ho hb _ (fun w' hb'=>by
  have hp:g<w.heap.size:=by
   obtain⟨v,hv⟩:∃v,cs[0]? = some v:=⟨_,List.getElem?_eq_getElem (by omega)⟩;exact World.block_lt_of_cell? _ _ (hc 0 v hv)
  simp [execOp,hx,hL g cs w' hn (fun j v hj=>(hb'.cell (p:=⟨g,j,none⟩) hp).trans (hc j v hj))]) h
theorem zo9{t:TypeId}{p q:Bool}{w:World}(ht:P.underlying t=some .bool):(Op.equal t (.bool p) (.bool q)).run P w = .ok (p == q) w:=by
 show(Op.equalIn (9999+1) t _ _).run P w=_
 rw [Op.equalIn];simp [run_underlying ht]
theorem OW.neqBool{t x2:TypeId}{x y:Operand}{p q:Bool}{d:Option Tmp}{ty:TypeId}{ps:String}{af:Array Edge}(ho:ops[i]? = some {op:=.binOp .neq t x y x2,dst:=d,type:=ty,pos:=ps,after:=af,guard:=none})(hb:bars.contains i=false)
  (ht:P.underlying t=some .bool) (hx:a.eval x = .bool p) (hy:a.eval y = .bool q) (h:OW P none ops bs bars Q r (a.put d (.bool (p != q))) w):OW P none ops bs bars Q (i :: r) a w:=
 OW.read ho hb _ (fun w' _=>by
  have:(execOp a.eval {op:=.binOp .neq t x y x2,dst:=d,type:=ty,pos:=ps,after:=af,guard:=none}).run P w' = .ok (.value (.bool (p != q))) w':=by
   unfold execOp;simp only [hx,hy];simp [eqGuard,binOp,zo9 ht]
   cases p <;> cases q <;> rfl
  exact this) h
theorem OW.call{f:FuncId}{fn:Func}{xs:Array Operand}{ts:Array TypeId}{args:List Value}{d:Option Tmp}{ty:TypeId}{ps:String}{af:Array Edge}(ho:ops[i]? = some {op:=.call {callee:=.value (.func f),args:=xs,argTypes:=ts},dst:=d,type:=ty,pos:=ps,after:=af,guard:=none})(hb:bars.contains i=true)
  (hfn:P.funcs[f]? = some fn) (hbody:fn.body.isSome=true) (hN:zbO P) (ha:xs.toList.map a.eval=args)
  (h:CallsIn Fence.wide 0 P f args.toArray w fun e w'=>∃v,e = .returned v∧Below w.heap.size w w'∧OW P none ops bs bars Q r (a.put d v) w'):OW P none ops bs bars Q (i :: r) a w:=by
 refine⟨_,ho,.inl ⟨hb,.inl ⟨f,args.toArray,?_,h.mono (fun e w' ⟨v,q,hB,k⟩=>⟨v,q,.inr hB,k⟩)⟩⟩⟩;have ha':xs.map a.eval=args.toArray:=by subst ha;apply Array.ext';rw [Array.toList_map]
 rw [←ha'];have hbn:fn.body≠none:=by intro q;rw [q]at hbody;simp at hbody
 have hev:a.eval (.func f) = .func (.func f) #[] #[]:=rfl;unfold execOp;simp only [resolve,hev,Deferred.ofValue,Sem.run_bind,Sem.run_pure,Result.andThen_ok,invoke,callFunc,run_program,hfn,hN f fn hfn hbody,Bool.false_eq_true,if_false];have:fn.body.isNone=false:=by cases hq:fn.body <;> simp_all
 rw [this];simp
theorem OW.store{t:TypeId}{x y:Operand}{w':World}{d:Option Tmp}{ty:TypeId}{ps:String}{af:Array Edge}(ho:ops[i]? = some {op:=.store t x y,dst:=d,type:=ty,pos:=ps,after:=af,guard:=none})(hb:bars.contains i=true)(hl:zmM bs ops.size i=true)
  (hrun:(execOp a.eval {op:=.store t x y,dst:=d,type:=ty,pos:=ps,after:=af,guard:=none}).run P w = .ok .skip w') (h:OW P none ops bs bars Q r (a.put d undef) w'):OW P none ops bs bars Q (i :: r) a w:=
 ⟨_,ho,.inl ⟨hb,.inr ⟨w',undef,.inr ⟨hrun,rfl⟩,.inl ⟨zrA hl,trivial⟩,h⟩⟩⟩
theorem OW.done{a:CAct}{w:World}(h:Q a w):OW P none ops bs bars Q [] a w:=h
end
end Go.Eng
namespace Go.Num
open Go.RowKit Go.Proofs Go.Proofs.YtoamcgjbelhnkaaGreatDoor Go.Eng
theorem zaq:Tryz.prog.follows .mixedOrders=true:=by kernel_rfl
theorem zah:zbO Tryz.prog:=zoY (by kernel_rfl)
theorem ze9{P:Program}{s:TypeId}{f off:Nat}(h:(match P.underlying s with|some (.struct fs)=>(match fs[f]? with|some fd=>Nat.beq fd.offset off && (match P.info? fd.type with|some i => !Nat.beq i.size 0|none=>false)|none=>false)|_=>false)=true):zfF P s f off:=by
 split at h
 ·rename_i fs hu;split at h
  ·rename_i fd hf;rw [Bool.and_eq_true]at h;refine zo8 hu hf (Nat.eq_of_beq_eq_true h.1) ?_;have h2:=h.2;split at h2
   ·rename_i i hi;rw [hi];simp at h2 ⊢
    intro e;rw [e]at h2
    cases h2
   ·cases h2
  ·cases h
 ·cases h
theorem ziA:zfF Tryz.prog 25 0 0:=ze9 (by kernel_rfl)
theorem ziz:zfF Tryz.prog 25 1 1:=ze9 (by kernel_rfl)
theorem l4:zcc Tryz.prog 4:=zbm (by kernel_rfl)
theorem l23:zcc Tryz.prog 23:=zbm (by kernel_rfl)
theorem l25:zcd Tryz.prog 25 3:=zbB (by kernel_rfl) (by kernel_rfl)
theorem ub4:Tryz.prog.underlying 4=some .bool:=by kernel_rfl
def Box3(w:World)(g:Nat)(x y z:Value):Prop:=∀j v,[x,y,z][j]? = some v→w.cell? ⟨g,j,none⟩=some v
theorem Box3.c0{w:World}{g:Nat}{x y z:Value}(h:Box3 w g x y z):w.cell? ⟨g,0,none⟩=some x:=h 0 x rfl
theorem Box3.c1{w:World}{g:Nat}{x y z:Value}(h:Box3 w g x y z):w.cell? ⟨g,1,none⟩=some y:=h 1 y rfl
theorem Box3.c2{w:World}{g:Nat}{x y z:Value}(h:Box3 w g x y z):w.cell? ⟨g,2,none⟩=some z:=h 2 z rfl
theorem Box3.lt{w:World}{g:Nat}{x y z:Value}(h:Box3 w g x y z):g<w.heap.size:=World.block_lt_of_cell? _ _ h.c0
theorem Box3.below{w w':World}{g:Nat}{x y z:Value}(h:Box3 w g x y z)(hb:Below w.heap.size w w'):Box3 w' g x y z:=fun j v hj=>(hb.cell (p:=⟨g,j,none⟩) h.lt).trans (h j v hj)
theorem zbu(w:World)(x y z:Value)(t:TypeId):Box3 (w.alloc (.cells #[x,y,z] t)) w.heap.size x y z:=fun j v hj=>by
 rw [World.cell?_alloc_new,←hj];simp
theorem zas.setElem{w:World}{v u:Value}{x g i:Nat}{e:TypeId}(h:zas w v x)(hE:Elem w g e)(he:e≠111):zas (w.setCell ⟨g,i,none⟩ u) v x:=by
 refine h.setCell' ?_ u;obtain⟨k,hk,hl⟩:=h;rcases hl with⟨rfl,_⟩|⟨a,cap,rfl,h2,h3,h4,h5,h6⟩
 ·exact .inl hk.zero
 ·refine .inr fun q => ?_
  have:a.block=g:=by simpa [Value.ownBlock]using q
  exact(h5.ne hE (fun q=>he q.symm)) this
theorem zau.setElem{w:World}{v u:Value}{q:Rat}{g i:Nat}{e:TypeId}(h:zau w v q)(hE:Elem w g e)(he:e≠111):zau (w.setCell ⟨g,i,none⟩ u) v q:=by
 obtain⟨vn,vd,h1,h2,h3⟩:=h;exact⟨vn,vd,h1,h2.setElem hE he,h3.setElem hE he⟩
theorem zau.form{w:World}{v:Value}{q:Rat}(h:zau w v q):∃o k c o2 k2 c2,v = .agg #[.bool (decide (q.num<0)),.slice o k c,.slice o2 k2 c2]:=by
 obtain⟨vn,vd,h1,h2,h3⟩:=h;obtain⟨o,k,c,rfl,_,_⟩:=zaI h2;obtain⟨o2,k2,c2,rfl,_,_⟩:=zaI h3;exact⟨o,k,c,o2,k2,c2,h1⟩
def set3(w:World)(g:Nat)(x y z:Value):World:=((w.setCell ⟨g,0,none⟩ x).setCell ⟨g,1,none⟩ y).setCell ⟨g,2,none⟩ z
theorem zbH{w:World}{g:Nat}{x y z:Value}{f:Nat→Value}(h:zaj w g 3 f)(hx:x.oneCell'=true)(hy:y.oneCell'=true)(hz:z.oneCell'=true) :
  (Instr.storeAt 25 (.pointer (some ⟨g,0,none⟩)) (.agg #[x,y,z])).run Tryz.prog w = .ok () (set3 w g x y z):=by
 have hst:=run_storeCells_cells (P:=Tryz.prog) g 0 [x,y,z] 0 w (fun j hj=>by
   have:=(h j (by simpa using hj)).1;simp only [Nat.zero_add,Nat.add_zero];rw [this];rfl) (fun j hj=>by
   have:=(h j (by simpa using hj)).2;simp only [Nat.zero_add,Nat.add_zero];exact this) (fun u hu=>by
   simp at hu
   rcases hu with rfl|rfl|rfl <;> assumption)
 obtain⟨inf,hi,hs⟩:∃inf,Tryz.prog.info? 25=some inf∧inf.size=3:=by
  have h:=i25
  cases e:Tryz.prog.info? 25 with
  | none=>rw [e]at h;cases h
  | some inf=>rw [e]at h;exact⟨inf,rfl,by simpa using h⟩
 simp [Instr.storeAt,Instr.sureAddr,storeVar,sizeOf,typeInfo,hi,hs,Value.cells]
 exact hst
structure zej(w W:World)(g:Nat)(x0 x1 x2 y0 y1 y2:Value):Prop where
 bx:Box3 W g x0 x1 x2
 by':Box3 W (g+1) y0 y1 y2
 res:∃f,zaj W (g+1+1) 3 f
 el:Elem W (g+1+1) 25
 below:Below w.heap.size w W
 le:w.heap.size≤g
theorem zej.lt{w W:World}{g:Nat}{x0 x1 x2 y0 y1 y2:Value}(h:zej w W g x0 x1 x2 y0 y1 y2):g+1+1<W.heap.size:=by
 obtain⟨f,hf⟩:=h.res;exact hf.lt (by omega)
theorem zej.step{w W W':World}{g:Nat}{x0 x1 x2 y0 y1 y2:Value}(h:zej w W g x0 x1 x2 y0 y1 y2)(hb:Below W.heap.size W W'):zej w W' g x0 x1 x2 y0 y1 y2:=by
 obtain⟨f,hf⟩:=h.res;exact⟨h.bx.below hb,h.by'.below hb,⟨f,hf.below (hf.lt (by omega)) hb⟩,h.el.below hb h.el.lt,h.below.trans (hb.mono h.below.size),h.le⟩
theorem zfn(w:World)(x0 x1 x2 y0 y1 y2 z0 z1 z2:Value)(t:TypeId):zej w (((w.alloc (.cells #[x0,x1,x2] t)).alloc (.cells #[y0,y1,y2] t)).alloc (.cells #[z0,z1,z2] 25)) w.heap.size x0 x1 x2 y0 y1 y2:=by
 have h1:=zbu w x0 x1 x2 t;have h2:=zbu (w.alloc (.cells #[x0,x1,x2] t)) y0 y1 y2 t;have e1:(w.alloc (.cells #[x0,x1,x2] t)).heap.size=w.heap.size+1:=by simp
 have e2:((w.alloc (.cells #[x0,x1,x2] t)).alloc (.cells #[y0,y1,y2] t)).heap.size=w.heap.size+1+1:=by simp
 rw [e1]at h2;refine⟨(h1.below (zaa _ _)).below (zaa _ _),h2.below (zaa _ _),⟨fun i => [z0,z1,z2].getD i z0,?_⟩,by rw [←e2];exact zaB _ _ _,?_,Nat.le_refl _⟩
 ·rw [←e2];exact zaj.new _ _ _ fun i hi=>by
   have:i=0∨i=1∨i=2:=by omega
   rcases this with rfl|rfl|rfl <;> rfl
 ·exact(((zaa w _).alloc (by simp) _).alloc (by simp;omega) _)
theorem zab(W:World):Below W.heap.size W W.drew:=⟨rfl,rfl,rfl,Nat.le_refl _,fun _ _=>rfl⟩
theorem zpZ(p q:Rat):p+q=(if decide (p.num<0)=decide (q.num<0)then frac (decide (p.num<0)) (p.num.natAbs*q.den+q.num.natAbs*p.den) (p.den*q.den)
  else if q.num.natAbs*p.den≤p.num.natAbs*q.den then frac (decide (p.num<0)) (p.num.natAbs*q.den-q.num.natAbs*p.den) (p.den*q.den)else frac (decide (q.num<0)) (q.num.natAbs*p.den-p.num.natAbs*q.den) (p.den*q.den)):=by
 rw [←zrL p.den_nz q.den_nz,zcT,zcT]
theorem ztm{x y:Nat}{r:Int}(h:zrd x y r)(hg:y≤x):0≤r:=by
 apply Classical.byContradiction
 intro hno;have:=h.1.1 (by omega);omega
theorem zpB{x y L:Nat}(hx:x<B^L)(hy:y<B^L):x+y<B^(L+1):=by
 rw [Nat.pow_succ];have:B^L*2≤B^L*B:=Nat.mul_le_mul_left _ (by decide);omega
theorem zcO{a:Act}{w w':World}{x y:Operand}{g:Nat}{v:Value}{d:Option Tmp}{ty:TypeId}{ps:String}{af:Array Edge}{gd:Option (Nat × Bool)}(hx:a.eval x = .pointer (some ⟨g,0,none⟩))(hy:a.eval y=v)
  (h:(Instr.storeAt 25 (.pointer (some ⟨g,0,none⟩)) v).run Tryz.prog w = .ok () w'):(execOp a.eval {op:=.store 25 x y,dst:=d,type:=ty,pos:=ps,after:=af,guard:=gd}).run Tryz.prog w = .ok .skip w':=by
 simp [execOp,hx,hy,h]
theorem zoQ(w:World)(va vb:Value)(p q:Rat)(L:Nat)(ha:zau w va p)(hb:zau w vb q)(hp:zan p L)(hq:zan q L)(hL:L≤1000000) :
  CallsIn Fence.wide 0 Tryz.prog 93 #[va,vb] w fun e w'=>∃v',e = .returned v'∧zau w' v' (p+q)∧Below w.heap.size w w':=by
 have HA:=zHi ha;have HB:=zHi hb;have HP:=zHi hp;have HQ:=zHi hq;obtain⟨an,ad,rfl,han,had⟩:=ha;obtain⟨bn,bd,rfl,hbn,hbd⟩:=hb;have HAN:=zHi han;have HBN:=zHi hbn;obtain⟨na,hna⟩:∃na,decide (p.num<0)=na:=⟨_,rfl⟩;obtain⟨nb,hnb⟩:∃nb,decide (q.num<0)=nb:=⟨_,rfl⟩;rw [hna]at HA;rw [hnb]at HB;rw [hna,hnb];have HNA:=zHi hna;have HNB:=zHi hnb;clear han had hbn hbd hna hnb hp hq;refine callsIn_of_wp Tryz.func93 rfl trivial ?_ rfl;simp only [Tryz.ntmps93,ztH,ztI,ztJ,Nat.reduceAdd,Nat.reduceSub,ztK,ztL,ztM,ztN,ztO,ztP];gi_wp2;obtain⟨W,hW⟩:∃W,W=((w.alloc (Obj.cells #[Value.bool na,an,ad] 25)).alloc (Obj.cells #[Value.bool nb,bn,bd] 25)).alloc (Obj.cells #[Value.bool false,Value.slice none 0 0,Value.slice none 0 0] 25):=⟨_,rfl⟩;rw [←hW];have HK:Hid (zej w W.drew w.heap.size (.bool na) an ad (.bool nb) bn bd):=by
  rw [hW];exact(zfn w _ _ _ _ _ _ _ _ _ _).step (zab _)
 obtain⟨g,hg⟩:∃g,w.heap.size=g:=⟨_,rfl⟩;rw [hg]at HK;rw [hg];clear hW;refine zao (ro:=none) [3,4,8,9] [0,1,2,5,6,7,3,4,8,9,10,11] [0,1,0,4,15,0,32,0,159,511,1023,2047] zaq 57 rfl (by kernel_rfl) (by kernel_rfl) ?_;refine OW.fieldAddr rfl rfl ziz rfl ?_;simp only [Go.Act.put,ztQ,ztR,ztS];refine OW.load rfl rfl l23 HK.out.bx.c1 rfl ?_;simp only [Go.Act.put,ztQ,ztR,ztS];refine OW.loadAll rfl rfl l25 (cs:=[.bool nb,bn,bd]) rfl (by decide) HK.out.by' rfl ?_;simp only [Go.Act.put,ztQ,ztR,ztS];refine OW.fieldAddr rfl rfl ziz rfl ?_;simp only [Go.Act.put,ztQ,ztR,ztS];refine OW.load rfl rfl l23 HK.out.by'.c1 rfl ?_;simp only [Go.Act.put,ztQ,ztR,ztS];refine OW.loadAll rfl rfl l25 (cs:=[.bool na,an,ad]) rfl (by decide) HK.out.bx rfl ?_;simp only [Go.Act.put,ztQ,ztR,ztS];refine OW.call rfl rfl Tryz.func64 rfl zah (args:=[.agg #[.bool nb,bn,bd]]) rfl ?_;refine(za4 W.drew _ q (HB.out.below HK.out.below)).mono ?_;rintro e w1 ⟨v1,rfl,hm1,hB1⟩;refine⟨v1,rfl,hB1,?_⟩;simp only [Go.Act.put,ztQ,ztR,ztS];have HK1:=zHi (HK.out.step hB1);have HM1:=zHi hm1;clear hm1 hB1 HK;refine OW.call rfl rfl Tryz.func118 rfl zah (args:=[an,v1]) rfl ?_;refine(zbJ w1 an v1 p.num.natAbs q.den L (HAN.out.below HK1.out.below) HM1.out HP.out.1 HQ.out.2 (by omega)).mono ?_;rintro e w2 ⟨v2,rfl,⟨hm2,_⟩,hB2⟩;refine⟨v2,rfl,hB2,?_⟩;simp only [Go.Act.put,ztQ,ztR,ztS];have HK2:=zHi (HK1.out.step hB2);have HM2:=zHi hm2;clear hm2 hB2 HK1 HM1;refine OW.call rfl rfl Tryz.func64 rfl zah (args:=[.agg #[.bool na,an,ad]]) rfl ?_;refine(za4 w2 _ p (HA.out.below HK2.out.below)).mono ?_;rintro e w3 ⟨v3,rfl,hm3,hB3⟩;refine⟨v3,rfl,hB3,?_⟩;simp only [Go.Act.put,ztQ,ztR,ztS];have HK3:=zHi (HK2.out.step hB3);have HM23:=zHi (HM2.out.below hB3);have HM3:=zHi hm3;clear hm3 hB3 HK2 HM2;refine OW.call rfl rfl Tryz.func118 rfl zah (args:=[bn,v3]) rfl ?_;refine(zbJ w3 bn v3 q.num.natAbs p.den L (HBN.out.below HK3.out.below) HM3.out HQ.out.1 HP.out.2 (by omega)).mono ?_;rintro e w4 ⟨v4,rfl,⟨hm4,_⟩,hB4⟩;refine⟨v4,rfl,hB4,?_⟩;simp only [Go.Act.put,ztQ,ztR,ztS];have HK4:=zHi (HK3.out.step hB4);have HM24:=zHi (HM23.out.below hB4);have HM4:=zHi hm4;clear hm4 hB4 HK3 HM3 HM23;refine OW.assign rfl rfl v2 rfl ?_;simp only [Go.Act.put,ztQ,ztR,ztS];refine OW.assign rfl rfl v4 rfl ?_;simp only [Go.Act.put,ztQ,ztR,ztS];refine OW.done ?_;gi_wp2;refine zao (ro:=none) [1,3,4] [0,2,1,3,4,5] [0,1,0,7,15,31] zaq 57 rfl (by kernel_rfl) (by kernel_rfl) ?_;have HK5:=zHi (HK4.out.step (zab _));have HM25:=zHi (HM24.out.below (zab _));have HM5:=zHi (HM4.out.below (zab _));clear HK4 HM24 HM4;refine OW.loadAll rfl rfl l25 (cs:=[.bool na,an,ad]) rfl (by decide) HK5.out.bx rfl ?_;simp only [Go.Act.put,ztQ,ztR,ztS];refine OW.loadAll rfl rfl l25 (cs:=[.bool nb,bn,bd]) rfl (by decide) HK5.out.by' rfl ?_;simp only [Go.Act.put,ztQ,ztR,ztS];refine OW.call rfl rfl Tryz.func64 rfl zah (args:=[.agg #[.bool na,an,ad]]) rfl ?_;refine(za4 w4.drew _ p (HA.out.below HK5.out.below)).mono ?_;rintro e w6 ⟨v6,rfl,hm6,hB6⟩;refine⟨v6,rfl,hB6,?_⟩;simp only [Go.Act.put,ztQ,ztR,ztS];have HK6:=zHi (HK5.out.step hB6);have HM26:=zHi (HM25.out.below hB6);have HM46:=zHi (HM5.out.below hB6);have HM6:=zHi hm6;clear hm6 hB6 HK5 HM25 HM5;refine OW.call rfl rfl Tryz.func64 rfl zah (args:=[.agg #[.bool nb,bn,bd]]) rfl ?_;refine(za4 w6 _ q (HB.out.below HK6.out.below)).mono ?_;rintro e w7 ⟨v7,rfl,hm7,hB7⟩;refine⟨v7,rfl,hB7,?_⟩;simp only [Go.Act.put,ztQ,ztR,ztS];have HK7:=zHi (HK6.out.step hB7);have HM27:=zHi (HM26.out.below hB7);have HM47:=zHi (HM46.out.below hB7);have HM67:=zHi (HM6.out.below hB7);have HM7:=zHi hm7;clear hm7 hB7 HK6 HM26 HM46 HM6;refine OW.call rfl rfl Tryz.func118 rfl zah (args:=[v6,v7]) rfl ?_;refine(zbJ w7 v6 v7 p.den q.den L HM67.out HM7.out HP.out.2 HQ.out.2 (by omega)).mono ?_;rintro e w8 ⟨v8,rfl,⟨hm8,_⟩,hB8⟩;refine⟨v8,rfl,hB8,?_⟩;simp only [Go.Act.put,ztQ,ztR,ztS];have HK8:=zHi (HK7.out.step hB8);have HM28:=zHi (HM27.out.below hB8);have HM48:=zHi (HM47.out.below hB8);have HM8:=zHi hm8;clear hm8 hB8 HK7 HM27 HM47 HM67 HM7;refine OW.assign rfl rfl v8 rfl ?_;simp only [Go.Act.put,ztQ,ztR,ztS];refine OW.done ?_;have hS:=zpZ p q;rw [HNA.out,HNB.out]at hS;have h1L:p.num.natAbs*q.den<B^(L+L):=zaK HP.out.1 HQ.out.2;have h2L:q.num.natAbs*p.den<B^(L+L):=zaK HQ.out.1 HP.out.2;have h3L:p.den*q.den<B^(L+L):=zaK HP.out.2 HQ.out.2;have h30:p.den*q.den≠0:=Nat.mul_ne_zero p.den_nz q.den_nz;obtain⟨x,hx⟩:∃x,p.num.natAbs*q.den=x:=⟨_,rfl⟩;obtain⟨y,hy⟩:∃y,q.num.natAbs*p.den=y:=⟨_,rfl⟩;obtain⟨D,hD⟩:∃D,p.den*q.den=D:=⟨_,rfl⟩;rw [hx,hy,hD]at hS;rw [hx]at h1L HM28;rw [hy]at h2L HM48;rw [hD]at h3L h30 HM8;have HS:=zHi hS;have H1L:=zHi h1L;have H2L:=zHi h2L;have H3L:=zHi h3L;clear hx hy hD hS h1L h2L h3L HA HB HAN HBN HP HQ HNA HNB;gi_wp2_with (gi_at_call 130;refine stop ?_)
 refine(zdV w8 v2 v4 x y HM28.out HM48.out).mono ?_;rintro e w9 ⟨r,hr,rfl,hB9⟩;have HK9:=zHi (HK8.out.step hB9);have HM29:=zHi (HM28.out.below hB9);have HM49:=zHi (HM48.out.below hB9);have HM89:=zHi (HM8.out.below hB9);have HR:=zHi hr;have ca:=HK9.out.bx.c0;have cb:=HK9.out.by'.c0;clear hB9 hr HK8 HM28 HM48 HM8;by_cases hab:na=nb
 ·have HSum:=HS.out;rw [if_pos hab]at HSum;subst hab;obtain⟨ng,hng⟩:∃ng,ng=na:=⟨_,rfl⟩
  cases na
  ·gi_wp2;refine zao (ro:=none) [4,6,7] [0,1,2,3,5,4,6,7] [0,1,0,0,12,0,63,127] zaq 57 rfl (by kernel_rfl) (by kernel_rfl) ?_;have HKa:=zHi (HK9.out.step (zab _));have HM2a:=zHi (HM29.out.below (zab _));have HM4a:=zHi (HM49.out.below (zab _));have HM8a:=zHi (HM89.out.below (zab _));clear HK9 HM29 HM49 HM89 ca cb;refine OW.fieldAddr rfl rfl ziA rfl ?_;simp only [Go.Act.put,ztQ,ztR,ztS];refine OW.load rfl rfl l4 HKa.out.bx.c0 rfl ?_;simp only [Go.Act.put,ztQ,ztR,ztS];refine OW.move rfl rfl v2 rfl ?_;simp only [Go.Act.put,ztQ,ztR,ztS];refine OW.move rfl rfl v4 rfl ?_;simp only [Go.Act.put,ztQ,ztR,ztS];refine OW.move rfl rfl v8 rfl ?_;simp only [Go.Act.put,ztQ,ztR,ztS];refine OW.call rfl rfl Tryz.func131 rfl zah (args:=[v2,v4]) rfl ?_;refine(zma w9.drew v2 v4 x y (L+L) HM2a.out HM4a.out H1L.out H2L.out (by omega)).mono ?_;rintro e w10 ⟨v10,rfl,⟨hm10,_⟩,hB10⟩;refine⟨v10,rfl,hB10,?_⟩;simp only [Go.Act.put,ztQ,ztR,ztS];have HKb:=zHi (HKa.out.step hB10);have HM8b:=zHi (HM8a.out.below hB10);have HM10:=zHi hm10;clear hm10 hB10 HKa HM2a HM4a HM8a;refine OW.call rfl rfl Tryz.func117 rfl zah (args:=[.bool false,v10,v8]) rfl ?_;refine(zbp w10 false v10 v8 (x+y) D (L+L+1) HM10.out HM8b.out h30 ?_ ?_ (by omega)).mono ?_
   ·exact zpB H1L.out H2L.out
   ·exact Nat.lt_of_lt_of_le H3L.out (zag (by omega))
   rintro e w11 ⟨v11,rfl,hm11,hB11⟩;refine⟨v11,rfl,hB11,?_⟩;simp only [Go.Act.put,ztQ,ztR,ztS];have HKc:=zHi (HKb.out.step hB11);obtain⟨o,k,c,o2,k2,c2,rfl⟩:=hm11.form;have HR11:=zHi hm11;obtain⟨f,hf⟩:=HKc.out.res;have hst:=zbH hf (x:=.bool (decide ((frac false (x+y) D).num<0))) (y:=.slice o k c) (z:=.slice o2 k2 c2) rfl rfl rfl;clear hm11 hB11 HKb HM8b HM10;refine OW.store (w':=set3 w11 (g+1+1) (.bool (decide ((frac false (x+y) D).num<0))) (.slice o k c) (.slice o2 k2 c2)) rfl rfl (by decide) (zcO rfl rfl hst) ?_;simp only [Go.Act.put];refine OW.done ?_;gi_wp2;refine zbk rfl rfl (g+1+1) rfl (hf 0 (by omega)).1 (hf 1 (by omega)).1 (hf 2 (by omega)).1 ?_;refine⟨_,rfl,?_,?_⟩
   ·rw [HSum];exact((HR11.out.setElem HKc.out.el (by decide)).setElem (HKc.out.el.setCell _ _) (by decide)).setElem ((HKc.out.el.setCell _ _).setCell _ _) (by decide)
   ·have hle:=HKc.out.le;exact((HKc.out.below.setCell (by show w.heap.size≤g+1+1;omega) _).setCell (by show w.heap.size≤g+1+1;omega) _).setCell (by show w.heap.size≤g+1+1;omega) _
  ·gi_wp2;refine zao (ro:=none) [4,6,7] [0,1,2,3,5,4,6,7] [0,1,0,0,12,0,63,127] zaq 57 rfl (by kernel_rfl) (by kernel_rfl) ?_;have HKa:=zHi (HK9.out.step (zab _));have HM2a:=zHi (HM29.out.below (zab _));have HM4a:=zHi (HM49.out.below (zab _));have HM8a:=zHi (HM89.out.below (zab _));clear HK9 HM29 HM49 HM89 ca cb;refine OW.fieldAddr rfl rfl ziA rfl ?_;simp only [Go.Act.put,ztQ,ztR,ztS];refine OW.load rfl rfl l4 HKa.out.bx.c0 rfl ?_;simp only [Go.Act.put,ztQ,ztR,ztS];refine OW.move rfl rfl v2 rfl ?_;simp only [Go.Act.put,ztQ,ztR,ztS];refine OW.move rfl rfl v4 rfl ?_;simp only [Go.Act.put,ztQ,ztR,ztS];refine OW.move rfl rfl v8 rfl ?_;simp only [Go.Act.put,ztQ,ztR,ztS];refine OW.call rfl rfl Tryz.func131 rfl zah (args:=[v2,v4]) rfl ?_;refine(zma w9.drew v2 v4 x y (L+L) HM2a.out HM4a.out H1L.out H2L.out (by omega)).mono ?_;rintro e w10 ⟨v10,rfl,⟨hm10,_⟩,hB10⟩;refine⟨v10,rfl,hB10,?_⟩;simp only [Go.Act.put,ztQ,ztR,ztS];have HKb:=zHi (HKa.out.step hB10);have HM8b:=zHi (HM8a.out.below hB10);have HM10:=zHi hm10;clear hm10 hB10 HKa HM2a HM4a HM8a;refine OW.call rfl rfl Tryz.func117 rfl zah (args:=[.bool true,v10,v8]) rfl ?_;refine(zbp w10 true v10 v8 (x+y) D (L+L+1) HM10.out HM8b.out h30 ?_ ?_ (by omega)).mono ?_
   ·exact zpB H1L.out H2L.out
   ·exact Nat.lt_of_lt_of_le H3L.out (zag (by omega))
   rintro e w11 ⟨v11,rfl,hm11,hB11⟩;refine⟨v11,rfl,hB11,?_⟩;simp only [Go.Act.put,ztQ,ztR,ztS];have HKc:=zHi (HKb.out.step hB11);obtain⟨o,k,c,o2,k2,c2,rfl⟩:=hm11.form;have HR11:=zHi hm11;obtain⟨f,hf⟩:=HKc.out.res;have hst:=zbH hf (x:=.bool (decide ((frac true (x+y) D).num<0))) (y:=.slice o k c) (z:=.slice o2 k2 c2) rfl rfl rfl;clear hm11 hB11 HKb HM8b HM10;refine OW.store (w':=set3 w11 (g+1+1) (.bool (decide ((frac true (x+y) D).num<0))) (.slice o k c) (.slice o2 k2 c2)) rfl rfl (by decide) (zcO rfl rfl hst) ?_;simp only [Go.Act.put];refine OW.done ?_;gi_wp2;refine zbk rfl rfl (g+1+1) rfl (hf 0 (by omega)).1 (hf 1 (by omega)).1 (hf 2 (by omega)).1 ?_;refine⟨_,rfl,?_,?_⟩
   ·rw [HSum];exact((HR11.out.setElem HKc.out.el (by decide)).setElem (HKc.out.el.setCell _ _) (by decide)).setElem ((HKc.out.el.setCell _ _).setCell _ _) (by decide)
   ·have hle:=HKc.out.le;exact((HKc.out.below.setCell (by show w.heap.size≤g+1+1;omega) _).setCell (by show w.heap.size≤g+1+1;omega) _).setCell (by show w.heap.size≤g+1+1;omega) _
 ·have HSum:=HS.out;rw [if_neg hab]at HSum;by_cases hyx:y≤x
  ·rw [if_pos hyx]at HSum;have hr0:0≤r:=ztm HR.out hyx
   cases na <;> cases nb
   ·exact absurd rfl hab
   ·gi_wp2;refine zao (ro:=none) [4,6,7] [0,1,2,3,5,4,6,7] [0,1,0,0,12,0,63,127] zaq 57 rfl (by kernel_rfl) (by kernel_rfl) ?_;have HKa:=zHi (HK9.out.step (zab _));have HM2a:=zHi (HM29.out.below (zab _));have HM4a:=zHi (HM49.out.below (zab _));have HM8a:=zHi (HM89.out.below (zab _));clear HK9 HM29 HM49 HM89 ca cb;refine OW.fieldAddr rfl rfl ziA rfl ?_;simp only [Go.Act.put,ztQ,ztR,ztS];refine OW.load rfl rfl l4 HKa.out.bx.c0 rfl ?_;simp only [Go.Act.put,ztQ,ztR,ztS];refine OW.move rfl rfl v2 rfl ?_;simp only [Go.Act.put,ztQ,ztR,ztS];refine OW.move rfl rfl v4 rfl ?_;simp only [Go.Act.put,ztQ,ztR,ztS];refine OW.move rfl rfl v8 rfl ?_;simp only [Go.Act.put,ztQ,ztR,ztS];refine OW.call rfl rfl Tryz.func132 rfl zah (args:=[v2,v4]) rfl ?_;refine(zcN w9.drew v2 v4 x y (L+L) HM2a.out HM4a.out hyx H1L.out (by omega)).mono ?_;rintro e w10 ⟨v10,rfl,⟨hm10,_⟩,hB10⟩;refine⟨v10,rfl,hB10,?_⟩;simp only [Go.Act.put,ztQ,ztR,ztS];have HKb:=zHi (HKa.out.step hB10);have HM8b:=zHi (HM8a.out.below hB10);have HM10:=zHi hm10;clear hm10 hB10 HKa HM2a HM4a HM8a;refine OW.call rfl rfl Tryz.func117 rfl zah (args:=[.bool false,v10,v8]) rfl ?_;refine(zbp w10 false v10 v8 (x-y) D (L+L+1) HM10.out HM8b.out h30 ?_ ?_ (by omega)).mono ?_
    ·exact Nat.lt_of_le_of_lt (Nat.sub_le _ _) (Nat.lt_of_lt_of_le H1L.out (zag (by omega)))
    ·exact Nat.lt_of_lt_of_le H3L.out (zag (by omega))
    rintro e w11 ⟨v11,rfl,hm11,hB11⟩;refine⟨v11,rfl,hB11,?_⟩;simp only [Go.Act.put,ztQ,ztR,ztS];have HKc:=zHi (HKb.out.step hB11);obtain⟨o,k,c,o2,k2,c2,rfl⟩:=hm11.form;have HR11:=zHi hm11;obtain⟨f,hf⟩:=HKc.out.res;have hst:=zbH hf (x:=.bool (decide ((frac false (x-y) D).num<0))) (y:=.slice o k c) (z:=.slice o2 k2 c2) rfl rfl rfl;clear hm11 hB11 HKb HM8b HM10;refine OW.store (w':=set3 w11 (g+1+1) (.bool (decide ((frac false (x-y) D).num<0))) (.slice o k c) (.slice o2 k2 c2)) rfl rfl (by decide) (zcO rfl rfl hst) ?_;simp only [Go.Act.put];refine OW.done ?_;gi_wp2;refine zbk rfl rfl (g+1+1) rfl (hf 0 (by omega)).1 (hf 1 (by omega)).1 (hf 2 (by omega)).1 ?_;refine⟨_,rfl,?_,?_⟩
    ·rw [HSum];exact((HR11.out.setElem HKc.out.el (by decide)).setElem (HKc.out.el.setCell _ _) (by decide)).setElem ((HKc.out.el.setCell _ _).setCell _ _) (by decide)
    ·have hle:=HKc.out.le;exact((HKc.out.below.setCell (by show w.heap.size≤g+1+1;omega) _).setCell (by show w.heap.size≤g+1+1;omega) _).setCell (by show w.heap.size≤g+1+1;omega) _
   ·gi_wp2;refine zao (ro:=none) [4,6,7] [0,1,2,3,5,4,6,7] [0,1,0,0,12,0,63,127] zaq 57 rfl (by kernel_rfl) (by kernel_rfl) ?_;have HKa:=zHi (HK9.out.step (zab _));have HM2a:=zHi (HM29.out.below (zab _));have HM4a:=zHi (HM49.out.below (zab _));have HM8a:=zHi (HM89.out.below (zab _));clear HK9 HM29 HM49 HM89 ca cb;refine OW.fieldAddr rfl rfl ziA rfl ?_;simp only [Go.Act.put,ztQ,ztR,ztS];refine OW.load rfl rfl l4 HKa.out.bx.c0 rfl ?_;simp only [Go.Act.put,ztQ,ztR,ztS];refine OW.move rfl rfl v2 rfl ?_;simp only [Go.Act.put,ztQ,ztR,ztS];refine OW.move rfl rfl v4 rfl ?_;simp only [Go.Act.put,ztQ,ztR,ztS];refine OW.move rfl rfl v8 rfl ?_;simp only [Go.Act.put,ztQ,ztR,ztS];refine OW.call rfl rfl Tryz.func132 rfl zah (args:=[v2,v4]) rfl ?_;refine(zcN w9.drew v2 v4 x y (L+L) HM2a.out HM4a.out hyx H1L.out (by omega)).mono ?_;rintro e w10 ⟨v10,rfl,⟨hm10,_⟩,hB10⟩;refine⟨v10,rfl,hB10,?_⟩;simp only [Go.Act.put,ztQ,ztR,ztS];have HKb:=zHi (HKa.out.step hB10);have HM8b:=zHi (HM8a.out.below hB10);have HM10:=zHi hm10;clear hm10 hB10 HKa HM2a HM4a HM8a;refine OW.call rfl rfl Tryz.func117 rfl zah (args:=[.bool true,v10,v8]) rfl ?_;refine(zbp w10 true v10 v8 (x-y) D (L+L+1) HM10.out HM8b.out h30 ?_ ?_ (by omega)).mono ?_
    ·exact Nat.lt_of_le_of_lt (Nat.sub_le _ _) (Nat.lt_of_lt_of_le H1L.out (zag (by omega)))
    ·exact Nat.lt_of_lt_of_le H3L.out (zag (by omega))
    rintro e w11 ⟨v11,rfl,hm11,hB11⟩;refine⟨v11,rfl,hB11,?_⟩;simp only [Go.Act.put,ztQ,ztR,ztS];have HKc:=zHi (HKb.out.step hB11);obtain⟨o,k,c,o2,k2,c2,rfl⟩:=hm11.form;have HR11:=zHi hm11;obtain⟨f,hf⟩:=HKc.out.res;have hst:=zbH hf (x:=.bool (decide ((frac true (x-y) D).num<0))) (y:=.slice o k c) (z:=.slice o2 k2 c2) rfl rfl rfl;clear hm11 hB11 HKb HM8b HM10;refine OW.store (w':=set3 w11 (g+1+1) (.bool (decide ((frac true (x-y) D).num<0))) (.slice o k c) (.slice o2 k2 c2)) rfl rfl (by decide) (zcO rfl rfl hst) ?_;simp only [Go.Act.put];refine OW.done ?_;gi_wp2;refine zbk rfl rfl (g+1+1) rfl (hf 0 (by omega)).1 (hf 1 (by omega)).1 (hf 2 (by omega)).1 ?_;refine⟨_,rfl,?_,?_⟩
    ·rw [HSum];exact((HR11.out.setElem HKc.out.el (by decide)).setElem (HKc.out.el.setCell _ _) (by decide)).setElem ((HKc.out.el.setCell _ _).setCell _ _) (by decide)
    ·have hle:=HKc.out.le;exact((HKc.out.below.setCell (by show w.heap.size≤g+1+1;omega) _).setCell (by show w.heap.size≤g+1+1;omega) _).setCell (by show w.heap.size≤g+1+1;omega) _
   ·exact absurd rfl hab
  ·rw [if_neg hyx]at HSum;have hr0:r<0:=HR.out.1.2 (by omega);have hr1:¬0≤r:=by omega
   cases na <;> cases nb
   ·exact absurd rfl hab
   ·gi_wp2;refine zao (ro:=none) [4,6,7] [0,1,2,3,5,4,6,7] [0,1,0,0,12,0,63,127] zaq 57 rfl (by kernel_rfl) (by kernel_rfl) ?_;have HKa:=zHi (HK9.out.step (zab _));have HM2a:=zHi (HM29.out.below (zab _));have HM4a:=zHi (HM49.out.below (zab _));have HM8a:=zHi (HM89.out.below (zab _));clear HK9 HM29 HM49 HM89 ca cb;refine OW.fieldAddr rfl rfl ziA rfl ?_;simp only [Go.Act.put,ztQ,ztR,ztS];refine OW.load rfl rfl l4 HKa.out.by'.c0 rfl ?_;simp only [Go.Act.put,ztQ,ztR,ztS];refine OW.move rfl rfl v4 rfl ?_;simp only [Go.Act.put,ztQ,ztR,ztS];refine OW.move rfl rfl v2 rfl ?_;simp only [Go.Act.put,ztQ,ztR,ztS];refine OW.move rfl rfl v8 rfl ?_;simp only [Go.Act.put,ztQ,ztR,ztS];refine OW.call rfl rfl Tryz.func132 rfl zah (args:=[v4,v2]) rfl ?_;refine(zcN w9.drew v4 v2 y x (L+L) HM4a.out HM2a.out (by omega) H2L.out (by omega)).mono ?_;rintro e w10 ⟨v10,rfl,⟨hm10,_⟩,hB10⟩;refine⟨v10,rfl,hB10,?_⟩;simp only [Go.Act.put,ztQ,ztR,ztS];have HKb:=zHi (HKa.out.step hB10);have HM8b:=zHi (HM8a.out.below hB10);have HM10:=zHi hm10;clear hm10 hB10 HKa HM2a HM4a HM8a;refine OW.call rfl rfl Tryz.func117 rfl zah (args:=[.bool true,v10,v8]) rfl ?_;refine(zbp w10 true v10 v8 (y-x) D (L+L+1) HM10.out HM8b.out h30 ?_ ?_ (by omega)).mono ?_
    ·exact Nat.lt_of_le_of_lt (Nat.sub_le _ _) (Nat.lt_of_lt_of_le H2L.out (zag (by omega)))
    ·exact Nat.lt_of_lt_of_le H3L.out (zag (by omega))
    rintro e w11 ⟨v11,rfl,hm11,hB11⟩;refine⟨v11,rfl,hB11,?_⟩;simp only [Go.Act.put,ztQ,ztR,ztS];have HKc:=zHi (HKb.out.step hB11);obtain⟨o,k,c,o2,k2,c2,rfl⟩:=hm11.form;have HR11:=zHi hm11;obtain⟨f,hf⟩:=HKc.out.res;have hst:=zbH hf (x:=.bool (decide ((frac true (y-x) D).num<0))) (y:=.slice o k c) (z:=.slice o2 k2 c2) rfl rfl rfl;clear hm11 hB11 HKb HM8b HM10;refine OW.store (w':=set3 w11 (g+1+1) (.bool (decide ((frac true (y-x) D).num<0))) (.slice o k c) (.slice o2 k2 c2)) rfl rfl (by decide) (zcO rfl rfl hst) ?_;simp only [Go.Act.put];refine OW.done ?_;gi_wp2;refine zbk rfl rfl (g+1+1) rfl (hf 0 (by omega)).1 (hf 1 (by omega)).1 (hf 2 (by omega)).1 ?_;refine⟨_,rfl,?_,?_⟩
    ·rw [HSum];exact((HR11.out.setElem HKc.out.el (by decide)).setElem (HKc.out.el.setCell _ _) (by decide)).setElem ((HKc.out.el.setCell _ _).setCell _ _) (by decide)
    ·have hle:=HKc.out.le;exact((HKc.out.below.setCell (by show w.heap.size≤g+1+1;omega) _).setCell (by show w.heap.size≤g+1+1;omega) _).setCell (by show w.heap.size≤g+1+1;omega) _
   ·gi_wp2;refine zao (ro:=none) [4,6,7] [0,1,2,3,5,4,6,7] [0,1,0,0,12,0,63,127] zaq 57 rfl (by kernel_rfl) (by kernel_rfl) ?_;have HKa:=zHi (HK9.out.step (zab _));have HM2a:=zHi (HM29.out.below (zab _));have HM4a:=zHi (HM49.out.below (zab _));have HM8a:=zHi (HM89.out.below (zab _));clear HK9 HM29 HM49 HM89 ca cb;refine OW.fieldAddr rfl rfl ziA rfl ?_;simp only [Go.Act.put,ztQ,ztR,ztS];refine OW.load rfl rfl l4 HKa.out.by'.c0 rfl ?_;simp only [Go.Act.put,ztQ,ztR,ztS];refine OW.move rfl rfl v4 rfl ?_;simp only [Go.Act.put,ztQ,ztR,ztS];refine OW.move rfl rfl v2 rfl ?_;simp only [Go.Act.put,ztQ,ztR,ztS];refine OW.move rfl rfl v8 rfl ?_;simp only [Go.Act.put,ztQ,ztR,ztS];refine OW.call rfl rfl Tryz.func132 rfl zah (args:=[v4,v2]) rfl ?_;refine(zcN w9.drew v4 v2 y x (L+L) HM4a.out HM2a.out (by omega) H2L.out (by omega)).mono ?_;rintro e w10 ⟨v10,rfl,⟨hm10,_⟩,hB10⟩;refine⟨v10,rfl,hB10,?_⟩;simp only [Go.Act.put,ztQ,ztR,ztS];have HKb:=zHi (HKa.out.step hB10);have HM8b:=zHi (HM8a.out.below hB10);have HM10:=zHi hm10;clear hm10 hB10 HKa HM2a HM4a HM8a;refine OW.call rfl rfl Tryz.func117 rfl zah (args:=[.bool false,v10,v8]) rfl ?_;refine(zbp w10 false v10 v8 (y-x) D (L+L+1) HM10.out HM8b.out h30 ?_ ?_ (by omega)).mono ?_
    ·exact Nat.lt_of_le_of_lt (Nat.sub_le _ _) (Nat.lt_of_lt_of_le H2L.out (zag (by omega)))
    ·exact Nat.lt_of_lt_of_le H3L.out (zag (by omega))
    rintro e w11 ⟨v11,rfl,hm11,hB11⟩;refine⟨v11,rfl,hB11,?_⟩;simp only [Go.Act.put,ztQ,ztR,ztS];have HKc:=zHi (HKb.out.step hB11);obtain⟨o,k,c,o2,k2,c2,rfl⟩:=hm11.form;have HR11:=zHi hm11;obtain⟨f,hf⟩:=HKc.out.res;have hst:=zbH hf (x:=.bool (decide ((frac false (y-x) D).num<0))) (y:=.slice o k c) (z:=.slice o2 k2 c2) rfl rfl rfl;clear hm11 hB11 HKb HM8b HM10;refine OW.store (w':=set3 w11 (g+1+1) (.bool (decide ((frac false (y-x) D).num<0))) (.slice o k c) (.slice o2 k2 c2)) rfl rfl (by decide) (zcO rfl rfl hst) ?_;simp only [Go.Act.put];refine OW.done ?_;gi_wp2;refine zbk rfl rfl (g+1+1) rfl (hf 0 (by omega)).1 (hf 1 (by omega)).1 (hf 2 (by omega)).1 ?_;refine⟨_,rfl,?_,?_⟩
    ·rw [HSum];exact((HR11.out.setElem HKc.out.el (by decide)).setElem (HKc.out.el.setCell _ _) (by decide)).setElem ((HKc.out.el.setCell _ _).setCell _ _) (by decide)
    ·have hle:=HKc.out.le;exact((HKc.out.below.setCell (by show w.heap.size≤g+1+1;omega) _).setCell (by show w.heap.size≤g+1+1;omega) _).setCell (by show w.heap.size≤g+1+1;omega) _
   ·exact absurd rfl hab
theorem znI(p q:Rat):p*q=frac (decide (p.num<0) != decide (q.num<0)) (p.num.natAbs*q.num.natAbs) (p.den*q.den):=by
 rw [←zjj,zcT,zcT]
theorem znH(p q:Rat):p/q=frac (decide (p.num<0) != decide (q.num<0)) (p.num.natAbs*q.den) (p.den*q.num.natAbs):=by
 rw [←zlM,zcT,zcT]
theorem zml(w:World)(va vb:Value)(p q:Rat)(L:Nat)(ha:zau w va p)(hb:zau w vb q)(hp:zan p L)(hq:zan q L)(hL:L≤1000000) :
  CallsIn Fence.wide 0 Tryz.prog 94 #[va,vb] w fun e w'=>∃v',e = .returned v'∧zau w' v' (p*q)∧Below w.heap.size w w':=by
 have HA:=zHi ha;have HB:=zHi hb;have HP:=zHi hp;have HQ:=zHi hq;obtain⟨an,ad,rfl,han,had⟩:=ha;obtain⟨bn,bd,rfl,hbn,hbd⟩:=hb;have HAN:=zHi han;have HBN:=zHi hbn;have hS:=znI p q;obtain⟨na,hna⟩:∃na,decide (p.num<0)=na:=⟨_,rfl⟩;obtain⟨nb,hnb⟩:∃nb,decide (q.num<0)=nb:=⟨_,rfl⟩;rw [hna]at HA hS;rw [hnb]at HB hS;rw [hna,hnb];have HSum:=zHi hS;clear han had hbn hbd hna hnb hp hq hS;refine callsIn_of_wp Tryz.func94 rfl trivial ?_ rfl;simp only [Tryz.ntmps94,ztH,ztI,ztJ,Nat.reduceAdd,Nat.reduceSub,ztK,ztL,ztM,ztN,ztO,ztP];gi_wp2;obtain⟨W,hW⟩:∃W,W=((w.alloc (Obj.cells #[Value.bool na,an,ad] 25)).alloc (Obj.cells #[Value.bool nb,bn,bd] 25)).alloc (Obj.cells #[Value.bool false,Value.slice none 0 0,Value.slice none 0 0] 25):=⟨_,rfl⟩;rw [←hW];have HK:Hid (zej w W w.heap.size (.bool na) an ad (.bool nb) bn bd):=by
  rw [hW];exact zfn w _ _ _ _ _ _ _ _ _ _
 replace HA:=zHi (HA.out.below HK.out.below);replace HB:=zHi (HB.out.below HK.out.below);replace HAN:=zHi (HAN.out.below HK.out.below);replace HBN:=zHi (HBN.out.below HK.out.below);obtain⟨g,hg⟩:∃g,w.heap.size=g:=⟨_,rfl⟩;rw [hg]at HK;rw [hg];clear hW;refine zao (ro:=none) [9,11,13,14,15,16] [0,1,2,3,4,5,6,7,8,10,12,9,11,13,14,15,16] [0,1,0,4,15,0,32,0,128,480,0,2016,0,8160,16352,32767,65535] zaq 21 rfl (by kernel_rfl) (by kernel_rfl) ?_;replace HK:=zHi (HK.out.step (zab _));replace HA:=zHi (HA.out.below (zab _));replace HB:=zHi (HB.out.below (zab _));replace HAN:=zHi (HAN.out.below (zab _));replace HBN:=zHi (HBN.out.below (zab _));refine OW.fieldAddr rfl rfl ziA rfl ?_;simp only [Go.Act.put,ztQ,ztR,ztS];refine OW.load rfl rfl l4 HK.out.bx.c0 rfl ?_;simp only [Go.Act.put,ztQ,ztR,ztS];refine OW.fieldAddr rfl rfl ziA rfl ?_;simp only [Go.Act.put,ztQ,ztR,ztS];refine OW.load rfl rfl l4 HK.out.by'.c0 rfl ?_;simp only [Go.Act.put,ztQ,ztR,ztS];refine OW.neqBool rfl rfl ub4 rfl rfl ?_;simp only [Go.Act.put,ztQ,ztR,ztS];refine OW.fieldAddr rfl rfl ziz rfl ?_;simp only [Go.Act.put,ztQ,ztR,ztS];refine OW.load rfl rfl l23 HK.out.bx.c1 rfl ?_;simp only [Go.Act.put,ztQ,ztR,ztS];refine OW.fieldAddr rfl rfl ziz rfl ?_;simp only [Go.Act.put,ztQ,ztR,ztS];refine OW.load rfl rfl l23 HK.out.by'.c1 rfl ?_;simp only [Go.Act.put,ztQ,ztR,ztS];refine OW.loadAll rfl rfl l25 (cs:=[.bool na,an,ad]) rfl (by decide) HK.out.bx rfl ?_;simp only [Go.Act.put,ztQ,ztR,ztS];refine OW.loadAll rfl rfl l25 (cs:=[.bool nb,bn,bd]) rfl (by decide) HK.out.by' rfl ?_;simp only [Go.Act.put,ztQ,ztR,ztS];refine OW.call rfl rfl Tryz.func118 rfl zah (args:=[an,bn]) rfl ?_;refine(zbJ W.drew an bn p.num.natAbs q.num.natAbs L HAN.out HBN.out HP.out.1 HQ.out.1 (by omega)).mono ?_;rintro e w1 ⟨v2,rfl,⟨hm2,_⟩,hB⟩;refine⟨v2,rfl,hB,?_⟩;simp only [Go.Act.put,ztQ,ztR,ztS];replace HK:=zHi (HK.out.step hB);replace HA:=zHi (HA.out.below hB);replace HB:=zHi (HB.out.below hB);replace HAN:=zHi (HAN.out.below hB);replace HBN:=zHi (HBN.out.below hB);have HM2:=zHi hm2;clear hB;refine OW.call rfl rfl Tryz.func64 rfl zah (args:=[.agg #[.bool na,an,ad]]) rfl ?_;refine(za4 w1 _ p HA.out).mono ?_;rintro e w2 ⟨v3,rfl,hm3,hB⟩;refine⟨v3,rfl,hB,?_⟩;simp only [Go.Act.put,ztQ,ztR,ztS];replace HK:=zHi (HK.out.step hB);replace HA:=zHi (HA.out.below hB);replace HB:=zHi (HB.out.below hB);replace HAN:=zHi (HAN.out.below hB);replace HBN:=zHi (HBN.out.below hB);replace HM2:=zHi (HM2.out.below hB);have HM3:=zHi hm3;clear hB;refine OW.call rfl rfl Tryz.func64 rfl zah (args:=[.agg #[.bool nb,bn,bd]]) rfl ?_;refine(za4 w2 _ q HB.out).mono ?_;rintro e w3 ⟨v5,rfl,hm5,hB⟩;refine⟨v5,rfl,hB,?_⟩;simp only [Go.Act.put,ztQ,ztR,ztS];replace HK:=zHi (HK.out.step hB);replace HA:=zHi (HA.out.below hB);replace HB:=zHi (HB.out.below hB);replace HAN:=zHi (HAN.out.below hB);replace HBN:=zHi (HBN.out.below hB);replace HM2:=zHi (HM2.out.below hB);replace HM3:=zHi (HM3.out.below hB);have HM5:=zHi hm5;clear hB;refine OW.call rfl rfl Tryz.func118 rfl zah (args:=[v3,v5]) rfl ?_;refine(zbJ w3 v3 v5 p.den q.den L HM3.out HM5.out HP.out.2 HQ.out.2 (by omega)).mono ?_;rintro e w4 ⟨v4,rfl,⟨hm4,_⟩,hB⟩;refine⟨v4,rfl,hB,?_⟩;simp only [Go.Act.put,ztQ,ztR,ztS];replace HK:=zHi (HK.out.step hB);replace HA:=zHi (HA.out.below hB);replace HB:=zHi (HB.out.below hB);replace HAN:=zHi (HAN.out.below hB);replace HBN:=zHi (HBN.out.below hB);replace HM2:=zHi (HM2.out.below hB);replace HM3:=zHi (HM3.out.below hB);replace HM5:=zHi (HM5.out.below hB);have HM4:=zHi hm4;clear hB;obtain⟨X,hX⟩:∃X,p.num.natAbs*q.num.natAbs=X:=⟨_,rfl⟩;obtain⟨D,hD⟩:∃D,p.den*q.den=D:=⟨_,rfl⟩;have hS:=HSum.out;have hX2:X<B^(L+L):=by rw [←hX];exact zaK HP.out.1 HQ.out.1
 have hD2:D<B^(L+L):=by rw [←hD];exact zaK HP.out.2 HQ.out.2
 have hD0:D≠0:=by rw [←hD];exact Nat.mul_ne_zero p.den_nz q.den_nz
 rw [hX,hD]at hS;rw [hX]at HM2;rw [hD]at HM4;replace HSum:=zHi hS;have HX2:=zHi hX2;have HD2:=zHi hD2;clear hS hX hD hX2 hD2;refine OW.call rfl rfl Tryz.func117 rfl zah (args:=[.bool (na != nb),v2,v4]) rfl ?_;refine(zbp w4 (na != nb) v2 v4 X D (L+L) HM2.out HM4.out hD0 HX2.out HD2.out (by omega)).mono ?_;rintro e w5 ⟨v6,rfl,hm6,hB⟩;refine⟨v6,rfl,hB,?_⟩;simp only [Go.Act.put,ztQ,ztR,ztS];replace HK:=zHi (HK.out.step hB);replace HA:=zHi (HA.out.below hB);replace HB:=zHi (HB.out.below hB);replace HAN:=zHi (HAN.out.below hB);replace HBN:=zHi (HBN.out.below hB);replace HM2:=zHi (HM2.out.below hB);replace HM3:=zHi (HM3.out.below hB);replace HM5:=zHi (HM5.out.below hB);replace HM4:=zHi (HM4.out.below hB);have HR:=zHi hm6;clear hB;obtain⟨o,k,c,o2,k2,c2,rfl⟩:=hm6.form;obtain⟨f,hf⟩:=HK.out.res;have hst:=zbH hf (x:=.bool (decide ((frac (na != nb) X D).num<0))) (y:=.slice o k c) (z:=.slice o2 k2 c2) rfl rfl rfl;refine OW.store (w':=set3 w5 (g+1+1) (.bool (decide ((frac (na != nb) X D).num<0))) (.slice o k c) (.slice o2 k2 c2)) rfl rfl (by decide) (zcO rfl rfl hst) ?_;simp only [Go.Act.put];refine OW.done ?_;gi_wp2;refine zbk rfl rfl (g+1+1) rfl (hf 0 (by omega)).1 (hf 1 (by omega)).1 (hf 2 (by omega)).1 ?_;refine⟨_,rfl,?_,?_⟩
 ·rw [HSum.out];exact((HR.out.setElem HK.out.el (by decide)).setElem (HK.out.el.setCell _ _) (by decide)).setElem ((HK.out.el.setCell _ _).setCell _ _) (by decide)
 ·have hle:=HK.out.le;exact((HK.out.below.setCell (by show w.heap.size≤g+1+1;omega) _).setCell (by show w.heap.size≤g+1+1;omega) _).setCell (by show w.heap.size≤g+1+1;omega) _
theorem zi9(w:World)(va vb:Value)(p q:Rat)(L:Nat)(ha:zau w va p)(hb:zau w vb q)(hp:zan p L)(hq:zan q L)(hq0:q.num≠0)(hL:L≤1000000) :
  CallsIn Fence.wide 0 Tryz.prog 76 #[va,vb] w fun e w'=>∃v',e = .returned v'∧zau w' v' (p/q)∧Below w.heap.size w w':=by
 have HA:=zHi ha;have HB:=zHi hb;have HP:=zHi hp;have HQ:=zHi hq;obtain⟨an,ad,rfl,han,had⟩:=ha;obtain⟨bn,bd,rfl,hbn,hbd⟩:=hb;have HAN:=zHi han;have HBN:=zHi hbn;have hS:=znH p q;obtain⟨na,hna⟩:∃na,decide (p.num<0)=na:=⟨_,rfl⟩;obtain⟨nb,hnb⟩:∃nb,decide (q.num<0)=nb:=⟨_,rfl⟩;rw [hna]at HA hS;rw [hnb]at HB hS;rw [hna,hnb];have HSum:=zHi hS;clear han had hbn hbd hna hnb hp hq hS;refine callsIn_of_wp Tryz.func76 rfl trivial ?_ rfl;simp only [Tryz.ntmps76,ztH,ztI,ztJ,Nat.reduceAdd,Nat.reduceSub,ztK,ztL,ztM,ztN,ztO,ztP];gi_wp2;obtain⟨W,hW⟩:∃W,W=((w.alloc (Obj.cells #[Value.bool na,an,ad] 25)).alloc (Obj.cells #[Value.bool nb,bn,bd] 25)).alloc (Obj.cells #[Value.bool false,Value.slice none 0 0,Value.slice none 0 0] 25):=⟨_,rfl⟩;rw [←hW];have HK:Hid (zej w W w.heap.size (.bool na) an ad (.bool nb) bn bd):=by
  rw [hW];exact zfn w _ _ _ _ _ _ _ _ _ _
 replace HA:=zHi (HA.out.below HK.out.below);replace HB:=zHi (HB.out.below HK.out.below);replace HAN:=zHi (HAN.out.below HK.out.below);replace HBN:=zHi (HBN.out.below HK.out.below);obtain⟨g,hg⟩:∃g,w.heap.size=g:=⟨_,rfl⟩;rw [hg]at HK;rw [hg];clear hW;refine zao (ro:=none) [8,9,11,14,15,16] [0,1,2,3,4,5,6,7,10,12,13,8,9,11,14,15,16] [0,1,0,4,15,0,32,0,128,480,0,2016,0,4096,16352,32767,65535] zaq 21 rfl (by kernel_rfl) (by kernel_rfl) ?_;replace HK:=zHi (HK.out.step (zab _));replace HA:=zHi (HA.out.below (zab _));replace HB:=zHi (HB.out.below (zab _));replace HAN:=zHi (HAN.out.below (zab _));replace HBN:=zHi (HBN.out.below (zab _));refine OW.fieldAddr rfl rfl ziA rfl ?_;simp only [Go.Act.put,ztQ,ztR,ztS];refine OW.load rfl rfl l4 HK.out.bx.c0 rfl ?_;simp only [Go.Act.put,ztQ,ztR,ztS];refine OW.fieldAddr rfl rfl ziA rfl ?_;simp only [Go.Act.put,ztQ,ztR,ztS];refine OW.load rfl rfl l4 HK.out.by'.c0 rfl ?_;simp only [Go.Act.put,ztQ,ztR,ztS];refine OW.neqBool rfl rfl ub4 rfl rfl ?_;simp only [Go.Act.put,ztQ,ztR,ztS];refine OW.fieldAddr rfl rfl ziz rfl ?_;simp only [Go.Act.put,ztQ,ztR,ztS];refine OW.load rfl rfl l23 HK.out.bx.c1 rfl ?_;simp only [Go.Act.put,ztQ,ztR,ztS];refine OW.loadAll rfl rfl l25 (cs:=[.bool nb,bn,bd]) rfl (by decide) HK.out.by' rfl ?_;simp only [Go.Act.put,ztQ,ztR,ztS];refine OW.loadAll rfl rfl l25 (cs:=[.bool na,an,ad]) rfl (by decide) HK.out.bx rfl ?_;simp only [Go.Act.put,ztQ,ztR,ztS];refine OW.fieldAddr rfl rfl ziz rfl ?_;simp only [Go.Act.put,ztQ,ztR,ztS];refine OW.load rfl rfl l23 HK.out.by'.c1 rfl ?_;simp only [Go.Act.put,ztQ,ztR,ztS];refine OW.call rfl rfl Tryz.func64 rfl zah (args:=[.agg #[.bool nb,bn,bd]]) rfl ?_;refine(za4 W.drew _ q HB.out).mono ?_;rintro e w1 ⟨v1,rfl,hm,hB⟩;refine⟨v1,rfl,hB,?_⟩;simp only [Go.Act.put,ztQ,ztR,ztS];replace HK:=zHi (HK.out.step hB);replace HA:=zHi (HA.out.below hB);replace HB:=zHi (HB.out.below hB);replace HAN:=zHi (HAN.out.below hB);replace HBN:=zHi (HBN.out.below hB);have HM1:=zHi hm;clear hB;refine OW.call rfl rfl Tryz.func118 rfl zah (args:=[an,v1]) rfl ?_;refine(zbJ w1 an v1 p.num.natAbs q.den L HAN.out HM1.out HP.out.1 HQ.out.2 (by omega)).mono ?_;rintro e w2 ⟨v2,rfl,⟨hm2,_⟩,hB⟩;refine⟨v2,rfl,hB,?_⟩;simp only [Go.Act.put,ztQ,ztR,ztS];replace HK:=zHi (HK.out.step hB);replace HA:=zHi (HA.out.below hB);replace HB:=zHi (HB.out.below hB);replace HAN:=zHi (HAN.out.below hB);replace HBN:=zHi (HBN.out.below hB);replace HM1:=zHi (HM1.out.below hB);have HM2:=zHi hm2;clear hB;refine OW.call rfl rfl Tryz.func64 rfl zah (args:=[.agg #[.bool na,an,ad]]) rfl ?_;refine(za4 w2 _ p HA.out).mono ?_;rintro e w3 ⟨v3,rfl,hm3,hB⟩;refine⟨v3,rfl,hB,?_⟩;simp only [Go.Act.put,ztQ,ztR,ztS];replace HK:=zHi (HK.out.step hB);replace HA:=zHi (HA.out.below hB);replace HB:=zHi (HB.out.below hB);replace HAN:=zHi (HAN.out.below hB);replace HBN:=zHi (HBN.out.below hB);replace HM1:=zHi (HM1.out.below hB);replace HM2:=zHi (HM2.out.below hB);have HM3:=zHi hm3;clear hB;refine OW.call rfl rfl Tryz.func118 rfl zah (args:=[v3,bn]) rfl ?_;refine(zbJ w3 v3 bn p.den q.num.natAbs L HM3.out HBN.out HP.out.2 HQ.out.1 (by omega)).mono ?_;rintro e w4 ⟨v4,rfl,⟨hm4,_⟩,hB⟩;refine⟨v4,rfl,hB,?_⟩;simp only [Go.Act.put,ztQ,ztR,ztS];replace HK:=zHi (HK.out.step hB);replace HA:=zHi (HA.out.below hB);replace HB:=zHi (HB.out.below hB);replace HAN:=zHi (HAN.out.below hB);replace HBN:=zHi (HBN.out.below hB);replace HM1:=zHi (HM1.out.below hB);replace HM2:=zHi (HM2.out.below hB);replace HM3:=zHi (HM3.out.below hB);have HM4:=zHi hm4;clear hB;obtain⟨X,hX⟩:∃X,p.num.natAbs*q.den=X:=⟨_,rfl⟩;obtain⟨D,hD⟩:∃D,p.den*q.num.natAbs=D:=⟨_,rfl⟩;have hS:=HSum.out;have hX2:X<B^(L+L):=by rw [←hX];exact zaK HP.out.1 HQ.out.2
 have hD2:D<B^(L+L):=by rw [←hD];exact zaK HP.out.2 HQ.out.1
 have hD0:D≠0:=by rw [←hD];exact Nat.mul_ne_zero p.den_nz (by omega)
 rw [hX,hD]at hS;rw [hX]at HM2;rw [hD]at HM4;replace HSum:=zHi hS;have HX2:=zHi hX2;have HD2:=zHi hD2;clear hS hX hD hX2 hD2;refine OW.call rfl rfl Tryz.func117 rfl zah (args:=[.bool (na != nb),v2,v4]) rfl ?_;refine(zbp w4 (na != nb) v2 v4 X D (L+L) HM2.out HM4.out hD0 HX2.out HD2.out (by omega)).mono ?_;rintro e w5 ⟨v6,rfl,hm6,hB⟩;refine⟨v6,rfl,hB,?_⟩;simp only [Go.Act.put,ztQ,ztR,ztS];replace HK:=zHi (HK.out.step hB);replace HA:=zHi (HA.out.below hB);replace HB:=zHi (HB.out.below hB);replace HAN:=zHi (HAN.out.below hB);replace HBN:=zHi (HBN.out.below hB);replace HM1:=zHi (HM1.out.below hB);replace HM2:=zHi (HM2.out.below hB);replace HM3:=zHi (HM3.out.below hB);replace HM4:=zHi (HM4.out.below hB);have HR:=zHi hm6;clear hB;obtain⟨o,k,c,o2,k2,c2,rfl⟩:=hm6.form;obtain⟨f,hf⟩:=HK.out.res;have hst:=zbH hf (x:=.bool (decide ((frac (na != nb) X D).num<0))) (y:=.slice o k c) (z:=.slice o2 k2 c2) rfl rfl rfl;refine OW.store (w':=set3 w5 (g+1+1) (.bool (decide ((frac (na != nb) X D).num<0))) (.slice o k c) (.slice o2 k2 c2)) rfl rfl (by decide) (zcO rfl rfl hst) ?_;simp only [Go.Act.put];refine OW.done ?_;gi_wp2;refine zbk rfl rfl (g+1+1) rfl (hf 0 (by omega)).1 (hf 1 (by omega)).1 (hf 2 (by omega)).1 ?_;refine⟨_,rfl,?_,?_⟩
 ·rw [HSum.out];exact((HR.out.setElem HK.out.el (by decide)).setElem (HK.out.el.setCell _ _) (by decide)).setElem ((HK.out.el.setCell _ _).setCell _ _) (by decide)
 ·have hle:=HK.out.le;exact((HK.out.below.setCell (by show w.heap.size≤g+1+1;omega) _).setCell (by show w.heap.size≤g+1+1;omega) _).setCell (by show w.heap.size≤g+1+1;omega) _
def sgnR(q:Rat):Int:=if q.num<0 then -1 else if q.num=0 then 0 else 1
theorem zdI(w:World)(v:Value)(q:Rat)(h:zau w v q) :
  CallsIn Fence.wide 0 Tryz.prog 17 #[v] w fun e w'=>e = .returned (.int .i64 (sgnR q))∧Below w.heap.size w w':=by
 obtain⟨vn,vd,rfl,hn,hd⟩:=h;obtain⟨o,k,c,rfl,hk,hk9⟩:=zaI hn;obtain⟨o2,k2,c2,rfl,_,_⟩:=zaI hd;have HK:=zHi hk;clear hn hd hk;refine callsIn_of_wp Tryz.func17 rfl trivial ?_ rfl;simp only [Tryz.ntmps17,ztH,ztI,ztJ,Nat.reduceAdd,Nat.reduceSub,ztK,ztL,ztM,ztN,ztO,ztP];by_cases h0:q.num<0
 ·have hs:Hid (sgnR q = -1):=if_pos h0;have hd:decide (q.num<0)=true:=decide_eq_true h0;rw [hd];clear hd h0;gi_wp2;all_goals (first|go_returns|go_ret|go_end0)
  exact⟨by rw [hs.out];rfl,zaa _ _⟩
 ·have hd:decide (q.num<0)=false:=decide_eq_false h0;rw [hd];by_cases h1:q.num=0
  ·have hs:Hid (sgnR q=0):=zHi (by unfold sgnR;rw [if_neg h0,if_pos h1]);have hk0:k=0:=HK.out.2 (by rw [h1];rfl);subst hk0;clear hd h0 h1;gi_wp2;all_goals (first|go_returns|go_ret|go_end0)
   exact⟨by rw [hs.out];rfl,zaa _ _⟩
  ·have hs:Hid (sgnR q=1):=zHi (by unfold sgnR;rw [if_neg h0,if_neg h1]);have hk0:(0:Int)<(k:Int):=by
    rcases Nat.eq_zero_or_pos k with h|h
    ·have:=HK.out.1 h;omega
    ·omega
   clear hd h0 h1;gi_wp2;all_goals (first|go_returns|go_ret|go_end0)
   exact⟨by rw [hs.out];rfl,zaa _ _⟩
theorem zj9(q:Rat):(-q).num = -q.num:=rfl
theorem zhC(q:Rat):(-q).num.natAbs=q.num.natAbs∧(-q).den=q.den:=by
 rw [zj9];exact⟨Int.natAbs_neg _,rfl⟩
theorem zmj(w:World)(x0 x1 x2 z0 z1 z2:Value):let W:=(w.alloc (.cells #[x0,x1,x2] 25)).alloc (.cells #[z0,z1,z2] 25)
  Box3 W w.heap.size x0 x1 x2∧Elem W (w.heap.size+1) 25∧(W.cell? ⟨w.heap.size+1,0,none⟩=some z0∧W.cell? ⟨w.heap.size+1,1,none⟩=some z1∧W.cell? ⟨w.heap.size+1,2,none⟩=some z2) ∧
  (W.frozen? ⟨w.heap.size+1,0,none⟩=false∧W.frozen? ⟨w.heap.size+1,1,none⟩=false∧W.frozen? ⟨w.heap.size+1,2,none⟩=false)∧Below w.heap.size w W:=by
 intro W;have e1:(w.alloc (.cells #[x0,x1,x2] 25)).heap.size=w.heap.size+1:=by simp
 have h2:=zbu (w.alloc (.cells #[x0,x1,x2] 25)) z0 z1 z2 25;rw [e1]at h2;refine⟨(zbu w x0 x1 x2 25).below (zaa _ _),by rw [←e1];exact zaB _ _ _,⟨h2.c0,h2.c1,h2.c2⟩,?_,(zaa w _).alloc (by simp) _⟩;refine⟨?_,?_,?_⟩ <;> (rw [←e1];exact World.frozen?_alloc_new _ _ _ _)
theorem zhD(w:World)(v:Value)(q:Rat)(h:zau w v q) :
  CallsIn Fence.wide 0 Tryz.prog 46 #[v] w fun e w'=>∃v',e = .returned v'∧zau w' v' (-q)∧Below w.heap.size w w':=by
 obtain⟨vn,vd,rfl,hn,hd⟩:=h;have HM0:=zHi hn;have HD0:=zHi hd;obtain⟨o,k,c,rfl,hk,hk9⟩:=zaI hn;obtain⟨o2,k2,c2,rfl,_,_⟩:=zaI hd;have HK:=zHi hk;have HN:=zHi (zhC q);clear hn hd hk;obtain⟨neg,hneg⟩:∃neg,decide (q.num<0)=neg:=⟨_,rfl⟩;have HNG:=zHi hneg;rw [hneg];clear hneg;refine callsIn_of_wp Tryz.func46 rfl trivial ?_ rfl;simp only [Tryz.ntmps46,ztH,ztI,ztJ,Nat.reduceAdd,Nat.reduceSub,ztK,ztL,ztM,ztN,ztO,ztP]
 cases neg with
 | true=>
  have HS:Hid (decide ((-q).num<0)=false):=zHi (decide_eq_false (by have:=of_decide_eq_true HNG.out;rw [zj9];omega));clear HNG;gi_wp2;have HT:=zmj w (.bool true) (.slice o k c) (.slice o2 k2 c2) (.bool false) (.slice o k c) (.slice o2 k2 c2);refine zjW rfl rfl (w.heap.size+1) rfl HT.2.2.1.1 HT.2.2.1.2.1 HT.2.2.1.2.2 ?_;refine⟨_,rfl,⟨.slice o k c,.slice o2 k2 c2,by rw [HS.out],by rw [HN.out.1];exact HM0.out.below HT.2.2.2.2,by rw [HN.out.2];exact HD0.out.below HT.2.2.2.2⟩,HT.2.2.2.2⟩
 | false=>
  by_cases h1:q.num=0
  ·have hk0:k=0:=HK.out.2 (by rw [h1];rfl);have HS:Hid (decide ((-q).num<0)=false):=zHi (decide_eq_false (by rw [zj9];omega));subst hk0;clear HNG h1;gi_wp2;have HT:=zmj w (.bool false) (.slice o 0 c) (.slice o2 k2 c2) (.bool false) (.slice o 0 c) (.slice o2 k2 c2);refine zjW rfl rfl (w.heap.size+1) rfl HT.2.2.1.1 HT.2.2.1.2.1 HT.2.2.1.2.2 ?_;refine⟨_,rfl,⟨.slice o 0 c,.slice o2 k2 c2,by rw [HS.out],by rw [HN.out.1];exact HM0.out.below HT.2.2.2.2,by rw [HN.out.2];exact HD0.out.below HT.2.2.2.2⟩,HT.2.2.2.2⟩
  ·have hk0:(0:Int)<(k:Int):=by
    rcases Nat.eq_zero_or_pos k with h|h
    ·have:=HK.out.1 h;omega
    ·omega
   have hk1:decide ((0:Int)<(k:Int))=true:=decide_eq_true hk0;have HS:Hid (decide ((-q).num<0)=true):=zHi (decide_eq_true (by have:=of_decide_eq_false HNG.out;rw [zj9];omega));clear HNG h1;gi_wp2;have HT:=zmj w (.bool false) (.slice o k c) (.slice o2 k2 c2) (.bool true) (.slice o k c) (.slice o2 k2 c2);rw [show decide (0<k)=true from decide_eq_true (by omega)];refine zjW rfl rfl (w.heap.size+1) rfl HT.2.2.1.1 HT.2.2.1.2.1 HT.2.2.1.2.2 ?_;refine⟨_,rfl,⟨.slice o k c,.slice o2 k2 c2,by rw [HS.out],by rw [HN.out.1];exact HM0.out.below HT.2.2.2.2,by rw [HN.out.2];exact HD0.out.below HT.2.2.2.2⟩,HT.2.2.2.2⟩
structure Env where
 z:Nat→Int
 q:Nat→Rat
def ev(E:Env):Tg→Int × Rat
 | .leaf k=>(E.z k,E.q k)
 | .un 1 a=>let x:=ev E a;(-x.1,-x.2)
 | .un 20 a=>let x:=ev E a;(sgn false x.1.natAbs,0)
 | .un 21 a=>let x:=ev E a;(sgn true x.1.natAbs,0)
 | .un 30 a=>let x:=ev E a;(x.2.num,0)
 | .un 31 a=>let x:=ev E a;((x.2.den:Int),0)
 | .bin 1 a b=>let x:=ev E a;let y:=ev E b;(x.1+y.1,x.2+y.2)
 | .bin 2 a b=>let x:=ev E a;let y:=ev E b;(x.1-y.1,x.2-y.2)
 | .bin 3 a b=>let x:=ev E a;let y:=ev E b;(x.1*y.1,x.2*y.2)
 | .bin 4 a b=>let x:=ev E a;let y:=ev E b;(0,x.2/y.2)
 | .bin 11 a b=>let x:=ev E a;let y:=ev E b;((x.1.natAbs+y.1.natAbs:Nat),0)
 | .bin 12 a b=>let x:=ev E a;let y:=ev E b;((x.1.natAbs-y.1.natAbs:Nat),0)
 | .bin 13 a b=>let x:=ev E a;let y:=ev E b;((x.1.natAbs*y.1.natAbs:Nat),0)
 | .bin 14 a b=>let x:=ev E a;let y:=ev E b;((Nat.gcd x.1.natAbs y.1.natAbs:Nat),0)
 | .bin 15 a b=>let x:=ev E a;let y:=ev E b;((x.1.natAbs/y.1.natAbs:Nat),0)
 | .bin 16 a b=>let x:=ev E a;let y:=ev E b;((x.1.natAbs%y.1.natAbs:Nat),0)
 | .bin 17 a b=>let x:=ev E a;let y:=ev E b;(sgn (decide (x.1<0) != decide (y.1<0)) (x.1.natAbs/y.1.natAbs),0)
 | .bin 40 a b=>let x:=ev E a;let y:=ev E b;(0,(x.1:Rat)/(y.1:Rat))
 | _=>(0,0)
def evZ(E:Env)(t:Tg):Int:=(ev E t).1
def evN(E:Env)(t:Tg):Nat:=(ev E t).1.natAbs
def evQ(E:Env)(t:Tg):Rat:=(ev E t).2
def sz(L:Nat):Tg→Nat
 | .leaf _=>L
 | .un _ a=>sz L a
 | .bin _ a b=>sz L a+sz L b+1
def zg0(L:Nat)(E:Env):Prop:=0<L∧∀k,(E.z k).natAbs<B^L∧zan (E.q k) L
theorem zan.mono{q:Rat}{L M:Nat}(h:zan q L)(hL:L≤M):zan q M:=⟨Nat.lt_of_lt_of_le h.1 (zag hL),Nat.lt_of_lt_of_le h.2 (zag hL)⟩
theorem zaX{x a:Nat}(b:Nat)(h:x<B^a)(hab:a≤b):x<B^b:=Nat.lt_of_lt_of_le h (zag hab)
theorem zhM{s:Bool}{n d L:Nat}(hd:d≠0)(hn:n<B^L)(hdL:d<B^L):zan (frac s n d) L:=by
 have h:=zdS (neg:=s) (n:=n) hd;exact⟨by rw [h.1];exact Nat.lt_of_le_of_lt (Nat.div_le_self _ _) hn,by rw [h.2.1];exact Nat.lt_of_le_of_lt (Nat.div_le_self _ _) hdL⟩
theorem zdJ{L:Nat}(h:0<L):zan 0 L:=by
 have:1<B^L:=Nat.lt_of_lt_of_le (by decide:1<B^1) (zag h);exact⟨by show 0<_;omega,this⟩
theorem zp0{q:Rat}{L:Nat}(h:zan q L):0<L:=by
 apply Classical.byContradiction
 intro hno;have:L=0:=by omega
 subst this;have h1:=h.2;have h2:=q.den_pos;rw [Nat.pow_zero]at h1;omega
theorem zeE{q:Rat}{L:Nat}(h:zan q L):zan (-q) L:=⟨by rw [(zhC q).1];exact h.1,by rw [(zhC q).2];exact h.2⟩
theorem zhr{p q:Rat}{a b:Nat}(hp:zan p a)(hq:zan q b):zan (p+q) (a+b+1):=by
 have h1:=zaK hp.1 hq.2;have h2:q.num.natAbs*p.den<B^(a+b):=by rw [Nat.add_comm];exact zaK hq.1 hp.2
 have h3:=zaK hp.2 hq.2;have hd:p.den*q.den≠0:=Nat.mul_ne_zero p.den_nz q.den_nz;have h4:B^(a+b)+B^(a+b)≤B^(a+b+1):=by
  rw [Nat.pow_succ];have:B^(a+b)*2≤B^(a+b)*B:=Nat.mul_le_mul_left _ (by decide);omega
 rw [zpZ p q];split
 ·exact zhM hd (by omega) (by omega)
 ·split
  ·exact zhM hd (by omega) (by omega)
  ·exact zhM hd (by omega) (by omega)
theorem zfX{p q:Rat}{a b:Nat}(hp:zan p a)(hq:zan q b):zan (p*q) (a+b):=by
 rw [znI];exact zhM (Nat.mul_ne_zero p.den_nz q.den_nz) (zaK hp.1 hq.1) (zaK hp.2 hq.2)
theorem zfY{p q:Rat}{a b:Nat}(hp:zan p a)(hq:zan q b):zan (p/q) (a+b):=by
 by_cases h0:q.num=0
 ·have:q=0:=Rat.num_eq_zero.1 h0;rw [this,show p/0=0 by simp [Rat.div_def]];exact zdJ (by have:=zp0 hp;omega)
 ·rw [znH];exact zhM (Nat.mul_ne_zero p.den_nz (by omega)) (zaK hp.1 hq.2) (zaK hp.2 hq.1)
theorem zlf{z:Int}{L:Nat}(h:z.natAbs<B^L)(hL:0<L):zan (z:Rat) L:=by
 have:1<B^L:=Nat.lt_of_lt_of_le (by decide:1<B^1) (zag hL);exact⟨h,this⟩
theorem zke{x y:Int}{a b:Nat}(hx:x.natAbs<B^a)(hy:y.natAbs<B^b):x.natAbs+y.natAbs<B^(a+b+1):=by
 have h1:B^a≤B^(a+b):=zag (by omega);have h2:B^b≤B^(a+b):=zag (by omega);have h4:B^(a+b)*2≤B^(a+b)*B:=Nat.mul_le_mul_left _ (by decide);rw [←Nat.pow_succ]at h4;have e:(a+b).succ=a+b+1:=rfl;rw [e]at h4;omega
theorem zpA{L:Nat}(hL:0<L)(t:Tg):0<sz L t:=by
 induction t with
 | leaf k=>exact hL
 | un k a ih=>exact ih
 | bin k a b=>show 0<sz L a+sz L b+1;omega
theorem zqL{L:Nat}{E:Env}(hE:zg0 L E)(t:Tg):(ev E t).1.natAbs<B^sz L t∧zan (ev E t).2 (sz L t):=by
 have z0:∀t:Tg,(0:Int).natAbs<B^sz L t:=fun t=>by show 0<B^sz L t;exact zar _
 have q0:∀t:Tg,zan 0 (sz L t):=fun t=>zdJ (zpA hE.1 t)
 induction t with
 | leaf k=>exact⟨(hE.2 k).1,(hE.2 k).2⟩
 | un k a ih=>
  have e:sz L (.un k a)=sz L a:=rfl;rw [e];unfold ev;split
  all_goals (try rename_i h;try (cases h))
  all_goals first
   | exact⟨by simpa using ih.1,zeE ih.2⟩
   | exact⟨by rw [zbl];exact ih.1,q0 a⟩
   | exact⟨ih.2.1,q0 a⟩
   | exact⟨ih.2.2,q0 a⟩
   | exact⟨z0 a,q0 a⟩
 | bin k a b iha ihb=>
  have hs:=zke iha.1 ihb.1;have hm:(ev E a).1.natAbs*(ev E b).1.natAbs<B^(sz L a+sz L b+1):=Nat.lt_of_lt_of_le (zaK iha.1 ihb.1) (zag (by omega));have ha1:(ev E a).1.natAbs<B^(sz L a+sz L b+1):=Nat.lt_of_lt_of_le iha.1 (zag (by omega));have hb1:(ev E b).1.natAbs<B^(sz L a+sz L b+1):=Nat.lt_of_lt_of_le ihb.1 (zag (by omega));have hq:zan 0 (sz L a+sz L b+1):=zdJ (by omega);show(ev E (.bin k a b)).1.natAbs<B^(sz L a+sz L b+1)∧zan (ev E (.bin k a b)).2 (sz L a+sz L b+1)
  unfold ev;split
  all_goals (try rename_i h;try (cases h))
  all_goals first
   | exact⟨by show((ev E a).1+(ev E b).1).natAbs<_;omega,zhr iha.2 ihb.2⟩
   | exact⟨by show((ev E a).1-(ev E b).1).natAbs<_;omega,by show zan ((ev E a).2-(ev E b).2) _;rw [Rat.sub_eq_add_neg];exact zhr iha.2 (zeE ihb.2)⟩
   | exact⟨by rw [Int.natAbs_mul];exact hm,(zfX iha.2 ihb.2).mono (by omega)⟩
   | exact⟨z0 (.bin 4 a b),(zfY iha.2 ihb.2).mono (by omega)⟩
   | exact⟨z0 (.bin 40 a b),(zfY (zlf iha.1 (zpA hE.1 a)) (zlf ihb.1 (zpA hE.1 b))).mono (by omega)⟩
   | exact⟨hs,hq⟩
   | exact⟨Nat.lt_of_le_of_lt (Nat.sub_le _ _) ha1,hq⟩
   | exact⟨hm,hq⟩
   | exact⟨Nat.lt_of_le_of_lt (Nat.div_le_self _ _) ha1,hq⟩
   | exact⟨by rw [zbl];exact Nat.lt_of_le_of_lt (Nat.div_le_self _ _) ha1,hq⟩
   | exact⟨Nat.lt_of_le_of_lt (Nat.mod_le _ _) ha1,hq⟩
   | exact⟨by
     show Nat.gcd (ev E a).1.natAbs (ev E b).1.natAbs<_
     rcases Nat.eq_zero_or_pos (ev E a).1.natAbs with h0|h0
     ·rw [h0,Nat.gcd_zero_left];exact hb1
     ·exact Nat.lt_of_le_of_lt (Nat.le_of_dvd h0 (Nat.gcd_dvd_left _ _)) ha1,hq⟩
   | exact⟨zar _,hq⟩
end Go.Num
namespace Go.Eng
open Go.RowKit
abbrev TTab:=FuncId→AT→Option AT
def TTab.or(T U:TTab):TTab:=fun f ts=>match T f ts with|some r=>some r|none=>U f ts
def t1(g:FuncId)(A:AT→Option Tg)(cond:Tg→Bool)(R:Tg→AT):TTab:=fun f ts=>
 bif Nat.beq f g then
  match ts with
  | .cons a .nil=>match A a with
   | some x=>bif cond x then some (R x)else none
   | none=>none
  | _=>none
 else none
def t2(g:FuncId)(A C:AT→Option Tg)(cond:Tg→Tg→Bool)(R:Tg→Tg→AT):TTab:=fun f ts=>
 bif Nat.beq f g then
  match ts with
  | .cons a (.cons c .nil)=>match A a,C c with
   | some x,some y=>bif cond x y then some (R x y)else none
   | _,_=>none
  | _=>none
 else none
section
variable {P:Program} {G:Sett}
theorem zbZ.or{T U:TTab}(h:zbZ P G T)(k:zbZ P G U):zbZ P G (T.or U):=by
 intro f ts rs q;unfold TTab.or at q;split at q
 ·rename_i r hr
  cases q
  exact h _ _ _ hr
 ·exact k _ _ _ q
theorem zpp:zbZ P G (fun _ _=>none):=fun _ _ _ q=>by cases q
def zkH(P:Program)(g:FuncId):Prop:=∃fn:Func,P.funcs[g]? = some fn∧fn.body.isSome=true
theorem zpo{g:FuncId}{A:AT→Option Tg}{cond:Tg→Bool}{R:Tg→AT}(hb:zkH P g)(M:Tg→Value→World→Prop)(hA:∀a x,A a=some x→∀v w,za9 G a v w→M x v w)
  (h:∀x,cond x=true→∀w v,M x v w→Calls P g #[v] w fun e w'=>∃r,e = .returned r∧zdq G (R x) r w'∧Below w.heap.size w w'):zbZ P G (t1 g A cond R):=by
 intro f ts rs q;unfold t1 at q
 cases hf:Nat.beq f g with
 | false=>rw [hf]at q;cases q
 | true=>
  rw [hf]at q;have hf:=(zam _ _).1 hf;subst hf;refine⟨hb,fun w xs hx => ?_⟩;simp only [cond_true]at q;split at q
  ·rename_i a;split at q
   ·rename_i x hxa
    cases hc:cond x with
    | false=>rw [hc]at q;cases q
    | true=>
     rw [hc]at q
     cases q
     obtain⟨v,r,e,h1,h2⟩:=hx;have h2:r = []:=h2;subst h2;have e':xs=#[v]:=Array.toList_inj.1 (by simpa using e);subst e';exact h x hc w v (hA _ _ hxa _ _ h1)
   ·cases q
  ·cases q
theorem zcv{g:FuncId}{A C:AT→Option Tg}{cond:Tg→Tg→Bool}{R:Tg→Tg→AT}(hb:zkH P g)(M N:Tg→Value→World→Prop)(hA:∀a x,A a=some x→∀v w,za9 G a v w→M x v w)(hC:∀a x,C a=some x→∀v w,za9 G a v w→N x v w)
  (h:∀x y,cond x y=true→∀w v u,M x v w→N y u w→Calls P g #[v,u] w fun e w'=>∃r,e = .returned r∧zdq G (R x y) r w'∧Below w.heap.size w w'):zbZ P G (t2 g A C cond R):=by
 intro f ts rs q;unfold t2 at q
 cases hf:Nat.beq f g with
 | false=>rw [hf]at q;cases q
 | true=>
  rw [hf]at q;have hf:=(zam _ _).1 hf;subst hf;refine⟨hb,fun w xs hx => ?_⟩;simp only [cond_true]at q;split at q
  ·rename_i a c;split at q
   ·rename_i x y hxa hyc
    cases hc:cond x y with
    | false=>rw [hc]at q;cases q
    | true=>
     rw [hc]at q
     cases q
     obtain⟨v,r,e,h1,u,r2,e2,h3,h4⟩:=hx;subst e2;have h4:r2 = []:=h4;subst h4;have e':xs=#[v,u]:=Array.toList_inj.1 (by simpa using e);subst e';exact h x y hc w v u (hA _ _ hxa _ _ h1) (hC _ _ hyc _ _ h3)
   ·cases q
  ·cases q
end
end Go.Eng
