/-
  A natural number of the reference: its limbs in memory. What 'AddN' and 'SubN' of the reference answer. What 'div' of magnitudes answers. Wh
  Conditions: see each statement.
-/
import Derived.Test.YtepakfjilnpodaaGreatDoorRBAA
import Derived.Test.YtepakfjilnpodaaGreatDoorRBAG
import Derived.Test.YtepakfjilnpodaaGreatDoorRBAF
set_option maxRecDepth 100000
set_option maxHeartbeats 8000000
namespace Go.Num
open Go.RowKit Go.Proofs Go.Proofs.YtepakfjilnpodaaGreatDoor
theorem zaq.below{w w':World}{v:Value}{n:Nat}(h:zaq w v n)(hb:Below w.heap.size w w'):zaq w' v n:=by
 obtain⟨k,hk,hl⟩:=h;exact⟨k,hk,hl.below hb⟩
theorem zaq.mag{w:World}{v:Value}{n k:Nat}(h:zaq w v n)(hk:zcV n k):zbE w v n k:=by
 obtain⟨k',hk',hl⟩:=h;rw [hk.unique hk'];exact hl
theorem zdD(w:World)(o:Option Addr)(c:Nat):zaq w (.slice o 0 c) 0:=⟨0,zcf,.inl ⟨rfl,o,c,rfl⟩⟩
theorem zh0{d:Nat}(h0:0<d)(hB:d<B):zcV d 1:=⟨by rw [Nat.pow_one];exact hB,.inr (by simp;omega)⟩
theorem zgJ{d:Nat}(hB:d<B):limb d 0=d:=by unfold limb;rw [Nat.pow_zero,Nat.div_one,Nat.mod_eq_of_lt hB]
theorem zk5(w:World)(d:Nat)(h0:0<d)(hB:d<B):zaq (w.alloc (.cells #[.int .u64 (d:Int)] 116)) (.slice (some ⟨w.heap.size,0,none⟩) 1 1) d:=by
 refine⟨1,zh0 h0 hB,.inr ⟨⟨w.heap.size,0,none⟩,1,rfl,by omega,Nat.le_refl _,by omega,zaO _ _ _,fun i hi => ?_⟩⟩;obtain rfl:i=0:=by omega
 rw [Addr.add_lit,Nat.zero_add,World.cell?_alloc_new,zgJ hB];rfl
theorem zaa(w:World)(o:Obj):Below w.heap.size w (w.alloc o):=(Below.refl _ w).alloc (Nat.le_refl _) o
theorem zaq.setCell{w:World}{v:Value}{x g i:Nat}(h:zaq w v x)(hne:v.ownBlock≠some g)(u:Value):zaq (w.setCell ⟨g,i,none⟩ u) v x:=by
 obtain⟨k,hk,hl⟩:=h;refine⟨k,hk,?_⟩;rcases hl with h|⟨a,cap,rfl,h2,h3,h4,h5,h6⟩
 ·exact .inl h
 ·refine .inr ⟨a,cap,rfl,h2,h3,h4,h5.setCell _ _,fun j hj => ?_⟩;have hb:(a.add j).block≠g:=by rw [zaf];exact fun e=>hne (by simp [Value.ownBlock,e])
  rw [World.cell?_setCell_other _ _ _ _ (by intro q;exact hb (by rw [←q]))];exact h6 j hj
theorem zaq.lt{w:World}{v:Value}{x:Nat}(h:zaq w v x)(h0:0<x):∀g,w.heap.size≤g→v.ownBlock≠some g:=by
 intro g hg;obtain⟨k,hk,hl⟩:=h;rcases hl with⟨rfl,_⟩|⟨a,cap,rfl,h2,h3,h4,h5,h6⟩
 ·have:=hk.zero;omega
 ·intro e;have:a.block=g:=by simpa [Value.ownBlock]using e
  have:=h5.lt;omega
theorem zpy{x y:Nat}{r:Int}(h:zpQ x y r)(hg:y<x):0<r:=by
 have h1:=h.1;have h2:=h.2;apply Classical.byContradiction
 intro hno;rcases Int.lt_or_eq_of_le (Int.not_lt.1 hno)with h3|h3
 ·have:=h1.1 h3;omega
 ·have:=h2.1 h3;omega
theorem znm{x y:Nat}{r:Int}(h:zpQ x y r)(hg:¬y<x):¬0<r:=by
 have h1:=h.1;have h2:=h.2;intro hp;rcases Nat.lt_trichotomy x y with h3|h3|h3
 ·have:=h1.2 h3;omega
 ·have:=h2.2 h3;omega
 ·omega
structure zdH(w0 wr:World)(vr vc vd:Value)(R c d g n:Nat)(f:Nat→Value):Prop where
 rest:zaq wr vr R
 restNe:vr.ownBlock≠some g
 div:zaq wr vc c
 divNe:vc.ownBlock≠some g
 by':zaq wr vd d
 byNe:vd.ownBlock≠some g
 arr:zag wr g n f
 el:Elem wr g 116
 lt:g<wr.heap.size
 below:Below w0.heap.size w0 wr
theorem zdH.step{w0 wr w':World}{vr vc vd:Value}{R c d g n:Nat}{f:Nat→Value}(h:zdH w0 wr vr vc vd R c d g n f)(hb:Below wr.heap.size wr w'):zdH w0 w' vr vc vd R c d g n f:=
 ⟨h.rest.below hb,h.restNe,h.div.below hb,h.divNe,h.by'.below hb,h.byNe,h.arr.below h.lt hb,h.el.below hb h.lt,Nat.lt_of_lt_of_le h.lt hb.size,h.below.trans (hb.mono h.below.size)⟩
theorem zih(w:World)(va vb:Value)(x y L:Nat)(ha:zaq w va x)(hb:zaq w vb y)(hy:0<y)(hx:x<B^L)(hyL:y<B^L)(hL:L≤10000000) :
  CallsIn Fence.wide 0 Tryz.prog 181 #[va,vb] w fun e w'=>∃vq vr,e = .returned (.tuple #[vq,vr])∧(zaq w' vq (x/y)∧zdp w.heap.size vq)∧zaq w' vr (x%y)∧Below w.heap.size w w':=by
 have HA:=zHi ha;have HB:=zHi hb;have HX:=zHi hx;have HY:=zHi hyL;clear hx hyL;by_cases hxy:x<y
 ·refine callsIn_of_wp Tryz.func181 rfl trivial ?_ rfl;simp only [Tryz.ntmps181,zsj,zsk,zsl,Nat.reduceAdd,Nat.reduceSub,zsm,zsn,zso,zsp,zsq,zsr];have HC:=zHi (zea w va vb x y ha hb);clear ha hb;gi_wp2_with (gi_at_call 135;refine HC.out.mono ?_;rintro e w1 ⟨r,hr,rfl,hB1⟩;have hr0:r<0:=hr.1.2 hxy;have HB1:=zHi hB1;clear hr hB1)
  all_goals (first|go_returns|go_ret|go_end0)
  refine⟨_,_,rfl,?_,?_,HB1.out⟩
  ·rw [Nat.div_eq_of_lt hxy];exact⟨zdD _ _ _,fun k h=>by cases h⟩
  ·rw [Nat.mod_eq_of_lt hxy];exact HA.out.below HB1.out
 ·by_cases hy1:y<B
  ·obtain⟨l,hl,hlb⟩:=hb;have hl1:l=1:=hl.unique (zh0 hy hy1);subst hl1;obtain⟨o2,c2,rfl,h2⟩:=hlb.form;obtain⟨a2,rfl,ha2,hc2⟩:=h2 (by omega);have hc0:=hc2 0 (by omega);rw [zgJ hy1]at hc0;have hc1:w.cell? a2=some (.int .u64 (y:Int)):=hc0;clear hc2 hc0 h2 hlb hl;refine callsIn_of_wp Tryz.func181 rfl trivial ?_ rfl;simp only [Tryz.ntmps181,zsj,zsk,zsl,Nat.reduceAdd,Nat.reduceSub,zsm,zsn,zso,zsp,zsq,zsr];have HC:=zHi (zea w va _ x y ha HB.out);clear ha;gi_wp2_with (gi_at_call 135;refine HC.out.mono ?_;rintro e w1 ⟨r,hr,rfl,hB1⟩;have hr0:¬r<0:=fun h=>hxy (hr.1.1 h);have HB1:=zHi hB1;have p1:=(hB1.cell (p:=a2) ha2).trans hc1;have HS:=zHi (zhD w1 va x y (HA.out.below hB1) hy hy1);clear hr hB1)
   gi_wp2_with (gi_at_call 211;refine HS.out.mono ?_;rintro e w2 ⟨vq,rfl,hm,hB2⟩;have HM:=zHi hm;have HB2:=zHi hB2;clear hm hB2)
   have hr1:x%y<18446744073709551616:=by
    have:=Nat.mod_lt x hy;have hBB:B=1000000000:=rfl;omega
   have HS2:=fun w2=>zHi (zeo w2 (x%y) hr1)
   gi_wp2_with (gi_at_call 72;refine(HS2 _).out.mono ?_;rintro e w3 ⟨vr,rfl,hm,hB3⟩;have HM3:=zHi hm;have HB3:=zHi hB3;clear hm hB3)
   all_goals (first|go_returns|go_ret|go_end0)
   exact⟨_,_,rfl,⟨HM.out.1.below HB3.out,HM.out.2.mono HB1.out.size⟩,HM3.out.1,(HB1.out.trans (HB2.out.mono HB1.out.size)).trans (HB3.out.mono (Nat.le_trans HB1.out.size HB2.out.size))⟩
  ·obtain⟨l,hl⟩:∃l,zcV y (l+1):=by
    obtain⟨k,hk,_⟩:=hb;rcases Nat.eq_zero_or_pos k with h|h
    ·subst h;exact absurd hk.zero (by omega)
    ·exact⟨k-1,by rw [Nat.sub_add_cancel h];exact hk⟩
   have hlb:=hb.mag hl;have hlL:=hl.le HY.out;have hl0:l≠0:=fun e=>by subst e;exact hy1 (by have:=hl.1;rw [Nat.zero_add,Nat.pow_one]at this;exact this)
   have tg:=zky hl;have ht:=hl.top;have htB:=zaB y l;obtain⟨o2,c2,rfl,h2⟩:=hlb.form;obtain⟨a2,rfl,ha2,hc2⟩:=h2 (by omega);have hc0:=hc2 l (by omega);obtain⟨t,hts⟩:∃t,limb y l=t:=⟨_,rfl⟩;rw [hts]at tg ht htB hc0;obtain⟨d,hd⟩:∃d,B/(t+1)=d:=⟨_,rfl⟩;have ed:(1000000000:Int)/((t:Int)+1)=(d:Int):=by rw [←hd];simp [B]
   rw [hd]at tg;have hBB:B=1000000000:=rfl;have hd0:=tg.2.1;have hdB:=tg.2.2.1;rw [hBB]at htB;obtain⟨c,hcc⟩:∃c,y*d=c:=⟨_,rfl⟩;obtain⟨A,hAA⟩:∃A,x*d=A:=⟨_,rfl⟩;have hsc:A/c=x/y∧A%c/d=x%y:=by rw [←hcc,←hAA];exact zkM hd0
   rw [hcc]at tg;have HTG:=zHi tg;have HSC:=zHi hsc;have HCC:=zHi hcc;have HAA:=zHi hAA;have HLY:=zHi hl;have hAL:A<B^(L+1):=by rw [←hAA];exact zaI HX.out (by rw [Nat.pow_one];exact hdB)
   have hcL:c<B^(L+1):=Nat.lt_of_lt_of_le tg.1.1 (zah (by omega));have HAL:=zHi hAL;have HCL:=zHi hcL;have hdL:d<B^(L+1):=Nat.lt_of_lt_of_le hdB (by have:=zah (i:=1) (j:=L+1) (by omega);rw [Nat.pow_one]at this;exact this);have HDL:=zHi hdL;clear hts hd hcc hAA hsc tg hlb hl hc2 h2 hAL hcL hdL;refine callsIn_of_wp Tryz.func181 rfl trivial ?_ rfl;simp only [Tryz.ntmps181,zsj,zsk,zsl,Nat.reduceAdd,Nat.reduceSub,zsm,zsn,zso,zsp,zsq,zsr];have HC:=zHi (zea w va _ x y ha HB.out);clear ha hb;gi_wp2_with (gi_at_call 135;refine HC.out.mono ?_;rintro e w1 ⟨r,hr,rfl,hB1⟩;have hr0:¬r<0:=fun h=>hxy (hr.1.1 h);have HB1:=zHi hB1;have p1:=(hB1.cell (p:=a2.add l) (by rw [zaf];exact ha2)).trans hc0;clear hr hB1)
   gi_wp2_with (gi_at_call 131;refine stop ?_)
   unfold Stop;obtain⟨W,hW⟩:∃W,W=w1.alloc (.cells #[.int .u64 (d:Int)] 116):=⟨_,rfl⟩;rw [←hW];have HMD:Hid (zaq W (.slice (some ⟨w1.heap.size,0,none⟩) 1 1) d):=by rw [hW];exact zk5 w1 d hd0 hdB
   have HWB:Hid (Below w.heap.size w W):=by rw [hW];exact HB1.out.trans ((zaa w1 _).mono HB1.out.size)
   have hgbW:w1.heap.size<W.heap.size:=by rw [hW];simp
   obtain⟨gb,hgb⟩:∃gb,w1.heap.size=gb:=⟨_,rfl⟩;rw [hgb]at HMD hgbW;rw [hgb];clear hW p1 HB1 HC hgb;refine(zbX W va _ x d (L+1) (HA.out.below HWB.out) HMD.out (Nat.lt_of_lt_of_le HX.out (zah (by omega))) HDL.out (by omega)).mono ?_;rintro e w2 ⟨v9,rfl,⟨hm,_⟩,hB2⟩;rw [HAA.out]at hm;have HM9:=zHi hm;have HB2:=zHi (HWB.out.trans (hB2.mono HWB.out.size));have HMD2:=zHi (HMD.out.below hB2);have hgb2:gb<w2.heap.size:=Nat.lt_of_lt_of_le hgbW hB2.size;clear hm hB2 HMD HWB hgbW;gi_wp2_with (gi_at_call 131;refine stop ?_)
   unfold Stop;refine(zbX w2 _ _ y d (L+1) (HB.out.below HB2.out) HMD2.out (Nat.lt_of_lt_of_le HY.out (zah (by omega))) HDL.out (by omega)).mono ?_;rintro e w3 ⟨v10,rfl,⟨hm,_⟩,hB3⟩;rw [HCC.out]at hm;have hm2:=hm.mag HTG.out.1;obtain⟨o10,c10,rfl,h10⟩:=hm2.form;obtain⟨a10,rfl,ha10,hc10⟩:=h10 (by omega);have hct:=hc10 l (by omega);have HMC:=zHi hm;obtain⟨kA,hkA,hlA⟩:=HM9.out.below hB3;obtain⟨o9,c9,rfl,h9⟩:=hlA.form;have hkAL:=hkA.le HAL.out;have HKA:=zHi hkA;have HM93:=zHi (HM9.out.below hB3);have HB3:=zHi (HB2.out.trans (hB3.mono HB2.out.size));have HMD3:=zHi (HMD2.out.below hB3);have hgb3:gb<w3.heap.size:=Nat.lt_of_lt_of_le hgb2 hB3.size;obtain⟨top,htop⟩:∃top,limb c l=top:=⟨_,rfl⟩;rw [htop]at hct;have HTOP:=zHi htop;have htopge:500000000≤top:=by
    have:=HTG.out.2.2.2;rw [htop,hBB]at this;omega
   have htopB:top<1000000000:=by rw [←htop];exact zaB c l
   obtain⟨n,hn⟩:∃n,n=kA-(l+1)+1:=⟨_,rfl⟩;clear hm hB3 hm2 h10 hc10 hkA hlA h9 HMD2 HB2 hgb2 HM9 htop ed hc0;have hkA1:l+1≤kA:=by
    apply Classical.byContradiction
    intro hno;have h1:=zgO HKA.out HTG.out.1 (by omega);have h2:c≤A:=by rw [←HCC.out,←HAA.out];exact Nat.mul_le_mul_right _ (by omega)
    omega
   have hn2:n+l=kA:=by omega
   clear hn;have hAn:A<c*B^n:=by
    have h1:=HKA.out.1;have h2:=HTG.out.1.2;have h3:B^l≤c:=by rcases h2 with h|h;omega;simpa using h
    have h4:B^l*B^n≤c*B^n:=Nat.mul_le_mul_right _ h3;rw [←Nat.pow_add,show l+n=kA by omega]at h4;omega
   have HAN:=zHi hAn;clear hAn;gi_wp2_with (gi_at_make;refine stop ?_)
   all_goals
    unfold Stop;refine zaS _ rfl _ _ _ rfl w3.heap.size 116 Tryz.t116 _ 1 Go.Num.u23 zcz zdx zcY _ _ _ _ n rfl rfl (by omega) (by omega) (by rw [zcM];omega) (by unfold maxLen;omega) (Nat.le_refl _) ?_;intro W4 hown hgrow;obtain⟨g,hg'⟩:∃g,w3.heap.size=g:=⟨_,rfl⟩;have hB34:Below w3.heap.size w3 W4:=(Below.refl _ w3).grown hgrow (Nat.le_refl _) (fun _ h=>by cases h);have hgW:g<W4.heap.size:=(zag.of_row hown (n:=n) (f:=fun _ => .int .u64 0) (fun i hi=>zd3 (by omega))).lt (by omega) |> fun h=>by rw [hg']at h;exact h
    have HK4:Hid (zdH w W4 (.slice o9 kA c9) (.slice (some a10) (l+1) c10) (.slice (some ⟨gb,0,none⟩) 1 1) A c d g n fun i => .int .u64 ((topL (A/c) n i:Nat):Int)):=by
     have hc0:0<c:=by rw [←HCC.out];exact Nat.mul_pos hy hd0
     have hA0:0<A:=by rw [←HAA.out];exact Nat.mul_pos (by omega) hd0
     refine⟨HM93.out.below hB34,HM93.out.lt hA0 g (by omega),HMC.out.below hB34,HMC.out.lt hc0 g (by omega),HMD3.out.below hB34,HMD3.out.lt hd0 g (by omega),?_,by rw [←hg'];exact zcR hown,hgW,HB3.out.trans (hB34.mono HB3.out.size)⟩;rw [←hg'];exact zag.of_row hown fun i hi=>by unfold topL;rw [if_neg (by omega)];exact zd3 (by omega)
    have hg:w.heap.size≤g:=by have:=HB3.out.size;omega
    rw [hg'];clear hown hgrow hg' hB34 HMD3 HM93 HMC hct hgW;gi_wp2;gi_loopw [9,13] (fun v9 iv wr=>∃(i0:Int) (R:Nat),-1≤i0∧i0<n∧iv = .int .i64 i0∧Hid (A%(c*B^(i0+1).toNat)=R)∧Hid (zdH w wr v9 (.slice (some a10) (l+1) c10) (.slice (some ⟨gb,0,none⟩) 1 1) R c d g n fun j => .int .u64 ((topL (A/c) (i0+1).toNat j:Nat):Int))) (fun _ iv _=>(intOf iv+1).toNat)
    case atStart=>
     refine⟨(n:Int)-1,A,by omega,by omega,(by first|rfl|(congr 1;omega)),?_,?_⟩
     ·rw [show((n:Int)-1+1).toNat=n by omega];exact Nat.mod_eq_of_lt HAN.out
     ·rw [show((n:Int)-1+1).toNat=n by omega];exact HK4.out
    case round=>
     obtain⟨i0,R,hi1,hi2,rfl,HRE,HK⟩:=hrel;clear HK4;by_cases h0:0≤i0
     ·obtain⟨m,rfl⟩:∃m:Nat,i0=(m:Int):=⟨i0.toNat,by omega⟩;rw [show((m:Int)+1).toNat=m+1 by omega]at HRE HK;have hc0:0<c:=by rw [←HCC.out];exact Nat.mul_pos hy hd0
      have hRc:R<c*B^(m+1):=by rw [←HRE.out];exact Nat.mod_lt _ (Nat.mul_pos hc0 (zar _))
      have hRB:R<B^(m+l+2):=by
       have h1:c*B^(m+1)≤B^(l+1)*B^(m+1):=Nat.mul_le_mul_right _ (Nat.le_of_lt HTG.out.1.1);rw [←Nat.pow_add,show l+1+(m+1)=m+l+2 by omega]at h1;omega
      have HRC:=zHi hRc;have HRB:=zHi hRB;obtain⟨kr,hkr,hlr⟩:=HK.out.rest;obtain⟨o9',c9',rfl,h9'⟩:=hlr.form;have hkr2:=hkr.le hRB;have HKR:=zHi hkr;have H9:=zHi h9';obtain⟨w5,hw5⟩:∃w5,w5=wr:=⟨_,rfl⟩;subst wr;clear hRc hRB hkr hlr h9';gi_wp2;gi_loopw [14,15] (fun hv kv wr=>∃p h:Nat,m+l≤p∧p≤m+l+2∧kv = .int .i64 ((p:Int)-1)∧hv = .int .u64 (h:Int)∧Hid (R/B^p=h)∧wr=w5) (fun _ kv _=>(intOf kv+1).toNat)
      case atStart=>
       refine⟨m+l+2,0,by omega,by omega,(by first|(go_num)|(congr 1;omega)),rfl,Nat.div_eq_of_lt HRB.out,rfl⟩
      case round=>
       obtain⟨p,h,hp1,hp2,rfl,rfl,HH,rfl⟩:=hrel;by_cases hpm:m+l+1≤p
       ·obtain⟨p',rfl⟩:∃p',p=p'+1:=⟨p-1,by omega⟩;have hhB:h<1000000000:=by
         rw [←HH.out];refine Nat.div_lt_of_lt_mul ?_;have h1:B^(m+l+2)≤B^(p'+1+1):=zah (by omega);rw [Nat.pow_succ B (p'+1)]at h1;exact Nat.lt_of_lt_of_le HRB.out h1
        have ds:R/B^p'=1000000000*h+limb R p':=by rw [zcD R p',HH.out];rfl
        have HDS:=zHi ds;clear ds;by_cases hpk:p'<kr
        ·obtain⟨a9,rfl,ha9,hc9⟩:=H9.out (by omega);have p9:=hc9 p' hpk;obtain⟨lr,hlr⟩:∃lr,limb R p'=lr:=⟨_,rfl⟩;have hlB:lr<1000000000:=by rw [←hlr];exact zaB R p'
         rw [hlr]at p9 HDS;clear hc9 hlr;gi_wp2;exact⟨⟨p',1000000000*h+lr,by omega,by omega,rfl,congrArg (Value.int .u64) (by omega),HDS.out,by first|trivial|rfl⟩,by first|(simp [intOf];done)|(simp [intOf];omega)⟩
        ·have hz:limb R p'=0:=zaJ (Nat.lt_of_lt_of_le HKR.out.1 (zah (by omega)));rw [hz]at HDS;have hpk':¬(p':Int)<(kr:Int):=by omega
         clear hz;gi_wp2;exact⟨⟨p',1000000000*h+0,by omega,by omega,rfl,congrArg (Value.int .u64) (by omega),HDS.out,by first|trivial|rfl⟩,by first|(simp [intOf];done)|(simp [intOf];omega)⟩
       ·have hpm0:p=m+l:=by omega
        subst hpm0;obtain⟨q,hq⟩:∃q,R/(c*B^m)=q:=⟨_,rfl⟩;have hD:0<c*B^m:=Nat.mul_pos hc0 (zar m);have hq1:q≤h/top:=by
         rw [←hq,←HH.out];have:=zql (R:=R) (c:=c) (i:=m) (l:=l+1) (top:=top) (by omega) (by
          have:=zbg c l;rw [zbn HTG.out.1.1,HTOP.out]at this;obtain⟨lo,hlo⟩:∃lo,c%B^l=lo:=⟨_,rfl⟩;rw [hlo]at this;rw [Nat.add_sub_cancel,Nat.mul_comm];omega) (by omega)
         exact this
        have hq2:q≤999999999:=by
         have h1:R<c*B^m*1000000000:=by
          have:=HRC.out;rw [Nat.pow_succ,←Nat.mul_assoc]at this;exact this
         have:=Nat.div_lt_of_lt_mul h1;omega
        have HQ:=zHi hq;have htop0:¬(top:Int)=0:=by omega
        have ehd:(h:Int)/(top:Int)=((h/top:Nat):Int):=rfl;obtain⟨G0,hG0⟩:∃G0,h/top=G0:=⟨_,rfl⟩;rw [hG0]at ehd hq1;have hGB:G0<1000000000000000000:=by
         have h1:h<1000000000000000000:=by
          rw [←HH.out];refine Nat.div_lt_of_lt_mul ?_;have h2:=HRB.out;rw [Nat.pow_add]at h2;exact h2
         rw [←hG0];exact Nat.lt_of_le_of_lt (Nat.div_le_self _ _) h1
        clear hq hG0;by_cases hgm:G0≤999999999
        ·gi_wp2_with (gi_at_call 72;refine stop ?_)
         unfold Stop;refine(zeo wr G0 (by omega)).mono ?_;rintro e w6 ⟨v6,rfl,⟨hm6,_⟩,hB6⟩;have HK6:=zHi (HK.out.step hB6);have HM6:=zHi hm6;clear hm6 hB6 HK H9 HKR;gi_wp2_with (gi_at_call 131;refine stop ?_)
         unfold Stop;have hGL:G0<B^(L+1):=Nat.lt_of_lt_of_le (show G0<B by omega) (by have:=zah (i:=1) (j:=L+1) (by omega);rw [Nat.pow_one]at this;exact this);refine(zbX w6 _ _ c G0 (L+1) HK6.out.div HM6.out HCL.out hGL (by omega)).mono ?_;rintro e w7 ⟨v7,rfl,⟨hm7,_⟩,hB7⟩;have HK7:=zHi (HK6.out.step hB7);have HM7:=zHi hm7;have HGL:=zHi hGL;clear hm7 hB7 HK6 HM6 hGL;gi_wp2_with (gi_at_call 212;refine stop ?_)
         unfold Stop;refine(zen w7 _ (c*G0) m (L+1+(L+1)) HM7.out (zaI HCL.out HGL.out) (by omega) (by omega)).mono ?_;rintro e w8 ⟨v8,rfl,⟨hm8,hf8⟩,hB8⟩;have HK8:=zHi (HK7.out.step hB8);have HM8:=zHi hm8;have hne8:v8.ownBlock≠some g:=fun h=>by have:=hf8 _ h;have:=HK7.out.lt;omega
         clear hm8 hB8 HK7 HM7 hf8;gi_wp2;gi_loopw [16,17] (fun gv pv wr=>∃G:Nat,gv = .int .u64 (G:Int)∧q≤G∧G≤999999999∧Hid (zaq wr pv (c*G*B^m))∧pv.ownBlock≠some g∧Hid (zdH w wr (.slice o9' kr c9') (.slice (some a10) (l+1) c10) (.slice (some ⟨gb,0,none⟩) 1 1) R c d g n fun j => .int .u64 ((topL (A/c) (m+1) j:Nat):Int))) (fun gv _ _=>(intOf gv).toNat)
         case atStart=>exact⟨G0,rfl,by omega,by omega,HM8.out,hne8,HK8.out⟩
         case round=>
          obtain⟨G,rfl,hqG,hG9,HP,hPne,HKg⟩:=hrel;clear HK8 HM8 hne8;have HC:=zHi (zea wr _ _ _ _ HP.out HKg.out.rest);by_cases hgt:R<c*G*B^m
          ·obtain⟨G',rfl⟩:∃G',G=G'+1:=by
            rcases Nat.eq_zero_or_pos G with h|h
            ·subst h;simp at hgt
            ·exact⟨G-1,by omega⟩
           have HGT:=zHi hgt;clear hgt;gi_wp2_with (gi_at_call 135;refine HC.out.mono ?_;rintro e w6 ⟨r,hr,rfl,hB6⟩;have hr0:0<r:=zpy hr HGT.out;have HK6:=zHi (HKg.out.step hB6);have HP6:=zHi (HP.out.below hB6);clear hr hB6 HC HKg HP)
           gi_wp2_with (gi_at_call 212;refine stop ?_)
           unfold Stop;refine(zen _ _ c m (L+1) HK6.out.div HCL.out (by omega) (by omega)).mono ?_;rintro e w7 ⟨v7,rfl,⟨hm7,_⟩,hB7⟩;have HK7:=zHi (HK6.out.step hB7);have HP7:=zHi (HP6.out.below hB7);have HM7:=zHi hm7;clear hm7 hB7 HK6 HP6;gi_wp2_with (gi_at_call 137;refine stop ?_)
           unfold Stop;have epart:c*(G'+1)*B^m=c*G'*B^m+c*B^m:=by rw [Nat.mul_add,Nat.mul_one,Nat.add_mul]
           have hPL:c*(G'+1)*B^m<B^(3*L+30):=by
            have h1:c*(G'+1)<B^(L+1)*B:=by
             exact Nat.mul_lt_mul_of_lt_of_le HCL.out (show G'+1≤B by omega) zkt
            have h2:c*(G'+1)*B^m<B^(L+1)*B*B^m:=Nat.mul_lt_mul_of_pos_right h1 (zar m);rw [←Nat.pow_succ,←Nat.pow_add]at h2;exact Nat.lt_of_lt_of_le h2 (zah (by omega))
           refine(zcZ w7 _ _ (c*(G'+1)*B^m) (c*B^m) (3*L+30) HP7.out HM7.out (by rw [epart];exact Nat.le_add_left _ _) hPL (by omega)).mono ?_;rintro e w8 ⟨v8,rfl,⟨hm8,hf8⟩,hB8⟩;rw [epart,Nat.add_sub_cancel]at hm8;have HK8:=zHi (HK7.out.step hB8);have HM8:=zHi hm8;have hne8:v8.ownBlock≠some g:=fun h=>by have:=hf8 _ h;have:=HK7.out.lt;omega
           have hqG':q≤G':=by
            have:=zlh (R:=R) (D:=c*B^m) (g:=G'+1) hD (by rw [←Nat.mul_assoc,Nat.mul_comm (G'+1)];exact HGT.out);rw [HQ.out]at this;omega
           clear hm8 hf8 hB8 HK7 HP7 HM7 epart hPL;gi_wp2;exact⟨⟨G',by first|rfl|(go_num),hqG',by omega,HM8.out,hne8,HK8.out⟩,by simp [intOf]⟩
          ·have hGq:G=q:=by
            rw [←HQ.out];refine zna hD ?_ (by rw [HQ.out];exact hqG);rw [←Nat.mul_assoc,Nat.mul_comm G];exact Nat.not_lt.1 hgt
           subst hGq;have HGT:=zHi hgt;have hmn:m<n:=by omega
           clear hgt;gi_wp2_with (gi_at_call 135;refine HC.out.mono ?_;rintro e w6 ⟨r,hr,rfl,hB6⟩;have hr0:¬0<r:=znm hr HGT.out;have HK6:=zHi (HKg.out.step hB6);have HP6:=zHi (HP.out.below hB6);have z1:∃v,w6.cell? ⟨g,m,none⟩=some v:=⟨_,((HKg.out.step hB6).arr m hmn).1⟩;obtain⟨v1,z1⟩:=z1;have z2:=((HKg.out.step hB6).arr m hmn).2;clear hr hB6 HC HKg HP)
           gi_wp2_with (gi_at_call 137;refine stop ?_)
           unfold Stop;obtain⟨W7,hW7⟩:∃W7,W7=w6.setCell ⟨g,m,none⟩ (.int .u64 (G:Int)):=⟨_,rfl⟩;rw [←hW7];have HK7:Hid (zdH w W7 (.slice o9' kr c9') (.slice (some a10) (l+1) c10) (.slice (some ⟨gb,0,none⟩) 1 1) R c d g n fun j => .int .u64 ((topL (A/c) m j:Nat):Int)):=by
            rw [hW7];have K:=HK6.out;refine⟨K.rest.setCell K.restNe _,K.restNe,K.div.setCell K.divNe _,K.divNe,K.by'.setCell K.byNe _,K.byNe,zag.congr (K.arr.set hmn _) fun j _ => ?_,K.el.setCell _ _,by simp;exact K.lt,K.below.setCell hg _⟩;have hqs:=(zhi (A:=A) (i:=m) hc0).1;rw [HRE.out,HQ.out]at hqs;unfold topL;by_cases e:j=m
            ·subst e;rw [if_pos rfl,if_pos (Nat.le_refl _),hqs]
            ·rw [if_neg e];by_cases e2:m+1≤j
             ·rw [if_pos e2,if_pos (by omega)]
             ·rw [if_neg e2,if_neg (by omega)]
           have HP7:Hid (zaq W7 u17 (c*G*B^m)):=by rw [hW7];exact HP6.out.setCell hPne _
           clear hW7 HK6 HP6 z1 z2;have hRL:R<B^(L+1):=by rw [←HRE.out];exact Nat.lt_of_le_of_lt (Nat.mod_le _ _) HAL.out
           refine(zcZ W7 _ _ R (c*G*B^m) (L+1) HK7.out.rest HP7.out (Nat.not_lt.1 HGT.out) hRL (by omega)).mono ?_;rintro e w8 ⟨v8,rfl,⟨hm8,hf8⟩,hB8⟩;have hqs:=(zhi (A:=A) (i:=m) hc0).2;rw [HRE.out,HQ.out,←Nat.mul_assoc,Nat.mul_comm G]at hqs;rw [hqs]at hm8;have hne8:v8.ownBlock≠some g:=fun h=>by have:=hf8 _ h;have:=HK7.out.lt;omega
           have HK8:Hid (zdH w w8 v8 (.slice (some a10) (l+1) c10) (.slice (some ⟨gb,0,none⟩) 1 1) (A%(c*B^m)) c d g n fun j => .int .u64 ((topL (A/c) m j:Nat):Int)):=
            {HK7.out.step hB8 with rest:=hm8,restNe:=hne8}
           clear hm8 hf8 hB8 HK7 HP7 hRL hqs;gi_wp2;refine⟨⟨(m:Int)-1,A%(c*B^m),by omega,by omega,by first|rfl|(go_num),?_,?_⟩,by first|(simp [intOf];done)|(simp [intOf];omega)⟩
           ·rw [show((m:Int)-1+1).toNat=m by omega];exact zHi rfl
           ·rw [show((m:Int)-1+1).toNat=m by omega];exact HK8.out
        ·gi_wp2_with (gi_at_call 72;refine stop ?_)
         unfold Stop;refine(zeo wr 999999999 (by omega)).mono ?_;rintro e w6 ⟨v6,rfl,⟨hm6,_⟩,hB6⟩;have HK6:=zHi (HK.out.step hB6);have HM6:=zHi hm6;clear hm6 hB6 HK H9 HKR;gi_wp2_with (gi_at_call 131;refine stop ?_)
         unfold Stop;have hGL:999999999<B^(L+1):=Nat.lt_of_lt_of_le (show 999999999<B by omega) (by have:=zah (i:=1) (j:=L+1) (by omega);rw [Nat.pow_one]at this;exact this);refine(zbX w6 _ _ c 999999999 (L+1) HK6.out.div HM6.out HCL.out hGL (by omega)).mono ?_;rintro e w7 ⟨v7,rfl,⟨hm7,_⟩,hB7⟩;have HK7:=zHi (HK6.out.step hB7);have HM7:=zHi hm7;have HGL:=zHi hGL;clear hm7 hB7 HK6 HM6 hGL;gi_wp2_with (gi_at_call 212;refine stop ?_)
         unfold Stop;refine(zen w7 _ (c*999999999) m (L+1+(L+1)) HM7.out (zaI HCL.out HGL.out) (by omega) (by omega)).mono ?_;rintro e w8 ⟨v8,rfl,⟨hm8,hf8⟩,hB8⟩;have HK8:=zHi (HK7.out.step hB8);have HM8:=zHi hm8;have hne8:v8.ownBlock≠some g:=fun h=>by have:=hf8 _ h;have:=HK7.out.lt;omega
         clear hm8 hB8 HK7 HM7 hf8;gi_wp2;gi_loopw [16,17] (fun gv pv wr=>∃G:Nat,gv = .int .u64 (G:Int)∧q≤G∧G≤999999999∧Hid (zaq wr pv (c*G*B^m))∧pv.ownBlock≠some g∧Hid (zdH w wr (.slice o9' kr c9') (.slice (some a10) (l+1) c10) (.slice (some ⟨gb,0,none⟩) 1 1) R c d g n fun j => .int .u64 ((topL (A/c) (m+1) j:Nat):Int))) (fun gv _ _=>(intOf gv).toNat)
         case atStart=>exact⟨999999999,rfl,by omega,by omega,HM8.out,hne8,HK8.out⟩
         case round=>
          obtain⟨G,rfl,hqG,hG9,HP,hPne,HKg⟩:=hrel;clear HK8 HM8 hne8;have HC:=zHi (zea wr _ _ _ _ HP.out HKg.out.rest);by_cases hgt:R<c*G*B^m
          ·obtain⟨G',rfl⟩:∃G',G=G'+1:=by
            rcases Nat.eq_zero_or_pos G with h|h
            ·subst h;simp at hgt
            ·exact⟨G-1,by omega⟩
           have HGT:=zHi hgt;clear hgt;gi_wp2_with (gi_at_call 135;refine HC.out.mono ?_;rintro e w6 ⟨r,hr,rfl,hB6⟩;have hr0:0<r:=zpy hr HGT.out;have HK6:=zHi (HKg.out.step hB6);have HP6:=zHi (HP.out.below hB6);clear hr hB6 HC HKg HP)
           gi_wp2_with (gi_at_call 212;refine stop ?_)
           unfold Stop;refine(zen _ _ c m (L+1) HK6.out.div HCL.out (by omega) (by omega)).mono ?_;rintro e w7 ⟨v7,rfl,⟨hm7,_⟩,hB7⟩;have HK7:=zHi (HK6.out.step hB7);have HP7:=zHi (HP6.out.below hB7);have HM7:=zHi hm7;clear hm7 hB7 HK6 HP6;gi_wp2_with (gi_at_call 137;refine stop ?_)
           unfold Stop;have epart:c*(G'+1)*B^m=c*G'*B^m+c*B^m:=by rw [Nat.mul_add,Nat.mul_one,Nat.add_mul]
           have hPL:c*(G'+1)*B^m<B^(3*L+30):=by
            have h1:c*(G'+1)<B^(L+1)*B:=by
             exact Nat.mul_lt_mul_of_lt_of_le HCL.out (show G'+1≤B by omega) zkt
            have h2:c*(G'+1)*B^m<B^(L+1)*B*B^m:=Nat.mul_lt_mul_of_pos_right h1 (zar m);rw [←Nat.pow_succ,←Nat.pow_add]at h2;exact Nat.lt_of_lt_of_le h2 (zah (by omega))
           refine(zcZ w7 _ _ (c*(G'+1)*B^m) (c*B^m) (3*L+30) HP7.out HM7.out (by rw [epart];exact Nat.le_add_left _ _) hPL (by omega)).mono ?_;rintro e w8 ⟨v8,rfl,⟨hm8,hf8⟩,hB8⟩;rw [epart,Nat.add_sub_cancel]at hm8;have HK8:=zHi (HK7.out.step hB8);have HM8:=zHi hm8;have hne8:v8.ownBlock≠some g:=fun h=>by have:=hf8 _ h;have:=HK7.out.lt;omega
           have hqG':q≤G':=by
            have:=zlh (R:=R) (D:=c*B^m) (g:=G'+1) hD (by rw [←Nat.mul_assoc,Nat.mul_comm (G'+1)];exact HGT.out);rw [HQ.out]at this;omega
           clear hm8 hf8 hB8 HK7 HP7 HM7 epart hPL;gi_wp2;exact⟨⟨G',by first|rfl|(go_num),hqG',by omega,HM8.out,hne8,HK8.out⟩,by simp [intOf]⟩
          ·have hGq:G=q:=by
            rw [←HQ.out];refine zna hD ?_ (by rw [HQ.out];exact hqG);rw [←Nat.mul_assoc,Nat.mul_comm G];exact Nat.not_lt.1 hgt
           subst hGq;have HGT:=zHi hgt;have hmn:m<n:=by omega
           clear hgt;gi_wp2_with (gi_at_call 135;refine HC.out.mono ?_;rintro e w6 ⟨r,hr,rfl,hB6⟩;have hr0:¬0<r:=znm hr HGT.out;have HK6:=zHi (HKg.out.step hB6);have HP6:=zHi (HP.out.below hB6);have z1:∃v,w6.cell? ⟨g,m,none⟩=some v:=⟨_,((HKg.out.step hB6).arr m hmn).1⟩;obtain⟨v1,z1⟩:=z1;have z2:=((HKg.out.step hB6).arr m hmn).2;clear hr hB6 HC HKg HP)
           gi_wp2_with (gi_at_call 137;refine stop ?_)
           unfold Stop;obtain⟨W7,hW7⟩:∃W7,W7=w6.setCell ⟨g,m,none⟩ (.int .u64 (G:Int)):=⟨_,rfl⟩;rw [←hW7];have HK7:Hid (zdH w W7 (.slice o9' kr c9') (.slice (some a10) (l+1) c10) (.slice (some ⟨gb,0,none⟩) 1 1) R c d g n fun j => .int .u64 ((topL (A/c) m j:Nat):Int)):=by
            rw [hW7];have K:=HK6.out;refine⟨K.rest.setCell K.restNe _,K.restNe,K.div.setCell K.divNe _,K.divNe,K.by'.setCell K.byNe _,K.byNe,zag.congr (K.arr.set hmn _) fun j _ => ?_,K.el.setCell _ _,by simp;exact K.lt,K.below.setCell hg _⟩;have hqs:=(zhi (A:=A) (i:=m) hc0).1;rw [HRE.out,HQ.out]at hqs;unfold topL;by_cases e:j=m
            ·subst e;rw [if_pos rfl,if_pos (Nat.le_refl _),hqs]
            ·rw [if_neg e];by_cases e2:m+1≤j
             ·rw [if_pos e2,if_pos (by omega)]
             ·rw [if_neg e2,if_neg (by omega)]
           have HP7:Hid (zaq W7 u17 (c*G*B^m)):=by rw [hW7];exact HP6.out.setCell hPne _
           clear hW7 HK6 HP6 z1 z2;have hRL:R<B^(L+1):=by rw [←HRE.out];exact Nat.lt_of_le_of_lt (Nat.mod_le _ _) HAL.out
           refine(zcZ W7 _ _ R (c*G*B^m) (L+1) HK7.out.rest HP7.out (Nat.not_lt.1 HGT.out) hRL (by omega)).mono ?_;rintro e w8 ⟨v8,rfl,⟨hm8,hf8⟩,hB8⟩;have hqs:=(zhi (A:=A) (i:=m) hc0).2;rw [HRE.out,HQ.out,←Nat.mul_assoc,Nat.mul_comm G]at hqs;rw [hqs]at hm8;have hne8:v8.ownBlock≠some g:=fun h=>by have:=hf8 _ h;have:=HK7.out.lt;omega
           have HK8:Hid (zdH w w8 v8 (.slice (some a10) (l+1) c10) (.slice (some ⟨gb,0,none⟩) 1 1) (A%(c*B^m)) c d g n fun j => .int .u64 ((topL (A/c) m j:Nat):Int)):=
            {HK7.out.step hB8 with rest:=hm8,restNe:=hne8}
           clear hm8 hf8 hB8 HK7 HP7 hRL hqs;gi_wp2;refine⟨⟨(m:Int)-1,A%(c*B^m),by omega,by omega,by first|rfl|(go_num),?_,?_⟩,by first|(simp [intOf];done)|(simp [intOf];omega)⟩
           ·rw [show((m:Int)-1+1).toNat=m by omega];exact zHi rfl
           ·rw [show((m:Int)-1+1).toNat=m by omega];exact HK8.out
     ·have hm1:i0 = -1:=by omega
      subst hm1;have e1:(( -1:Int)+1).toNat=0:=rfl;rw [e1]at HRE HK;rw [Nat.pow_zero,Nat.mul_one]at HRE;have hRL:R<B^(L+1):=by rw [←HRE.out];exact Nat.lt_of_le_of_lt (Nat.mod_le _ _) HAL.out
      have hd1:=HK.out.by'.mag (zh0 hd0 hdB);obtain⟨o,cc,ef,hf⟩:=hd1.form;injection ef with ef1 ef2 ef3;subst ef1 ef3;clear ef2;obtain⟨ab,eb,hab,hcb⟩:=hf (by omega);injection eb with eb;subst eb;have p1:=hcb 0 (by omega);rw [zgJ hdB]at p1;have p2:wr.cell? ⟨gb,0,none⟩=some (.int .u64 (d:Int)):=p1;clear p1 hcb hf hd1;have HS:=zHi (zhD wr _ R d HK.out.rest hd0 hdB);have hAcn:A/c<B^n:=Nat.div_lt_of_lt_mul HAN.out;have HACN:=zHi hAcn;clear hAcn hRL;gi_wp2_with (gi_at_call 211;refine HS.out.mono ?_;rintro e w6 ⟨v6,rfl,⟨hm6,_⟩,hB6⟩;have HM6:=zHi hm6;have HK6:=zHi (HK.out.step hB6);clear hm6 hB6 HK p2)
      have hla:zbE w6 (.slice (some ⟨g,0,none⟩) n n) (A/c) n:=by
       refine zag.limbs (zag.congr HK6.out.arr fun j _ => ?_) (by omega) (Nat.le_refl _) ⟨by omega,by omega⟩ HK6.out.el;unfold topL;rw [if_pos (by omega)]
      have HT:=zHi (zcc w6 _ (A/c) n hla HACN.out);clear hla;gi_wp2_with (gi_at_call 138;refine HT.out.mono ?_;rintro e w7 ⟨v7,rfl,⟨hm7,hf7⟩,hB7⟩;have HF7:=zHi (zdl hf7 hg);have HM7:=zHi hm7;have HM67:=zHi (HM6.out.below hB7);have HB7:=zHi (HK6.out.step hB7).below;clear hm7 hB7 hf7)
      all_goals (first|go_returns|go_ret|go_end0)
      refine⟨_,_,rfl,?_,?_,HB7.out⟩
      ·rw [←HSC.out.1];exact⟨HM7.out,HF7.out⟩
      ·rw [←HSC.out.2,HRE.out];exact HM67.out
theorem zaq.unique{w:World}{v:Value}{m n:Nat}(h:zaq w v m)(h':zaq w v n):m=n:=by
 obtain⟨k,hk,hl⟩:=h;obtain⟨k',hk',hl'⟩:=h';obtain⟨o,c,rfl,h1⟩:=hl.form;obtain⟨o',c',e,h2⟩:=hl'.form;injection e with e1 e2 e3;subst e1;subst e2;refine zm5 hk.1 hk'.1 fun i hi => ?_
 obtain⟨a,rfl,ha,hc⟩:=h1 (by omega);obtain⟨a',e,ha',hc'⟩:=h2 (by omega);injection e with e;subst e;have:=(hc i hi).symm.trans (hc' i hi);injection this with this;injection this with _ this;omega
open Classical in
noncomputable def zo8(w:World)(v:Value):Nat:=if h:∃n,zaq w v n then Classical.choose h else 0
theorem zaq.num{w:World}{v:Value}{n:Nat}(h:zaq w v n):zo8 w v=n:=by
 unfold zo8;rw [dif_pos ⟨n,h⟩];exact(Classical.choose_spec (⟨n,h⟩:∃n,zaq w v n)).unique h
theorem zaG{w:World}{v:Value}{n:Nat}(h:zaq w v n):∃o k c,v = .slice o k c∧(k=0↔n=0)∧k≤1000000000:=by
 obtain⟨k,hk,hl⟩:=h;obtain⟨o,c,rfl,h1⟩:=hl.form;refine⟨o,k,c,rfl,⟨fun e => ?_,fun e => ?_⟩,hl.small⟩
 ·subst e;exact hk.zero
 ·subst e;exact hk.unique zcf
theorem ze0(w:World)(va vb:Value)(x y L:Nat)(ha:zaq w va x)(hb:zaq w vb y)(hx:x<B^L)(hy:y<B^L)(hL:L≤10000000) :
  CallsIn Fence.wide 0 Tryz.prog 167 #[va,vb] w fun e w'=>∃v',e = .returned v'∧zaq w' v' (Nat.gcd x y)∧Below w.heap.size w w':=by
 have HA:=zHi ha;have HB:=zHi hb;have HX:=zHi hx;have HY:=zHi hy;clear ha hb hx hy;refine callsIn_of_wp Tryz.func167 rfl trivial ?_ rfl;simp only [Tryz.ntmps167,zsj,zsk,zsl,Nat.reduceAdd,Nat.reduceSub,zsm,zsn,zso,zsp,zsq,zsr];gi_wp2;gi_loopw [0,1] (fun va vb wr=>∃a b:Nat,Hid (zaq wr va a)∧Hid (zaq wr vb b)∧Hid (a<B^L)∧Hid (b<B^L)∧Hid (Nat.gcd a b=Nat.gcd x y)∧Hid (Below w.heap.size w wr)) (fun _ vb wr=>zo8 wr vb)
 case atStart=>exact⟨x,y,HA.out,HB.out,HX.out,HY.out,zHi rfl,Below.refl _ _⟩
 case round=>
  obtain⟨a,b,HMA,HMB,HLA,HLB,HG,HBr⟩:=hrel;clear HA HB;obtain⟨o,k,c,rfl,hk,hk9⟩:=zaG HMB.out;by_cases hb0:b=0
  ·have hk0:k=0:=hk.2 hb0;subst hk0;subst hb0;clear hk;gi_wp2;all_goals (first|go_returns|go_ret|go_end0)
   refine⟨_,rfl,?_,HBr.out⟩;rw [←HG.out,Nat.gcd_zero_right];exact HMA.out
  ·have hk0:0<k:=by
    rcases Nat.eq_zero_or_pos k with h|h
    ·exact absurd (hk.1 h) hb0
    ·exact h
   have HD:=zHi (zih wr _ _ a b L HMA.out HMB.out (by omega) HLA.out HLB.out hL);have HN:=zHi HMB.out.num;clear hk;gi_wp2_with (gi_at_call 181;refine HD.out.mono ?_;rintro e w6 ⟨vq,vr,rfl,_,hm6,hB6⟩;have HM6:=zHi hm6;have HB6:=zHi (HBr.out.trans (hB6.mono HBr.out.size));have HMB6:=zHi (HMB.out.below hB6);clear hm6 hB6)
   refine⟨⟨b,a%b,HMB6.out,HM6.out,HLB.out,?_,?_,HB6.out⟩,?_⟩
   ·exact zHi (Nat.lt_of_lt_of_le (Nat.mod_lt a (by omega)) (Nat.le_of_lt HLB.out))
   ·exact zHi (znb.symm.trans HG.out)
   ·rw [HM6.out.num,HN.out];exact Nat.mod_lt a (by omega)
def zbZ(w:World)(v:Value)(n k:Nat):Prop:=
 (k=0∧∃o c,v = .slice o 0 c)∨∃(a:Addr) (cap:Nat),v = .slice (some a) k cap∧0<k∧k≤cap∧(k≤1000000000∧cap≤9223372036854775807)∧Elem w a.block 3∧∀i,i<k→w.cell? (a.add i)=some (.int .i64 ((limb n i:Nat):Int))
def NatI(w:World)(v:Value)(n:Nat):Prop:=∃k,zcV n k∧zbZ w v n k
theorem zbZ.below{w w':World}{v:Value}{n k:Nat}(h:zbZ w v n k)(hb:Below w.heap.size w w'):zbZ w' v n k:=by
 rcases h with h|⟨a,cap,h1,h2,h3,h4,h5,h6⟩
 ·exact .inl h
 ·exact .inr ⟨a,cap,h1,h2,h3,h4,h5.below hb h5.lt,fun i hi=>(hb.cell (p:=a.add i) (by rw [zaf];exact h5.lt)).trans (h6 i hi)⟩
theorem zbZ.form{w:World}{v:Value}{n k:Nat}(h:zbZ w v n k):∃o c,v = .slice o k c∧(0<k→∃a:Addr,o=some a∧a.block<w.heap.size∧∀i,i<k→w.cell? (a.add i)=some (.int .i64 ((limb n i:Nat):Int))):=by
 rcases h with⟨rfl,o,c,rfl⟩|⟨a,cap,rfl,h2,h3,h4,h5,h6⟩
 ·exact⟨o,c,rfl,fun h=>by omega⟩
 ·exact⟨some a,cap,rfl,fun _=>⟨a,rfl,h5.lt,h6⟩⟩
theorem zbZ.elem{w:World}{a:Addr}{n k c:Nat}(h:zbZ w (.slice (some a) k c) n k)(hk:0<k):Elem w a.block 3:=by
 rcases h with⟨rfl,_⟩|⟨a',cap,e,h2,h3,h4,h5,h6⟩
 ·omega
 ·injection e with e _ _;injection e with e;subst e;exact h5
theorem zbZ.small{w:World}{v:Value}{n k:Nat}(h:zbZ w v n k):k≤1000000000:=by
 rcases h with⟨rfl,_⟩|⟨a,cap,rfl,h2,h3,h4,h5,h6⟩ <;> omega
def zba(n k:Nat):List Value:=(List.range k).map fun i => .int .i64 ((limb n i:Nat):Int)
theorem zmh(n k:Nat):zba n (k+1)=zba n k ++ [.int .i64 ((limb n k:Nat):Int)]:=by simp [zba,List.range_succ]
theorem zpb(w:World)(i:Int)(t:TypeId):∀k u,[Value.int .i64 i][k]? = some u→(w.alloc (.cells #[.int .i64 i] t)).cell? ((⟨w.heap.size,0,none⟩:Addr).add k)=some u:=by
 intro k u h;rw [Addr.add_lit,Nat.zero_add,World.cell?_alloc_new];match k,h with
 | 0,h=>exact h
theorem zbJ{w:World}{base n k:Nat}{v:Value}(h:w.ownsRow base 3 1 v k (zba n k))(hk:k≤500000000):zbZ w v n k:=by
 rcases h.2 with⟨rfl,rfl⟩|⟨g,cap,cur,rfl,h1,h2,h3,h4,h5,h6⟩
 ·exact .inl ⟨rfl,none,0,rfl⟩
 ·rcases Nat.eq_zero_or_pos k with h0|h0
  ·subst h0;exact .inl ⟨rfl,_,_,rfl⟩
  ·refine .inr ⟨⟨g,0,none⟩,cap,rfl,h0,h3,⟨by omega,by unfold maxLen at h4;omega⟩,⟨cur,(0,0),h2⟩,fun i hi => ?_⟩;have:=h.cells rfl i (.int .i64 ((limb n i:Nat):Int)) (by simp [zba,hi]);rw [Addr.add_lit]at this ⊢;exact this
theorem zgx:Tryz.prog.info? 3=some Tryz.t3:=by kernel_rfl
theorem u30:Tryz.prog.underlying 58=some (.slice 3):=by kernel_rfl
theorem zhz:Tryz.t3.zero=some (.int .i64 0):=by kernel_rfl
theorem zhA:Tryz.t3.size=1:=by kernel_rfl
theorem zf6:Tryz.t3.bytes=8:=by kernel_rfl
theorem zfJ{n i:Nat}(hi:i<n):(madeCells #[Value.int .i64 0] n).toList[i]? = some (.int .i64 0):=by
 simp [madeCells,hi,Nat.mod_one]
theorem zag.limbsI{w:World}{g n k cap:Nat}(h:zag w g k fun i => .int .i64 ((limb n i:Nat):Int))(hk:0<k)(hc:k≤cap)(h9:k≤1000000000∧cap≤9223372036854775807)(hE:Elem w g 3):zbZ w (.slice (some ⟨g,0,none⟩) k cap) n k:=
 .inr ⟨⟨g,0,none⟩,cap,rfl,hk,hc,h9,hE,fun i hi=>by rw [Addr.add_lit,Nat.zero_add];exact(h i hi).1⟩
theorem zaE{F:Fence}{n:Nat}(w wr:World){ops:Array Oper}{rest:List Oper}{o:Oper}{a:Act}{Q:Exit→Act→World→Prop}
  (hg:o.guard=none) (s x:Operand) (hop:o.op=Op.call {callee:=Callee.builtin Builtin.append,args:=#[s,x],argTypes:=#[58,58]})
  (v:Value) (j N:Nat) (hs:a.eval s=v) (HO:Hid (wr.ownsRow w.heap.size 3 1 v j (zba N j))) (z:Int) (t:TypeId) (hx:a.eval x = .slice (some ⟨wr.heap.size,0,none⟩) 1 1) (hz:z=((limb N j:Nat):Int)) (hj:j<500000000)
  (HB:Hid (Below w.heap.size w wr))
  (hK:∀v' w',Hid (w'.ownsRow w.heap.size 3 1 v' (j+1) (zba N (j+1)))→Hid (Below w.heap.size w w')→wpListIn F n Tryz.prog ops Q rest (a.put o.dst v') w') :
  wpListIn F n Tryz.prog ops Q (o :: rest) a (wr.alloc (.cells #[.int .i64 z] t)):=by
 have hsz:=HB.out.size;refine wpListIn_append_own _ hg s x 58 hop w.heap.size 3 Tryz.t3 _ 1 8 Go.Num.u30 zgx zhz zhA zf6 rfl (by decide) v j (zba N j) hs (World.ownsRow.alloc HO.out _) ⟨wr.heap.size,0,none⟩ 1 1 [.int .i64 z] hx rfl (zpb _ _ _) (fun u hu=>by simp at hu;subst hu;rfl) (by unfold maxLen;omega) (by omega) (by simp;omega) ?_;intro v' w' h1 h2 _;refine hK v' w' ?_ ?_
 ·rw [zmh,←hz];exact h1
 ·refine(HB.out.alloc hsz _).grown h2 (by simp;omega) fun k hk => ?_
  exact zcp HO.out hk
theorem NatI.below{w w':World}{v:Value}{n:Nat}(h:NatI w v n)(hb:Below w.heap.size w w'):NatI w' v n:=by
 obtain⟨k,hk,hl⟩:=h;exact⟨k,hk,hl.below hb⟩
theorem NatI.limbs{w:World}{v:Value}{n k:Nat}(h:NatI w v n)(hk:zcV n k):zbZ w v n k:=by
 obtain⟨k',hk',hl⟩:=h;rw [hk.unique hk'];exact hl
theorem zp7(w:World)(o:Option Addr)(c:Nat):NatI w (.slice o 0 c) 0:=⟨0,zcf,.inl ⟨rfl,o,c,rfl⟩⟩
theorem NatI.setCell{w:World}{v:Value}{x g i:Nat}(h:NatI w v x)(hne:v.ownBlock≠some g)(u:Value):NatI (w.setCell ⟨g,i,none⟩ u) v x:=by
 obtain⟨k,hk,hl⟩:=h;refine⟨k,hk,?_⟩;rcases hl with h|⟨a,cap,rfl,h2,h3,h4,h5,h6⟩
 ·exact .inl h
 ·refine .inr ⟨a,cap,rfl,h2,h3,h4,h5.setCell _ _,fun j hj => ?_⟩;have hb:(a.add j).block≠g:=by rw [zaf];exact fun e=>hne (by simp [Value.ownBlock,e])
  rw [World.cell?_setCell_other _ _ _ _ (by intro q;exact hb (by rw [←q]))];exact h6 j hj
theorem NatI.lt{w:World}{v:Value}{x:Nat}(h:NatI w v x)(h0:0<x):∀g,w.heap.size≤g→v.ownBlock≠some g:=by
 intro g hg;obtain⟨k,hk,hl⟩:=h;rcases hl with⟨rfl,_⟩|⟨a,cap,rfl,h2,h3,h4,h5,h6⟩
 ·have:=hk.zero;omega
 ·intro e;have:a.block=g:=by simpa [Value.ownBlock]using e
  have:=h5.lt;omega
theorem NatI.unique{w:World}{v:Value}{m n:Nat}(h:NatI w v m)(h':NatI w v n):m=n:=by
 obtain⟨k,hk,hl⟩:=h;obtain⟨k',hk',hl'⟩:=h';obtain⟨o,c,rfl,h1⟩:=hl.form;obtain⟨o',c',e,h2⟩:=hl'.form;injection e with e1 e2 e3;subst e1;subst e2;refine zm5 hk.1 hk'.1 fun i hi => ?_
 obtain⟨a,rfl,ha,hc⟩:=h1 (by omega);obtain⟨a',e,ha',hc'⟩:=h2 (by omega);injection e with e;subst e;have:=(hc i hi).symm.trans (hc' i hi);injection this with this;injection this with _ this;omega
open Classical in
noncomputable def zm0(w:World)(v:Value):Nat:=if h:∃n,NatI w v n then Classical.choose h else 0
theorem NatI.num{w:World}{v:Value}{n:Nat}(h:NatI w v n):zm0 w v=n:=by
 unfold zm0;rw [dif_pos ⟨n,h⟩];exact(Classical.choose_spec (⟨n,h⟩:∃n,NatI w v n)).unique h
theorem zbf{w:World}{v:Value}{n:Nat}(h:NatI w v n):∃o k c,v = .slice o k c∧(k=0↔n=0)∧k≤1000000000:=by
 obtain⟨k,hk,hl⟩:=h;obtain⟨o,c,rfl,h1⟩:=hl.form;refine⟨o,k,c,rfl,⟨fun e => ?_,fun e => ?_⟩,hl.small⟩
 ·subst e;exact hk.zero
 ·subst e;exact hk.unique zcf
def zqM:Value→Nat
 | .slice _ k _=>k
 | _=>0
theorem zbs(w:World)(v:Value)(n k:Nat)(h:zbZ w v n k)(hn:n<B^k) :
  CallsIn Fence.wide 0 Tryz.prog 198 #[v] w fun e w'=>∃v',e = .returned v'∧(NatI w' v' n∧v'.ownBlock=v.ownBlock)∧Below w.heap.size w w':=by
 have hks:=h.small;have HLA:=zHi h;obtain⟨o,c,rfl,h1⟩:=h.form;have H1:=zHi h1;have HN:=zHi hn;have hkc:k≤c∧c≤9223372036854775807∨k=0:=by
  rcases h with⟨h0,_⟩|⟨a,cap,hv,h2,h3,h4,h5,h6⟩
  ·exact .inr h0
  ·injection hv with _ _ hc;left;omega
 clear h h1 hn;refine callsIn_of_wp Tryz.func198 rfl trivial ?_ rfl;simp only [Tryz.ntmps198,zsj,zsk,zsl,Nat.reduceAdd,Nat.reduceSub,zsm,zsn,zso,zsp,zsq,zsr];gi_wp2;gi_loopw [0] (fun i wr=>∃j:Nat,j≤k∧i = .slice o j c∧Hid (n<B^j)∧Hid (Below w.heap.size w wr)) (fun i _=>zqM i)
 case atStart=>exact⟨k,Nat.le_refl _,rfl,HN.out,Below.refl _ _⟩
 case round=>
  obtain⟨j,hj,rfl,HJ,HB⟩:=hrel;by_cases h0:0<j
  ·obtain⟨m,rfl⟩:∃m,j=m+1:=⟨j-1,by omega⟩;obtain⟨a,rfl,ha,hc⟩:=H1.out (by omega);have p:=(HB.out.cell (p:=a.add m) (by rw [zaf];exact ha)).trans (hc m (by omega));obtain⟨l,hl⟩:∃l,limb n m=l:=⟨_,rfl⟩;rw [hl]at p;have HLm:=zHi hl;clear hc hl;by_cases hz:l=0
   ·subst hz;gi_wp2;exact⟨⟨m,by omega,rfl,zjp HJ.out HLm.out,HB.out⟩,by simp [zqM]⟩
   ·have hz':¬(l:Int)=0:=by omega
    have hz2:((l:Int) == 0)=false:=by simp;omega
    gi_wp2;all_goals (first|go_returns|go_ret|go_end0)
    obtain⟨a',e',ha',hc⟩:=H1.out (by omega);injection e' with e';subst e';exact⟨_,rfl,⟨⟨m+1,zm6 HJ.out (by rw [HLm.out];exact hz),.inr ⟨a,c,rfl,by omega,by omega,by omega,(HLA.out.elem (by omega)).below HB.out ha,fun i hi=>(HB.out.cell (p:=a.add i) (by rw [zaf];exact ha)).trans (hc i (by omega))⟩⟩,rfl⟩,HB.out⟩
  ·have hj0:j=0:=by omega
   subst hj0;gi_wp2;all_goals (first|go_returns|go_ret|go_end0)
   exact⟨_,rfl,⟨⟨0,⟨HJ.out,.inl rfl⟩,.inl ⟨rfl,o,c,rfl⟩⟩,by cases o <;> rfl⟩,HB.out⟩
def cmpI(x y:Nat):Int:=if x<y then -1 else if x=y then 0 else 1
theorem zis{x y:Nat}(h:x<y):cmpI x y = -1:=if_pos h
theorem zmp{x:Nat}:cmpI x x=0:=by unfold cmpI;simp
theorem zki{x y:Nat}(h:y<x):cmpI x y=1:=by unfold cmpI;rw [if_neg (by omega),if_neg (by omega)]
theorem zln{x y m:Nat}(h:x/m<y/m):x<y:=by
 apply Classical.byContradiction
 intro hno;have:=Nat.div_le_div_right (c:=m) (show y≤x by omega);omega
theorem zjy(w:World)(va vb:Value)(x y:Nat)(ha:NatI w va x)(hb:NatI w vb y) :
  CallsIn Fence.wide 0 Tryz.prog 200 #[va,vb] w fun e w'=>e = .returned (.int .i64 (cmpI x y))∧Below w.heap.size w w':=by
 obtain⟨k,hk,hla⟩:=ha;obtain⟨l,hl,hlb⟩:=hb;have hks:=hla.small;have hls:=hlb.small;obtain⟨o1,c1,rfl,h1⟩:=hla.form;obtain⟨o2,c2,rfl,h2⟩:=hlb.form;have H1:=zHi h1;have H2:=zHi h2;have HK:=zHi hk;have HL:=zHi hl;clear h1 h2 hk hl hla hlb;refine callsIn_of_wp Tryz.func200 rfl trivial ?_ rfl;simp only [Tryz.ntmps200,zsj,zsk,zsl,Nat.reduceAdd,Nat.reduceSub,zsm,zsn,zso,zsp,zsq,zsr];by_cases hkl:k=l
 ·subst hkl;gi_wp2;gi_loopw [5] (fun i wr=>∃i0:Int,-1≤i0∧i0<k∧i = .int .i64 i0∧Hid (x/B^(i0+1).toNat=y/B^(i0+1).toNat)∧Hid (Below w.heap.size w wr)) (fun i _=>(intOf i+1).toNat)
  case atStart=>exact⟨(k:Int)-1,by omega,by omega,rfl,zHi (by
   rw [show((k:Int)-1+1).toNat=k by omega,Nat.div_eq_of_lt HK.out.1,Nat.div_eq_of_lt HL.out.1]),Below.refl _ _⟩
  case round=>
   obtain⟨i0,hi1,hi2,rfl,HE,HB⟩:=hrel;by_cases h0:0≤i0
   ·obtain⟨m,rfl⟩:∃m:Nat,i0=(m:Int):=⟨i0.toNat,by omega⟩;obtain⟨a1,rfl,ha1,hc1⟩:=H1.out (by omega);obtain⟨a2,rfl,ha2,hc2⟩:=H2.out (by omega);have p1:=(HB.out.cell (p:=a1.add m) (by rw [zaf];exact ha1)).trans (hc1 m (by omega));have p2:=(HB.out.cell (p:=a2.add m) (by rw [zaf];exact ha2)).trans (hc2 m (by omega));rw [show((m:Int)+1).toNat=m+1 by omega]at HE;have dx:=zcD x m;have dy:=zcD y m;obtain⟨lx,hlx⟩:∃l,limb x m=l:=⟨_,rfl⟩;obtain⟨ly,hly⟩:∃l,limb y m=l:=⟨_,rfl⟩;rw [hlx]at p1 dx;rw [hly]at p2 dy;rw [HE.out]at dx;have HX:=zHi dx;have HY:=zHi dy;clear hc1 hc2 hlx hly dx dy;by_cases hlt:lx<ly
    ·have HXY:Hid (cmpI x y = -1):=zHi (zis (zln (m:=B^m) (by rw [HX.out,HY.out];omega)));have hl1:decide ((lx:Int)<(ly:Int))=true:=decide_eq_true (by omega);gi_wp2;gi_quiet (fail)
     gi_wp2;all_goals (first|go_returns|go_ret|go_end0)
     exact⟨by rw [HXY.out] <;> rfl,HB.out.trans (Below.mono (by first|exact zbC _ _|exact zdE _ _ _) HB.out.size)⟩
    ·have hl1:decide ((lx:Int)<(ly:Int))=false:=decide_eq_false (by omega);by_cases hgt:ly<lx
     ·have HXY:Hid (cmpI x y=1):=zHi (zki (zln (m:=B^m) (by rw [HX.out,HY.out];omega)));have hl2:decide ((ly:Int)<(lx:Int))=true:=decide_eq_true (by omega);gi_wp2;gi_quiet (fail)
      gi_wp2;gi_quiet (fail)
      gi_wp2;all_goals (first|go_returns|go_ret|go_end0)
      exact⟨by rw [HXY.out] <;> rfl,HB.out.trans (Below.mono (by first|exact zbC _ _|exact zdE _ _ _) HB.out.size)⟩
     ·have hee:lx=ly:=by omega
      subst hee;have hl2:decide ((lx:Int)<(lx:Int))=false:=decide_eq_false (by omega);gi_wp2;gi_quiet (fail)
      gi_wp2;gi_quiet (fail)
      gi_wp2;refine⟨⟨(m:Int)-1,by omega,by omega,by go_num,zHi ?_,HB.out.trans (Below.mono (by first|exact zbC _ _|exact zdE _ _ _) HB.out.size)⟩,by simp [intOf]⟩;rw [show((m:Int)-1+1).toNat=m by omega,HX.out,HY.out]
   ·have hm1:i0 = -1:=by omega
    subst hm1;have hxy:x=y:=by
     have:=HE.out;simpa using this
    subst hxy;gi_wp2;all_goals (first|go_returns|go_ret|go_end0)
    exact⟨by rw [zmp] <;> rfl,HB.out⟩
 ·have hkl':¬(k:Int)=(l:Int):=by omega
  by_cases hlt:k<l
  ·have HXY:Hid (cmpI x y = -1):=zHi (zis (zgO HK.out HL.out hlt));have hl1:(k:Int)<(l:Int):=by omega
   gi_wp2;all_goals (first|go_returns|go_ret|go_end0)
   exact⟨by rw [HXY.out] <;> rfl,Below.refl _ _⟩
  ·have HXY:Hid (cmpI x y=1):=zHi (zki (zgO HL.out HK.out (by omega)));have hl1:¬(k:Int)<(l:Int):=by omega
   gi_wp2;all_goals (first|go_returns|go_ret|go_end0)
   exact⟨by rw [HXY.out] <;> rfl,Below.refl _ _⟩
theorem zn6(w:World)(va vb:Value)(x y L:Nat)(ha:NatI w va x)(hb:NatI w vb y)(hx:x<B^L)(hy:y<B^L)(hL:L≤100000000) :
  CallsIn Fence.wide 0 Tryz.prog 199 #[va,vb] w fun e w'=>∃v',e = .returned v'∧(NatI w' v' (x+y)∧zdp w.heap.size v')∧Below w.heap.size w w':=by
 obtain⟨k,hk,hla⟩:=ha;obtain⟨l,hl,hlb⟩:=hb;have hkL:=hk.le hx;have hlL:=hl.le hy;clear hx hy;obtain⟨o1,c1,rfl,h1⟩:=hla.form;obtain⟨o2,c2,rfl,h2⟩:=hlb.form;have H1:=zHi h1;have H2:=zHi h2;have HK:=zHi hk;have HL:=zHi hl;clear h1 h2 hk hl hla hlb;refine callsIn_of_wp Tryz.func199 rfl trivial ?_ rfl;simp only [Tryz.ntmps199,zsj,zsk,zsl,Nat.reduceAdd,Nat.reduceSub,zsm,zsn,zso,zsp,zsq,zsr];obtain⟨M,hM⟩:∃M,max k l=M:=⟨_,rfl⟩;have hMk:k≤M:=by omega
 have hMl:l≤M:=by omega
 have hM9:M≤100000000:=by omega
 have HS:Hid (x<B^M∧y<B^M):=⟨Nat.lt_of_lt_of_le HK.out.1 (zah hMk),Nat.lt_of_lt_of_le HL.out.1 (zah hMl)⟩;by_cases hkl:k<l
 case' pos=>have hML:M=l:=by omega
 case' neg=>have hML:M=k:=by omega
 all_goals
  have HML:=zHi hML;clear hM hML;have HO4:Hid (w.ownsRow w.heap.size 3 1 (.slice none 0 0) 0 (zba (x+y) 0)):=World.ownsRow_nil _ _ _ _;have HB4:Hid (Below w.heap.size w w):=Below.refl _ w;gi_wp2;gi_loopw [5,6,7] (fun v cv i wr=>∃j c:Nat,j≤M+1∧i = .int .i64 (j:Int)∧cv = .int .i64 (c:Int)∧Hid (zcH x y j=c)∧Hid (j=M+1→B^M≤x+y)∧Hid (wr.ownsRow w.heap.size 3 1 v j (zba (x+y) j))∧Hid (Below w.heap.size w wr)) (fun _ _ i _=>M+2-(intOf i).toNat)
  case atStart=>exact⟨0,0,by omega,rfl,rfl,zHi (ziv x y),zHi (fun h=>by omega),HO4.out,HB4.out⟩
  case round=>
   obtain⟨j,c,hj,rfl,rfl,HC,HT,HO,HBr⟩:=hrel;have hc1:c≤1:=by rw [←HC.out];exact ze6 x y j
   have hjc:c=1→j≤M:=fun hc=>by
    apply Classical.byContradiction
    intro hno;have:j=M+1:=by omega
    subst this;have s:=(zhq x y M).2;rw [zaJ HS.out.1,zaJ HS.out.2,HC.out,hc]at s;have:=ze6 x y M;have hBB:B=1000000000:=rfl;rw [Nat.div_eq_of_lt (by omega)]at s;omega
   have s:=zhq x y j;rw [HC.out]at s;obtain⟨lx,hlx⟩:∃l,limb x j=l:=⟨_,rfl⟩;obtain⟨ly,hly⟩:∃l,limb y j=l:=⟨_,rfl⟩;have bx:lx<1000000000:=by rw [←hlx];exact zaB x j
   have by':ly<1000000000:=by rw [←hly];exact zaB y j
   rw [hlx,hly]at s;have HSt:=zHi s;clear s HO4 HB4;have hMM:=HML.out;have hBB:B=1000000000:=rfl;by_cases hjk:j<k
   ·by_cases hjl:j<l
    ·have hj1:j≤M:=by omega
     obtain⟨a1,rfl,ha1,hc1'⟩:=H1.out (by omega);have p1:=(HBr.out.cell (p:=a1.add j) (by rw [zaf];exact ha1)).trans (hc1' j hjk);rw [hlx]at p1;clear hc1';obtain⟨a2,rfl,ha2,hc2'⟩:=H2.out (by omega);have p2:=(HBr.out.cell (p:=a2.add j) (by rw [zaf];exact ha2)).trans (hc2' j hjl);rw [hly]at p2;clear hc2';have hjkd:decide ((j:Int)<(k:Int))=true:=decide_eq_true (by omega);have hjld:decide ((j:Int)<(l:Int))=true:=decide_eq_true (by omega);clear hlx hly;gi_wp2_with (gi_at_builtin;refine stop ?_)
     unfold Stop;refine zaE w wr rfl _ _ rfl u5 j (x+y) rfl HO _ _ rfl ?_ (by omega) HBr ?_
     ·rw [HSt.out.1];simp [B];omega
     ·intro v2 w2 HO2 HB2;gi_wp2;refine⟨⟨j+1,(lx+ly+c)/B,by omega,by go_num,?_,HSt.out.2.symm ▸ rfl,zHi (fun h=>by omega),HO2,HB2⟩,by simp [intOf];omega⟩;simp [B];omega
    ·try omega
     all_goals
      have hj1:j≤M:=by omega
      obtain⟨a1,rfl,ha1,hc1'⟩:=H1.out (by omega);have p1:=(HBr.out.cell (p:=a1.add j) (by rw [zaf];exact ha1)).trans (hc1' j hjk);rw [hlx]at p1;clear hc1';have hy0:ly=0:=by rw [←hly];exact zaJ (Nat.lt_of_lt_of_le HL.out.1 (zah (by omega)))
      subst hy0;have hjl':¬(j:Int)<(l:Int):=by omega
      have hjld:decide ((j:Int)<(l:Int))=false:=decide_eq_false (by omega);have hjkd:decide ((j:Int)<(k:Int))=true:=decide_eq_true (by omega);clear hlx hly;gi_wp2_with (gi_at_builtin;refine stop ?_)
      unfold Stop;refine zaE w wr rfl _ _ rfl u5 j (x+y) rfl HO _ _ rfl ?_ (by omega) HBr ?_
      ·rw [HSt.out.1];simp [B];omega
      ·intro v2 w2 HO2 HB2;gi_wp2;refine⟨⟨j+1,(lx+0+c)/B,by omega,by go_num,?_,HSt.out.2.symm ▸ rfl,zHi (fun h=>by omega),HO2,HB2⟩,by simp [intOf];omega⟩;simp [B];omega
   ·by_cases hjl:j<l
    ·try omega
     all_goals
      have hj1:j≤M:=by omega
      have hx0:lx=0:=by rw [←hlx];exact zaJ (Nat.lt_of_lt_of_le HK.out.1 (zah (by omega)))
      subst hx0;have hjk':¬(j:Int)<(k:Int):=by omega
      have hjkd:decide ((j:Int)<(k:Int))=false:=decide_eq_false (by omega);obtain⟨a2,rfl,ha2,hc2'⟩:=H2.out (by omega);have p2:=(HBr.out.cell (p:=a2.add j) (by rw [zaf];exact ha2)).trans (hc2' j hjl);rw [hly]at p2;clear hc2';have hjld:decide ((j:Int)<(l:Int))=true:=decide_eq_true (by omega);clear hlx hly;gi_wp2_with (gi_at_builtin;refine stop ?_)
      unfold Stop;refine zaE w wr rfl _ _ rfl u5 j (x+y) rfl HO _ _ rfl ?_ (by omega) HBr ?_
      ·rw [HSt.out.1];simp [B];omega
      ·intro v2 w2 HO2 HB2;gi_wp2;refine⟨⟨j+1,(0+ly+c)/B,by omega,by go_num,?_,HSt.out.2.symm ▸ rfl,zHi (fun h=>by omega),HO2,HB2⟩,by simp [intOf];omega⟩;simp [B];omega
    ·by_cases hc0:c=1
     ·subst hc0;have hj1:=hjc rfl;have HCar:Hid (B^j≤x+y):=zHi (by
       have s0:=zgy x y j;rw [HC.out,Nat.mul_one]at s0;have h1:=Nat.mod_le x (B^j);have h2:=Nat.mod_le y (B^j);generalize (x+y)%B^j=q at s0
       generalize x%B^j=q1 at s0 h1
       generalize y%B^j=q2 at s0 h2
       omega)
      have hx0:lx=0:=by rw [←hlx];exact zaJ (Nat.lt_of_lt_of_le HK.out.1 (zah (by omega)))
      subst hx0;have hjk':¬(j:Int)<(k:Int):=by omega
      have hjkd:decide ((j:Int)<(k:Int))=false:=decide_eq_false (by omega);have hy0:ly=0:=by rw [←hly];exact zaJ (Nat.lt_of_lt_of_le HL.out.1 (zah (by omega)))
      subst hy0;have hjl':¬(j:Int)<(l:Int):=by omega
      have hjld:decide ((j:Int)<(l:Int))=false:=decide_eq_false (by omega);clear hlx hly;gi_wp2_with (gi_at_builtin;refine stop ?_)
      unfold Stop;refine zaE w wr rfl _ _ rfl u5 j (x+y) rfl HO _ _ rfl ?_ (by omega) HBr ?_
      ·rw [HSt.out.1];(first|(simp [B];done)|(simp [B];omega))
      ·intro v2 w2 HO2 HB2;gi_wp2;refine⟨⟨j+1,(0+0+1)/B,by omega,by go_num,?_,HSt.out.2.symm ▸ rfl,zHi (fun h=>(show j=M by omega) ▸ HCar.out),HO2,HB2⟩,by simp [intOf];omega⟩
       (first|(simp [B];done)|(simp [B];omega))
     ·have hc00:c=0:=by omega
      subst hc00;have hjk':¬(j:Int)<(k:Int):=by omega
      have hjkd:decide ((j:Int)<(k:Int))=false:=decide_eq_false (by omega);have hjl':¬(j:Int)<(l:Int):=by omega
      have hjld:decide ((j:Int)<(l:Int))=false:=decide_eq_false (by omega);have hlt:x+y<B^j:=by
       have s0:=zgy x y j;rw [zbn (Nat.lt_of_lt_of_le HK.out.1 (zah (by omega))),zbn (Nat.lt_of_lt_of_le HL.out.1 (zah (by omega))),HC.out,Nat.mul_zero,Nat.add_zero]at s0;rw [s0];exact zcG _ _
      have HLen:Hid (zcV (x+y) j):=zHi ⟨hlt,by
       rcases Nat.eq_zero_or_pos j with h0|h0
       ·exact .inl h0
       ·right;by_cases hjM:j=M+1
        ·rw [hjM];exact HT.out hjM
        ·have hkj:j=M:=by omega
         have h3:=HK.out.2;have h4:=HL.out.2;have h5:j=k∨j=l:=by omega
         rcases h5 with h5|h5
         ·rw [h5]at h0 ⊢;omega
         ·rw [h5]at h0 ⊢;omega⟩
      clear hlx hly hlt;gi_wp2;all_goals (first|go_returns|go_ret|go_end0)
      exact⟨_,rfl,⟨⟨j,HLen.out,zbJ HO.out (by omega)⟩,fun k hk=>zcp HO.out hk⟩,HBr.out⟩
theorem zi8(w:World)(va vb:Value)(x y L:Nat)(ha:NatI w va x)(hb:NatI w vb y)(hyx:y≤x)(hx:x<B^L)(hL:L≤100000000) :
  CallsIn Fence.wide 0 Tryz.prog 201 #[va,vb] w fun e w'=>∃v',e = .returned v'∧(NatI w' v' (x-y)∧zdp w.heap.size v')∧Below w.heap.size w w':=by
 obtain⟨k,hk,hla⟩:=ha;obtain⟨l,hl,hlb⟩:=hb;have hkL:=hk.le hx;have hls:=hlb.small;clear hx;obtain⟨o1,c1,rfl,h1⟩:=hla.form;obtain⟨o2,c2,rfl,h2⟩:=hlb.form;have H1:=zHi h1;have H2:=zHi h2;have HK:=zHi hk;have HL:=zHi hl;have HYX:=zHi hyx;clear h1 h2 hk hl hla hlb hyx;refine callsIn_of_wp Tryz.func201 rfl trivial ?_ rfl;simp only [Tryz.ntmps201,zsj,zsk,zsl,Nat.reduceAdd,Nat.reduceSub,zsm,zsn,zso,zsp,zsq,zsr];have HO4:Hid (w.ownsRow w.heap.size 3 1 (.slice none 0 0) 0 (zba (x-y) 0)):=World.ownsRow_nil _ _ _ _;have HB4:Hid (Below w.heap.size w w):=Below.refl _ w;gi_wp2;gi_loopw [5,6,7] (fun v bv i wr=>∃j bo:Nat,j≤k∧i = .int .i64 (j:Int)∧bv = .int .i64 (bo:Int)∧Hid (zbd x y j=bo)∧Hid (wr.ownsRow w.heap.size 3 1 v j (zba (x-y) j))∧Hid (Below w.heap.size w wr)) (fun _ _ i _=>k-(intOf i).toNat)
 case atStart=>exact⟨0,0,by omega,rfl,rfl,zHi (zhb x y),HO4.out,HB4.out⟩
 case round=>
  obtain⟨j,bo,hj,rfl,rfl,HC,HO,HBr⟩:=hrel;have hb1:bo≤1:=by rw [←HC.out];exact zfs x y j
  have s:=zmI HYX.out j;rw [HC.out]at s;obtain⟨lx,hlx⟩:∃l,limb x j=l:=⟨_,rfl⟩;obtain⟨ly,hly⟩:∃l,limb y j=l:=⟨_,rfl⟩;have bx:lx<1000000000:=by rw [←hlx];exact zaB x j
  have by':ly<1000000000:=by rw [←hly];exact zaB y j
  rw [hlx,hly]at s;have hBB:B=1000000000:=rfl;rw [hBB]at s;have HSt:=zHi s;clear s HO4 HB4 hBB;by_cases hjk:j<k
  ·obtain⟨a1,rfl,ha1,hc1'⟩:=H1.out (by omega);have p1:=(HBr.out.cell (p:=a1.add j) (by rw [zaf];exact ha1)).trans (hc1' j hjk);rw [hlx]at p1;clear hc1';by_cases hjl:j<l
   ·obtain⟨a2,rfl,ha2,hc2'⟩:=H2.out (by omega);have p2:=(HBr.out.cell (p:=a2.add j) (by rw [zaf];exact ha2)).trans (hc2' j hjl);rw [hly]at p2;clear hc2' hlx hly;by_cases hlt:lx<ly+bo
    ·have hs:=HSt.out.1 hlt;have HS:=zHi hs;have hlt':(lx:Int)<(bo:Int)+(ly:Int):=by omega
     clear hs hlt;gi_wp2_with (gi_at_builtin;refine stop ?_)
     unfold Stop;refine zaE w wr rfl _ _ rfl u5 j (x-y) rfl HO _ _ rfl ?_ (by omega) HBr ?_
     ·rw [HS.out.2];omega
     ·intro v2 w2 HO2 HB2;gi_wp2;exact⟨⟨j+1,1,by omega,by go_num,rfl,HS.out.1,HO2,HB2⟩,by simp [intOf];omega⟩
    ·have hs:=HSt.out.2 hlt;have HS:=zHi hs;have hlt':¬(lx:Int)<(bo:Int)+(ly:Int):=by omega
     clear hs;gi_wp2_with (gi_at_builtin;refine stop ?_)
     unfold Stop;refine zaE w wr rfl _ _ rfl u5 j (x-y) rfl HO _ _ rfl ?_ (by omega) HBr ?_
     ·rw [HS.out.2];omega
     ·intro v2 w2 HO2 HB2;gi_wp2;exact⟨⟨j+1,0,by omega,by go_num,rfl,HS.out.1,HO2,HB2⟩,by simp [intOf];omega⟩
   ·have hy0:ly=0:=by rw [←hly];exact zaJ (Nat.lt_of_lt_of_le HL.out.1 (zah (by omega)))
    subst hy0;clear hlx hly;by_cases hlt:lx<0+bo
    ·have hs:=HSt.out.1 hlt;have HS:=zHi hs;have hlt':(lx:Int)<(bo:Int):=by omega
     clear hs hlt;gi_wp2_with (gi_at_builtin;refine stop ?_)
     unfold Stop;refine zaE w wr rfl _ _ rfl u5 j (x-y) rfl HO _ _ rfl ?_ (by omega) HBr ?_
     ·rw [HS.out.2];omega
     ·intro v2 w2 HO2 HB2;gi_wp2;exact⟨⟨j+1,1,by omega,by go_num,rfl,HS.out.1,HO2,HB2⟩,by simp [intOf];omega⟩
    ·have hs:=HSt.out.2 hlt;have HS:=zHi hs;have hlt':¬(lx:Int)<(bo:Int):=by omega
     clear hs;gi_wp2_with (gi_at_builtin;refine stop ?_)
     unfold Stop;refine zaE w wr rfl _ _ rfl u5 j (x-y) rfl HO _ _ rfl ?_ (by omega) HBr ?_
     ·rw [HS.out.2];omega
     ·intro v2 w2 HO2 HB2;gi_wp2;exact⟨⟨j+1,0,by omega,by go_num,rfl,HS.out.1,HO2,HB2⟩,by simp [intOf];omega⟩
  ·have hjk0:j=k:=by omega
   subst hjk0;have hlt:x-y<B^j:=Nat.lt_of_le_of_lt (Nat.sub_le _ _) HK.out.1;have HT:=zHi (zbs wr _ (x-y) j (zbJ HO.out (by omega)) hlt);clear hlx hly hlt;gi_wp2_with (gi_at_call 198;refine HT.out.mono ?_;rintro e w7 ⟨v',rfl,hm,hB7⟩;have HM:=zHi hm;have HB7:=zHi (HBr.out.trans (hB7.mono HBr.out.size));clear hm hB7)
   all_goals (first|go_returns|go_ret|go_end0)
   exact⟨v',rfl,⟨HM.out.1,fun k hk=>zcp HO.out (HM.out.2 ▸ hk)⟩,HB7.out⟩
end Go.Num
