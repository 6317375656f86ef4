/-
  What 'div' of magnitudes answers.
  Conditions: the limbs are known; the divisor is not 0.
-/
import Derived.Test.YtepakfjilnpodaaGreatDoorRDAG
namespace Go.Num
open Go.RowKit Go.Proofs Go.Proofs.YtepakfjilnpodaaGreatDoor
theorem MagAt.below{w w':World}{v:Value}{n:Nat}(h:MagAt w v n)(hb:Below w.heap.size w w'):MagAt w' v n:=by
 obtain⟨k,hk,hl⟩:=h
 exact⟨k,hk,hl.below hb⟩
theorem MagAt.mag{w:World}{v:Value}{n k:Nat}(h:MagAt w v n)(hk:LenIs n k):LimbsAt w v n k:=by
 obtain⟨k',hk',hl⟩:=h
 rw [hk.unique hk']
 exact hl
theorem magAt_nil(w:World)(o:Option Addr)(c:Nat):MagAt w (.slice o 0 c) 0:=⟨0,lenIs_zero,.inl ⟨rfl,o,c,rfl⟩⟩
theorem lenIs_one{d:Nat}(h0:0<d)(hB:d<B):LenIs d 1:=⟨by rw [Nat.pow_one];exact hB,.inr (by simp;omega)⟩
theorem limb_small{d:Nat}(hB:d<B):limb d 0=d:=by unfold limb;rw [Nat.pow_zero,Nat.div_one,Nat.mod_eq_of_lt hB]
theorem magAt_new(w:World)(d:Nat)(h0:0<d)(hB:d<B):MagAt (w.alloc (.cells #[.int .u64 (d:Int)] 116)) (.slice (some ⟨w.heap.size,0,none⟩) 1 1) d:=by
 refine⟨1,lenIs_one h0 hB,.inr ⟨⟨w.heap.size,0,none⟩,1,rfl,by omega,Nat.le_refl _,by omega,elem_new _ _ _,fun i hi => ?_⟩⟩
 obtain rfl:i=0:=by omega
 rw [Addr.add_lit,Nat.zero_add,World.cell?_alloc_new,limb_small hB]
 rfl
theorem alloc_below(w:World)(o:Obj):Below w.heap.size w (w.alloc o):=(Below.refl _ w).alloc (Nat.le_refl _) o
theorem MagAt.setCell{w:World}{v:Value}{x g i:Nat}(h:MagAt w v x)(hne:v.ownBlock≠some g)(u:Value):MagAt (w.setCell ⟨g,i,none⟩ u) v x:=by
 obtain⟨k,hk,hl⟩:=h
 refine⟨k,hk,?_⟩
 rcases hl with h|⟨a,cap,rfl,h2,h3,h4,h5,h6⟩
 ·exact .inl h
 ·refine .inr ⟨a,cap,rfl,h2,h3,h4,h5.setCell _ _,fun j hj => ?_⟩
  have hb:(a.add j).block≠g:=by rw [add_block];exact fun e=>hne (by simp [Value.ownBlock,e])
  rw [World.cell?_setCell_other _ _ _ _ (by intro q;exact hb (by rw [←q]))]
  exact h6 j hj
theorem MagAt.lt{w:World}{v:Value}{x:Nat}(h:MagAt w v x)(h0:0<x):∀g,w.heap.size≤g→v.ownBlock≠some g:=by
 intro g hg
 obtain⟨k,hk,hl⟩:=h
 rcases hl with⟨rfl,_⟩|⟨a,cap,rfl,h2,h3,h4,h5,h6⟩
 ·have:=hk.zero;omega
 ·intro e
  have:a.block=g:=by simpa [Value.ownBlock]using e
  have:=h5.lt
  omega
theorem cmp_pos{x y:Nat}{r:Int}(h:CmpIs x y r)(hg:y<x):0<r:=by
 have h1:=h.1
 have h2:=h.2
 apply Classical.byContradiction
 intro hno
 rcases Int.lt_or_eq_of_le (Int.not_lt.1 hno)with h3|h3
 ·have:=h1.1 h3;omega
 ·have:=h2.1 h3;omega
theorem cmp_npos{x y:Nat}{r:Int}(h:CmpIs x y r)(hg:¬y<x):¬0<r:=by
 have h1:=h.1
 have h2:=h.2
 intro hp
 rcases Nat.lt_trichotomy x y with h3|h3|h3
 ·have:=h1.2 h3;omega
 ·have:=h2.2 h3;omega
 ·omega
structure DivKept(w0 wr:World)(vr vc vd:Value)(R c d g n:Nat)(f:Nat→Value):Prop where
 rest:MagAt wr vr R
 restNe:vr.ownBlock≠some g
 div:MagAt wr vc c
 divNe:vc.ownBlock≠some g
 by':MagAt wr vd d
 byNe:vd.ownBlock≠some g
 arr:ArrAt wr g n f
 el:Elem wr g 116
 lt:g<wr.heap.size
 below:Below w0.heap.size w0 wr
theorem DivKept.step{w0 wr w':World}{vr vc vd:Value}{R c d g n:Nat}{f:Nat→Value}(h:DivKept w0 wr vr vc vd R c d g n f)(hb:Below wr.heap.size wr w'):DivKept w0 w' vr vc vd R c d g n f:=
 ⟨h.rest.below hb,h.restNe,h.div.below hb,h.divNe,h.by'.below hb,h.byNe,h.arr.below h.lt hb,h.el.below hb h.lt,Nat.lt_of_lt_of_le h.lt hb.size,h.below.trans (hb.mono h.below.size)⟩
set_option maxRecDepth 100000 in
set_option maxHeartbeats 8000000 in
theorem div_calls(w:World)(va vb:Value)(x y L:Nat)(ha:MagAt w va x)(hb:MagAt w vb y)(hy:0<y)(hx:x<B^L)(hyL:y<B^L)(hL:L≤10000000) :
  CallsIn Fence.wide 0 Tryz.prog 181 #[va,vb] w fun e w'=>∃vq vr,e = .returned (.tuple #[vq,vr])∧(MagAt w' vq (x/y)∧Fresh w.heap.size vq)∧MagAt w' vr (x%y)∧Below w.heap.size w w':=by
 have HA:=Hid.intro ha
 have HB:=Hid.intro hb
 have HX:=Hid.intro hx
 have HY:=Hid.intro hyL
 clear hx hyL
 by_cases hxy:x<y
 ·refine callsIn_of_wp Tryz.func181 rfl trivial ?_ rfl
  simp only [Tryz.ntmps181,List.size_toArray,List.length_cons,List.length_nil,Nat.reduceAdd,Nat.reduceSub,Array.replicate_succ,Array.replicate_zero,List.push_toArray,List.append_toArray,List.nil_append,List.cons_append]
  have HC:=Hid.intro (cmp_calls w va vb x y ha hb)
  clear ha hb
  gi_wp2_with (gi_at_call 135;refine HC.out.mono ?_;rintro e w1 ⟨r,hr,rfl,hB1⟩;have hr0:r<0:=hr.1.2 hxy;have HB1:=Hid.intro hB1;clear hr hB1)
  all_goals (first|go_returns|go_ret|go_end0)
  refine⟨_,_,rfl,?_,?_,HB1.out⟩
  ·rw [Nat.div_eq_of_lt hxy];exact⟨magAt_nil _ _ _,fun k h=>by cases h⟩
  ·rw [Nat.mod_eq_of_lt hxy];exact HA.out.below HB1.out
 ·by_cases hy1:y<B
  ·obtain⟨l,hl,hlb⟩:=hb
   have hl1:l=1:=hl.unique (lenIs_one hy hy1)
   subst hl1
   obtain⟨o2,c2,rfl,h2⟩:=hlb.form
   obtain⟨a2,rfl,ha2,hc2⟩:=h2 (by omega)
   have hc0:=hc2 0 (by omega)
   rw [limb_small hy1]at hc0
   have hc1:w.cell? a2=some (.int .u64 (y:Int)):=hc0
   clear hc2 hc0 h2 hlb hl
   refine callsIn_of_wp Tryz.func181 rfl trivial ?_ rfl
   simp only [Tryz.ntmps181,List.size_toArray,List.length_cons,List.length_nil,Nat.reduceAdd,Nat.reduceSub,Array.replicate_succ,Array.replicate_zero,List.push_toArray,List.append_toArray,List.nil_append,List.cons_append]
   have HC:=Hid.intro (cmp_calls w va _ x y ha HB.out)
   clear ha
   gi_wp2_with (gi_at_call 135;refine HC.out.mono ?_;rintro e w1 ⟨r,hr,rfl,hB1⟩;have hr0:¬r<0:=fun h=>hxy (hr.1.1 h);have HB1:=Hid.intro hB1;have p1:=(hB1.cell (p:=a2) ha2).trans hc1;have HS:=Hid.intro (short_calls w1 va x y (HA.out.below hB1) hy hy1);clear hr hB1)
   gi_wp2_with (gi_at_call 211;refine HS.out.mono ?_;rintro e w2 ⟨vq,rfl,hm,hB2⟩;have HM:=Hid.intro hm;have HB2:=Hid.intro hB2;clear hm hB2)
   have hr1:x%y<18446744073709551616:=by
    have:=Nat.mod_lt x hy
    have hBB:B=1000000000:=rfl
    omega
   have HS2:=fun w2=>Hid.intro (magOf_calls w2 (x%y) hr1)
   gi_wp2_with (gi_at_call 72;refine(HS2 _).out.mono ?_;rintro e w3 ⟨vr,rfl,hm,hB3⟩;have HM3:=Hid.intro hm;have HB3:=Hid.intro hB3;clear hm hB3)
   all_goals (first|go_returns|go_ret|go_end0)
   exact⟨_,_,rfl,⟨HM.out.1.below HB3.out,HM.out.2.mono HB1.out.size⟩,HM3.out.1,(HB1.out.trans (HB2.out.mono HB1.out.size)).trans (HB3.out.mono (Nat.le_trans HB1.out.size HB2.out.size))⟩
  ·obtain⟨l,hl⟩:∃l,LenIs y (l+1):=by
    obtain⟨k,hk,_⟩:=hb
    rcases Nat.eq_zero_or_pos k with h|h
    ·subst h;exact absurd hk.zero (by omega)
    ·exact⟨k-1,by rw [Nat.sub_add_cancel h];exact hk⟩
   have hlb:=hb.mag hl
   have hlL:=hl.le HY.out
   have hl0:l≠0:=fun e=>by subst e;exact hy1 (by have:=hl.1;rw [Nat.zero_add,Nat.pow_one]at this;exact this)
   have tg:=top_great hl
   have ht:=hl.top
   have htB:=limb_lt y l
   obtain⟨o2,c2,rfl,h2⟩:=hlb.form
   obtain⟨a2,rfl,ha2,hc2⟩:=h2 (by omega)
   have hc0:=hc2 l (by omega)
   obtain⟨t,hts⟩:∃t,limb y l=t:=⟨_,rfl⟩
   rw [hts]at tg ht htB hc0
   obtain⟨d,hd⟩:∃d,B/(t+1)=d:=⟨_,rfl⟩
   have ed:(1000000000:Int)/((t:Int)+1)=(d:Int):=by rw [←hd];simp [B]
   rw [hd]at tg
   have hBB:B=1000000000:=rfl
   have hd0:=tg.2.1
   have hdB:=tg.2.2.1
   rw [hBB]at htB
   obtain⟨c,hcc⟩:∃c,y*d=c:=⟨_,rfl⟩
   obtain⟨A,hAA⟩:∃A,x*d=A:=⟨_,rfl⟩
   have hsc:A/c=x/y∧A%c/d=x%y:=by rw [←hcc,←hAA];exact scale_div hd0
   rw [hcc]at tg
   have HTG:=Hid.intro tg
   have HSC:=Hid.intro hsc
   have HCC:=Hid.intro hcc
   have HAA:=Hid.intro hAA
   have HLY:=Hid.intro hl
   have hAL:A<B^(L+1):=by rw [←hAA];exact prod_len HX.out (by rw [Nat.pow_one];exact hdB)
   have hcL:c<B^(L+1):=Nat.lt_of_lt_of_le tg.1.1 (pow_mono (by omega))
   have HAL:=Hid.intro hAL
   have HCL:=Hid.intro hcL
   have hdL:d<B^(L+1):=Nat.lt_of_lt_of_le hdB (by have:=pow_mono (i:=1) (j:=L+1) (by omega);rw [Nat.pow_one]at this;exact this)
   have HDL:=Hid.intro hdL
   clear hts hd hcc hAA hsc tg hlb hl hc2 h2 hAL hcL hdL
   refine callsIn_of_wp Tryz.func181 rfl trivial ?_ rfl
   simp only [Tryz.ntmps181,List.size_toArray,List.length_cons,List.length_nil,Nat.reduceAdd,Nat.reduceSub,Array.replicate_succ,Array.replicate_zero,List.push_toArray,List.append_toArray,List.nil_append,List.cons_append]
   have HC:=Hid.intro (cmp_calls w va _ x y ha HB.out)
   clear ha hb
   gi_wp2_with (gi_at_call 135;refine HC.out.mono ?_;rintro e w1 ⟨r,hr,rfl,hB1⟩;have hr0:¬r<0:=fun h=>hxy (hr.1.1 h);have HB1:=Hid.intro hB1;have p1:=(hB1.cell (p:=a2.add l) (by rw [add_block];exact ha2)).trans hc0;clear hr hB1)
   gi_wp2_with (gi_at_call 131;refine stop ?_)
   unfold Stop
   obtain⟨W,hW⟩:∃W,W=w1.alloc (.cells #[.int .u64 (d:Int)] 116):=⟨_,rfl⟩
   rw [←hW]
   have HMD:Hid (MagAt W (.slice (some ⟨w1.heap.size,0,none⟩) 1 1) d):=by rw [hW];exact magAt_new w1 d hd0 hdB
   have HWB:Hid (Below w.heap.size w W):=by rw [hW];exact HB1.out.trans ((alloc_below w1 _).mono HB1.out.size)
   have hgbW:w1.heap.size<W.heap.size:=by rw [hW];simp
   obtain⟨gb,hgb⟩:∃gb,w1.heap.size=gb:=⟨_,rfl⟩
   rw [hgb]at HMD hgbW
   rw [hgb]
   clear hW p1 HB1 HC hgb
   refine(mul_calls W va _ x d (L+1) (HA.out.below HWB.out) HMD.out (Nat.lt_of_lt_of_le HX.out (pow_mono (by omega))) HDL.out (by omega)).mono ?_
   rintro e w2 ⟨v9,rfl,⟨hm,_⟩,hB2⟩
   rw [HAA.out]at hm
   have HM9:=Hid.intro hm
   have HB2:=Hid.intro (HWB.out.trans (hB2.mono HWB.out.size))
   have HMD2:=Hid.intro (HMD.out.below hB2)
   have hgb2:gb<w2.heap.size:=Nat.lt_of_lt_of_le hgbW hB2.size
   clear hm hB2 HMD HWB hgbW
   gi_wp2_with (gi_at_call 131;refine stop ?_)
   unfold Stop
   refine(mul_calls w2 _ _ y d (L+1) (HB.out.below HB2.out) HMD2.out (Nat.lt_of_lt_of_le HY.out (pow_mono (by omega))) HDL.out (by omega)).mono ?_
   rintro e w3 ⟨v10,rfl,⟨hm,_⟩,hB3⟩
   rw [HCC.out]at hm
   have hm2:=hm.mag HTG.out.1
   obtain⟨o10,c10,rfl,h10⟩:=hm2.form
   obtain⟨a10,rfl,ha10,hc10⟩:=h10 (by omega)
   have hct:=hc10 l (by omega)
   have HMC:=Hid.intro hm
   obtain⟨kA,hkA,hlA⟩:=HM9.out.below hB3
   obtain⟨o9,c9,rfl,h9⟩:=hlA.form
   have hkAL:=hkA.le HAL.out
   have HKA:=Hid.intro hkA
   have HM93:=Hid.intro (HM9.out.below hB3)
   have HB3:=Hid.intro (HB2.out.trans (hB3.mono HB2.out.size))
   have HMD3:=Hid.intro (HMD2.out.below hB3)
   have hgb3:gb<w3.heap.size:=Nat.lt_of_lt_of_le hgb2 hB3.size
   obtain⟨top,htop⟩:∃top,limb c l=top:=⟨_,rfl⟩
   rw [htop]at hct
   have HTOP:=Hid.intro htop
   have htopge:500000000≤top:=by
    have:=HTG.out.2.2.2
    rw [htop,hBB]at this
    omega
   have htopB:top<1000000000:=by rw [←htop];exact limb_lt c l
   obtain⟨n,hn⟩:∃n,n=kA-(l+1)+1:=⟨_,rfl⟩
   clear hm hB3 hm2 h10 hc10 hkA hlA h9 HMD2 HB2 hgb2 HM9 htop ed hc0
   have hkA1:l+1≤kA:=by
    apply Classical.byContradiction
    intro hno
    have h1:=cmp_len HKA.out HTG.out.1 (by omega)
    have h2:c≤A:=by rw [←HCC.out,←HAA.out];exact Nat.mul_le_mul_right _ (by omega)
    omega
   have hn2:n+l=kA:=by omega
   clear hn
   have hAn:A<c*B^n:=by
    have h1:=HKA.out.1
    have h2:=HTG.out.1.2
    have h3:B^l≤c:=by rcases h2 with h|h;omega;simpa using h
    have h4:B^l*B^n≤c*B^n:=Nat.mul_le_mul_right _ h3
    rw [←Nat.pow_add,show l+n=kA by omega]at h4
    omega
   have HAN:=Hid.intro hAn
   clear hAn
   gi_wp2_with (gi_at_make;refine stop ?_)
   all_goals
    unfold Stop
    refine wpListIn_make_full _ rfl _ _ _ rfl w3.heap.size 116 Tryz.t116 _ 1 Go.Num.u23 t111_info t111_zero t111_size _ _ _ _ n rfl rfl (by omega) (by omega) (by rw [t111_bytes];omega) (by unfold maxLen;omega) (Nat.le_refl _) ?_
    intro W4 hown hgrow
    obtain⟨g,hg'⟩:∃g,w3.heap.size=g:=⟨_,rfl⟩
    have hB34:Below w3.heap.size w3 W4:=(Below.refl _ w3).grown hgrow (Nat.le_refl _) (fun _ h=>by cases h)
    have hgW:g<W4.heap.size:=(ArrAt.of_row hown (n:=n) (f:=fun _ => .int .u64 0) (fun i hi=>made_limbs (by omega))).lt (by omega) |> fun h=>by rw [hg']at h;exact h
    have HK4:Hid (DivKept w W4 (.slice o9 kA c9) (.slice (some a10) (l+1) c10) (.slice (some ⟨gb,0,none⟩) 1 1) A c d g n fun i => .int .u64 ((topL (A/c) n i:Nat):Int)):=by
     have hc0:0<c:=by rw [←HCC.out];exact Nat.mul_pos hy hd0
     have hA0:0<A:=by rw [←HAA.out];exact Nat.mul_pos (by omega) hd0
     refine⟨HM93.out.below hB34,HM93.out.lt hA0 g (by omega),HMC.out.below hB34,HMC.out.lt hc0 g (by omega),HMD3.out.below hB34,HMD3.out.lt hd0 g (by omega),?_,by rw [←hg'];exact elem_of_row hown,hgW,HB3.out.trans (hB34.mono HB3.out.size)⟩
     rw [←hg']
     exact ArrAt.of_row hown fun i hi=>by unfold topL;rw [if_neg (by omega)];exact made_limbs (by omega)
    have hg:w.heap.size≤g:=by have:=HB3.out.size;omega
    rw [hg']
    clear hown hgrow hg' hB34 HMD3 HM93 HMC hct hgW
    gi_wp2
    gi_loopw [9,13] (fun v9 iv wr=>∃(i0:Int) (R:Nat),-1≤i0∧i0<n∧iv = .int .i64 i0∧Hid (A%(c*B^(i0+1).toNat)=R)∧Hid (DivKept w wr v9 (.slice (some a10) (l+1) c10) (.slice (some ⟨gb,0,none⟩) 1 1) R c d g n fun j => .int .u64 ((topL (A/c) (i0+1).toNat j:Nat):Int))) (fun _ iv _=>(intOf iv+1).toNat)
    case atStart=>
     refine⟨(n:Int)-1,A,by omega,by omega,(by first|rfl|(congr 1;omega)),?_,?_⟩
     ·rw [show((n:Int)-1+1).toNat=n by omega]
      exact Nat.mod_eq_of_lt HAN.out
     ·rw [show((n:Int)-1+1).toNat=n by omega]
      exact HK4.out
    case round=>
     obtain⟨i0,R,hi1,hi2,rfl,HRE,HK⟩:=hrel
     clear HK4
     by_cases h0:0≤i0
     ·obtain⟨m,rfl⟩:∃m:Nat,i0=(m:Int):=⟨i0.toNat,by omega⟩
      rw [show((m:Int)+1).toNat=m+1 by omega]at HRE HK
      have hc0:0<c:=by rw [←HCC.out];exact Nat.mul_pos hy hd0
      have hRc:R<c*B^(m+1):=by rw [←HRE.out];exact Nat.mod_lt _ (Nat.mul_pos hc0 (pow_pos' _))
      have hRB:R<B^(m+l+2):=by
       have h1:c*B^(m+1)≤B^(l+1)*B^(m+1):=Nat.mul_le_mul_right _ (Nat.le_of_lt HTG.out.1.1)
       rw [←Nat.pow_add,show l+1+(m+1)=m+l+2 by omega]at h1
       omega
      have HRC:=Hid.intro hRc
      have HRB:=Hid.intro hRB
      obtain⟨kr,hkr,hlr⟩:=HK.out.rest
      obtain⟨o9',c9',rfl,h9'⟩:=hlr.form
      have hkr2:=hkr.le hRB
      have HKR:=Hid.intro hkr
      have H9:=Hid.intro h9'
      obtain⟨w5,hw5⟩:∃w5,w5=wr:=⟨_,rfl⟩
      subst wr
      clear hRc hRB hkr hlr h9'
      gi_wp2
      gi_loopw [14,15] (fun hv kv wr=>∃p h:Nat,m+l≤p∧p≤m+l+2∧kv = .int .i64 ((p:Int)-1)∧hv = .int .u64 (h:Int)∧Hid (R/B^p=h)∧wr=w5) (fun _ kv _=>(intOf kv+1).toNat)
      case atStart=>
       refine⟨m+l+2,0,by omega,by omega,(by first|(go_num)|(congr 1;omega)),rfl,Nat.div_eq_of_lt HRB.out,rfl⟩
      case round=>
       obtain⟨p,h,hp1,hp2,rfl,rfl,HH,rfl⟩:=hrel
       by_cases hpm:m+l+1≤p
       ·obtain⟨p',rfl⟩:∃p',p=p'+1:=⟨p-1,by omega⟩
        have hhB:h<1000000000:=by
         rw [←HH.out]
         refine Nat.div_lt_of_lt_mul ?_
         have h1:B^(m+l+2)≤B^(p'+1+1):=pow_mono (by omega)
         rw [Nat.pow_succ B (p'+1)]at h1
         exact Nat.lt_of_lt_of_le HRB.out h1
        have ds:R/B^p'=1000000000*h+limb R p':=by rw [div_step R p',HH.out];rfl
        have HDS:=Hid.intro ds
        clear ds
        by_cases hpk:p'<kr
        ·obtain⟨a9,rfl,ha9,hc9⟩:=H9.out (by omega)
         have p9:=hc9 p' hpk
         obtain⟨lr,hlr⟩:∃lr,limb R p'=lr:=⟨_,rfl⟩
         have hlB:lr<1000000000:=by rw [←hlr];exact limb_lt R p'
         rw [hlr]at p9 HDS
         clear hc9 hlr
         gi_wp2
         exact⟨⟨p',1000000000*h+lr,by omega,by omega,rfl,congrArg (Value.int .u64) (by omega),HDS.out,by first|trivial|rfl⟩,by first|(simp [intOf];done)|(simp [intOf];omega)⟩
        ·have hz:limb R p'=0:=limb_high (Nat.lt_of_lt_of_le HKR.out.1 (pow_mono (by omega)))
         rw [hz]at HDS
         have hpk':¬(p':Int)<(kr:Int):=by omega
         clear hz
         gi_wp2
         exact⟨⟨p',1000000000*h+0,by omega,by omega,rfl,congrArg (Value.int .u64) (by omega),HDS.out,by first|trivial|rfl⟩,by first|(simp [intOf];done)|(simp [intOf];omega)⟩
       ·have hpm0:p=m+l:=by omega
        subst hpm0
        obtain⟨q,hq⟩:∃q,R/(c*B^m)=q:=⟨_,rfl⟩
        have hD:0<c*B^m:=Nat.mul_pos hc0 (pow_pos' m)
        have hq1:q≤h/top:=by
         rw [←hq,←HH.out]
         have:=guess_ge (R:=R) (c:=c) (i:=m) (l:=l+1) (top:=top) (by omega) (by
          have:=low_succ c l
          rw [low_high HTG.out.1.1,HTOP.out]at this
          obtain⟨lo,hlo⟩:∃lo,c%B^l=lo:=⟨_,rfl⟩
          rw [hlo]at this
          rw [Nat.add_sub_cancel,Nat.mul_comm]
          omega) (by omega)
         exact this
        have hq2:q≤999999999:=by
         have h1:R<c*B^m*1000000000:=by
          have:=HRC.out
          rw [Nat.pow_succ,←Nat.mul_assoc]at this
          exact this
         have:=Nat.div_lt_of_lt_mul h1
         omega
        have HQ:=Hid.intro hq
        have htop0:¬(top:Int)=0:=by omega
        have ehd:(h:Int)/(top:Int)=((h/top:Nat):Int):=rfl
        obtain⟨G0,hG0⟩:∃G0,h/top=G0:=⟨_,rfl⟩
        rw [hG0]at ehd hq1
        have hGB:G0<1000000000000000000:=by
         have h1:h<1000000000000000000:=by
          rw [←HH.out]
          refine Nat.div_lt_of_lt_mul ?_
          have h2:=HRB.out
          rw [Nat.pow_add]at h2
          exact h2
         rw [←hG0]
         exact Nat.lt_of_le_of_lt (Nat.div_le_self _ _) h1
        clear hq hG0
        by_cases hgm:G0≤999999999
        ·gi_wp2_with (gi_at_call 72;refine stop ?_)
         unfold Stop
         refine(magOf_calls wr G0 (by omega)).mono ?_
         rintro e w6 ⟨v6,rfl,⟨hm6,_⟩,hB6⟩
         have HK6:=Hid.intro (HK.out.step hB6)
         have HM6:=Hid.intro hm6
         clear hm6 hB6 HK H9 HKR
         gi_wp2_with (gi_at_call 131;refine stop ?_)
         unfold Stop
         have hGL:G0<B^(L+1):=Nat.lt_of_lt_of_le (show G0<B by omega) (by have:=pow_mono (i:=1) (j:=L+1) (by omega);rw [Nat.pow_one]at this;exact this)
         refine(mul_calls w6 _ _ c G0 (L+1) HK6.out.div HM6.out HCL.out hGL (by omega)).mono ?_
         rintro e w7 ⟨v7,rfl,⟨hm7,_⟩,hB7⟩
         have HK7:=Hid.intro (HK6.out.step hB7)
         have HM7:=Hid.intro hm7
         have HGL:=Hid.intro hGL
         clear hm7 hB7 HK6 HM6 hGL
         gi_wp2_with (gi_at_call 212;refine stop ?_)
         unfold Stop
         refine(moved_calls w7 _ (c*G0) m (L+1+(L+1)) HM7.out (prod_len HCL.out HGL.out) (by omega) (by omega)).mono ?_
         rintro e w8 ⟨v8,rfl,⟨hm8,hf8⟩,hB8⟩
         have HK8:=Hid.intro (HK7.out.step hB8)
         have HM8:=Hid.intro hm8
         have hne8:v8.ownBlock≠some g:=fun h=>by have:=hf8 _ h;have:=HK7.out.lt;omega
         clear hm8 hB8 HK7 HM7 hf8
         gi_wp2
         gi_loopw [16,17] (fun gv pv wr=>∃G:Nat,gv = .int .u64 (G:Int)∧q≤G∧G≤999999999∧Hid (MagAt wr pv (c*G*B^m))∧pv.ownBlock≠some g∧Hid (DivKept w wr (.slice o9' kr c9') (.slice (some a10) (l+1) c10) (.slice (some ⟨gb,0,none⟩) 1 1) R c d g n fun j => .int .u64 ((topL (A/c) (m+1) j:Nat):Int))) (fun gv _ _=>(intOf gv).toNat)
         case atStart=>exact⟨G0,rfl,by omega,by omega,HM8.out,hne8,HK8.out⟩
         case round=>
          obtain⟨G,rfl,hqG,hG9,HP,hPne,HKg⟩:=hrel
          clear HK8 HM8 hne8
          have HC:=Hid.intro (cmp_calls wr _ _ _ _ HP.out HKg.out.rest)
          by_cases hgt:R<c*G*B^m
          ·obtain⟨G',rfl⟩:∃G',G=G'+1:=by
            rcases Nat.eq_zero_or_pos G with h|h
            ·subst h;simp at hgt
            ·exact⟨G-1,by omega⟩
           have HGT:=Hid.intro hgt
           clear hgt
           gi_wp2_with (gi_at_call 135;refine HC.out.mono ?_;rintro e w6 ⟨r,hr,rfl,hB6⟩;have hr0:0<r:=cmp_pos hr HGT.out;have HK6:=Hid.intro (HKg.out.step hB6);have HP6:=Hid.intro (HP.out.below hB6);clear hr hB6 HC HKg HP)
           gi_wp2_with (gi_at_call 212;refine stop ?_)
           unfold Stop
           refine(moved_calls _ _ c m (L+1) HK6.out.div HCL.out (by omega) (by omega)).mono ?_
           rintro e w7 ⟨v7,rfl,⟨hm7,_⟩,hB7⟩
           have HK7:=Hid.intro (HK6.out.step hB7)
           have HP7:=Hid.intro (HP6.out.below hB7)
           have HM7:=Hid.intro hm7
           clear hm7 hB7 HK6 HP6
           gi_wp2_with (gi_at_call 137;refine stop ?_)
           unfold Stop
           have epart:c*(G'+1)*B^m=c*G'*B^m+c*B^m:=by rw [Nat.mul_add,Nat.mul_one,Nat.add_mul]
           have hPL:c*(G'+1)*B^m<B^(3*L+30):=by
            have h1:c*(G'+1)<B^(L+1)*B:=by
             exact Nat.mul_lt_mul_of_lt_of_le HCL.out (show G'+1≤B by omega) B_pos
            have h2:c*(G'+1)*B^m<B^(L+1)*B*B^m:=Nat.mul_lt_mul_of_pos_right h1 (pow_pos' m)
            rw [←Nat.pow_succ,←Nat.pow_add]at h2
            exact Nat.lt_of_lt_of_le h2 (pow_mono (by omega))
           refine(sub_calls w7 _ _ (c*(G'+1)*B^m) (c*B^m) (3*L+30) HP7.out HM7.out (by rw [epart];exact Nat.le_add_left _ _) hPL (by omega)).mono ?_
           rintro e w8 ⟨v8,rfl,⟨hm8,hf8⟩,hB8⟩
           rw [epart,Nat.add_sub_cancel]at hm8
           have HK8:=Hid.intro (HK7.out.step hB8)
           have HM8:=Hid.intro hm8
           have hne8:v8.ownBlock≠some g:=fun h=>by have:=hf8 _ h;have:=HK7.out.lt;omega
           have hqG':q≤G':=by
            have:=guess_not (R:=R) (D:=c*B^m) (g:=G'+1) hD (by rw [←Nat.mul_assoc,Nat.mul_comm (G'+1)];exact HGT.out)
            rw [HQ.out]at this
            omega
           clear hm8 hf8 hB8 HK7 HP7 HM7 epart hPL
           gi_wp2
           exact⟨⟨G',by first|rfl|(go_num),hqG',by omega,HM8.out,hne8,HK8.out⟩,by simp [intOf]⟩
          ·have hGq:G=q:=by
            rw [←HQ.out]
            refine guess_is hD ?_ (by rw [HQ.out];exact hqG)
            rw [←Nat.mul_assoc,Nat.mul_comm G]
            exact Nat.not_lt.1 hgt
           subst hGq
           have HGT:=Hid.intro hgt
           have hmn:m<n:=by omega
           clear hgt
           gi_wp2_with (gi_at_call 135;refine HC.out.mono ?_;rintro e w6 ⟨r,hr,rfl,hB6⟩;have hr0:¬0<r:=cmp_npos hr HGT.out;have HK6:=Hid.intro (HKg.out.step hB6);have HP6:=Hid.intro (HP.out.below hB6);have z1:∃v,w6.cell? ⟨g,m,none⟩=some v:=⟨_,((HKg.out.step hB6).arr m hmn).1⟩;obtain⟨v1,z1⟩:=z1;have z2:=((HKg.out.step hB6).arr m hmn).2;clear hr hB6 HC HKg HP)
           gi_wp2_with (gi_at_call 137;refine stop ?_)
           unfold Stop
           obtain⟨W7,hW7⟩:∃W7,W7=w6.setCell ⟨g,m,none⟩ (.int .u64 (G:Int)):=⟨_,rfl⟩
           rw [←hW7]
           have HK7:Hid (DivKept w W7 (.slice o9' kr c9') (.slice (some a10) (l+1) c10) (.slice (some ⟨gb,0,none⟩) 1 1) R c d g n fun j => .int .u64 ((topL (A/c) m j:Nat):Int)):=by
            rw [hW7]
            have K:=HK6.out
            refine⟨K.rest.setCell K.restNe _,K.restNe,K.div.setCell K.divNe _,K.divNe,K.by'.setCell K.byNe _,K.byNe,ArrAt.congr (K.arr.set hmn _) fun j _ => ?_,K.el.setCell _ _,by simp;exact K.lt,K.below.setCell hg _⟩
            have hqs:=(quo_step (A:=A) (i:=m) hc0).1
            rw [HRE.out,HQ.out]at hqs
            unfold topL
            by_cases e:j=m
            ·subst e
             rw [if_pos rfl,if_pos (Nat.le_refl _),hqs]
            ·rw [if_neg e]
             by_cases e2:m+1≤j
             ·rw [if_pos e2,if_pos (by omega)]
             ·rw [if_neg e2,if_neg (by omega)]
           have HP7:Hid (MagAt W7 u17 (c*G*B^m)):=by rw [hW7];exact HP6.out.setCell hPne _
           clear hW7 HK6 HP6 z1 z2
           have hRL:R<B^(L+1):=by rw [←HRE.out];exact Nat.lt_of_le_of_lt (Nat.mod_le _ _) HAL.out
           refine(sub_calls W7 _ _ R (c*G*B^m) (L+1) HK7.out.rest HP7.out (Nat.not_lt.1 HGT.out) hRL (by omega)).mono ?_
           rintro e w8 ⟨v8,rfl,⟨hm8,hf8⟩,hB8⟩
           have hqs:=(quo_step (A:=A) (i:=m) hc0).2
           rw [HRE.out,HQ.out,←Nat.mul_assoc,Nat.mul_comm G]at hqs
           rw [hqs]at hm8
           have hne8:v8.ownBlock≠some g:=fun h=>by have:=hf8 _ h;have:=HK7.out.lt;omega
           have HK8:Hid (DivKept w w8 v8 (.slice (some a10) (l+1) c10) (.slice (some ⟨gb,0,none⟩) 1 1) (A%(c*B^m)) c d g n fun j => .int .u64 ((topL (A/c) m j:Nat):Int)):=
            {HK7.out.step hB8 with rest:=hm8,restNe:=hne8}
           clear hm8 hf8 hB8 HK7 HP7 hRL hqs
           gi_wp2
           refine⟨⟨(m:Int)-1,A%(c*B^m),by omega,by omega,by first|rfl|(go_num),?_,?_⟩,by first|(simp [intOf];done)|(simp [intOf];omega)⟩
           ·rw [show((m:Int)-1+1).toNat=m by omega];exact Hid.intro rfl
           ·rw [show((m:Int)-1+1).toNat=m by omega];exact HK8.out
        ·gi_wp2_with (gi_at_call 72;refine stop ?_)
         unfold Stop
         refine(magOf_calls wr 999999999 (by omega)).mono ?_
         rintro e w6 ⟨v6,rfl,⟨hm6,_⟩,hB6⟩
         have HK6:=Hid.intro (HK.out.step hB6)
         have HM6:=Hid.intro hm6
         clear hm6 hB6 HK H9 HKR
         gi_wp2_with (gi_at_call 131;refine stop ?_)
         unfold Stop
         have hGL:999999999<B^(L+1):=Nat.lt_of_lt_of_le (show 999999999<B by omega) (by have:=pow_mono (i:=1) (j:=L+1) (by omega);rw [Nat.pow_one]at this;exact this)
         refine(mul_calls w6 _ _ c 999999999 (L+1) HK6.out.div HM6.out HCL.out hGL (by omega)).mono ?_
         rintro e w7 ⟨v7,rfl,⟨hm7,_⟩,hB7⟩
         have HK7:=Hid.intro (HK6.out.step hB7)
         have HM7:=Hid.intro hm7
         have HGL:=Hid.intro hGL
         clear hm7 hB7 HK6 HM6 hGL
         gi_wp2_with (gi_at_call 212;refine stop ?_)
         unfold Stop
         refine(moved_calls w7 _ (c*999999999) m (L+1+(L+1)) HM7.out (prod_len HCL.out HGL.out) (by omega) (by omega)).mono ?_
         rintro e w8 ⟨v8,rfl,⟨hm8,hf8⟩,hB8⟩
         have HK8:=Hid.intro (HK7.out.step hB8)
         have HM8:=Hid.intro hm8
         have hne8:v8.ownBlock≠some g:=fun h=>by have:=hf8 _ h;have:=HK7.out.lt;omega
         clear hm8 hB8 HK7 HM7 hf8
         gi_wp2
         gi_loopw [16,17] (fun gv pv wr=>∃G:Nat,gv = .int .u64 (G:Int)∧q≤G∧G≤999999999∧Hid (MagAt wr pv (c*G*B^m))∧pv.ownBlock≠some g∧Hid (DivKept w wr (.slice o9' kr c9') (.slice (some a10) (l+1) c10) (.slice (some ⟨gb,0,none⟩) 1 1) R c d g n fun j => .int .u64 ((topL (A/c) (m+1) j:Nat):Int))) (fun gv _ _=>(intOf gv).toNat)
         case atStart=>exact⟨999999999,rfl,by omega,by omega,HM8.out,hne8,HK8.out⟩
         case round=>
          obtain⟨G,rfl,hqG,hG9,HP,hPne,HKg⟩:=hrel
          clear HK8 HM8 hne8
          have HC:=Hid.intro (cmp_calls wr _ _ _ _ HP.out HKg.out.rest)
          by_cases hgt:R<c*G*B^m
          ·obtain⟨G',rfl⟩:∃G',G=G'+1:=by
            rcases Nat.eq_zero_or_pos G with h|h
            ·subst h;simp at hgt
            ·exact⟨G-1,by omega⟩
           have HGT:=Hid.intro hgt
           clear hgt
           gi_wp2_with (gi_at_call 135;refine HC.out.mono ?_;rintro e w6 ⟨r,hr,rfl,hB6⟩;have hr0:0<r:=cmp_pos hr HGT.out;have HK6:=Hid.intro (HKg.out.step hB6);have HP6:=Hid.intro (HP.out.below hB6);clear hr hB6 HC HKg HP)
           gi_wp2_with (gi_at_call 212;refine stop ?_)
           unfold Stop
           refine(moved_calls _ _ c m (L+1) HK6.out.div HCL.out (by omega) (by omega)).mono ?_
           rintro e w7 ⟨v7,rfl,⟨hm7,_⟩,hB7⟩
           have HK7:=Hid.intro (HK6.out.step hB7)
           have HP7:=Hid.intro (HP6.out.below hB7)
           have HM7:=Hid.intro hm7
           clear hm7 hB7 HK6 HP6
           gi_wp2_with (gi_at_call 137;refine stop ?_)
           unfold Stop
           have epart:c*(G'+1)*B^m=c*G'*B^m+c*B^m:=by rw [Nat.mul_add,Nat.mul_one,Nat.add_mul]
           have hPL:c*(G'+1)*B^m<B^(3*L+30):=by
            have h1:c*(G'+1)<B^(L+1)*B:=by
             exact Nat.mul_lt_mul_of_lt_of_le HCL.out (show G'+1≤B by omega) B_pos
            have h2:c*(G'+1)*B^m<B^(L+1)*B*B^m:=Nat.mul_lt_mul_of_pos_right h1 (pow_pos' m)
            rw [←Nat.pow_succ,←Nat.pow_add]at h2
            exact Nat.lt_of_lt_of_le h2 (pow_mono (by omega))
           refine(sub_calls w7 _ _ (c*(G'+1)*B^m) (c*B^m) (3*L+30) HP7.out HM7.out (by rw [epart];exact Nat.le_add_left _ _) hPL (by omega)).mono ?_
           rintro e w8 ⟨v8,rfl,⟨hm8,hf8⟩,hB8⟩
           rw [epart,Nat.add_sub_cancel]at hm8
           have HK8:=Hid.intro (HK7.out.step hB8)
           have HM8:=Hid.intro hm8
           have hne8:v8.ownBlock≠some g:=fun h=>by have:=hf8 _ h;have:=HK7.out.lt;omega
           have hqG':q≤G':=by
            have:=guess_not (R:=R) (D:=c*B^m) (g:=G'+1) hD (by rw [←Nat.mul_assoc,Nat.mul_comm (G'+1)];exact HGT.out)
            rw [HQ.out]at this
            omega
           clear hm8 hf8 hB8 HK7 HP7 HM7 epart hPL
           gi_wp2
           exact⟨⟨G',by first|rfl|(go_num),hqG',by omega,HM8.out,hne8,HK8.out⟩,by simp [intOf]⟩
          ·have hGq:G=q:=by
            rw [←HQ.out]
            refine guess_is hD ?_ (by rw [HQ.out];exact hqG)
            rw [←Nat.mul_assoc,Nat.mul_comm G]
            exact Nat.not_lt.1 hgt
           subst hGq
           have HGT:=Hid.intro hgt
           have hmn:m<n:=by omega
           clear hgt
           gi_wp2_with (gi_at_call 135;refine HC.out.mono ?_;rintro e w6 ⟨r,hr,rfl,hB6⟩;have hr0:¬0<r:=cmp_npos hr HGT.out;have HK6:=Hid.intro (HKg.out.step hB6);have HP6:=Hid.intro (HP.out.below hB6);have z1:∃v,w6.cell? ⟨g,m,none⟩=some v:=⟨_,((HKg.out.step hB6).arr m hmn).1⟩;obtain⟨v1,z1⟩:=z1;have z2:=((HKg.out.step hB6).arr m hmn).2;clear hr hB6 HC HKg HP)
           gi_wp2_with (gi_at_call 137;refine stop ?_)
           unfold Stop
           obtain⟨W7,hW7⟩:∃W7,W7=w6.setCell ⟨g,m,none⟩ (.int .u64 (G:Int)):=⟨_,rfl⟩
           rw [←hW7]
           have HK7:Hid (DivKept w W7 (.slice o9' kr c9') (.slice (some a10) (l+1) c10) (.slice (some ⟨gb,0,none⟩) 1 1) R c d g n fun j => .int .u64 ((topL (A/c) m j:Nat):Int)):=by
            rw [hW7]
            have K:=HK6.out
            refine⟨K.rest.setCell K.restNe _,K.restNe,K.div.setCell K.divNe _,K.divNe,K.by'.setCell K.byNe _,K.byNe,ArrAt.congr (K.arr.set hmn _) fun j _ => ?_,K.el.setCell _ _,by simp;exact K.lt,K.below.setCell hg _⟩
            have hqs:=(quo_step (A:=A) (i:=m) hc0).1
            rw [HRE.out,HQ.out]at hqs
            unfold topL
            by_cases e:j=m
            ·subst e
             rw [if_pos rfl,if_pos (Nat.le_refl _),hqs]
            ·rw [if_neg e]
             by_cases e2:m+1≤j
             ·rw [if_pos e2,if_pos (by omega)]
             ·rw [if_neg e2,if_neg (by omega)]
           have HP7:Hid (MagAt W7 u17 (c*G*B^m)):=by rw [hW7];exact HP6.out.setCell hPne _
           clear hW7 HK6 HP6 z1 z2
           have hRL:R<B^(L+1):=by rw [←HRE.out];exact Nat.lt_of_le_of_lt (Nat.mod_le _ _) HAL.out
           refine(sub_calls W7 _ _ R (c*G*B^m) (L+1) HK7.out.rest HP7.out (Nat.not_lt.1 HGT.out) hRL (by omega)).mono ?_
           rintro e w8 ⟨v8,rfl,⟨hm8,hf8⟩,hB8⟩
           have hqs:=(quo_step (A:=A) (i:=m) hc0).2
           rw [HRE.out,HQ.out,←Nat.mul_assoc,Nat.mul_comm G]at hqs
           rw [hqs]at hm8
           have hne8:v8.ownBlock≠some g:=fun h=>by have:=hf8 _ h;have:=HK7.out.lt;omega
           have HK8:Hid (DivKept w w8 v8 (.slice (some a10) (l+1) c10) (.slice (some ⟨gb,0,none⟩) 1 1) (A%(c*B^m)) c d g n fun j => .int .u64 ((topL (A/c) m j:Nat):Int)):=
            {HK7.out.step hB8 with rest:=hm8,restNe:=hne8}
           clear hm8 hf8 hB8 HK7 HP7 hRL hqs
           gi_wp2
           refine⟨⟨(m:Int)-1,A%(c*B^m),by omega,by omega,by first|rfl|(go_num),?_,?_⟩,by first|(simp [intOf];done)|(simp [intOf];omega)⟩
           ·rw [show((m:Int)-1+1).toNat=m by omega];exact Hid.intro rfl
           ·rw [show((m:Int)-1+1).toNat=m by omega];exact HK8.out
     ·have hm1:i0 = -1:=by omega
      subst hm1
      have e1:(( -1:Int)+1).toNat=0:=rfl
      rw [e1]at HRE HK
      rw [Nat.pow_zero,Nat.mul_one]at HRE
      have hRL:R<B^(L+1):=by rw [←HRE.out];exact Nat.lt_of_le_of_lt (Nat.mod_le _ _) HAL.out
      have hd1:=HK.out.by'.mag (lenIs_one hd0 hdB)
      obtain⟨o,cc,ef,hf⟩:=hd1.form
      injection ef with ef1 ef2 ef3
      subst ef1 ef3
      clear ef2
      obtain⟨ab,eb,hab,hcb⟩:=hf (by omega)
      injection eb with eb
      subst eb
      have p1:=hcb 0 (by omega)
      rw [limb_small hdB]at p1
      have p2:wr.cell? ⟨gb,0,none⟩=some (.int .u64 (d:Int)):=p1
      clear p1 hcb hf hd1
      have HS:=Hid.intro (short_calls wr _ R d HK.out.rest hd0 hdB)
      have hAcn:A/c<B^n:=Nat.div_lt_of_lt_mul HAN.out
      have HACN:=Hid.intro hAcn
      clear hAcn hRL
      gi_wp2_with (gi_at_call 211;refine HS.out.mono ?_;rintro e w6 ⟨v6,rfl,⟨hm6,_⟩,hB6⟩;have HM6:=Hid.intro hm6;have HK6:=Hid.intro (HK.out.step hB6);clear hm6 hB6 HK p2)
      have hla:LimbsAt w6 (.slice (some ⟨g,0,none⟩) n n) (A/c) n:=by
       refine ArrAt.limbs (ArrAt.congr HK6.out.arr fun j _ => ?_) (by omega) (Nat.le_refl _) ⟨by omega,by omega⟩ HK6.out.el
       unfold topL
       rw [if_pos (by omega)]
      have HT:=Hid.intro (trim_calls w6 _ (A/c) n hla HACN.out)
      clear hla
      gi_wp2_with (gi_at_call 138;refine HT.out.mono ?_;rintro e w7 ⟨v7,rfl,⟨hm7,hf7⟩,hB7⟩;have HF7:=Hid.intro (fresh_of hf7 hg);have HM7:=Hid.intro hm7;have HM67:=Hid.intro (HM6.out.below hB7);have HB7:=Hid.intro (HK6.out.step hB7).below;clear hm7 hB7 hf7)
      all_goals (first|go_returns|go_ret|go_end0)
      refine⟨_,_,rfl,?_,?_,HB7.out⟩
      ·rw [←HSC.out.1];exact⟨HM7.out,HF7.out⟩
      ·rw [←HSC.out.2,HRE.out];exact HM67.out
end Go.Num
