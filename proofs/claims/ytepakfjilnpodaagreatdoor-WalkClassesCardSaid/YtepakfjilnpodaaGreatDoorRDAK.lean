/-
  A region that draws its order and calls functions: one walk, each operation that only reads as early as it may come, serves every order. A r
  Conditions: see each statement.
-/
import Derived.Test.YtepakfjilnpodaaGreatDoorRDAI
import Derived.Test.YtepakfjilnpodaaGreatDoorRDAJ
import Derived.Test.YtepakfjilnpodaaGreatDoorRDAE
import Derived.Below
namespace Go.Num
open Go.RowKit Go.Proofs Go.Proofs.YtepakfjilnpodaaGreatDoor
theorem quo_limb{A c m:Nat}(hc:0<c):limb (A/c) m=((A/B^(m+1)%c)*B+limb A m)/c∧((A/B^(m+1)%c)*B+limb A m)/c<B:=by
 have h:=rest_step A c m
 have hlt:((A/B^(m+1)%c)*B+limb A m)/c<B:=by
  refine Nat.div_lt_of_lt_mul ?_
  have h1:=Nat.mod_lt (A/B^(m+1)) hc
  have h2:=limb_lt A m
  have h3:(A/B^(m+1)%c+1)*B≤c*B:=Nat.mul_le_mul_right _ h1
  rw [Nat.add_mul,Nat.one_mul]at h3
  omega
 refine⟨?_,hlt⟩
 have e:limb (A/c) m=A/B^m/c%B:=by
  unfold limb
  rw [Nat.div_div_eq_div_mul,Nat.div_div_eq_div_mul,Nat.mul_comm]
 rw [e,←h.2,Nat.mul_comm,Nat.mul_add_mod,Nat.mod_eq_of_lt hlt]
theorem limb_cons_zero{R z:Nat}(hz:z<B):limb (R*B+z) 0=z:=by
 unfold limb
 rw [Nat.pow_zero,Nat.div_one,Nat.mul_comm,Nat.mul_add_mod,Nat.mod_eq_of_lt hz]
theorem limb_cons_succ{R z i:Nat}(hz:z<B):limb (R*B+z) (i+1)=limb R i:=by
 unfold limb
 rw [Nat.pow_succ,Nat.mul_comm (B^i) B,←Nat.div_div_eq_div_mul]
 congr 2
 rw [Nat.mul_comm,Nat.mul_add_div B_pos,Nat.div_eq_of_lt hz,Nat.add_zero]
theorem firstI_cons{R z k:Nat}(hz:z<B):Value.int .i64 (z:Int) :: firstI R k=firstI (R*B+z) (k+1):=by
 apply List.ext_getElem?
 intro i
 cases i with
 | zero=>simp [firstI,limb_cons_zero hz,List.range_succ_eq_map]
 | succ i=>simp only [List.getElem?_cons_succ,firstI,List.getElem?_map,List.range_succ_eq_map,List.map_map,List.map_cons];simp [Function.comp_def,limb_cons_succ hz]
theorem cons_lt{R z c:Nat}(hz:z<B)(hR:R<c):R*B+z<c*B:=by
 have h3:(R+1)*B≤c*B:=Nat.mul_le_mul_right _ hR
 rw [Nat.add_mul,Nat.one_mul]at h3
 omega
theorem cons_lt_pow{R z k:Nat}(hz:z<B)(hR:R<B^k):R*B+z<B^(1+k):=by
 rw [Nat.add_comm 1 k,Nat.pow_succ]
 exact cons_lt hz hR
theorem wpListIn_min{F:Fence}{n:Nat}{P:Program}{w:World}{ops:Array Oper}{rest:List Oper}{o:Oper}{a:Act}{Q:Exit→Act→World→Prop}
  (hg:o.guard=none) (x y:Operand) (ts:Array TypeId) (hop:o.op=Op.call {callee:=Callee.builtin Builtin.min,args:=#[x,y],argTypes:=ts}) (k:IntKind) (X Y Z:Int) (hx:a.eval x = .int k X) (hy:a.eval y = .int k Y) (hz:(if Y<X then Y else X)=Z)
  (h:wpListIn F n P ops Q rest (a.put o.dst (.int k Z)) w):wpListIn F n P ops Q (o :: rest) a w:=by
 refine wpListIn_plain hg fun K hK => ?_
 unfold Oper.wpIn
 refine⟨by simp [Oper.about,hop,resolve,Target.leads,Sem.run_pure],?_⟩
 rw [Oper.semAt_plain F _ _ (by rw [hop];intro c hc';cases hc')]
 simp [execOp,hop,resolve,invoke,builtin,Builtin.min_,Builtin.min2,hx,hy,Sem.run_pure,hz]
 exact hK _ _ h
theorem wpListIn_max{F:Fence}{n:Nat}{P:Program}{w:World}{ops:Array Oper}{rest:List Oper}{o:Oper}{a:Act}{Q:Exit→Act→World→Prop}
  (hg:o.guard=none) (x y:Operand) (ts:Array TypeId) (hop:o.op=Op.call {callee:=Callee.builtin Builtin.max,args:=#[x,y],argTypes:=ts}) (k:IntKind) (X Y Z:Int) (hx:a.eval x = .int k X) (hy:a.eval y = .int k Y) (hz:(if Y>X then Y else X)=Z)
  (h:wpListIn F n P ops Q rest (a.put o.dst (.int k Z)) w):wpListIn F n P ops Q (o :: rest) a w:=by
 refine wpListIn_plain hg fun K hK => ?_
 unfold Oper.wpIn
 refine⟨by simp [Oper.about,hop,resolve,Target.leads,Sem.run_pure],?_⟩
 rw [Oper.semAt_plain F _ _ (by rw [hop];intro c hc';cases hc')]
 simp [execOp,hop,resolve,invoke,builtin,Builtin.max_,Builtin.max2,hx,hy,Sem.run_pure,hz]
 exact hK _ _ h
theorem stop_min{F:Fence}{n:Nat}{P:Program}{w:World}{ops:Array Oper}{rest:List Oper}{a:Act}{Q:Exit→Act→World→Prop}{dst:Option Tmp}{ty:TypeId}{ps:String}{af:Array Edge}{gd:Option (Nat × Bool)}{xs:Array Operand}{ts:Array TypeId}
  (h:Stop (wpListIn F n P ops Q ({dst:=dst,op:=Op.call {callee:=Callee.builtin Builtin.min,args:=xs,argTypes:=ts},type:=ty,pos:=ps,after:=af,guard:=gd} :: rest) a w)) :
  wpListIn F n P ops Q ({dst:=dst,op:=Op.call {callee:=Callee.builtin Builtin.min,args:=xs,argTypes:=ts},type:=ty,pos:=ps,after:=af,guard:=gd} :: rest) a w:=h
theorem wrap64_small{x:Nat}(h:x<9223372036854775808):wrap64 (x:Int)=(x:Int):=by
 unfold wrap64
 omega
structure DivI(w0 wr:World)(vx vr vy:Value)(A R c g n:Nat)(f:Nat→Value):Prop where
 num:NatI wr vx A
 numNe:A=0∨vx.ownBlock≠some g
 rest:NatI wr vr R
 restNe:R=0∨vr.ownBlock≠some g
 div:NatI wr vy c
 divNe:c=0∨vy.ownBlock≠some g
 arr:ArrAt wr g n f
 el:Elem wr g 3
 lt:g<wr.heap.size
 below:Below w0.heap.size w0 wr
theorem DivI.step{w0 wr w':World}{vx vr vy:Value}{A R c g n:Nat}{f:Nat→Value}(h:DivI w0 wr vx vr vy A R c g n f)(hb:Below wr.heap.size wr w'):DivI w0 w' vx vr vy A R c g n f:=
 ⟨h.num.below hb,h.numNe,h.rest.below hb,h.restNe,h.div.below hb,h.divNe,h.arr.below h.lt hb,h.el.below hb h.lt,Nat.lt_of_lt_of_le h.lt hb.size,h.below.trans (hb.mono h.below.size)⟩
theorem DivI.with{w0 wr:World}{vx vr vy vr':Value}{A R c g n R':Nat}{f:Nat→Value}(h:DivI w0 wr vx vr vy A R c g n f)(h1:NatI wr vr' R')(h2:R'=0∨vr'.ownBlock≠some g):DivI w0 wr vx vr' vy A R' c g n f:=
 ⟨h.num,h.numNe,h1,h2,h.div,h.divNe,h.arr,h.el,h.lt,h.below⟩
theorem NatI.setCell'{w:World}{v:Value}{x g i:Nat}(h:NatI w v x)(hne:x=0∨v.ownBlock≠some g)(u:Value):NatI (w.setCell ⟨g,i,none⟩ u) v x:=by
 rcases hne with rfl|hne
 ·obtain⟨k,hk,hl⟩:=h
  have hk0:k=0:=hk.unique lenIs_zero
  subst hk0
  rcases hl with h|⟨a,cap,rfl,h2,_⟩
  ·exact⟨0,hk,.inl h⟩
  ·omega
 ·exact h.setCell hne u
theorem DivI.set{w0 wr:World}{vx vr vy:Value}{A R c g n:Nat}{f:Nat→Value}(h:DivI w0 wr vx vr vy A R c g n f){i:Nat}(hi:i<n)(hg:w0.heap.size≤g)(u:Value){f':Nat→Value}(hf:∀j,j<n→(if j=i then u else f j)=f' j):DivI w0 (wr.setCell ⟨g,i,none⟩ u) vx vr vy A R c g n f':=
 ⟨h.num.setCell' h.numNe u,h.numNe,h.rest.setCell' h.restNe u,h.restNe,h.div.setCell' h.divNe u,h.divNe,ArrAt.congr (h.arr.set hi u) hf,h.el.setCell _ _,by rw [show(wr.setCell ⟨g,i,none⟩ u).heap.size=wr.heap.size by simp [World.setCell]];exact h.lt,h.below.setCell hg _⟩
theorem NatI.lt'{w:World}{v:Value}{x:Nat}(h:NatI w v x){g:Nat}(hg:w.heap.size≤g):x=0∨v.ownBlock≠some g:=by
 rcases Nat.eq_zero_or_pos x with h0|h0
 ·exact .inl h0
 ·exact .inr (h.lt h0 g hg)
theorem Fresh.ne'{b g:Nat}{v:Value}(h:Fresh b v)(hg:g<b)(x:Nat):x=0∨v.ownBlock≠some g:=.inr fun e=>by have:=h _ e;omega
theorem guess_ok{T c l top h n:Nat}(hc:0<c)(hT:c≤T)(htop:limb c l=top)(hcl:c<B^(l+1))(hh:T/B^l=h)(hn:n=max 1 (min 999999999 (h/(top+1)))):1≤n∧n≤999999999∧n*c≤T:=by
 refine⟨by omega,by omega,?_⟩
 have hct:c<(top+1)*B^(l+1-1):=by
  have h1:=low_succ c l
  rw [low_high hcl,htop]at h1
  have h2:=low_lt c l
  rw [Nat.add_sub_cancel,Nat.add_mul,Nat.one_mul,Nat.mul_comm top]
  omega
 have hg:=guess_le (R:=T) hc hct
 rw [Nat.add_sub_cancel,hh]at hg
 rcases Nat.eq_zero_or_pos (h/(top+1))with h0|h0
 ·have:n=1:=by omega
  subst this;omega
 ·exact Nat.le_trans (Nat.mul_le_mul_right c (by omega)) hg
theorem append_cons{F:Fence}{n:Nat}(wr:World){ops:Array Oper}{rest:List Oper}{o:Oper}{a:Act}{Q:Exit→Act→World→Prop}
  (hg:o.guard=none) (s x:Operand) (hop:o.op=Op.call {callee:=Callee.builtin Builtin.append,args:=#[s,x],argTypes:=#[58,58]})
  (z R k:Nat) (hz:z<B) (hs:a.eval s = .slice (some ⟨wr.heap.size,0,none⟩) 1 1) (vr:Value) (hx:a.eval x=vr) (hR:LimbsI wr vr R k) (hk:k≤400000000) (zz:Int) (hzz:zz=(z:Int))
  (hK:∀v' w',LimbsI w' v' (R*B+z) (1+k)→Fresh wr.heap.size v'→Below wr.heap.size wr w'→wpListIn F n Tryz.prog ops Q rest (a.put o.dst v') w') :
  wpListIn F n Tryz.prog ops Q (o :: rest) a (wr.alloc (.cells #[.int .i64 zz] 3)):=by
 subst hzz
 obtain⟨W,hW⟩:∃W,W=wr.alloc (.cells #[.int .i64 (z:Int)] 3):=⟨_,rfl⟩
 have hb:Below wr.heap.size wr W:=by rw [hW];exact alloc_below _ _
 have hown:W.ownsRow wr.heap.size 3 1 (.slice (some ⟨wr.heap.size,0,none⟩) 1 1) 1 [.int .i64 (z:Int)]:=by rw [hW];exact World.ownsRow_lit wr #[.int .i64 (z:Int)] 1 (Nat.le_refl _) (by unfold maxLen;omega) (by simp)
 have h0:[Value.int .i64 (z:Int)]=firstI (R*B+z) 1:=firstI_cons (k:=0) hz
 rw [←hW]
 rcases Nat.eq_zero_or_pos k with hk0|hk0
 ·subst hk0
  obtain⟨o1,c1,rfl,_⟩:=hR.form
  refine wpListIn_append_nothing _ hg _ _ _ hop _ Tryz.t3 Go.Num.u30 t3_info wr.heap.size 0 1 1 (Nat.le_refl _) hs o1 c1 hx ?_
  rw [h0]at hown
  exact hK _ _ (rowI_limbs hown (by omega)) (fun k hk=>by have q:wr.heap.size=k:=(by simpa [Value.ownBlock]using hk);omega) hb
 ·obtain⟨o1,c1,rfl,h1⟩:=hR.form
  obtain⟨a1,rfl,ha1,hc1⟩:=h1 hk0
  refine wpListIn_append_own _ hg s x 58 hop wr.heap.size 3 Tryz.t3 _ 1 8 Go.Num.u30 t3_info t3_zero t3_size t3_bytes rfl (by decide) _ 1 _ hs hown a1 k c1 (firstI R k) hx (by simp [firstI]) ?_ ?_ (by unfold maxLen;omega) (by omega) hb.size ?_
  ·intro j u hu
   have hj:j<k:=by
    have:=(List.getElem?_eq_some_iff.1 hu).1
    simpa [firstI]using this
   rw [hb.cell (p:=a1.add j) (by rw [add_block];exact ha1),hc1 j hj,←hu]
   simp [firstI,hj]
  ·intro u hu
   unfold firstI at hu
   obtain⟨i,_,rfl⟩:=List.mem_map.1 hu
   rfl
  ·intro v' w' h1 h2 _
   have e:[Value.int .i64 (z:Int)] ++ firstI R k=firstI (R*B+z) (1+k):=by rw [Nat.add_comm 1 k,←firstI_cons hz];rfl
   rw [e]at h1
   exact hK v' w' (rowI_limbs h1 (by omega)) (fun k hk=>own_base h1 hk) (hb.grown h2 hb.size fun k hk=>own_base hown hk)
set_option maxRecDepth 100000 in
set_option maxHeartbeats 16000000 in
theorem divN_fresh(w:World)(va vb:Value)(x y L:Nat)(ha:NatI w va x)(hb:NatI w vb y)(hy:0<y)(hx:x<B^L)(hyL:y<B^L)(hL:L≤10000000) :
  CallsIn Fence.wide 0 Tryz.prog 197 #[va,vb] w fun e w'=>∃vq vr,e = .returned (.tuple #[vq,vr])∧(NatI w' vq (x/y)∧Fresh w.heap.size vq)∧NatI w' vr (x%y)∧Below w.heap.size w w':=by
 have HA:=Hid.intro ha
 have HB:=Hid.intro hb
 have HX:=Hid.intro hx
 have HY:=Hid.intro hyL
 clear hx hyL
 obtain⟨l,hl⟩:∃l,LenIs y (l+1):=by
  obtain⟨k,hk,_⟩:=hb
  rcases Nat.eq_zero_or_pos k with h|h
  ·subst h;exact absurd hk.zero (by omega)
  ·exact⟨k-1,by rw [Nat.sub_add_cancel h];exact hk⟩
 have hlb:=hb.limbs hl
 have hlL:=hl.le HY.out
 have tg:=top_great hl
 have ht:=hl.top
 have htB:=limb_lt y l
 obtain⟨o2,c2,rfl,h2⟩:=hlb.form
 obtain⟨a2,rfl,ha2,hc2⟩:=h2 (by omega)
 have hc0:=hc2 l (by omega)
 obtain⟨t,hts⟩:∃t,limb y l=t:=⟨_,rfl⟩
 rw [hts]at tg ht htB hc0
 obtain⟨d,hd⟩:∃d,B/(t+1)=d:=⟨_,rfl⟩
 have ed:(1000000000:Int)/((t:Int)+1)=(d:Int):=by rw [←hd];simp [B]
 have ed2:Int.tdiv (1000000000:Int) ((t:Int)+1)=(d:Int):=by rw [←hd];rfl
 rw [hd]at tg
 have hBB:B=1000000000:=rfl
 have hd0:=tg.2.1
 have hdB:=tg.2.2.1
 rw [hBB]at htB
 obtain⟨c,hcc⟩:∃c,y*d=c:=⟨_,rfl⟩
 obtain⟨A,hAA⟩:∃A,x*d=A:=⟨_,rfl⟩
 have hsc:A/c=x/y∧A%c/d=x%y:=by rw [←hcc,←hAA];exact scale_div hd0
 rw [hcc]at tg
 have HTG:=Hid.intro tg
 have HSC:=Hid.intro hsc
 have HCC:=Hid.intro hcc
 have HAA:=Hid.intro hAA
 have hcpos:0<c:=by rw [←hcc];exact Nat.mul_pos hy hd0
 have hAL:A<B^(L+1):=by rw [←hAA];exact prod_len HX.out (by rw [Nat.pow_one];exact hdB)
 have hcL:c<B^(L+1):=Nat.lt_of_lt_of_le tg.1.1 (pow_mono (by omega))
 have HAL:=Hid.intro hAL
 have HCL:=Hid.intro hcL
 have HT0:=Hid.intro (timesN_calls w va x d L ha HX.out (by omega) hdB)
 have HT1:=fun (w1:World) (h:Below w.heap.size w w1)=>Hid.intro (timesN_calls w1 _ y d L (hb.below h) HY.out (by omega) hdB)
 clear hts hd hcc hAA hsc tg hlb hl hc2 h2 hAL hcL ha hb
 refine callsIn_of_wp Tryz.func197 rfl trivial ?_ rfl
 simp only [Tryz.ntmps197,List.size_toArray,List.length_cons,List.length_nil,Nat.reduceAdd,Nat.reduceSub,Array.replicate_succ,Array.replicate_zero,List.push_toArray,List.append_toArray,List.nil_append,List.cons_append]
 gi_wp2_with (gi_at_call 220;refine stop ?_)
 unfold Stop
 refine HT0.out.mono ?_
 rintro e w1 ⟨v7,rfl,⟨hm,_⟩,hB1⟩
 rw [HAA.out]at hm
 have HM7:=Hid.intro hm
 have HB1:=Hid.intro hB1
 clear hm hB1 HT0
 gi_wp2_with (gi_at_call 220;refine stop ?_)
 unfold Stop
 refine(HT1 w1 HB1.out).out.mono ?_
 rintro e w2 ⟨v8,rfl,⟨hm,_⟩,hB2⟩
 rw [HCC.out]at hm
 have hm2:=hm.limbs HTG.out.1
 obtain⟨o8,c8,rfl,h8⟩:=hm2.form
 obtain⟨a8,rfl,ha8,hc8⟩:=h8 (by omega)
 have hct:=hc8 l (by omega)
 have HMC:=Hid.intro hm
 obtain⟨kA,hkA,hlA⟩:=HM7.out.below hB2
 obtain⟨o7,c7,rfl,h7⟩:=hlA.form
 have hkAL:=hkA.le HAL.out
 have HKA:=Hid.intro hkA
 have HM72:=Hid.intro (HM7.out.below hB2)
 have HB2:=Hid.intro (HB1.out.trans (hB2.mono HB1.out.size))
 obtain⟨top,htop⟩:∃top,limb c l=top:=⟨_,rfl⟩
 rw [htop]at hct
 have HTOP:=Hid.intro htop
 have htopB:top<1000000000:=by rw [←htop];exact limb_lt c l
 clear hm hB2 hm2 h8 hc8 hkA hlA h7 HM7 htop ed ed2 hc0 HT1
 gi_wp2_with (gi_at_make;refine stop ?_)
 unfold Stop
 obtain⟨hi,hhi⟩:∃hi,top+1=hi:=⟨_,rfl⟩
 rw [show((top:Int)+1)=(hi:Int)by omega]
 have HHI:=Hid.intro hhi.symm
 refine wpListIn_make_full _ rfl _ _ _ rfl w2.heap.size 3 Tryz.t3 _ 1 Go.Num.u30 t3_info t3_zero t3_size _ _ _ _ kA rfl rfl (by omega) (by omega) (by rw [t3_bytes];omega) (by unfold maxLen;omega) (Nat.le_refl _) ?_
 intro W4 hown hgrow
 obtain⟨g,hg'⟩:∃g,w2.heap.size=g:=⟨_,rfl⟩
 have hB34:Below w2.heap.size w2 W4:=(Below.refl _ w2).grown hgrow (Nat.le_refl _) (fun _ h=>by cases h)
 have hE4:Elem W4 g 3:=by rw [←hg'];exact elem_of_row hown
 have HK4:Hid (DivI w W4 (.slice o7 kA c7) (.slice none 0 0) (.slice (some a8) (l+1) c8) A 0 c g kA fun i => .int .i64 ((topL (A/c) kA i:Nat):Int)):=by
  refine⟨HM72.out.below hB34,HM72.out.lt' (by omega),natI_nil _ _ _,.inl rfl,HMC.out.below hB34,HMC.out.lt' (by omega),?_,hE4,hE4.lt,HB2.out.trans (hB34.mono HB2.out.size)⟩
  rw [←hg']
  exact ArrAt.of_row hown fun i hi=>by unfold topL;rw [if_neg (by omega)];exact made_limbsI (by omega)
 have hg:w.heap.size≤g:=by have:=HB2.out.size;omega
 rw [hg']
 clear hown hgrow hg' hB34 HM72 HMC hct hE4 HB2
 gi_wp2
 gi_loopw [11,12] (fun v11 iv wr=>∃(i0:Int) (R:Nat),-1≤i0∧i0<kA∧iv = .int .i64 i0∧Hid (A/B^(i0+1).toNat%c=R)∧Hid (DivI w wr (.slice o7 kA c7) v11 (.slice (some a8) (l+1) c8) A R c g kA fun j => .int .i64 ((topL (A/c) (i0+1).toNat j:Nat):Int))) (fun _ iv _=>(intOf iv+1).toNat)
 case atStart=>
  refine⟨(kA:Int)-1,0,by omega,by omega,(by first|rfl|(congr 1;omega)),?_,?_⟩
  ·rw [show((kA:Int)-1+1).toNat=kA by omega,Nat.div_eq_of_lt HKA.out.1]
   exact Nat.zero_mod _
  ·rw [show((kA:Int)-1+1).toNat=kA by omega]
   exact HK4.out
 case round=>
  obtain⟨i0,R,hi1,hi2,rfl,HRE,HK⟩:=hrel
  clear HK4
  by_cases h0:0≤i0
  ·obtain⟨m,rfl⟩:∃m:Nat,i0=(m:Int):=⟨i0.toNat,by omega⟩
   rw [show((m:Int)+1).toNat=m+1 by omega]at HRE HK
   have hmk:m<kA:=by omega
   obtain⟨o7',c7',e7,h7⟩:=(HK.out.num.limbs HKA.out).form
   injection e7 with e7 e7' e7''
   subst e7
   subst e7''
   obtain⟨a7,rfl,ha7,hc7⟩:=h7 (by omega)
   have p7:=hc7 m hmk
   obtain⟨z,hz⟩:∃z,limb A m=z:=⟨_,rfl⟩
   have hzB:z<B:=by rw [←hz];exact limb_lt A m
   rw [hz]at p7
   have hRc:R<c:=by rw [←HRE.out];exact Nat.mod_lt _ hcpos
   obtain⟨kr,hkr,hlr⟩:=HK.out.rest
   have hkrL:kr≤L+1:=hkr.le (Nat.lt_trans hRc HCL.out)
   have HLR:=Hid.intro hlr
   have HKR:=Hid.intro hkr
   have HZ:=Hid.intro hz
   clear hc7 h7 hlr hkr hz
   gi_wp2_with (gi_at_builtin;refine stop ?_)
   unfold Stop
   refine append_cons wr rfl _ _ rfl z R kr hzB rfl u11 rfl HLR.out (by omega) _ rfl ?_
   intro v5 w5 hl5 hf5 hb5
   have HT:=Hid.intro (rtrim_calls w5 v5 (R*B+z) (1+kr) hl5 (cons_lt_pow hzB HKR.out.1))
   have HF5:=Hid.intro hf5
   have HB5:=Hid.intro hb5
   clear hl5 hf5 hb5
   gi_wp2_with (gi_at_call 198;refine stop ?_)
   unfold Stop
   refine HT.out.mono ?_
   rintro e w6 ⟨v6,rfl,⟨hm6,hf6⟩,hb6⟩
   obtain⟨S,hS⟩:∃S,R*B+z=S:=⟨_,rfl⟩
   have hSc:S<c*B:=by rw [←hS];exact cons_lt hzB hRc
   rw [hS]at hm6
   have HS:=Hid.intro hS
   have HK6:Hid (DivI w w6 (.slice (some a7) kA c7) v6 (.slice (some a8) (l+1) c8) A S c g kA fun j => .int .i64 (((if j=m then 0 else topL (A/c) (m+1) j):Nat):Int)):=by
    have h6:=(HK.out.step (HB5.out.trans (hb6.mono HB5.out.size))).with hm6 (Fresh.ne' (b:=wr.heap.size) (fun k hk=>HF5.out k (hf6 ▸ hk)) HK.out.lt S)
    refine⟨h6.num,h6.numNe,h6.rest,h6.restNe,h6.div,h6.divNe,ArrAt.congr h6.arr fun j _ => ?_,h6.el,h6.lt,h6.below⟩
    by_cases e:j=m
    ·subst e;rw [if_pos rfl];unfold topL;rw [if_neg (by omega)]
    ·rw [if_neg e]
   clear hm6 hf6 hb6 hS HT HF5 HB5 HLR HKR p7
   gi_wp2
   gi_loopw [11] (fun v11 wr=>∃(T t:Nat),Hid (T+t*c=S)∧Hid (DivI w wr (.slice (some a7) kA c7) v11 (.slice (some a8) (l+1) c8) A T c g kA fun j => .int .i64 (((if j=m then t else topL (A/c) (m+1) j):Nat):Int))) (fun v11 wr=>natNum wr v11)
   case atStart=>exact⟨S,0,Hid.intro (by omega),HK6.out⟩
   case round=>
    obtain⟨T,t,HTt,HK7⟩:=hrel
    clear HK6
    obtain⟨kT,hkT,hlT⟩:=HK7.out.rest
    obtain⟨o11,c11,rfl,_⟩:=hlT.form
    have hkT9:=hlT.small
    have HKT:=Hid.intro hkT
    have HTc:=Hid.intro (cmpN_calls wr _ _ T c HK7.out.rest HK7.out.div)
    clear hkT hlT
    by_cases hTc:T<c
    ·have hq:cmpI T c = -1:=cmpI_lt hTc
     rw [hq]at HTc
     gi_wp2_with (gi_at_call 200;refine HTc.out.mono ?_;rintro e w8 ⟨rfl,hb8⟩;have HB8:=Hid.intro hb8;clear hb8)
     have hTS:S%c=T∧S/c=t:=by
      rw [←HTt.out]
      exact⟨by rw [Nat.add_mul_mod_self_right,Nat.mod_eq_of_lt hTc],by rw [Nat.add_mul_div_right _ _ hcpos,Nat.div_eq_of_lt hTc,Nat.zero_add]⟩
     have hrs:=(rest_step A c m).1
     have hql:=(quo_limb (A:=A) (m:=m) hcpos).1
     rw [HRE.out,HZ.out,HS.out]at hrs hql
     refine⟨⟨(m:Int)-1,T,by omega,by omega,by go_num,?_,?_⟩,by simp [intOf]⟩
     ·rw [show((m:Int)-1+1).toNat=m by omega]
      exact Hid.intro (by rw [←hrs,hTS.1])
     ·rw [show((m:Int)-1+1).toNat=m by omega]
      have h8:=HK7.out.step HB8.out
      refine Hid.intro ⟨h8.num,h8.numNe,h8.rest,h8.restNe,h8.div,h8.divNe,ArrAt.congr h8.arr fun j _ => ?_,h8.el,h8.lt,h8.below⟩
      by_cases e:j=m
      ·rw [if_pos e,e];unfold topL;rw [if_pos (Nat.le_refl _),hql,hTS.2]
      ·rw [if_neg e];unfold topL
       by_cases e2:m+1≤j
       ·rw [if_pos e2,if_pos (by omega)]
       ·rw [if_neg e2,if_neg (by omega)]
    ·obtain⟨q,hq⟩:∃q,cmpI T c=q:=⟨_,rfl⟩
     have hq0:0≤q:=by
      rw [←hq];unfold cmpI;rw [if_neg hTc];split <;> omega
     rw [hq]at HTc
     have HK8:∀w8,Below wr.heap.size wr w8→Hid (DivI w w8 (.slice (some a7) kA c7) (.slice o11 kT c11) (.slice (some a8) (l+1) c8) A T c g kA fun j => .int .i64 (((if j=m then t else topL (A/c) (m+1) j):Nat):Int)):=fun w8 h=>HK7.out.step h
     have hSle:T≤S:=by have:=HTt.out;omega
     have hTB:T<c*B:=Nat.lt_of_le_of_lt hSle hSc
     have hTp:T<B^(l+2):=by
      have h1:c*B≤B^(l+1)*B:=Nat.mul_le_mul_right _ (Nat.le_of_lt HTG.out.1.1)
      rw [show B^(l+1)*B=B^(l+2)from(Nat.pow_succ _ _).symm]at h1
      omega
     have hkT2:kT≤l+2:=HKT.out.le hTp
     have hkT1:l+1≤kT:=by
      apply Classical.byContradiction
      intro hno
      have:=cmp_len HKT.out HTG.out.1 (by omega)
      omega
     have HTP:=Hid.intro hTp
     have HTB:=Hid.intro hTB
     clear hTp hTB
     gi_wp2_with (gi_at_call 200;refine HTc.out.mono ?_;rintro e w8 ⟨rfl,hb8⟩;have HK8:=HK8 w8 hb8;clear hb8)
     obtain⟨w9,hw9⟩:∃w9,w9=w8:=⟨_,rfl⟩
     rw [←hw9]
     rw [←hw9]at HK8
     have HNUM:=Hid.intro HK7.out.rest.num
     clear hw9 HK7 HTc
     gi_loopw [14,15] (fun hv kv wr=>∃p h:Nat,l≤p∧p≤kT∧kv = .int .i64 ((p:Int)-1)∧hv = .int .i64 (h:Int)∧Hid (T/B^p=h)∧wr=w9) (fun _ kv _=>(intOf kv+1).toNat)
     case atStart=>exact⟨kT,0,by omega,Nat.le_refl _,(by first|rfl|go_num),rfl,Nat.div_eq_of_lt HKT.out.1,rfl⟩
     case round=>
      obtain⟨p,hv0,hp1,hp2,rfl,rfl,HH,rfl⟩:=hrel
      by_cases hpm:l+1≤p
      ·obtain⟨p',rfl⟩:∃p',p=p'+1:=⟨p-1,by omega⟩
       have hhB:hv0<1000000000:=by
        rw [←HH.out]
        refine Nat.div_lt_of_lt_mul ?_
        have h1:B^(l+2)≤B^(p'+1+1):=pow_mono (by omega)
        rw [Nat.pow_succ B (p'+1)]at h1
        exact Nat.lt_of_lt_of_le HTP.out h1
       have ds:T/B^p'=1000000000*hv0+limb T p':=by rw [div_step T p',HH.out];rfl
       obtain⟨o',c',e',h11⟩:=(HK8.out.rest.limbs HKT.out).form
       injection e' with e1 e2 e3
       subst e1
       subst e3
       obtain⟨a11,rfl,ha11,hc11⟩:=h11 (by omega)
       have p11:=hc11 p' (by omega)
       obtain⟨lr,hlr⟩:∃lr,limb T p'=lr:=⟨_,rfl⟩
       have hlB:lr<1000000000:=by rw [←hlr];exact limb_lt T p'
       rw [hlr]at p11 ds
       have HDS:=Hid.intro ds
       clear hc11 hlr ds h11
       gi_wp2
       exact⟨⟨p',1000000000*hv0+lr,by omega,by omega,by go_num,congrArg (Value.int .i64) (by omega),HDS.out,by first|trivial|rfl⟩,by first|(simp [intOf];done)|(simp [intOf];omega)⟩
      ·have hpm0:l=p:=by omega
       subst hpm0
       have htop0:¬(hi:Int)=0:=by omega
       clear hhi
       gi_wp2_with (with_reducible refine stop_min ?_)
       unfold Stop
       obtain⟨N,hN⟩:∃N,max 1 (min 999999999 (hv0/hi))=N:=⟨_,rfl⟩
       obtain⟨M,hM⟩:∃M,min 999999999 (hv0/hi)=M:=⟨_,rfl⟩
       have htop1:((hv0:Int)/(hi:Int))=((hv0/hi:Nat):Int):=rfl
       have hgs:=guess_ok (n:=N) hcpos (Nat.le_of_not_lt hTc) HTOP.out HTG.out.1.1 HH.out (by rw [←HHI.out,hN])
       have hTt:=HTt.out
       have hNS:S/c<B:=Nat.div_lt_of_lt_mul hSc
       have htN:t+N≤S/c:=by
        rw [Nat.le_div_iff_mul_le hcpos,Nat.add_mul]
        omega
       have HGS:=Hid.intro hgs
       have HTN:=Hid.intro (show t+N<1000000000 from Nat.lt_of_le_of_lt htN hNS)
       have hN2:=hgs.2.1
       have HNB:=Hid.intro (show N<B from Nat.lt_of_le_of_lt hN2 (by unfold B;omega))
       have hmul1:=Hid.intro (show 0<N*c from Nat.mul_pos hgs.1 hcpos)
       have htop2:(Int.tdiv (hv0:Int) (hi:Int))=((hv0/hi:Nat):Int):=rfl
       have hw:wrap64 ((hv0/hi:Nat):Int)=((hv0/hi:Nat):Int)   := wrap64_small (x:=hv0/hi) (by
        have h1:hv0<1000000000000000000:=by
         rw [←HH.out]
         refine Nat.div_lt_of_lt_mul ?_
         have h2:=HTP.out
         rw [Nat.pow_add]at h2
         exact h2
        have h3:=Nat.div_le_self hv0 hi
        omega)
       refine wpListIn_min rfl _ _ _ rfl .i64 _ _ (M:Int) rfl rfl (by rw [htop1,hw,←hM];generalize hv0/hi=G0;split <;> omega) ?_
       refine wpListIn_max rfl _ _ _ rfl .i64 _ _ (N:Int) rfl rfl (by rw [←hN,hM];split <;> omega) ?_
       clear hgs hTt hNS htN hN2 hN hM htop1 htop2 hw htop0 HH
       gi_wp2_with (gi_at_call 220;refine stop ?_)
       unfold Stop
       refine(timesN_calls wr _ c N (L+1) HK8.out.div HCL.out (by omega) HNB.out).mono ?_
       rintro e wa ⟨va',rfl,⟨hma,_⟩,hba⟩
       have HK9:=Hid.intro (HK8.out.step hba)
       have HMA:=Hid.intro hma
       clear hma hba HK8
       gi_wp2_with (gi_at_call 201;refine stop ?_)
       unfold Stop
       refine(subN_calls wa _ _ T (c*N) (l+2) HK9.out.rest HMA.out (by rw [Nat.mul_comm];exact HGS.out.2.2) HTP.out (by omega)).mono ?_
       rintro e wb ⟨vb',rfl,⟨hmb,hfb⟩,hbb⟩
       have HKA2:=Hid.intro ((HK9.out.step hbb).with hmb (Fresh.ne' hfb HK9.out.lt _))
       clear hmb hfb hbb HK9 HMA
       have z1:wb.cell? ⟨g,m,none⟩=some (.int .i64 (t:Int)):=(HKA2.out.arr m hmk).1.trans (by rw [if_pos rfl])
       have z2:=(HKA2.out.arr m hmk).2
       have htN2:=HTN.out
       gi_wp2
       have hset:=HKA2.out.set hmk hg (.int .i64 ((t:Int)+(N:Int))) (f':=fun j => .int .i64 (((if j=m then t+N else topL (A/c) (m+1) j):Nat):Int)) fun j hj=>by
        by_cases e:j=m
        ·rw [if_pos e,if_pos e];exact congrArg (Value.int .i64) (by omega)
        ·rw [if_neg e,if_neg e,if_neg e]
       refine⟨⟨T-c*N,t+N,Hid.intro ?_,Hid.intro hset⟩,?_⟩
       ·have h1:=HTt.out
        have h2:=HGS.out.2.2
        rw [Nat.add_mul,Nat.mul_comm c N]
        omega
       ·rw [hset.rest.num,HNUM.out,Nat.mul_comm c N]
        have h1:=hmul1.out
        omega
  ·have hm1:i0 = -1:=by omega
   subst hm1
   have hR0:A%c=R:=by
    have:=HRE.out
    simpa using this
   have HR0:=Hid.intro hR0
   have HSM:=Hid.intro (small_calls wr _ R d HK.out.rest hd0 hdB)
   clear hR0
   gi_wp2_with (gi_at_call 221;refine stop ?_)
   unfold Stop
   refine HSM.out.mono ?_
   rintro e w5 ⟨vs,rfl,⟨hm,_⟩,hb5⟩
   have HM:=Hid.intro hm
   have HK5:=Hid.intro (HK.out.step hb5)
   clear hm hb5 HK HSM
   have hlt:A/c<B^kA:=Nat.lt_of_le_of_lt (Nat.div_le_self _ _) HKA.out.1
   have hla:LimbsI w5 (.slice (some ⟨g,0,none⟩) kA kA) (A/c) kA:=by
    rcases Nat.eq_zero_or_pos kA with h|h
    ·subst h;exact .inl ⟨rfl,_,_,rfl⟩
    ·refine ArrAt.limbsI (ArrAt.congr HK5.out.arr fun j _ => ?_) h (Nat.le_refl _) ⟨by omega,by omega⟩ HK5.out.el
     unfold topL
     rw [if_pos (by simp)]
   have HT:=Hid.intro (rtrim_calls w5 _ (A/c) kA hla hlt)
   clear hla hlt
   gi_wp2_with (gi_at_call 198;refine stop ?_)
   unfold Stop
   refine HT.out.mono ?_
   rintro e w6 ⟨vq,rfl,⟨hm,hf⟩,hb6⟩
   have HQ:=Hid.intro hm
   have HFr:=Hid.intro (fresh_of hf hg)
   have HB6:=Hid.intro hb6
   clear hm hf hb6 HT
   gi_wp2
   all_goals (first|go_returns|go_ret|go_end0)
   refine⟨vq,vs,rfl,⟨?_,HFr.out⟩,?_,HK5.out.below.trans (HB6.out.mono HK5.out.below.size)⟩
   ·rw [←HSC.out.1];exact HQ.out
   ·rw [←HSC.out.2,HR0.out];exact HM.out.below HB6.out
theorem divN_calls(w:World)(va vb:Value)(x y L:Nat)(ha:NatI w va x)(hb:NatI w vb y)(hy:0<y)(hx:x<B^L)(hyL:y<B^L)(hL:L≤10000000) :
  CallsIn Fence.wide 0 Tryz.prog 197 #[va,vb] w fun e w'=>∃vq vr,e = .returned (.tuple #[vq,vr])∧NatI w' vq (x/y)∧NatI w' vr (x%y)∧Below w.heap.size w w':=
 (divN_fresh w va vb x y L ha hb hy hx hyL hL).mono (fun _ _ ⟨vq,vr,h1,h2,h3,h4⟩=>⟨vq,vr,h1,h2.1,h3,h4⟩)
set_option maxRecDepth 100000 in
set_option maxHeartbeats 8000000 in
theorem gcdN_calls(w:World)(va vb:Value)(x y L:Nat)(ha:NatI w va x)(hb:NatI w vb y)(hx:x<B^L)(hy:y<B^L)(hL:L≤10000000) :
  CallsIn Fence.wide 0 Tryz.prog 196 #[va,vb] w fun e w'=>∃v',e = .returned v'∧NatI w' v' (Nat.gcd x y)∧Below w.heap.size w w':=by
 have HA:=Hid.intro ha
 have HB:=Hid.intro hb
 have HX:=Hid.intro hx
 have HY:=Hid.intro hy
 clear ha hb hx hy
 refine callsIn_of_wp Tryz.func196 rfl trivial ?_ rfl
 simp only [Tryz.ntmps196,List.size_toArray,List.length_cons,List.length_nil,Nat.reduceAdd,Nat.reduceSub,Array.replicate_succ,Array.replicate_zero,List.push_toArray,List.append_toArray,List.nil_append,List.cons_append]
 gi_wp2
 gi_loopw [0,1] (fun va vb wr=>∃a b:Nat,Hid (NatI wr va a)∧Hid (NatI wr vb b)∧Hid (a<B^L)∧Hid (b<B^L)∧Hid (Nat.gcd a b=Nat.gcd x y)∧Hid (Below w.heap.size w wr)) (fun _ vb wr=>natNum wr vb)
 case atStart=>exact⟨x,y,HA.out,HB.out,HX.out,HY.out,Hid.intro rfl,Below.refl _ _⟩
 case round=>
  obtain⟨a,b,HMA,HMB,HLA,HLB,HG,HBr⟩:=hrel
  clear HA HB
  obtain⟨o,k,c,rfl,hk,hk9⟩:=natI_len HMB.out
  by_cases hb0:b=0
  ·have hk0:k=0:=hk.2 hb0
   subst hk0
   subst hb0
   clear hk
   gi_wp2
   all_goals (first|go_returns|go_ret|go_end0)
   refine⟨_,rfl,?_,HBr.out⟩
   rw [←HG.out,Nat.gcd_zero_right]
   exact HMA.out
  ·have hk0:0<k:=by
    rcases Nat.eq_zero_or_pos k with h|h
    ·exact absurd (hk.1 h) hb0
    ·exact h
   have HD:=Hid.intro (divN_calls wr _ _ a b L HMA.out HMB.out (by omega) HLA.out HLB.out hL)
   have HN:=Hid.intro HMB.out.num
   clear hk
   gi_wp2_with (gi_at_call 197;refine HD.out.mono ?_;rintro e w6 ⟨vq,vr,rfl,_,hm6,hB6⟩;have HM6:=Hid.intro hm6;have HB6:=Hid.intro (HBr.out.trans (hB6.mono HBr.out.size));have HMB6:=Hid.intro (HMB.out.below hB6);clear hm6 hB6)
   refine⟨⟨b,a%b,HMB6.out,HM6.out,HLB.out,?_,?_,HB6.out⟩,?_⟩
   ·exact Hid.intro (Nat.lt_of_lt_of_le (Nat.mod_lt a (by omega)) (Nat.le_of_lt HLB.out))
   ·exact Hid.intro (gcd_step.symm.trans HG.out)
   ·rw [HM6.out.num,HN.out]
    exact Nat.mod_lt a (by omega)
def ZAt(w:World)(v:Value)(z:Int):Prop:=∃m,v = .agg #[.bool (decide (z<0)),m]∧NatI w m z.natAbs
theorem ZAt.below{w w':World}{v:Value}{z:Int}(h:ZAt w v z)(hb:Below w.heap.size w w'):ZAt w' v z:=by
 obtain⟨m,e,hm⟩:=h
 exact⟨m,e,hm.below hb⟩
set_option maxRecDepth 100000 in
set_option maxHeartbeats 4000000 in
theorem int_same(w:World)(neg:Bool)(v:Value)(n:Nat)(h:NatI w v n) :
  CallsIn Fence.wide 0 Tryz.prog 94 #[.bool neg,v] w fun e w'=>∃v',e = .returned v'∧(ZAt w' v' (sgn neg n)∧∃x:Value,v' = .agg #[x,v])∧Below w.heap.size w w':=by
 have HM:=Hid.intro h
 obtain⟨o,k,c,rfl,hk,hk9⟩:=natI_len h
 have HK:=Hid.intro hk
 clear h hk
 have fin:∀(w':World) (b:Bool),b=decide (sgn neg n<0)→Below w.heap.size w w'→∃v',Ending.returned (Value.agg #[.bool b,.slice o k c]) = .returned v'∧(ZAt w' v' (sgn neg n)∧∃x:Value,v' = .agg #[x,.slice o k c])∧Below w.heap.size w w':=by
  intro w' b hb hB
  exact⟨_,rfl,⟨⟨_,by rw [hb],by rw [sgn_abs];exact HM.out.below hB⟩,_,rfl⟩,hB⟩
 have FIN:=Hid.intro fin
 clear fin
 refine callsIn_of_wp Tryz.func94 rfl trivial ?_ rfl
 simp only [Tryz.ntmps94,List.size_toArray,List.length_cons,List.length_nil,Nat.reduceAdd,Nat.reduceSub,Array.replicate_succ,Array.replicate_zero,List.push_toArray,List.append_toArray,List.nil_append,List.cons_append]
 cases neg with
 | false=>
  have HS:Hid (false=decide (sgn false n<0)):=Hid.intro (decide_eq_false (by rw [sgn_neg];simp)).symm
  gi_wp2
  all_goals (first|go_returns|go_ret|go_end0)
  exact FIN.out _ _ HS.out (alloc_below _ _)
 | true=>
  by_cases hk0:k=0
  ·subst hk0
   have HS:Hid (false=decide (sgn true n<0)):=Hid.intro (decide_eq_false (by rw [sgn_neg,HK.out.1 rfl];simp)).symm
   gi_wp2
   all_goals (first|go_returns|go_ret|go_end0)
   exact FIN.out _ _ HS.out (alloc_below _ _)
  ·have hk1:(0:Int)<(k:Int):=by omega
   have HS:Hid (true=decide (sgn true n<0)):=Hid.intro (decide_eq_true (by rw [sgn_neg];exact⟨rfl,Nat.pos_of_ne_zero fun e=>hk0 (HK.out.2 e)⟩)).symm
   gi_wp2
   all_goals (first|go_returns|go_ret|go_end0)
   exact FIN.out _ _ (by rw [←HS.out];exact decide_eq_true (by omega)) (alloc_below _ _)
theorem int_calls(w:World)(neg:Bool)(v:Value)(n:Nat)(h:NatI w v n) :
  CallsIn Fence.wide 0 Tryz.prog 94 #[.bool neg,v] w fun e w'=>∃v',e = .returned v'∧ZAt w' v' (sgn neg n)∧Below w.heap.size w w':=
 (int_same w neg v n h).mono (fun _ _ ⟨v',h1,h2,h3⟩=>⟨v',h1,h2.1,h3⟩)
set_option maxRecDepth 100000 in
set_option maxHeartbeats 8000000 in
theorem zsign_calls(w:World)(v:Value)(z:Int)(h:ZAt w v z) :
  CallsIn Fence.wide 0 Tryz.prog 98 #[v] w fun e w'=>e = .returned (.int .i64 z.sign)∧Below w.heap.size w w':=by
 obtain⟨m,rfl,hn⟩:=h
 obtain⟨o,k,c,rfl,hk,hk9⟩:=natI_len hn
 have HK:=Hid.intro hk
 clear hn hk
 refine callsIn_of_wp Tryz.func98 rfl trivial ?_ rfl
 simp only [Tryz.ntmps98,List.size_toArray,List.length_cons,List.length_nil,Nat.reduceAdd,Nat.reduceSub,Array.replicate_succ,Array.replicate_zero,List.push_toArray,List.append_toArray,List.nil_append,List.cons_append]
 by_cases h1:z=0
 ·have hs:Hid (z.sign=0):=Hid.intro (by rw [h1];rfl)
  have hk0:k=0:=HK.out.2 (by rw [h1];rfl)
  subst hk0
  have hd:decide (z<0)=false:=decide_eq_false (by omega)
  rw [hd]
  clear hd h1
  gi_wp2
  all_goals (first|go_returns|go_ret|go_end0)
  exact⟨by rw [hs.out] <;> rfl,alloc_below _ _⟩
 ·have hk0:¬(k:Int)=0:=by
   intro q
   have:=HK.out.1 (by omega)
   omega
  have hk2:((k:Int) == 0)=false:=by simp;omega
  by_cases h0:z<0
  ·have hs:Hid (z.sign = -1):=Hid.intro (Int.sign_eq_neg_one_of_neg h0)
   have hd:decide (z<0)=true:=decide_eq_true h0
   rw [hd]
   clear hd h0 h1
   gi_wp2
   all_goals (first|go_returns|go_ret|go_end0)
   exact⟨by rw [hs.out] <;> rfl,alloc_below _ _⟩
  ·have hs:Hid (z.sign=1):=Hid.intro (Int.sign_eq_one_of_pos (by omega))
   have hd:decide (z<0)=false:=decide_eq_false h0
   rw [hd]
   clear hd h0 h1
   gi_wp2
   all_goals (first|go_returns|go_ret|go_end0)
   exact⟨by rw [hs.out] <;> rfl,alloc_below _ _⟩
end Go.Num
namespace Go.Eng
open Go.RowKit
def plainOper(o:Oper):Bool:=o.guard.isNone && (match o.op with | .defer _=>false | .select .. => false|_=>true)
theorem mask_lt{ops:Array Oper}{p:Plan}(hp:PlanOK ops p):∀(i:Nat) (o:Oper),ops[i]? = some o→∀j,(bsAt p.bs i).testBit j=true→j<i:=by
 intro i
 induction i using Nat.strongRecOn with
 | ind i ih=>
  intro o ho j hj
  obtain⟨e,h1,h2,h3⟩:=hp.mask i o ho j hj
  have h4:=hp.lower i o ho e h1 h2
  rcases h3 with rfl|h3
  ·exact h4
  ·have hlt:e.on<ops.size:=by have:=(Array.getElem?_eq_some_iff.1 ho).1;omega
   have:=ih e.on h4 _ (Array.getElem?_eq_getElem hlt) j h3
   omega
section
variable {P:Program} {ops:Array Oper} {p:Plan}
theorem act_ext{c c':CAct}(h1:c.tmps.size=c'.tmps.size)(h2:∀t,t<c.tmps.size→c.tmps.getD t undef=c'.tmps.getD t undef)(h3:c.defers=c'.defers):c=c':=by
 obtain⟨t,d⟩:=c
 obtain⟨t',d'⟩:=c'
 simp only at h1 h2 h3
 subst h3
 congr 1
 refine Array.ext h1 fun i hi hi' => ?_
 have:=h2 i hi
 simpa [hi,hi']using this
end
def ordOk(bs bars:List Nat):List Nat→Bool
 | []=>true
 | i :: r=>r.all (fun j => !(bsAt bs i).testBit j && !Nat.beq i j) && (!bars.contains i || r.all fun j=>(bsAt bs j).testBit i) && ordOk bs bars r
theorem ord_head{bs bars:List Nat}{i:Nat}{r:List Nat}(h:ordOk bs bars (i :: r)=true):(∀j∈r,(bsAt bs i).testBit j=false∧i≠j∧(i∈bars→(bsAt bs j).testBit i=true))∧ordOk bs bars r=true:=by
 simp only [ordOk,Bool.and_eq_true,List.all_eq_true,Bool.or_eq_true,Bool.not_eq_true']at h
 obtain⟨⟨h1,h2⟩,h3⟩:=h
 refine⟨fun j hj=>⟨(h1 j hj).1,fun e => ?_,fun hi => ?_⟩,h3⟩
 ·have:=(h1 j hj).2
  rw [e,Nat.beq_refl]at this
  cases this
 ·rcases h2 with h2|h2
  ·have:bars.contains i=true:=by simpa using hi
   rw [this]at h2;cases h2
  ·exact h2 j hj
theorem ord_split{bs bars:List Nat}:∀{pre:List Nat} {i:Nat} {r:List Nat},ordOk bs bars (pre ++ i :: r)=true →
  (∀j∈r,(bsAt bs i).testBit j=false∧i≠j∧(i∈bars→(bsAt bs j).testBit i=true))∧(∀j∈pre,(bsAt bs j).testBit i=false∧j≠i∧(j∈bars→(bsAt bs i).testBit j=true))
 | [],i,r,h=>⟨(ord_head h).1,fun j hj=>by cases hj⟩
 | k :: pre,i,r,h=>by
  obtain⟨h1,h2⟩:=ord_head h
  obtain⟨h3,h4⟩:=ord_split (pre:=pre) h2
  refine⟨h3,fun j hj => ?_⟩
  rcases List.mem_cons.1 hj with rfl|hj
  ·exact h1 i (by simp)
  ·exact h4 j hj
def lastAll(bs:List Nat)(n i:Nat):Bool:=(List.range n).all fun j=>Nat.beq i j || ((bsAt bs i).testBit j || (bsAt bs j).testBit i)
def lastK(bs ks:List Nat)(n i:Nat):Bool:=(List.range n).all fun j=>Nat.beq i j || ((bsAt bs i).testBit j || (bsAt bs j).testBit i || ks.contains j)
theorem lastK_of{bs ks:List Nat}{n i:Nat}(h:lastAll bs n i=true):lastK bs ks n i=true:=by
 unfold lastAll at h
 unfold lastK
 rw [List.all_eq_true]at h ⊢
 intro j hj
 have:=h j hj
 rw [Bool.or_eq_true]at this ⊢
 exact this.imp id (fun q=>by rw [q];rfl)
def OWK(K:World→Prop)(ks:List Nat)(P:Program)(ro:Option Nat)(ops:Array Oper)(bs bars:List Nat)(Q:CAct→World→Prop):List Nat→CAct→World→Prop
 | [],a,w=>Q a w
 | i :: r,a,w=>∃o,ops[i]? = some o ∧
   ((bars.contains i=true ∧
     ((∃f args,(execOp a.eval o).run P w = .ok (.enter f args) w∧CallsIn (Fz ro) 0 P f args w fun e w'=>∃v,e = .returned v∧((lastK bs ks ops.size i=true∧K w')∨Below w.heap.size w w')∧OWK K ks P ro ops bs bars Q r (a.put o.dst v) w') ∨
      (∃w' v,((execOp a.eval o).run P w = .ok (.value v) w'∨((execOp a.eval o).run P w = .ok .skip w'∧v=undef))∧((lastK bs ks ops.size i=true∧K w')∨Below w.heap.size w w')∧OWK K ks P ro ops bs bars Q r (a.put o.dst v) w'))) ∨
    (bars.contains i=false∧∃v,(∀w',(Below w.heap.size w w'∨(ks.contains i=true∧K w'))→(execOp a.eval o).run P w' = .ok (.value v) w')∧OWK K ks P ro ops bs bars Q r (a.put o.dst v) w))
abbrev OW(P:Program)(ro:Option Nat)(ops:Array Oper)(bs bars:List Nat)(Q:CAct→World→Prop):List Nat→CAct→World→Prop:=OWK (fun _=>True) [] P ro ops bs bars Q
section
variable {P:Program} {ops:Array Oper} {p:Plan}
def Agree(ops:Array Oper)(p:Plan)(val:Nat→Value)(a:CAct)(i:Nat)(o:Oper)(c:CAct):Prop:=
 ∀t∈tmpsOf o,(∀j q,(bsAt p.bs i).testBit j=true→ops[j]? = some q→q.dst=some t→c.tmps.getD t undef=val j) ∧
  ((∀j q,(bsAt p.bs i).testBit j=true→ops[j]? = some q→q.dst≠some t)→c.tmps.getD t undef=a.tmps.getD t undef)
theorem Agree.eval{val:Nat→Value}{a:CAct}{i:Nat}{o:Oper}{c c':CAct}(h:Agree ops p val a i o c)(h':Agree ops p val a i o c'):∀x∈o.op.operands,c.eval x=c'.eval x:=by
 intro x hx
 cases x with
 | tmp t=>
  have hmem:t∈tmpsOf o:=by
   unfold tmpsOf
   rw [List.mem_filterMap]
   exact⟨.tmp t,by simpa using hx,rfl⟩
  show c.tmps.getD t undef=c'.tmps.getD t undef
  by_cases hw:∃(j:Nat) (q:Oper),(bsAt p.bs i).testBit j=true∧ops[j]? = some q∧q.dst=some t
  ·obtain⟨j,q,h1,h2,h3⟩:=hw
   rw [(h t hmem).1 j q h1 h2 h3,(h' t hmem).1 j q h1 h2 h3]
  ·have hno:∀j q,(bsAt p.bs i).testBit j=true→ops[j]? = some q→q.dst≠some t:=fun j q h1 h2 h3=>hw ⟨j,q,h1,h2,h3⟩
   rw [(h t hmem).2 hno,(h' t hmem).2 hno]
 | const u=>rfl
 | global g=>rfl
 | func f=>rfl
structure Core(K:World→Prop)(ks:List Nat)(P:Program)(ro:Option Nat)(ops:Array Oper)(p:Plan)(bars:List Nat)(Q:CAct→World→Prop)(a:CAct)(ord done rest:List Nat)(val:Nat→Value)(g:CAct)(listed:Array Bool)(w:World):Prop where
 ord:done ++ rest=ord
 size:g.tmps.size=a.tmps.size
 defers:g.defers=a.defers
 gW:∀j∈done,∀o d,ops[j]? = some o→o.dst=some d→g.tmps.getD d undef=val j
 g0:∀t,(∀j∈done,∀o,ops[j]? = some o→o.dst≠some t)→g.tmps.getD t undef=a.tmps.getD t undef
 quiet:∀i∈done,¬Did listed i→∀o,ops[i]? = some o→i∉bars∧∀c:CAct,Agree ops p val a i o c→∀w',(Below w.heap.size w w'∨(ks.contains i=true∧K w'))→(execOp c.eval o).run P w' = .ok (.value (val i)) w'
 cont:OWK K ks P ro ops p.bs bars Q rest g w
theorem core_agree{K:World→Prop}{ks:List Nat}{ro:Option Nat}{bars:List Nat}{Q:CAct→World→Prop}{a:CAct}{ord done r:List Nat}{i:Nat}{val:Nat→Value}{g:CAct}{listed:Array Bool}{w:World}(hp:PlanOK ops p)(hord:ordOk p.bs bars ord=true)(hall:∀i,i<ops.size→i∈ord)
  (hC:Core K ks P ro ops p bars Q a ord done (i :: r) val g listed w) {o:Oper} (ho:ops[i]? = some o):Agree ops p val a i o g:=by
 have hs:=hC.ord ▸ hord
 obtain⟨h1,h2⟩:=ord_split hs
 intro t ht
 refine⟨fun j q hj hq hd => ?_,fun hno => ?_⟩
 ·refine hC.gW j ?_ q t hq hd
  have hjo:j∈ord:=hall j (Array.getElem?_eq_some_iff.1 hq).1
  rw [←hC.ord]at hjo
  rcases List.mem_append.1 hjo with h|h
  ·exact h
  ·rcases List.mem_cons.1 h with rfl|h
   ·have:=mask_lt hp j o ho j hj;omega
   ·have:=(h1 j h).1;rw [hj]at this;cases this
 ·refine hC.g0 t fun j hj q hq hd => ?_
  rcases hp.reads i j o q t ho hq hd ht with rfl|hb|hb
  ·exact(h2 i hj).2.1 rfl
  ·exact hno j q hb hq hd
  ·have:=(h2 j hj).1;rw [hb]at this;cases this
def upd(val:Nat→Value)(i:Nat)(v:Value):Nat→Value:=fun k=>if k=i then v else val k
theorem upd_same(val:Nat→Value)(i:Nat)(v:Value):upd val i v i=v:=if_pos rfl
theorem upd_ne(val:Nat→Value)(i:Nat)(v:Value){k:Nat}(h:k≠i):upd val i v k=val k:=if_neg h
theorem core_put{K:World→Prop}{ks:List Nat}{ro:Option Nat}{bars:List Nat}{Q:CAct→World→Prop}{a:CAct}{ord done r:List Nat}{i:Nat}{val:Nat→Value}{g:CAct}{listed listed':Array Bool}{w w':World}(hp:PlanOK ops p)(hord:ordOk p.bs bars ord=true)
  (hdst:∀o∈ops.toList,∀d,o.dst=some d→d<a.tmps.size)
  (hC:Core K ks P ro ops p bars Q a ord done (i :: r) val g listed w) {o:Oper} (ho:ops[i]? = some o) (v:Value) (hcont:OWK K ks P ro ops p.bs bars Q r (g.put o.dst v) w')
  (hq:∀j∈done,¬Did listed' j→∀q,ops[j]? = some q→j∉bars∧∀c:CAct,Agree ops p val a j q c→∀w2,(Below w'.heap.size w' w2∨(ks.contains j=true∧K w2))→(execOp c.eval q).run P w2 = .ok (.value (val j)) w2)
  (hi:¬Did listed' i→i∉bars∧∀c:CAct,Agree ops p val a i o c→∀w2,(Below w'.heap.size w' w2∨(ks.contains i=true∧K w2))→(execOp c.eval o).run P w2 = .ok (.value v) w2) :
  Core K ks P ro ops p bars Q a ord (done ++ [i]) r (upd val i v) (g.put o.dst v) listed' w':=by
 have hs:=hC.ord ▸ hord
 obtain⟨h1,h2⟩:=ord_split hs
 have hom:o∈ops.toList:=List.mem_of_getElem? (by simpa using ho)
 have hagree:∀j q c,(bsAt p.bs j).testBit i=false→Agree ops p (upd val i v) a j q c→Agree ops p val a j q c:=by
  intro j q c hji hA t ht
  refine⟨fun k q' hk hq' hd => ?_,(hA t ht).2⟩
  have:=(hA t ht).1 k q' hk hq' hd
  rw [upd_ne _ _ _ (fun e=>by rw [e]at hk;rw [hk]at hji;cases hji)]at this
  exact this
 refine⟨by rw [←hC.ord];simp,by rw [put_size];exact hC.size,by rw [put_defers];exact hC.defers,?_,?_,?_,hcont⟩
 ·intro j hj q d hq' hd
  by_cases hji:j=i
  ·subst hji
   rw [ho]at hq';cases hq'
   rw [upd_same,hd,put_same (by rw [hC.size];exact hdst o hom d hd)]
  ·rw [upd_ne _ _ _ hji,put_other (fun e=>hji (hp.dsts j i q o d hq' ho hd e))]
   rcases List.mem_append.1 hj with h|h
   ·exact hC.gW j h q d hq' hd
   ·simp at h;exact absurd h hji
 ·intro t ht
  rw [put_other (ht i (by simp) o ho)]
  exact hC.g0 t fun j hj q hq'=>ht j (by simp [hj]) q hq'
 ·intro j hj hnd q hq'
  rcases List.mem_append.1 hj with h|h
  ·have hji:=h2 j h
   rw [upd_ne _ _ _ hji.2.1]
   obtain⟨h3,h4⟩:=hq j h hnd q hq'
   exact⟨h3,fun c hA=>h4 c (hagree j q c hji.1 hA)⟩
  ·have hji:j=i:=by simpa using h
   subst hji
   rw [ho]at hq';cases hq'
   rw [upd_same]
   obtain⟨h3,h4⟩:=hi hnd
   refine⟨h3,fun c hA=>h4 c (hagree j o c ?_ hA)⟩
   cases e:(bsAt p.bs j).testBit j with
   | false=>rfl
   | true=>have:=mask_lt hp j o ho j e;omega
theorem core_advance{K:World→Prop}{ks:List Nat}{ro:Option Nat}{bars:List Nat}{Q:CAct→World→Prop}{a:CAct}{ord:List Nat}{listed:Array Bool}{w:World}(hp:PlanOK ops p)(hord:ordOk p.bs bars ord=true)(hall:∀i,i<ops.size→i∈ord)
  (hnosel:∀o∈ops.toList,∀cs b,o.op ≠ .select cs b) (hdst:∀o∈ops.toList,∀d,o.dst=some d→d<a.tmps.size) :
  ∀(rest done:List Nat) (val:Nat→Value) (g:CAct),Core K ks P ro ops p bars Q a ord done rest val g listed w →
   ∃done' rest' val' g',Core K ks P ro ops p bars Q a ord done' rest' val' g' listed w∧(∀e r,rest'=e :: r→e∈bars)∧(∀j,j∈done→j∈done'∧val' j=val j)∧(∀j,j∈done'→j∈bars→j∈done)
 | [],done,val,g,hC=>⟨done,[],val,g,hC,fun e r h=>(by cases h),fun j hj=>⟨hj,rfl⟩,fun j hj _=>hj⟩
 | i :: r,done,val,g,hC=>by
  obtain⟨o,ho,hh⟩:=hC.cont
  rcases hh with⟨hb,hh⟩|⟨hb,v,hv,hcont⟩
  ·exact⟨done,i :: r,val,g,hC,fun e r' h=>by injection h with h1 h2;subst h1;simpa using hb,fun j hj=>⟨hj,rfl⟩,fun j hj _=>hj⟩
  ·have hs:=hC.ord ▸ hord
   obtain⟨h1,h2⟩:=ord_split hs
   have hnb:i∉bars:=by intro h;rw [show bars.contains i=true by simpa using h]at hb;cases hb
   have hA:=core_agree hp hord hall hC ho
   have hom:o∈ops.toList:=List.mem_of_getElem? (by simpa using ho)
   have hC':=core_put hp hord hdst hC ho v hcont hC.quiet (listed':=listed) (fun _=>⟨hnb,fun c hAc w2 hb2=>by
    rw [execOp_congr o (hnosel o hom) (hAc.eval hA)];exact hv w2 hb2⟩)
   obtain⟨done',rest',val',g',k1,k2,k3,k4⟩:=core_advance hp hord hall hnosel hdst r (done ++ [i]) _ _ hC'
   refine⟨done',rest',val',g',k1,k2,fun j hj => ?_,fun j hj hjb => ?_⟩
   ·obtain⟨h3,h4⟩:=k3 j (by simp [hj])
    refine⟨h3,?_⟩
    rw [h4,upd_ne _ _ _ (h2 j hj).2.1]
   ·have:=k4 j hj hjb
    rcases List.mem_append.1 this with h|h
    ·exact h
    ·have:j=i:=by simpa using h
     subst this;exact absurd hjb hnb
structure EInv(K:World→Prop)(ks:List Nat)(P:Program)(ro:Option Nat)(ops:Array Oper)(p:Plan)(bars:List Nat)(Q:CAct→World→Prop)(a:CAct)(ord done rest:List Nat)(val:Nat→Value)(g:CAct)(listed:Array Bool)(c:CAct)(w:World):Prop where
 core:Core K ks P ro ops p bars Q a ord done rest val g listed w
 kw:K w
 head:∀e r,rest=e :: r→e∈bars
 lsize:listed.size=ops.size
 closed:∀i j,Did listed i→(bsAt p.bs i).testBit j=true→Did listed j
 sub:∀j,Did listed j→j∈done
 cdefers:c.defers=a.defers
 csize:c.tmps.size=a.tmps.size
 cW:∀j o d,Did listed j→ops[j]? = some o→o.dst=some d→c.tmps.getD d undef=val j
 c0:∀t,(∀j o,Did listed j→ops[j]? = some o→o.dst≠some t)→c.tmps.getD t undef=a.tmps.getD t undef
theorem ow_any{K:World→Prop}{ks:List Nat}(hKB:∀w w',K w→Below w.heap.size w w'→K w')(hp:PlanOK ops p){bars ord:List Nat}(hord:ordOk p.bs bars ord=true)(hall:∀i,i<ops.size→i∈ord)(hlt:∀i∈ord,i<ops.size)(hpl:∀o∈ops.toList,plainOper o=true){a:CAct}{ro:Option Nat}{Q:Exit→CAct→World→Prop}
  (hdst:∀o∈ops.toList,∀d,o.dst=some d→d<a.tmps.size) :
  ∀(fuel:Nat) (done rest:List Nat) (val:Nat→Value) (g:CAct) (listed:Array Bool) (c:CAct) (w:World),EInv K ks P ro ops p bars (fun a' w'=>Q .normal a' w') a ord done rest val g listed c w→cntF (fun i=>listed.getD i false) ops.size≤fuel→wpAnyIn (Fz ro) 0 P .any ops Q fuel listed c w:=by
 have hnosel:∀o∈ops.toList,∀cs b,o.op ≠ .select cs b:=by
  intro o ho cs b e
  have:=hpl o ho
  simp only [plainOper,Bool.and_eq_true]at this
  rw [e]at this
  cases this.2
 have fin:∀{done rest val g listed c w},EInv K ks P ro ops p bars (fun a' w'=>Q .normal a' w') a ord done rest val g listed c w→Region.ready .any ops listed = []→Q .normal c w:=by
  intro done rest val g listed c w hI hr
  have hdid:=ready_nil hp hI.lsize hr
  have hrest:rest = []:=by
   cases hre:rest with
   | nil=>rfl
   | cons e r=>
    exfalso
    have hC:=hI.core
    rw [hre]at hC
    have heo:e∈ord:=by rw [←hC.ord];simp
    have hs:=hC.ord ▸ hord
    have:=(ord_split hs).2 e (hI.sub e (hdid e (hlt e heo)))
    exact this.2.1 rfl
  subst hrest
  have hQ:=hI.core.cont
  have hcg:c=g:=by
   refine act_ext (by rw [hI.csize,hI.core.size]) (fun t ht => ?_) (by rw [hI.cdefers,hI.core.defers])
   by_cases hw:∃(j:Nat) (o:Oper),ops[j]? = some o∧o.dst=some t
   ·obtain⟨j,o,ho,hod⟩:=hw
    have hj:=hdid j (Array.getElem?_eq_some_iff.1 ho).1
    rw [hI.cW j o t hj ho hod,hI.core.gW j (hI.sub j hj) o t ho hod]
   ·rw [hI.c0 t (fun j o _ ho hod=>hw ⟨j,o,ho,hod⟩),hI.core.g0 t (fun j _ o ho hod=>hw ⟨j,o,ho,hod⟩)]
  rw [hcg]
  exact hQ
 intro fuel
 induction fuel with
 | zero=>
  intro done rest val g listed c w hI hcnt
  have hz:cntF (fun i=>listed.getD i false) ops.size=0:=by omega
  have hal:=cntF_zero hz
  have hr:Region.ready .any ops listed = []:=by
   cases hq:Region.ready .any ops listed with
   | nil=>rfl
   | cons i r=>
    have:=ready_spec hI.lsize (i:=i) (by rw [hq];simp)
    exact absurd (hal i this.1) this.2.1
  exact⟨hr,fin hI hr⟩
 | succ fuel ih=>
  intro done rest val g listed c w hI hcnt
  refine⟨fin hI,?_⟩
  intro i hi
  obtain⟨hin,hnd,o,ho,hedges⟩:=ready_spec hI.lsize hi
  have hready:=mask_did hp hI.closed ho hedges
  have hol:ops.toList[i]? = some o:=by simpa using ho
  have hom:o∈ops.toList:=List.mem_of_getElem? hol
  have hilt:i<listed.size:=by rw [hI.lsize];exact hin
  have hcnt':cntF (fun j=>(listed.setIfInBounds i true).getD j false) ops.size≤fuel:=by
   have:=cntF_set (f:=fun j=>listed.getD j false) (g:=fun j=>(listed.setIfInBounds i true).getD j false) (i:=i) hnd (did_set_new hilt) (by
    intro j hj
    simp [Array.getD_eq_getD_getElem?,Ne.symm hj]) hin
   omega
  have hplo:=hpl o hom
  simp only [plainOper,Bool.and_eq_true,Option.isNone_iff_eq_none]at hplo
  obtain⟨hguard,hop⟩:=hplo
  have hnodef:∀q,o.op ≠ .defer q:=by intro q e;rw [e]at hop;cases hop
  have hwant:Region.wanted o (yielded ops c.tmps)=true:=by unfold Region.wanted;rw [hguard]
  have hclosed':∀x j,Did (listed.setIfInBounds i true) x→(bsAt p.bs x).testBit j=true→Did (listed.setIfInBounds i true) j:=by
   intro x j hx hj
   rcases did_set hx with rfl|hx
   ·exact did_set_old (hready j hj)
   ·exact did_set_old (hI.closed x j hx hj)
  have hcA:Agree ops p val a i o c:=by
   intro t ht
   refine⟨fun j q hj hq hd=>hI.cW j q t (hready j hj) hq hd,fun hno => ?_⟩
   refine hI.c0 t fun j q hj hq hd => ?_
   rcases hp.reads i j o q t ho hq hd ht with rfl|hb|hb
   ·exact hnd hj
   ·exact hno j q hb hq hd
   ·exact hnd (hI.closed j i hj hb)
  have hput:∀(val':Nat→Value) (v:Value),(∀j,Did listed j→val' j=val j)→val' i=v →
    (c.put o.dst v).defers=a.defers∧(c.put o.dst v).tmps.size=a.tmps.size ∧
    (∀j q d,Did (listed.setIfInBounds i true) j→ops[j]? = some q→q.dst=some d→(c.put o.dst v).tmps.getD d undef=val' j) ∧
    (∀t,(∀j q,Did (listed.setIfInBounds i true) j→ops[j]? = some q→q.dst≠some t)→(c.put o.dst v).tmps.getD t undef=a.tmps.getD t undef):=by
   intro val' v hold hnew
   refine⟨by rw [put_defers];exact hI.cdefers,by rw [put_size];exact hI.csize,?_,?_⟩
   ·intro j q d hj hq hd
    by_cases hji:j=i
    ·subst hji
     rw [ho]at hq;cases hq
     rw [hd,put_same (by rw [hI.csize];exact hdst o hom d hd),hnew]
    ·rcases did_set hj with e|hj
     ·exact absurd e hji
     ·rw [put_other (fun e=>hji (hp.dsts j i q o d hq ho hd e)),hold j hj]
      exact hI.cW j q d hj hq hd
   ·intro t ht
    rw [put_other (ht i o (did_set_new hilt) ho)]
    exact hI.c0 t (fun j q hj hq=>ht j q (did_set_old hj) hq)
  by_cases hid:i∈done
  ·
   obtain⟨hnb,hq⟩:=hI.core.quiet i hid hnd o ho
   have hrun:=hq c hcA w (.inl (Below.refl _ _))
   obtain⟨e1,e2,e3,e4⟩:=hput val (val i) (fun _ _=>rfl) rfl
   have hnext:EInv K ks P ro ops p bars (fun a' w'=>Q .normal a' w') a ord done rest val g (listed.setIfInBounds i true) (c.put o.dst (val i)) w:=
    ⟨⟨hI.core.ord,hI.core.size,hI.core.defers,hI.core.gW,hI.core.g0,fun j hj hnj=>hI.core.quiet j hj (fun h=>hnj (did_set_old h)),hI.core.cont⟩,hI.kw,hI.head,by simp [hI.lsize],hclosed',
     fun j hj=>(did_set hj).elim (fun e=>e ▸ hid) (fun hj=>hI.sub j hj),e1,e2,e3,e4⟩
   have hrest:=ih _ _ _ _ _ _ _ hnext hcnt'
   simp only [wpOpIn,ho]
   rw [if_pos hwant]
   refine⟨fun f _=>Fz_fn ro f,?_⟩
   rw [Oper.semAt_eq _ _ _ hnodef,hrun]
   exact hrest
  ·
   have hio:i∈ord:=hall i hin
   rw [←hI.core.ord]at hio
   have hir:i∈rest:=by
    rcases List.mem_append.1 hio with h|h
    ·exact absurd h hid
    ·exact h
   obtain⟨e,r,hre⟩:∃e r,rest=e :: r:=by
    cases hrest:rest with
    | nil=>rw [hrest]at hir;cases hir
    | cons e r=>exact⟨e,r,rfl⟩
   have heb:=hI.head e r hre
   subst hre
   have hs:=hI.core.ord ▸ hord
   obtain⟨h1,h2⟩:=ord_split hs
   have hie:i=e:=by
    rcases List.mem_cons.1 hir with h|h
    ·exact h
    ·exfalso
     have hm:=(h1 i h).2.2 heb
     exact(h2 e (hI.sub e (hready e hm))).2.1 rfl
   subst hie
   obtain⟨o',ho',hh⟩:=hI.core.cont
   rw [ho]at ho'
   have ho':=Option.some.inj ho'
   subst ho'
   have hgA:=core_agree hp hord hall hI.core ho
   have hexec:=execOp_congr o (hnosel o hom) (hcA.eval hgA)
   have hcontb:bars.contains i=true:=by simpa using heb
   have after:∀(v:Value) (w':World),((lastK p.bs ks ops.size i=true∧K w')∨Below w.heap.size w w')→OWK K ks P ro ops p.bs bars (fun a' w'=>Q .normal a' w') r (g.put o.dst v) w'→wpAnyIn (Fz ro) 0 P .any ops Q fuel (listed.setIfInBounds i true) (c.put o.dst v) w':=by
    intro v w' hB hcont
    have hC':Core K ks P ro ops p bars (fun a' w'=>Q .normal a' w') a ord (done ++ [i]) r (upd val i v) (g.put o.dst v) (listed.setIfInBounds i true) w':=by
     refine core_put hp hord hdst hI.core ho v hcont (fun j hj hnj q hq => ?_) (fun h=>absurd (did_set_new hilt) h)
     obtain⟨h3,h4⟩:=hI.core.quiet j hj (fun h=>hnj (did_set_old h)) q hq
     rcases hB with⟨hr,hKw⟩|hB
     ·
      have hjl:j<ops.size:=(Array.getElem?_eq_some_iff.1 hq).1
      unfold lastK at hr
      rw [List.all_eq_true]at hr
      have:=hr j (List.mem_range.2 hjl)
      rw [Bool.or_eq_true,Bool.or_eq_true,Bool.or_eq_true]at this
      rcases this with h|(h|h)|h
      ·exact absurd (Nat.eq_of_beq_eq_true h) (fun e=>hid (e ▸ hj))
      ·exact absurd (did_set_old (hready j h)) hnj
      ·rw [(h2 j hj).1]at h;cases h
      ·exact⟨h3,fun c' hA w2 hb2=>h4 c' hA w2 (.inr ⟨h,hb2.elim (fun q=>hKB _ _ hKw q) (fun q=>q.2)⟩)⟩
     ·exact⟨h3,fun c' hA w2 hb2=>h4 c' hA w2 (hb2.imp (fun q=>hB.trans (q.mono hB.size)) id)⟩
    obtain⟨done',rest',val',g',k1,k2,k3,k4⟩:=core_advance hp hord hall hnosel hdst r _ _ _ hC'
    obtain⟨e1,e2,e3,e4⟩:=hput val' v (fun j hj=>by
      rw [(k3 j (by simp [hI.sub j hj])).2,upd_ne _ _ _ (fun e:j=i=>hnd (e ▸ hj))]) (by rw [(k3 i (by simp)).2,upd_same])
    refine ih done' rest' val' g' _ _ _ ⟨k1,hB.elim (fun q=>q.2) (fun q=>hKB _ _ hI.kw q),k2,by simp [hI.lsize],hclosed',fun j hj => ?_,e1,e2,e3,e4⟩ hcnt'
    rcases did_set hj with rfl|hj
    ·exact(k3 j (by simp)).1
    ·exact(k3 j (by simp [hI.sub j hj])).1
   simp only [wpOpIn,ho]
   rw [if_pos hwant]
   refine⟨fun f _=>Fz_fn ro f,?_⟩
   rw [Oper.semAt_eq _ _ _ hnodef,hexec]
   rcases hh with⟨_,hh⟩|⟨hb,_⟩
   ·rcases hh with⟨f,args,hrun,hcalls⟩|⟨w',v,hrun,hB,hcont⟩
    ·rw [hrun]
     refine⟨fun h=>absurd (Fz_depth ro h) (by omega),?_⟩
     refine CallsIn.mono hcalls ?_
     rintro e w' ⟨v,rfl,hB,hcont⟩
     exact after v w' hB hcont
    ·rcases hrun with hrun|⟨hrun,rfl⟩
     ·rw [hrun];exact after v w' hB hcont
     ·rw [hrun];exact after undef w' hB hcont
   ·rw [hcontb]at hb;cases hb
def ordCheck(l:List Oper)(bars ord:List Nat)(nt:Nat):Bool:=
 match planOf l.toArray with
 | none=>false
 | some p=>ordOk p.bs bars ord && (List.range l.length).all (fun i=>ord.contains i) && ord.all (fun i=>Nat.blt i l.length) && l.all plainOper && l.all (fun o=>match o.dst with|some d=>Nat.blt d nt|none=>true)
theorem wpIn_region_owk{K:World→Prop}(ks:List Nat)(hKB:∀w w',K w→Below w.heap.size w w'→K w'){id:Nat}{l:List Oper}(bars ord:List Nat)(bs:List Nat){a:CAct}{w:World}{ro:Option Nat}{Q:Exit→CAct→World→Prop}(hm:P.follows .mixedOrders=true)
  (nt:Nat) (hnt:a.tmps.size=nt) (hc:ordCheck l bars ord nt=true) (hbs:masks l []=bs) (hK:K w.drew) (h:OWK K ks P ro l.toArray bs bars (fun a' w'=>Q .normal a' w') ord a w.drew):(Code.region id l.toArray true).wpIn (Fz ro) 0 P Q a w:=by
 subst hnt
 unfold ordCheck at hc
 split at hc
 ·cases hc
 ·rename_i p hplan
  have hp:=plan_ok hplan
  have hpbs:p.bs=bs:=by
   have h2:=hplan
   unfold planOf at h2
   simp only [Bool.cond_eq_ite]at h2
   split at h2
   ·injection h2 with h2;rw [←h2];exact hbs
   ·cases h2
  subst hpbs
  simp only [Bool.and_eq_true,List.all_eq_true]at hc
  obtain⟨⟨⟨⟨h1,h2⟩,h3⟩,h4⟩,h5⟩:=hc
  have hall:∀i,i<l.toArray.size→i∈ord:=fun i hi=>by simpa using h2 i (List.mem_range.2 (by simpa using hi))
  have hlt:∀i∈ord,i<l.toArray.size:=fun i hi=>by simpa using (blt_iff _ _).1 (h3 i hi)
  have hpl:∀o∈l.toArray.toList,plainOper o=true:=by simpa using h4
  have hdst:∀o∈l.toArray.toList,∀d,o.dst=some d→d<a.tmps.size:=fun o ho d hd=>by
   have:=h5 o (by simpa using ho)
   rw [hd]at this
   exact(blt_iff _ _).1 this
  have hno:∀i,¬Did (Array.replicate l.toArray.size false) i:=by
   intro i hi
   unfold Did at hi
   rw [Array.getD_eq_getD_getElem?,Array.getElem?_replicate]at hi
   split at hi <;> simp at hi
  have hnosel:∀o∈l.toArray.toList,∀cs b,o.op ≠ .select cs b:=by
   intro o ho cs b e
   have:=hpl o ho
   simp only [plainOper,Bool.and_eq_true]at this
   rw [e]at this
   cases this.2
  have hC:Core K ks P ro l.toArray p bars (fun a' w'=>Q .normal a' w') a ord [] ord (fun _=>undef) a (Array.replicate l.toArray.size false) w.drew:=
   ⟨rfl,rfl,rfl,fun j hj=>(by cases hj),fun _ _=>rfl,fun j hj=>(by cases hj),h⟩
  obtain⟨done',rest',val',g',k1,k2,k3,k4⟩:=core_advance hp h1 hall hnosel hdst ord [] _ _ hC
  refine wpIn_region_any hm (ow_any hKB hp h1 hall hlt hpl hdst _ done' rest' val' g' _ _ _ ⟨k1,hK,k2,by simp,fun i j hi=>absurd hi (hno i),fun j hj=>absurd hj (hno j),rfl,rfl,fun j o d hj=>absurd hj (hno j),fun _ _=>rfl⟩ ?_)
  have:∀(f:Nat→Bool) n,cntF f n≤n:=by
   intro f n
   induction n with
   | zero=>exact Nat.le_refl _
   | succ n ih=>simp only [cntF];split <;> omega
  exact this _ _
theorem wpIn_region_ow{id:Nat}{l:List Oper}(bars ord:List Nat)(bs:List Nat){a:CAct}{w:World}{ro:Option Nat}{Q:Exit→CAct→World→Prop}(hm:P.follows .mixedOrders=true)
  (nt:Nat) (hnt:a.tmps.size=nt) (hc:ordCheck l bars ord nt=true) (hbs:masks l []=bs) (h:OW P ro l.toArray bs bars (fun a' w'=>Q .normal a' w') ord a w.drew):(Code.region id l.toArray true).wpIn (Fz ro) 0 P Q a w:=
 wpIn_region_owk (K:=fun _=>True) [] (fun _ _ _ _=>trivial) bars ord bs hm nt hnt hc hbs trivial h
end
end Go.Eng
