/-
  A fraction of the program; what 'bottom' and 'lowest' answer.
  Conditions: the limbs are known; the denominator is not 0.
-/
import Derived.Test.YtepakfjilnpodaaGreatDoorRDAI
import Derived.Deep.MidRow
namespace Go.Num
open Go.RowKit Go.Proofs Go.Proofs.YtepakfjilnpodaaGreatDoor
def RatAt(w:World)(v:Value)(q:Rat):Prop:=∃vn vd,v = .agg #[.bool (decide (q.num<0)),vn,vd]∧MagAt w vn q.num.natAbs∧MagAt w vd (if q.den=1 then 0 else q.den)
theorem RatAt.below{w w':World}{v:Value}{q:Rat}(h:RatAt w v q)(hb:Below w.heap.size w w'):RatAt w' v q:=by
 obtain⟨vn,vd,h1,h2,h3⟩:=h
 exact⟨vn,vd,h1,h2.below hb,h3.below hb⟩
def RatLe(q:Rat)(L:Nat):Prop:=q.num.natAbs<B^L∧q.den<B^L
theorem magAt_one(w:World):MagAt (w.alloc (.cells #[.int .u64 1] 116)) (.slice (some ⟨w.heap.size,0,none⟩) 1 1) 1:=magAt_new w 1 (by decide) (by decide)
set_option maxRecDepth 100000 in
set_option maxHeartbeats 8000000 in
theorem bottom_calls(w:World)(v:Value)(q:Rat)(h:RatAt w v q) :
  CallsIn Fence.wide 0 Tryz.prog 132 #[v] w fun e w'=>∃v',e = .returned v'∧MagAt w' v' q.den∧Below w.heap.size w w':=by
 obtain⟨vn,vd,rfl,hn,hd⟩:=h
 have hd0:q.den≠0:=q.den_nz
 by_cases h1:q.den=1
 ·rw [if_pos h1]at hd
  obtain⟨o,k,c,rfl,hk,hk9⟩:=mag_len hd
  have hk0:k=0:=hk.2 rfl
  subst hk0
  clear hk hd hn
  refine callsIn_of_wp Tryz.func132 rfl trivial ?_ rfl
  simp only [Tryz.ntmps132,List.size_toArray,List.length_cons,List.length_nil,Nat.reduceAdd,Nat.reduceSub,Array.replicate_succ,Array.replicate_zero,List.push_toArray,List.append_toArray,List.nil_append,List.cons_append]
  gi_wp2
  all_goals (first|go_returns|go_ret|go_end0)
  rw [h1]
  have h:=magAt_one (w.alloc (.cells #[.bool (decide (q.num<0)),vn,.slice o 0 c] 27))
  rw [show(w.alloc (.cells #[.bool (decide (q.num<0)),vn,.slice o 0 c] 27)).heap.size=w.heap.size+1 by simp]at h
  refine⟨_,rfl,h,?_⟩
  exact((alloc_below w _).alloc (by simp) _)
 ·rw [if_neg h1]at hd
  have HD:=Hid.intro hd
  obtain⟨o,k,c,rfl,hk,hk9⟩:=mag_len hd
  have hk0:¬(k:Int)=0:=by
   intro h
   exact hd0 (hk.1 (by omega))
  clear hk hd hn
  refine callsIn_of_wp Tryz.func132 rfl trivial ?_ rfl
  simp only [Tryz.ntmps132,List.size_toArray,List.length_cons,List.length_nil,Nat.reduceAdd,Nat.reduceSub,Array.replicate_succ,Array.replicate_zero,List.push_toArray,List.append_toArray,List.nil_append,List.cons_append]
  gi_wp2
  all_goals (first|go_returns|go_ret|go_end0)
  exact⟨_,rfl,HD.out.below (alloc_below w _),alloc_below w _⟩
theorem MagAt.setCell'{w:World}{v:Value}{x g i:Nat}(h:MagAt w v x)(hne:x=0∨v.ownBlock≠some g)(u:Value):MagAt (w.setCell ⟨g,i,none⟩ u) v x:=by
 rcases hne with h0|hne
 ·subst h0
  obtain⟨k,hk,hl⟩:=h
  have:k=0:=hk.unique lenIs_zero
  subst this
  rcases hl with h|⟨a,cap,rfl,h2,_⟩
  ·exact⟨0,hk,.inl h⟩
  ·omega
 ·exact h.setCell hne u
theorem MagAt.lt'{w:World}{v:Value}{x:Nat}(h:MagAt w v x){g:Nat}(hg:w.heap.size≤g):x=0∨v.ownBlock≠some g:=by
 rcases Nat.eq_zero_or_pos x with h0|h0
 ·exact .inl h0
 ·exact .inr (h.lt h0 g hg)
theorem Fresh.ne{b g:Nat}{v:Value}(h:Fresh b v)(hg:g<b)(x:Nat):x=0∨v.ownBlock≠some g:=.inr fun e=>by have:=h _ e;omega
theorem isOne_yes(w:World)(v:Value)(n:Nat)(h:MagAt w v n)(h1:n=1) :
  CallsIn Fence.wide 0 Tryz.prog 168 #[v] w fun e w'=>e = .returned (.bool true)∧Below w.heap.size w w':=by
 have:=isOne_calls w v n h
 rw [decide_eq_true h1]at this
 exact this
theorem isOne_no(w:World)(v:Value)(n:Nat)(h:MagAt w v n)(h1:n≠1) :
  CallsIn Fence.wide 0 Tryz.prog 168 #[v] w fun e w'=>e = .returned (.bool false)∧Below w.heap.size w w':=by
 have:=isOne_calls w v n h
 rw [decide_eq_false h1]at this
 exact this
def Own3(w W:World):Prop:=(∃f,ArrAt W w.heap.size 3 f)∧w.heap.size<W.heap.size∧Below w.heap.size w W
theorem Own3.step{w W W':World}(h:Own3 w W)(hb:Below W.heap.size W W'):Own3 w W':=by
 obtain⟨⟨f,h1⟩,h2,h3⟩:=h
 exact⟨⟨f,h1.below h2 hb⟩,Nat.lt_of_lt_of_le h2 hb.size,h3.trans (hb.mono h3.size)⟩
theorem Own3.cells{w W:World}(h:Own3 w W):∃x y z,W.cell? ⟨w.heap.size,0,none⟩=some x∧W.cell? ⟨w.heap.size,1,none⟩=some y∧W.cell? ⟨w.heap.size,2,none⟩=some z∧W.frozen? ⟨w.heap.size,0,none⟩=false∧W.frozen? ⟨w.heap.size,1,none⟩=false∧W.frozen? ⟨w.heap.size,2,none⟩=false:=by
 obtain⟨⟨f,h⟩,_,_⟩:=h
 exact⟨_,_,_,(h 0 (by omega)).1,(h 1 (by omega)).1,(h 2 (by omega)).1,(h 0 (by omega)).2,(h 1 (by omega)).2,(h 2 (by omega)).2⟩
theorem own3_new(w:World)(a b c:Value)(t:TypeId):Own3 w (w.alloc (.cells #[a,b,c] t)):=
 ⟨⟨fun i => [a,b,c].getD i a,ArrAt.new _ _ _ fun i hi=>by
  have:i=0∨i=1∨i=2:=by omega
  rcases this with rfl|rfl|rfl <;> rfl⟩,by simp,(Below.refl _ w).alloc (Nat.le_refl _) _⟩
theorem u25b:(match Tryz.prog.underlying 27 with|some (.struct _)=>true|_=>false)=true:=by kernel_rfl
theorem u25:∃fs,Tryz.prog.underlying 27=some (.struct fs):=by
 have h:=u25b
 split at h
 ·rename_i fs e;exact⟨fs,e⟩
 ·cases h
theorem i25:(Tryz.prog.info? 27).map (·.size)=some 3:=by kernel_rfl
theorem ret_rat{fn:Func}{p:Tmp}{R:Ending→World→Prop}{a:Act}{w:World}{x y z:Value}(h:fn.results=#[.cell p 27])(hd:a.defers = [])(g:Nat)(hp:a.tmps.getD p undef = .pointer (some ⟨g,0,none⟩))
  (h0:w.cell? ⟨g,0,none⟩=some x) (h1:w.cell? ⟨g,1,none⟩=some y) (h2:w.cell? ⟨g,2,none⟩=some z) (hR:R (.returned (.agg #[x,y,z])) w):bodyPost Tryz.prog fn R .ret a w:=by
 refine bodyPost_ret ?_ hd hR
 obtain⟨fs,hu⟩:=u25
 have hl:=run_loadVar_mid (P:=Tryz.prog) w g 0 27 [x,y,z] (.struct fs) (fun j v hj=>by
  match j,hj with
  | 0,hj=>rw [←hj];exact h0
  | 1,hj=>rw [←hj];exact h1
  | 2,hj=>rw [←hj];exact h2
  | n+3,hj=>simp at hj) hu rfl i25
 simp only [results,h]
 have hp':a.tmps[p]?.getD undef = .pointer (some ⟨g,0,none⟩):=by simpa using hp
 simp [hp',asAddr,hl]
theorem ret_rat3{fn:Func}{p:Tmp}{R:Ending→World→Prop}{a:Act}{w:World}{x y z x0 x1 x2:Value}(h:fn.results=#[.cell p 27])(hd:a.defers = [])(g:Nat)(hp:a.tmps.getD p undef = .pointer (some ⟨g,0,none⟩))
  (h0:w.cell? ⟨g,0,none⟩=some x0) (h1:w.cell? ⟨g,1,none⟩=some x1) (h2:w.cell? ⟨g,2,none⟩=some x2) (hR:R (.returned (.agg #[x,y,z])) (((w.setCell ⟨g,0,none⟩ x).setCell ⟨g,1,none⟩ y).setCell ⟨g,2,none⟩ z)) :
  bodyPost Tryz.prog fn R .ret a (((w.setCell ⟨g,0,none⟩ x).setCell ⟨g,1,none⟩ y).setCell ⟨g,2,none⟩ z):=by
 have n01:(⟨g,0,none⟩:Addr)≠⟨g,1,none⟩:=by intro e;injection e with _ e;omega
 have n02:(⟨g,0,none⟩:Addr)≠⟨g,2,none⟩:=by intro e;injection e with _ e;omega
 have n12:(⟨g,1,none⟩:Addr)≠⟨g,2,none⟩:=by intro e;injection e with _ e;omega
 refine ret_rat h hd g hp ?_ ?_ ?_ hR
 ·rw [World.cell?_setCell_other _ _ _ _ n02.symm,World.cell?_setCell_other _ _ _ _ n01.symm,World.cell?_setCell_same _ _ _ h0]
 ·rw [World.cell?_setCell_other _ _ _ _ n12.symm,World.cell?_setCell_same _ _ _ (by rw [World.cell?_setCell_other _ _ _ _ n01];exact h1)]
 ·rw [World.cell?_setCell_same _ _ _ (by rw [World.cell?_setCell_other _ _ _ _ n12,World.cell?_setCell_other _ _ _ _ n02];exact h2)]
theorem low_sign{q:Rat}{neg:Bool}{n n' d' g:Nat}(h:q.num.natAbs=n'∧q.den=d'∧(q.num<0↔neg=true∧0<n))(hq:n/g=n'):decide (q.num<0)=(neg && decide (0<n')):=by
 cases neg with
 | false=>simp at h ⊢;exact h.2.2
 | true=>
  by_cases h0:0<n'
  ·have:q.num<0:=h.2.2.2 ⟨rfl,by
    rcases Nat.eq_zero_or_pos n with e|e
    ·subst e;rw [Nat.zero_div]at hq;omega
    ·exact e⟩
   simp [this,h0]
  ·have:¬q.num<0:=by have:=h.1;omega
   simp [this,h0]
set_option maxRecDepth 100000 in
set_option maxHeartbeats 8000000 in
theorem lowest_calls(w:World)(neg:Bool)(vn vd:Value)(n d L:Nat)(hn:MagAt w vn n)(hd:MagAt w vd d)(hd0:d≠0)(hnL:n<B^L)(hdL:d<B^L)(hL:L≤10000000) :
  CallsIn Fence.wide 0 Tryz.prog 130 #[.bool neg,vn,vd] w fun e w'=>∃v',e = .returned v'∧RatAt w' v' (frac neg n d)∧Below w.heap.size w w':=by
 have HN:=Hid.intro hn
 have HD:=Hid.intro hd
 have HNL:=Hid.intro hnL
 have HDL:=Hid.intro hdL
 have HFP:=Hid.intro (frac_parts (neg:=neg) (n:=n) hd0)
 obtain⟨g,hg⟩:∃g,Nat.gcd d n=g:=⟨_,rfl⟩
 have hg0:0<g:=by rw [←hg];exact Nat.gcd_pos_of_pos_left _ (Nat.pos_of_ne_zero hd0)
 have hgL:g<B^L:=Nat.lt_of_le_of_lt (by rw [←hg];exact Nat.gcd_le_left _ (Nat.pos_of_ne_zero hd0)) hdL
 have HGL:=Hid.intro hgL
 have HG:=Hid.intro hg
 rw [hg]at HFP
 clear hn hd hnL hdL hgL hg
 refine callsIn_of_wp Tryz.func130 rfl trivial ?_ rfl
 simp only [Tryz.ntmps130,List.size_toArray,List.length_cons,List.length_nil,Nat.reduceAdd,Nat.reduceSub,Array.replicate_succ,Array.replicate_zero,List.push_toArray,List.append_toArray,List.nil_append,List.cons_append]
 gi_wp2_with (gi_at_call 167;refine stop ?_)
 unfold Stop
 obtain⟨W,hW⟩:∃W,W=w.alloc (.cells #[.bool false,.slice none 0 0,.slice none 0 0] 27):=⟨_,rfl⟩
 rw [←hW]
 have HK:Hid (Own3 w W):=by rw [hW];exact own3_new _ _ _ _ _
 clear hW
 refine(gcd_calls W vd vn d n L (HD.out.below HK.out.2.2) (HN.out.below HK.out.2.2) HDL.out HNL.out hL).mono ?_
 rintro e w2 ⟨v7,rfl,hm,hB2⟩
 rw [HG.out]at hm
 have HK2:=Hid.intro (HK.out.step hB2)
 have HM7:=Hid.intro hm
 have HN2:=Hid.intro (HN.out.below HK2.out.2.2)
 have HD2:=Hid.intro (HD.out.below HK2.out.2.2)
 have HNF2:Hid (n=0∨vn.ownBlock≠some w.heap.size):=HN.out.lt' (Nat.le_refl _)
 have HDF2:Hid (d=0∨vd.ownBlock≠some w.heap.size):=HD.out.lt' (Nat.le_refl _)
 clear hm hB2 HN HD HK
 by_cases hg1:g=1
 case' pos=>
  have HI:=Hid.intro (isOne_yes w2 v7 g HM7.out hg1)
  gi_wp2_with (gi_at_call 168;refine stop ?_)
  unfold Stop
  refine HI.out.mono ?_
  rintro e w4 ⟨rfl,hB3⟩
  have HK3:=Hid.intro (HK2.out.step hB3)
  have HN3:=Hid.intro (HN2.out.below hB3)
  have HD3:=Hid.intro (HD2.out.below hB3)
  clear hB3
  gi_wp2_with (gi_at_call 168;refine stop ?_)
  unfold Stop
  obtain⟨n',hn'⟩:∃n',n=n':=⟨_,rfl⟩
  obtain⟨d',hd'⟩:∃d',d=d':=⟨_,rfl⟩
  obtain⟨vn',hvn'⟩:∃vn',vn=vn':=⟨_,rfl⟩
  obtain⟨vd',hvd'⟩:∃vd',vd=vd':=⟨_,rfl⟩
  have hqn:n/g=n':=by rw [hg1,Nat.div_one,hn']
  have hqd:d/g=d':=by rw [hg1,Nat.div_one,hd']
  rw [hn',hvn']at HN3 HNF2
  rw [hd',hvd']at HD3 HDF2
  rw [hvn',hvd']
  clear hn' hd' hvn' hvd' HI HM7 HN2 HD2 HK2
 case' neg=>
  have HI:=Hid.intro (isOne_no w2 v7 g HM7.out hg1)
  gi_wp2_with (gi_at_call 168;refine stop ?_)
  unfold Stop
  refine HI.out.mono ?_
  rintro e w4 ⟨rfl,hB3⟩
  have HK3:=Hid.intro (HK2.out.step hB3)
  have HN3:=Hid.intro (HN2.out.below hB3)
  have HD3:=Hid.intro (HD2.out.below hB3)
  have HM3:=Hid.intro (HM7.out.below hB3)
  clear hB3
  gi_wp2_with (gi_at_call 181;refine stop ?_)
  unfold Stop
  refine(div_calls w4 vn v7 n g L HN3.out HM3.out hg0 HNL.out HGL.out hL).mono ?_
  rintro e w5 ⟨vn',v16,rfl,⟨hm5,hf5⟩,_,hB5⟩
  have HK5:=Hid.intro (HK3.out.step hB5)
  have HN5:=Hid.intro hm5
  have HD5:=Hid.intro (HD3.out.below hB5)
  have HM5:=Hid.intro (HM3.out.below hB5)
  have HNF5:Hid (n/g=0∨vn'.ownBlock≠some w.heap.size):=hf5.ne HK3.out.2.1 _
  clear hm5 hf5 hB5 HK3 HN3 HD3 HM3 HK2 HN2 HD2 HNF2 HDF2 HM7 HI
  gi_wp2_with (gi_at_call 181;refine stop ?_)
  unfold Stop
  refine(div_calls w5 vd v7 d g L HD5.out HM5.out hg0 HDL.out HGL.out hL).mono ?_
  rintro e w6 ⟨vd',v17,rfl,⟨hm5,hf5⟩,_,hB5⟩
  have HK3:=Hid.intro (HK5.out.step hB5)
  have HN3:=Hid.intro (HN5.out.below hB5)
  have HD3:=Hid.intro hm5
  have HNF2:=HNF5
  have HDF2:Hid (d/g=0∨vd'.ownBlock≠some w.heap.size):=hf5.ne HK5.out.2.1 _
  clear hm5 hf5 hB5 HK5 HN5 HD5 HM5 HNF5
  gi_wp2_with (gi_at_call 168;refine stop ?_)
  unfold Stop
  obtain⟨n',hqn⟩:∃n',n/g=n':=⟨_,rfl⟩
  obtain⟨d',hqd⟩:∃d',d/g=d':=⟨_,rfl⟩
  rw [hqn]at HN3 HNF2
  rw [hqd]at HD3 HDF2
 all_goals
  rw [hqn,hqd]at HFP
  by_cases hd1:d'=1
  case' pos=>
   refine(isOne_yes _ vd' d' HD3.out hd1).mono ?_
   rintro e w8 ⟨rfl,hB8⟩
   have HK8:=Hid.intro (HK3.out.step hB8)
   have HN8:=Hid.intro (HN3.out.below hB8)
   have HD8:=Hid.intro (HD3.out.below hB8)
   clear hB8 HK3 HN3 HD3
   obtain⟨x0,x1,x2,z0,z1,z2,y0,y1,y2⟩:=HK8.out.cells
   obtain⟨o,k,c,rfl,hk,hk9⟩:=mag_len HN8.out
   have HKn:=Hid.intro hk
   clear hk
   cases neg with
   | false=>
    have HS:Hid (decide ((frac false n d).num<0)=false):=Hid.intro (by have:=low_sign HFP.out hqn;simpa using this)
    clear HKn
    gi_wp2
    refine ret_rat3 rfl rfl w.heap.size rfl z0 z1 z2 ?_
    have hB:=HK8.out.2.2
    refine⟨_,rfl,⟨.slice o k c,.slice none 0 0,?_,?_,?_⟩,((hB.setCell (Nat.le_refl _) _).setCell (Nat.le_refl _) _).setCell (Nat.le_refl _) _⟩
    ·first|(rw [HS.out];done)|(rw [HS.out];simp;done)|(rw [HS.out];simp;omega)
    ·rw [HFP.out.1];exact((HN8.out.setCell' HNF2.out _).setCell' HNF2.out _).setCell' HNF2.out _
    ·rw [HFP.out.2.1];rw [hd1,if_pos rfl];exact magAt_nil _ _ _
   | true=>
    by_cases hn0:0<n'
    ·have hk0:(0:Int)<(k:Int):=by
      rcases Nat.eq_zero_or_pos k with h|h
      ·have:=HKn.out.1 h;omega
      ·omega
     have hk1:decide ((0:Int)<(k:Int))=true:=decide_eq_true hk0
     have HS:Hid (decide ((frac true n d).num<0)=true):=Hid.intro (by have:=low_sign HFP.out hqn;simpa [hn0]using this)
     clear HKn
     gi_wp2
     refine ret_rat3 rfl rfl w.heap.size rfl z0 z1 z2 ?_
     have hB:=HK8.out.2.2
     refine⟨_,rfl,⟨.slice o k c,.slice none 0 0,?_,?_,?_⟩,((hB.setCell (Nat.le_refl _) _).setCell (Nat.le_refl _) _).setCell (Nat.le_refl _) _⟩
     ·first|(rw [HS.out];done)|(rw [HS.out];simp;done)|(rw [HS.out];simp;omega)
     ·rw [HFP.out.1];exact((HN8.out.setCell' HNF2.out _).setCell' HNF2.out _).setCell' HNF2.out _
     ·rw [HFP.out.2.1];rw [hd1,if_pos rfl];exact magAt_nil _ _ _
    ·have hk0:¬(0:Int)<(k:Int):=by have:=HKn.out.2 (by omega);omega
     have hk1:decide ((0:Int)<(k:Int))=false:=decide_eq_false hk0
     have HS:Hid (decide ((frac true n d).num<0)=false):=Hid.intro (by have:=low_sign HFP.out hqn;simpa [hn0]using this)
     clear HKn
     gi_wp2
     refine ret_rat3 rfl rfl w.heap.size rfl z0 z1 z2 ?_
     have hB:=HK8.out.2.2
     refine⟨_,rfl,⟨.slice o k c,.slice none 0 0,?_,?_,?_⟩,((hB.setCell (Nat.le_refl _) _).setCell (Nat.le_refl _) _).setCell (Nat.le_refl _) _⟩
     ·first|(rw [HS.out];done)|(rw [HS.out];simp;done)|(rw [HS.out];simp;omega)
     ·rw [HFP.out.1];exact((HN8.out.setCell' HNF2.out _).setCell' HNF2.out _).setCell' HNF2.out _
     ·rw [HFP.out.2.1];rw [hd1,if_pos rfl];exact magAt_nil _ _ _
  case' neg=>
   refine(isOne_no _ vd' d' HD3.out hd1).mono ?_
   rintro e w8 ⟨rfl,hB8⟩
   have HK8:=Hid.intro (HK3.out.step hB8)
   have HN8:=Hid.intro (HN3.out.below hB8)
   have HD8:=Hid.intro (HD3.out.below hB8)
   clear hB8 HK3 HN3 HD3
   obtain⟨x0,x1,x2,z0,z1,z2,y0,y1,y2⟩:=HK8.out.cells
   obtain⟨o,k,c,rfl,hk,hk9⟩:=mag_len HN8.out
   obtain⟨o2,k2,c2,rfl,_,_⟩:=mag_len HD8.out
   have HKn:=Hid.intro hk
   clear hk
   cases neg with
   | false=>
    have HS:Hid (decide ((frac false n d).num<0)=false):=Hid.intro (by have:=low_sign HFP.out hqn;simpa using this)
    clear HKn
    gi_wp2
    refine ret_rat3 rfl rfl w.heap.size rfl z0 z1 z2 ?_
    have hB:=HK8.out.2.2
    refine⟨_,rfl,⟨.slice o k c,.slice o2 k2 c2,?_,?_,?_⟩,((hB.setCell (Nat.le_refl _) _).setCell (Nat.le_refl _) _).setCell (Nat.le_refl _) _⟩
    ·first|(rw [HS.out];done)|(rw [HS.out];simp;done)|(rw [HS.out];simp;omega)
    ·rw [HFP.out.1];exact((HN8.out.setCell' HNF2.out _).setCell' HNF2.out _).setCell' HNF2.out _
    ·rw [HFP.out.2.1];rw [if_neg hd1];exact((HD8.out.setCell' HDF2.out _).setCell' HDF2.out _).setCell' HDF2.out _
   | true=>
    by_cases hn0:0<n'
    ·have hk0:(0:Int)<(k:Int):=by
      rcases Nat.eq_zero_or_pos k with h|h
      ·have:=HKn.out.1 h;omega
      ·omega
     have hk1:decide ((0:Int)<(k:Int))=true:=decide_eq_true hk0
     have HS:Hid (decide ((frac true n d).num<0)=true):=Hid.intro (by have:=low_sign HFP.out hqn;simpa [hn0]using this)
     clear HKn
     gi_wp2
     refine ret_rat3 rfl rfl w.heap.size rfl z0 z1 z2 ?_
     have hB:=HK8.out.2.2
     refine⟨_,rfl,⟨.slice o k c,.slice o2 k2 c2,?_,?_,?_⟩,((hB.setCell (Nat.le_refl _) _).setCell (Nat.le_refl _) _).setCell (Nat.le_refl _) _⟩
     ·first|(rw [HS.out];done)|(rw [HS.out];simp;done)|(rw [HS.out];simp;omega)
     ·rw [HFP.out.1];exact((HN8.out.setCell' HNF2.out _).setCell' HNF2.out _).setCell' HNF2.out _
     ·rw [HFP.out.2.1];rw [if_neg hd1];exact((HD8.out.setCell' HDF2.out _).setCell' HDF2.out _).setCell' HDF2.out _
    ·have hk0:¬(0:Int)<(k:Int):=by have:=HKn.out.2 (by omega);omega
     have hk1:decide ((0:Int)<(k:Int))=false:=decide_eq_false hk0
     have HS:Hid (decide ((frac true n d).num<0)=false):=Hid.intro (by have:=low_sign HFP.out hqn;simpa [hn0]using this)
     clear HKn
     gi_wp2
     refine ret_rat3 rfl rfl w.heap.size rfl z0 z1 z2 ?_
     have hB:=HK8.out.2.2
     refine⟨_,rfl,⟨.slice o k c,.slice o2 k2 c2,?_,?_,?_⟩,((hB.setCell (Nat.le_refl _) _).setCell (Nat.le_refl _) _).setCell (Nat.le_refl _) _⟩
     ·first|(rw [HS.out];done)|(rw [HS.out];simp;done)|(rw [HS.out];simp;omega)
     ·rw [HFP.out.1];exact((HN8.out.setCell' HNF2.out _).setCell' HNF2.out _).setCell' HNF2.out _
     ·rw [HFP.out.2.1];rw [if_neg hd1];exact((HD8.out.setCell' HDF2.out _).setCell' HDF2.out _).setCell' HDF2.out _
end Go.Num
