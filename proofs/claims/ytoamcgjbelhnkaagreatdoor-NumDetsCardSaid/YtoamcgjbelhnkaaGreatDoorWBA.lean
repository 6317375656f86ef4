/-
  The reference's 'Det' and 'Rank'. The reference's 'Kernel'. The reference's 'Reduce': the walk. The reference's run: its sizes, its pivots' 
  Conditions: see each statement.
-/
import Derived.Test.YtoamcgjbelhnkaaGreatDoorWAA
import Derived.Test.YtoamcgjbelhnkaaGreatDoorWAZ
import Derived.Test.YtoamcgjbelhnkaaGreatDoorWAX
set_option maxRecDepth 100000
set_option maxHeartbeats 16000000
namespace Go.Num
open Go.Eng Go.Shelf Go.RowKit Go.Sort Go.Proofs Go.Proofs.YtoamcgjbelhnkaaGreatDoor
attribute [local go_sem] Oper.semAt_some
def zbp(m:Nat)(A0:Nat→Nat→Int):Nat→List Nat
 | 0 => []
 | c+1=>if rRow m c (rRun m A0 c)=m then zbp m A0 c else zbp m A0 c ++ [c]
theorem zld(m:Nat)(A0:Nat→Nat→Int):∀c,(rRun m A0 c).k≤m∧(rRun m A0 c).k≤c
 | 0=>⟨Nat.zero_le _,Nat.zero_le _⟩
 | c+1=>by
  have ih:=zld m A0 c;show(zez m c (rRun m A0 c)).k≤m∧(zez m c (rRun m A0 c)).k≤c+1
  unfold zez;split
  ·omega
  ·rename_i h;have:=(zlM (nzA (rRun m A0 c).A c) (m-(rRun m A0 c).k) (rRun m A0 c).k);unfold rRow at h;refine⟨?_,Nat.succ_le_succ ih.2⟩;show(rRun m A0 c).k+1≤m
   omega
theorem zgr(m:Nat)(A0:Nat→Nat→Int):∀c,(rRun m A0 c).turns≤(rRun m A0 c).k
 | 0=>Nat.le_refl _
 | c+1=>by
  have ih:=zgr m A0 c;show(zez m c (rRun m A0 c)).turns≤(zez m c (rRun m A0 c)).k
  unfold zez;split
  ·exact ih
  ·show(rRun m A0 c).turns+_≤(rRun m A0 c).k+1
   split <;> omega
theorem zch(m:Nat)(A0:Nat→Nat→Int):∀c,(zbp m A0 c).length=(rRun m A0 c).k
 | 0=>rfl
 | c+1=>by
  have ih:=zch m A0 c;show(if rRow m c (rRun m A0 c)=m then zbp m A0 c else zbp m A0 c ++ [c]).length=(zez m c (rRun m A0 c)).k
  unfold zez;split
  ·exact ih
  ·rw [List.length_append,ih];rfl
theorem zq7(x y:Int):sgn (decide (x<0) != decide (y<0)) (x.natAbs/y.natAbs)=x.tdiv y:=by
 unfold sgn;rcases Int.lt_or_le x 0 with hx|hx <;> rcases Int.lt_or_le y 0 with hy|hy
 ·rw [decide_eq_true hx,decide_eq_true hy];obtain⟨a,rfl⟩:∃a:Nat,x = -(a:Int):=⟨x.natAbs,by omega⟩;obtain⟨b,rfl⟩:∃b:Nat,y = -(b:Int):=⟨y.natAbs,by omega⟩;simp [Int.neg_tdiv,Int.tdiv_neg]
 ·rw [decide_eq_true hx,decide_eq_false (by omega)];obtain⟨a,rfl⟩:∃a:Nat,x = -(a:Int):=⟨x.natAbs,by omega⟩;obtain⟨b,rfl⟩:∃b:Nat,y=(b:Int):=⟨y.natAbs,by omega⟩;simp [Int.neg_tdiv]
 ·rw [decide_eq_false (by omega),decide_eq_true hy];obtain⟨a,rfl⟩:∃a:Nat,x=(a:Int):=⟨x.natAbs,by omega⟩;obtain⟨b,rfl⟩:∃b:Nat,y = -(b:Int):=⟨y.natAbs,by omega⟩;simp [Int.tdiv_neg]
 ·rw [decide_eq_false (by omega),decide_eq_false (by omega)];obtain⟨a,rfl⟩:∃a:Nat,x=(a:Int):=⟨x.natAbs,by omega⟩;obtain⟨b,rfl⟩:∃b:Nat,y=(b:Int):=⟨y.natAbs,by omega⟩;simp
theorem zfO{β:Type}{m N:Nat}{A:Nat→Nat→β}{i:Nat}(h:i<m):(tab m N A).take (i+1)=(tab m N A).take i ++ [(List.range N).map (A i)]:=by rw [List.take_add_one,zbD h];rfl
theorem zpO{m cc q:Nat}{t:RS}(h1:t.k≤q)(h2:q≤m)(h3:∀j,t.k≤j→j<q→nzA t.A cc j=false)(h4:q=m∨nzA t.A cc q=true):rRow m cc t=q:=
 znU h1 (by omega) h3 (h4.imp (fun e=>by omega) id)
theorem OwnR.imp{β:Type}{w:World}{base ty sz:Nat}{I J:β→List Value→World→Prop}{v:Value}{bs:List β}(h:OwnR w base ty sz I v bs)(hI:∀b r,I b r w→J b r w):OwnR w base ty sz J v bs:=by
 obtain⟨xs,h1,h2,h3,h4⟩:=h;exact⟨xs,h1,h2,h3,fun i row b hr hb=>hI _ _ (h4 i row b hr hb)⟩
theorem zan.imp{β:Type}{w:World}{base tyO tyI sz:Nat}{I J:β→List Value→World→Prop}{v:Value}{rvs:List Value}{rows:List (List β)}(h:zan w base tyO tyI sz I v rvs rows)(hI:∀b r,I b r w→J b r w):zan w base tyO tyI sz J v rvs rows:=
 ⟨h.top,h.len,fun i u l q1 q2=>(h.row i u l q1 q2).imp hI,h.ne,h.inj⟩
theorem zle{m:Nat}{A0:Nat→Nat→Int}{c:Nat}(h:(rRun m A0 c).k=m):∀d,rRun m A0 (c+d)=rRun m A0 c∧zbp m A0 (c+d)=zbp m A0 c
 | 0=>⟨rfl,rfl⟩
 | d+1=>by
  obtain⟨h1,h2⟩:=zle h d;have hr:rRow m (c+d) (rRun m A0 (c+d))=m:=by
   unfold rRow;rw [h1,h,Nat.sub_self];rfl
  refine⟨?_,?_⟩
  ·show zez m (c+d) (rRun m A0 (c+d))=_
   unfold zez;rw [if_pos hr,h1]
  ·show(if rRow m (c+d) (rRun m A0 (c+d))=m then zbp m A0 (c+d)else _)=_
   rw [if_pos hr,h2]
theorem zey(w:World)(v:Value)(A0:Nat→Nat→Int)(m N columns L:Nat)(h:MatZ w v (tab m N A0))(h0:0<m)(hN:0<N)(h9:m≤20∧N≤40)(hcN:columns≤N)(hL:L≤20000)
  (hsz:∀c,c≤columns→(rRun m A0 c).last≠0∧(rRun m A0 c).last.natAbs<B^L∧∀i j,i<m→j<N→((rRun m A0 c).A i j).natAbs<B^L) :
  CallsIn Fence.wide 0 Tryz.prog 84 #[v,.int .i64 (columns:Int)] w fun e w'=>∃vr vp s o k c,e = .returned (.agg #[vr,vp,.bool s,.slice o k c,.int .i64 ((rRun m A0 columns).turns:Int)])∧MatZ w' vr (tab m N (rRun m A0 columns).A)∧zag w' 3 1 II vp (zbp m A0 columns)∧ZAt w' (.agg #[.bool s,.slice o k c]) (rRun m A0 columns).last∧Below w.heap.size w w':=by
 obtain⟨a,c,rfl⟩:=zag.some h (by rw [zak];exact h0);rw [zak]at h;have HR:=zHi h;have HSZ:=zHi hsz;rw [zak];clear h hsz;obtain⟨R0,hR0⟩:∃R:Ending→World→Prop,∀e w',R e w'↔∃vr vp s o k c,e = .returned (.agg #[vr,vp,.bool s,.slice o k c,.int .i64 ((rRun m A0 columns).turns:Int)])∧MatZ w' vr (tab m N (rRun m A0 columns).A)∧zag w' 3 1 II vp (zbp m A0 columns)∧ZAt w' (.agg #[.bool s,.slice o k c]) (rRun m A0 columns).last∧Below w.heap.size w w':=⟨_,fun _ _=>Iff.rfl⟩;simp only [←hR0];have HR0:=zHi hR0;clear hR0;refine callsIn_of_wp Tryz.func84 rfl trivial ?_ rfl;simp only [Tryz.ntmps84,ztr,zts,ztt,Nat.reduceAdd,Nat.reduceSub,ztu,ztv,ztw,ztx,zty,ztz];gi_wp2;obtain⟨g4,hg4⟩:∃g,w.heap.size=g:=⟨_,rfl⟩;have HG4:=zHi hg4;rw [hg4];clear hg4;obtain⟨W4,hW4⟩:∃W,w.alloc (.cells #[.slice none 0 0,.slice none 0 0,.bool false,.slice none 0 0,.int .i64 0] 125)=W:=⟨_,rfl⟩;have hs4:W4.heap.size=g4+1:=by rw [←hW4,←HG4.out];simp
 have HB4:Hid (Below w.heap.size w W4):=zHi (by rw [←hW4];exact zaa _ _);have HA4:Hid (∃f,zaf W4 g4 5 f):=zHi ⟨fun i => [.slice none 0 0,.slice none 0 0,.bool false,.slice none 0 0,.int .i64 0].getD i (.bool false),by
  rw [←hW4,←HG4.out];refine zaf.new w #[.slice none 0 0,.slice none 0 0,.bool false,.slice none 0 0,.int .i64 0] 125 (fun i hi => ?_);have:i=0∨i=1∨i=2∨i=3∨i=4:=by omega
  rcases this with rfl|rfl|rfl|rfl|rfl <;> rfl⟩
 have HE4:Hid (Elem W4 g4 125):=zHi (by rw [←hW4,←HG4.out];exact zas _ _ _);have HS4:=zHi hs4;rw [hW4];clear hW4 hs4;gi_loopw [5,6] (fun x5 x6 wr=>∃i:Nat,x6 = .int .i64 (i:Int)∧i≤m∧Hid (∃rvs,zan wr W4.heap.size 128 32 2 IZ x5 rvs ((tab m N A0).take i))∧Hid (Below W4.heap.size W4 wr)) (fun _ x _=>m-(intOf x).toNat)
 case atStart=>exact⟨0,rfl,by omega,zHi ⟨[],OwnR.nil _ _ _ _ _,rfl,fun i u l h=>by simp at h,fun l h=>by simp at h,fun i j u u' h=>by simp at h⟩,Below.refl _ _⟩
 case round=>
  obtain⟨i,rfl,hi,HM,HBr⟩:=hrel;by_cases hin:i<m
  ·have hb0:=HB4.out.trans (HBr.out.mono HB4.out.size);have hR1:=zag.below HR.out hb0 (fun _ _ ⟨u,e,k⟩=>⟨u,e,zag.below k hb0 (IZ.below hb0)⟩);obtain⟨_,row,hrl,hcell,u,rfl,hu⟩:=zag.at' hR1 (zbD hin);have x0:=hcell 0 u rfl;rw [Addr.add_add,Nat.add_zero,Nat.mul_one]at x0;obtain⟨au,cu,rfl⟩:=zag.some hu (by simpa using hN);rw [List.length_map,List.length_range]at x0;have HU:=zHi hu;clear hcell hrl hR1 hu hb0;gi_wp2_with (gi_at_builtin;refine stop ?_)
   unfold Stop;refine zfE (ty:=32) (sz:=2) (bytes:=32) wr rfl _ _ rfl u128 i32' i32z i32s i32b rfl (by decide) (by decide) wr.heap.size (Nat.le_refl _) (.slice none 0 0) [] rfl (OwnR.nil _ _ _ _ _) au cu ((List.range N).map (A0 i)) (by simp;rfl) HU.out (by simpa using hN) (fun b r w h=>IZ.one h) (fun b r w1 w2 ht=>IZ.touch ht rfl b r) (by simp;omega) ?_;intro v5 w5 HO5 HK5 HB5;obtain⟨rvs,hm⟩:=HM.out;have hb5:=HB5.out wr.heap.size wr (Below.refl _ _) (Nat.le_refl _);have hm5:=hm.below hb5 (IZ.below hb5);have hlen:rvs.length=i:=by rw [←hm.len,List.length_take,zak];omega
   have hblk:∀(i:Nat) (u':Value) (b:Nat),rvs[i]? = some u'→u'.ownBlock=some b→b<wr.heap.size:=fun k u' b q1 q2=>by
    have hk:k<((tab m N A0).take i).length:=by rw [hm.len];exact(List.getElem?_eq_some_iff.1 q1).1
    exact(hm.row k u' _ q1 (List.getElem?_eq_getElem hk)).lt q2
   have HBlk:=zHi hblk;have HLen:=zHi hlen;obtain⟨oo,co,hof⟩:=hm.top.form;rw [hlen]at hof;subst hof;have HM5:=zHi hm5;have HB15:=zHi (HBr.out.trans (hb5.mono HBr.out.size));have hwr:=HBr.out.size;obtain⟨o5,c5,hv5⟩:=HO5.out.form;rw [List.nil_append,List.length_map,List.length_range]at hv5;subst hv5;clear hm hm5 hlen hblk hb5 HK5 HB5 x0;gi_wp2_with (gi_at_builtin;refine stop ?_)
   unfold Stop;refine zm9 w5 u121 rfl _ _ rfl W4.heap.size wr.heap.size HB15.out.size (.slice oo i co) rfl HM5.out _ HO5.out hwr (by simpa using hN) HBlk.out _ rfl (by rw [HLen.out];omega) ?_;intro v6 w6 HM6 HB6;have HB7:=zHi (HB6.out W4.heap.size W4 HB15.out (Nat.le_refl _));have HM7:Hid (∃rvs,zan w6 W4.heap.size 128 32 2 IZ v6 rvs ((tab m N A0).take (i+1))):=zHi ⟨_,by rw [zfO hin];exact HM6.out⟩;gi_wp2;exact⟨⟨i+1,by go_num,by omega,HM7,HB7⟩,by simp only [intOf];omega⟩
  ·have hi2:m=i:=by omega
   subst hi2;gi_wp2_with (gi_at_call 22;refine stop ?_)
   unfold Stop;refine(zbb _ 1 (by decide) (by decide)).mono ?_;rintro e w1 ⟨v1,rfl,hz1,hB1⟩;obtain⟨s1,o1,k1,c1,rfl⟩:=hz1.form;obtain⟨g8,hg8⟩:∃g,w1.heap.size=g:=⟨_,rfl⟩;obtain⟨rvs,hm⟩:=HM.out;rw [List.take_of_length_le (by rw [zak];exact Nat.le_refl _)]at hm;obtain⟨g,cv,hu5⟩:∃g c,u5 = .slice (some ⟨g,0,none⟩) m c:=by
    have hl:rvs.length=m:=by rw [←hm.len,zak]
    obtain⟨g',c',e,_⟩:=hm.top.own (by omega);exact⟨g',c',by rw [e,hl]⟩
   subst hu5;have hb01:=HBr.out.trans (hB1.mono HBr.out.size);obtain⟨fr,hfr⟩:=HA4.out;have HRf:Hid (∃vp P,RfS w g4 g8 W4.heap.size g cv m N vp P (rRun m A0 0) (zbp m A0 0) (w1.alloc (.cells #[.slice none 0 0,.slice none 0 0,.bool s1,.slice o1 k1 c1,.int .i64 0] 125))):=by
    have hb2:=zaa w1 (.cells #[.slice none 0 0,.slice none 0 0,.bool s1,.slice o1 k1 c1,.int .i64 0] 125);have hb12:=hb01.trans (hb2.mono hb01.size);have hm2:=(hm.below hB1 (IZ.below hB1)).below hb2 (IZ.below hb2);refine zHi ⟨.slice none 0 0,none,HB4.out.trans (hb12.mono HB4.out.size),⟨fr,hfr.below HE4.out.lt hb12⟩,HE4.out.below hb12 HE4.out.lt,⟨s1,o1,k1,c1,?_,IZp.none (IZ.below hb2 _ _ (show IZ 1 [.bool s1,.slice o1 k1 c1] w1 from hz1))⟩,?_,⟨rvs,hm2.imp (fun _ _ q=>IZp.none q)⟩,OwnR.nil _ _ _ _ _,rfl⟩
    ·rw [←hg8];refine zaf.new w1 #[.slice none 0 0,.slice none 0 0,.bool s1,.slice o1 k1 c1,.int .i64 0] 125 (fun i hi => ?_);have:i=0∨i=1∨i=2∨i=3∨i=4:=by omega
     rcases this with rfl|rfl|rfl|rfl|rfl <;> rfl
    ·rw [←hg8];exact zas _ _ _
   have hg48:g4<W4.heap.size∧W4.heap.size≤g8:=⟨by rw [HS4.out];omega,by rw [←hg8];exact hb01.size⟩;have HG8:=zHi hg8;clear hfr hb01 hm hg8 hB1 hz1 HM HBr;gi_wp2;rw [HG8.out];gi_loopw [9] (fun x9 wr=>∃cc:Nat,x9 = .int .i64 (cc:Int)∧cc≤columns∧Hid (∃vp P,RfS w g4 g8 W4.heap.size g cv m N vp P (rRun m A0 cc) (zbp m A0 cc) wr)) (fun x _=>columns-(intOf x).toNat)
   case atStart=>exact⟨0,rfl,by omega,HRf⟩
   case round=>
    obtain⟨cc,rfl,hcc,HRr⟩:=hrel;clear HRf;obtain⟨vp,P,hS⟩:=HRr.out;obtain⟨s,o,k,c2,hform,hlast⟩:=hS.form;obtain⟨ov,cvp,hvp⟩:=hS.pv.form;rw [zch]at hvp;obtain⟨kk,hkk⟩:∃kk,(rRun m A0 cc).k=kk:=⟨_,rfl⟩;have hk9:kk≤m:=by rw [←hkk];exact(zld _ _ _).1
    rw [hkk]at hvp;have HKK:=zHi hkk;subst hvp;obtain⟨tt,htt⟩:∃tt,(rRun m A0 cc).turns=tt:=⟨_,rfl⟩;have HTT:=zHi htt;rw [htt]at hform;have z0:wr.cell? ⟨g8,0,none⟩=some (.slice none 0 0):=(hform 0 (by omega)).1;have z1:wr.cell? ⟨g8,1,none⟩=some (.slice ov kk cvp):=(hform 1 (by omega)).1;have z2:wr.cell? ⟨g8,2,none⟩=some (.bool s):=(hform 2 (by omega)).1;have z3:wr.cell? ⟨g8,3,none⟩=some (.slice o k c2):=(hform 3 (by omega)).1;have z4:wr.cell? ⟨g8,4,none⟩=some (.int .i64 (tt:Int)):=(hform 4 (by omega)).1;have y0:=(hform 0 (by omega)).2;have HLast:=zHi hlast;obtain⟨fr,hfr⟩:=hS.ret;have HFR:=zHi hfr;have HS:=zHi hS;have hne48:g4≠g8:=by omega
    clear hform hlast hS hkk htt hfr;by_cases hgo:cc<columns∧kk<m
    ·obtain⟨hlt,hkm⟩:=hgo;gi_wp2;obtain⟨W0,hW0⟩:∃W,wr=W:=⟨_,rfl⟩;rw [hW0]at HS HLast HFR z0 z1 z2 z3 z4 y0;rw [hW0];clear hW0 HRr;gi_loopw [11] (fun x11 wr=>∃i:Nat,x11 = .int .i64 (i:Int)∧kk≤i∧i≤m∧Hid (∀j,kk≤j→j<i→nzA (rRun m A0 cc).A cc j=false)∧Hid (Below W0.heap.size W0 wr)) (fun x _=>m-(intOf x).toNat)
     case atStart=>exact⟨kk,rfl,Nat.le_refl _,hk9,zHi (fun j h1 h2=>by omega),Below.refl _ _⟩
     case round=>
      obtain⟨i,rfl,hki,him,HZ,HBx⟩:=hrel;by_cases hin:i<m
      ·have hSx:=HS.out.under HBx.out;obtain⟨b,cb,hc,hr⟩:=hSx.row hin hN;rw [Addr.add_lit,Nat.zero_add,Nat.mul_one]at hc;obtain⟨si,oi,ki,ci,p0,p1,hI⟩:=hr.itemZ (show cc<N by omega);obtain⟨z,hz⟩:∃z,(rRun m A0 cc).A i cc=z:=⟨_,rfl⟩;rw [hz]at hI;have HI:=zHi hI.1;have HZZ:=zHi hz;clear hSx hr hI hz;gi_wp2_with (gi_at_call 72;refine stop ?_)
       unfold Stop;refine(zhl wr _ z HI.out).mono ?_;rintro e w6 ⟨rfl,hB6⟩;have HB6:=zHi (HBx.out.trans (hB6.mono HBx.out.size));clear hB6 hc p0 p1;by_cases hz0:z=0
       ·have hd:(z.sign == 0)=true:=by rw [hz0];rfl
        have hd':decide (z.sign=0)=true:=by rw [hz0];rfl
        have HZ2:Hid (∀j,kk≤j→j<i+1→nzA (rRun m A0 cc).A cc j=false):=zHi (fun j q1 q2=>by
         rcases Nat.lt_or_ge j i with q3|q3
         ·exact HZ.out j q1 q3
         ·have:j=i:=by omega
          rw [this];unfold nzA;rw [HZZ.out];exact decide_eq_false (fun q=>q hz0))
        gi_wp2;exact⟨⟨i+1,by go_num,by omega,by omega,HZ2,HB6⟩,by simp only [intOf];omega⟩
       ·have hs0:z.sign≠0:=fun q=>hz0 (Int.sign_eq_zero_iff_zero.1 q)
        have hd:(z.sign == 0)=false:=by rw [beq_eq_false_iff_ne];exact hs0
        have hd':decide (z.sign=0)=false:=decide_eq_false hs0;have HRow:Hid (rRow m cc (rRun m A0 cc)=i):=zHi (zpO (by rw [HKK.out];exact hki) him (fun j q1 q2=>HZ.out j (by rw [←HKK.out];exact q1) q2) (.inr (by unfold nzA;rw [HZZ.out];exact decide_eq_true hz0)));obtain⟨t1,ht1⟩:∃t1:RS,t1=⟨fun i'=>(rRun m A0 cc).A (zaM kk i i'),(rRun m A0 cc).last,(rRun m A0 cc).turns+(if i=kk then 0 else 1),kk⟩:=⟨_,rfl⟩;have hlast1:t1.last=(rRun m A0 cc).last:=by rw [ht1]
        have HT1:Hid (rRun m A0 (cc+1)=⟨zcT t1.A kk cc t1.last,t1.A kk cc,t1.turns,kk+1⟩∧zbp m A0 (cc+1)=zbp m A0 cc ++ [cc]):=by
         have hne:¬rRow m cc (rRun m A0 cc)=m:=by rw [HRow.out];omega
         refine zHi ⟨?_,?_⟩
         ·show zez m cc (rRun m A0 cc)=_
          unfold zez;rw [if_neg hne,HRow.out,HKK.out,ht1];have:(rRun m A0 cc).A i cc=(rRun m A0 cc).A (zaM kk i kk) cc:=by unfold zaM;rw [if_pos rfl]
          rw [this]
         ·show(if rRow m cc (rRun m A0 cc)=m then zbp m A0 cc else _)=_
          rw [if_neg hne]
        have HSZ1:Hid (t1.last≠0∧t1.last.natAbs<B^L∧∀i j,i<m→j<N→(t1.A i j).natAbs<B^L):=by
         obtain⟨q1,q2,q3⟩:=HSZ.out cc (by omega);refine zHi ⟨by rw [hlast1];exact q1,by rw [hlast1];exact q2,fun i' j' hi' hj' => ?_⟩;rw [ht1];refine q3 _ j' ?_ hj';unfold zaM;split
         ·exact hin
         ·split
          ·exact hkm
          ·exact hi'
        have hS6:=HS.out.under HB6.out;have hgw:w.heap.size≤g:=by
         have:=(hS6.topB h0).1;have:=HB4.out.size;omega
        have hgw8:w.heap.size≤g8:=by
         have:=HB4.out.size;omega
        by_cases hik:kk=i
        case' pos=>
         subst hik;have HS20:Hid (RfS w g4 g8 W4.heap.size g cv m N (.slice ov kk cvp) P t1 (zbp m A0 cc) w6):=zHi (hS6.zAs (fun i j _ _=>by rw [ht1];show _=(rRun m A0 cc).A (zaM kk kk i) j;rw [zom]) hlast1.symm (by rw [ht1,if_pos rfl];rfl));obtain⟨bk,ck,hck,hrk⟩:=HS20.out.row hkm hN;rw [Addr.add_lit,Nat.zero_add,Nat.mul_one]at hck;obtain⟨sp,op,kp,cp,p0,p1,hI⟩:=hrk.itemZ (show cc<N by omega);have HP20:=zHi hI;obtain⟨W20,hW20⟩:∃W,w6=W:=⟨_,rfl⟩;rw [hW20]at HS20 HP20 hck p0 p1;rw [hW20];have hem:decide ((kk:Int)=(m:Int))=false:=decide_eq_false (by omega);clear hS6 hrk hI ht1 HBx HRow HZZ HI hs0 HZ HS HB6 hW20;gi_wp2
        case' neg=>
         have hd8:decide ((i:Int)=(m:Int))=false:=decide_eq_false (by omega);have hd7:decide ((i:Int)=(kk:Int))=false:=decide_eq_false (by omega);obtain⟨bi,ci,hci,_⟩:=hS6.row hin hN;obtain⟨bk,ck,hck,_⟩:=hS6.row hkm hN;obtain⟨th1,th2,hS8⟩:=hS6.swap hgw hN (k:=i) (r:=kk) hin hkm (Ne.symm hik) hci hck;rw [Nat.mul_one]at th1;rw [Nat.mul_one,Nat.mul_one]at th2 hS8;rw [Addr.add_lit,Nat.zero_add,Nat.mul_one]at hci hck;have TH1:=zHi th1;have TH2:=zHi th2;have HS8:=zHi hS8;clear hS6 hS8 th1 th2 HB6 HBx HZZ HI HZ;gi_wp2_with (with_reducible refine zno ?_)
         unfold Stop;refine zbe (w6.setCells g i [.slice (some ⟨bk,0,none⟩) N ck]) rfl rfl (znn (g:=g) (o:=i) (v:=.slice (some ⟨bk,0,none⟩) N ck) rfl rfl TH1.out) ?_;obtain⟨W7,hW7⟩:∃W,w6.setCells g i [.slice (some ⟨bk,0,none⟩) N ck]=W:=⟨_,rfl⟩;rw [hW7]at TH2 HS8;rw [hW7];clear hW7 hci hck TH1;gi_wp2_with (with_reducible refine zno ?_)
         unfold Stop;refine zbe (W7.setCells g kk [.slice (some ⟨bi,0,none⟩) N ci]) rfl rfl (znn (g:=g) (o:=kk) (v:=.slice (some ⟨bi,0,none⟩) N ci) rfl rfl TH2.out) ?_;obtain⟨W8,hW8⟩:∃W,W7.setCells g kk [.slice (some ⟨bi,0,none⟩) N ci]=W:=⟨_,rfl⟩;rw [hW8]at HS8;rw [hW8];obtain⟨sl,ol,kl,cl,hfl,_⟩:=HS8.out.form;have z4:W8.cell? ⟨g8,4,none⟩=some (.int .i64 (tt:Int)):=by rw [←HTT.out];exact(hfl 4 (by omega)).1
         have y4:=(hfl 4 (by omega)).2;have HS9:=zHi (HS8.out.turned hgw8 hne48);clear hW8 hfl TH2;gi_wp2_with (with_reducible refine zsQ ?_)
         unfold Stop;refine zbe (W8.setCell ⟨g8,4,none⟩ (.int .i64 ((tt+1:Nat):Int))) (p:=.pointer (some ⟨g8,4,none⟩)) (v:=.int .i64 ((tt+1:Nat):Int)) rfl ?_ ?_ ?_
         ·refine(congrArg (Value.int .i64) (?_:(_:Int)=_));have htb:=(zld m A0 cc).2;have htk:=zgr m A0 cc;rw [HTT.out]at htk;rw [show((tt:Int)+1)=((tt+1:Nat):Int)from rfl];exact zel (by omega)
         ·refine zsP rfl rfl (fun j hj => ?_);have:j=0:=by omega
          subst this;exact⟨by rw [z4];rfl,y4⟩
         have HS20:Hid (RfS w g4 g8 W4.heap.size g cv m N (.slice ov kk cvp) P t1 (zbp m A0 cc) (W8.setCell ⟨g8,4,none⟩ (.int .i64 ((tt+1:Nat):Int)))):=by
          have q:=HS9.out;rw [HTT.out]at q;exact zHi (q.zAs (fun i' j' _ _=>by rw [ht1]) hlast1.symm (by rw [ht1];show tt+1=(rRun m A0 cc).turns+(if i=kk then 0 else 1);rw [HTT.out,if_neg (Ne.symm hik)]))
         obtain⟨W20,hW20⟩:∃W,W8.setCell ⟨g8,4,none⟩ (.int .i64 ((tt+1:Nat):Int))=W:=⟨_,rfl⟩;rw [hW20]at HS20;rw [hW20];clear hW20 HS9 HS8 z4 y4;obtain⟨bk,ck,hck,hrk⟩:=HS20.out.row hkm hN;rw [Addr.add_lit,Nat.zero_add,Nat.mul_one]at hck;obtain⟨sp,op,kp,cp,p0,p1,hI⟩:=hrk.itemZ (show cc<N by omega);have HP20:=zHi hI;clear hrk hI ht1 HRow hs0 HS hd7 hd8;gi_wp2
        all_goals
         obtain⟨g13,hg13⟩:∃g,W20.heap.size=g:=⟨_,rfl⟩;have HG13:=zHi hg13;rw [hg13];obtain⟨W21,hW21⟩:∃W,W20.alloc (.cells #[.bool sp,.slice op kp cp] 32)=W:=⟨_,rfl⟩;have HE0:Hid (ElS w g4 g8 W4.heap.size g cv m N (.slice ov kk cvp) P t1 (zbp m A0 cc) W20 g13 sp op kp cp kk cc 0 0 W21):=by
          have hb:=zaa W20 (.cells #[.bool sp,.slice op kp cp] 32);rw [hW21]at hb;refine zHi ⟨(HS20.out.under hb).zAs (fun i j _ _=>by show t1.A i j=zdo t1.A kk cc t1.last 0 0 i j;rw [zoT]) rfl rfl,?_,?_,IZp.below hb _ _ HP20.out,hb.block g (HS20.out.topB h0).2.1⟩
          ·rw [←hW21,←hg13];exact zaz _ _ _
          ·rw [←hW21,←hg13];exact zas _ _ _
         rw [hW21];clear hW21 hck p0 p1 hg13;gi_loopw [14] (fun x14 wr=>∃i:Nat,x14 = .int .i64 (i:Int)∧i≤m∧Hid (ElS w g4 g8 W4.heap.size g cv m N (.slice ov kk cvp) P t1 (zbp m A0 cc) W20 g13 sp op kp cp kk cc i 0 wr)) (fun x _=>m-(intOf x).toNat)
         case atStart=>exact⟨0,rfl,by omega,HE0⟩
         case round=>
          obtain⟨i,rfl,hi,HE⟩:=hrel;clear HE0;by_cases hin2:i<m
          ·by_cases hik2:i=kk
           ·have hd9:decide ((i:Int)=(kk:Int))=true:=decide_eq_true (by omega);have HE2:Hid (ElS w g4 g8 W4.heap.size g cv m N (.slice ov kk cvp) P t1 (zbp m A0 cc) W20 g13 sp op kp cp kk cc (i+1) 0 wr):=zHi ⟨HE.out.st.zAs (fun i' j' _ _=>by rw [hik2];exact zoU) rfl rfl,HE.out.box,HE.out.el,HE.out.piv,HE.out.top⟩;gi_wp2;exact⟨⟨i+1,by go_num,by omega,HE2⟩,by simp only [intOf];omega⟩
           ·have hd9:decide ((i:Int)=(kk:Int))=false:=decide_eq_false (by omega);obtain⟨b,cb,hcb,hrb,hb13,hEb⟩:=HE.out.row HS20.out HG13.out hin2 hN;rw [Addr.add_lit,Nat.zero_add,Nat.mul_one]at hcb;obtain⟨sf,of,kf,cf,p0,p1,hI⟩:=hrb.itemZ (show cc<N by omega);rw [zn1 hik2 (Nat.zero_le _)]at hI;have HIf:=zHi hI.1;have HHC:=zHi hcb;have hcA:(wr.alloc (.cells #[.bool sf,.slice of kf cf] 32)).cell? ⟨g,i,none⟩=some (.slice (some ⟨b,0,none⟩) N cb):=((zaa wr _).cell (p:=⟨g,i,none⟩) (World.block_lt_of_cell? _ _ hcb)).trans hcb;clear hrb hI;gi_wp2;clear hcA;obtain⟨g15,hg15⟩:∃g,wr.heap.size=g:=⟨_,rfl⟩;have HG15:=zHi hg15;rw [hg15];obtain⟨W22,hW22⟩:∃W,wr.alloc (.cells #[.bool sf,.slice of kf cf] 32)=W:=⟨_,rfl⟩;have hbx:=zaa wr (.cells #[.bool sf,.slice of kf cf] 32);rw [hW22]at hbx;have HE1:Hid (ElS w g4 g8 W4.heap.size g cv m N (.slice ov kk cvp) P t1 (zbp m A0 cc) W20 g13 sp op kp cp kk cc i 0 W22):=zHi (HE.out.under h0 hbx);have HF1:Hid (BoxL W22 g15 [.bool sf,.slice of kf cf]∧IZ (t1.A i cc) [.bool sf,.slice of kf cf] W22):=zHi ⟨by rw [←hW22,←hg15];exact zaz _ _ _,IZ.below hbx _ _ HIf.out⟩;have hg1315:g13<g15:=by rw [←hg15];exact HE.out.el.lt
            have HCB0:Hid (W22.cell? ⟨g,i,none⟩=some (.slice (some ⟨b,0,none⟩) N cb)):=zHi ((hbx.cell (p:=⟨g,i,none⟩) (World.block_lt_of_cell? _ _ hcb)).trans hcb);rw [hW22];clear hW22 hbx hg15 hcb p0 p1 HIf HHC;gi_loopw [17] (fun x17 wx=>∃j:Nat,x17 = .int .i64 (j:Int)∧j≤N∧Hid (ElS w g4 g8 W4.heap.size g cv m N (.slice ov kk cvp) P t1 (zbp m A0 cc) W20 g13 sp op kp cp kk cc i j wx)∧Hid (BoxL wx g15 [.bool sf,.slice of kf cf]∧IZ (t1.A i cc) [.bool sf,.slice of kf cf] wx)∧Hid (wx.cell? ⟨g,i,none⟩=some (.slice (some ⟨b,0,none⟩) N cb))) (fun x _=>N-(intOf x).toNat)
            case atStart=>exact⟨0,rfl,by omega,HE1,HF1,HCB0⟩
            case round=>
             obtain⟨j,rfl,hj,HX,HF,HCB⟩:=hrel;clear HE1 HF1 HCB0;by_cases hjn:j<N
             ·gi_wp2;have hbd:=zab wr;obtain⟨W1,hW1⟩:∃W,wr.drew=W:=⟨_,rfl⟩;rw [hW1]at hbd;have hX1:=HX.out.under h0 hbd;have hF1:=HF.out.1.below hbd;have hF2:=IZ.below hbd _ _ HF.out.2;have hc0:W1.cell? ⟨g,i,none⟩=some (.slice (some ⟨b,0,none⟩) N cb):=(hbd.cell (p:=⟨g,i,none⟩) (World.block_lt_of_cell? _ _ HCB.out)).trans HCB.out;obtain⟨b',cb',hcb,hrb,hb13',hEb'⟩:=hX1.row HS20.out HG13.out hin2 hN;have hcb':=hcb;rw [Addr.add_lit,Nat.zero_add,Nat.mul_one,hc0]at hcb'
              cases hcb'
              obtain⟨sx,ox,kx,cx,px0,px1,hIx⟩:=hrb.itemZ hjn;rw [zn1 hik2 (Nat.le_refl _)]at hIx;obtain⟨bk,ck,hck,hrk,_,_⟩:=hX1.row HS20.out HG13.out hkm hN;obtain⟨sy,oy,ky,cy,py0,py1,hIy⟩:=hrk.itemZ hjn;rw [zqq]at hIy;obtain⟨sl,ol,kl,cl,hfl,hIl⟩:=hX1.st.form;obtain⟨q1,q2,q3⟩:=HSZ1.out;obtain⟨z1,z2,z3⟩:=zpx (L:=L) (q3 kk cc hkm (by omega)) (q3 i j hin2 hjn) (q3 i cc hin2 (by omega)) (q3 kk j hkm hjn);have hPl:∀p,P=some p→p<W1.heap.size:=fun p hp=>by
               have hpb:=hX1.st.pb;rw [hp]at hpb;exact hX1.st.pv.lt hpb
              refine zap (ro:=none) [7,16,17,20,22] [0,1,2,3,4,5,6,8,9,10,11,12,13,14,15,18,19,7,16,17,20,21,22] [0,0,0,0,0,24,56,124,0,0,0,1536,3584,0,15872,32256,65532,131068,0,262144,1048572,2097151,4194303] zaq rfl 163 rfl (by kernel_rfl) (by kernel_rfl) ?_;rw [hW1];refine OV.mv (v:=.slice (some ⟨b,0,none⟩) N cb) rfl rfl rfl rfl ?_;refine OV.mv (v:=.int .i64 (j:Int)) rfl rfl rfl rfl ?_;refine OV.ldn [.bool sp,.slice op kp cp] lm32 hX1.box.at' rfl rfl rfl rfl rfl (by decide) rfl ?_;refine OV.mv (v:=.slice (some ⟨b,0,none⟩) N cb) rfl rfl rfl rfl ?_;refine OV.mv (v:=.int .i64 (j:Int)) rfl rfl rfl rfl ?_;refine OV.idx zqd hjn rfl rfl rfl rfl rfl ?_;refine OV.ldn [.bool sx,.slice ox kx cx] lm32 (ze1 px0 px1) rfl rfl rfl rfl rfl (by decide) rfl ?_;refine OV.ldn [.bool sf,.slice of kf cf] lm32 hF1.at' rfl rfl rfl rfl rfl (by decide) rfl ?_;refine OV.mv (v:=.slice (some ⟨g,0,none⟩) m cv) rfl rfl rfl rfl ?_;refine OV.mv (v:=.int .i64 (kk:Int)) rfl rfl rfl rfl ?_;refine OV.idx zsp hkm rfl rfl rfl rfl rfl ?_;refine OV.ld zsk hck rfl rfl rfl rfl rfl ?_;refine OV.mv (v:=.int .i64 (j:Int)) rfl rfl rfl rfl ?_;refine OV.idx zqd hjn rfl rfl rfl rfl rfl ?_;refine OV.ldn [.bool sy,.slice oy ky cy] lm32 (ze1 py0 py1) rfl rfl rfl rfl rfl (by decide) rfl ?_;refine OV.fld zs2 rfl rfl rfl rfl ?_;refine OV.ldn [.bool sl,.slice ol kl cl] lm32 (ze1 (o:=2) (hfl 2 (by omega)).1 (hfl 3 (by omega)).1) rfl rfl rfl rfl rfl (by decide) rfl ?_;refine OV.call [.agg #[.bool sp,.slice op kp cp],.agg #[.bool sx,.slice ox kx cx]] Tryz.func92 rfl zai rfl rfl rfl rfl rfl (zc6 _ _ _ _ _ hX1.piv.1 hIx.1 (zkT (q3 kk cc hkm (by omega)) hL) (zkT (q3 i j hin2 hjn) hL)) fun v2 w2 h2 hB2 => ?_
              refine OV.call [.agg #[.bool sf,.slice of kf cf],.agg #[.bool sy,.slice oy ky cy]] Tryz.func92 rfl zai rfl rfl rfl rfl rfl (zc6 _ _ _ _ _ (IZ.below hB2 _ _ hF2) (IZp.below hB2 _ _ hIy).1 (zkT (q3 i cc hin2 (by omega)) hL) (zkT (q3 kk j hkm hjn) hL)) fun v3 w3 h3 hB3 => ?_
              refine OV.call [v2,v3] Tryz.func95 rfl zai rfl rfl rfl rfl rfl (ziT _ _ _ _ _ (h2.below hB3) h3 (zsI z1 hL) (zsI z2 hL)) fun v4 w4 h4 hB4 => ?_
              have hb14:=(hB2.trans (hB3.mono hB2.size)).trans (hB4.mono (Nat.le_trans hB2.size hB3.size));refine OV.call [v4,.agg #[.bool sl,.slice ol kl cl]] Tryz.func119 rfl zai rfl rfl rfl rfl rfl (zog _ _ _ _ _ (2*L+1) h4 (IZp.below hb14 _ _ hIl).1 z3 (up q2 (by omega)) (by omega) (by rw [Ne,Int.natAbs_eq_zero];exact q1)) fun v5 w5 h5 hB5 => ?_
              have hb15:=hb14.trans (hB5.mono hb14.size);obtain⟨hz5,hf5⟩:=h5;rw [zq7]at hz5;obtain⟨s5,o5,k5,c5,rfl⟩:=hz5.form;have hI5:=IZp.fresh (P:=P) hz5 hf5 (fun p hp=>Nat.lt_of_lt_of_le (hPl p hp) hb14.size);have hX5:=hX1.under h0 hb15;have hcb5:w5.cell? ((⟨g,0,none⟩:Addr).add (i*1))=some (.slice (some ⟨b,0,none⟩) N cb):=(hb15.cell (p:=(⟨g,0,none⟩:Addr).add (i*1)) (World.block_lt_of_cell? _ _ hcb)).trans hcb;obtain⟨hX6,hth,hbut,hK⟩:=hX5.store (j:=j) HB4.out.size h0 hin2 hjn hik2 hcb5 (Nat.ne_of_lt hb13') (hEb'.below hb15 hEb'.lt) rfl hI5 rfl;refine OV.idx zqd hjn rfl rfl rfl rfl rfl ?_;refine OV.st (w':=w5.setCells b (j*2) [.bool s5,.slice o5 k5 c5]) trivial (zq2 hth (by simp [Value.oneCell'])) rfl rfl rfl rfl rfl ?_;refine OV.done ?_;have hF5:=(hF1.below hb15).but hbut (show g15≠b by omega);have hF6:=IZp.kept (P:=none) hK _ _ (IZp.none (IZ.below hb15 _ _ hF2));have hgE:=(hX5.st.topB h0).2.2;have hcb6:=hbut.cell (p:=⟨g,i,none⟩) hgE.lt (hgE.ne (hEb'.below hb15 hEb'.lt) (by decide));rw [show w5.cell? ⟨g,i,none⟩=_ from(hb15.cell (p:=⟨g,i,none⟩) (World.block_lt_of_cell? _ _ hc0)).trans hc0]at hcb6;have HX6:=zHi hX6;have HF6:=zHi (And.intro hF5 hF6.1);have HCB6:=zHi hcb6;simp only [za4,Go.Act.put,ztA,ztB,ztC];clear hF5 hF6 hgE hcb6 hX6 hth hbut hK hcb5 hX5 hI5 hz5 hf5 hb15 hB5 hb14 h4 hB4 h3 hB3 h2 hB2 hPl z1 z2 z3 q1 q2 q3 hfl hIl hIy py0 py1 hrk hck hIx px0 px1 hrb hcb hc0 hF1 hF2 hX1 hbd hW1;gi_wp2;exact⟨⟨j+1,by go_num,by omega,HX6,HF6,HCB6⟩,by simp only [intOf];omega⟩
             ·have hjN:j=N:=by omega
              have HE2:Hid (ElS w g4 g8 W4.heap.size g cv m N (.slice ov kk cvp) P t1 (zbp m A0 cc) W20 g13 sp op kp cp kk cc (i+1) 0 wr):=zHi ⟨HX.out.st.zAs (fun i' j' _ hj'=>by rw [hjN];exact zqp hj') rfl rfl,HX.out.box,HX.out.el,HX.out.piv,HX.out.top⟩;gi_wp2;exact⟨⟨i+1,by go_num,by omega,HE2⟩,by simp only [intOf];omega⟩
          ·have him2:i=m:=by omega
           subst him2;have q0:=HE.out.box.2 0 _ rfl;have q1:=HE.out.box.2 1 _ rfl;obtain⟨t2,ht2⟩:∃t2:RS,t2=⟨zcT t1.A kk cc t1.last,t1.last,t1.turns,t1.k⟩:=⟨_,rfl⟩;have hS30:RfS w g4 g8 W4.heap.size g cv i N (.slice ov kk cvp) P t2 (zbp i A0 cc) wr:=HE.out.st.zAs (fun i' j' hi' _=>by rw [ht2];exact zqr hi') (by rw [ht2]) (by rw [ht2]);have hS31:=hS30.lasts hgw8 hne48 HE.out.piv;obtain⟨sl,ol,kl,cl,hfl,_⟩:=hS30.form;have hth:wr.there g8 2 2:=fun j hj=>by
            have:j=0∨j=1:=by omega
            rcases this with rfl|rfl
            ·exact⟨by rw [(hfl 2 (by omega)).1];rfl,(hfl 2 (by omega)).2⟩
            ·exact⟨by rw [(hfl 3 (by omega)).1];rfl,(hfl 3 (by omega)).2⟩
           have HTH:=zHi hth;have HS31:=zHi hS31;clear hfl hS30 hS31 hth;gi_wp2_with (with_reducible refine zpr ?_)
           unfold Stop;refine zbe (wr.setCells g8 2 [.bool sp,.slice op kp cp]) rfl rfl (zgo HTH.out (by simp [Value.oneCell'])) ?_;obtain⟨W32,hW32⟩:∃W,wr.setCells g8 2 [.bool sp,.slice op kp cp]=W:=⟨_,rfl⟩;have hW32':(wr.setCell ⟨g8,2,none⟩ (.bool sp)).setCell ⟨g8,3,none⟩ (.slice op kp cp)=W32:=hW32;rw [hW32']at HS31;rw [hW32];obtain⟨sl,ol,kl,cl,hfl,_⟩:=HS31.out.form;have z1:W32.cell? ⟨g8,1,none⟩=some (.slice ov kk cvp):=(hfl 1 (by omega)).1;clear hfl hW32 hW32' q0 q1 HTH;gi_wp2_with (gi_at_builtin;refine stop ?_)
           unfold Stop;refine zl4 (ty:=3) (sz:=1) (bytes:=8) W32 rfl _ _ rfl u29' zep zfj zfk zdR rfl (by decide) (by decide) (g8+1) (HS31.out.e8.lt) (.slice ov kk cvp) _ rfl HS31.out.pv cc [.int .i64 (cc:Int)] _ rfl rfl (by simp [Value.oneCell']) rfl (fun _ _ _ _ _ h=>h) (by rw [zch,HKK.out];omega) ?_;intro v' w' HO HBk HBel HMv;have hfr:∀b,b≤g8→b<W32.heap.size→w'.heap[b]? = W32.heap[b]?:=fun b hb hl=>HBk.out.2 b hl (fun e=>by have:=(HS31.out.pv.blk e.symm).1;omega)
           obtain⟨sl,ol,kl,cl,hfl,_⟩:=HS31.out.form;have hf':=hfl.other (hfr g8 (Nat.le_refl _) HS31.out.e8.lt);have d0:=(hf' 1 (by omega)).1;have d1:=(hf' 1 (by omega)).2;have HS33:=zHi (HS31.out.push hgw8 hne48 HO.out HBk.out (HBel.out _ _ HS31.out.below (by omega)) HMv.out);have HS34:=zHi (HS33.out.zAs (t':=rRun i A0 (cc+1)) (fun i' j' _ _=>by rw [HT1.out.1,ht2]) (by rw [HT1.out.1]) (by rw [HT1.out.1,ht2]));rw [←HT1.out.2]at HS34;obtain⟨o',c',hvf⟩:=HO.out.form;have hl':(zbp i A0 cc ++ [cc]).length=kk+1:=by rw [List.length_append,zch,HKK.out];rfl
           rw [hl']at hvf;subst hvf;clear hf' hfl hfr HMv hl' z1;gi_wp2;exact⟨⟨cc+1,by go_num,by omega,zHi ⟨_,_,HS34.out⟩⟩,by simp only [intOf];omega⟩
      ·have hi2:i=m:=by omega
       have hrow:rRow m cc (rRun m A0 cc)=m:=zpO (by rw [HKK.out];exact hk9) (Nat.le_refl _) (fun j q1 q2=>HZ.out j (by rw [←HKK.out];exact q1) (by omega)) (.inl rfl);have HNx:Hid (rRun m A0 (cc+1)=rRun m A0 cc∧zbp m A0 (cc+1)=zbp m A0 cc):=zHi ⟨by
        show zez m cc (rRun m A0 cc)=_
        unfold zez;rw [if_pos hrow],by
        show(if rRow m cc (rRun m A0 cc)=m then zbp m A0 cc else _)=_
        rw [if_pos hrow]⟩
       clear hrow;gi_wp2;exact⟨⟨cc+1,by go_num,by omega,zHi ⟨_,_,by rw [HNx.out.1,HNx.out.2];exact HS.out.under HBx.out⟩⟩,by simp only [intOf];omega⟩
    ·have hend:Hid (rRun m A0 columns=rRun m A0 cc∧zbp m A0 columns=zbp m A0 cc):=zHi (by
      by_cases q:cc=columns
      ·rw [q];exact⟨rfl,rfl⟩
      ·have:=zle (m:=m) (A0:=A0) (c:=cc) (by rw [HKK.out];omega) (columns-cc);rwa [show cc+(columns-cc)=columns by omega]at this)
     have r0:=(HFR.out 0 (by omega)).1;have r1:=(HFR.out 1 (by omega)).1;have r2:=(HFR.out 2 (by omega)).1;have r3:=(HFR.out 3 (by omega)).1;have r4:=(HFR.out 4 (by omega)).1;have v0:=(HFR.out 0 (by omega)).2;have v1:=(HFR.out 1 (by omega)).2;have v2:=(HFR.out 2 (by omega)).2;have v3:=(HFR.out 3 (by omega)).2;have v4:=(HFR.out 4 (by omega)).2;by_cases hlt:cc<columns
     ·have hkm:¬kk<m:=fun q=>hgo ⟨hlt,q⟩
      gi_wp2;have hO:=HS.out.out (by rw [HG4.out];exact Nat.le_refl _) (by omega) ⟨by omega,by omega,by rw [zch,HKK.out];omega⟩ (.slice (some ⟨g,0,none⟩) m cv) (.slice (some ⟨g,0,none⟩) m cv) (.slice ov kk cvp) (.bool s) (.slice o k c2) (.int .i64 (tt:Int)) HLast.out;obtain⟨q1,q2,q3,q4,q5⟩:=hO;refine⟨rfl,.agg #[.slice (some ⟨g,0,none⟩) m cv,.slice ov kk cvp,.bool s,.slice o k c2,.int .i64 (tt:Int)],?_,(HR0.out _ _).2 ⟨.slice (some ⟨g,0,none⟩) m cv,.slice ov kk cvp,s,o,k,c2,by rw [hend.out.1,HTT.out],by rw [hend.out.1];exact q1,by rw [hend.out.2];exact q2,by rw [hend.out.1];exact q3,q4⟩⟩;have l125:zcp Tryz.prog 125 5:=zbS (by kernel_rfl) (by kernel_rfl);have e1:=l125 g4 [.slice (some ⟨g,0,none⟩) m cv,.slice ov kk cvp,.bool s,.slice o k c2,.int .i64 (tt:Int)] ((((((wr.setCell ⟨g8,0,none⟩ (.slice (some ⟨g,0,none⟩) m cv)).setCell ⟨g4,0,none⟩ (.slice (some ⟨g,0,none⟩) m cv)).setCell ⟨g4,1,none⟩ (.slice ov kk cvp)).setCell ⟨g4,2,none⟩ (.bool s)).setCell ⟨g4,3,none⟩ (.slice o k c2)).setCell ⟨g4,4,none⟩ (.int .i64 (tt:Int))) rfl q5;simp only [Instr.loadAt,Instr.sureAddr,Sem.run_bind,Sem.run_pure,Result.andThen_ok]at e1;simp [results,asAddr,e1]
     ·gi_wp2;have hO:=HS.out.out (by rw [HG4.out];exact Nat.le_refl _) (by omega) ⟨by omega,by omega,by rw [zch,HKK.out];omega⟩ (.slice (some ⟨g,0,none⟩) m cv) (.slice (some ⟨g,0,none⟩) m cv) (.slice ov kk cvp) (.bool s) (.slice o k c2) (.int .i64 (tt:Int)) HLast.out;obtain⟨q1,q2,q3,q4,q5⟩:=hO;refine⟨rfl,.agg #[.slice (some ⟨g,0,none⟩) m cv,.slice ov kk cvp,.bool s,.slice o k c2,.int .i64 (tt:Int)],?_,(HR0.out _ _).2 ⟨.slice (some ⟨g,0,none⟩) m cv,.slice ov kk cvp,s,o,k,c2,by rw [hend.out.1,HTT.out],by rw [hend.out.1];exact q1,by rw [hend.out.2];exact q2,by rw [hend.out.1];exact q3,q4⟩⟩;have l125:zcp Tryz.prog 125 5:=zbS (by kernel_rfl) (by kernel_rfl);have e1:=l125 g4 [.slice (some ⟨g,0,none⟩) m cv,.slice ov kk cvp,.bool s,.slice o k c2,.int .i64 (tt:Int)] ((((((wr.setCell ⟨g8,0,none⟩ (.slice (some ⟨g,0,none⟩) m cv)).setCell ⟨g4,0,none⟩ (.slice (some ⟨g,0,none⟩) m cv)).setCell ⟨g4,1,none⟩ (.slice ov kk cvp)).setCell ⟨g4,2,none⟩ (.bool s)).setCell ⟨g4,3,none⟩ (.slice o k c2)).setCell ⟨g4,4,none⟩ (.int .i64 (tt:Int))) rfl q5;simp only [Instr.loadAt,Instr.sureAddr,Sem.run_bind,Sem.run_pure,Result.andThen_ok]at e1;simp [results,asAddr,e1]
end Go.Num
namespace Go.Num
theorem zrd:RatB 1 1 (1:Rat):=⟨1,1,by decide,by show(1:Rat)=((1:Int):Rat)/((1:Int):Rat);grind,by decide,by decide⟩
section
variable {m N X columns:Nat} {A0:Nat→Nat→Int}
theorem zpJ{L:Nat}(hX:∀i,i<m→∀j,j<N→(A0 i j).natAbs≤X)(hNX:1≤N*X)(hb:(N*X)^m<B^L)(hcN:columns≤N) :
  ∀c,c≤columns→(rRun m A0 c).last≠0∧(rRun m A0 c).last.natAbs<B^L∧∀i j,i<m→j<N→((rRun m A0 c).A i j).natAbs<B^L:=by
 intro c hc;obtain⟨U,cf,g,h⟩:=zmG (N:=N) (m:=m) (X:=X) (F:=1) (g0:=fun _=>1) (U0:=fun i j=>(A0 i j:Rat)) (P0:=fun i j=>(A0 i j:Rat)) (A0:=A0) (fun _ _ _ _=>rfl) hX (fun _ _=>by decide) (fun _ _=>zrd) (fun _ _ _ _=>by grind) c (by omega);have hd:zaG U cf (pRun m (fun i j=>(A0 i j:Rat)) c).k≠0:=zdY h.E.piv;have hbd:=zdu.bound h.E h.R hNX;refine⟨fun e => ?_,Nat.lt_of_le_of_lt hbd.1 hb,fun i j hi hj=>Nat.lt_of_le_of_lt (hbd.2 i hi j hj) hb⟩;have:=h.R.last;rw [e]at this;exact hd this.symm
theorem znu{F:Nat}{g0:Nat→Rat}{U0 P0:Nat→Nat→Rat}(hA:∀i,i<m→∀j,j<N→(A0 i j:Rat)=U0 i j)(hX:∀i,i<m→∀j,j<N→(A0 i j).natAbs≤X)(hg:∀i,i<m→g0 i≠0)(hgF:∀i,i<m→RatB 1 F (g0 i))
  (hP:∀i,i<m→∀j,j<N→P0 i j=g0 i*U0 i j):∀c,c≤N→zbp m A0 c=za3 m P0 c
 | 0,_=>rfl
 | c+1,hc=>by
  obtain⟨U,cf,g,h⟩:=zmG hA hX hg hgF hP c (by omega);have ih:=znu hA hX hg hgF hP c (by omega);show(if rRow m c (rRun m A0 c)=m then zbp m A0 c else zbp m A0 c ++ [c])=(if pRow m c (pRun m P0 c)=m then za3 m P0 c else za3 m P0 c ++ [c])
  rw [h.row (by omega),ih]
end
end Go.Num
namespace Go.Num
open Go.Eng Go.Shelf Go.RowKit Go.Sort Go.Proofs Go.Proofs.YtoamcgjbelhnkaaGreatDoor
attribute [local go_sem] Oper.semAt_some
theorem zo6{x L:Nat}(h:x<B^L)(hL:L≤20000):x<B^20000:=Nat.lt_of_lt_of_le h (zaj (i:=L) (j:=20000) hL)
theorem zco(a:Addr):a.add 0=a:=by
 unfold Addr.add;split <;> simp_all
structure OBox(w:World)(g:Nat)(ty:TypeId)(xs:List Value):Prop where
 box:BoxL w g xs
 free:∀j,j<xs.length→w.frozen? ⟨g,j,none⟩=false
 el:Elem w g ty
section
variable {w w':World} {g:Nat} {ty:TypeId} {xs ys:List Value}
theorem OBox.new(w:World)(xs:List Value)(ty:TypeId):OBox (w.alloc (.cells xs.toArray ty)) w.heap.size ty xs:=⟨zaz w xs ty,fun _ _=>World.frozen?_alloc_new _ _ _ _,zas _ _ _⟩
theorem OBox.below(h:OBox w g ty xs)(hb:Below w.heap.size w w'):OBox w' g ty xs:=⟨h.box.below hb,fun j hj=>(hb.frozen (p:=⟨g,j,none⟩) h.el.lt).trans (h.free j hj),h.el.below hb h.el.lt⟩
theorem OBox.there(h:OBox w g ty xs):w.there g 0 xs.length:=fun j hj=>by
 rw [Nat.zero_add];exact⟨by rw [h.box.2 j _ (List.getElem?_eq_getElem hj)];rfl,h.free j hj⟩
theorem OBox.store(h:OBox w g ty xs)(hl:ys.length=xs.length):OBox (w.setCells g 0 ys) g ty ys:=by
 have hb:=zah g ys 0 w;have hr:=World.rangeAt_setCells_same w g 0 ys (by rw [hl];exact h.there);refine⟨⟨Nat.lt_of_lt_of_le h.el.lt hb.size,fun j v hj=>by have:=hr j v hj;rwa [Nat.zero_add]at this⟩,fun j hj=>by rw [World.frozen?_setCells];exact h.free j (by omega),?_⟩;suffices H:∀(ys:List Value) (o:Nat) (w:World),Elem w g ty→Elem (w.setCells g o ys) g ty from H ys 0 w h.el
 intro ys;induction ys with
 | nil=>intro o w hc;exact hc
 | cons y ys ih=>intro o w hc;exact ih (o+1) (w.setCell ⟨g,o,none⟩ y) (hc.setCell _ _)
end
theorem QAt.form{w:World}{v:Value}{q:Rat}(h:QAt w v q):∃s o1 k1 c1 o2 k2 c2,v = .agg #[.bool s,.slice o1 k1 c1,.bool false,.slice o2 k2 c2]:=by
 obtain⟨m1,m2,e,h1,h2⟩:=h;obtain⟨o1,k1,c1,rfl,_,_⟩:=zaD h1;obtain⟨o2,k2,c2,rfl,_,_⟩:=zaD h2;exact⟨_,o1,k1,c1,o2,k2,c2,e⟩
theorem zmj{w:World}{g:Nat}{x0 x1 x2 x3:Value}(ht:w.there g 0 4)(h1:#[x0,x1,x2,x3].all (·.oneCell')=true):(Instr.storeAt 34 (.pointer (some ⟨g,0,none⟩)) (.agg #[x0,x1,x2,x3])).run Tryz.prog w = .ok () (w.setCells g 0 [x0,x1,x2,x3]):=
 run_storeAt_mid w g 0 34 #[x0,x1,x2,x3] ht (by kernel_rfl) h1
theorem zpq{F:Fence}{n:Nat}{P:Program}{ops:Array Oper}{rest:List Oper}{x y:Operand}{ty:TypeId}{ps:String}{af:Array Edge}{a:CAct}{Q:Exit→CAct→World→Prop}{w:World}
  (h:Stop (wpListIn F n P ops Q ({op:=.store 34 x y,dst:=none,type:=ty,pos:=ps,after:=af,guard:=none} :: rest) a w)):wpListIn F n P ops Q ({op:=.store 34 x y,dst:=none,type:=ty,pos:=ps,after:=af,guard:=none} :: rest) a w:=h
theorem zq5{F:Fence}{n:Nat}{P:Program}{ops:Array Oper}{rest:List Oper}{x:Operand}{f:Nat}{d:Option Tmp}{ty:TypeId}{ps:String}{af:Array Edge}{a:CAct}{Q:Exit→CAct→World→Prop}{w:World}
  (h:Stop (wpListIn F n P ops Q ({op:=.field 125 x f,dst:=d,type:=ty,pos:=ps,after:=af,guard:=none} :: rest) a w)):wpListIn F n P ops Q ({op:=.field 125 x f,dst:=d,type:=ty,pos:=ps,after:=af,guard:=none} :: rest) a w:=h
theorem ziy{F:Fence}{n:Nat}{P:Program}{ops:Array Oper}{rest:List Oper}{t:TypeId}{x:Operand}{f:Nat}{d:Option Tmp}{ty:TypeId}{ps:String}{af:Array Edge}{a:CAct}{Q:Exit→CAct→World→Prop}{w:World}{u v:Value}(hx:a.eval x=u)(hrun:(Instr.field t u f).run P w = .ok v w)
  (h:wpListIn F n P ops Q rest (a.put d v) w):wpListIn F n P ops Q ({op:=.field t x f,dst:=d,type:=ty,pos:=ps,after:=af,guard:=none} :: rest) a w:=by
 refine wpListIn_plain rfl fun K hK => ?_
 unfold Oper.wpIn;refine⟨by simp [Oper.about],?_⟩;rw [Oper.semAt_plain F _ _ (by intro c hc';cases hc')];simp [execOp,hx,hrun,Result.andThen]
 exact hK _ _ h
theorem zrz(w:World)(x0 x1 x2 x3 x4:Value):(Instr.field 125 (.agg #[x0,x1,x2,x3,x4]) 1).run Tryz.prog w = .ok x1 w:=by
 have hfs:Tryz.prog.underlying 125=some (.struct #[⟨"Rows",121,0,false, "", "",0⟩,⟨"Pivot",29,1,false, "", "",24⟩,⟨"Last",32,2,false, "", "",48⟩,⟨"Turns",3,4,false, "", "",80⟩]):=by kernel_rfl
 have h2:(isAgg 29).run Tryz.prog w = .ok false w:=by
  unfold isAgg;rw [Sem.run_bind,run_underlying (show Tryz.prog.underlying 29=some (.slice 3)by kernel_rfl) w];rfl
 simp [Instr.field,run_underlying hfs,Sem.run_bind,h2,Sem.run_pure,asAgg,go_sem]
theorem QAt.setBox{w:World}{g:Nat}{v:Value}{q:Rat}{ys:List Value}{o:Nat}(h:QAt w v q){ty:TypeId}(he:Elem w g ty)(hty:rs3.contains ty=false):QAt (w.setCells g o ys) v q:=by
 have hk:=(zah g ys o w).kept he hty;obtain⟨m1,m2,e,h1,h2⟩:=h;exact⟨m1,m2,e,h1.kept hk rfl,h2.kept hk rfl⟩
theorem lo34:zcp Tryz.prog 34 4:=zbS (by kernel_rfl) (by kernel_rfl)
theorem retQ{w W:World}{g:Nat}{a0 a1 a2 a3 x0 x1 x2 x3:Value}{q:Rat}(hx:OBox W g 34 [a0,a1,a2,a3])(hq:QAt W (.agg #[x0,x1,x2,x3]) q)(hb:Below w.heap.size w W)(hg:w.heap.size≤g) :
  (Instr.loadAt 34 (.pointer (some ⟨g,0,none⟩))).run Tryz.prog (W.setCells g 0 [x0,x1,x2,x3]) = .ok (.agg #[x0,x1,x2,x3]) (W.setCells g 0 [x0,x1,x2,x3])∧QAt (W.setCells g 0 [x0,x1,x2,x3]) (.agg #[x0,x1,x2,x3]) q∧Below w.heap.size w (W.setCells g 0 [x0,x1,x2,x3]):=
 ⟨lo34 g [x0,x1,x2,x3] _ rfl (hx.store (ys:=[x0,x1,x2,x3]) rfl).box.2,hq.setBox hx.el rfl,zaF hg _ _ _ hb⟩
noncomputable def zjd(Q:Nat→Nat→Rat)(n:Nat):Rat:=if(rRun n (fun i=>za2 (Q i) n) n).k<n then 0 else pm (rRun n (fun i=>za2 (Q i) n) n).turns*((rRun n (fun i=>za2 (Q i) n) n).last:Rat)/(facP Q n n:Rat)
theorem znV(Q:Nat→Nat→Rat)(N:Nat):∀i,0<facP Q N i
 | 0=>Nat.one_pos
 | i+1=>Nat.mul_pos (znV Q N i) (zhg _ _)
theorem zdU(w:World)(v:Value)(Q:Nat→Nat→Rat)(m N L:Nat)(h:MatQ w v (tab m N Q))(h0:0<m)(hN:0<N)(h9:m≤20∧N≤20)(hq:∀i j,i<m→j<N→zaw (Q i j) 5)(hL:L≤20000)
  (hsz:∀c,c≤N→(rRun m (fun i=>za2 (Q i) N) c).last≠0∧(rRun m (fun i=>za2 (Q i) N) c).last.natAbs<B^L∧∀i j,i<m→j<N→((rRun m (fun i=>za2 (Q i) N) c).A i j).natAbs<B^L) :
  CallsIn Fence.wide 0 Tryz.prog 53 #[v] w fun e w'=>e = .returned (.int .i64 ((rRun m (fun i=>za2 (Q i) N) N).k:Int))∧Below w.heap.size w w':=by
 obtain⟨a,c,rfl⟩:=zag.some h (by rw [zak];exact h0);have HR:=zHi h;rw [zak];obtain⟨_,row,hrl,hcell,u,rfl,hu⟩:=zag.at' h (zbD h0);have x0:=hcell 0 u rfl;rw [Addr.add_add,Nat.add_zero,Nat.zero_mul,zco]at x0;obtain⟨au,cu,rfl⟩:=zag.some hu (by simpa using hN);rw [List.length_map,List.length_range]at x0;have HX:=zHi x0;obtain⟨A0,hA0⟩:∃A0:Nat→Nat→Int,(fun i=>za2 (Q i) N)=A0:=⟨_,rfl⟩;rw [hA0]at hsz ⊢;have HSZ:=zHi hsz;have HQ:=zHi hq;clear h hsz hq hcell hrl hu;refine callsIn_of_wp Tryz.func53 rfl trivial ?_ rfl;simp only [Tryz.ntmps53,ztr,zts,ztt,Nat.reduceAdd,Nat.reduceSub,ztu,ztv,ztw,ztx,zty,ztz];gi_wp2_with (gi_at_call 83;refine stop ?_)
 unfold Stop;refine(zfT w _ Q m N (by have:=HR.out;rwa [zak]at this) h0 hN h9 HQ.out).mono ?_;rintro e w1 ⟨v1,v2,rfl,hm1,hz1,hB1⟩;rw [hA0]at hm1;obtain⟨s1,o1,k1,c1,rfl⟩:=hz1.form;obtain⟨om,cm,rfl,_⟩:=zag.form hm1;rw [zak];have HM:=zHi hm1;have HB1:=zHi hB1;have x1:=(hB1.cell (World.block_lt_of_cell? _ _ x0)).trans x0;have hb2:=zaa w1 (.cells #[.bool s1,.slice o1 k1 c1] 32);have x2:=(hb2.cell (World.block_lt_of_cell? _ _ x1)).trans x1;clear hm1 hz1 hB1;gi_wp2_with (gi_at_call 84;refine stop ?_)
 unfold Stop;have hm2:=zag.below HM.out hb2 (fun _ _ ⟨u,e,k⟩=>⟨u,e,zag.below k hb2 (IZ.below hb2)⟩);rw [zak]at hm2;refine(zey _ _ A0 m N N L hm2 h0 hN (by omega) (Nat.le_refl _) hL HSZ.out).mono ?_;rintro e w3 ⟨vr,vp,s,o,k,c',rfl,hr,hp,hz,hB3⟩;obtain⟨op,cp,rfl,_⟩:=zag.form hp;rw [zch];have HB3:=zHi (HB1.out.trans ((hb2.trans (hB3.mono hb2.size)).mono HB1.out.size));clear hr hp hz hB3 hm2 hb2;gi_wp2_with (with_reducible refine zq5 ?_)
 unfold Stop;refine ziy rfl (zrz _ _ _ _ _ _) ?_;gi_wp2;refine⟨rfl,.int .i64 ((rRun m A0 N).k:Int),?_,rfl,HB3.out⟩;simp [results]
theorem zgT(w:World)(v:Value)(Q:Nat→Nat→Rat)(m L:Nat)(h:MatQ w v (tab m m Q))(h0:0<m)(h9:m≤20)(hq:∀i j,i<m→j<m→zaw (Q i j) 5)(hL:L≤20000)
  (hsz:∀c,c≤m→(rRun m (fun i=>za2 (Q i) m) c).last≠0∧(rRun m (fun i=>za2 (Q i) m) c).last.natAbs<B^L∧∀i j,i<m→j<m→((rRun m (fun i=>za2 (Q i) m) c).A i j).natAbs<B^L) :
  CallsIn Fence.wide 0 Tryz.prog 55 #[v] w fun e w'=>∃v',e = .returned v'∧QAt w' v' (zjd Q m)∧Below w.heap.size w w':=by
 obtain⟨a,c,rfl⟩:=zag.some h (by rw [zak];exact h0);have HR:=zHi h;rw [zak];obtain⟨D,hD⟩:∃D,zjd Q m=D:=⟨_,rfl⟩;have HD:=zHi hD;rw [hD];unfold zjd at hD;obtain⟨F,hF⟩:∃F,facP Q m m=F:=⟨_,rfl⟩;obtain⟨A0,hA0⟩:∃A0:Nat→Nat→Int,(fun i=>za2 (Q i) m)=A0:=⟨_,rfl⟩;rw [hF]at hD;rw [hA0]at hsz hD;have hF0:0<F:=by rw [←hF];exact znV _ _ _
 have hF9:F<B^20000:=by
  rw [←hF];refine zo6 (zmS (Q:=Q) (N:=m) (m:=m) (fun i hi => ?_) m (Nat.le_refl _)) (show 101*m+1≤20000 by omega);have:=zgC (q:=Q i) (D:=B^5) (n:=m) (fun j hj=>Nat.le_of_lt (hq i j hi hj).2);rw [←Nat.pow_mul]at this;exact Nat.lt_of_le_of_lt this (Nat.pow_lt_pow_right (by decide) (by omega))
 have HSZ:=zHi hsz;have HQ:=zHi hq;have HF:=zHi hF;have HF9:=zHi hF9;obtain⟨R0,hR0⟩:∃R:Ending→World→Prop,∀e w',R e w'↔∃v',e = .returned v'∧QAt w' v' D∧Below w.heap.size w w':=⟨_,fun _ _=>Iff.rfl⟩;simp only [←hR0];have HR0:=zHi hR0;have HDD:=zHi hD;clear h hsz hq hD hF hR0 hF9;refine callsIn_of_wp Tryz.func55 rfl trivial ?_ rfl;simp only [Tryz.ntmps55,ztr,zts,ztt,Nat.reduceAdd,Nat.reduceSub,ztu,ztv,ztw,ztx,zty,ztz];gi_wp2_with (gi_at_call 83;refine stop ?_)
 unfold Stop;obtain⟨g2,hg2⟩:∃g,w.heap.size=g:=⟨_,rfl⟩;have HG2:=zHi hg2;obtain⟨W2,hW2⟩:∃W,w.alloc (.cells #[.bool false,.slice none 0 0,.bool false,.slice none 0 0] 34)=W:=⟨_,rfl⟩;have hb2:Below w.heap.size w W2:=by rw [←hW2];exact zaa _ _
 have hx2:OBox W2 g2 34 [.bool false,.slice none 0 0,.bool false,.slice none 0 0]:=by rw [←hW2,←hg2];exact OBox.new _ _ _
 rw [hW2,hg2];have hm2:=zag.below HR.out hb2 (zbC.below hb2);rw [zak]at hm2;have HB2:=zHi hb2;have HX2:=zHi hx2;refine(zfT W2 _ Q m m hm2 h0 h0 ⟨h9,h9⟩ HQ.out).mono ?_;rintro e w3 ⟨v1,v2,rfl,hm3,hz3,hB3⟩;rw [hA0]at hm3;rw [HF.out]at hz3;obtain⟨s1,o1,k1,c1,rfl⟩:=hz3.form;obtain⟨om,cm,rfl,_⟩:=zag.form hm3;rw [zak];have HM3:=zHi hm3;have HB3:=zHi hB3;have HZ3:=zHi hz3;clear hm3 hz3 hB3 hm2 hb2 hx2 hW2 hg2;gi_wp2_with (gi_at_call 84;refine stop ?_)
 unfold Stop;obtain⟨g4,hg4⟩:∃g,w3.heap.size=g:=⟨_,rfl⟩;have HG4:=zHi hg4;obtain⟨W4,hW4⟩:∃W,w3.alloc (.cells #[.bool s1,.slice o1 k1 c1] 32)=W:=⟨_,rfl⟩;have hb4:Below w3.heap.size w3 W4:=by rw [←hW4];exact zaa _ _
 have hx4:OBox W4 g4 32 [.bool s1,.slice o1 k1 c1]:=by rw [←hW4,←hg4];exact OBox.new _ _ _
 rw [hW4,hg4];have hm4:=zag.below HM3.out hb4 (fun _ _ ⟨u,e,k⟩=>⟨u,e,zag.below k hb4 (IZ.below hb4)⟩);rw [zak]at hm4;refine(zey _ _ A0 m m m L hm4 h0 h0 (by omega) (Nat.le_refl _) hL HSZ.out).mono ?_;rintro e w5 ⟨vr,vp,s,o,k,c',rfl,hr,hp,hz,hB5⟩;obtain⟨op,cp,rfl,_⟩:=zag.form hp;obtain⟨ov,cv,rfl,_⟩:=zag.form hr;rw [zch,zak];obtain⟨K,hK⟩:∃K,(rRun m A0 m).k=K:=⟨_,rfl⟩;obtain⟨T,hT⟩:∃T,(rRun m A0 m).turns=T:=⟨_,rfl⟩;rw [hK,hT];have hTK:T≤20:=by
  have h1:=zgr m A0 m;have h2:=(zld m A0 m).1;omega
 have HKT:=zHi (And.intro hK hT);have hb35:=hb4.trans (hB5.mono hb4.size);have hx5:=hx4.below hB5;have hx25:=(HX2.out.below HB3.out).below hb35;have hb05:=HB2.out.trans ((HB3.out.trans (hb35.mono HB3.out.size)).mono HB2.out.size);have hb6:=zaa w5 (.cells #[.slice ov m cv,.slice op K cp,.bool s,.slice o k c',.int .i64 (T:Int)] 125);have HX25:=zHi (hx25.below hb6);have HX45:=zHi (hx5.below hb6);have HB06:=zHi (hb05.trans (hb6.mono hb05.size));have HZ6:=zHi (hz.below hb6);have HF6:=zHi ((HZ3.out.below hb35).below hb6);clear hr hp hz hB5 hm4 hb4 hx4 hW4 hg4 hb35 hx5 hx25 hb05 hb6 hK hT;have HX5:Hid (OBox (w5.alloc (.cells #[.slice ov m cv,.slice op K cp,.bool s,.slice o k c',.int .i64 (T:Int)] 125)) w5.heap.size 125 [.slice ov m cv,.slice op K cp,.bool s,.slice o k c',.int .i64 (T:Int)]):=zHi (OBox.new _ _ _);have p0:=HX5.out.box.2 0 _ rfl;have p1:=HX5.out.box.2 1 _ rfl;have p2:=HX5.out.box.2 2 _ rfl;have p3:=HX5.out.box.2 3 _ rfl;have p4:=HX5.out.box.2 4 _ rfl;have q0:=HX45.out.box.2 0 _ rfl;have q1:=HX45.out.box.2 1 _ rfl;by_cases hlt:K<m
 ·gi_wp2_with (gi_at_call 36;refine stop ?_)
  unfold Stop;refine(zhm _).mono ?_;rintro e w7 ⟨v7,rfl,hq7,hB7⟩;obtain⟨s7,o7,k7,c7,o8,k8,c8,rfl⟩:=hq7.form;have hx7:=HX25.out.below hB7;have HTH:=zHi hx7.there;have HOut:=zHi (retQ hx7 hq7 (HB06.out.trans (hB7.mono HB06.out.size)) (by rw [HG2.out];exact Nat.le_refl _));clear hx7 hq7 hB7 p0 p1 p2 p3 p4 q0 q1;gi_wp2_with (with_reducible refine zpq ?_)
  unfold Stop;refine zbe _ rfl rfl (zmj HTH.out (by simp [Value.oneCell'])) ?_;gi_wp2;obtain⟨e1,e2,e3⟩:=HOut.out;refine⟨rfl,.agg #[.bool s7,.slice o7 k7 c7,.bool false,.slice o8 k8 c8],?_,(HR0.out _ _).2 ⟨_,rfl,?_,e3⟩⟩
  ·simp only [Instr.loadAt,Instr.sureAddr,Sem.run_bind,Sem.run_pure,Result.andThen_ok]at e1;simp [results,asAddr,e1]
  ·have:=HDD.out;rw [HKT.out.1,if_pos hlt]at this;rw [←this];exact e2
 ·rcases Nat.mod_two_eq_zero_or_one T with hT2|hT2
  ·have hm1:((T:Int)%2 == 1)=false:=by rw [beq_eq_false_iff_ne];omega
   have hm2:decide ((T:Int)%2=1)=false:=decide_eq_false (by omega);gi_wp2_with (gi_at_call 77;refine stop ?_)
   unfold Stop;refine(zdV _ _ _ _ _ HZ6.out HF6.out (zo6 ((HSZ.out m (Nat.le_refl _)).2.1) hL) (by rw [Int.natAbs_natCast];exact HF9.out) (by omega)).mono ?_;rintro e w7 ⟨v7,rfl,hq7,hB7⟩;obtain⟨s7,o7,k7,c7,o8,k8,c8,rfl⟩:=hq7.form;have hx7:=HX25.out.below hB7;have HTH:=zHi hx7.there;have HOut:=zHi (retQ hx7 hq7 (HB06.out.trans (hB7.mono HB06.out.size)) (by rw [HG2.out];exact Nat.le_refl _));clear hx7 hq7 hB7 p0 p1 p2 p3 p4 q0 q1;gi_wp2_with (with_reducible refine zpq ?_)
   unfold Stop;refine zbe _ rfl rfl (zmj HTH.out (by simp [Value.oneCell'])) ?_;gi_wp2;obtain⟨e1,e2,e3⟩:=HOut.out;refine⟨rfl,.agg #[.bool s7,.slice o7 k7 c7,.bool false,.slice o8 k8 c8],?_,(HR0.out _ _).2 ⟨_,rfl,?_,e3⟩⟩
   ·simp only [Instr.loadAt,Instr.sureAddr,Sem.run_bind,Sem.run_pure,Result.andThen_ok]at e1;simp [results,asAddr,e1]
   ·have:=HDD.out;rw [HKT.out.1,if_neg hlt,HKT.out.2]at this;rw [←this,show pm T=1 by unfold pm;rw [if_pos hT2],Rat.one_mul];exact e2
  ·have hm1:((T:Int)%2 == 1)=true:=by rw [beq_iff_eq];omega
   have hm2:decide ((T:Int)%2=1)=true:=decide_eq_true (by omega);gi_wp2;have hbd:=zab (w5.alloc (.cells #[.slice ov m cv,.slice op K cp,.bool s,.slice o k c',.int .i64 (T:Int)] 125));obtain⟨W1,hW1⟩:∃W,(w5.alloc (.cells #[.slice ov m cv,.slice op K cp,.bool s,.slice o k c',.int .i64 (T:Int)] 125)).drew=W:=⟨_,rfl⟩;rw [hW1]at hbd;have hx5:=HX5.out.below hbd;have hx4:=HX45.out.below hbd;have hx2:=HX25.out.below hbd;have hz:=HZ6.out.below hbd;have hf:=HF6.out.below hbd;have hb:=HB06.out.trans (hbd.mono HB06.out.size);refine zap (ro:=none) [2,4,5] [0,1,3,2,4,5] [0,1,3,0,15,31] zaq rfl 35 rfl (by kernel_rfl) (by kernel_rfl) ?_;rw [hW1];refine OV.fld (p:=⟨w5.heap.size,0,none⟩) zs2 rfl rfl rfl rfl ?_;refine OV.ldn [.bool s,.slice o k c'] lm32 (ze1 (o:=2) (hx5.box.2 2 _ rfl) (hx5.box.2 3 _ rfl)) rfl rfl rfl rfl rfl (by decide) rfl ?_;refine OV.ldn [.bool s1,.slice o1 k1 c1] lm32 hx4.box.at' rfl rfl rfl rfl rfl (by decide) rfl ?_;refine OV.call [.agg #[.bool s,.slice o k c']] Tryz.func85 rfl zai rfl rfl rfl rfl rfl (ziU _ _ _ hz (zkT ((HSZ.out m (Nat.le_refl _)).2.1) hL)) fun v2 w2 h2 hB2 => ?_
   refine OV.call [v2,.agg #[.bool s1,.slice o1 k1 c1]] Tryz.func77 rfl zai rfl rfl rfl rfl rfl (zdV _ _ _ _ _ h2 (hf.below hB2) (by rw [Int.natAbs_neg];exact zo6 ((HSZ.out m (Nat.le_refl _)).2.1) hL) (by rw [Int.natAbs_natCast];exact HF9.out) (by omega)) fun v3 w3 hq3 hB3 => ?_
   obtain⟨s7,o7,k7,c7,o8,k8,c8,rfl⟩:=hq3.form;have hb13:=hB2.trans (hB3.mono hB2.size);have hx3:=hx2.below hb13;have HOut:=zHi (retQ hx3 hq3 (hb.trans (hb13.mono hb.size)) (by rw [HG2.out];exact Nat.le_refl _));refine OV.st (w':=w3.setCells g2 0 [.bool s7,.slice o7 k7 c7,.bool false,.slice o8 k8 c8]) trivial (zmj hx3.there (by simp [Value.oneCell'])) rfl rfl rfl rfl rfl ?_;refine OV.done ?_;simp only [za4,Go.Act.put,ztA,ztB,ztC];clear hx3 hb13 hq3 hB3 h2 hB2 hb hf hz hx2 hx4 hx5 hbd hW1 p0 p1 p2 p3 p4 q0 q1;gi_wp2;obtain⟨e1,e2,e3⟩:=HOut.out;refine⟨rfl,.agg #[.bool s7,.slice o7 k7 c7,.bool false,.slice o8 k8 c8],?_,(HR0.out _ _).2 ⟨_,rfl,?_,e3⟩⟩
   ·simp only [Instr.loadAt,Instr.sureAddr,Sem.run_bind,Sem.run_pure,Result.andThen_ok]at e1;simp [results,asAddr,e1]
   ·have:=HDD.out;rw [HKT.out.1,if_neg hlt,HKT.out.2]at this;rw [←this,show pm T = -1 by unfold pm;rw [if_neg (by omega)]];rw [Rat.intCast_neg]at e2;have e:(-((rRun m A0 m).last:Rat))/((F:Int):Rat) = -1*((rRun m A0 m).last:Rat)/(F:Rat):=by
     rw [show(-1:Rat)*((rRun m A0 m).last:Rat) = -((rRun m A0 m).last:Rat)by grind];rfl
    rw [←e];exact e2
structure zo3(w:World)(g m N:Nat)(A:Nat→Nat→Int)(cs:List Nat)(ar:Addr)(cr:Nat)(op:Option Addr)(cp:Nat):Prop where
 rows:w.cell? ⟨g,0,none⟩=some (.slice (some ar) m cr)
 piv:w.cell? ⟨g,1,none⟩=some (.slice op cs.length cp)
 mat:MatZ w (.slice (some ar) m cr) (tab m N A)
 pv:zag w 3 1 II (.slice op cs.length cp) cs
section
variable {w w':World} {g m N:Nat} {A:Nat→Nat→Int} {cs:List Nat} {ar:Addr} {cr:Nat} {op:Option Addr} {cp:Nat}
theorem zeW.below(h:Below w.heap.size w w'):∀q r,zeW q r w→zeW q r w':=fun _ _ ⟨u,e,k⟩=>⟨u,e,zag.below k h (IZ.below h)⟩
theorem zo3.below(h:zo3 w g m N A cs ar cr op cp)(hb:Below w.heap.size w w'):zo3 w' g m N A cs ar cr op cp:=
 ⟨(hb.cell (World.block_lt_of_cell? _ _ h.rows)).trans h.rows,(hb.cell (World.block_lt_of_cell? _ _ h.piv)).trans h.piv,zag.below h.mat hb (zeW.below hb),zag.below h.pv hb (fun _ _ q=>q)⟩
theorem zo3.row(h:zo3 w g m N A cs ar cr op cp){i:Nat}(hi:i<m)(hN:0<N):∃b c,w.cell? (ar.add (i*1))=some (.slice (some b) N c)∧∀j,j<N→∃s o k c',(∀l v,[Value.bool s,.slice o k c'][l]? = some v→w.cell? ((b.add (j*2)).add l)=some v)∧ZAt w (.agg #[.bool s,.slice o k c']) (A i j):=by
 obtain⟨_,row,_,hcell,u,rfl,hu⟩:=zag.at' h.mat (zbD hi);have x0:=hcell 0 u rfl;rw [zco]at x0;obtain⟨b,c,rfl⟩:=zag.some hu (by simpa using hN);rw [List.length_map,List.length_range]at x0 hu;refine⟨b,c,x0,fun j hj => ?_⟩;obtain⟨_,row,_,hc,hz⟩:=zag.at' hu (show((List.range N).map (A i))[j]? = some (A i j)by simp [hj]);obtain⟨s,o,k,c',rfl,hz'⟩:=IZ.pair hz;exact⟨s,o,k,c',hc,hz'⟩
end
theorem zha(m:Nat)(A0:Nat→Nat→Int):∀c,∀x∈zbp m A0 c,x<c
 | 0,x,h=>by cases h
 | c+1,x,h=>by
  unfold zbp at h;split at h
  ·have:=zha m A0 c x h;omega
  ·rcases List.mem_append.1 h with h|h
   ·have:=zha m A0 c x h;omega
   ·have:x=c:=by simpa using h
    omega
theorem zj6(m:Nat)(A0:Nat→Nat→Int):∀c,(zbp m A0 c).Pairwise (· < ·)
 | 0=>List.Pairwise.nil
 | c+1=>by
  unfold zbp;split
  ·exact zj6 m A0 c
  ·rw [List.pairwise_append];exact⟨zj6 m A0 c,by simp,fun a ha b hb=>by rw [show b=c by simpa using hb];exact zha m A0 c a ha⟩
theorem zsH{cs:List Nat}(h:cs.Pairwise (· < ·)){i j p q:Nat}(hij:i<j)(hi:cs[i]? = some p)(hj:cs[j]? = some q):p<q:=by
 obtain⟨h1,e1⟩:=List.getElem?_eq_some_iff.1 hi;obtain⟨h2,e2⟩:=List.getElem?_eq_some_iff.1 hj;have:=List.pairwise_iff_getElem.1 h i j h1 h2 hij;rw [e1,e2]at this;exact this
theorem zsY:zbW Tryz.prog 121:=za9 (by kernel_rfl)
theorem zrZ:zgN Tryz.prog 125 0 0:=ze9 (by kernel_rfl)
theorem zqP(g k:Nat):(⟨g,0,none⟩:Addr).add k=⟨g,k,none⟩:=by rw [Addr.add_lit,Nat.zero_add]
end Go.Num
