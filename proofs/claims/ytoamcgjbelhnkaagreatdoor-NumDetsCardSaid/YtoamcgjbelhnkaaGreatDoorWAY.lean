/-
  Rows of fractions brought to integers. The program's 'Inverse'. The program's 'Inverse': its closure. The reference's 'Quo': its limbs are n
  Conditions: see each statement.
-/
import Derived.Test.YtoamcgjbelhnkaaGreatDoorWAA
import Derived.Test.YtoamcgjbelhnkaaGreatDoorWAX
import Derived.Test.YtoamcgjbelhnkaaGreatDoorWAR
import Derived.Test.YtoamcgjbelhnkaaGreatDoorWAW
set_option maxRecDepth 100000
set_option maxHeartbeats 16000000
namespace Go.Num
open Go.Eng Go.Shelf Go.RowKit Go.Sort Go.Proofs Go.Proofs.YtoamcgjbelhnkaaGreatDoor
attribute [local go_sem] Oper.semAt_some
def zal(A:Nat→Nat→Rat)(n:Nat):Nat→Nat→Rat:=fun i j=>if j<n then A i j else if j-n=i then 1 else 0
def aug(A:Nat→Nat→Rat)(n i j:Nat):List (List Rat):=(List.range n).map fun i'=>rowF (zal A n i') (if i'<i then n+n else if i'=i then n+j else n)
theorem zjb{a b:Nat→Rat}{n:Nat}(h:∀j,j<n→a j=b j):rowF a n=rowF b n:=List.map_congr_left fun j hj=>h j (List.mem_range.1 hj)
theorem zhD(a:Nat→Rat)(n:Nat):rowF a (n+1)=rowF a n ++ [a n]:=by simp [rowF,List.range_succ]
theorem zrR(A:Nat→Nat→Rat)(n:Nat):aug A n 0 0=tab n n A:=by
 refine List.map_congr_left fun i _ => ?_
 show rowF (zal A n i) (if i<0 then n+n else if i=0 then n+0 else n)=rowF (A i) n
 rw [if_neg (Nat.not_lt_zero _),Nat.add_zero,ite_self];exact zjb fun j hj=>by unfold zal;rw [if_pos hj]
theorem zqM{A:Nat→Nat→Rat}{n i j k:Nat}(h:k<n):(aug A n i j)[k]? = some (rowF (zal A n k) (if k<i then n+n else if k=i then n+j else n)):=by simp [aug,h]
theorem zm8{A:Nat→Nat→Rat}{n i j:Nat}(h:i<n):(aug A n i j)[i]? = some (rowF (zal A n i) (n+j)):=by
 rw [zqM h,if_neg (Nat.lt_irrefl _),if_pos rfl]
theorem ziv(A:Nat→Nat→Rat)(n i j:Nat):(aug A n i j).length=n:=by simp [aug]
theorem zoc{A:Nat→Nat→Rat}{n i j:Nat}(h:i<n):(aug A n i j).set i (rowF (zal A n i) (n+j) ++ [zal A n i (n+j)])=aug A n i (j+1):=by
 refine List.ext_getElem? fun k => ?_
 rcases Nat.lt_or_ge k n with hk|hk
 ·by_cases e:k=i
  ·subst e;rw [List.getElem?_set_self (by rw [ziv];exact hk),zm8 hk,←zhD];rfl
  ·rw [List.getElem?_set_ne (Ne.symm e),zqM hk,zqM hk,if_neg e,if_neg e]
 ·rw [List.getElem?_eq_none (by rw [List.length_set,ziv];exact hk),List.getElem?_eq_none (by rw [ziv];exact hk)]
theorem zrS{A:Nat→Nat→Rat}{n i:Nat}:aug A n i n=aug A n (i+1) 0:=by
 refine List.map_congr_left fun k _ => ?_
 show rowF _ (if k<i then n+n else if k=i then n+n else n)=rowF _ (if k<i+1 then n+n else if k=i+1 then n+0 else n)
 congr 1
 by_cases h1:k<i
 ·rw [if_pos h1,if_pos (by omega)]
 ·rw [if_neg h1];by_cases h2:k=i
  ·rw [if_pos h2,if_pos (by omega)]
  ·rw [if_neg h2,if_neg (by omega)];split <;> rfl
theorem zsB(A:Nat→Nat→Rat)(n:Nat):aug A n n 0=tab n (n+n) (zal A n):=by
 refine List.map_congr_left fun i hi => ?_
 show rowF _ (if i<n then n+n else if i=n then n+0 else n)=rowF _ (n+n)
 rw [if_pos (List.mem_range.1 hi)]
theorem OV.lss{K:World→Prop}{ks:List Nat}{nt:Nat}{ops:Array Oper}{bs bars r:List Nat}{i:Nat}{a:CAct}{ov:List (Tmp × Value)}{w:World}{Q:CAct→World→Prop}{t t2:TypeId}{x y:Operand}{p q:Int}{b:Bool}{d:Tmp}{ty:TypeId}{ps:String}{af:Array Edge}(hpq:decide (p<q)=b)
  (ho:ops[i]? = some {op:=.binOp .lss t x y t2,dst:=some d,type:=ty,pos:=ps,after:=af,guard:=none}) (hb:bars.contains i=false) (hd:Nat.blt d nt=true)
  (hx:Go.Eng.look a ov x = .int .i64 p) (hy:Go.Eng.look a ov y = .int .i64 q) (h:OV K ks Tryz.prog nt ops bs bars Q r a ((d,.bool b) :: ov) w):OV K ks Tryz.prog nt ops bs bars Q (i :: r) a ov w:=
 OV.read _ ho rfl hb hd (fun w' _=>by
  rw [←hpq];simp [execOp,hx,hy,binOp,eqGuard,Op.intCmp,Result.andThen,Sem.run_bind,Sem.run_pure,go_sem]) h
theorem lo3:zbW Tryz.prog 3:=za9 (by kernel_rfl)
theorem OwnR.back{w:World}{base b n k cu:Nat}{a:Nat→Rat}(h:OwnR w base 25 3 IR (.slice (some ⟨b,0,none⟩) (n+k) cu) (rowF a (n+k)))(h0:0<k)(h9:k≤1000000000):RowR w (.slice (some ⟨b,n*3,none⟩) k (cu-n)) (rowF (fun j=>a (n+j)) k):=by
 obtain⟨xs,h1,h2,h3,h4⟩:=h;rw [zao]at h1 h2;rcases h1.2 with⟨e,_⟩|⟨g,cap,cur,e,g1,g2,g3,g4,g5,g6⟩
 ·cases e
 injection e with e _ e3;injection e with e;injection e with e _ _;subst e;subst e3;refine .inr ⟨⟨b,n*3,none⟩,cu-n,xs.drop n,by rw [zao],by rw [zao];exact h0,by rw [zao];omega,⟨cur,_,g2⟩,by rw [List.length_drop,h2,zao];omega,fun r hr=>h3 r (List.mem_of_mem_drop hr),fun i row hr j x hx => ?_,fun i row q hr hq => ?_⟩
 ·rw [List.getElem?_drop]at hr;have:=zcD h3 hr hx;have hc:=h1.cells rfl _ _ this;rw [Addr.add_lit];rw [Addr.add_lit]at hc;rw [show n*3+(i*3+j)=0+((n+i)*3+j)by omega];exact hc
 ·rw [List.getElem?_drop]at hr;have hi:i<k:=by
   have:=(List.getElem?_eq_some_iff.1 hq).1;rwa [zao]at this
  rw [zdS hi]at hq
  cases hq
  exact h4 (n+i) row _ hr (zdS (by omega))
theorem ziJ(w:World)(gb gn n:Nat)(v:Value)(A:Nat→Nat→Rat)(hb:w.cell? ⟨gb,0,none⟩=some v)(hn:w.cell? ⟨gn,0,none⟩=some (.int .i64 (n:Int)))(hm:MatR w v (tab n n A))(h0:0<n)(h9:n≤500)(hT:zaS w)(hF:Fine n (n+n) n (zal A n)) :
  CallsIn Fence.wide 0 Tryz.prog 102 #[.pointer (some ⟨gb,0,none⟩),.pointer (some ⟨gn,0,none⟩)] w fun e w'=>∃v',e = .returned v'∧(if(pRun n (zal A n) n).k<n then v' = .slice none 0 0 else(∃a k c,v' = .slice (some a) k c)∧MatR w' v' (tab n n fun i j=>zeh (pRun n (zal A n) n).P (za3 n (zal A n) n) i (n+j)))∧Below w.heap.size w w':=by
 have HM:=zHi hm;have HT:=zHi hT;have HF:=zHi hF;have HB:=zHi hb;have HN:=zHi hn;obtain⟨cs,hcs⟩:∃cs,za3 n (zal A n) n=cs:=⟨_,rfl⟩;obtain⟨P,hP⟩:∃P,zeh (pRun n (zal A n) n).P cs=P:=⟨_,rfl⟩;obtain⟨kk,hkk⟩:∃kk,(pRun n (zal A n) n).k=kk:=⟨_,rfl⟩;rw [hcs,hP,hkk];have HP:=zHi hP;have HCS:=zHi hcs;have HKK:=zHi hkk;obtain⟨a,c,a0,c0,rfl,hx⟩:=zfr hm h0 h0;obtain⟨R0,hR0⟩:∃R:Value→World→Prop,∀v' w',R v' w'↔(if kk<n then v' = .slice none 0 0 else(∃a k c,v' = .slice (some a) k c)∧MatR w' v' (tab n n fun i j=>P i (n+j))):=⟨_,fun _ _=>Iff.rfl⟩;simp only [←hR0];have HR0:=zHi hR0;clear hm hT hF hP hcs hx hkk hR0;refine callsIn_of_wp Tryz.func102 rfl trivial ?_ rfl;simp only [Tryz.ntmps102,ztr,zts,ztt,Nat.reduceAdd,Nat.reduceSub,ztu,ztv,ztw,ztx,zty,ztz];gi_wp2_with (gi_at_call 80;refine stop ?_)
 unfold Stop;refine(zfB w _ _ (tab n n A) [] HM.out (.inl ⟨rfl,none,0,rfl⟩) (by rw [zak];exact h0) (by rw [zak];omega) (fun l hl=>by rw [zgm hl];omega) (by simp)).mono ?_;rintro e w6 ⟨v6,rvs,rfl,hm6,hB6⟩;rw [zgG]at hm6;obtain⟨gm,cm,rfl,hgm1⟩:=hm6.at' h0;have HM6:Hid (∃rvs,zan w6 w.heap.size 64 25 3 IR (.slice (some ⟨gm,0,none⟩) n cm) rvs (aug A n 0 0)):=zHi ⟨rvs,by rw [zrR];exact hm6⟩;have HB6:=zHi hB6;clear hm6 hB6 hb hn;gi_wp2;gi_loopw [14] (fun x14 wr=>∃i:Nat,x14 = .int .i64 (i:Int)∧i≤n∧Hid (∃rvs,zan wr w.heap.size 64 25 3 IR (.slice (some ⟨gm,0,none⟩) n cm) rvs (aug A n i 0))∧Hid (Below w.heap.size w wr)) (fun x _=>n-(intOf x).toNat)
 case atStart=>exact⟨0,rfl,by omega,HM6,HB6⟩
 case round=>
  obtain⟨i,rfl,hi,HMr,HBr⟩:=hrel;clear HM6 HB6;by_cases hin:i<n
  ·have hn2:=(HBr.out.cell (World.block_lt_of_cell? _ _ HN.out)).trans HN.out;gi_wp2;gi_loopw [18] (fun x18 wi=>∃j:Nat,x18 = .int .i64 (j:Int)∧j≤n∧Hid (∃rvs,zan wi w.heap.size 64 25 3 IR (.slice (some ⟨gm,0,none⟩) n cm) rvs (aug A n i j))∧Hid (Below w.heap.size w wi)) (fun x _=>n-(intOf x).toNat)
   case atStart=>exact⟨0,rfl,by omega,HMr,HBr⟩
   case round=>
    obtain⟨j,rfl,hj,HMi,HBi⟩:=hrel;clear HMr HBr;by_cases hjn:j<n
    ·by_cases hij:i=j
     ·subst hij;have hd:((i:Int) == (i:Int))=true:=beq_self_eq_true _;have hd':decide ((i:Int)=(i:Int))=true:=decide_eq_true rfl;gi_wp2_with (gi_at_call 20;refine stop ?_)
      unfold Stop;refine(zlr _ 1 (by decide) (by decide)).mono ?_;rintro e w8 ⟨v8,rfl,hr8,hB8⟩;obtain⟨o1,k1,c1,o2,k2,c2,rfl⟩:=hr8.form;obtain⟨sx,hsx⟩:∃sx,decide ((((1:Int):Rat)).num<0)=sx:=⟨_,rfl⟩;rw [hsx]at hr8;rw [hsx];obtain⟨gx,hgx⟩:∃g,wr.heap.size=g:=⟨_,rfl⟩;have hb0:=zaa wr (.cells #[.bool false,.slice none 0 0,.slice none 0 0] 25);have ha:zaf w8 gx 3 (fun i => [.bool false,.slice none 0 0,.slice none 0 0].getD i (.bool false)):=by
       rw [←hgx];exact(zaf.new wr #[.bool false,.slice none 0 0,.slice none 0 0] 25 (fun i hi=>by
        have:i=0∨i=1∨i=2:=by omega
        rcases this with rfl|rfl|rfl <;> rfl)).below (by simp) hB8
      have hE:Elem w8 gx 25:=by
       rw [←hgx];exact(zas wr #[.bool false,.slice none 0 0,.slice none 0 0] 25).below hB8 (by simp)
      have hb8:Below wr.heap.size wr w8:=hb0.trans (hB8.mono hb0.size);have x0:=(ha 0 (by omega)).1;have x1:=(ha 1 (by omega)).1;have x2:=(ha 2 (by omega)).1;have y0:=(ha 0 (by omega)).2;have y1:=(ha 1 (by omega)).2;have y2:=(ha 2 (by omega)).2;have HA:=zHi ha;have HE:=zHi hE;have HR8:=zHi hr8;have HB8:=zHi hb8;have HGX:=zHi hgx;rw [hgx];clear ha hE hr8 hB8 hb0 hb8 hgx hsx;gi_wp2;obtain⟨W5,hW5⟩:∃W,((w8.setCell ⟨gx,0,none⟩ (.bool sx)).setCell ⟨gx,1,none⟩ (.slice o1 k1 c1)).setCell ⟨gx,2,none⟩ (.slice o2 k2 c2)=W:=⟨_,rfl⟩;have hend:=zm3 (w:=wr) (W:=w8) (a:=.bool sx) (b:=.slice o1 k1 c1) (c:=.slice o2 k2 c2) HA.out HB8.out (by rw [HGX.out];exact Nat.le_refl _);rw [hW5]at hend;have HMx:Hid (∃rvs,zan W5 w.heap.size 64 25 3 IR (.slice (some ⟨gm,0,none⟩) n cm) rvs (aug A n i i)):=zHi (by
       obtain⟨rvs,hm⟩:=HMi.out;exact⟨rvs,hm.below hend.1 (IR.below hend.1)⟩)
      have HBx:=zHi (HBi.out.trans (hend.1.mono HBi.out.size));have HXx:Hid (BoxL W5 gx [.bool sx,.slice o1 k1 c1,.slice o2 k2 c2]):=zHi ⟨hend.2.lt,hend.2⟩;have HRx:Hid (zax W5 (.agg #[.bool sx,.slice o1 k1 c1,.slice o2 k2 c2]) (zal A n i (n+i))):=zHi (by
       have e:zal A n i (n+i)=((1:Int):Rat):=by unfold zal;rw [if_neg (by omega),if_pos (by omega)];rfl
       rw [e,←hW5];exact((HR8.out.setElem (i:=0) (u:=.bool sx) HE.out (by decide)).setElem (i:=1) (u:=.slice o1 k1 c1) (HE.out.setCell _ _) (by decide)).setElem (i:=2) (u:=.slice o2 k2 c2) ((HE.out.setCell _ _).setCell _ _) (by decide))
      rw [hW5];clear hend hW5 x0 x1 x2 y0 y1 y2;have hbd:=zab W5;obtain⟨rvs5,hm5⟩:=HMx.out;have hmd:=hm5.below hbd (IR.below hbd);have hbD:=HBx.out.trans (hbd.mono HBx.out.size);have hXd:=HXx.out.below hbd;have hRd:=HRx.out.below hbd;have hl:rvs5.length=n:=by rw [←hm5.len,ziv]
      obtain⟨WD,hWD⟩:∃W',W5.drew=W':=⟨_,rfl⟩;rw [hWD]at hmd hbD hXd hRd;obtain⟨u,hu⟩:∃u,rvs5[i]? = some u:=⟨_,List.getElem?_eq_getElem (by omega)⟩;obtain⟨g',c',e,_,_,hcu⟩:=hmd.cell hu;injection e with e _ _;injection e with e;injection e with e;subst e;obtain⟨u',w',hrun,hm2,hth,_,hbel,⟨ou,ku,cu,huf⟩,_,_,_,_⟩:=hmd.grow (by rw [hl]) hu (zm8 hin) hbD.size (by rw [zao];omega) (row:=[.bool sx,.slice o1 k1 c1,.slice o2 k2 c2]) (x:=zal A n i (n+i)) rfl hRd 64;subst huf;refine zbH (fun _=>True) [0,1] (fun _ _ _ _=>trivial) (ro:=none) [7,8,10] [0,1,2,3,4,5,6,7,8,9,10] [0,0,0,0,12,28,0,64,252,511,1023] zaq rfl 58 rfl (by kernel_rfl) (by kernel_rfl) trivial ?_;rw [hWD];refine OV.mv (v:=.slice (some ⟨gm,0,none⟩) n cm) rfl rfl rfl rfl ?_;refine OV.mv (v:=.int .i64 (i:Int)) rfl rfl rfl rfl ?_;refine OV.mv (v:=.slice (some ⟨gm,0,none⟩) n cm) rfl rfl rfl rfl ?_;refine OV.mv (v:=.int .i64 (i:Int)) rfl rfl rfl rfl ?_;refine OV.idx zgA hin rfl rfl rfl rfl rfl ?_;refine OV.ld lo64 hcu rfl rfl rfl rfl rfl ?_;refine OV.ldn [.bool sx,.slice o1 k1 c1,.slice o2 k2 c2] lm25 hXd.at' rfl rfl rfl rfl rfl (by decide) rfl ?_;refine OV.put1 (zsi _ _ _ _) (zaa _ _) rfl rfl rfl rfl ?_;refine OV.app trivial hrun rfl rfl rfl rfl rfl rfl ?_;refine OV.idx zgA hin rfl rfl rfl rfl rfl ?_;refine OV.st (w':=w'.setCells gm (i*1) [.slice ou ku cu]) trivial (zcf (by kernel_rfl) rfl rfl hth) rfl rfl rfl rfl rfl ?_;refine OV.done ?_;rw [zoc hin]at hm2;have hb7:=hbel w.heap.size w hbD (Nat.le_refl _);obtain⟨W7,hW7⟩:∃W,w'.setCells gm (i*1) [.slice ou ku cu]=W:=⟨_,rfl⟩;rw [hW7]at hm2 hb7;have HM7:Hid (∃rvs,zan W7 w.heap.size 64 25 3 IR (.slice (some ⟨gm,0,none⟩) n cm) rvs (aug A n i (i+1))):=zHi ⟨_,hm2⟩;have HB7:=zHi hb7;rw [hW7];simp only [za4,Go.Act.put,ztA,ztB,ztC];clear hW7 hm2 hb7 hbel hth hrun hcu hu hRd hXd hbD hmd hm5 hbd hWD;gi_wp2;exact⟨⟨i+1,by go_num,by omega,HM7,HB7⟩,by simp only [intOf];omega⟩
     ·have hd:((i:Int) == (j:Int))=false:=by rw [beq_eq_false_iff_ne];omega
      have hd':decide ((i:Int)=(j:Int))=false:=decide_eq_false (by omega);gi_wp2;obtain⟨W5,hW5⟩:∃W,wr.alloc (.cells #[.bool false,.slice none 0 0,.slice none 0 0] 25)=W:=⟨_,rfl⟩;have hb0:Below wr.heap.size wr W5:=by rw [←hW5];exact zaa _ _
      have HMx:Hid (∃rvs,zan W5 w.heap.size 64 25 3 IR (.slice (some ⟨gm,0,none⟩) n cm) rvs (aug A n i j)):=zHi (by
       obtain⟨rvs,hm⟩:=HMi.out;exact⟨rvs,hm.below hb0 (IR.below hb0)⟩)
      have HBx:=zHi (HBi.out.trans (hb0.mono HBi.out.size));have HXx:Hid (BoxL W5 wr.heap.size [.bool false,.slice none 0 0,.slice none 0 0]):=zHi (by rw [←hW5];exact zaz _ _ _);have HRx:Hid (zax W5 (.agg #[.bool false,.slice none 0 0,.slice none 0 0]) (zal A n i (n+j))):=zHi (by
       have e:zal A n i (n+j)=0:=by unfold zal;rw [if_neg (by omega),if_neg (by omega)]
       rw [e];exact zaK _)
      rw [hW5];clear hb0 hW5;have hbd:=zab W5;obtain⟨rvs5,hm5⟩:=HMx.out;have hmd:=hm5.below hbd (IR.below hbd);have hbD:=HBx.out.trans (hbd.mono HBx.out.size);have hXd:=HXx.out.below hbd;have hRd:=HRx.out.below hbd;have hl:rvs5.length=n:=by rw [←hm5.len,ziv]
      obtain⟨WD,hWD⟩:∃W',W5.drew=W':=⟨_,rfl⟩;rw [hWD]at hmd hbD hXd hRd;obtain⟨u,hu⟩:∃u,rvs5[i]? = some u:=⟨_,List.getElem?_eq_getElem (by omega)⟩;obtain⟨g',c',e,_,_,hcu⟩:=hmd.cell hu;injection e with e _ _;injection e with e;injection e with e;subst e;obtain⟨u',w',hrun,hm2,hth,_,hbel,⟨ou,ku,cu,huf⟩,_,_,_,_⟩:=hmd.grow (by rw [hl]) hu (zm8 hin) hbD.size (by rw [zao];omega) (row:=[.bool false,.slice none 0 0,.slice none 0 0]) (x:=zal A n i (n+j)) rfl hRd 64;subst huf;refine zbH (fun _=>True) [0,1] (fun _ _ _ _=>trivial) (ro:=none) [7,8,10] [0,1,2,3,4,5,6,7,8,9,10] [0,0,0,0,12,28,0,64,252,511,1023] zaq rfl 58 rfl (by kernel_rfl) (by kernel_rfl) trivial ?_;rw [hWD];refine OV.mv (v:=.slice (some ⟨gm,0,none⟩) n cm) rfl rfl rfl rfl ?_;refine OV.mv (v:=.int .i64 (i:Int)) rfl rfl rfl rfl ?_;refine OV.mv (v:=.slice (some ⟨gm,0,none⟩) n cm) rfl rfl rfl rfl ?_;refine OV.mv (v:=.int .i64 (i:Int)) rfl rfl rfl rfl ?_;refine OV.idx zgA hin rfl rfl rfl rfl rfl ?_;refine OV.ld lo64 hcu rfl rfl rfl rfl rfl ?_;refine OV.ldn [.bool false,.slice none 0 0,.slice none 0 0] lm25 hXd.at' rfl rfl rfl rfl rfl (by decide) rfl ?_;refine OV.put1 (zsi _ _ _ _) (zaa _ _) rfl rfl rfl rfl ?_;refine OV.app trivial hrun rfl rfl rfl rfl rfl rfl ?_;refine OV.idx zgA hin rfl rfl rfl rfl rfl ?_;refine OV.st (w':=w'.setCells gm (i*1) [.slice ou ku cu]) trivial (zcf (by kernel_rfl) rfl rfl hth) rfl rfl rfl rfl rfl ?_;refine OV.done ?_;rw [zoc hin]at hm2;have hb7:=hbel w.heap.size w hbD (Nat.le_refl _);obtain⟨W7,hW7⟩:∃W,w'.setCells gm (i*1) [.slice ou ku cu]=W:=⟨_,rfl⟩;rw [hW7]at hm2 hb7;have HM7:Hid (∃rvs,zan W7 w.heap.size 64 25 3 IR (.slice (some ⟨gm,0,none⟩) n cm) rvs (aug A n i (j+1))):=zHi ⟨_,hm2⟩;have HB7:=zHi hb7;rw [hW7];simp only [za4,Go.Act.put,ztA,ztB,ztC];clear hW7 hm2 hb7 hbel hth hrun hcu hu hRd hXd hbD hmd hm5 hbd hWD;gi_wp2;exact⟨⟨j+1,by go_num,by omega,HM7,HB7⟩,by simp only [intOf];omega⟩
    ·have hj2:n=j:=by omega
     subst hj2;gi_wp2;exact⟨⟨i+1,by go_num,by omega,zHi (by rw [←zrS];exact HMi.out),HBi⟩,by simp only [intOf];omega⟩
  ·have hi2:n=i:=by omega
   subst hi2;gi_wp2;have hbd:=zab wr;obtain⟨rvs5,hm5⟩:=HMr.out;rw [zsB]at hm5;have hmd:=hm5.below hbd (IR.below hbd);have hbD:=HBr.out.trans (hbd.mono HBr.out.size);obtain⟨WD,hWD⟩:∃W',wr.drew=W':=⟨_,rfl⟩;rw [hWD]at hmd hbD;have hnD:=(hbD.cell (World.block_lt_of_cell? _ _ HN.out)).trans HN.out;refine zbH (fun W=>W.cell? ⟨gn,0,none⟩=some (.int .i64 (n:Int))) [4] (fun W W' h hb=>(hb.cell (World.block_lt_of_cell? _ _ h)).trans h) (ro:=none) [2] [0,1,4,2,3,5] [0,0,3,7,0,31] zaq rfl 58 rfl (by kernel_rfl) (by kernel_rfl) (by rw [hWD];exact hnD) ?_;rw [hWD];refine OV.mv (v:=.slice (some ⟨gm,0,none⟩) n cm) rfl rfl rfl rfl ?_;refine OV.ld lo3 hnD rfl rfl rfl rfl rfl ?_;refine OV.ldK lo3 hnD (fun _ h=>h) rfl rfl rfl rfl ?_;refine OV.callL (R:=fun v' w'=>(∃b,OwnR w' b 3 1 II v' cs)∧(∃rvs,zan w' w.heap.size 64 25 3 IR (.slice (some ⟨gm,0,none⟩) n cm) rvs (tab n (n+n) P))∧Below w.heap.size w w') [.slice (some ⟨gm,0,none⟩) n cm,.int .i64 (n:Int)] Tryz.func81 rfl zai rfl rfl rfl rfl rfl rfl ((zfZ WD w.heap.size gm cm n (n+n) n (zal A n) h0 (by omega) (by omega) (by omega) (by omega) HT.out.two ⟨_,hmd⟩ (HT.out.below hbD) HF.out.run HF.out.unit HF.out.piv).mono (by
    rintro e w' ⟨v',h1,h2,h3,h4⟩;rw [HCS.out]at h2 h3;rw [HP.out]at h3;exact⟨v',h1,⟨⟨_,h2⟩,h3,hbD.trans h4⟩,((hbD.trans h4).cell (World.block_lt_of_cell? _ _ HN.out)).trans HN.out⟩)) fun v7 w7 h7 => ?_
   obtain⟨⟨b7,hl7⟩,hm7,hb07⟩:=h7;obtain⟨o7,c7,rfl⟩:=hl7.form;have hkl:cs.length=kk:=by rw [←HCS.out,zdE,HKK.out]
   have hk9:kk≤n:=by rw [←HKK.out];exact(zed _ _ _).1
   rw [hkl];refine OV.len u29' rfl rfl rfl rfl ?_;have HM7:=zHi hm7;have HB07:=zHi hb07;clear hl7 hm7 hb07 hnD hbD hmd hm5 hbd hWD hkl;by_cases hkn:kk<n
   ·refine OV.lss (p:=(kk:Int)) (q:=(n:Int)) (b:=true) (decide_eq_true (by omega)) rfl rfl rfl rfl rfl ?_;refine OV.done ?_;simp only [za4,Go.Act.put,ztA,ztB,ztC];gi_wp2;all_goals (first|go_returns|go_ret|go_end0)
    exact⟨_,rfl,(HR0.out _ _).2 (by rw [if_pos hkn];rfl),HB07.out⟩
   ·refine OV.lss (p:=(kk:Int)) (q:=(n:Int)) (b:=false) (decide_eq_false (by omega)) rfl rfl rfl rfl rfl ?_;refine OV.done ?_;simp only [za4,Go.Act.put,ztA,ztB,ztC];gi_wp2;gi_loopw [7,46] (fun x7 x46 wr=>∃i:Nat,x46 = .int .i64 (i:Int)∧i≤n∧Hid (OwnR wr w7.heap.size 64 1 zbv x7 ((tab n n fun i j=>P i (n+j)).take i))∧Hid (Below w7.heap.size w7 wr)) (fun _ x _=>n-(intOf x).toNat)
    case atStart=>exact⟨0,rfl,by omega,OwnR.nil _ _ _ _ _,Below.refl _ _⟩
    case round=>
     obtain⟨i,rfl,hi,HO,HBr⟩:=hrel;by_cases hin:i<n
     ·obtain⟨rvs8,hm8⟩:=HM7.out;have hmr:=hm8.below HBr.out (IR.below HBr.out);have hl:rvs8.length=n:=by rw [←hm8.len,zak]
      obtain⟨u,hu⟩:∃u,rvs8[i]? = some u:=⟨_,List.getElem?_eq_getElem (by omega)⟩;obtain⟨g',c',e,_,_,hcu⟩:=hmr.cell hu;rw [hl]at e;injection e with e _ ec;subst ec;injection e with e;injection e with e;subst e;have hru:=hmr.row i u _ hu (zbD hin);obtain⟨bu,cu,euf,_,_,curu,hcuru⟩:=hru.own (by simp;omega);rw [List.length_map,List.length_range]at euf;subst euf;have hcap:n+n≤cu:=by
       obtain⟨xs,q1,_⟩:=hru;rcases q1.2 with⟨e,_⟩|⟨_,_,_,e,_,_,q2,_⟩
       ·cases e
       ·injection e with e1 e2 e3;rw [←e3]at q2;simpa using q2
      have hback:=OwnR.back (k:=n) hru h0 (by omega);rw [Addr.add_lit,Nat.zero_add,Nat.mul_one]at hcu;have hnr:=((HB07.out.trans (HBr.out.mono HB07.out.size)).cell (World.block_lt_of_cell? _ _ HN.out)).trans HN.out;have HBK:=zHi hback;clear hm8 hmr hl hru hu hback hcuru;have ho:=HO.out;obtain⟨oo,co,hof⟩:=ho.form;have hlen:((tab n n fun i j=>P i (n+j)).take i).length=i:=by rw [List.length_take,zak];omega
      rw [hlen]at hof;have HLen:=zHi hlen;have hnx:(tab n n fun i j=>P i (n+j)).take (i+1)=(tab n n fun i j=>P i (n+j)).take i ++ [rowF (fun j=>P i (n+j)) n]:=by
       rw [List.take_add_one,zbD hin];rfl
      have HNX:=zHi hnx;have HB7x:=zHi HBr.out;subst hof;clear ho hlen hnx;gi_wp2_with (gi_at_builtin;refine stop ?_)
      unfold Stop;refine zbi (ty:=64) (sz:=1) (bytes:=24) wr rfl _ _ rfl Go.Num.u55 i64i i64z i64s i64b rfl (by decide) (by decide) w7.heap.size HBr.out.size (.slice oo i co) _ rfl HO.out (rowF (fun j=>P i (n+j)) n) [.slice (some ⟨bu,n*3,none⟩) n (cu-n)] _ rfl rfl (by simp [Value.oneCell']) ⟨_,rfl,HBK.out⟩ (fun b r w1 w2 ht=>zbv.touch ht rfl (by decide) b r) (by rw [HLen.out];omega) ?_;intro v13 w13 HO13 HK13 HB13;have HB14:=zHi (HB13.out w7.heap.size w7 HB7x.out (Nat.le_refl _));have HO14:Hid (OwnR w13 w7.heap.size 64 1 zbv v13 ((tab n n fun i j=>P i (n+j)).take (i+1))):=zHi (by rw [HNX.out];exact HO13.out);gi_wp2;exact⟨⟨i+1,by go_num,by omega,HO14,HB14⟩,by simp only [intOf];omega⟩
     ·have hi2:n=i:=by omega
      subst hi2;have ho:=HO.out;rw [show(tab n n fun i j=>P i (n+j)).take n=tab n n fun i j=>P i (n+j)by rw [List.take_of_length_le (by rw [zak];exact Nat.le_refl _)]]at ho;have HO2:=zHi ho;clear ho;gi_wp2;all_goals (first|go_returns|go_ret|go_end0)
      obtain⟨g,cap,e,_⟩:=HO2.out.own (by rw [zak];exact h0);exact⟨_,rfl,(HR0.out _ _).2 (by rw [if_neg hkn];exact⟨⟨_,_,_,e⟩,HO2.out.row (by rw [zak];omega)⟩),HB07.out.trans (HBr.out.mono HB07.out.size)⟩
end Go.Num
namespace Go.Num
open Go.Eng Go.Shelf Go.RowKit Go.Sort Go.Proofs Go.Proofs.YtoamcgjbelhnkaaGreatDoor
theorem zkt(w:World)(v:Value)(m N:Nat)(A:Nat→Nat→Rat)(hm:MatR w v (tab m N A))(h0:0<m)(hN:0<N)(h9:m≤8∧N≤8)(hc:za5 (tab m N A)=0)(hq:zix m N A)(hT:zaS w)(hne:m≠N) :
  CallsIn Fence.wide 0 Tryz.prog 52 #[v] w fun e w'=>e = .returned (.tuple #[.slice none 0 0,.int .i64 7])∧Below w.heap.size w w':=by
 obtain⟨a,c,a0,c0,rfl,hx⟩:=zfr hm h0 hN;have HM:=zHi hm;have HQ:=zHi (zf9 hq);have HT:=zHi hT;have HC:=zHi hc;have HX:=zHi hx;clear hm hq hT hc hx;refine callsIn_of_wp Tryz.func52 rfl trivial ?_ rfl;simp only [Tryz.ntmps52,ztr,zts,ztt,Nat.reduceAdd,Nat.reduceSub,ztu,ztv,ztw,ztx,zty,ztz];obtain⟨g1,hg1⟩:∃g,w.heap.size=g:=⟨_,rfl⟩;obtain⟨W1,hW1⟩:∃W,w.alloc (.cells #[.slice (some a) m c] 55)=W:=⟨_,rfl⟩;have hb0:Below w.heap.size w W1:=by rw [←hW1];exact zaa _ _
 have y0:W1.cell? ⟨g1,0,none⟩=some (.slice (some a) m c):=by
  rw [←hW1,←hg1];exact(zaz w [.slice (some a) m c] 55).2 0 _ rfl
 have HB0:=zHi hb0;have HY:=zHi y0;clear hb0;gi_wp2_with (gi_at_call 49;refine stop ?_)
 unfold Stop;refine(zdi W1 _ _ (zag.below HM.out HB0.out (zbv.below HB0.out)) HQ.out (HT.out.below HB0.out)).mono ?_;rintro e w2 ⟨rfl,hB2⟩;rw [HC.out];have y2:=(hB2.cell (World.block_lt_of_cell? _ _ y0)).trans y0;have HB2:=zHi (HB0.out.trans (hB2.mono HB0.out.size));have HY2:=zHi y2;clear y0 hB2 hW1 hg1;gi_wp2;obtain⟨W4,hW4⟩:∃W,w2.alloc (.cells #[.int .i64 (m:Int)] 3)=W:=⟨_,rfl⟩;obtain⟨g2,hg2⟩:∃g,w2.heap.size=g:=⟨_,rfl⟩;have hb24:Below w2.heap.size w2 W4:=by rw [←hW4];exact zaa _ _
 have hz4:W4.cell? ⟨g2,0,none⟩=some (.int .i64 (m:Int)):=by
  rw [←hW4,←hg2];exact(zaz w2 [.int .i64 (m:Int)] 3).2 0 _ rfl
 rw [hW4,hg2];have hbd:=zab W4;have hb25:=hb24.trans (hbd.mono hb24.size);have hz5:=(hbd.cell (World.block_lt_of_cell? _ _ hz4)).trans hz4;have hy5:=(hb25.cell (World.block_lt_of_cell? _ _ HY2.out)).trans HY2.out;have hb5:=HB2.out.trans (hb25.mono HB2.out.size);have hx5:=(hb5.cell (World.block_lt_of_cell? _ _ HX.out)).trans HX.out;obtain⟨w5,hw5⟩:∃W,W4.drew=W:=⟨_,rfl⟩;rw [hw5]at hz5 hy5 hx5 hb5;have HB5:=zHi hb5;refine zap (ro:=none) [] [0,1,2,3,4,5] [0,0,2,6,14,31] zaq rfl 34 rfl (by kernel_rfl) (by kernel_rfl) ?_;rw [hw5];clear hw5 hb5 hb25 hbd hz4 hb24 hW4 hg2;refine OV.ld lo3 hz5 rfl rfl rfl rfl rfl ?_;refine OV.ld lo55 hy5 rfl rfl rfl rfl rfl ?_;refine OV.idx it55 (k:=0) h0 rfl rfl rfl rfl rfl ?_;refine OV.ld lo64 hx5 rfl rfl rfl rfl rfl ?_;refine OV.len Go.Num.u64 rfl rfl rfl rfl ?_;refine OV.neq (p:=(m:Int)) (q:=(N:Int)) (b:=true) (by simp;omega) rfl rfl rfl rfl rfl ?_;refine OV.done ?_;simp only [za4,Go.Act.put,ztA,ztB,ztC];gi_wp2;all_goals (first|go_returns|go_ret|go_end0)
 exact⟨rfl,HB5.out⟩
@[local go_sem] theorem eq55 (a:Addr) (n c:Nat) (W:World):(binOp .eql 55 (.slice (some a) n c) (.slice none 0 0)).run Tryz.prog W = .ok (.bool false) W:=by kernel_rfl
@[local go_sem] theorem eq55n (W:World):(binOp .eql 55 (.slice none 0 0) (.slice none 0 0)).run Tryz.prog W = .ok (.bool true) W:=by kernel_rfl
theorem zku(w:World)(v:Value)(n:Nat)(A:Nat→Nat→Rat)(hm:MatR w v (tab n n A))(h0:0<n)(h9:n≤8)(hc:za5 (tab n n A)=0)(hq:zix n n A)(hT:zaS w)(hF:Fine n (n+n) n (zal A n)) :
  CallsIn Fence.wide 0 Tryz.prog 52 #[v] w fun e w'=>∃v',(if(pRun n (zal A n) n).k<n then e = .returned (.tuple #[.slice none 0 0,.int .i64 4])else e = .returned (.tuple #[v',.int .i64 0])∧MatR w' v' (tab n n fun i j=>zeh (pRun n (zal A n) n).P (za3 n (zal A n) n) i (n+j)))∧Below w.heap.size w w':=by
 obtain⟨a,c,a0,c0,rfl,hx⟩:=zfr hm h0 h0;have HM:=zHi hm;have HQ:=zHi (zf9 hq);have HT:=zHi hT;have HC:=zHi hc;have HX:=zHi hx;have HF:=zHi hF;obtain⟨R0,hR0⟩:∃R:Value→World→Prop,∀v' w',R v' w'↔(if(pRun n (zal A n) n).k<n then v' = .slice none 0 0 else(∃a k c,v' = .slice (some a) k c)∧MatR w' v' (tab n n fun i j=>zeh (pRun n (zal A n) n).P (za3 n (zal A n) n) i (n+j))):=⟨_,fun _ _=>Iff.rfl⟩;obtain⟨Q0,hQ0⟩:∃R:Ending→World→Prop,∀e w',R e w'↔∃v',(if(pRun n (zal A n) n).k<n then e = .returned (.tuple #[.slice none 0 0,.int .i64 4])else e = .returned (.tuple #[v',.int .i64 0])∧MatR w' v' (tab n n fun i j=>zeh (pRun n (zal A n) n).P (za3 n (zal A n) n) i (n+j)))∧Below w.heap.size w w':=⟨_,fun _ _=>Iff.rfl⟩;simp only [←hQ0];have HR0:=zHi hR0;have HQ0:=zHi hQ0;clear hm hq hT hc hx hF hR0 hQ0;refine callsIn_of_wp Tryz.func52 rfl trivial ?_ rfl;simp only [Tryz.ntmps52,ztr,zts,ztt,Nat.reduceAdd,Nat.reduceSub,ztu,ztv,ztw,ztx,zty,ztz];obtain⟨g1,hg1⟩:∃g,w.heap.size=g:=⟨_,rfl⟩;obtain⟨W1,hW1⟩:∃W,w.alloc (.cells #[.slice (some a) n c] 55)=W:=⟨_,rfl⟩;have hb0:Below w.heap.size w W1:=by rw [←hW1];exact zaa _ _
 have y0:W1.cell? ⟨g1,0,none⟩=some (.slice (some a) n c):=by
  rw [←hW1,←hg1];exact(zaz w [.slice (some a) n c] 55).2 0 _ rfl
 have HB0:=zHi hb0;have HY:=zHi y0;clear hb0;gi_wp2_with (gi_at_call 49;refine stop ?_)
 unfold Stop;refine(zdi W1 _ _ (zag.below HM.out HB0.out (zbv.below HB0.out)) HQ.out (HT.out.below HB0.out)).mono ?_;rintro e w2 ⟨rfl,hB2⟩;rw [HC.out];have y2:=(hB2.cell (World.block_lt_of_cell? _ _ y0)).trans y0;have HB2:=zHi (HB0.out.trans (hB2.mono HB0.out.size));have HY2:=zHi y2;clear y0 hB2 hW1 hg1;gi_wp2;obtain⟨W4,hW4⟩:∃W,w2.alloc (.cells #[.int .i64 (n:Int)] 3)=W:=⟨_,rfl⟩;obtain⟨g2,hg2⟩:∃g,w2.heap.size=g:=⟨_,rfl⟩;have hb24:Below w2.heap.size w2 W4:=by rw [←hW4];exact zaa _ _
 have hz4:W4.cell? ⟨g2,0,none⟩=some (.int .i64 (n:Int)):=by
  rw [←hW4,←hg2];exact(zaz w2 [.int .i64 (n:Int)] 3).2 0 _ rfl
 rw [hW4,hg2];have hbd:=zab W4;have hb25:=hb24.trans (hbd.mono hb24.size);have hz5:=(hbd.cell (World.block_lt_of_cell? _ _ hz4)).trans hz4;have hy5:=(hb25.cell (World.block_lt_of_cell? _ _ HY2.out)).trans HY2.out;have hb5:=HB2.out.trans (hb25.mono HB2.out.size);have hx5:=(hb5.cell (World.block_lt_of_cell? _ _ HX.out)).trans HX.out;obtain⟨w5,hw5⟩:∃W,W4.drew=W:=⟨_,rfl⟩;rw [hw5]at hz5 hy5 hx5 hb5;have HB5:=zHi hb5;refine zap (ro:=none) [] [0,1,2,3,4,5] [0,0,2,6,14,31] zaq rfl 34 rfl (by kernel_rfl) (by kernel_rfl) ?_;rw [hw5];clear hw5 hb5 hb25 hbd hz4 hb24 hW4 hg2;refine OV.ld lo3 hz5 rfl rfl rfl rfl rfl ?_;refine OV.ld lo55 hy5 rfl rfl rfl rfl rfl ?_;refine OV.idx it55 (k:=0) h0 rfl rfl rfl rfl rfl ?_;refine OV.ld lo64 hx5 rfl rfl rfl rfl rfl ?_;refine OV.len Go.Num.u64 rfl rfl rfl rfl ?_;refine OV.neq (p:=(n:Int)) (q:=(n:Int)) (b:=false) (by simp) rfl rfl rfl rfl rfl ?_;refine OV.done ?_;simp only [za4,Go.Act.put,ztA,ztB,ztC];have hmf:∀(fn:Fn) (first cap:Array Value) (w:World),(Instr.makeFunc fn first cap).run Tryz.prog w = .ok (.func fn first cap) w:=fun _ _ _ _=>rfl
 have HY5:=zHi hy5;have HZ5:=zHi hz5;clear hy5 hz5;gi_wp2_with (gi_at_call 78;refine stop ?_)
 unfold Stop;refine(zlZ w5 102 #[.pointer (some ⟨g1,0,none⟩),.pointer (some ⟨g2,0,none⟩)] (fun v' w'=>R0 v' w') (ec 102 _ Tryz.func102 rfl) (fun v W W' h hf=>(HR0.out _ _).2 (by
   have h:=(HR0.out _ _).1 h;split at h
   ·rename_i q;rw [if_pos q];exact h
   ·rename_i q;rw [if_neg q];exact⟨h.1,MatR.frx h.2 hf (fun b=>by decide) (fun b=>by decide) (fun b e he q=>by rcases q with rfl|rfl <;> cases he)⟩)) (fun W hW => ?_)).mono ?_
 ·have hbW:=HB5.out.trans (hW.mono HB5.out.size);refine(ziJ W g1 g2 n (.slice (some a) n c) A ((hW.cell (World.block_lt_of_cell? _ _ HY5.out)).trans HY5.out) ((hW.cell (World.block_lt_of_cell? _ _ HZ5.out)).trans HZ5.out) (zag.below HM.out hbW (zbv.below hbW)) h0 (by omega) (HT.out.below hbW) HF.out).mono ?_;rintro e w' ⟨v',rfl,h1,h2⟩;refine⟨v',rfl,⟨?_,(HR0.out _ _).2 h1⟩,h2⟩;split at h1
  ·exact⟨_,_,_,h1⟩
  ·obtain⟨⟨a,k,c,e⟩,_⟩:=h1;exact⟨_,_,_,e⟩
 rintro e w6 ⟨v6,rfl,hr6,hB6⟩;have HB6:=zHi (HB5.out.trans (hB6.mono HB5.out.size));have hr:=(HR0.out _ _).1 hr6;by_cases hk:(pRun n (zal A n) n).k<n
 ·rw [if_pos hk]at hr;subst hr;clear hB6 hr6;gi_wp2;exact(HQ0.out _ _).2 ⟨.slice none 0 0,by rw [if_pos hk];rfl,HB6.out⟩
 ·rw [if_neg hk]at hr;obtain⟨⟨a6,k6,c6,rfl⟩,hmr⟩:=hr;have HMR:=zHi hmr;clear hB6 hr6 hmr;gi_wp2;exact(HQ0.out _ _).2 ⟨_,by rw [if_neg hk];exact⟨rfl,HMR.out⟩,HB6.out⟩
end Go.Num
namespace Go.Num
open Go.Eng Go.Shelf Go.RowKit Go.Proofs Go.Proofs.YtoamcgjbelhnkaaGreatDoor
def zr1(b:Nat)(v:Value):Prop:=∃x m,v = .agg #[x,m]∧zcX b m
theorem zog(w:World)(u v:Value)(x y:Int)(L:Nat)(hu:ZAt w u x)(hv:ZAt w v y)(hx:x.natAbs<B^L)(hy:y.natAbs<B^L)(hL:L≤100000)(hy0:y.natAbs≠0) :
  CallsIn Fence.wide 0 Tryz.prog 119 #[u,v] w fun e w'=>∃v',e = .returned v'∧(ZAt w' v' (sgn (decide (x<0) != decide (y<0)) (x.natAbs/y.natAbs))∧zr1 w.heap.size v')∧Below w.heap.size w w':=by
 obtain⟨mu,rfl,hmu⟩:=hu;obtain⟨mv,rfl,hmv⟩:=hv;obtain⟨ou,ku,cu,rfl,_,_⟩:=zaD hmu;obtain⟨ov,kv,cv,rfl,_,_⟩:=zaD hmv;have HMU:=zHi hmu;have HMV:=zHi hmv;have HX:=zHi hx;have HY:=zHi hy;clear hmu hmv hx hy;obtain⟨sx,hsx⟩:∃s,decide (x<0)=s:=⟨_,rfl⟩;obtain⟨sy,hsy⟩:∃s,decide (y<0)=s:=⟨_,rfl⟩;rw [hsx,hsy];refine callsIn_of_wp Tryz.func119 rfl trivial ?_ rfl;simp only [Tryz.ntmps119,ztr,zts,ztt,Nat.reduceAdd,Nat.reduceSub,ztu,ztv,ztw,ztx,zty,ztz];obtain⟨g1,hg1⟩:∃g,w.heap.size=g:=⟨_,rfl⟩;obtain⟨W1,hW1⟩:∃W,((w.alloc (.cells #[.bool sx,.slice ou ku cu] 32)).alloc (.cells #[.bool sy,.slice ov kv cv] 32)).alloc (.cells #[.bool false,.slice none 0 0] 32)=W:=⟨_,rfl⟩;have hb1:Below w.heap.size w W1:=by rw [←hW1];exact((zaa _ _).alloc (by simp) _).alloc (by simp;omega) _
 have x1:BoxL W1 g1 [.bool sx,.slice ou ku cu]:=by
  rw [←hW1,←hg1];exact((zaz w [.bool sx,.slice ou ku cu] 32).below (zaa _ (.cells #[.bool sy,.slice ov kv cv] 32))).below (zaa _ _)
 have x2:BoxL W1 (g1+1) [.bool sy,.slice ov kv cv]:=by
  rw [←hW1,←hg1];have:=(zaz (w.alloc (.cells #[.bool sx,.slice ou ku cu] 32)) [.bool sy,.slice ov kv cv] 32).below (zaa _ (.cells #[.bool false,.slice none 0 0] 32));rw [World.size_alloc]at this;exact this
 have a3:zaf W1 (g1+1+1) 2 (fun i => [.bool false,.slice none 0 0].getD i (.bool false)):=by
  rw [←hW1,←hg1];have:=zaf.new ((w.alloc (.cells #[.bool sx,.slice ou ku cu] 32)).alloc (.cells #[.bool sy,.slice ov kv cv] 32)) #[.bool false,.slice none 0 0] 32 (n:=2) (f:=fun i => [.bool false,.slice none 0 0].getD i (.bool false)) (fun i hi=>by
   have:i=0∨i=1:=by omega
   rcases this with rfl|rfl <;> rfl)
  rw [World.size_alloc,World.size_alloc]at this;exact this
 have e3:Elem W1 (g1+1+1) 32:=by
  rw [←hW1,←hg1];have:=zas ((w.alloc (.cells #[.bool sx,.slice ou ku cu] 32)).alloc (.cells #[.bool sy,.slice ov kv cv] 32)) #[.bool false,.slice none 0 0] 32;rw [World.size_alloc,World.size_alloc]at this;exact this
 have HB1:=zHi hb1;have HX1:=zHi x1;have HX2:=zHi x2;have HA3:=zHi a3;have HE3:=zHi e3;have HG1:=zHi hg1;have p0:=x1.2 0 _ rfl;have p1:=x1.2 1 _ rfl;have q0:=x2.2 0 _ rfl;have q1:=x2.2 1 _ rfl;clear hb1 x1 x2 a3 e3;gi_wp2_with (gi_at_call 151;refine stop ?_)
 unfold Stop;refine(zjy W1 _ _ x.natAbs y.natAbs L (HMU.out.below HB1.out) (HMV.out.below HB1.out) (by omega) HX.out HY.out (by omega)).mono ?_;rintro e w2 ⟨vq,vr,rfl,⟨hq,hfq⟩,_,hB2⟩;have p0':=(hB2.cell HX1.out.1).trans p0;have q0':=(hB2.cell HX2.out.1).trans q0;have HQ:=zHi hq;have HFQ:=zHi (hfq.mono HB1.out.size);have HB2:=zHi hB2;clear p0 p1 q0 q1 hW1 hg1 hq hfq hB2;have hbx:∀a b:Bool,decide (a≠b)=(a != b):=fun a b=>by cases a <;> cases b <;> rfl
 gi_wp2_with (gi_at_call 75;refine stop ?_)
 unfold Stop;refine(znQ w2 _ vq _ HQ.out).mono ?_;rintro e w3 ⟨v3,rfl,⟨hz,x3,rfl⟩,hB3⟩;obtain⟨z,hzz⟩:∃z,sgn (!sx == sy) (x.natAbs/y.natAbs)=z:=⟨_,rfl⟩;have hz':sgn (sx != sy) (x.natAbs/y.natAbs)=z:=by rw [←hzz];cases sx <;> cases sy <;> rfl
 have HZ':=zHi hz';rw [hzz]at hz;obtain⟨m,e,hm⟩:=hz;have e:x3 = .bool (decide (z<0))∧vq=m:=by simpa using e
 obtain⟨rfl,rfl⟩:=e;obtain⟨oq,kq,cq,rfl,_,_⟩:=zaD hm;obtain⟨sz,hsz⟩:∃s,decide (z<0)=s:=⟨_,rfl⟩;have HZ:Hid (ZAt w3 (.agg #[.bool sz,.slice oq kq cq]) z):=zHi ⟨_,by rw [hsz],hm⟩;have hb13:=HB2.out.trans (hB3.mono HB2.out.size);have ha:=HA3.out.below HE3.out.lt hb13;have he:=HE3.out.below hb13 HE3.out.lt;have HB13:=zHi hb13;have HA:=zHi ha;have HE:=zHi he;rw [hsz];have r0:=(ha 0 (by omega)).1;have r1:=(ha 1 (by omega)).1;have t0:=(ha 0 (by omega)).2;have t1:=(ha 1 (by omega)).2;clear hm hb13 ha he hB3 hsz hz' hzz p0' q0' hbx;gi_wp2;have hx:=(HA.out.set (i:=0) (by omega) (.bool sz)).set (i:=1) (by omega) (.slice oq kq cq);have l32:zcp Tryz.prog 32 2:=zbS (by kernel_rfl) (by kernel_rfl);refine⟨rfl,.agg #[.bool sz,.slice oq kq cq],?_,_,rfl,⟨?_,⟨_,_,rfl,HFQ.out⟩⟩,?_⟩
 ·have e1:=l32 (g1+1+1) [.bool sz,.slice oq kq cq] ((w3.setCell ⟨g1+1+1,0,none⟩ (.bool sz)).setCell ⟨g1+1+1,1,none⟩ (.slice oq kq cq)) rfl (fun j v hj=>by
   match j,hj with
   | 0,hj=>rw [←hj];exact(hx 0 (by omega)).1
   | 1,hj=>rw [←hj];exact(hx 1 (by omega)).1
   | n+2,hj=>simp at hj)
  simp only [Instr.loadAt,Instr.sureAddr,Sem.run_bind,Sem.run_pure,Result.andThen_ok]at e1;simp [results,asAddr,e1]
 ·rw [HZ'.out];obtain⟨m,e,hm⟩:=HZ.out;exact⟨m,e,(hm.setElem HE.out (by decide)).setElem (HE.out.setCell _ _) (by decide)⟩
 ·have hw:=HB1.out.trans (HB13.out.mono HB1.out.size);have hg:=HG1.out;exact(hw.setCell (p:=⟨g1+1+1,0,none⟩) (show w.heap.size≤g1+1+1 by omega) _).setCell (p:=⟨g1+1+1,1,none⟩) (show w.heap.size≤g1+1+1 by omega) _
end Go.Num
namespace Go.Num
def facF(q:Nat→Rat):Nat→Nat
 | 0=>1
 | j+1=>facF q j*((q j).den/Nat.gcd (facF q j) (q j).den)
theorem zhg(q:Nat→Rat):∀n,0<facF q n
 | 0=>Nat.one_pos
 | n+1=>by
  have h1:=zhg q n;have h2:=(q n).den_pos;refine Nat.mul_pos h1 (Nat.div_pos (Nat.le_of_dvd h2 (Nat.gcd_dvd_right _ _)) (Nat.gcd_pos_of_pos_left _ h1))
theorem zrA(q:Nat→Rat)(n:Nat):facF q (n+1)=Nat.lcm (facF q n) (q n).den:=by
 show facF q n*((q n).den/Nat.gcd (facF q n) (q n).den)=_
 unfold Nat.lcm;rw [Nat.mul_div_assoc _ (Nat.gcd_dvd_right _ _)]
theorem znW(q:Nat→Rat):∀{n j:Nat},j<n→(q j).den∣facF q n
 | n+1,j,h=>by
  rw [zrA];rcases Nat.lt_or_ge j n with hj|hj
  ·exact Nat.dvd_trans (znW q hj) (Nat.dvd_lcm_left _ _)
  ·have:j=n:=by omega
   rw [this];exact Nat.dvd_lcm_right _ _
theorem zgC{q:Nat→Rat}{D:Nat}:∀{n:Nat},(∀j,j<n→(q j).den≤D)→facF q n≤D^n
 | 0,_=>Nat.le_refl _
 | n+1,h=>by
  rw [Nat.pow_succ];exact Nat.mul_le_mul (zgC fun j hj=>h j (by omega)) (Nat.le_trans (Nat.div_le_self _ _) (h n (Nat.lt_succ_self _)))
def za2(q:Nat→Rat)(n j:Nat):Int:=(q j).num*((facF q n/(q j).den:Nat):Int)
theorem zor(q:Nat→Rat){n j:Nat}(h:j<n):(za2 q n j:Rat)=(facF q n:Rat)*q j:=by
 obtain⟨d,hd⟩:=znW q h;have hp:=(q j).den_pos;unfold za2;rw [hd,Nat.mul_div_cancel_left _ hp,Rat.intCast_mul];have e:q j=((q j).num:Rat)/(((q j).den:Int):Rat):=by rw [←Rat.divInt_eq_div,Rat.num_divInt_den]
 have hden:(((q j).den:Int):Rat)≠0:=fun h0=>by
  have:((q j).den:Int)=0:=Rat.intCast_inj.1 (by rw [h0];rfl);omega
 have h2:(((q j).den*d:Nat):Rat)=(((q j).den:Int):Rat)*((d:Int):Rat):=by
  rw [←Rat.intCast_mul];rfl
 rw [h2];generalize ((q j).num:Rat)=a at *
 generalize (((q j).den:Int):Rat)=b at *
 generalize ((d:Int):Rat)=c at *
 rw [e];grind
theorem zq8{q:Nat→Rat}{n j D X:Nat}(h:j<n)(hD:∀j,j<n→(q j).den≤D)(hX:(q j).num.natAbs≤X):(za2 q n j).natAbs≤X*D^n:=by
 unfold za2;rw [Int.natAbs_mul,Int.natAbs_natCast];exact Nat.mul_le_mul hX (Nat.le_trans (Nat.div_le_self _ _) (zgC hD))
theorem zmR{q:Nat→Rat}{n:Nat}:RatB 1 (facF q n) (1/(facF q n:Rat))∧(1/(facF q n:Rat))≠0:=by
 have hp:=zhg q n;have h0:(facF q n:Rat)≠0:=fun h=>by
  have:((facF q n:Int):Rat)=((0:Int):Rat):=h;have:=Rat.intCast_inj.1 this;omega
 refine⟨⟨1,(facF q n:Int),by omega,rfl,Nat.le_refl _,by rw [Int.natAbs_natCast];exact Nat.le_refl _⟩,?_⟩;grind
end Go.Num
namespace Go.Num
open Go.Eng Go.Shelf Go.RowKit Go.Sort Go.Proofs Go.Proofs.YtoamcgjbelhnkaaGreatDoor
attribute [local go_sem] Oper.semAt_some
def IZ(z:Int)(r:List Value)(w:World):Prop:=ZAt w (.agg r.toArray) z
def rowZ(a:Nat→Int)(n:Nat):List Int:=(List.range n).map a
theorem zsd{a:Nat→Int}{n j:Nat}(h:j<n):(rowZ a n)[j]? = some (a j):=by simp [rowZ,h]
theorem zcg(a:Nat→Int)(n:Nat):(rowZ a n).length=n:=by simp [rowZ]
theorem zpD(a:Nat→Int)(n:Nat):rowZ a (n+1)=rowZ a n ++ [a n]:=by simp [rowZ,List.range_succ]
theorem ZAt.kept{w w':World}{v:Value}{z:Int}(h:ZAt w v z)(hk:Go.Eng.Kept rs3 w w'):ZAt w' v z:=by
 obtain⟨m,e,hm⟩:=h;exact⟨m,e,hm.kept hk rfl⟩
theorem IZ.below{w w':World}(h:Below w.heap.size w w'):∀q r,IZ q r w→IZ q r w':=fun _ _ k=>ZAt.below k h
theorem IZ.touch{ty:TypeId}{w w':World}(ht:Touch ty w w')(hty:rs3.contains ty=false):∀q r,IZ q r w→IZ q r w':=fun _ _ h=>ZAt.kept h (ht.kept hty)
theorem ZAt.form{w:World}{v:Value}{z:Int}(h:ZAt w v z):∃s o k c,v = .agg #[.bool s,.slice o k c]:=by
 obtain⟨m,e,hm⟩:=h;obtain⟨o,k,c,rfl,_,_⟩:=zaD hm;exact⟨_,o,k,c,e⟩
theorem u128:Tryz.prog.underlying 128=some (.slice 32):=by kernel_rfl
theorem i32':Tryz.prog.info? 32=some Tryz.t32:=by kernel_rfl
theorem i32z:Tryz.t32.zero=some (.agg #[.bool false,.slice none 0 0]):=by kernel_rfl
theorem i32s:Tryz.t32.size=2:=by kernel_rfl
theorem i32b:Tryz.t32.bytes=32:=by kernel_rfl
theorem lm32:zgh Tryz.prog 32 2:=zft (by kernel_rfl) (by kernel_rfl)
theorem it63:zgi Tryz.prog 63 4:=zdg Go.Num.u63 i34 i34s
theorem zsu:zgN Tryz.prog 34 1 2:=ze9 (by kernel_rfl)
theorem ztn:zgN Tryz.prog 34 0 0:=ze9 (by kernel_rfl)
theorem zgo{w:World}{b o:Nat}{x y:Value}(ht:w.there b o 2)(h1:#[x,y].all (·.oneCell')=true):(Instr.storeAt 32 (.pointer (some ⟨b,o,none⟩)) (.agg #[x,y])).run Tryz.prog w = .ok () (w.setCells b o [x,y]):=
 run_storeAt_mid w b o 32 #[x,y] ht (by kernel_rfl) h1
theorem zsU(w:World)(a b:Value):(Instr.buildSlice 128 1 #[(0,.agg #[a,b])]).run Tryz.prog w = .ok (.slice (some ⟨w.heap.size,0,none⟩) 1 1) (w.alloc (.cells #[a,b] 32)):=by
 simp [Instr.buildSlice,u128,underlying,sizeOf,typeInfo,i32',i32s,i32z,Sem.run_bind,Sem.run_pure,Result.andThen,go_sem,zeroValue,Value.cells]
structure ZBox(w:World)(g:Nat)(z:Int):Prop where
 at':∃s o k c,BoxL w g [.bool s,.slice o k c]∧ZAt w (.agg #[.bool s,.slice o k c]) z
 free:∀j,j<2→w.frozen? ⟨g,j,none⟩=false
 el:Elem w g 32
theorem ZBox.below{w w':World}{g:Nat}{z:Int}(h:ZBox w g z)(hb:Below w.heap.size w w'):ZBox w' g z:=by
 obtain⟨s,o,k,c,h1,h2⟩:=h.at';exact⟨⟨s,o,k,c,h1.below hb,h2.below hb⟩,fun j hj=>(hb.frozen (p:=⟨g,j,none⟩) h.el.lt).trans (h.free j hj),h.el.below hb h.el.lt⟩
theorem ZBox.there{w:World}{g:Nat}{z:Int}(h:ZBox w g z):w.there g 0 2:=by
 obtain⟨s,o,k,c,h1,h2⟩:=h.at';intro j hj;rw [Nat.zero_add];refine⟨?_,h.free j hj⟩;have:j=0∨j=1:=by omega
 rcases this with rfl|rfl
 ·rw [h1.2 0 _ rfl];rfl
 ·rw [h1.2 1 _ rfl];rfl
theorem ZBox.new{w:World}{s:Bool}{o:Option Addr}{k c:Nat}{z:Int}(h:ZAt w (.agg #[.bool s,.slice o k c]) z):ZBox (w.alloc (.cells #[.bool s,.slice o k c] 32)) w.heap.size z:=
 ⟨⟨s,o,k,c,zaz w [.bool s,.slice o k c] 32,h.below (zaa _ _)⟩,fun j _=>World.frozen?_alloc_new _ _ _ _,zas _ _ _⟩
theorem ZBox.store{w:World}{g:Nat}{z z':Int}(h:ZBox w g z){s:Bool}{o:Option Addr}{k c:Nat}(hz:ZAt w (.agg #[.bool s,.slice o k c]) z'):ZBox (w.setCells g 0 [.bool s,.slice o k c]) g z'∧ButB g w (w.setCells g 0 [.bool s,.slice o k c])∧Go.Eng.Kept rs3 w (w.setCells g 0 [.bool s,.slice o k c]):=by
 obtain⟨s0,o0,k0,c0,h1,h2⟩:=h.at';have hb:=zah g [.bool s,.slice o k c] 0 w;have hk:=hb.kept h.el rfl;have ha:zaf w g 2 (fun i => [.bool s0,.slice o0 k0 c0].getD i (.bool false)):=fun i hi=>by
  have:i=0∨i=1:=by omega
  rcases this with rfl|rfl
  ·exact⟨h1.2 0 _ rfl,h.free 0 (by omega)⟩
  ·exact⟨h1.2 1 _ rfl,h.free 1 (by omega)⟩
 have ha':=(ha.set (i:=0) (by omega) (.bool s)).set (i:=1) (by omega) (.slice o k c);refine⟨⟨⟨s,o,k,c,⟨Nat.lt_of_lt_of_le h.el.lt hb.size,fun j v hj => ?_⟩,hz.kept hk⟩,fun j hj=>(ha' j hj).2,(h.el.setCell _ _).setCell _ _⟩,hb,hk⟩;match j,hj with
 | 0,hj=>rw [←hj];exact(ha' 0 (by omega)).1
 | 1,hj=>rw [←hj];exact(ha' 1 (by omega)).1
 | n+2,hj=>simp at hj
theorem up{x a b:Nat}(h:x<B^a)(hab:a≤b):x<B^b:=Nat.lt_of_lt_of_le h (zaj hab)
theorem zpP(a b:Nat):sgn (decide ((a:Int)<0) != decide ((b:Int)<0)) ((a:Int).natAbs/(b:Int).natAbs)=((a/b:Nat):Int):=by
 rw [decide_eq_false (show ¬(a:Int)<0 by omega),decide_eq_false (show ¬(b:Int)<0 by omega),Int.natAbs_natCast,Int.natAbs_natCast];rfl
theorem RowQ.parts{w:World}{a:Addr}{n c i:Nat}{q:Nat→Rat}(h:RowQ w (.slice (some a) n c) (rowF q n))(hi:i<n):∃s1 o1 k1 c1 o2 k2 c2,
  (∀j v,[Value.bool s1,.slice o1 k1 c1][j]? = some v→w.cell? (((a.add (i*4)).add 0).add j)=some v)∧(∀j v,[Value.bool false,.slice o2 k2 c2][j]? = some v→w.cell? (((a.add (i*4)).add 2).add j)=some v) ∧
  ZAt w (.agg #[.bool s1,.slice o1 k1 c1]) (q i).num∧ZAt w (.agg #[.bool false,.slice o2 k2 c2]) ((q i).den:Int):=by
 obtain⟨_,row,hrl,hcell,hIQ⟩:=zag.at' h (zdS hi);obtain⟨m1,m2,e,h1,h2⟩:=hIQ;obtain⟨o1,k1,c1,rfl,_,_⟩:=zaD h1;obtain⟨o2,k2,c2,rfl,_,_⟩:=zaD h2;have hrow:row = [.bool (decide ((q i).num<0)),.slice o1 k1 c1,.bool false,.slice o2 k2 c2]:=by
  injection e with e;have:=congrArg Array.toList e;simpa using this
 subst hrow;refine⟨_,o1,k1,c1,o2,k2,c2,fun j v hj => ?_,fun j v hj => ?_,⟨_,rfl,h1⟩,⟨_,by rw [decide_eq_false (by omega)],by rw [Int.natAbs_natCast];exact h2⟩⟩
 ·rw [Addr.add_add (a.add (i*4)),Nat.zero_add];match j,hj with
  | 0,hj=>exact hcell 0 v hj
  | 1,hj=>exact hcell 1 v hj
  | n+2,hj=>simp at hj
 ·rw [Addr.add_add (a.add (i*4))];match j,hj with
  | 0,hj=>exact hcell 2 v hj
  | 1,hj=>exact hcell 3 v hj
  | n+2,hj=>simp at hj
structure ScS(w0:World)(g3 g4:Nat)(z:Int)(w:World):Prop where
 below:Below w0.heap.size w0 w
 ret:ZBox w g3 0
 acc:ZBox w g4 z
theorem ScS.under{w0 w w':World}{g3 g4:Nat}{z:Int}(h:ScS w0 g3 g4 z w)(hb:Below w.heap.size w w'):ScS w0 g3 g4 z w':=⟨h.below.trans (hb.mono h.below.size),h.ret.below hb,h.acc.below hb⟩
theorem zev(w:World)(v:Value)(q:Nat→Rat)(n:Nat)(h:RowQ w v (rowF q n))(h0:0<n)(h9:n≤20)(hq:∀j,j<n→zaw (q j) 5) :
  CallsIn Fence.wide 0 Tryz.prog 90 #[v] w fun e w'=>∃v1 v2,e = .returned (.tuple #[v1,v2])∧OwnR w' w.heap.size 32 2 IZ v1 (rowZ (za2 q n) n)∧ZAt w' v2 ((facF q n:Nat):Int)∧Below w.heap.size w w':=by
 obtain⟨a,c,rfl⟩:=zag.some h (by rw [zao];exact h0);rw [zao]at h;have HR:=zHi h;have HQ:=zHi hq;have hfac:∀i,i≤n→facF q i<B^101:=fun i hi=>by
  have:=zgC (q:=q) (D:=B^5) (n:=i) (fun j hj=>Nat.le_of_lt (hq j (by omega)).2);rw [←Nat.pow_mul]at this;exact Nat.lt_of_le_of_lt this (Nat.lt_of_lt_of_le (Nat.pow_lt_pow_right (by decide) (show 5*i<101 by omega)) (Nat.le_refl _))
 have HFAC:=zHi hfac;clear h hq hfac;refine callsIn_of_wp Tryz.func90 rfl trivial ?_ rfl;rw [zao];simp only [Tryz.ntmps90,ztr,zts,ztt,Nat.reduceAdd,Nat.reduceSub,ztu,ztv,ztw,ztx,zty,ztz];gi_wp2_with (gi_at_call 22;refine stop ?_)
 unfold Stop;refine(zbb _ 1 (by decide) (by decide)).mono ?_;rintro e w1 ⟨v1,rfl,hz1,hB1⟩;obtain⟨s1,o1,k1,c1,rfl⟩:=hz1.form;obtain⟨g3,hg3⟩:∃g,w.heap.size=g:=⟨_,rfl⟩;obtain⟨g4,hg4⟩:∃g,w1.heap.size=g:=⟨_,rfl⟩;have hb0:=zaa w (.cells #[.bool false,.slice none 0 0] 32);have hS0:ScS w g3 g4 ((facF q 0:Nat):Int) (w1.alloc (.cells #[.bool s1,.slice o1 k1 c1] 32)):=by
  have hb1:=zaa w1 (.cells #[.bool s1,.slice o1 k1 c1] 32);refine⟨(hb0.trans (hB1.mono hb0.size)).trans (hb1.mono (Nat.le_trans hb0.size hB1.size)),?_,?_⟩
  ·rw [←hg3];exact((ZBox.new (w:=w) (s:=false) (o:=none) (k:=0) (c:=0) ⟨_,rfl,zkj _ _ _⟩).below hB1).below hb1
  ·rw [←hg4];exact ZBox.new hz1
 have h34:g3<g4:=by
  rw [←hg3,←hg4];have:=hB1.size;rw [World.size_alloc]at this;omega
 have HS0:=zHi hS0;have HG3:=zHi hg3;have HG4:=zHi hg4;clear hz1 hB1 hb0 hS0 hg3 hg4;gi_wp2;rw [HG3.out,HG4.out];gi_loopw [5] (fun x5 wr=>∃i:Nat,x5 = .int .i64 (i:Int)∧i≤n∧Hid (ScS w g3 g4 ((facF q i:Nat):Int) wr)) (fun x _=>n-(intOf x).toNat)
 case atStart=>exact⟨0,rfl,by omega,HS0⟩
 case round=>
  obtain⟨i,rfl,hi,HS⟩:=hrel;clear HS0;by_cases hin:i<n
  ·gi_wp2;have hbd:=zab wr;have hS1:=HS.out.under hbd;obtain⟨W1,hW1⟩:∃W,wr.drew=W:=⟨_,rfl⟩;rw [hW1]at hS1;have hR1:=zag.below HR.out hS1.below (IQ.below hS1.below);obtain⟨sn,on,kn,cn,sd,od,kd,hcn,hcd,hzn,hzd⟩:=RowQ.parts hR1 hin;obtain⟨sf,of,kf,cf,hxf,hzf⟩:=hS1.acc.at';obtain⟨F,hF⟩:∃F,facF q i=F:=⟨_,rfl⟩;obtain⟨D,hD⟩:∃D,(q i).den=D:=⟨_,rfl⟩;have hF9:F<B^101:=by rw [←hF];exact HFAC.out i hi
   have hD9:D<B^101:=by rw [←hD];exact up (HQ.out i hin).2 (by omega)
   have hD0:0<D:=by rw [←hD];exact(q i).den_pos
   have hF0:0<F:=by rw [←hF];exact zhg q i
   have hFn:facF q (i+1)=F*(D/Nat.gcd F D):=by rw [←hF,←hD];rfl
   rw [hF]at hS1 hzf;rw [hD]at hzd;refine zap (ro:=none) [12,13,14,15] [0,1,2,3,4,5,6,7,8,9,10,11,12,13,14,15] [0,0,0,6,14,30,0,0,0,384,896,1920,4032,8190,16383,32767] zaq rfl 54 rfl (by kernel_rfl) (by kernel_rfl) ?_;rw [hW1];refine OV.ldn [.bool sf,.slice of kf cf] lm32 hxf.at' rfl rfl rfl rfl rfl (by decide) rfl ?_;refine OV.mv (v:=.slice (some a) n c) rfl rfl rfl rfl ?_;refine OV.mv (v:=.int .i64 (i:Int)) rfl rfl rfl rfl ?_;refine OV.idx it63 hin rfl rfl rfl rfl rfl ?_;refine OV.fld zsu rfl rfl rfl rfl ?_;refine OV.ldn [.bool false,.slice sd od kd] lm32 hcd rfl rfl rfl rfl rfl (by decide) rfl ?_;refine OV.ldn [.bool sf,.slice of kf cf] lm32 hxf.at' rfl rfl rfl rfl rfl (by decide) rfl ?_;refine OV.mv (v:=.slice (some a) n c) rfl rfl rfl rfl ?_;refine OV.mv (v:=.int .i64 (i:Int)) rfl rfl rfl rfl ?_;refine OV.idx it63 hin rfl rfl rfl rfl rfl ?_;refine OV.fld zsu rfl rfl rfl rfl ?_;refine OV.ldn [.bool false,.slice sd od kd] lm32 hcd rfl rfl rfl rfl rfl (by decide) rfl ?_;refine OV.call [.agg #[.bool sf,.slice of kf cf],.agg #[.bool false,.slice sd od kd]] Tryz.func70 rfl zai rfl rfl rfl rfl rfl (zeX _ _ _ _ _ hzf hzd (by rw [Int.natAbs_natCast];exact up (b:=100000) hF9 (by omega)) (by rw [Int.natAbs_natCast];exact up (b:=100000) hD9 (by omega))) fun v2 w2 h2 hB2 => ?_
   rw [Int.natAbs_natCast,Int.natAbs_natCast]at h2;have hg0:0<Nat.gcd F D:=Nat.gcd_pos_of_pos_left _ hF0;have hg9:Nat.gcd F D<B^101:=Nat.lt_of_le_of_lt (Nat.le_of_dvd hF0 (Nat.gcd_dvd_left _ _)) hF9;refine OV.call [.agg #[.bool false,.slice sd od kd],v2] Tryz.func119 rfl zai rfl rfl rfl rfl rfl (zgk _ _ _ _ _ (hzd.below hB2) h2 (by rw [Int.natAbs_natCast];exact up (b:=100000) hD9 (by omega)) (by rw [Int.natAbs_natCast];exact up (b:=100000) hg9 (by omega)) (by rw [Int.natAbs_natCast];omega)) fun v3 w3 h3 hB3 => ?_
   rw [zpP]at h3;have hb23:=hB2.trans (hB3.mono hB2.size);have hq9:D/Nat.gcd F D<B^101:=Nat.lt_of_le_of_lt (Nat.div_le_self _ _) hD9;refine OV.call [.agg #[.bool sf,.slice of kf cf],v3] Tryz.func92 rfl zai rfl rfl rfl rfl rfl (zc6 _ _ _ _ _ (hzf.below hb23) h3 (by rw [Int.natAbs_natCast];exact up (b:=100000) hF9 (by omega)) (by rw [Int.natAbs_natCast];exact up (b:=100000) hq9 (by omega))) fun v4 w4 h4 hB4 => ?_
   have hS4:=hS1.under (hb23.trans (hB4.mono hb23.size));have h4':ZAt w4 v4 ((facF q (i+1):Nat):Int):=by rw [hFn,Int.natCast_mul];exact h4
   obtain⟨s4,o4,k4,c4,rfl⟩:=h4'.form;obtain⟨t1,t2,t3⟩:=hS4.acc.store h4';refine OV.st (w':=w4.setCells g4 0 [.bool s4,.slice o4 k4 c4]) trivial (zgo hS4.acc.there (by simp [Value.oneCell'])) rfl rfl rfl rfl rfl ?_;refine OV.done ?_;obtain⟨W5,hW5⟩:∃W,w4.setCells g4 0 [.bool s4,.slice o4 k4 c4]=W:=⟨_,rfl⟩;have hS5:ScS w g3 g4 ((facF q (i+1):Nat):Int) W5:=by
    refine⟨?_,?_,by rw [←hW5];exact t1⟩
    ·rw [←hW5];exact zaF (by rw [HG3.out];omega) _ _ _ hS4.below
    ·rw [←hW5];obtain⟨s,o,k,c',r1,r2⟩:=hS4.ret.at';have hne:g3≠g4:=by omega
     exact⟨⟨s,o,k,c',r1.but t2 hne,r2.kept t3⟩,fun j hj=>by
      rw [World.frozen?_of_block (a:=⟨g3,j,none⟩) (t2.blk g3 hS4.ret.el.lt hne)];exact hS4.ret.free j hj,t2.elem hS4.ret.el hne⟩
   have HS5:=zHi hS5;rw [hW5];simp only [za4,Go.Act.put,ztA,ztB,ztC];clear hS5 hW5 t1 t2 t3 h4' hS4 h4 hB4 hq9 hb23 h3 hB3 hg9 hg0 h2 hB2 hzd hzf hS1 hFn hF0 hD0 hD9 hF9 hD hF hxf hzn hcd hcn hR1 hW1 hbd;gi_wp2;exact⟨⟨i+1,by go_num,by omega,HS5⟩,by simp only [intOf];omega⟩
  ·have hi2:n=i:=by omega
   subst hi2;obtain⟨W0,hW0⟩:∃W,wr=W:=⟨_,rfl⟩;rw [hW0]at HS;rw [hW0];clear hW0;gi_wp2;gi_loopw [6,7] (fun x6 x7 wr=>∃i:Nat,x7 = .int .i64 (i:Int)∧i≤n∧Hid (OwnR wr W0.heap.size 32 2 IZ x6 (rowZ (za2 q n) i))∧Hid (Below W0.heap.size W0 wr)) (fun _ x _=>n-(intOf x).toNat)
   case atStart=>exact⟨0,rfl,by omega,OwnR.nil _ _ _ _ _,Below.refl _ _⟩
   case round=>
    obtain⟨i,rfl,hi,HO,HBr⟩:=hrel;by_cases hin:i<n
    ·gi_wp2;have hbd:=zab wr;have ho1:=HO.out.below hbd (IZ.below hbd);have hb1:=HBr.out.trans (hbd.mono HBr.out.size);have hS1:=HS.out.under hb1;obtain⟨W1,hW1⟩:∃W,wr.drew=W:=⟨_,rfl⟩;rw [hW1]at hS1 ho1 hb1;have hR1:=zag.below HR.out hS1.below (IQ.below hS1.below);obtain⟨sn,on,kn,cn,od,kd,cd,hcn,hcd,hzn,hzd⟩:=RowQ.parts hR1 hin;obtain⟨sf,of,kf,cf,hxf,hzf⟩:=hS1.acc.at';obtain⟨F,hF⟩:∃F,facF q n=F:=⟨_,rfl⟩;obtain⟨D,hD⟩:∃D,(q i).den=D:=⟨_,rfl⟩;have hF9:F<B^101:=by rw [←hF];exact HFAC.out n (Nat.le_refl _)
     have hD9:D<B^101:=by rw [←hD];exact up (HQ.out i hin).2 (by omega)
     have hN9:(q i).num.natAbs<B^101:=up (HQ.out i hin).1 (by omega);have hD0:0<D:=by rw [←hD];exact(q i).den_pos
     have hsc:za2 q n i=(q i).num*((F/D:Nat):Int):=by rw [←hF,←hD];rfl
     rw [hF]at hS1 hzf;rw [hD]at hzd;obtain⟨oo,co,hof⟩:=ho1.form;rw [zcg]at hof;subst hof;refine zap (ro:=none) [12,13,14,15] [0,1,2,3,4,5,6,7,8,9,10,11,12,13,14,15,16] [0,0,0,6,14,30,0,0,0,384,896,1920,4032,8190,16382,32767,65535] zaq rfl 54 rfl (by kernel_rfl) (by kernel_rfl) ?_;rw [hW1];refine OV.mv (v:=.slice oo i co) rfl rfl rfl rfl ?_;refine OV.mv (v:=.slice (some a) n c) rfl rfl rfl rfl ?_;refine OV.mv (v:=.int .i64 (i:Int)) rfl rfl rfl rfl ?_;refine OV.idx it63 hin rfl rfl rfl rfl rfl ?_;refine OV.fld ztn rfl rfl rfl rfl ?_;refine OV.ldn [.bool sn,.slice on kn cn] lm32 hcn rfl rfl rfl rfl rfl (by decide) rfl ?_;refine OV.ldn [.bool sf,.slice of kf cf] lm32 hxf.at' rfl rfl rfl rfl rfl (by decide) rfl ?_;refine OV.mv (v:=.slice (some a) n c) rfl rfl rfl rfl ?_;refine OV.mv (v:=.int .i64 (i:Int)) rfl rfl rfl rfl ?_;refine OV.idx it63 hin rfl rfl rfl rfl rfl ?_;refine OV.fld zsu rfl rfl rfl rfl ?_;refine OV.ldn [.bool false,.slice od kd cd] lm32 hcd rfl rfl rfl rfl rfl (by decide) rfl ?_;refine OV.call [.agg #[.bool sf,.slice of kf cf],.agg #[.bool false,.slice od kd cd]] Tryz.func119 rfl zai rfl rfl rfl rfl rfl (zgk _ _ _ _ _ hzf hzd (by rw [Int.natAbs_natCast];exact up (b:=100000) hF9 (by omega)) (by rw [Int.natAbs_natCast];exact up (b:=100000) hD9 (by omega)) (by rw [Int.natAbs_natCast];omega)) fun v3 w3 h3 hB3 => ?_
     rw [zpP]at h3;have hq9:F/D<B^101:=Nat.lt_of_le_of_lt (Nat.div_le_self _ _) hF9;refine OV.call [.agg #[.bool sn,.slice on kn cn],v3] Tryz.func92 rfl zai rfl rfl rfl rfl rfl (zc6 _ _ _ _ _ (hzn.below hB3) h3 (up (b:=100000) hN9 (by omega)) (by rw [Int.natAbs_natCast];exact up (b:=100000) hq9 (by omega))) fun v4 w4 h4 hB4 => ?_
     rw [←hsc]at h4;obtain⟨s4,o4,k4,c4,rfl⟩:=h4.form;have hb34:=hB3.trans (hB4.mono hB3.size);have ho4:=ho1.below hb34 (IZ.below hb34);obtain⟨v7,w7,hrun,hO7,hB7,_,_⟩:=zmy (ty:=32) (sz:=2) (t:=128) (tx:=128) (bytes:=32) W0 w4 u128 i32' i32z i32s i32b rfl (by decide) (by decide) (.slice oo i co) (rowZ (za2 q n) i) ho4 (za2 q n i) [.bool s4,.slice o4 k4 c4] 32 rfl (by simp [Value.oneCell']) h4 (fun b r w1 w2 ht=>IZ.touch ht rfl b r) (by rw [zcg];omega) (hb1.trans (hb34.mono hb1.size));rw [←zpD]at hO7;refine OV.put1 (zsU _ _ _) (zaa _ _) rfl rfl rfl rfl ?_;refine OV.app trivial hrun rfl rfl rfl rfl rfl rfl ?_;refine OV.asg (v:=v7) rfl rfl rfl rfl ?_;refine OV.done ?_;have HO7:=zHi hO7;have HB7:=zHi hB7;simp only [za4,Go.Act.put,ztA,ztB,ztC];clear hO7 hB7 hrun ho4 hb34 h4 hB4 hq9 h3 hB3 hzf hzd hzn hxf hcn hcd hR1 hS1 ho1 hb1 hbd hW1 hsc hD0 hN9 hD9 hF9;gi_wp2;exact⟨⟨i+1,by go_num,by omega,HO7,HB7⟩,by simp only [intOf];omega⟩
    ·have hi2:n=i:=by omega
     subst hi2;gi_wp2;have hbd:=zab wr;have ho1:=HO.out.below hbd (IZ.below hbd);have hS1:=(HS.out.under HBr.out).under hbd;have hb1:=HBr.out.trans (hbd.mono HBr.out.size);obtain⟨W1,hW1⟩:∃W,wr.drew=W:=⟨_,rfl⟩;rw [hW1]at hS1 ho1 hb1;obtain⟨sf,of,kf,cf,hxf,hzf⟩:=hS1.acc.at';obtain⟨t1,t2,t3⟩:=hS1.ret.store hzf;refine zap (ro:=none) [3] [0,1,2,3] [0,0,1,7] zaq rfl 54 rfl (by kernel_rfl) (by kernel_rfl) ?_;rw [hW1];refine OV.mv (v:=u6) rfl rfl rfl rfl ?_;refine OV.ldn [.bool sf,.slice of kf cf] lm32 hxf.at' rfl rfl rfl rfl rfl (by decide) rfl ?_;refine OV.asg (v:=u6) rfl rfl rfl rfl ?_;refine OV.st (w':=W1.setCells g3 0 [.bool sf,.slice of kf cf]) trivial (zgo hS1.ret.there (by simp [Value.oneCell'])) rfl rfl rfl rfl rfl ?_;refine OV.done ?_;obtain⟨W5,hW5⟩:∃W,W1.setCells g3 0 [.bool sf,.slice of kf cf]=W:=⟨_,rfl⟩;rw [hW5]at t1 t2 t3;have hg3W:g3<W0.heap.size:=HS.out.ret.el.lt;have ho5:OwnR W5 w.heap.size 32 2 IZ u6 (rowZ (za2 q n) n):=OwnR.weaken (ho1.keep (fun b hb hlt=>t2.blk b hlt (fun e=>by have:=(ho1.blk hb).1;omega)) (fun b r h=>ZAt.kept (show ZAt W1 (.agg r.toArray) b from h) t3)) HS.out.below.size;have hb5:Below w.heap.size w W5:=by
      rw [←hW5];exact zaF (by rw [HG3.out];exact Nat.le_refl _) _ _ _ hS1.below
     have HO5:=zHi ho5;have HB5:=zHi hb5;have HT1:=zHi t1;rw [hW5];simp only [za4,Go.Act.put,ztA,ztB,ztC];clear t1 t2 t3 hg3W ho5 hb5 hW5 hxf hzf hb1 hS1 ho1 hbd hW1;gi_wp2;obtain⟨s6,o6,k6,c6,hx6,hz6⟩:=HT1.out.at';have l32:zcp Tryz.prog 32 2:=zbS (by kernel_rfl) (by kernel_rfl);refine⟨rfl,.tuple #[u6,.agg #[.bool s6,.slice o6 k6 c6]],?_,_,_,rfl,HO5.out,hz6,HB5.out⟩;have e1:=l32 g3 [.bool s6,.slice o6 k6 c6] W5 rfl hx6.2;simp only [Instr.loadAt,Instr.sureAddr,Sem.run_bind,Sem.run_pure,Result.andThen_ok]at e1;simp [results,asAddr,e1]
end Go.Num
