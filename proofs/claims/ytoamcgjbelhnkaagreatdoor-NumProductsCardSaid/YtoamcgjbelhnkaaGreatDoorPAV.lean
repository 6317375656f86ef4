/-
  A range over the program's iterator over pivots. Items put behind a row of one's own, wherever its memory begins; an item stored in a matrix
  Conditions: see each statement.
-/
import Derived.Test.YtoamcgjbelhnkaaGreatDoorPAA
import Derived.Test.YtoamcgjbelhnkaaGreatDoorPAU
import Derived.RangeFuncLeaves
set_option maxRecDepth 100000
set_option maxHeartbeats 16000000
namespace Go.Num
open Go.Eng Go.Shelf Go.RowKit Go.Sort Go.Proofs Go.Proofs.YtoamcgjbelhnkaaGreatDoor
theorem anyN{n:Nat}{P:Program}{f:FuncId}{args:Array Value}{w:World}{R:Ending→World→Prop}(h:CallsIn Fence.wide 0 P f args w R):CallsIn Fence.wide n P f args w R:=callsIn_wide.2 (callsIn_wide.1 h)
def Good(m N:Nat)(A:Nat→Nat→Rat):Prop:=∀i j,i<m→j<N→zar (A i j) 700
theorem zoW(l b1 b2 base g cv m N columns:Nat)(Inv:Inv')(X:Nat→TypeId→Prop)(A0:Nat→Nat→Rat)(W:World)(h0:0<m)(hm9:m≤1000)(hN:0<N)(hN9:N≤1000)(hcN:columns≤N)
  (hI:∀k w w',Inv k w→ButB g w w'→Elem w g 64→Inv k w') (hX:∀b e,base≤b→(e=25∨e=64∨e=116)→¬X b e) (hX1:∀b,¬X b 111) (hXp:∀e,¬X 3 e) (hb2:base≤b2)
  (hG:∀c,c≤columns→Good m N (pRun m A0 c).P)
  (hY:∀cc w1 v q,cc<columns→pRow m cc (pRun m A0 cc)<m→q=(pRun m A0 cc).P (pRow m cc (pRun m A0 cc)) cc→q≠0→zar q 700→zao w1 v q→zaU w1→Inv (pRun m A0 cc).k w1 →
   YieldAt Fence.wide 0 Tryz.prog l #[.int .i64 (cc:Int),v] w1 fun e w2=>e = .returned (.bool true)∧Inv ((pRun m A0 cc).k+1) w2∧FrX X w1 w2)
  (hS:PvS base b2 g cv m N Inv A0 0 W) (hb1:W.cell? ⟨b1,0,none⟩=some (.int .i64 (columns:Int))) :
  CallsIn Fence.wide 0 Tryz.prog 134 #[.func (.yield l) #[] #[],.pointer (some ⟨b1,0,none⟩),.pointer (some ⟨b2,0,none⟩)] W fun e W'=>(∃v,e = .returned v)∧PvS base b2 g cv m N Inv (pRun m A0 columns).P (pRun m A0 columns).k W':=by
 have HI:=zHi hI;have HX:=zHi hX;have HX1:=zHi hX1;have HG:=zHi hG;have HY:=zHi hY;have HS0:=zHi hS;clear hI hX hX1 hG hY hS;refine callsIn_of_wp Tryz.func134 rfl trivial ?_ rfl;simp only [Tryz.ntmps134,ztE,ztF,ztG,Nat.reduceAdd,Nat.reduceSub,ztH,ztI,ztJ,ztK,ztL,ztM];refine Go.Eng.zoE (wpIn_mono (Q:=fun e a' w'=>e = .normal∧a'.defers = []∧PvS base b2 g cv m N Inv (pRun m A0 columns).P (pRun m A0 columns).k w') ?_ ?_);rotate_left
 ·rintro e a' w' ⟨rfl,hd,hS⟩;unfold Go.Eng.zth;exact Go.bodyPost_end (v:=.tuple #[]) (Go.results_none rfl _ _ _) hd ⟨⟨_,rfl⟩,hS⟩
 gi_wp2;refine Go.wpIn_label ?_;gi_wp2;clear hb1;gi_loopw [4,11] (fun x4 x11 wr=>∃cc:Nat,x11 = .int .i64 (cc:Int)∧cc≤columns∧x4 = .int .i64 (((pRun m A0 cc).k:Nat):Int)∧Hid (PvS base b2 g cv m N Inv (pRun m A0 cc).P (pRun m A0 cc).k wr)) (fun _ x _=>columns-(intOf x).toNat)
 case atStart=>exact⟨0,rfl,by omega,rfl,HS0.out⟩
 case round=>
  obtain⟨cc,rfl,hcc,rfl,HS⟩:=hrel;clear HS0;have hkk:=zdG m A0 cc;have HGs:=zHi (HG.out cc hcc);obtain⟨s,hs⟩:∃s,pRun m A0 cc=s:=⟨_,rfl⟩;have HSE:=zHi hs;rw [hs]at HS hkk HGs;rw [hs];obtain⟨P,k⟩:=s;dsimp only at HS hkk HGs ⊢;clear hs;have hk:=hkk.1;by_cases hcl:cc<columns
  ·gi_wp2;gi_loopw [6] (fun x6 wi=>∃r:Nat,x6 = .int .i64 (r:Int)∧k≤r∧r≤m∧Hid (∀i,k≤i→i<r→P i cc=0)∧Hid (PvS base b2 g cv m N Inv P k wi)) (fun x _=>m-(intOf x).toNat)
   case atStart=>exact⟨k,rfl,Nat.le_refl _,hk,zHi (fun i h1 h2=>by omega),HS⟩
   case round=>
    obtain⟨r,rfl,hkr,hrm,HZ,HSi⟩:=hrel;have hbox:=HSi.out.box;by_cases hrl:r<m
    ·obtain⟨ra,rc,sg,o1,k1,c1,o2,k2,c2,p0,p1,p2,p3,hra⟩:=HSi.out.item hrl (show cc<N by omega) hN9;have HRA:=zHi hra;clear hra;by_cases hz:P r cc=0
     ·have hq0:(sgnR (P r cc) == 0)=true:=by rw [zlc (by rw [hz];rfl)];rfl
      gi_wp2_with (first|(exfalso;exact zae (by assumption))|(gi_at_call 17;refine stop ?_))
      unfold Stop;refine(zc4 _ _ _ HRA.out).mono ?_;rintro e w1 ⟨rfl,hB1⟩;have HS1:=zHi (HSi.out.below hB1 HI.out);clear hB1 p0 p1 p2 p3 hbox;gi_wp2_with (exfalso;exact zae (by assumption))
      exact⟨⟨r+1,by go_num,by omega,by omega,zHi (fun i h1 h2=>by
       by_cases e:i=r
       ·rw [e];exact hz
       ·exact HZ.out i h1 (by omega)),HS1⟩,by simp only [intOf];omega⟩
     ·have hq0:(sgnR (P r cc) == 0)=false:=by
       rw [beq_eq_false_iff_ne];exact zpW (fun e=>hz (Rat.num_eq_zero.1 e))
      have hnm:((r:Int) == (m:Int))=false:=by rw [beq_eq_false_iff_ne];omega
      gi_wp2_with (first|(exfalso;exact zae (by assumption))|(gi_at_call 17;refine stop ?_))
      unfold Stop;refine(zc4 _ _ _ HRA.out).mono ?_;rintro e w1 ⟨rfl,hB1⟩;have HS1:=zHi (HSi.out.below hB1 HI.out);clear hB1 p0 p1 p2 p3 hbox HRA;have hbox:=HS1.out.box;have hb2l:=HS1.out.eb.lt;obtain⟨ra,rc,sg,o1,k1,c1,o2,k2,c2,p0,p1,p2,p3,hra⟩:=HS1.out.item hrl (show cc<N by omega) hN9;have HRA:=zHi hra;have HPR:Hid (pRow m cc (pRun m A0 cc)=r):=zHi (by
       unfold pRow;rw [HSE.out];refine zqF hkr (by omega) (fun i h1 h2 => ?_) (.inr ?_)
       ·show decide (P i cc≠0)=false;rw [HZ.out i h1 h2];rfl
       ·exact decide_eq_true hz)
      clear hra;have hkm:k<m:=by omega
      obtain⟨P1,hP1⟩:∃P1,zfq P k r=P1:=⟨_,rfl⟩;have hq1:P1 k cc=P r cc:=by
       rw [←hP1];unfold zfq;split
       ·rename_i e;rw [e]
       ·rw [if_pos rfl]
      have HE1:Hid (r=k→P1=P):=zHi (fun e=>by
       rw [←hP1]
       funext j
       unfold zfq;rw [if_pos e.symm])
      have HE2:Hid (r≠k→(fun j=>if j=r then(fun c => -(P k c))else if j=k then P r else P j)=P1):=zHi (fun e=>by
       rw [←hP1]
       funext j
       unfold zfq;rw [if_neg (Ne.symm e)];by_cases h1:j=r
       ·rw [if_pos h1,if_neg (by omega),if_pos h1]
       ·rw [if_neg h1,if_neg h1])
      have HN1:Hid (pRun m A0 (cc+1)=⟨zaG P1 k cc,k+1⟩):=zHi (by
       show zdm m cc (pRun m A0 cc)=_
       unfold zdm;rw [HPR.out,if_neg (by omega),HSE.out,←hP1])
      have HG1:Hid (Good m N P1):=zHi (fun i j h1 h2=>by
       rw [←hP1];unfold zfq;split
       ·exact HGs.out i j h1 h2
       ·split
        ·exact HGs.out r j hrl h2
        ·split
         ·exact zfZ (HGs.out k j hkm h2)
         ·exact HGs.out i j h1 h2)
      have HG2:Hid (Good m N (zaG P1 k cc)):=zHi (by
       have:=HG.out (cc+1) hcl;rw [HN1.out]at this;exact this)
      have hq0':P1 k cc≠0:=by rw [hq1];exact hz
      have HYY:Hid (∀w1 v,zao w1 v (P1 k cc)→zaU w1→Inv k w1→YieldAt Fence.wide 0 Tryz.prog l #[.int .i64 (cc:Int),v] w1 fun e w2=>e = .returned (.bool true)∧Inv (k+1) w2∧FrX X w1 w2):=zHi (fun w v h1 h2 h3=>by
       have:=HY.out cc w v (P1 k cc) hcl (by rw [HPR.out];exact hrl) (by rw [HPR.out,HSE.out];exact hq1) hq0' (HG1.out k cc hkm (by omega)) h1 h2 (by rw [HSE.out];exact h3);rw [HSE.out]at this;exact this)
      rw [←hq1]at HRA;clear hP1 hq1 HPR;by_cases hrk:r=k
      focus
       obtain⟨W4,hW4⟩:∃W,W=w1.alloc (.cells #[.bool sg,.slice o1 k1 c1,.slice o2 k2 c2] 25):=⟨_,rfl⟩;have hB4:Below w1.heap.size w1 W4:=by rw [hW4];exact zaa _ _
       have HBX:Hid (BoxL W4 w1.heap.size [.bool sg,.slice o1 k1 c1,.slice o2 k2 c2]):=zHi (by rw [hW4];exact zaP _ _ _);have HS4:Hid (PvS base b2 g cv m N Inv P1 k W4):=zHi (by rw [HE1.out hrk];exact HS1.out.below hB4 HI.out);have HR4:=zHi (HRA.out.below hB4);have hgl:g<w1.heap.size:=HS1.out.eg.lt;have hrk':=hrk.symm;subst hrk';have hne:((k:Int) != (k:Int))=false:=by simp
       clear hrk;gi_wp2_with (exfalso;exact zae (by assumption))
       rw [←hW4];obtain⟨g7,hg7⟩:∃g7,w1.heap.size=g7:=⟨_,rfl⟩;rw [hg7]at HBX hgl;rw [hg7];clear hg7;clear hW4 hB4 hbox hb2l p0 p1 p2 p3 HE1 HE2 HS1 HRA HZ
      rotate_left
      focus
       have hne:((r:Int) != (k:Int))=true:=by simp;omega
       gi_wp2_with (exfalso;exact zae (by assumption))
       obtain⟨W2,hW2⟩:∃W,W=w1.alloc (.cells #[.bool sg,.slice o1 k1 c1,.slice o2 k2 c2] 25):=⟨_,rfl⟩;have hB2:Below w1.heap.size w1 W2:=by rw [hW2];exact zaa _ _
       have HBX:Hid (BoxL W2 w1.heap.size [.bool sg,.slice o1 k1 c1,.slice o2 k2 c2]):=zHi (by rw [hW2];exact zaP _ _ _);have hB3:=hB2.trans ((zab W2).mono hB2.size);have HS3:=zHi (HS1.out.below hB3 HI.out);have HRA3:=zHi (HRA.out.below hB3);have HBX3:=zHi (HBX.out.below (zab W2));rw [←hW2];obtain⟨_,br,cr,_,_,_,hcr,hrr⟩:=HS3.out.row hrl hN;obtain⟨_,bk,ck,_,_,_,hck,hrk2⟩:=HS3.out.row hkm hN;have hRk:RowR W2.drew (.slice (some ⟨bk,0,none⟩) N ck) (rowF (P k) N):=hrk2.row (by rw [zan];omega);clear hbox hb2l p0 p1 p2 p3 hW2 hB2 hB3;refine zbD (fun w'=>w'.cell? ⟨b2,0,none⟩=some (.slice (some ⟨g,0,none⟩) m cv)) [2,3] (fun w w' q hb=>(hb.cell (World.block_lt_of_cell? _ _ q)).trans q) [12,14,16] [0,1,2,3,4,5,6,7,8,9,10,11,12,13,14,15,16] [0,0,0,0,0,0,48,112,0,0,768,1792,3840,8179,16371,32767,65535] zaz rfl 105 rfl (by kernel_rfl) (by kernel_rfl) HS3.out.box ?_;refine OV.ld zmN HS3.out.box rfl rfl rfl rfl rfl ?_;refine OV.mv (v:=.int .i64 (k:Int)) rfl rfl rfl rfl ?_;refine OV.ldK zmN HS3.out.box (fun _ q=>q) rfl rfl rfl rfl ?_;refine OV.mv (v:=.int .i64 (r:Int)) rfl rfl rfl rfl ?_;refine OV.ld zmN HS3.out.box rfl rfl rfl rfl rfl ?_;refine OV.mv (v:=.int .i64 (r:Int)) rfl rfl rfl rfl ?_;refine OV.idx zgF hrl rfl rfl rfl rfl rfl ?_;refine OV.ld lo64 hcr rfl rfl rfl rfl rfl ?_;refine OV.ld zmN HS3.out.box rfl rfl rfl rfl rfl ?_;refine OV.mv (v:=.int .i64 (k:Int)) rfl rfl rfl rfl ?_;refine OV.idx zgF hkm rfl rfl rfl rfl rfl ?_;refine OV.ld lo64 hck rfl rfl rfl rfl rfl ?_;refine OV.call [.slice (some ⟨bk,0,none⟩) N ck] Tryz.func135 rfl zai rfl rfl rfl rfl rfl (zkv _ _ _ hRk (by rw [zan];omega)) fun v5 w3 h5 hB => ?_
       rw [zrr]at h5;obtain⟨b5,c5,rfl,_⟩:=h5.own (by rw [zan];exact hN);rw [zan]at h5 ⊢;obtain⟨h6,h7,h8⟩:=HS3.out.turn hB hN hkm hrl (Ne.symm hrk) hcr h5 HI.out;refine OV.idx zgF hkm rfl rfl rfl rfl rfl ?_;refine OV.st (((zal g _ _ _).cell (p:=⟨b2,0,none⟩) (HS3.out.below hB HI.out).eb.lt ((HS3.out.below hB HI.out).eb.ne (HS3.out.below hB HI.out).eg (by decide))).trans (HS3.out.below hB HI.out).box) (zmp rfl rfl h7) rfl rfl rfl rfl rfl ?_;refine OV.idx zgF hrl rfl rfl rfl rfl rfl ?_;refine OV.st h6.box (zmp rfl rfl h8) rfl rfl rfl rfl rfl ?_;refine OV.done ?_;obtain⟨W4,hW4⟩:∃W,W=((w3.setCells g (k*1) [.slice (some ⟨br,0,none⟩) N cr]).setCells g (r*1) [.slice (some ⟨b5,0,none⟩) N c5]):=⟨_,rfl⟩;have hgl:g<w1.heap.size:=HS1.out.eg.lt;have hbut:ButB g w3 W4:=by rw [hW4];exact(zal g _ _ _).trans (zal g _ _ _)
       have HBX:Hid (BoxL W4 w1.heap.size [.bool sg,.slice o1 k1 c1,.slice o2 k2 c2]):=zHi ((HBX3.out.below hB).but hbut (by omega));have HS4:Hid (PvS base b2 g cv m N Inv P1 k W4):=zHi (by rw [HE2.out hrk]at h6;rw [hW4];exact h6);have HR4:=zHi ((HRA3.out.below hB).kept (hbut.kept (HS3.out.below hB HI.out).eg rfl));rw [←hW4];simp only [zbo,Go.Act.put,ztN,ztO,ztP,Addr.add_lit,Nat.mul_one,Nat.zero_add];have hbox:=HS4.out.box;clear hW4 HS3 HRA3 HBX3 HRA HE1 HE2 hcr hck hrr hrk2 hRk h5 h6 h7 h8 hB hbut HS1 HZ;gi_wp2_with (exfalso;exact zae (by assumption))
       obtain⟨g7,hg7⟩:∃g7,w1.heap.size=g7:=⟨_,rfl⟩;rw [hg7]at HBX hgl;rw [hg7];clear hg7;clear hbox hrk
      all_goals
       gi_loopw [63] (fun x63 wi=>∃i:Nat,x63 = .int .i64 (i:Int)∧i≤m∧Hid (PvS base b2 g cv m N Inv (zen P1 k cc i) k wi)∧Hid (BoxL wi g7 [.bool sg,.slice o1 k1 c1,.slice o2 k2 c2])∧Hid (zao wi (.agg #[.bool sg,.slice o1 k1 c1,.slice o2 k2 c2]) (P1 k cc))) (fun x _=>m-(intOf x).toNat)
       case atStart=>exact⟨0,rfl,by omega,zHi (by rw [zjw];exact HS4.out),HBX,HR4⟩
       case round=>
        obtain⟨i,rfl,him,HS5,HBi,HRi⟩:=hrel;clear HS4 HBX HR4;have hbox:=HS5.out.box;have hb25:=HS5.out.eb.lt;by_cases hil:i<m
        ·obtain⟨ra5,rc5,sg5,o3,k3,c3,o4,k4,c4,p0,p1,p2,p3,hra5⟩:=HS5.out.item hil (show cc<N by omega) hN9;rw [zhj]at hra5;have HR5:=zHi hra5;clear hra5;by_cases hik:i=k
         ·subst hik;have hne5:((i:Int) != (i:Int))=false:=by simp
          gi_wp2_with (exfalso;exact zae (by assumption))
          trace_state
          exact⟨⟨i+1,by go_num,by omega,zHi (by rw [zgw (.inl rfl)];exact HS5.out.below (zaa _ _) HI.out),zHi (HBi.out.below (zaa _ _)),zHi (HRi.out.below (zaa _ _))⟩,by simp only [intOf];omega⟩
         ·have hne5:((i:Int) != (k:Int))=true:=by simp;omega
          by_cases hz5:P1 i cc=0
          ·have hq5:(sgnR (P1 i cc) != 0)=false:=by rw [zlc (by rw [hz5];rfl)];rfl
           gi_wp2_with (first|(exfalso;exact zae (by assumption))|(gi_at_call 17;refine stop ?_))
           unfold Stop;refine(zc4 _ _ _ (HR5.out.below (zaa _ _))).mono ?_;rintro e w8 ⟨rfl,hB8⟩;have hB9:=(zaa _ _).trans (hB8.mono (zaa wr _).size);have HS8:=zHi (HS5.out.below hB9 HI.out);have HB8:=zHi (HBi.out.below hB9);have HR8:=zHi (HRi.out.below hB9);clear hB8 hB9 p0 p1 p2 p3 hbox hb25;gi_wp2_with (exfalso;exact zae (by assumption))
           exact⟨⟨i+1,by go_num,by omega,zHi (by rw [zgw (.inr hz5)];exact HS8.out),HB8,HR8⟩,by simp only [intOf];omega⟩
          ·have hq5:(sgnR (P1 i cc) != 0)=true:=by
            rw [bne_iff_ne];exact zpW (fun e=>hz5 (Rat.num_eq_zero.1 e))
           gi_wp2_with (first|(exfalso;exact zae (by assumption))|(gi_at_call 17;refine stop ?_))
           unfold Stop;refine(zc4 _ _ _ (HR5.out.below (zaa _ _))).mono ?_;rintro e w8 ⟨rfl,hB8⟩;have hB9:=((zaa _ _).trans (hB8.mono (zaa wr _).size)).trans ((zab w8).mono (Nat.le_trans (zaa wr _).size hB8.size));have HS8:=zHi (HS5.out.below hB9 HI.out);have HB7:=zHi (HBi.out.below hB9);have HR7:=zHi (HRi.out.below hB9);have HB9:=zHi (((zaP wr [.bool sg5,.slice o3 k3 c3,.slice o4 k4 c4] 25).below hB8).below (zab w8));have HR9:=zHi (HR5.out.below hB9);have hg7:g≠g7:=by omega
           clear hB8 hB9 p0 p1 p2 p3 hbox hb25;gi_wp2_with (exfalso;exact zae (by assumption))
           obtain⟨_,bi,ci,_,_,_,hci,hri⟩:=HS8.out.row hil hN;obtain⟨_,bk,ck,_,_,_,hck,hrk⟩:=HS8.out.row hkm hN;rw [zhj]at hri;rw [zjx]at hrk;have hRi:RowR w8.drew (.slice (some ⟨bi,0,none⟩) N ci) (rowF (P1 i) N):=hri.row (by rw [zan];omega);have hRk:RowR w8.drew (.slice (some ⟨bk,0,none⟩) N ck) (rowF (P1 k) N):=hrk.row (by rw [zan];omega);have hst:zaG P1 k cc i=fun j=>P1 i j + -(P1 i cc/P1 k cc*P1 k j):=by unfold zaG;rw [if_neg (fun q=>q.elim hik hz5)]
           have HLK:Hid (∀j,j<N→zar (P1 i j + -(P1 i cc/P1 k cc*P1 k j)) 100000∧zc1 (P1 i j + -(P1 i cc/P1 k cc*P1 k j))=true):=zHi (fun j hj=>by
            have:=HG2.out i j hil hj;rw [hst]at this;exact⟨this.mono (by omega),zcv this (by omega) (by omega)⟩)
           refine zbf (ro:=none) [12,13,15] [0,1,2,3,4,5,6,7,8,9,10,11,12,13,14,15] [0,0,0,0,12,28,0,0,192,448,0,0,3072,8188,16383,32767] zaz rfl 105 rfl (by kernel_rfl) (by kernel_rfl) ?_;refine OV.ld zmN HS8.out.box rfl rfl rfl rfl rfl ?_;refine OV.mv (v:=.int .i64 (i:Int)) rfl rfl rfl rfl ?_;refine OV.ld zmN HS8.out.box rfl rfl rfl rfl rfl ?_;refine OV.mv (v:=.int .i64 (i:Int)) rfl rfl rfl rfl ?_;refine OV.idx zgF hil rfl rfl rfl rfl rfl ?_;refine OV.ld lo64 hci rfl rfl rfl rfl rfl ?_;refine OV.ld zmN HS8.out.box rfl rfl rfl rfl rfl ?_;refine OV.mv (v:=.int .i64 (k:Int)) rfl rfl rfl rfl ?_;refine OV.idx zgF hkm rfl rfl rfl rfl rfl ?_;refine OV.ld lo64 hck rfl rfl rfl rfl rfl ?_;refine OV.ldn [.bool sg5,.slice o3 k3 c3,.slice o4 k4 c4] lm25 HB9.out.at' rfl rfl rfl rfl rfl (by decide) rfl ?_;refine OV.ldn [.bool sg,.slice o1 k1 c1,.slice o2 k2 c2] lm25 HB7.out.at' rfl rfl rfl rfl rfl (by decide) rfl ?_;refine OV.call [.agg #[.bool sg5,.slice o3 k3 c3,.slice o4 k4 c4],.agg #[.bool sg,.slice o1 k1 c1,.slice o2 k2 c2]] Tryz.func76 rfl zai rfl rfl rfl rfl rfl (zjB _ _ _ (P1 i cc) (P1 k cc) 700 HR9.out HR7.out (HG1.out i cc hil (by omega)) (HG1.out k cc hkm (by omega)) (fun e=>hq0' (Rat.num_eq_zero.1 e)) (by omega)) fun vf w9 hf hB => ?_
           have HS9:=zHi (HS8.out.below hB HI.out);replace HB7:=zHi (HB7.out.below hB);replace HR7:=zHi (HR7.out.below hB);have hRi9:=zah.below hRi hB (IR.below hB);have hRk9:=zah.below hRk hB (IR.below hB);clear hB;refine OV.call [.slice (some ⟨bi,0,none⟩) N ci,.slice (some ⟨bk,0,none⟩) N ck,vf] Tryz.func136 rfl zai rfl rfl rfl rfl rfl (zi8 _ _ _ _ (P1 i cc/P1 k cc) (P1 i) (P1 k) N 2100 hN hN9 hRi9 hRk9 hf (by omega) (fun j hj=>(HG1.out i j hil hj).mono (by omega)) (fun j hj=>(HG1.out k j hkm hj).mono (by omega)) ((zf0 (HG1.out i cc hil (by omega)) (HG1.out k cc hkm (by omega))).mono (by omega)) (fun j hj=>(zdB (zf0 (HG1.out i cc hil (by omega)) (HG1.out k cc hkm (by omega))) (HG1.out k j hkm hj)).mono (by omega)) HLK.out HS9.out.tab) fun v5 w10 h5 hB => ?_
           obtain⟨b5,c5,rfl,_⟩:=h5.own (by rw [ziE];exact hN);rw [ziE]at h5 ⊢;obtain⟨h6,h7⟩:=HS9.out.put hB hN hil h5 HI.out;refine OV.idx zgF hil rfl rfl rfl rfl rfl ?_;refine OV.st (w':=w10.setCells g (i*1) [.slice (some ⟨b5,0,none⟩) N c5]) trivial (zmp rfl rfl h7) rfl rfl rfl rfl rfl ?_;refine OV.done ?_;obtain⟨W6,hW6⟩:∃W,W=w10.setCells g (i*1) [.slice (some ⟨b5,0,none⟩) N c5]:=⟨_,rfl⟩;have hbut:ButB g w10 W6:=by rw [hW6];exact zal g _ _ _
           have HS6:Hid (PvS base b2 g cv m N Inv (zen P1 k cc (i+1)) k W6):=zHi (by
            rw [zgv,hst,hW6];exact h6)
           have HB6:=zHi ((HB7.out.below hB).but hbut (Ne.symm hg7));have HR6:=zHi ((HR7.out.below hB).kept (hbut.kept (HS9.out.below hB HI.out).eg rfl));rw [←hW6];simp only [zbo,Go.Act.put,ztN,ztO,ztP,Addr.add_lit,Nat.mul_one,Nat.zero_add];clear hW6 h5 h6 h7 hB hRi hRk hRi9 hRk9 hri hrk hci hck HS8 HS9 HB7 HB9 HR7 HR9 hf hst;gi_wp2;exact⟨⟨i+1,by go_num,by omega,HS6,HB6,HR6⟩,by simp only [intOf];omega⟩
        ·have him2:i=m:=by omega
         subst him2;obtain⟨fn,tmps,assign,body,hy,hR⟩:=HYY.out wr _ HRi.out HS5.out.tab HS5.out.inv;have d0:=HBi.out.2 0 _ rfl;have d1:=HBi.out.2 1 _ rfl;have d2:=HBi.out.2 2 _ rfl;gi_wp2_with (exfalso;exact zae (by assumption))
         refine hR.mono ?_;rintro e w2 ⟨rfl,hI2,hF⟩;have HS2:Hid (PvS base b2 g cv i N Inv (zaG P1 k cc) (k+1) w2):=zHi ((HS5.out.congr (fun j hj=>by unfold zen;rw [if_pos hj])).frx h0 hF HX.out HX1.out hXp hb2 hI2);clear hy hR d0 d1 d2 hI2 hF HYY;gi_wp2_with (exfalso;exact zae (by assumption))
         exact⟨⟨cc+1,by go_num,by omega,by rw [HN1.out];simp,by rw [HN1.out];exact HS2⟩,by simp only [intOf];omega⟩
    ·have hrm2:r=m:=by omega
     subst hrm2;have HPR:Hid (pRun r A0 (cc+1)=⟨P,k⟩):=zHi (by
      show zdm r cc (pRun r A0 cc)=_
      rw [HSE.out];unfold zdm;rw [if_pos];show fnz (nzP P cc) (r-k) k=r
      refine zqF hkr (by omega) (fun i h1 h2 => ?_) (.inl (by omega));show decide (P i cc≠0)=false;rw [HZ.out i h1 h2];rfl)
     gi_wp2_with (exfalso;exact zae (by assumption))
     refine⟨⟨cc+1,by go_num,by omega,by rw [HPR.out],by rw [HPR.out];exact HSi⟩,by simp only [intOf];omega⟩
  ·have hcc2:cc=columns:=by omega
   subst hcc2;gi_wp2;rw [HSE.out];exact HS.out
theorem zrc{n k:Nat}{P:Program}{c:Code}{Q:Exit→CAct→World→Prop}{a:CAct}{w:World}(h:c.wpIn Fence.wide n P Q a w):c.wpIn Fence.wide k P Q a w:=
 fun b kk cs h1 h2 _=>h b kk cs h1 h2 (fun d hd=>by cases hd)
def II(c:Nat)(r:List Value)(_:World):Prop:=r = [.int .i64 (c:Int)]
theorem u29':Tryz.prog.underlying 29=some (.slice 3):=by kernel_rfl
theorem ec(f:Nat)(fn:Func)(hf:Tryz.prog.funcs[f]? = some fn)(hb:fn.body.isSome=true):∀args w,(callFunc f args).run Tryz.prog w = .ok (.enter f args) w:=by
 intro args w;have hbn:fn.body≠none:=by intro q;rw [q]at hb;simp at hb
 simp only [callFunc,run_program,hf,Sem.run_bind,Result.andThen_ok,zai f fn hf hb,Bool.false_eq_true,if_false];have:fn.body.isNone=false:=by cases hq:fn.body <;> simp_all
 simp [this]
theorem zg0(w:World)(v:Value)(n:Nat)(hv:∃o k c,v = .slice o k c) :
  CallsIn Fence.wide 0 Tryz.prog 99 #[v,.int .i64 (n:Int)] w fun e w'=>e = .returned (.func (.func 134) #[] #[.pointer (some ⟨w.heap.size+1,0,none⟩),.pointer (some ⟨w.heap.size,0,none⟩)])∧w'=(w.alloc (.cells #[v] 116)).alloc (.cells #[.int .i64 (n:Int)] 3):=by
 obtain⟨o,k,c,rfl⟩:=hv;refine callsIn_of_wp Tryz.func99 rfl trivial ?_ rfl;simp only [Tryz.ntmps99,ztE,ztF,ztG,Nat.reduceAdd,Nat.reduceSub,ztH,ztI,ztJ,ztK,ztL,ztM];gi_wp2;all_goals (first|go_returns|go_ret|go_end0)
 exact⟨rfl,rfl⟩
theorem zdi{β:Type}{F:Fence}{n:Nat}(wr:World){ops:Array Oper}{rest:List Oper}{o:Oper}{a:CAct}{Q:Exit→CAct→World→Prop}{ty sz t bytes:Nat}{inf:TypeInfo}{z:Value}{I:β→List Value→World→Prop}
  (hg:o.guard=none) (s x:Operand) (hop:o.op=Op.call {callee:=Callee.builtin Builtin.append,args:=#[s,x],argTypes:=#[t,t]})
  (e1:Tryz.prog.underlying t=some (.slice ty)) (e2:Tryz.prog.info? ty=some inf) (e3:inf.zero=some z) (e4:inf.size=sz) (e5:inf.bytes=bytes) (e6:z.cells.size=sz) (e7:0<sz) (e8:bytes≤100)
  (base:Nat) (hbase:base≤wr.heap.size) (v:Value) (bs:List β) (hs:a.eval s=v) (HO:OwnR wr base ty sz I v bs) (b:β) (row:List Value) (tt:TypeId) (hx:a.eval x = .slice (some ⟨wr.heap.size,0,none⟩) 1 1) (hrow:row.length=sz) (h1c:∀u∈row,u.oneCell'=true) (hIb:I b row wr) (hI:∀b r w1 w2,Touch ty w1 w2→I b r w1→I b r w2) (hn:bs.length<500000000)
  (hK:∀v' w',Hid (OwnR w' base ty sz I v' (bs ++ [b]))→Hid (wr.heap.size≤w'.heap.size∧∀k,k<wr.heap.size→some k≠v.ownBlock→w'.heap[k]? = wr.heap[k]?)→Hid (∀B0 w0,Below B0 w0 wr→B0≤base→Below B0 w0 w')→wpListIn F n Tryz.prog ops Q rest (a.put o.dst v') w') :
  wpListIn F n Tryz.prog ops Q (o :: rest) a (wr.alloc (.cells row.toArray tt)):=by
 obtain⟨xs,h1,h2,h3,h4⟩:=HO;refine wpListIn_append_own _ hg s x t hop base ty inf z sz bytes e1 e2 e3 e4 e5 e6 e7 v bs.length xs.flatten hs (World.ownsRow.alloc h1 _) ⟨wr.heap.size,0,none⟩ 1 1 row hx (by rw [hrow];omega) (fun j u hu=>by rw [Addr.add_lit,Nat.zero_add,World.cell?_alloc_new];simpa using hu) h1c (by unfold maxLen;omega) (by
  have:(bs.length+1)*bytes≤500000000*100:=Nat.mul_le_mul (by omega) e8;omega) (by simp;omega) ?_
 intro v' w' g1 g2 _;have hT:Touch ty wr w':=by
  refine⟨Nat.le_trans (by simp) g2.size,fun k cs e fz hk hne => ?_⟩;have hlt:k<wr.heap.size:=(Array.getElem?_eq_some_iff.1 hk).1;have hal:(wr.alloc (.cells row.toArray tt)).heap[k]? = wr.heap[k]?:=(zaa wr _).block k hlt;rw [g2.block k (by simp;omega) (fun hk' => ?_),hal]
  ·exact hk
  ·rcases h1.2 with⟨rfl,_⟩|⟨g,cap,cur,rfl,q1,q2,_⟩
   ·cases hk'
   ·have:k=g:=by simpa [Value.ownBlock]using hk'
    subst this;rw [q2]at hk;injection hk with hk;injection hk with _ hk _;exact hne hk.symm
 refine hK v' w' ⟨xs ++ [row],?_,by simp [h2],fun r hr => ?_,fun i r b' hr hb' => ?_⟩ ⟨hT.1,?_⟩ ?_
 ·rw [List.flatten_append,List.length_append];simpa using g1
 ·rcases List.mem_append.1 hr with h|h
  ·exact h3 r h
  ·rw [List.mem_singleton.1 h,hrow]
 ·rcases Nat.lt_or_ge i bs.length with hi|hi
  ·rw [List.getElem?_append_left (by omega)]at hr hb';exact hI _ _ _ _ hT (h4 i r b' hr hb')
  ·rw [List.getElem?_append_right (by omega)]at hr hb';rw [h2]at hr;rcases Nat.eq_zero_or_pos (i-bs.length)with h0|h0
   ·rw [h0]at hr hb';have hr:row=r:=by simpa using hr
    have hb':b=b':=by simpa using hb'
    rw [←hr,←hb'];exact hI _ _ _ _ hT hIb
   ·rw [List.getElem?_eq_none (by simp;omega)]at hr
    cases hr
 ·intro k hk hne;rw [g2.block k (by simp;omega) hne,(zaa wr _).block k hk]
 ·intro B0 w0 hB h0;refine(hB.trans ((zaa wr _).mono (Nat.le_trans h0 hbase))).grown g2 (by simp;omega) fun k hk => ?_
  rcases h1.2 with⟨rfl,_⟩|⟨g,cap,cur,rfl,q1,q2,_⟩
  ·cases hk
  ·have:g=k:=by simpa [Value.ownBlock]using hk
   omega
theorem PvS.congr2{base b2 g cv m N:Nat}{Inv:Inv'}{A A':Nat→Nat→Rat}{k:Nat}{w:World}(h:PvS base b2 g cv m N Inv A k w)(e:∀i j,i<m→j<N→A i j=A' i j):PvS base b2 g cv m N Inv A' k w:=by
 obtain⟨rvs,hm⟩:=h.mat;have:Go.Num.tab m N A=Go.Num.tab m N A':=by
  unfold Go.Num.tab;refine List.map_congr_left fun i hi=>List.map_congr_left fun j hj=>e i j (List.mem_range.1 hi) (List.mem_range.1 hj)
 exact⟨⟨rvs,by rw [←this];exact hm⟩,h.box,h.eb,h.eg,h.tab,h.two,h.inv⟩
theorem znJ{a:Nat→Rat}{N j:Nat}(x:Rat):(rowF a N).set j x=rowF (fun c=>if c=j then x else a c) N:=by
 refine List.ext_getElem? fun k => ?_
 by_cases hk:k<N
 ·rw [zdV hk];by_cases e:k=j
  ·subst e;rw [List.getElem?_set_self (by rw [zan];exact hk),if_pos rfl]
  ·rw [List.getElem?_set_ne (Ne.symm e),zdV hk,if_neg e]
 ·rw [List.getElem?_eq_none (by rw [List.length_set,zan];omega),List.getElem?_eq_none (by rw [zan];omega)]
theorem PvS.store{base b2 g cv m N:Nat}{Inv:Inv'}{A:Nat→Nat→Rat}{k:Nat}{w:World}(h:PvS base b2 g cv m N Inv A k w){i j b c:Nat}(hi:i<m)(hj:j<N)(hc:w.cell? ((⟨g,0,none⟩:Addr).add (i*1))=some (.slice (some ⟨b,0,none⟩) N c)){row:List Value}{x:Rat}(hrow:row.length=3)(hx:IR x row w)
  (hI:∀b k w w',base≤b→Inv k w→ButB b w w'→Elem w b 25→Inv k w') :
  PvS base b2 g cv m N Inv (fun i'=>if i'=i then(fun j'=>if j'=j then x else A i j')else A i') k (w.setCells b (j*3) row)∧w.there b (j*3) 3:=by
 obtain⟨rvs,hm⟩:=h.mat;have hu:=zkp hm hi hc;have hr:=hm.row i _ _ hu (zek hi);obtain⟨b',c',e,hbb,_,cur,hcur⟩:=hr.own (by simp;omega);injection e with e;injection e with e;injection e with e;subst e;have hE:Elem w b 25:=⟨cur,_,hcur⟩;have hbut:=zal b row (j*3) w;have hK:=hbut.kept hE rfl;obtain⟨h1,h2⟩:=hm.setItem (by decide) (by decide) (l:=rowF (A i) N) (by rw [zan];exact hu) (zek hi) (by rw [zan];exact hj) hrow (fun _ _ q=>zao.kept q hK) (zao.kept hx hK);rw [znJ]at h1;have e1:=zj9 (m:=m) (N:=N) (A:=A) (i:=i) (fun j'=>if j'=j then x else A i j');rw [show(Go.Num.tab m N A).set i (rowF (fun j'=>if j'=j then x else A i j') N)=_ from e1]at h1;have hbg:b≠g:=hE.ne h.eg (by decide);refine⟨⟨⟨_,h1⟩,(hbut.cell (p:=⟨b2,0,none⟩) h.eb.lt (h.eb.ne hE (by decide))).trans h.box,hbut.elem h.eb (h.eb.ne hE (by decide)),hbut.elem h.eg (Ne.symm hbg),h.tab.but hbut ?_,h.two,hI b _ _ _ hbb h.inv hbut hE⟩,h2⟩;have:=h.two;omega
structure zma(g l:Nat)(w w':World):Prop where
 size:w.heap.size≤w'.heap.size
 blk:∀b,b<w.heap.size→b≠g→b≠l→w'.heap[b]? = w.heap[b]?
 rcd:(∃L,w.heap[l]? = some (.loop L))→∃L,w'.heap[l]? = some (.loop L)
 os:w'.os=w.os
 tape:w'.tape=w.tape
 output:w'.output=w.output
 kept:Go.Eng.Kept rs3 w w'
theorem ButB.keepC{g l:Nat}{w w':World}(h:ButB g w w')(hl:l≠g)(hk:Go.Eng.Kept rs3 w w'):zma g l w w':=⟨h.size,fun b hb hg _=>h.blk b hb hg,fun⟨L,q⟩=>⟨L,(h.blk l (Array.getElem?_eq_some_iff.1 q).1 hl).trans q⟩,h.os,h.tape,h.output,hk⟩
theorem zma.below{g l base:Nat}{w0 w w':World}(h:zma g l w w')(hb:Below base w0 w)(hg:base≤g)(hl:base≤l)(hs:base≤w.heap.size):Below base w0 w':=⟨h.os.trans hb.os,h.tape.trans hb.tape,h.output.trans hb.output,Nat.le_trans hb.size h.size,fun k hk=>(h.blk k (by omega) (by omega) (by omega)).trans (hb.block k hk)⟩
def NoC(w w':World):Prop:=∀(b:Nat) (o:Obj),w.heap[b]? = some o→o.isCells=false→w'.heap[b]? = some o
theorem NoC.of_below{w w':World}(h:Below w.heap.size w w'):NoC w w':=fun b _ hb _=>(h.block b (Array.getElem?_eq_some_iff.1 hb).1).trans hb
theorem NoC.trans{w w' w'':World}(h:NoC w w')(k:NoC w' w''):NoC w w'':=fun b o hb ho=>k b o (h b o hb ho) ho
theorem ButB.noC{g:Nat}{w w':World}(h:ButB g w w'){cs:Array Value}{e:TypeId}{fz:Nat × Nat}(hg:w.heap[g]? = some (.cells cs e fz)):NoC w w':=fun b o hb ho=>(h.blk b (Array.getElem?_eq_some_iff.1 hb).1 (fun e=>by
 subst e;rw [hg]at hb
 cases hb
 cases ho)).trans hb
structure PutC(w w':World):Prop where
 size:w'.heap.size=w.heap.size
 blk:∀(b:Nat) (cs:Array Value) (e:TypeId) (fz:Nat × Nat),w.heap[b]? = some (.cells cs e fz)→w'.heap[b]? = some (.cells cs e fz)
 os:w'.os=w.os
 tape:w'.tape=w.tape
 output:w'.output=w.output
theorem zhU{w:World}{l:Nat}{o o':Obj}(h:w.heap[l]? = some o)(ho:o.isCells=false):PutC w (w.putObj l o'):=by
 have hg:=grownBy_putObj' w l o';refine⟨by simp [World.putObj],fun b cs e fz hb => ?_,hg.os,hg.tape,hg.output⟩;rw [World.putObj_heap_other (fun e=>by
  subst e;rw [h]at hb
  cases hb
  cases ho)]
 exact hb
theorem zie(g l:Nat)(w:World)(L:Loop){o:Obj}(ho:w.heap[l]? = some o)(hc:o.isCells=false):zma g l w (w.putObj l (.loop L)):=by
 have hg:=grownBy_putObj' w l (.loop L);exact⟨by simp [World.putObj],fun b _ _ hl=>World.putObj_heap_other hl,fun⟨_,q⟩=>⟨L,World.putObj_heap_same (Array.getElem?_eq_some_iff.1 q).1⟩,hg.os,hg.tape,hg.output,fun b cs e fz hb _=>(zhU ho hc).blk b cs e fz hb⟩
theorem PutC.frx{w w':World}(h:PutC w w'):FrX (fun _ _=>False) w w':=⟨Nat.le_of_eq h.size.symm,fun b cs e fz hb _=>h.blk b cs e fz hb⟩
theorem FrX.trans{X:Nat→TypeId→Prop}{w w' w'':World}(h:FrX X w w')(k:FrX X w' w''):FrX X w w'':=⟨Nat.le_trans h.1 k.1,fun b cs e fz hb hx=>k.2 b cs e fz (h.2 b cs e fz hb hx) hx⟩
theorem FrX.mono{X Y:Nat→TypeId→Prop}{w w':World}(h:FrX X w w')(k:∀b e,X b e→Y b e):FrX Y w w':=⟨h.1,fun b cs e fz hb hy=>h.2 b cs e fz hb (fun q=>hy (k b e q))⟩
theorem FrX.of_below{X:Nat→TypeId→Prop}{w w':World}(h:Below w.heap.size w w'):FrX X w w':=⟨h.size,fun b _ _ _ hb _=>(h.block b (Array.getElem?_eq_some_iff.1 hb).1).trans hb⟩
theorem zpB{P:Program}{F:Fence}{n:Nat}{x:Code}{K:CAct→World→Prop}{Q:Exit→CAct→World→Prop}{a:CAct}{w:World}{A:CAct}{W:World}(hx:x.wpIn F n P (fun e a' w'=>e = .normal∧a'=A∧w'=W) a w)(h:K A W):x.wpIn F n P (Exit.then K Q) a w:=
 wpIn_mono hx (by rintro e a' w' ⟨rfl,rfl,rfl⟩;exact h)
theorem zgY{gop:Operand}{ps:Array Tmp}{assign body:Code}{Q:Exit→CAct→World→Prop}{a:CAct}{w w0:World}(hw0:w0=w)(b1 b2 base g cv m N columns:Nat)(Inv:Inv')(X:Nat→TypeId→Prop)(A0:Nat→Nat→Rat)
  (hps:ps.size=2) (hg:a.eval gop = .func (.func 134) #[] #[.pointer (some ⟨b1,0,none⟩),.pointer (some ⟨b2,0,none⟩)]) (h0:0<m) (hm9:m≤1000) (hN:0<N) (hN9:N≤1000) (hcN:columns≤N)
  (hI:∀k w w',Inv k w→zma g (w0.heap.size+1) w w'→Inv k w') (hX:∀b e,base≤b→(e=25∨e=64∨e=116)→¬X b e) (hX1:∀b,¬X b 111) (hXp:∀e,¬X 3 e) (hb2:base≤b2)
  (hG:∀c,c≤columns→Good m N (pRun m A0 c).P)
  (hround:∀cc W v q,cc<columns→pRow m cc (pRun m A0 cc)<m→q=(pRun m A0 cc).P (pRow m cc (pRun m A0 cc)) cc→q≠0→zar q 700→zao W v q→zaU W→w.heap.size+2≤W.heap.size→Inv (pRun m A0 cc).k W →
   assign.wpIn (Fence.wide.inRound (w.heap.size+1)) 0 Tryz.prog (Exit.then (fun a' Wa=>Below W.heap.size W Wa∧∀Wp,PutC Wa Wp→zma g (w0.heap.size+1) Wa Wp→body.wpIn (Fence.wide.inRound (w.heap.size+1)) 0 Tryz.prog (fun e _ W3=>e = .normal∧NoC Wp W3∧Inv ((pRun m A0 cc).k+1) W3∧FrX X Wp W3) a' Wp) (fun _ _ _=>False))
    {tmps:=(ps.zip #[.int .i64 (cc:Int),v]).foldl (fun t (p,v)=>t.setIfInBounds p v) a.tmps,defers:=[]} W)
  (hS:PvS base b2 g cv m N (fun _ _=>True) A0 0 w) (hInv0:∀w',Below w.heap.size w w'→(∃L,w'.heap[w.heap.size+1]? = some (.loop L))→Inv 0 w') (hb1:w.cell? ⟨b1,0,none⟩=some (.int .i64 (columns:Int)))
  (hfin:∀W2,PvS base b2 g cv m N Inv (pRun m A0 columns).P (pRun m A0 columns).k W2→W2.heap[w.heap.size]? = some (.deferred (some []))→Q .normal {a with defers:={target:=.collected w.heap.size,args:=#[]} :: a.defers} W2) :
  (Code.rangeFunc gop ps assign body).wpIn Fence.wide 0 Tryz.prog Q a w:=by
 refine zrc (n:=1) (zrv rfl (by omega) hg trivial (ec 134 _ Tryz.func134 rfl) ?_);intro fn hfn;obtain⟨B,hB⟩:∃B,w.heap.size=B:=⟨_,rfl⟩;obtain⟨rec,hrec⟩:∃rec,zgs fn a.tmps ps assign body B=rec:=⟨_,rfl⟩;obtain⟨WB,hWB⟩:∃W,(w.alloc (.deferred (some []))).alloc (.loop (zgs fn a.tmps ps assign body B .ready none))=W:=⟨_,rfl⟩;have hbw:Below w.heap.size w WB:=by rw [←hWB];exact((zaa w _).alloc (by simp) _)
 have hbk:zgj B rec WB:=by
  rw [←hWB,hrec];refine⟨?_,?_⟩
  ·have:=heap_alloc_new (w.alloc (.deferred (some []))) (.loop (rec .ready none));rw [World.size_alloc,hB]at this;exact this
  ·have:=heap_alloc_new w (.deferred (some []));rw [hB]at this;exact Go.Eng.heap_alloc_old _ _ this
 have hI1:∀k w w',(Inv k w∧zgj B rec w)→ButB g w w'→Elem w g 64→(Inv k w'∧zgj B rec w'):=by
  rintro k w w' ⟨h1,h2⟩ hb hE;obtain⟨ce,fze,hE'⟩:=hE;have hn:=hb.noC hE';exact⟨hI k w w' h1 (hb.keepC (fun e=>by rw [hw0,hB]at e;rw [←e,h2.1]at hE';cases hE') (hb.kept ⟨ce,fze,hE'⟩ rfl)),hn _ _ h2.1 rfl,hn _ _ h2.2 rfl⟩
 have hSB:PvS base b2 g cv m N (fun k w=>Inv k w∧zgj B rec w) A0 0 WB:=by
  have h1:=hS.below hbw (fun _ _ _ _ _ _=>trivial);exact⟨h1.mat,h1.box,h1.eb,h1.eg,h1.tab,h1.two,hInv0 WB hbw ⟨_,by rw [hB];exact hbk.1⟩,hbk⟩
 rw [hB,hWB];refine(anyN (zoW (B+1) b1 b2 base g cv m N columns (fun k w=>Inv k w∧zgj B rec w) X A0 WB h0 hm9 hN hN9 hcN hI1 hX hX1 hXp hb2 hG ?_ hSB ((hbw.cell (World.block_lt_of_cell? _ _ hb1)).trans hb1))).mono ?_
 ·rintro cc W v q h1 h2 h3 h4 h5 h6 h7 ⟨h8,h9⟩;have hsz:w.heap.size+2≤W.heap.size:=by
   have:=(Array.getElem?_eq_some_iff.1 h9.1).1;omega
  refine zrs (F:=Fence.wide) (fn:=fn) (tmps:=a.tmps) (ps:=ps) (assign:=assign) (body:=body) trivial (by rw [hps];rfl) (by rw [hrec];exact h9) ?_;have hr:=hround cc W v q h1 h2 h3 h4 h5 h6 h7 hsz h8;rw [hB]at hr;refine wpIn_mono hr ?_;rintro e a' Wa hx
  cases e with
  | normal=>
   obtain⟨hBa,hbody⟩:=hx;have ba:zgj B rec Wa:=⟨NoC.of_below hBa _ _ h9.1 rfl,NoC.of_below hBa _ _ h9.2 rfl⟩;rw [hrec];refine⟨ba,?_⟩;have hpc:=zhU (o':=.loop (rec .busy none)) ba.1 rfl;refine wpIn_mono (hbody _ hpc (by rw [hw0,hB];exact zie g (B+1) _ _ ba.1 rfl)) ?_;rintro e3 a3 W3 ⟨rfl,hn,hI3,hF3⟩;have hp1:(Wa.putObj (B+1) (.loop (rec .busy none))).heap[B+1]? = some (.loop (rec .busy none)):=World.putObj_heap_same (Array.getElem?_eq_some_iff.1 ba.1).1;have hp2:(Wa.putObj (B+1) (.loop (rec .busy none))).heap[B]? = some (.deferred (some [])):=(World.putObj_heap_other (by omega)).trans ba.2;have q1:=hn _ _ hp1 rfl;have q2:=hn _ _ hp2 rfl;have hpc3:=zhU (o':=.loop (rec .ready none)) q1 rfl;refine⟨rfl,q1,q2,rfl,⟨hI _ _ _ hI3 (by rw [hw0,hB];exact zie g (B+1) _ _ q1 rfl),World.putObj_heap_same (Array.getElem?_eq_some_iff.1 q1).1,(World.putObj_heap_other (by omega)).trans q2⟩,?_⟩;exact(FrX.of_below hBa).trans ((hpc.frx.mono (fun _ _ q=>q.elim)).trans (hF3.trans (hpc3.frx.mono (fun _ _ q=>q.elim))))
  | _=>exact hx.elim
 ·rintro e W2 ⟨hv,hP⟩;obtain⟨h1,h2⟩:=hP.inv;refine⟨hv,by rw [hrec];exact h2,?_⟩;have hpc:=zhU (o':=.loop (zgs fn a.tmps ps assign body B .exhausted none)) h2.1 rfl;rw [hrec]at hpc ⊢;have hP':PvS base b2 g cv m N Inv (pRun m A0 columns).P (pRun m A0 columns).k W2:=⟨hP.mat,hP.box,hP.eb,hP.eg,hP.tab,hP.two,h1⟩;have:=hfin _ (hP'.frx h0 hpc.frx (fun _ _ _ _ q=>q) (fun _ q=>q) (fun _ q=>q) hb2 (hI _ _ _ h1 (by rw [hw0,hB];exact zie g (B+1) _ _ h2.1 rfl))) (by rw [hB];exact(World.putObj_heap_other (by omega)).trans h2.2);rw [hB]at this;exact this
end Go.Num
namespace Go.Num
open Go.Eng Go.Shelf Go.RowKit Go.Sort Go.Proofs Go.Proofs.YtoamcgjbelhnkaaGreatDoor
attribute [local go_sem] Oper.semAt_some
theorem OwnR.blk{β:Type}{w:World}{base ty sz:Nat}{I:β→List Value→World→Prop}{v:Value}{bs:List β}(h:OwnR w base ty sz I v bs){b:Nat}(hb:v.ownBlock=some b):base≤b∧∃cur,w.heap[b]? = some (.cells cur ty (0,0)):=by
 obtain⟨xs,h1,_⟩:=h;rcases h1.2 with⟨e,_⟩|⟨g,cap,cur,e,g1,g2,_⟩
 ·rw [e]at hb;cases hb
 ·rw [e]at hb;cases hb;exact⟨g1,cur,g2⟩
structure RdS(w0:World)(base g5:Nat)(cs:List Nat)(k:Nat)(w:World):Prop where
 below:Below base w0 w
 box:∃vl,zaf w g5 1 (fun _=>vl)∧OwnR w (g5+1) 3 1 II vl (cs.take k)
 eb:Elem w g5 29
 rl:∃L,w.heap[g5+4]? = some (.loop L)
theorem zaf.put{w w':World}{g n:Nat}{e:TypeId}{f:Nat→Value}(h:zaf w g n f)(hE:Elem w g e)(hp:PutC w w'):zaf w' g n f:=by
 obtain⟨cs,fz,hE⟩:=hE;have e1:w'.heap[g]? = w.heap[g]?:=by rw [hp.blk _ _ _ _ hE,hE]
 exact fun i hi=>by
  rw [World.cell?_of_block (a:=⟨g,i,none⟩) e1,World.frozen?_of_block (a:=⟨g,i,none⟩) e1];exact h i hi
theorem RdS.keep{w0 w w':World}{base g5 k g:Nat}{cs:List Nat}(h:RdS w0 base g5 cs k w)(hk:zma g (g5+4) w w')(hg:g<g5)(hbg:base≤g):RdS w0 base g5 cs k w':=by
 obtain⟨vl,h1,h2⟩:=h.box;obtain⟨L,hL⟩:=h.rl;have hcell:∀(b:Nat) (c:Array Value) (e:TypeId) (fz:Nat × Nat),w.heap[b]? = some (.cells c e fz)→b≠g5+4:=fun b c e fz q e'=>by
  subst e';rw [hL]at q;cases q
 obtain⟨c5,fz5,hE5⟩:=h.eb;have h5:w'.heap[g5]? = w.heap[g5]?:=hk.blk g5 (Array.getElem?_eq_some_iff.1 hE5).1 (by omega) (hcell _ _ _ _ hE5);refine⟨hk.below h.below hbg (by omega) (by have:=(Array.getElem?_eq_some_iff.1 hE5).1;omega),⟨vl,fun i hi => ?_,h2.keep (fun b hb _ => ?_) (fun _ _ q=>q)⟩,⟨c5,fz5,h5.trans hE5⟩,hk.rcd h.rl⟩
 ·rw [World.cell?_of_block (a:=⟨g5,i,none⟩) h5,World.frozen?_of_block (a:=⟨g5,i,none⟩) h5];exact h1 i hi
 ·obtain⟨hge,cur,hcur⟩:=h2.blk hb;exact hk.blk b (Array.getElem?_eq_some_iff.1 hcur).1 (by omega) (hcell _ _ _ _ hcur)
structure RdT(w0:World)(base s B:Nat)(vl:Value)(cs:List Nat)(w:World):Prop where
 below:Below base w0 w
 lst:OwnR w (s+1) 3 1 II vl cs
 box:w.cell? ⟨s,0,none⟩=some vl
 eb:Elem w s 29
 mark:w.heap[B]? = some (.deferred (some []))
theorem RdT.but{w0 w w':World}{base s B b:Nat}{e:TypeId}{vl:Value}{cs:List Nat}(h:RdT w0 base s B vl cs w)(hb:ButB b w w')(hE:Elem w b e)(hek:rs3.contains e=false)(he:e≠3∧e≠29)(hbb:base≤b):RdT w0 base s B vl cs w':=by
 obtain⟨ce,fze,hE⟩:=hE;have hlt:=(Array.getElem?_eq_some_iff.1 hE).1;refine⟨(hb.keepC (l:=b+1) (by omega) (hb.kept ⟨ce,fze,hE⟩ hek)).below h.below hbb (by omega) (by omega),h.lst.keep (fun k hk _ => ?_) (fun _ _ q=>q),(hb.cell (p:=⟨s,0,none⟩) h.eb.lt (h.eb.ne ⟨ce,fze,hE⟩ (Ne.symm he.2))).trans h.box,hb.elem h.eb (h.eb.ne ⟨ce,fze,hE⟩ (Ne.symm he.2)),hb.noC hE _ _ h.mark rfl⟩;obtain⟨_,cur,hcur⟩:=h.lst.blk hk;refine hb.blk k (Array.getElem?_eq_some_iff.1 hcur).1 (fun e' => ?_);subst e';rw [hE]at hcur
 cases hcur
 exact he.1 rfl
def zdE(P:Nat→Nat→Rat)(cs:List Nat)(i c j:Nat):Nat→Nat→Rat:=fun i'=>if i'<i then zcl P cs i' else if i'=i then(fun j'=>if j'<j then P i j'/P i c else P i j')else P i'
theorem zoX(P:Nat→Nat→Rat)(cs:List Nat)(i c j:Nat):(fun i'=>if i'=i then(fun j'=>if j'=j then P i j/P i c else zdE P cs i c j i j')else zdE P cs i c j i')=zdE P cs i c (j+1):=by
 funext i' j'
 unfold zdE;by_cases h1:i'=i
 ·subst h1;simp only [if_true,Nat.lt_irrefl,if_false];by_cases h2:j'=j
  ·rw [if_pos h2,if_pos (by omega),h2]
  ·rw [if_neg h2];by_cases h3:j'<j
   ·rw [if_pos h3,if_pos (by omega)]
   ·rw [if_neg h3,if_neg (by omega)]
 ·simp only [if_neg h1]
theorem zqb{P:Nat→Nat→Rat}{cs:List Nat}{i c N:Nat}(h:∀j,zcl P cs i j=P i j/P i c){j':Nat}(hj:j'<N)(i':Nat):zdE P cs i c N i' j'=zdE P cs (i+1) 0 0 i' j':=by
 unfold zdE;by_cases h1:i'=i
 ·subst h1;simp only [if_true,Nat.lt_irrefl,if_false,if_pos (Nat.lt_succ_self _),if_pos hj,h]
 ·by_cases h2:i'<i
  ·rw [if_pos h2,if_pos (by omega)]
  ·rw [if_neg h2,if_neg h1,if_neg (by omega)];by_cases h3:i'=i+1
   ·subst h3;simp only [if_true,Nat.not_lt_zero,if_false]
   ·rw [if_neg h3]
theorem zqc(P:Nat→Nat→Rat)(cs:List Nat){i:Nat}(h:cs.length=i)(i':Nat):zdE P cs i 0 0 i'=zcl P cs i':=by
 unfold zdE;by_cases h1:i'<i
 ·rw [if_pos h1]
 ·rw [if_neg h1];unfold zcl;rw [List.getElem?_eq_none (by omega)];by_cases h3:i'=i
  ·subst h3;simp only [if_true,Nat.not_lt_zero,if_false]
  ·rw [if_neg h3]
theorem znB{w:World}{b o:Nat}{x y z:Value}(ht:w.there b o 3)(h1:#[x,y,z].all (·.oneCell')=true):(Instr.storeAt 25 (.pointer (some ((⟨b,0,none⟩:Addr).add o))) (.agg #[x,y,z])).run Tryz.prog w = .ok () (w.setCells b o [x,y,z]):=by
 rw [Addr.add_lit,Nat.zero_add];exact run_storeAt_mid w b o 25 #[x,y,z] ht (by kernel_rfl) h1
theorem zhK{r:Nat}{w:World}(h:w.heap[r]? = some (.deferred (some []))):(Instr.takeDeferred r).run Tryz.prog w = .ok [] (w.putObj r (.deferred none)):=run_takeDeferred h
theorem zdY(w:World)(base g cv m N columns:Nat)(A0:Nat→Nat→Rat)(h0:0<m)(hm9:m≤1000)(hN:0<N)(hN9:N≤1000)(hcN:columns≤N)(hb4:4≤base)
  (hM:∃rvs,zav w base 64 25 3 IR (.slice (some ⟨g,0,none⟩) m cv) rvs (tab m N A0)) (hT:zaU w) (hG:∀c,c≤columns→Good m N (pRun m A0 c).P) (hG2:Good m N (zcl (pRun m A0 columns).P (zay m A0 columns)))
  (hpv:∀(i c:Nat),(zay m A0 columns)[i]? = some c→(pRun m A0 columns).P i c≠0) :
  CallsIn Fence.wide 0 Tryz.prog 81 #[.slice (some ⟨g,0,none⟩) m cv,.int .i64 (columns:Int)] w fun e w'=>∃vc,e = .returned vc∧OwnR w' (w.heap.size+1) 3 1 II vc (zay m A0 columns)∧(∃rvs,zav w' base 64 25 3 IR (.slice (some ⟨g,0,none⟩) m cv) rvs (tab m N (zcl (pRun m A0 columns).P (zay m A0 columns))))∧Below base w w':=by
 have HM:=zHi hM;have HT:=zHi hT;have HG:=zHi hG;have HG2:=zHi hG2;have HPV:=zHi hpv;have hbg:base≤g∧g<w.heap.size∧∃cur,w.heap[g]? = some (.cells cur 64 (0,0)):=by
  obtain⟨rvs,hm⟩:=hM;have hl:rvs.length=m:=by rw [←hm.len,zaq]
  obtain⟨g',c',e,h1,h2,h3⟩:=hm.top.own (by omega);injection e with e;injection e with e;injection e with e;subst e;exact⟨h1,h2,h3⟩
 obtain⟨hbg,hgl,curg,hcurg⟩:=hbg;have HCG:=zHi hcurg;clear hM hT hG hG2 hcurg hpv;refine callsIn_of_wp_marks Tryz.func81 rfl trivial ?_ rfl;simp only [Tryz.ntmps81,ztE,ztF,ztG,Nat.reduceAdd,Nat.reduceSub,ztH,ztI,ztJ,ztK,ztL,ztM];gi_wp2_with (gi_at_call 99;refine stop ?_)
 unfold Stop;refine(zg0 _ _ columns ⟨_,_,_,rfl⟩).mono ?_;rintro e w1 ⟨rfl,rfl⟩;gi_wp2;obtain⟨g5,hg5⟩:∃g5,w.heap.size=g5:=⟨_,rfl⟩;obtain⟨WA,hWA⟩:∃W,((w.alloc (Obj.cells #[Value.slice none 0 0] 29)).alloc (Obj.cells #[Value.slice (some ⟨g,0,none⟩) m cv] 116)).alloc (Obj.cells #[Value.int .i64 (columns:Int)] 3)=W:=⟨_,rfl⟩;have hsA:WA.heap.size=g5+3:=by rw [←hWA,←hg5];simp
 have hBA:Below w.heap.size w WA:=by rw [←hWA];exact(((zaa w _).alloc (by simp) _).alloc (by simp;omega) _)
 have x5:=zaP w [.slice none 0 0] 29;have x6:=zaP (w.alloc (Obj.cells #[Value.slice none 0 0] 29)) [.slice (some ⟨g,0,none⟩) m cv] 116;have x7:=zaP ((w.alloc (Obj.cells #[Value.slice none 0 0] 29)).alloc (Obj.cells #[Value.slice (some ⟨g,0,none⟩) m cv] 116)) [.int .i64 (columns:Int)] 3;have y5:zaf WA g5 1 (fun _ => .slice none 0 0):=by
  rw [←hWA,←hg5];refine((zaf.new w _ 29 (fun i hi => ?_)).alloc (by simp) _).alloc (by simp;omega) _;have:i=0:=by omega
  subst this;rfl
 have z5:Elem WA g5 29:=by
  rw [←hWA,←hg5];exact((zaA w _ 29).below (zaa _ _) (by simp)).below (zaa _ _) (by simp;omega)
 have y6:WA.cell? ⟨g5+1,0,none⟩=some (.slice (some ⟨g,0,none⟩) m cv):=by
  rw [←hWA];have:=(x6.below (zaa _ (.cells #[.int .i64 (columns:Int)] 3))).2 0 _ rfl;rw [World.size_alloc,hg5]at this;exact this
 have z6:Elem WA (g5+1) 116:=by
  rw [←hWA];have:=(zaA (w.alloc (Obj.cells #[Value.slice none 0 0] 29)) #[Value.slice (some ⟨g,0,none⟩) m cv] 116).below (zaa _ (.cells #[.int .i64 (columns:Int)] 3)) (by simp);rw [World.size_alloc,hg5]at this;exact this
 have y7:WA.cell? ⟨g5+1+1,0,none⟩=some (.int .i64 (columns:Int)):=by
  rw [←hWA];have:=x7.2 0 _ rfl;rw [World.size_alloc,World.size_alloc,hg5]at this;exact this
 have hPS:PvS base (g5+1) g cv m N (fun _ _=>True) A0 0 WA:=by
  obtain⟨rvs,hm⟩:=HM.out;exact⟨⟨rvs,hm.below hBA (IR.below hBA)⟩,y6,z6,⟨curg,_,(hBA.block g hgl).trans HCG.out⟩,HT.out.below hBA,hb4,trivial⟩
 have HI0:Hid (∀w',Below WA.heap.size WA w'→(∃L,w'.heap[WA.heap.size+1]? = some (.loop L))→RdS w base g5 (zay m A0 columns) 0 w'):=zHi (fun w' hb hL=>by
  rw [hsA]at hL;refine⟨(hBA.mono (by omega)).trans (hb.mono (by omega)),⟨_,y5.below (by omega) hb,?_⟩,z5.below hb (by omega),hL⟩;rw [List.take_zero];exact OwnR.nil _ _ _ _ _)
 have HPS:=zHi hPS;have HY7:=zHi y7;rw [hWA,hg5];have hbg5:g<g5:=by omega
 have HG5:=zHi hg5;clear x5 x6 x7 y5 y6 y7 z5 z6 hPS hWA HM HT HCG;refine zgY (w0:=WA) rfl (g5+1+1) (g5+1) base g cv m N columns (RdS w base g5 (zay m A0 columns)) (fun b e=>g5≤b∧(e=29∨e=3)) A0 rfl rfl h0 hm9 hN hN9 hcN ?_ (fun b e _ he q=>by rcases he with rfl|rfl|rfl <;> exact q.2.elim (fun h=>absurd h (by decide)) (fun h=>absurd h (by decide))) (fun b q=>q.2.elim (fun h=>absurd h (by decide)) (fun h=>absurd h (by decide))) (fun e q=>by have:=q.1;omega) (by omega) HG.out ?_ HPS.out HI0.out HY7.out ?_
 ·intro k w1 w2 h hk;rw [hsA]at hk;exact h.keep hk (by omega) hbg
 ·intro cc W v q hcc hrow _ _ _ _ _ hsz hInv;have HIv:=zHi hInv;obtain⟨vl,hbx,hlst⟩:=hInv.box;refine zpB (by gi_wp2;exact⟨rfl,rfl⟩) ?_;refine⟨Below.refl _ _,fun Wp hpc hkc => ?_⟩;rw [hsA]at hkc;have HRp:=zHi (hInv.keep hkc (by omega) hbg);have hbx':zaf Wp g5 1 (fun _=>vl):=hbx.put hInv.eb hpc;have hl5:OwnR Wp (g5+1) 3 1 II vl ((zay m A0 columns).take (pRun m A0 cc).k):=hlst.keep (fun b hb _=>by
   obtain⟨_,cur,hcur⟩:=hlst.blk hb;rw [hpc.blk _ _ _ _ hcur,hcur]) (fun _ _ q=>q)
  have HL5:=zHi hl5;have c0:=(hbx' 0 (by omega)).1;have hlen:((zay m A0 columns).take (pRun m A0 cc).k).length≤1000:=by
   rw [List.length_take];have:=(zdG m A0 cc).1;omega
  rw [hsA,←hpc.size]at hsz;obtain⟨ov,cv',hvf⟩:=hl5.form;obtain⟨kl,hkl⟩:∃kl,((zay m A0 columns).take (pRun m A0 cc).k).length=kl:=⟨_,rfl⟩;rw [hkl]at hvf hlen;have HKL:=zHi hkl;have HPC:=zHi hpc;have HBX':=zHi hbx';subst hvf;clear hpc hbx hbx' hl5 hlst hInv hkl;gi_wp2_with (gi_at_builtin;refine stop ?_)
  unfold Stop;refine zdi (ty:=3) (sz:=1) (bytes:=8) Wp rfl _ _ rfl u29' zfo zgn zgo zeZ rfl (by decide) (by decide) (g5+1) (by omega) (.slice ov kl cv') _ rfl HL5.out cc [.int .i64 (cc:Int)] _ rfl rfl (by simp [Value.oneCell']) rfl (fun _ _ _ _ _ h=>h) (by rw [HKL.out];omega) ?_;intro v' w' HO HBk HBel;have hne5:∀b,(Value.slice ov kl cv').ownBlock=some b→g5+1≤b∧∃cur,Wp.heap[b]? = some (.cells cur 3 (0,0)):=fun b hb=>HL5.out.blk hb
  have HNE:=zHi hne5;have hg5W:g5<Wp.heap.size:=by omega
  have hb5:w'.heap[g5]? = Wp.heap[g5]?:=HBk.out.2 g5 hg5W (fun e=>by have:=(HNE.out g5 e.symm).1;omega);have HB5:=zHi hb5;have hax:zaf w' g5 1 (fun _ => .slice ov kl cv'):=fun i hi=>by
   rw [World.cell?_of_block (a:=⟨g5,i,none⟩) hb5,World.frozen?_of_block (a:=⟨g5,i,none⟩) hb5];exact HBX'.out i hi
  have HAX:=zHi hax;have d0:=(hax 0 (by omega)).1;have d1:=(hax 0 (by omega)).2;obtain⟨o',c',hvf⟩:=HO.out.form;have hl':((zay m A0 columns).take (pRun m A0 cc).k ++ [cc]).length=kl+1:=by rw [List.length_append,HKL.out];rfl
  rw [hl']at hvf;subst hvf;clear hax hb5 hne5 hl' c0;gi_wp2;obtain⟨c5,fz5,he5⟩:=HRp.out.eb;refine⟨fun b o hb ho => ?_,⟨(HBel.out base w HRp.out.below (by omega)).setCell (p:=⟨g5,0,none⟩) (show base≤g5 by omega) _,⟨.slice o' (kl+1) c',(HAX.out.set (by omega) _).congr (fun i hi => ?_),?_⟩,?_,?_⟩,?_⟩
  ·rw [heap_setCell_other _ _ _ _ (show b≠g5 from fun e=>by rw [e,he5]at hb;cases hb;cases ho),HBk.out.2 b (Array.getElem?_eq_some_iff.1 hb).1 (fun e=>by
    obtain⟨_,cur,hcur⟩:=HNE.out b e.symm;rw [hcur]at hb;cases hb;cases ho),hb]
  ·have:i=0:=by omega
   rw [if_pos this]
  ·rw [zo0 hcc hrow];exact HO.out.keep (fun b hb _=>heap_setCell_other _ _ _ _ (show b≠g5 from fun e=>by have:=(HO.out.blk hb).1;omega)) (fun _ _ q=>q)
  ·exact(Elem.of_block (w:=Wp) ⟨c5,fz5,he5⟩ HB5.out).setCell _ _
  ·obtain⟨L,hL⟩:=HRp.out.rl;refine⟨L,?_⟩;rw [heap_setCell_other _ _ _ _ (show g5+4≠g5 by omega),HBk.out.2 _ (Array.getElem?_eq_some_iff.1 hL).1 (fun e=>by
    obtain⟨_,cur,hcur⟩:=HNE.out _ e.symm;rw [hcur]at hL;cases hL),hL]
  ·refine⟨by rw [World.size_setCell];exact HBk.out.1,fun b cs e fz hb hx => ?_⟩;rw [heap_setCell_other _ _ _ _ (show b≠g5 from fun e'=>by rw [e',he5]at hb;cases hb;exact hx ⟨by omega,.inl rfl⟩),HBk.out.2 b (Array.getElem?_eq_some_iff.1 hb).1 (fun e'=>by
    obtain⟨hge,cur,hcur⟩:=HNE.out b e'.symm;rw [hcur]at hb;cases hb;exact hx ⟨by omega,.inr rfl⟩),hb]
 ·intro W2 hS2 hmark;obtain⟨P,hP⟩:∃P,(pRun m A0 columns).P=P:=⟨_,rfl⟩;obtain⟨cs,hcs⟩:∃cs,zay m A0 columns=cs:=⟨_,rfl⟩;have hck:cs.length=(pRun m A0 columns).k:=by rw [←hcs];exact zdH _ _ _
  have hk9:=zdG m A0 columns;have hclt:∀x∈cs,x<columns:=by rw [←hcs];exact zko _ _ _
  rw [←hck]at hk9 hS2;have HGP:=zHi (HG.out columns (Nat.le_refl _));rw [hP]at hS2 HGP HG2 HPV;rw [hcs]at hS2 HG2 HPV;have HPE:=zHi hP;have HCE:=zHi hcs;obtain⟨vl,hbx,hlst⟩:=hS2.inv.box;rw [List.take_length]at hlst;have HT0:Hid (PvS base (g5+1) g cv m N (fun _ w'=>RdT w base g5 (g5+3) vl cs w') P 0 W2):=zHi ⟨hS2.mat,hS2.box,hS2.eb,hS2.eg,hS2.tab,hS2.two,⟨hS2.inv.below,hlst,(hbx 0 (by omega)).1,hS2.inv.eb,by rw [←hsA];exact hmark⟩⟩;have d0:=(hbx 0 (by omega)).1;obtain⟨ol,cl,hvf⟩:=hlst.form;obtain⟨K,hK⟩:∃K,cs.length=K:=⟨_,rfl⟩;have HK:=zHi hK;rw [hK]at hvf hk9;have HCL:=zHi hclt;have hIb:∀(k:Nat) (w1 w2:World),RdT w base g5 (g5+3) vl cs w1→ButB g w1 w2→Elem w1 g 64→RdT w base g5 (g5+3) vl cs w2:=fun _ _ _ h hb hE=>h.but hb hE rfl (by decide) hbg
  have HIB:=zHi hIb;subst hvf;rw [hsA];clear hbx hlst hS2 hmark hP hcs hck hK hclt hIb HI0 HPS HY7 HG hBA hg5;dsimp only;gi_wp2;gi_loopw [22] (fun x22 wr=>∃i:Nat,x22 = .int .i64 (i:Int)∧i≤K∧Hid (PvS base (g5+1) g cv m N (fun _ w'=>RdT w base g5 (g5+3) (.slice ol K cl) cs w') (zdE P cs i 0 0) 0 wr)) (fun x _=>K-(intOf x).toNat)
  case atStart=>exact⟨0,rfl,by omega,zHi (HT0.out.congr (fun i _=>by
   unfold zdE;rw [if_neg (by omega)];split
   ·rename_i e;subst e;funext j;rw [if_neg (by omega)]
   ·rfl))⟩
  case round=>
   obtain⟨i,rfl,hiK,HS⟩:=hrel;clear HT0;by_cases hi:i<K
   ·obtain⟨c,hc⟩:∃c,cs[i]? = some c:=⟨_,List.getElem?_eq_getElem (by rw [HK.out];exact hi)⟩;have HC:=zHi hc;have hcN':c<N:=by have:=HCL.out c (List.mem_of_getElem? hc);omega
    have him:i<m:=by omega
    obtain⟨gl,cl',rl,e,_,_,_,hl2,hl3⟩:=HS.out.inv.lst.item hc;injection e with e1 e2 e3;subst e1;have hl3:rl = [.int .i64 (c:Int)]:=hl3;subst hl3;have x0:=hl2 0 _ rfl;rw [Addr.add_add,Addr.add_lit]at x0;simp only [Nat.mul_one,Nat.add_zero,Nat.zero_add]at x0;obtain⟨ra,rc,sg,o1,k1,c1,o2,k2,c2,p0,p1,p2,p3,hra⟩:=HS.out.item him hcN' hN9;obtain⟨_,bi,ci,_,_,_,hci,hri⟩:=HS.out.row him hN;have hbi:bi<wr.heap.size:=by
     obtain⟨b',c',e,_,h',_⟩:=hri.own (by rw [zan];exact hN);injection e with e;injection e with e;injection e with e;omega
    have hpi:zdE P cs i 0 0 i c=P i c:=by unfold zdE;rw [if_neg (by omega),if_pos rfl,if_neg (by omega)]
    rw [hpi]at hra;have hpc:P i c≠0:=HPV.out i c hc;have hgw:=HS.out.eg.lt;have hunit:∀j,zcl P cs i j=P i j/P i c:=fun j=>by unfold zcl;rw [hc]
    have HUN:=zHi hunit;obtain⟨W5,hW5⟩:∃W,W=wr.alloc (.cells #[.bool sg,.slice o1 k1 c1,.slice o2 k2 c2] 25):=⟨_,rfl⟩;have hB5:Below wr.heap.size wr W5:=by rw [hW5];exact zaa _ _
    have HS5:Hid (PvS base (g5+1) g cv m N (fun _ w'=>RdT w base g5 (g5+3) (.slice (some ⟨gl,0,none⟩) K cl) cs w') (zdE P cs i c 0) 0 W5):=zHi ((HS.out.below hB5 HIB.out).congr (fun i' _=>by
     unfold zdE;by_cases h1:i'<i
     ·rw [if_pos h1,if_pos h1]
     ·rw [if_neg h1,if_neg h1];by_cases h2:i'=i
      ·rw [if_pos h2,if_pos h2];funext j';rw [if_neg (by omega),if_neg (by omega)]
      ·rw [if_neg h2,if_neg h2]))
    have HB5:Hid (BoxL W5 wr.heap.size [.bool sg,.slice o1 k1 c1,.slice o2 k2 c2]):=zHi (by rw [hW5];exact zaP _ _ _);have HR5:Hid (zao W5 (.agg #[.bool sg,.slice o1 k1 c1,.slice o2 k2 c2]) (P i c)):=zHi (hra.below hB5);have HC5:Hid (W5.cell? ((⟨g,0,none⟩:Addr).add (i*1))=some (.slice (some ⟨bi,0,none⟩) N ci)):=zHi ((hB5.cell (by rw [zac];exact hgw)).trans hci);have HCI:=zHi hci;clear hra hri hpi hc hl2 hci hB5 hunit;gi_wp2;rw [←hW5];obtain⟨g9,hg9⟩:∃g9,wr.heap.size=g9:=⟨_,rfl⟩;rw [hg9]at HB5 hbi;rw [hg9];clear hW5 hg9 p0 p1 p2 p3 hgw x0;gi_loopw [39] (fun x39 wi=>∃j:Nat,x39 = .int .i64 (j:Int)∧j≤N∧Hid (PvS base (g5+1) g cv m N (fun _ w'=>RdT w base g5 (g5+3) (.slice (some ⟨gl,0,none⟩) K cl) cs w') (zdE P cs i c j) 0 wi)∧Hid (BoxL wi g9 [.bool sg,.slice o1 k1 c1,.slice o2 k2 c2])∧Hid (zao wi (.agg #[.bool sg,.slice o1 k1 c1,.slice o2 k2 c2]) (P i c))∧Hid (wi.cell? ((⟨g,0,none⟩:Addr).add (i*1))=some (.slice (some ⟨bi,0,none⟩) N ci))) (fun x _=>N-(intOf x).toNat)
    case atStart=>exact⟨0,rfl,by omega,HS5,HB5,HR5,HC5⟩
    case round=>
     obtain⟨j,rfl,hjN9,HS6,HB6,HR6,HC6⟩:=hrel;clear HS5 HB5 HR5 HC5;by_cases hjN:j<N
     ·gi_wp2;have HS8:=zHi (HS6.out.below (zab wr) HIB.out);have HB9:=zHi (HB6.out.below (zab wr));have HR9:=zHi (HR6.out.below (zab wr));have hci:wr.drew.cell? ((⟨g,0,none⟩:Addr).add (i*1))=some (.slice (some ⟨bi,0,none⟩) N ci):=HC6.out;obtain⟨_,b',c',_,_,_,hc',hri⟩:=HS8.out.row him hN;rw [hci]at hc'
      cases hc'
      have hpi:(rowF (zdE P cs i c j i) N)[j]? = some (P i j):=by
       rw [zdV hjN];unfold zdE;rw [if_neg (by omega),if_pos rfl,if_neg (by omega)]
      obtain⟨b',c',rj,e,_,_,hrj1,hrj2,hrj3⟩:=hri.item hpi;injection e with e;injection e with e;injection e with e;subst e;have hun:zar (P i j/P i c) 700:=by
       rw [←HUN.out j];exact HG2.out i j him hjN
      have hIs:∀(b k:Nat) (w1 w2:World),base≤b→RdT w base g5 (g5+3) (.slice (some ⟨gl,0,none⟩) K cl) cs w1→ButB b w1 w2→Elem w1 b 25→RdT w base g5 (g5+3) (.slice (some ⟨gl,0,none⟩) K cl) cs w2:=fun _ _ _ _ hb h hbut hE=>h.but hbut hE rfl (by decide) hb
      refine zbf (ro:=none) [13,14,16] [0,1,2,3,4,5,6,7,8,9,10,11,12,13,14,15,16] [0,0,3,7,0,0,0,96,224,0,992,2016,0,8160,16352,32767,65535] zaz rfl 61 rfl (by kernel_rfl) (by kernel_rfl) ?_;refine OV.mv (v:=.slice (some ⟨g,0,none⟩) m cv) rfl rfl rfl rfl ?_;refine OV.mv (v:=.int .i64 (i:Int)) rfl rfl rfl rfl ?_;refine OV.idx zgF him rfl rfl rfl rfl rfl ?_;refine OV.ld lo64 hci rfl rfl rfl rfl rfl ?_;refine OV.mv (v:=.int .i64 (j:Int)) rfl rfl rfl rfl ?_;refine OV.mv (v:=.slice (some ⟨g,0,none⟩) m cv) rfl rfl rfl rfl ?_;refine OV.mv (v:=.int .i64 (i:Int)) rfl rfl rfl rfl ?_;refine OV.idx zgF him rfl rfl rfl rfl rfl ?_;refine OV.ld lo64 hci rfl rfl rfl rfl rfl ?_;refine OV.mv (v:=.int .i64 (j:Int)) rfl rfl rfl rfl ?_;refine OV.idx it64 hjN rfl rfl rfl rfl rfl ?_;refine OV.ldn rj lm25 hrj2 rfl rfl rfl rfl hrj1 (by decide) rfl ?_;refine OV.ldn [.bool sg,.slice o1 k1 c1,.slice o2 k2 c2] lm25 HB9.out.at' rfl rfl rfl rfl rfl (by decide) rfl ?_;refine OV.call [.agg rj.toArray,.agg #[.bool sg,.slice o1 k1 c1,.slice o2 k2 c2]] Tryz.func76 rfl zai rfl rfl rfl rfl rfl (zjB _ _ _ (P i j) (P i c) 700 hrj3 HR9.out (HGP.out i j him hjN) (HGP.out i c him hcN') (fun e=>hpc (Rat.num_eq_zero.1 e)) (by omega)) fun vf w9 hf hB => ?_
      have hci9:=(hB.cell (p:=(⟨g,0,none⟩:Addr).add (i*1)) (by rw [zac];exact HS8.out.eg.lt)).trans hci;have HS9:=zHi (HS8.out.below hB HIB.out);replace HB9:=zHi (HB9.out.below hB);replace HR9:=zHi (HR9.out.below hB);clear hB;refine OV.call [vf] Tryz.func67 rfl zai rfl rfl rfl rfl rfl (ze9 _ _ _ hf (hun.mono (by omega)) (zcv hun (by omega) (by omega)) HS9.out.tab) fun v5 w10 h5 hB => ?_
      have HS10:=zHi (HS9.out.below hB HIB.out);replace HB9:=zHi (HB9.out.below hB);replace HR9:=zHi (HR9.out.below hB);obtain⟨o5,k5,c5,o6,k6,c6,rfl⟩:=h5.form;have hci10:=(hB.cell (p:=(⟨g,0,none⟩:Addr).add (i*1)) (by rw [zac];exact HS9.out.eg.lt)).trans hci9;obtain⟨h6,h7⟩:=HS10.out.store him hjN hci10 (row:=[.bool (decide ((P i j/P i c).num<0)),.slice o5 k5 c5,.slice o6 k6 c6]) rfl h5 hIs;clear hB;refine OV.idx it64 hjN rfl rfl rfl rfl rfl ?_;refine OV.st (w':=w10.setCells bi (j*3) [.bool (decide ((P i j/P i c).num<0)),.slice o5 k5 c5,.slice o6 k6 c6]) trivial (znB h7 (by simp [Value.oneCell'])) rfl rfl rfl rfl rfl ?_;refine OV.done ?_;obtain⟨W6,hW6⟩:∃W,W=w10.setCells bi (j*3) [.bool (decide ((P i j/P i c).num<0)),.slice o5 k5 c5,.slice o6 k6 c6]:=⟨_,rfl⟩;have hbut:ButB bi w10 W6:=by rw [hW6];exact zal bi _ _ _
      have hbE:Elem w10 bi 25:=by
       obtain⟨_,b',c',_,_,_,hc',hr'⟩:=HS10.out.row him hN;rw [hci10]at hc'
       cases hc'
       obtain⟨b',c',e,_,_,cur,hcur⟩:=hr'.own (by rw [zan];exact hN);injection e with e;injection e with e;injection e with e;subst e;exact⟨cur,_,hcur⟩
      have HS7:Hid (PvS base (g5+1) g cv m N (fun _ w'=>RdT w base g5 (g5+3) (.slice (some ⟨gl,0,none⟩) K cl) cs w') (zdE P cs i c (j+1)) 0 W6):=zHi (by
       rw [hW6];exact h6.congr (fun i' _=>congrFun (zoX P cs i c j) i'))
      have HB7:=zHi (HB9.out.but hbut (by omega));have HR7:=zHi (HR9.out.kept (hbut.kept hbE rfl));have HC7:Hid (W6.cell? ((⟨g,0,none⟩:Addr).add (i*1))=some (.slice (some ⟨bi,0,none⟩) N ci)):=zHi ((hbut.cell (by rw [zac];exact HS10.out.eg.lt) (by rw [zac];exact HS10.out.eg.ne hbE (by decide))).trans hci10);rw [←hW6];simp only [zbo,Go.Act.put,ztN,ztO,ztP,Addr.add_lit,Nat.mul_one,Nat.zero_add];clear hW6 h5 h6 h7 hbut hbE hci hci9 hci10 hri hrj1 hrj2 hrj3 hf HS8 HS9 HS10 HB9 HR9 hun hIs hpi;gi_wp2;exact⟨⟨j+1,by go_num,by omega,HS7,HB7,HR7,HC7⟩,by simp only [intOf];omega⟩
     ·have hjN2:j=N:=by omega
      subst hjN2;gi_wp2;exact⟨⟨i+1,by go_num,by omega,zHi (HS6.out.congr2 (fun i' j' hi' hj'=>by
       exact zqb HUN.out hj' i'))⟩,by simp only [intOf];omega⟩
   ·have hiK2:i=K:=by omega
    subst hiK2;have x5:=HS.out.inv.box;gi_wp2;refine⟨by simp,.inl ⟨g5+3,_,rfl,zhK HS.out.inv.mark,_,Go.results_tmp rfl _ _ _,?_⟩⟩;have hmk:=HS.out.inv.mark;have hnm:∀(b:Nat) (cs:Array Value) (e:TypeId) (fz:Nat × Nat),wr.heap[b]? = some (.cells cs e fz)→b≠g5+3:=fun b cs e fz hb e'=>by rw [e',hmk]at hb;cases hb
    refine⟨_,rfl,?_,?_,?_⟩
    ·rw [HCE.out];have:=HS.out.inv.lst.keep (w':=wr.putObj (g5+3) (.deferred none)) (fun b hb _=>by
      obtain⟨_,cur,hcur⟩:=HS.out.inv.lst.blk hb;exact World.putObj_heap_other (hnm _ _ _ _ hcur)) (fun _ _ q=>q)
     rw [HG5.out];exact this
    ·rw [HCE.out,HPE.out];obtain⟨rvs,hm⟩:=HS.out.mat;refine⟨rvs,?_⟩;have:=hm.keep (w':=wr.putObj (g5+3) (.deferred none)) (fun b cs e _ _ hc=>World.putObj_heap_other (hnm _ _ _ _ hc)) (fun b r q=>zao.kept q (fun b cs e fz hc _=>(World.putObj_heap_other (hnm _ _ _ _ hc)).trans hc));rw [zk7 (A':=zdE P cs i 0 0)]
     ·exact this
     ·intro i' hi';rw [zqc P cs (by rw [HK.out]) i']
    ·have hg:=grownBy_putObj' wr (g5+3) (.deferred none);have hbl:=HS.out.inv.below;exact⟨hg.os.trans hbl.os,hg.tape.trans hbl.tape,hg.output.trans hbl.output,Nat.le_trans hbl.size hg.size,fun k hk=>(World.putObj_heap_other (by omega)).trans (hbl.block k hk)⟩
end Go.Num
