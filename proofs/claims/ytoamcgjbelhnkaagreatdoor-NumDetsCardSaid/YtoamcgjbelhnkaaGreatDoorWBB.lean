/-
  Small matrices: what the two eliminations need, and that they agree; in plain words. The law NumChecks answers true. The law NumDets answers
  Conditions: see each statement.
-/
import Derived.Test.YtoamcgjbelhnkaaGreatDoorWAA
import Derived.Test.YtoamcgjbelhnkaaGreatDoorWBA
import Derived.Test.YtoamcgjbelhnkaaGreatDoorWAS
set_option maxRecDepth 100000
set_option maxHeartbeats 16000000
namespace Go.Num
open Go.Eng Go.Shelf Go.RowKit Go.Sort Go.Proofs Go.Proofs.YtoamcgjbelhnkaaGreatDoor
attribute [local go_sem] Oper.semAt_some
theorem OV.add{K:World→Prop}{ks:List Nat}{nt:Nat}{ops:Array Oper}{bs bars r:List Nat}{i:Nat}{a:CAct}{ov:List (Tmp × Value)}{w:World}{Q:CAct→World→Prop}{t t2:TypeId}{x y:Operand}{p q z:Int}{d:Tmp}{ty:TypeId}{ps:String}{af:Array Edge}(hz:RowKit.wrap64 (p+q)=z)
  (ho:ops[i]? = some {op:=.binOp .add t x y t2,dst:=some d,type:=ty,pos:=ps,after:=af,guard:=none}) (hb:bars.contains i=false) (hd:Nat.blt d nt=true)
  (hx:Go.Eng.look a ov x = .int .i64 p) (hy:Go.Eng.look a ov y = .int .i64 q) (h:OV K ks Tryz.prog nt ops bs bars Q r a ((d,.int .i64 z) :: ov) w):OV K ks Tryz.prog nt ops bs bars Q (i :: r) a ov w:=
 OV.read _ ho rfl hb hd (fun w' _=>by
  rw [←hz];simp [execOp,hx,hy,binOp,go_sem]
  exact Go.IntWalk.i64_left _) h
theorem QAt.one{w:World}{r:List Value}{q:Rat}(h:IQ q r w):∀u∈r,u.oneCell'=true:=by
 obtain⟨s,o1,k1,c1,o2,k2,c2,e⟩:=QAt.form h;have e:r = [.bool s,.slice o1 k1 c1,.bool false,.slice o2 k2 c2]:=by
  injection e with e;injection e
 subst e;simp [Value.oneCell']
theorem zti(w:World)(a b c d:Value):(Instr.buildSlice 63 1 #[(0,.agg #[a,b,c,d])]).run Tryz.prog w = .ok (.slice (some ⟨w.heap.size,0,none⟩) 1 1) (w.alloc (.cells #[a,b,c,d] 34)):=by
 simp [Instr.buildSlice,underlying,sizeOf,typeInfo,i34,i34s,i34z,Sem.run_bind,Result.andThen,go_sem,zeroValue,Value.cells]
theorem zeW.touch{w w':World}(h:Touch 128 w w'):∀q r,zeW q r w→zeW q r w':=fun _ _ ⟨u,e,k⟩=>⟨u,e,zag.touch k h (by decide) (IZ.touch h rfl)⟩
theorem zlY{A:Nat→Nat→Rat}{n i:Nat}:rowF (zal A n i) n=(List.range n).map (A i):=zjb fun j hj=>by unfold zal;rw [if_pos hj]
theorem zg5{A:Nat→Nat→Rat}{n i k:Nat}{x:Rat}(h:x=if i=k then 1 else 0):rowF (zal A n i) (n+(k+1))=rowF (zal A n i) (n+k) ++ [x]:=by
 rw [←Nat.add_assoc,zhD];have:zal A n i (n+k)=x:=by
  unfold zal;rw [if_neg (by omega),h];by_cases e:i=k
  ·rw [if_pos (by omega),if_pos e]
  ·rw [if_neg (by omega),if_neg e]
 rw [this]
theorem zfN{β:Type}{m N:Nat}{A:Nat→Nat→β}{i:Nat}(h:i<m):(tab m N A).take (i+1)=(tab m N A).take i ++ [(List.range N).map (A i)]:=zfO h
theorem zec(w:World)(v:Value)(Q:Nat→Nat→Rat)(n L:Nat)(A0:Nat→Nat→Int)(hA0:(fun i=>za2 (zal Q n i) (n+n))=A0)(h:MatQ w v (tab n n Q))(h0:0<n)(h9:n≤8)(hq:∀i j,i<n→j<n→zaw (Q i j) 5)(hL:L≤20000)
  (hsz:∀c,c≤n→(rRun n A0 c).last≠0∧(rRun n A0 c).last.natAbs<B^L∧∀i j,i<n→j<n+n→((rRun n A0 c).A i j).natAbs<B^L)
  (hpv:(rRun n A0 n).k=n→∀i,i<n→(rRun n A0 n).A i i≠0) :
  CallsIn Fence.wide 0 Tryz.prog 54 #[v] w fun e w'=>∃v',(if(rRun n A0 n).k<n then e = .returned (.tuple #[.slice none 0 0,.bool false])else e = .returned (.tuple #[v',.bool true])∧MatQ w' v' (tab n n fun i j=>((rRun n A0 n).A i (n+j):Rat)/((rRun n A0 n).A i i:Rat)))∧Below w.heap.size w w':=by
 obtain⟨a,c,rfl⟩:=zag.some h (by rw [zak];exact h0);have HR:=zHi h;rw [zak];obtain⟨A,hA⟩:∃A,(rRun n A0 n).A=A:=⟨_,rfl⟩;obtain⟨cs,hcs⟩:∃cs,zbp n A0 n=cs:=⟨_,rfl⟩;obtain⟨K,hK⟩:∃K,(rRun n A0 n).k=K:=⟨_,rfl⟩;have HCL:Hid (cs.length=K):=zHi (by rw [←hcs,zch,hK]);have hKn:K≤n:=by rw [←hK];exact(zld _ _ _).1
 have HSZN:=zHi (hsz n (Nat.le_refl _)).2.2;rw [hK,hA]at hpv;rw [hA]at HSZN;rw [hA,hK];obtain⟨R0,hR0⟩:∃R:Ending→World→Prop,∀e w',R e w'↔∃v',(if K<n then e = .returned (.tuple #[.slice none 0 0,.bool false])else e = .returned (.tuple #[v',.bool true])∧MatQ w' v' (tab n n fun i j=>(A i (n+j):Rat)/(A i i:Rat)))∧Below w.heap.size w w':=⟨_,fun _ _=>Iff.rfl⟩;simp only [←hR0];have HR0:=zHi hR0;have HSZ:=zHi hsz;have HPV:=zHi hpv;have HA:=zHi hA;have HCS:=zHi hcs;have HA0:=zHi hA0;have hqb:∀i,i<n→∀j,j<n+n→zaw (zal Q n i j) 5:=fun i hi j hj=>by
  unfold zal;split
  ·rename_i hjn;exact hq i j hi hjn
  ·split
   ·exact⟨by decide,by decide⟩
   ·exact⟨by decide,by decide⟩
 have HQ:=zHi hqb;clear h hsz hq hpv hR0 hA hcs hA0 hK hqb;refine callsIn_of_wp Tryz.func54 rfl trivial ?_ rfl;simp only [Tryz.ntmps54,ztr,zts,ztt,Nat.reduceAdd,Nat.reduceSub,ztu,ztv,ztw,ztx,zty,ztz];gi_wp2;gi_loopw [5,6] (fun x5 x6 wr=>∃i:Nat,x6 = .int .i64 (i:Int)∧i≤n∧Hid (OwnR wr w.heap.size 128 1 zeW x5 ((tab n (n+n) A0).take i))∧Hid (Below w.heap.size w wr)) (fun _ x _=>n-(intOf x).toNat)
 case atStart=>exact⟨0,rfl,by omega,OwnR.nil _ _ _ _ _,Below.refl _ _⟩
 case round=>
  obtain⟨i,rfl,hi,HO,HBr⟩:=hrel;by_cases hin:i<n
  ·have hR1:=zag.below HR.out HBr.out (zbC.below HBr.out);obtain⟨_,row,hrl,hcell,u,rfl,hu⟩:=zag.at' hR1 (zbD hin);have x0:=hcell 0 u rfl;rw [Addr.add_add,Nat.add_zero,Nat.mul_one]at x0;obtain⟨au,cu,rfl⟩:=zag.some hu (by simpa using h0);rw [List.length_map,List.length_range]at x0;have HU:=zHi hu;clear hcell hrl hR1 hu;gi_wp2_with (gi_at_builtin;refine stop ?_)
   unfold Stop;refine zfE (ty:=34) (sz:=4) (bytes:=64) wr rfl _ _ rfl Go.Num.u63 i34 i34z i34s i34b rfl (by decide) (by decide) wr.heap.size (Nat.le_refl _) (.slice none 0 0) [] rfl (OwnR.nil _ _ _ _ _) au cu ((List.range n).map (Q i)) (by simp;rfl) HU.out (by simpa using h0) (fun b r w h=>QAt.one h) (fun b r w1 w2 ht=>IQ.touch ht rfl b r) (by simp;omega) ?_;intro v7 w7 HO7 HK7 HB7;have hb7:=HB7.out wr.heap.size wr (Below.refl _ _) (Nat.le_refl _);obtain⟨W0,hW0⟩:∃W,wr=W:=⟨_,rfl⟩;have HO1:Hid (OwnR w7 wr.heap.size 34 4 IQ v7 (rowF (zal Q n i) (n+0))):=zHi (by rw [Nat.add_zero,zlY];exact HO7.out);have HB1:=zHi hb7;rw [hW0]at HO1 HB1 HO HBr;clear hb7 HK7 HB7 HO7 HU hW0 x0;gi_wp2;gi_loopw [7,8] (fun x7 x8 wi=>∃k:Nat,x8 = .int .i64 (k:Int)∧k≤n∧Hid (OwnR wi W0.heap.size 34 4 IQ x7 (rowF (zal Q n i) (n+k)))∧Hid (Below W0.heap.size W0 wi)) (fun _ x _=>n-(intOf x).toNat)
   case atStart=>exact⟨0,rfl,by omega,HO1,HB1⟩
   case round=>
    obtain⟨k,rfl,hk,HOk,HBk⟩:=hrel;clear HO1 HB1;obtain⟨oo,co,hof⟩:=HOk.out.form;rw [zao]at hof;subst hof;by_cases hkn:k<n
    ·by_cases hik:i=k
     ·have hd1:((i:Int) == (k:Int))=true:=by rw [beq_iff_eq];omega
      have hd2:decide ((i:Int)=(k:Int))=true:=decide_eq_true (by omega);have HIK:=zHi hik;clear hik;gi_wp2_with (gi_at_call 22;refine stop ?_)
      unfold Stop;refine(zbb _ 1 (by decide) (by decide)).mono ?_;rintro e w8 ⟨v8,rfl,hz8,hB8⟩;gi_wp2_with (gi_at_call 21;refine stop ?_)
      unfold Stop;refine(zfi w8 v8 1 hz8).mono ?_;rintro e w9 ⟨v9,rfl,hq9,hB9⟩;obtain⟨s9,o9,k9,c9,o8,k8,c8,rfl⟩:=hq9.form;have hb9:=hB8.trans (hB9.mono hB8.size);have HO9:=zHi (HOk.out.below hb9 (IQ.below hb9));have HB9:=zHi (HBk.out.trans (hb9.mono HBk.out.size));have HQ9:=zHi hq9;clear hz8 hB8 hq9 hB9 hb9;gi_wp2_with (gi_at_builtin;refine stop ?_)
      unfold Stop;refine zbi (ty:=34) (sz:=4) (bytes:=64) w9 rfl _ _ rfl Go.Num.u63 i34 i34z i34s i34b rfl (by decide) (by decide) W0.heap.size HB9.out.size (.slice oo (n+k) co) _ rfl HO9.out ((1:Int):Rat) [.bool s9,.slice o9 k9 c9,.bool false,.slice o8 k8 c8] _ rfl rfl (by simp [Value.oneCell']) HQ9.out (fun b r w1 w2 ht=>IQ.touch ht rfl b r) (by rw [zao];omega) ?_;intro v10 w10 HO10 HK10 HB10;have HO11:Hid (OwnR w10 W0.heap.size 34 4 IQ v10 (rowF (zal Q n i) (n+(k+1)))):=zHi (by rw [zg5 (x:=((1:Int):Rat)) (by rw [if_pos HIK.out];rfl)];exact HO10.out);have HB11:=zHi (HB10.out W0.heap.size W0 HB9.out (Nat.le_refl _));clear hd1 hd2;gi_wp2;exact⟨⟨k+1,by go_num,by omega,HO11,HB11⟩,by simp only [intOf];omega⟩
     ·have hd1:((i:Int) == (k:Int))=false:=by rw [beq_eq_false_iff_ne];omega
      have hd2:decide ((i:Int)=(k:Int))=false:=decide_eq_false (by omega);gi_wp2_with (gi_at_call 36;refine stop ?_)
      unfold Stop;refine(zhm wr).mono ?_;rintro e w9 ⟨v9,rfl,hq9,hb9⟩;obtain⟨s9,o9,k9,c9,o8,k8,c8,rfl⟩:=hq9.form;have HO9:=zHi (HOk.out.below hb9 (IQ.below hb9));have HB9:=zHi (HBk.out.trans (hb9.mono HBk.out.size));have HQ9:=zHi hq9;clear hq9 hb9;gi_wp2_with (gi_at_builtin;refine stop ?_)
      unfold Stop;refine zbi (ty:=34) (sz:=4) (bytes:=64) w9 rfl _ _ rfl Go.Num.u63 i34 i34z i34s i34b rfl (by decide) (by decide) W0.heap.size HB9.out.size (.slice oo (n+k) co) _ rfl HO9.out (0:Rat) [.bool s9,.slice o9 k9 c9,.bool false,.slice o8 k8 c8] _ rfl rfl (by simp [Value.oneCell']) HQ9.out (fun b r w1 w2 ht=>IQ.touch ht rfl b r) (by rw [zao];omega) ?_;intro v10 w10 HO10 HK10 HB10;have HO11:Hid (OwnR w10 W0.heap.size 34 4 IQ v10 (rowF (zal Q n i) (n+(k+1)))):=zHi (by rw [zg5 (x:=(0:Rat)) (by rw [if_neg hik])];exact HO10.out);have HB11:=zHi (HB10.out W0.heap.size W0 HB9.out (Nat.le_refl _));clear hd1 hd2;gi_wp2;exact⟨⟨k+1,by go_num,by omega,HO11,HB11⟩,by simp only [intOf];omega⟩
    ·have hkn2:k=n:=by omega
     subst hkn2;gi_wp2_with (gi_at_call 90;refine stop ?_)
     unfold Stop;refine(zev wr _ (zal Q k i) (k+k) (HOk.out.row (by rw [zao];omega)) (by omega) (by omega) (fun j hj=>HQ.out i hin j hj)).mono ?_;rintro e w8 ⟨v8,v9,rfl,ho8,hz8,hB8⟩;obtain⟨s8,o8,k8,c8,rfl⟩:=hz8.form;have hm8:zeW (rowZ (A0 i) (k+k)) [v8] w8:=⟨v8,rfl,by rw [←HA0.out];exact ho8.row (by rw [zcg];omega)⟩;obtain⟨ob,cb,rfl⟩:=ho8.form;rw [zcg]at hm8;rw [zcg];have hb9:=zaa w8 (.cells #[.bool s8,.slice o8 k8 c8] 32);have hb89:=(HBr.out.trans ((HBk.out.trans (hB8.mono HBk.out.size)).mono HBr.out.size));have HB9:=zHi (hb89.trans (hb9.mono hb89.size));have HM9:=zHi (zeW.below hb9 _ _ hm8);have hoo:=((HO.out.below HBk.out (zeW.below HBk.out)).below hB8 (zeW.below hB8)).below hb9 (zeW.below hb9);obtain⟨o5,c5,hof⟩:=hoo.form;have hlen:((tab k (k+k) A0).take i).length=i:=by rw [List.length_take,zak];omega
     rw [hlen]at hof;subst hof;have HO9:=zHi hoo;have HLen:=zHi hlen;clear ho8 hz8 hB8 hm8 hb9 hb89 hoo hlen;gi_wp2_with (gi_at_builtin;refine stop ?_)
     unfold Stop;refine zbi (ty:=128) (sz:=1) (bytes:=24) (w8.alloc (.cells #[.bool s8,.slice o8 k8 c8] 32)) rfl _ _ rfl u121 i128 zsq zrq zsr rfl (by decide) (by decide) w.heap.size HB9.out.size (.slice o5 i c5) _ rfl HO9.out (rowZ (A0 i) (k+k)) [.slice ob (k+k) cb] _ (by simp;rfl) rfl (by simp [Value.oneCell']) HM9.out (fun b r w1 w2 ht=>zeW.touch ht b r) (by rw [HLen.out];omega) ?_;intro v10 w10 HO10 HK10 HB10;have HO11:Hid (OwnR w10 w.heap.size 128 1 zeW v10 ((tab k (k+k) A0).take (i+1))):=zHi (by rw [zfN hin];exact HO10.out);have HB11:=zHi (HB10.out w.heap.size w HB9.out (Nat.le_refl _));gi_wp2;exact⟨⟨i+1,by go_num,by omega,HO11,HB11⟩,by simp only [intOf];omega⟩
  ·have hin2:i=n:=by omega
   subst hin2;rw [List.take_of_length_le (by rw [zak];exact Nat.le_refl _)]at HO;have hm1:MatZ wr u5 (tab i (i+i) A0):=HO.out.row (by rw [zak];omega);obtain⟨om,cm,rfl,_⟩:=zag.form hm1;rw [zak]at hm1;rw [zak];gi_wp2_with (gi_at_call 84;refine stop ?_)
   unfold Stop;refine(zey _ _ A0 i (i+i) i L hm1 h0 (by omega) (by omega) (by omega) hL HSZ.out).mono ?_;rintro e w5 ⟨vr,vp,s,o,k,c',rfl,hr,hp,hz,hB3⟩;rw [HA.out]at hr;rw [HCS.out]at hp;obtain⟨op,cp,rfl,_⟩:=zag.form hp;obtain⟨ov,cv,e3⟩:=zag.some hr (by rw [zak];exact h0);rw [zak]at e3;subst e3;obtain⟨T,hT⟩:∃T,(rRun i A0 i).turns=T:=⟨_,rfl⟩;rw [hT];rw [HCL.out];have hb03:=HBr.out.trans (hB3.mono HBr.out.size);have hb6:=zaa w5 (.cells #[.slice (some ov) i cv,.slice op K cp,.bool s,.slice o k c',.int .i64 (T:Int)] 125);have HB6:=zHi (hb03.trans (hb6.mono hb03.size));have hx6:=OBox.new w5 [.slice (some ov) i cv,.slice op K cp,.bool s,.slice o k c',.int .i64 (T:Int)] 125;have HRED:Hid (zo3 _ w5.heap.size i (i+i) A cs ov cv op cp):=zHi ⟨hx6.box.2 0 _ rfl,by rw [HCL.out];exact hx6.box.2 1 _ rfl,zag.below hr hb6 (zeW.below hb6),zag.below hp hb6 (fun _ _ q=>q)⟩;have z1:=hx6.box.2 1 _ rfl;clear hr hp hz hB3 hb03 hb6 hx6 hT hm1;by_cases hlt:K<i
   ·gi_wp2;exact(HR0.out _ _).2 ⟨.slice none 0 0,by rw [if_pos hlt];rfl,HB6.out⟩
   ·gi_wp2;obtain⟨g6,hg6⟩:∃g,w5.heap.size=g:=⟨_,rfl⟩;rw [hg6]at HRED;rw [hg6];obtain⟨W6,hW6⟩:∃W,w5.alloc (.cells #[.slice (some ov) i cv,.slice op K cp,.bool s,.slice o k c',.int .i64 (T:Int)] 125)=W:=⟨_,rfl⟩;rw [show([Value.slice (some ov) i cv,.slice op K cp,.bool s,.slice o k c',.int .i64 (T:Int)].toArray)=#[.slice (some ov) i cv,.slice op K cp,.bool s,.slice o k c',.int .i64 (T:Int)]from rfl,hW6]at HRED;rw [hW6]at HB6;rw [hW6];obtain⟨n,hn⟩:∃n,i=n:=⟨_,rfl⟩;have hKe:K=i:=by omega
    have HPW:=zHi (HPV.out hKe);clear hW6 hg6 z1 hKe;obtain⟨V,hV⟩:∃V:Nat→Nat→Rat,(fun i' j=>(A i' (i+j):Rat)/(A i' i':Rat))=V:=⟨_,rfl⟩;rw [hV]at HR0;have HV:=zHi hV;clear hV hn;gi_loopw [12,13] (fun x12 x13 wr=>∃r:Nat,x13 = .int .i64 (r:Int)∧r≤i∧Hid (OwnR wr W6.heap.size 63 1 zbC x12 ((tab i i V).take r))∧Hid (Below W6.heap.size W6 wr)) (fun _ x _=>i-(intOf x).toNat)
    case atStart=>exact⟨0,rfl,by omega,OwnR.nil _ _ _ _ _,Below.refl _ _⟩
    case round=>
     obtain⟨r,rfl,hr,HOr,HBx⟩:=hrel;by_cases hri:r<i
     ·gi_wp2;obtain⟨W7,hW7⟩:∃W,wr=W:=⟨_,rfl⟩;rw [hW7]at HOr HBx;rw [hW7];clear hW7;gi_loopw [14,15] (fun x14 x15 wi=>∃k:Nat,x15 = .int .i64 (k:Int)∧k≤i∧Hid (OwnR wi W7.heap.size 34 4 IQ x14 (rowF (V r) k))∧Hid (Below W7.heap.size W7 wi)) (fun _ x _=>i-(intOf x).toNat)
      case atStart=>exact⟨0,rfl,by omega,OwnR.nil _ _ _ _ _,Below.refl _ _⟩
      case round=>
       obtain⟨q,rfl,hq,HOq,HBq⟩:=hrel;obtain⟨oo,co,hof⟩:=HOq.out.form;rw [zao]at hof;subst hof;by_cases hqi:q<i
       ·gi_wp2;have hbd:=zab wr;obtain⟨W1,hW1⟩:∃W,wr.drew=W:=⟨_,rfl⟩;rw [hW1]at hbd;have hb7:=HBq.out.trans (hbd.mono HBq.out.size);have hRd:=(HRED.out.below (HBx.out.trans (HBq.out.mono HBx.out.size))).below hbd;have hO1:=HOq.out.below hbd (IQ.below hbd);obtain⟨br,cr,y1,hrow⟩:=hRd.row hri (by omega);obtain⟨sx,ox,kx,cx',hcx,hzx⟩:=hrow (i+q) (by omega);obtain⟨sy,oy,ky,cy,hcy,hzy⟩:=hrow r (by omega);have hr0:=hRd.rows;rw [←zqP g6 0]at hr0;refine zap (ro:=none) [19,20,21] [0,1,2,3,4,5,6,7,8,9,10,11,12,13,14,15,16,17,18,19,20,21,22] [0,0,2,0,14,30,0,0,192,510,1022,0,2048,0,14336,30720,0,129024,260096,524286,1048574,2097151,4194303] zaq rfl 100 rfl (by kernel_rfl) (by kernel_rfl) ?_;rw [hW1];refine OV.mv (v:=.slice oo q co) rfl rfl rfl rfl ?_;refine OV.fld zrZ rfl rfl rfl rfl ?_;refine OV.ld zsY hr0 rfl rfl rfl rfl rfl ?_;refine OV.mv (v:=.int .i64 (r:Int)) rfl rfl rfl rfl ?_;refine OV.idx zsp hri rfl rfl rfl rfl rfl ?_;refine OV.ld zsk y1 rfl rfl rfl rfl rfl ?_;refine OV.mv (v:=.int .i64 (i:Int)) rfl rfl rfl rfl ?_;refine OV.mv (v:=.int .i64 (q:Int)) rfl rfl rfl rfl ?_;refine OV.add (z:=((i+q:Nat):Int)) (by rw [show(i:Int)+(q:Int)=((i+q:Nat):Int)from rfl];exact zel (by omega)) rfl rfl rfl rfl rfl ?_;refine OV.idx zqd (show i+q<i+i by omega) rfl rfl rfl rfl rfl ?_;refine OV.ldn [.bool sx,.slice ox kx cx'] lm32 hcx rfl rfl rfl rfl rfl (by decide) rfl ?_;refine OV.fld zrZ rfl rfl rfl rfl ?_;refine OV.ld zsY hr0 rfl rfl rfl rfl rfl ?_;refine OV.mv (v:=.int .i64 (r:Int)) rfl rfl rfl rfl ?_;refine OV.idx zsp hri rfl rfl rfl rfl rfl ?_;refine OV.ld zsk y1 rfl rfl rfl rfl rfl ?_;refine OV.mv (v:=.int .i64 (r:Int)) rfl rfl rfl rfl ?_;refine OV.idx zqd (show r<i+i by omega) rfl rfl rfl rfl rfl ?_;refine OV.ldn [.bool sy,.slice oy ky cy] lm32 hcy rfl rfl rfl rfl rfl (by decide) rfl ?_;refine OV.call [.agg #[.bool sx,.slice ox kx cx'],.agg #[.bool sy,.slice oy ky cy]] Tryz.func77 rfl zai rfl rfl rfl rfl rfl (zdV _ _ _ _ _ hzx hzy (zo6 (HSZN.out r (i+q) hri (by omega)) hL) (zo6 (HSZN.out r r hri (by omega)) hL) (HPW.out r hri)) fun v3 w3 hq3 hB3 => ?_
        obtain⟨s3,o3,k3,c3,o4,k4,c4,rfl⟩:=hq3.form;have ho3:=hO1.below hB3 (IQ.below hB3);have hqv:IQ (V r q) [.bool s3,.slice o3 k3 c3,.bool false,.slice o4 k4 c4] w3:=by rw [←HV.out];exact hq3
        obtain⟨v7,w7,hrun,hO7,hB7,_,_⟩:=zmy (ty:=34) (sz:=4) (t:=63) (tx:=63) (bytes:=64) W7 w3 Go.Num.u63 i34 i34z i34s i34b rfl (by decide) (by decide) (.slice oo q co) (rowF (V r) q) ho3 (V r q) [.bool s3,.slice o3 k3 c3,.bool false,.slice o4 k4 c4] 34 rfl (by simp [Value.oneCell']) hqv (fun b r w1 w2 ht=>IQ.touch ht rfl b r) (by rw [zao];omega) (hb7.trans (hB3.mono hb7.size));rw [←zhD]at hO7;refine OV.put1 (zti _ _ _ _ _) (zaa _ _) rfl rfl rfl rfl ?_;refine OV.app trivial hrun rfl rfl rfl rfl rfl rfl ?_;refine OV.asg (v:=v7) rfl rfl rfl rfl ?_;refine OV.done ?_;have HO7:=zHi hO7;have HB7:=zHi hB7;simp only [za4,Go.Act.put,ztA,ztB,ztC];clear hO7 hB7 hrun hqv ho3 hq3 hB3 hr0 hcx hzx hcy hzy hrow y1 hRd hO1 hb7 hbd hW1;gi_wp2;exact⟨⟨q+1,by go_num,by omega,HO7,HB7⟩,by simp only [intOf];omega⟩
       ·have hqi2:q=i:=by omega
        have HQI:=zHi hqi2;have HB7:=zHi (HBx.out.trans (HBq.out.mono HBx.out.size));obtain⟨o5,c5,hof⟩:=HOr.out.form;have hlen:((tab i i V).take r).length=r:=by rw [List.length_take,zak];omega
        rw [hlen]at hof;subst hof;have HLen:=zHi hlen;clear hlen hqi2;gi_wp2_with (gi_at_builtin;refine stop ?_)
        unfold Stop;have hrow:RowQ wr (.slice oo q co) (rowF (V r) q):=HOq.out.row (by rw [zao];omega);refine zbi (ty:=63) (sz:=1) (bytes:=24) wr rfl _ _ rfl Go.Num.u54 i63 i63z i63s i63b rfl (by decide) (by decide) W6.heap.size HB7.out.size (.slice o5 r c5) _ rfl (HOr.out.below HBq.out (zbC.below HBq.out)) (rowF (V r) q) [.slice oo q co] _ rfl rfl (by simp [Value.oneCell']) ⟨_,rfl,hrow⟩ (fun b r w1 w2 ht=>zbC.touch ht rfl (by decide) b r) (by rw [HLen.out];omega) ?_;intro v13 w13 HO13 HK13 HB13;have HB14:=zHi (HB13.out W6.heap.size W6 HB7.out (Nat.le_refl _));have HO14:Hid (OwnR w13 W6.heap.size 63 1 zbC v13 ((tab i i V).take (r+1))):=zHi (by
         rw [zfN hri];have:=HO13.out;rw [HQI.out]at this;exact this)
        gi_wp2;exact⟨⟨r+1,by go_num,by omega,HO14,HB14⟩,by simp only [intOf];omega⟩
     ·have hri2:r=i:=by omega
      rw [List.take_of_length_le (by rw [zak];omega)]at HOr;gi_wp2;exact(HR0.out _ _).2 ⟨u12,by rw [if_neg hlt];exact⟨rfl,HOr.out.row (by rw [zak];omega)⟩,HB6.out.trans (HBx.out.mono HB6.out.size)⟩
end Go.Num
namespace Go.Num
def Dig(q:Rat):Prop:=q.num.natAbs<10^20∧q.den≤10^20
theorem zpW{a b:Nat}(h:a≤b):10^a≤10^b:=Nat.pow_le_pow_right (by decide) h
theorem zsS{a b:Nat}(h:a<b):10^a<10^b:=Nat.pow_lt_pow_right (by decide) h
theorem Dig.le{q:Rat}(h:Dig q){L:Nat}(hL:3≤L):zaw q L:=by
 have h1:(10:Nat)^20<B^3:=by decide
 exact⟨up (Nat.lt_trans h.1 h1) hL,up (Nat.lt_of_le_of_lt h.2 h1) hL⟩
theorem zs4{q:Rat}(h:zcU q=false):Dig q:=by
 have h:zbw q 20=true:=by
  unfold zcU at h
  cases e:zbw q 20 with
  | true=>rfl
  | false=>rw [e]at h;cases h
 unfold zbw at h;rw [Bool.and_eq_true]at h;have h1:=of_decide_eq_true h.1;have h2:=of_decide_eq_true h.2;exact⟨Nat.lt_of_lt_of_le (Lib.lt_pow_nDigits _) (zpW h1),Nat.le_of_lt (Nat.lt_of_lt_of_le (Lib.lt_pow_nDigits _) (zpW h2))⟩
theorem rect{M:List (List Rat)}(h:za5 M=0):∃m N Q,M=tab m N Q∧0<m∧m≤8∧0<N∧N≤8∧∀i j,i<m→j<N→Dig (Q i j):=by
 unfold za5 at h;split at h
 ·cases h
 ·rename_i hm;split at h
  ·cases h
  ·rename_i r rest;split at h
   ·cases h
   ·rename_i hN;split at h
    ·cases h
    ·rename_i h0;split at h
     ·cases h
     ·rename_i hoff;split at h
      ·cases h
      ·rename_i hlong;have hoff':∀l∈r :: rest,l.length=r.length:=fun l hl=>by
        rcases Decidable.em (l.length=r.length)with e|e
        ·exact e
        ·exact absurd (List.any_eq_true.2 ⟨l,hl,by unfold zca;rw [decide_eq_false e];rfl⟩) hoff
       have hlong':∀l∈r :: rest,∀q∈l,zcU q=false:=fun l hl q hq=>by
        cases e:zcU q with
        | false=>rfl
        | true=>exact absurd (List.any_eq_true.2 ⟨l,hl,by unfold zbr;exact List.any_eq_true.2 ⟨q,hq,e⟩⟩) hlong
       obtain⟨M,hM⟩:∃M,r :: rest=M:=⟨_,rfl⟩;rw [hM]at hm hoff' hlong' ⊢;have hml:0<M.length:=by rw [←hM];simp
       refine⟨M.length,r.length,fun i j=>(M.getD i []).getD j 0,?_,hml,by omega,by omega,by omega,fun i j hi hj=>zs4 ?_⟩
       ·unfold tab;refine List.ext_getElem? fun i => ?_
        rcases Nat.lt_or_ge i M.length with hi|hi
        ·rw [List.getElem?_map,List.getElem?_range hi,List.getElem?_eq_getElem hi];refine congrArg some ?_;have hl:=hoff' _ (List.getElem_mem hi);refine List.ext_getElem? fun j => ?_
         rcases Nat.lt_or_ge j r.length with hj|hj
         ·rw [List.getElem?_map,List.getElem?_range hj,List.getElem?_eq_getElem (by omega)];simp [hi,hl,hj]
         ·rw [List.getElem?_eq_none (by omega),List.getElem?_eq_none (by simp;omega)]
        ·rw [List.getElem?_eq_none (by omega),List.getElem?_eq_none (by simp;omega)]
       ·have hl:=hoff' _ (List.getElem_mem hi);refine hlong' _ (List.getElem_mem hi) _ ?_;simp only [List.getD_eq_getElem?_getD,List.getElem?_eq_getElem hi,Option.getD_some,List.getElem?_eq_getElem (show j<M[i].length by omega)];exact List.getElem_mem _
theorem zlf(Q:Nat→Nat→Rat)(N:Nat):∀m,zcA (fun i=>1/(facF (Q i) N:Rat)) m=1/(facP Q N m:Rat)
 | 0=>by show(1:Rat)=1/((1:Nat):Rat);show(1:Rat)=1/1;grind
 | m+1=>by
  show zcA _ m*(1/(facF (Q m) N:Rat))=1/((facP Q N m*facF (Q m) N:Nat):Rat)
  rw [zlf Q N m];have e:((facP Q N m*facF (Q m) N:Nat):Rat)=(facP Q N m:Rat)*(facF (Q m) N:Rat):=by
   show(((facP Q N m*facF (Q m) N:Nat):Int):Rat)=((facP Q N m:Int):Rat)*((facF (Q m) N:Int):Rat)
   rw [←Rat.intCast_mul];rfl
  rw [e];grind
structure Set1(m N columns:Nat)(P0:Nat→Nat→Rat)(A0:Nat→Nat→Int)(g0:Nat→Rat):Prop where
 fine:Fine m N columns P0
 ends:Ends m N columns g0 P0 A0
 sizes:∀c,c≤columns→(rRun m A0 c).last≠0∧(rRun m A0 c).last.natAbs<B^700∧∀i j,i<m→j<N→((rRun m A0 c).A i j).natAbs<B^700
 cols:zbp m A0 columns=za3 m P0 columns
 det:(pRun m P0 columns).k=m→zaw (zc0 (zbq m P0 columns)) 700
def ten(a:Nat):Nat:=10^a
theorem zr8(k:Nat):B^k=ten (9*k):=zma k
theorem zni{a b:Nat}(h:a≤b):ten a≤ten b:=zpW h
theorem zpj{a b:Nat}(h:a<b):ten a<ten b:=zsS h
theorem zpi(a:Nat):1≤ten a:=Nat.pow_pos (by decide)
theorem zht{a b x y:Nat}(hx:x≤ten a)(hy:y≤ten b):x*y≤ten (a+b):=by
 unfold ten at *;rw [Nat.pow_add];exact Nat.mul_le_mul hx hy
theorem zjV{a x m:Nat}(hx:x≤ten a):x^m≤ten (a*m):=by
 unfold ten at *;rw [Nat.pow_mul];exact Nat.pow_le_pow_left hx m
theorem zpA{m N columns:Nat}{P0:Nat→Nat→Rat}(hm:m≤8)(h0:0<N)(hN:N≤16)(hD:∀i j,i<m→j<N→Dig (P0 i j))(hcN:columns≤N) :
  Set1 m N columns P0 (fun i=>za2 (P0 i) N) (fun i=>1/(facF (P0 i) N:Rat)):=by
 have hA:∀i,i<m→∀j,j<N→((za2 (P0 i) N j:Int):Rat)=(fun i j=>((za2 (P0 i) N j:Int):Rat)) i j:=fun _ _ _ _=>rfl
 have hX:∀i,i<m→∀j,j<N→(za2 (P0 i) N j).natAbs≤ten 340:=fun i hi j hj=>by
  have h1:=zq8 (X:=ten 20) (D:=ten 20) hj (fun j hj=>(hD i j hi hj).2) (Nat.le_of_lt (hD i j hi hj).1);refine Nat.le_trans h1 ?_;have h2:(ten 20)^N≤ten (20*N):=zjV (Nat.le_refl _);exact Nat.le_trans (zht (Nat.le_refl _) h2) (zni (by omega))
 have hFF:∀i,i<m→facF (P0 i) N≤ten 320:=fun i hi=>by
  have h1:=zgC (q:=P0 i) (D:=ten 20) (n:=N) (fun j hj=>(hD i j hi hj).2);exact Nat.le_trans (Nat.le_trans h1 (zjV (Nat.le_refl _))) (zni (by omega))
 have hg:∀i,i<m→(fun i=>1/(facF (P0 i) N:Rat)) i≠0:=fun i _=>zmR.2
 have hgF:∀i,i<m→RatB 1 (ten 320) ((fun i=>1/(facF (P0 i) N:Rat)) i):=fun i hi=>zmR.1.mono (Nat.le_refl _) (hFF i hi)
 have hP:∀i,i<m→∀j,j<N→P0 i j=(fun i=>1/(facF (P0 i) N:Rat)) i*(fun i j=>((za2 (P0 i) N j:Int):Rat)) i j:=fun i _ j hj=>by
  show P0 i j=1/(facF (P0 i) N:Rat)*((za2 (P0 i) N j:Int):Rat)
  rw [zor (P0 i) hj];have:=(zmR (q:=P0 i) (n:=N)).2;have h2:(facF (P0 i) N:Rat)≠0:=fun e=>by rw [e]at this;exact this (by grind)
  grind
 have hNX:1≤N*ten 340:=Nat.mul_pos h0 (zpi _);have hNX2:N*ten 340≤ten 342:=zht (a:=2) (b:=340) (show N≤ten 2 from Nat.le_trans hN (by decide)) (Nat.le_refl _);have hp:(N*ten 340)^m≤ten 2736:=Nat.le_trans (zjV hNX2) (zni (by omega));have hF:1≤ten 320:=zpi _;have hb:ten 320*((N*ten 340)^m*(N*ten 340)^m)<B^700:=by
  rw [zr8 700];exact Nat.lt_of_le_of_lt (zht (Nat.le_refl _) (zht hp hp)) (zpj (by omega))
 have hb2:(N*ten 340)^m<B^700:=by
  rw [zr8 700];exact Nat.lt_of_le_of_lt hp (zpj (by omega))
 have hb3:(ten 320)^m*(N*ten 340)^m<B^700:=by
  rw [zr8 700];have h2:(ten 320)^m≤ten 2560:=Nat.le_trans (zjV (Nat.le_refl _)) (zni (by omega));exact Nat.lt_of_le_of_lt (zht h2 hp) (zpj (by omega))
 exact⟨zsv hA hX hg hgF hP hcN hNX hF hb,zmV hA hX hg hgF hP hcN,zpJ (L:=700) hX hNX hb2 hcN,znu hA hX hg hgF hP columns hcN,fun hk=>zs5 hA hX hg hgF hP hcN hNX hF hb3 hk⟩
theorem zrD{n:Nat}{Q:Nat→Nat→Rat}{columns:Nat}(hc:columns=n)(h:Set1 n n columns Q (fun i=>za2 (Q i) n) (fun i=>1/(facF (Q i) n:Rat))):zjd Q n=if(pRun n Q n).k<n then 0 else zc0 (zbq n Q n):=by
 subst hc;unfold zjd;rw [h.ends.k];have hk:(pRun columns Q columns).k≤columns:=(zed _ _ _).1;by_cases hlt:(pRun columns Q columns).k<columns
 ·rw [if_pos hlt,if_pos hlt]
 ·rw [if_neg hlt,if_neg hlt,h.ends.det (by omega),zlf];grind
theorem zte{cs:List Nat}{n:Nat}(hu:cs.Pairwise (· < ·))(hl:cs.length=n)(hlt:∀x∈cs,x<n){i:Nat}(hi:i<n):cs[i]? = some i:=by
 have lo:∀(i p:Nat),cs[i]? = some p→i≤p:=by
  intro i;induction i with
  | zero=>intro p _;omega
  | succ i ih=>
   intro p hp;obtain⟨q,hq⟩:∃q,cs[i]? = some q:=⟨_,List.getElem?_eq_getElem (by have:=(List.getElem?_eq_some_iff.1 hp).1;omega)⟩;have:=zsH hu (Nat.lt_succ_self i) hq hp;have:=ih q hq;omega
 have hi2:∀(d i p:Nat),i+d+1=n→cs[i]? = some p→p≤i:=by
  intro d;induction d with
  | zero=>
   intro i p hd hp;have:=hlt p (List.mem_of_getElem? hp);omega
  | succ d ih=>
   intro i p hd hp;obtain⟨q,hq⟩:∃q,cs[i+1]? = some q:=⟨_,List.getElem?_eq_getElem (by omega)⟩;have:=zsH hu (Nat.lt_succ_self i) hp hq;have:=ih (i+1) q (by omega) hq;omega
 obtain⟨p,hp⟩:∃p,cs[i]? = some p:=⟨_,List.getElem?_eq_getElem (by omega)⟩;have h1:=lo i p hp;have h2:=hi2 (n-1-i) i p (by omega) hp;have:p=i:=by omega
 rw [hp,this]
end Go.Num
namespace Go.Num
open Go.Eng Go.Shelf Go.RowKit Go.Sort Go.Proofs Go.Proofs.YtoamcgjbelhnkaaGreatDoor
theorem zq9(s:Nat→ByteArray)(k:Nat):∀q∈zb5 s k,zc5 q=true:=by
 intro q hq;unfold zb5 at hq;obtain⟨j,_,rfl⟩:=List.mem_map.1 hq;exact zpB _ _
theorem zoJ(m:Nat→Nat)(s:Nat→Nat→ByteArray)(most k:Nat):∀r∈zck m s most k,∀q∈r,zc5 q=true:=by
 intro r hr;unfold zck at hr;obtain⟨j,_,rfl⟩:=List.mem_map.1 hr;exact zq9 _ _
theorem zrh(m:Nat→Nat)(s:Nat→Nat→ByteArray)(most k:Nat):zta (zck m s most k):=fun r hr q hq=>(zqb (zoJ m s most k r hr q hq)).mono (by decide)
section
variable {w:World} {o1 o2:Option Addr} {n1 k1 n2 k2:Nat} {m:List (List Rat)} {c:Int}
end
end Go.Num
namespace Go.Num
open Go.Eng Go.Shelf Go.RowKit Go.Sort Go.Proofs Go.Proofs.YtoamcgjbelhnkaaGreatDoor
attribute [local go_sem] Oper.semAt_some
theorem it54:zgi Tryz.prog 54 1:=zdg Go.Num.u54 i63 i63s
theorem lm34:zgh Tryz.prog 34 4:=zft (by kernel_rfl) (by kernel_rfl)
theorem OV.not{K:World→Prop}{ks:List Nat}{nt:Nat}{ops:Array Oper}{bs bars r:List Nat}{i:Nat}{a:CAct}{ov:List (Tmp × Value)}{w:World}{Q:CAct→World→Prop}{t:TypeId}{x:Operand}{b:Bool}{d:Tmp}{ty:TypeId}{ps:String}{af:Array Edge}
  (ho:ops[i]? = some {op:=.unOp .not t x,dst:=some d,type:=ty,pos:=ps,after:=af,guard:=none}) (hb:bars.contains i=false) (hd:Nat.blt d nt=true)
  (hx:Go.Eng.look a ov x = .bool b) (h:OV K ks Tryz.prog nt ops bs bars Q r a ((d,.bool (!b)) :: ov) w):OV K ks Tryz.prog nt ops bs bars Q (i :: r) a ov w:=
 OV.read _ ho rfl hb hd (fun w' _=>by simp [execOp,hx,Op.unary,go_sem]) h
theorem zeZ{β:Type}{w:World}{ty sz:Nat}{I:β→List Value→World→Prop}{o:Option Addr}{n c:Nat}{bs:List β}(h:zag w ty sz I (.slice o n c) bs)(h0:0<bs.length):∃a,o=some a:=by
 obtain⟨a,c,e⟩:=zag.some h h0;injection e with e;exact⟨a,e⟩
theorem zod{r:List Value}{l:List Value}(e:Value.agg r.toArray = .agg l.toArray):r=l:=by
 injection e with e;injection e
theorem zoL(w:World)(u v:Value)(qs:List Rat)(hu:RowR w u qs)(hv:RowQ w v qs)(hq:∀q∈qs,zaw q 20000)(hT:zaS w) :
  CallsIn Fence.wide 0 Tryz.prog 35 #[u,v] w fun e w'=>e = .returned (.bool true)∧Below w.heap.size w w':=by
 obtain⟨o1,c1,rfl,h9⟩:=zag.form hu;obtain⟨o2,c2,rfl,_⟩:=zag.form hv;have HU:=zHi hu;have HV:=zHi hv;have HQ:=zHi hq;have HT:=zHi hT;obtain⟨n,hn⟩:∃n,qs.length=n:=⟨_,rfl⟩;have HN:=zHi hn;rw [hn]at h9 ⊢;clear hu hv hq hT hn;refine callsIn_of_wp Tryz.func35 rfl trivial ?_ rfl;simp only [Tryz.ntmps35,ztr,zts,ztt,Nat.reduceAdd,Nat.reduceSub,ztu,ztv,ztw,ztx,zty,ztz];gi_wp2;gi_loopw [5] (fun x5 wr=>∃i:Nat,x5 = .int .i64 (i:Int)∧i≤n∧Hid (Below w.heap.size w wr)) (fun x _=>n-(intOf x).toNat)
 case atStart=>exact⟨0,rfl,by omega,Below.refl _ _⟩
 case round=>
  obtain⟨i,rfl,hi,HB⟩:=hrel;by_cases hin:i<n
  ·gi_wp2;have hbd:=zab wr;obtain⟨W1,hW1⟩:∃W,wr.drew=W:=⟨_,rfl⟩;rw [hW1]at hbd;have hb1:=HB.out.trans (hbd.mono HB.out.size);obtain⟨q,hq⟩:∃q,qs[i]? = some q:=⟨_,List.getElem?_eq_getElem (by rw [HN.out];exact hin)⟩;have hu1:=zag.below HU.out hb1 (IR.below hb1);have hv1:=zag.below HV.out hb1 (IQ.below hb1);obtain⟨a1,e1⟩:=zeZ hu1 (by rw [HN.out];omega);obtain⟨a2,e2⟩:=zeZ hv1 (by rw [HN.out];omega);subst e1;subst e2;obtain⟨_,r1,_,hc1,hI1⟩:=zag.at' hu1 hq;obtain⟨_,r2,_,hc2,hI2⟩:=zag.at' hv1 hq;have hI1:zax W1 (.agg r1.toArray) q:=hI1;have hI2:QAt W1 (.agg r2.toArray) q:=hI2;obtain⟨k1,n1,d1,k2,n2,d2,e1⟩:=zax.form hI1;obtain⟨t1,k3,n3,d3,k4,n4,d4,e2⟩:=QAt.form hI2;have e1:=zod (l:=[.bool (decide (q.num<0)),.slice k1 n1 d1,.slice k2 n2 d2]) e1;have e2:=zod (l:=[.bool t1,.slice k3 n3 d3,.bool false,.slice k4 n4 d4]) e2;subst e1;subst e2;refine zap (ro:=none) [8] [0,1,2,3,4,5,6,7,8,9] [0,0,3,7,0,0,48,112,255,511] zaq rfl 27 rfl (by kernel_rfl) (by kernel_rfl) ?_;rw [hW1];refine OV.mv (v:=.slice (some a1) n c1) rfl rfl rfl rfl ?_;refine OV.mv (v:=.int .i64 (i:Int)) rfl rfl rfl rfl ?_;refine OV.idx it64 hin rfl rfl rfl rfl rfl ?_;refine OV.ldn [.bool (decide (q.num<0)),.slice k1 n1 d1,.slice k2 n2 d2] lm25 hc1 rfl rfl rfl rfl rfl (by decide) rfl ?_;refine OV.mv (v:=.slice (some a2) n c2) rfl rfl rfl rfl ?_;refine OV.mv (v:=.int .i64 (i:Int)) rfl rfl rfl rfl ?_;refine OV.idx it63 hin rfl rfl rfl rfl rfl ?_;refine OV.ldn [.bool t1,.slice k3 n3 d3,.bool false,.slice k4 n4 d4] lm34 hc2 rfl rfl rfl rfl rfl (by decide) rfl ?_;refine OV.call (R:=fun v _=>v = .bool true) [.agg #[.bool (decide (q.num<0)),.slice k1 n1 d1,.slice k2 n2 d2],.agg #[.bool t1,.slice k3 n3 d3,.bool false,.slice k4 n4 d4]] Tryz.func19 rfl zai rfl rfl rfl rfl rfl ((zkr W1 _ _ q hI1 hI2 (HQ.out q (List.mem_of_getElem? hq)) (HT.out.below hb1)).mono ?_) fun v3 w3 h3 hB3 => ?_
   ·rintro e w' ⟨rfl,h2⟩;exact⟨_,rfl,rfl,h2⟩
   subst h3;refine OV.not (b:=true) rfl rfl rfl rfl ?_;refine OV.done ?_;have HB3:=zHi (hb1.trans (hB3.mono hb1.size));simp only [za4,Go.Act.put,ztA,ztB,ztC];clear hB3 hc1 hc2 hI1 hI2 hu1 hv1 hq hb1 hbd hW1;gi_wp2;exact⟨⟨i+1,by go_num,by omega,HB3⟩,by simp only [intOf];omega⟩
  ·gi_wp2;all_goals (first|go_returns|go_ret|go_end0)
   exact⟨rfl,HB.out⟩
theorem zos(w:World)(u v:Value)(M:List (List Rat))(hu:MatR w u M)(hv:MatQ w v M)(hq:∀l∈M,∀q∈l,zaw q 20000)(hT:zaS w) :
  CallsIn Fence.wide 0 Tryz.prog 28 #[u,v] w fun e w'=>e = .returned (.bool true)∧Below w.heap.size w w':=by
 obtain⟨o1,c1,rfl,h9⟩:=zag.form hu;obtain⟨o2,c2,rfl,_⟩:=zag.form hv;have HU:=zHi hu;have HV:=zHi hv;have HQ:=zHi hq;have HT:=zHi hT;obtain⟨n,hn⟩:∃n,M.length=n:=⟨_,rfl⟩;have HN:=zHi hn;rw [hn]at h9 ⊢;clear hu hv hq hT hn;refine callsIn_of_wp Tryz.func28 rfl trivial ?_ rfl;simp only [Tryz.ntmps28,ztr,zts,ztt,Nat.reduceAdd,Nat.reduceSub,ztu,ztv,ztw,ztx,zty,ztz];gi_wp2;gi_loopw [5] (fun x5 wr=>∃i:Nat,x5 = .int .i64 (i:Int)∧i≤n∧Hid (Below w.heap.size w wr)) (fun x _=>n-(intOf x).toNat)
 case atStart=>exact⟨0,rfl,by omega,Below.refl _ _⟩
 case round=>
  obtain⟨i,rfl,hi,HB⟩:=hrel;by_cases hin:i<n
  ·gi_wp2;have hbd:=zab wr;obtain⟨W1,hW1⟩:∃W,wr.drew=W:=⟨_,rfl⟩;rw [hW1]at hbd;have hb1:=HB.out.trans (hbd.mono HB.out.size);obtain⟨q,hq⟩:∃q,M[i]? = some q:=⟨_,List.getElem?_eq_getElem (by rw [HN.out];exact hin)⟩;have hu1:=zag.below HU.out hb1 (zbv.below hb1);have hv1:=zag.below HV.out hb1 (zbC.below hb1);obtain⟨a1,e1⟩:=zeZ hu1 (by rw [HN.out];omega);obtain⟨a2,e2⟩:=zeZ hv1 (by rw [HN.out];omega);subst e1;subst e2;obtain⟨_,r1,_,hc1,v1,rfl,hI1⟩:=zag.at' hu1 hq;obtain⟨_,r2,_,hc2,v2,rfl,hI2⟩:=zag.at' hv1 hq;have x1:=hc1 0 v1 rfl;have x2:=hc2 0 v2 rfl;rw [zco]at x1 x2;refine zap (ro:=none) [8] [0,1,2,3,4,5,6,7,8,9] [0,0,3,7,0,0,48,112,255,511] zaq rfl 27 rfl (by kernel_rfl) (by kernel_rfl) ?_;rw [hW1];refine OV.mv (v:=.slice (some a1) n c1) rfl rfl rfl rfl ?_;refine OV.mv (v:=.int .i64 (i:Int)) rfl rfl rfl rfl ?_;refine OV.idx it55 hin rfl rfl rfl rfl rfl ?_;refine OV.ld lo64 x1 rfl rfl rfl rfl rfl ?_;refine OV.mv (v:=.slice (some a2) n c2) rfl rfl rfl rfl ?_;refine OV.mv (v:=.int .i64 (i:Int)) rfl rfl rfl rfl ?_;refine OV.idx it54 hin rfl rfl rfl rfl rfl ?_;refine OV.ld lo63 x2 rfl rfl rfl rfl rfl ?_;refine OV.call (R:=fun v _=>v = .bool true) [v1,v2] Tryz.func35 rfl zai rfl rfl rfl rfl rfl ((zoL W1 _ _ q hI1 hI2 (HQ.out q (List.mem_of_getElem? hq)) (HT.out.below hb1)).mono ?_) fun v3 w3 h3 hB3 => ?_
   ·rintro e w' ⟨rfl,h2⟩;exact⟨_,rfl,rfl,h2⟩
   subst h3;refine OV.not (b:=true) rfl rfl rfl rfl ?_;refine OV.done ?_;have HB3:=zHi (hb1.trans (hB3.mono hb1.size));simp only [za4,Go.Act.put,ztA,ztB,ztC];clear hB3 hc1 hc2 hI1 hI2 hu1 hv1 hq hb1 hbd hW1 x1 x2;gi_wp2;exact⟨⟨i+1,by go_num,by omega,HB3⟩,by simp only [intOf];omega⟩
  ·gi_wp2;all_goals (first|go_returns|go_ret|go_end0)
   exact⟨rfl,HB.out⟩
theorem zfx{m N:Nat}{Q:Nat→Nat→Rat}(h:∀i j,i<m→j<N→Dig (Q i j)):∀i j,i<m→j<N→zaw (Q i j) 5:=fun i j hi hj=>(h i j hi hj).le (by decide)
theorem zdM{m N:Nat}{Q:Nat→Nat→Rat}(h:∀i j,i<m→j<N→Dig (Q i j)):zix m N Q:=fun i j hi hj=>(h i j hi hj).le (by decide)
theorem zmW{n:Nat}{Q:Nat→Nat→Rat}(h:∀i j,i<n→j<n→Dig (Q i j)):∀i j,i<n→j<n+n→Dig (zal Q n i j):=fun i j hi hj=>by
 unfold zal;split
 ·rename_i hjn;exact h i j hi hjn
 ·split
  ·exact⟨by decide,by decide⟩
  ·exact⟨by decide,by decide⟩
theorem zro{n:Nat}{Q:Nat→Nat→Rat}(h:Set1 n (n+n) n (zal Q n) (fun i=>za2 (zal Q n i) (n+n)) (fun i=>1/(facF (zal Q n i) (n+n):Rat)))(hk:(pRun n (zal Q n) n).k=n) :
  (∀i,i<n→(rRun n (fun i=>za2 (zal Q n i) (n+n)) n).A i i≠0)∧tab n n (fun i j=>zeh (pRun n (zal Q n) n).P (za3 n (zal Q n) n) i (n+j))=tab n n fun i j=>((rRun n (fun i=>za2 (zal Q n i) (n+n)) n).A i (n+j):Rat)/((rRun n (fun i=>za2 (zal Q n i) (n+n)) n).A i i:Rat):=by
 have hid:∀i,i<n→(za3 n (zal Q n) n)[i]? = some i:=fun i hi=>by
  rw [←h.cols];exact zte (zj6 _ _ _) (by rw [h.cols,zdE];exact hk) (zha _ _ _) hi
 have hp:∀i,i<n→(rRun n (fun i=>za2 (zal Q n i) (n+n)) n).A i i=(rRun n (fun i=>za2 (zal Q n i) (n+n)) n).last:=fun i hi=>(h.ends.piv i i (hid i hi)).2
 refine⟨fun i hi=>by rw [hp i hi];exact h.ends.last,zi3 fun i j hi hj => ?_⟩;unfold zeh;rw [hid i hi,hp i hi];exact h.ends.unit i i (hid i hi) (n+j) (by omega)
theorem zsZ{l:List Value}(h:l.length=9):∃a b c d e f g i j:Value,l = [a,b,c,d,e,f,g,i,j]:=by
 match l,h with
 | [a,b,c,d,e,f,g,i,j],_=>exact⟨a,b,c,d,e,f,g,i,j,rfl⟩
theorem zls(w:World)(v:Value)(n:Nat)(rv:Nat→Value)(m:Nat→Nat)(s:Nat→Nat→ByteArray)(h:zsE w v n rv m s)(hL:Laid w) :
  CallsIn Fence.wide 0 Tryz.prog 9 #[v] w fun e w'=>e = .returned (.bool true)∧Below w.heap.size w w':=by
 obtain⟨o,c,rfl,hn9,_⟩:=h.top;have HT:=zHi h;have HL:=zHi hL;obtain⟨M,hM⟩:∃M,zck m s 8 (min n 8)=M:=⟨_,rfl⟩;have HM:=zHi hM;have HLe:Hid (zta M):=zHi (by rw [←hM];exact zrh _ _ _ _);clear h hL hM;refine callsIn_of_wp Tryz.func9 rfl trivial ?_ rfl;simp only [Tryz.ntmps9,ztr,zts,ztt,Nat.reduceAdd,Nat.reduceSub,ztu,ztv,ztw,ztx,zty,ztz];gi_wp2_with (gi_at_call 25;refine stop ?_)
 unfold Stop;refine(zlw w _ n rv m s 8 HT.out (by decide) HL.out).mono ?_;rintro e w1 ⟨v1,v2,rfl,h1,h2,hB⟩;rw [HM.out]at h1 h2;have H1:=zHi h1;have H2:=zHi h2;have HB:=zHi hB;clear h1 h2 hB;gi_wp2_with (gi_at_call 26;refine stop ?_)
 unfold Stop;refine(zla w1 v1 M H1.out).mono ?_;rintro e w2 ⟨rfl,hB⟩;replace H1:=zHi (zag.below H1.out hB (zbC.below hB));replace H2:=zHi (zag.below H2.out hB (zbv.below hB));replace HB:=zHi (HB.out.trans (hB.mono HB.out.size));clear hB;obtain⟨cc,hcc⟩:∃cc,za5 M=cc:=⟨_,rfl⟩;rw [hcc];by_cases hc0:cc=0
 ·subst hc0;obtain⟨mm,N,Q,hMQ,hm0,hm8,hN0,hN8,hD⟩:=rect hcc;rw [hMQ]at H1 H2 hcc;have HD:=zHi hD;have HC:=zHi hcc;clear hD hcc HLe;by_cases hne:mm=N
  ·subst hne;have hS:=zpA hm8 hm0 (by omega) HD.out (Nat.le_refl mm);have hSI:=zpA (P0:=zal Q mm) (columns:=mm) hm8 (show 0<mm+mm by omega) (by omega) (zmW HD.out) (by omega);obtain⟨D,hDD⟩:∃D,(if(pRun mm Q mm).k<mm then 0 else zc0 (zbq mm Q mm))=D:=⟨_,rfl⟩;have HDE:Hid (zjd Q mm=D):=zHi (by rw [zrD rfl hS];exact hDD);have HDL:Hid (zaw D 20000):=zHi (by
    rw [←hDD];split
    ·exact zcx (by decide)
    ·rename_i q;exact(hS.det (by have:=(zed mm Q mm).1;omega)).mono (by decide))
   gi_wp2_with (gi_at_call 50;refine stop ?_)
   unfold Stop;refine(zqu w2 v2 mm Q H2.out hm0 hm8 HC.out (zdM HD.out) (HL.out.pow.below HB.out) hS.fine.run hS.det).mono ?_;rintro e w3 ⟨v3,rfl,hr3,hB⟩;rw [hDD]at hr3;obtain⟨o1,k1,c1,o2,k2,c2,rfl⟩:=hr3.form;obtain⟨sg,hsg⟩:∃sg,decide (D.num<0)=sg:=⟨_,rfl⟩;rw [hsg]at hr3 ⊢;have hb3:=zaa w3 (.cells #[.bool sg,.slice o1 k1 c1,.slice o2 k2 c2] 25);have hB3:=hB.trans (hb3.mono hB.size);replace H1:=zHi (zag.below H1.out hB3 (zbC.below hB3));replace H2:=zHi (zag.below H2.out hB3 (zbv.below hB3));replace HB:=zHi (HB.out.trans (hB3.mono HB.out.size));have hx:=OBox.new w3 [.bool sg,.slice o1 k1 c1,.slice o2 k2 c2] 25;have HX:=zHi hx;have HR3:=zHi (hr3.below hb3);have HS:=zHi hS;have HSI:=zHi hSI;clear hB hb3 hB3 hx hr3 hsg hDD hS hSI;gi_wp2_with (gi_at_call 51;refine stop ?_)
   unfold Stop;obtain⟨W3,hW3⟩:∃W,w3.alloc (.cells #[.bool sg,.slice o1 k1 c1,.slice o2 k2 c2] 25)=W:=⟨_,rfl⟩;obtain⟨g5,hg5⟩:∃g,w3.heap.size=g:=⟨_,rfl⟩;rw [hW3]at H1 H2 HB HR3;rw [show [Value.bool sg,.slice o1 k1 c1,.slice o2 k2 c2].toArray=#[.bool sg,.slice o1 k1 c1,.slice o2 k2 c2]from rfl,hW3,hg5]at HX;rw [hW3,hg5];clear hW3 hg5;refine(zje W3 v2 mm mm Q H2.out hm0 hm0 (by omega) HC.out (zdM HD.out) (HL.out.pow.below HB.out) HS.out.fine).mono ?_;rintro e w4 ⟨rfl,hB⟩;obtain⟨k,hk⟩:∃k,(pRun mm Q mm).k=k:=⟨_,rfl⟩;have HK:Hid ((rRun mm (fun i=>za2 (Q i) mm) mm).k=k):=zHi (by rw [HS.out.ends.k];exact hk);rw [hk];replace H1:=zHi (zag.below H1.out hB (zbC.below hB));replace H2:=zHi (zag.below H2.out hB (zbv.below hB));replace HB:=zHi (HB.out.trans (hB.mono HB.out.size));replace HX:=zHi (HX.out.below hB);replace HR3:=zHi (HR3.out.below hB);clear hB hk;gi_wp2_with (gi_at_call 52;refine stop ?_)
   unfold Stop;refine(zku w4 v2 mm Q H2.out hm0 hm8 HC.out (zdM HD.out) (HL.out.pow.below HB.out) HSI.out.fine).mono ?_;rintro e w5 ⟨v5,he,hB⟩;obtain⟨K,hK⟩:∃K,(pRun mm (zal Q mm) mm).k=K:=⟨_,rfl⟩;have HKR:Hid ((rRun mm (fun i=>za2 (zal Q mm i) (mm+mm)) mm).k=K):=zHi (by rw [HSI.out.ends.k];exact hK);have HIS:=zHi (zro HSI.out);have hKm:K≤mm:=by rw [←hK];exact(zed _ _ _).1
   rw [hK]at he HIS;replace H1:=zHi (zag.below H1.out hB (zbC.below hB));replace HB:=zHi (HB.out.trans (hB.mono HB.out.size));replace HX:=zHi (HX.out.below hB);replace HR3:=zHi (HR3.out.below hB);clear hB hK;by_cases hKl:K<mm
   ·rw [if_pos hKl]at he;subst he;gi_wp2_with (gi_at_call 53;refine stop ?_)
    unfold Stop;refine(zdU w5 v1 Q mm mm 700 H1.out hm0 hm0 (by omega) (zfx HD.out) (by decide) HS.out.sizes).mono ?_;rintro e w6 ⟨rfl,hB⟩;rw [HK.out];replace H1:=zHi (zag.below H1.out hB (zbC.below hB));replace HB:=zHi (HB.out.trans (hB.mono HB.out.size));replace HX:=zHi (HX.out.below hB);replace HR3:=zHi (HR3.out.below hB);clear hB;obtain⟨a1,c1',e1⟩:=zag.some H1.out (by rw [zak];exact hm0);rw [zak]at e1;subst e1;obtain⟨_,r1,_,hc1,u1,rfl,hI1⟩:=zag.at' H1.out (zbD hm0);obtain⟨a2,c2',e2⟩:=zag.some hI1 (by simpa using hm0);rw [List.length_map,List.length_range]at e2;subst e2;have x1:=hc1 0 _ rfl;rw [Nat.zero_mul,zco,zco]at x1;clear hc1 hI1;gi_wp2_with (gi_at_call 54;refine stop ?_)
    unfold Stop;refine(zec w6 _ Q mm 700 _ rfl H1.out hm0 hm8 (zfx HD.out) (by decide) HSI.out.sizes (fun q=>(HIS.out (by rw [←HKR.out];exact q)).1)).mono ?_;rintro e w7 ⟨v7,he7,hB⟩;rw [HKR.out]at he7;replace H1:=zHi (zag.below H1.out hB (zbC.below hB));replace HB:=zHi (HB.out.trans (hB.mono HB.out.size));replace HX:=zHi (HX.out.below hB);replace HR3:=zHi (HR3.out.below hB);rw [if_pos hKl]at he7;subst he7;clear hB x1;gi_wp2;have HBk:Hid (Below w7.heap.size w7 w7):=Below.refl _ _;have q0:=(HX.out.below (zab w7)).box.2 0 _ rfl;have q1:=(HX.out.below (zab w7)).box.2 1 _ rfl;have q2:=(HX.out.below (zab w7)).box.2 2 _ rfl;refine zcw 76 85 84 (fun v w'=>v = .bool false∧Below w7.heap.size w7 w') (by decide) ?reg ?rest
    case reg=>
     gi_region_with (first
      | (gi_at_call 55;(with_reducible refine(zgT w7.drew _ Q mm 700 (zag.below H1.out (zab w7) (zbC.below (zab w7))) hm0 (by omega) (zfx HD.out) (by decide) HS.out.sizes).mono ?_);rintro e x1 ⟨vq,rfl,hq,hB⟩;rw [HDE.out]at hq;have HQ1:=zHi hq;have HBk:=zHi ((zab w7).trans (hB.mono (zab w7).size));have q0:=(HX.out.below HBk.out).box.2 0 _ rfl;have q1:=(HX.out.below HBk.out).box.2 1 _ rfl;have q2:=(HX.out.below HBk.out).box.2 2 _ rfl;clear hB hq)
      | (gi_at_call 19;(with_reducible refine(zkr x1 _ vq D (HR3.out.below HBk.out) HQ1.out HDL.out (HL.out.pow.below (HB.out.trans (HBk.out.mono HB.out.size)))).mono ?_);rintro e x2 ⟨rfl,hB⟩;have HBk:=zHi (HBk.out.trans (hB.mono HBk.out.size));have q0:=(HX.out.below HBk.out).box.2 0 _ rfl;have q1:=(HX.out.below HBk.out).box.2 1 _ rfl;have q2:=(HX.out.below HBk.out).box.2 2 _ rfl;clear hB))
     all_goals exact⟨rfl,rfl,rfl,Nat.le_of_ble_eq_true rfl,rfl,HBk.out⟩
    case rest=>
     intro ys w' hy hR;obtain⟨b0,b1,b2,b3,b4,b5,b6,b7,b8,rfl⟩:=zsZ hy;obtain⟨hb8,hB⟩:=hR;have hb8:b8 = .bool false:=hb8;subst hb8;clear hy;simp only [List.take_succ_cons,List.take_zero,List.drop_succ_cons,List.drop_zero,ztz,zty];replace HB:=zHi (HB.out.trans (hB.mono HB.out.size));clear hB q0 q1 q2;gi_wp2_with (gi_at_call 14;refine stop ?_)
     unfold Stop;refine(zfe HL.out w' HB.out).mono ?_;rintro e w8 ⟨rfl,hB⟩;replace HB:=zHi (HB.out.trans (hB.mono HB.out.size));clear hB;gi_wp2;all_goals (first|go_returns|go_ret|go_end0)
     exact⟨rfl,HB.out⟩
   ·rw [if_neg hKl]at he;obtain⟨rfl,hm5⟩:=he;have H5:=zHi hm5;have HLI:Hid (∀l∈tab mm mm (fun i j=>zeh (pRun mm (zal Q mm) mm).P (za3 mm (zal Q mm) mm) i (mm+j)),∀q∈l,zaw q 20000):=zHi (fun l hl q hq=>by
     obtain⟨i,hi,rfl⟩:=List.mem_map.1 hl;obtain⟨j,hj,rfl⟩:=List.mem_map.1 hq;exact(HSI.out.fine.unit i (mm+j) (List.mem_range.1 hi) (by have:=List.mem_range.1 hj;omega)).mono (by decide))
    clear hm5;gi_wp2_with (gi_at_call 53;refine stop ?_)
    unfold Stop;refine(zdU w5 v1 Q mm mm 700 H1.out hm0 hm0 (by omega) (zfx HD.out) (by decide) HS.out.sizes).mono ?_;rintro e w6 ⟨rfl,hB⟩;rw [HK.out];replace H1:=zHi (zag.below H1.out hB (zbC.below hB));replace HB:=zHi (HB.out.trans (hB.mono HB.out.size));replace HX:=zHi (HX.out.below hB);replace HR3:=zHi (HR3.out.below hB);replace H5:=zHi (zag.below H5.out hB (zbv.below hB));clear hB;obtain⟨a1,c1',e1⟩:=zag.some H1.out (by rw [zak];exact hm0);rw [zak]at e1;subst e1;obtain⟨_,r1,_,hc1,u1,rfl,hI1⟩:=zag.at' H1.out (zbD hm0);obtain⟨a2,c2',e2⟩:=zag.some hI1 (by simpa using hm0);rw [List.length_map,List.length_range]at e2;subst e2;have x1:=hc1 0 _ rfl;rw [Nat.zero_mul,zco,zco]at x1;clear hc1 hI1;gi_wp2_with (gi_at_call 54;refine stop ?_)
    unfold Stop;refine(zec w6 _ Q mm 700 _ rfl H1.out hm0 hm8 (zfx HD.out) (by decide) HSI.out.sizes (fun q=>(HIS.out (by rw [←HKR.out];exact q)).1)).mono ?_;rintro e w7 ⟨v7,he7,hB⟩;rw [HKR.out]at he7;replace H1:=zHi (zag.below H1.out hB (zbC.below hB));replace HB:=zHi (HB.out.trans (hB.mono HB.out.size));replace HX:=zHi (HX.out.below hB);replace HR3:=zHi (HR3.out.below hB);replace H5:=zHi (zag.below H5.out hB (zbv.below hB));rw [if_neg hKl]at he7;obtain⟨rfl,hm7⟩:=he7;rw [←(HIS.out (by omega)).2]at hm7;have H7:=zHi hm7;clear hm7;clear hB x1;gi_wp2;have HBk:Hid (Below w7.heap.size w7 w7):=Below.refl _ _;have q0:=(HX.out.below (zab w7)).box.2 0 _ rfl;have q1:=(HX.out.below (zab w7)).box.2 1 _ rfl;have q2:=(HX.out.below (zab w7)).box.2 2 _ rfl;refine zcw 76 85 84 (fun v w'=>v = .bool false∧Below w7.heap.size w7 w') (by decide) ?reg ?rest
    case reg=>
     gi_region_with (first
      | (gi_at_call 55;(with_reducible refine(zgT w7.drew _ Q mm 700 (zag.below H1.out (zab w7) (zbC.below (zab w7))) hm0 (by omega) (zfx HD.out) (by decide) HS.out.sizes).mono ?_);rintro e x1 ⟨vq,rfl,hq,hB⟩;rw [HDE.out]at hq;have HQ1:=zHi hq;have HBk:=zHi ((zab w7).trans (hB.mono (zab w7).size));have q0:=(HX.out.below HBk.out).box.2 0 _ rfl;have q1:=(HX.out.below HBk.out).box.2 1 _ rfl;have q2:=(HX.out.below HBk.out).box.2 2 _ rfl;clear hB hq)
      | (gi_at_call 19;(with_reducible refine(zkr x1 _ vq D (HR3.out.below HBk.out) HQ1.out HDL.out (HL.out.pow.below (HB.out.trans (HBk.out.mono HB.out.size)))).mono ?_);rintro e x2 ⟨rfl,hB⟩;have HBk:=zHi (HBk.out.trans (hB.mono HBk.out.size));have q0:=(HX.out.below HBk.out).box.2 0 _ rfl;have q1:=(HX.out.below HBk.out).box.2 1 _ rfl;have q2:=(HX.out.below HBk.out).box.2 2 _ rfl;clear hB))
     all_goals exact⟨rfl,rfl,rfl,Nat.le_of_ble_eq_true rfl,rfl,HBk.out⟩
    case rest=>
     intro ys w' hy hR;obtain⟨b0,b1,b2,b3,b4,b5,b6,b7,b8,rfl⟩:=zsZ hy;obtain⟨hb8,hB⟩:=hR;have hb8:b8 = .bool false:=hb8;subst hb8;clear hy;simp only [List.take_succ_cons,List.take_zero,List.drop_succ_cons,List.drop_zero,ztz,zty];replace HB:=zHi (HB.out.trans (hB.mono HB.out.size));replace H5:=zHi (zag.below H5.out hB (zbv.below hB));replace H7:=zHi (zag.below H7.out hB (zbC.below hB));clear hB q0 q1 q2;gi_wp2_with (gi_at_call 28;refine stop ?_)
     unfold Stop;refine(zos w' _ _ _ H5.out H7.out (fun l hl q hq=>HLI.out l hl q hq) (HL.out.pow.below HB.out)).mono ?_;rintro e w8 ⟨rfl,hB⟩;replace HB:=zHi (HB.out.trans (hB.mono HB.out.size));clear hB;gi_wp2_with (gi_at_call 14;refine stop ?_)
     unfold Stop;refine(zfe HL.out w8 HB.out).mono ?_;rintro e w9 ⟨rfl,hB⟩;replace HB:=zHi (HB.out.trans (hB.mono HB.out.size));clear hB;gi_wp2;all_goals (first|go_returns|go_ret|go_end0)
     exact⟨rfl,HB.out⟩
  ·gi_wp2_with (gi_at_call 50;refine stop ?_)
   unfold Stop;refine(zqs w2 v2 mm N Q H2.out hm0 hN0 ⟨hm8,hN8⟩ HC.out (zdM HD.out) (HL.out.pow.below HB.out) hne).mono ?_;rintro e w3 ⟨rfl,hB⟩;have hb3:=zaa w3 (.cells #[.bool false,.slice none 0 0,.slice none 0 0] 25);have hB3:=hB.trans (hb3.mono hB.size);replace H1:=zHi (zag.below H1.out hB3 (zbC.below hB3));replace H2:=zHi (zag.below H2.out hB3 (zbv.below hB3));replace HB:=zHi (HB.out.trans (hB3.mono HB.out.size));have hx:=OBox.new w3 [.bool false,.slice none 0 0,.slice none 0 0] 25;have HX:=zHi hx;clear hB hb3 hB3 hx;gi_wp2_with (gi_at_call 51;refine stop ?_)
   unfold Stop;obtain⟨W3,hW3⟩:∃W,w3.alloc (.cells #[.bool false,.slice none 0 0,.slice none 0 0] 25)=W:=⟨_,rfl⟩;obtain⟨g5,hg5⟩:∃g,w3.heap.size=g:=⟨_,rfl⟩;rw [hW3]at H1 H2 HB;rw [show [Value.bool false,.slice none 0 0,.slice none 0 0].toArray=#[.bool false,.slice none 0 0,.slice none 0 0]from rfl,hW3,hg5]at HX;rw [hW3,hg5];clear hW3 hg5;have hS:=zpA hm8 hN0 (by omega) HD.out (Nat.le_refl N);refine(zje W3 v2 mm N Q H2.out hm0 hN0 (by omega) HC.out (zdM HD.out) (HL.out.pow.below HB.out) hS.fine).mono ?_;rintro e w4 ⟨rfl,hB⟩;obtain⟨k,hk⟩:∃k,(pRun mm Q N).k=k:=⟨_,rfl⟩;have HK:Hid ((rRun mm (fun i=>za2 (Q i) N) N).k=k):=zHi (by rw [hS.ends.k];exact hk);have HSZ:=zHi hS.sizes;rw [hk];replace H1:=zHi (zag.below H1.out hB (zbC.below hB));replace H2:=zHi (zag.below H2.out hB (zbv.below hB));replace HB:=zHi (HB.out.trans (hB.mono HB.out.size));replace HX:=zHi (HX.out.below hB);clear hB hS hk;gi_wp2_with (gi_at_call 52;refine stop ?_)
   unfold Stop;refine(zkt w4 v2 mm N Q H2.out hm0 hN0 ⟨hm8,hN8⟩ HC.out (zdM HD.out) (HL.out.pow.below HB.out) hne).mono ?_;rintro e w5 ⟨rfl,hB⟩;replace H1:=zHi (zag.below H1.out hB (zbC.below hB));replace HB:=zHi (HB.out.trans (hB.mono HB.out.size));replace HX:=zHi (HX.out.below hB);clear hB;gi_wp2_with (gi_at_call 53;refine stop ?_)
   unfold Stop;refine(zdU w5 v1 Q mm N 700 H1.out hm0 hN0 (by omega) (zfx HD.out) (by decide) HSZ.out).mono ?_;rintro e w6 ⟨rfl,hB⟩;rw [HK.out];replace H1:=zHi (zag.below H1.out hB (zbC.below hB));replace HB:=zHi (HB.out.trans (hB.mono HB.out.size));replace HX:=zHi (HX.out.below hB);clear hB;obtain⟨a1,c1,e1⟩:=zag.some H1.out (by rw [zak];exact hm0);rw [zak]at e1;subst e1;obtain⟨_,r1,_,hc1,u1,rfl,hI1⟩:=zag.at' H1.out (zbD hm0);obtain⟨a2,c2,e2⟩:=zag.some hI1 (by simpa using hN0);rw [List.length_map,List.length_range]at e2;subst e2;have x1:=hc1 0 _ rfl;rw [Nat.zero_mul,zco,zco]at x1;have q0:=HX.out.box.2 0 _ rfl;have q1:=HX.out.box.2 1 _ rfl;have q2:=HX.out.box.2 2 _ rfl;have hd1:((mm:Int) == (N:Int))=false:=by rw [beq_eq_false_iff_ne];omega
   have hd2:decide ((mm:Int)=(N:Int))=false:=decide_eq_false (by omega);clear hc1 hI1;gi_wp2_with (gi_at_call 13;refine stop ?_)
   unfold Stop;refine(zgQ w6 _ 0 (zaK _) (zcx (by decide)) (HL.out.pow.below HB.out)).mono ?_;rintro e w7 ⟨rfl,hB⟩;rw [zol];replace HB:=zHi (HB.out.trans (hB.mono HB.out.size));clear hB q0 q1 q2 x1;gi_wp2_with (gi_at_call 14;refine stop ?_)
   unfold Stop;refine(zfe HL.out w7 HB.out).mono ?_;rintro e w8 ⟨rfl,hB⟩;replace HB:=zHi (HB.out.trans (hB.mono HB.out.size));clear hB;gi_wp2;all_goals (first|go_returns|go_ret|go_end0)
   exact⟨rfl,HB.out⟩
 ·gi_wp2_with (gi_at_call 14;refine stop ?_)
  unfold Stop;refine(zfe HL.out w2 HB.out).mono ?_;rintro e w3 ⟨rfl,hB⟩;replace HB:=zHi (HB.out.trans (hB.mono HB.out.size));clear hB;gi_wp2;all_goals (first|go_returns|go_ret|go_end0)
  exact⟨rfl,HB.out⟩
end Go.Num
