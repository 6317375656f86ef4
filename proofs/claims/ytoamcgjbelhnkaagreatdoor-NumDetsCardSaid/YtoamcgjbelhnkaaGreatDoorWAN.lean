/-
  'Make' of the program. 'awake' answers true: one run of the machine in the kernel. Decimal digits as a number, and back; what is canonical. 
  Conditions: see each statement.
-/
import Derived.Test.YtoamcgjbelhnkaaGreatDoorWAA
import Derived.Test.YtoamcgjbelhnkaaGreatDoorWAM
import Derived.Lib.SmallJoins
import Derived.RecoverIn
import Derived.Test.YtoamcgjbelhnkaaGreatDoorCards
import Derived.Test.YtoamcgjbelhnkaaGreatDoorTie
import Derived.WalkKit
import Derived.ProofKit
import Derived.OpenShut
import Derived.Deep.DeepHandedRow
import Derived.Lib.LaidTab
import Derived.Stop.LaidErr
import Derived.Test.YtoamcgjbelhnkaaGreatDoorWAK
import Derived.Lib.ParseIntBCases
import Derived.Lib.AtoiTie
import Derived.Test.YtoamcgjbelhnkaaGreatDoorWAF
import Derived.Lib.IndexMore
set_option maxRecDepth 100000
set_option maxHeartbeats 8000000
namespace Go.Num
open Go.Eng Go.Shelf Go.RowKit Go.Sort Go.Proofs Go.Proofs.YtoamcgjbelhnkaaGreatDoor
theorem zto:zfH Tryz.prog 34 0 0:=zfa (by kernel_rfl)
theorem zs3:zfH Tryz.prog 34 1 2:=zfa (by kernel_rfl)
theorem m32:znc Tryz.prog 32 2:=zoK (by kernel_rfl) (by kernel_rfl)
theorem m34:zcp Tryz.prog 34 4:=zbS (by kernel_rfl) (by kernel_rfl)
def Box4(w:World)(g:Nat)(x y z u:Value):Prop:=∀j v,[x,y,z,u][j]? = some v→w.cell? ⟨g,j,none⟩=some v
theorem Box4.lt{w:World}{g:Nat}{x y z u:Value}(h:Box4 w g x y z u):g<w.heap.size:=World.block_lt_of_cell? _ _ (h 0 x rfl)
theorem Box4.below{w w':World}{g:Nat}{x y z u:Value}(h:Box4 w g x y z u)(hb:Below w.heap.size w w'):Box4 w' g x y z u:=fun j v hj=>(hb.cell (p:=⟨g,j,none⟩) h.lt).trans (h j v hj)
theorem zn9(w:World)(x y z u:Value)(t:TypeId):Box4 (w.alloc (.cells #[x,y,z,u] t)) w.heap.size x y z u:=fun j v hj=>by
 rw [World.cell?_alloc_new,←hj];simp
theorem Box4.lo{w:World}{g:Nat}{x y z u:Value}(h:Box4 w g x y z u):∀j v,[x,y][j]? = some v→w.cell? ⟨g,0+j,none⟩=some v:=fun j v hj=>by
 match j,hj with
 | 0,hj=>exact h 0 v hj
 | 1,hj=>exact h 1 v hj
 | n+2,hj=>simp at hj
theorem Box4.hi{w:World}{g:Nat}{x y z u:Value}(h:Box4 w g x y z u):∀j v,[z,u][j]? = some v→w.cell? ⟨g,2+j,none⟩=some v:=fun j v hj=>by
 match j,hj with
 | 0,hj=>exact h 2 v hj
 | 1,hj=>exact h 3 v hj
 | n+2,hj=>simp at hj
theorem QAt.parts{w:World}{v:Value}{q:Rat}(h:QAt w v q):∃m1 m2,v = .agg #[.bool (decide (q.num<0)),m1,.bool false,m2]∧ZAt w (.agg #[.bool (decide (q.num<0)),m1]) q.num∧ZAt w (.agg #[.bool false,m2]) (q.den:Int):=by
 obtain⟨m1,m2,e,h1,h2⟩:=h;refine⟨m1,m2,e,⟨m1,rfl,h1⟩,⟨m2,?_,h2⟩⟩;have:decide ((q.den:Int)<0)=false:=decide_eq_false (by omega);rw [this]
theorem zjv(w:World)(v:Value)(q:Rat)(h:QAt w v q)(hq:zaw q 20000) :
  CallsIn Fence.wide 0 Tryz.prog 73 #[v] w fun e w'=>e = .returned (.string (zgl q))∧Below w.heap.size w w':=by
 obtain⟨m1,m2,rfl,hn,hd⟩:=h.parts;have HN:=zHi hn;have HD:=zHi hd;obtain⟨sg,hsg⟩:∃sg,decide (q.num<0)=sg:=⟨_,rfl⟩;rw [hsg]at HN;rw [hsg];obtain⟨W1,hW1⟩:∃W,W=w.alloc (.cells #[.bool sg,m1,.bool false,m2] 34):=⟨_,rfl⟩;have HX:Hid (Box4 W1 w.heap.size (.bool sg) m1 (.bool false) m2):=zHi (by rw [hW1];exact zn9 _ _ _ _ _ _);have HBW:Hid (Below w.heap.size w W1):=zHi (by rw [hW1];exact zaa _ _);have HP:=zHi hq;clear h hn hd hsg hq;refine callsIn_of_wp Tryz.func73 rfl trivial ?_ rfl;simp only [Tryz.ntmps73,ztr,zts,ztt,Nat.reduceAdd,Nat.reduceSub,ztu,ztv,ztw,ztx,zty,ztz];gi_wp2;rw [←hW1];obtain⟨g,hg⟩:∃g,w.heap.size=g:=⟨_,rfl⟩;rw [hg]at HX;rw [hg];clear hW1;refine zar (ro:=none) [2,3] [0,1,2,3,4] [0,1,0,7,15] zaq 19 rfl (by kernel_rfl) (by kernel_rfl) ?_;replace HX:=zHi (HX.out.below (zab _));replace HBW:=zHi (HBW.out.trans ((zab W1).mono HBW.out.size));refine OW.fieldAddr rfl rfl zs3 rfl ?_;simp only [Go.Act.put,ztA,ztB,ztC];refine OW.loadMid rfl rfl m32 (cs:=[.bool false,m2]) rfl (by decide) HX.out.hi rfl ?_;simp only [Go.Act.put,ztA,ztB,ztC];refine OW.call rfl rfl Tryz.func22 rfl zai (args:=[.int .i64 1]) rfl ?_;refine(zbb W1.drew 1 (by decide) (by decide)).mono ?_;rintro e w2 ⟨v5,rfl,hz5,hB⟩;refine⟨v5,rfl,hB,?_⟩;simp only [Go.Act.put,ztA,ztB,ztC];replace HX:=zHi (HX.out.below hB);replace HBW:=zHi (HBW.out.trans (hB.mono HBW.out.size));have HZ5:=zHi hz5;clear hz5 hB;refine OW.call rfl rfl Tryz.func69 rfl zai (args:=[.agg #[.bool false,m2],v5]) rfl ?_;refine(zc7 w2 _ v5 (q.den:Int) 1 (HD.out.below HBW.out) HZ5.out (zaV 50000 HP.out.2 (by decide)) (zaV 50000 (show 1<B^1 by decide) (by decide))).mono ?_;rintro e w3 ⟨rfl,hB⟩;refine⟨_,rfl,hB,?_⟩;simp only [Go.Act.put,ztA,ztB,ztC];replace HX:=zHi (HX.out.below hB);replace HBW:=zHi (HBW.out.trans (hB.mono HBW.out.size));clear hB HZ5;refine OW.eqInt rfl rfl rfl rfl ?_;simp only [Go.Act.put,ztA,ztB,ztC];refine OW.done ?_;by_cases h1:q.den=1
 ·have hc:(((q.den:Int)-1).sign == 0)=true:=by rw [h1];rfl
  rw [hc];have y0:=HX.out 0 _ rfl;have y1:=HX.out 1 _ rfl;have HT:=zHi (zhs h1);clear h1 hc;gi_wp2_with (gi_at_call 16;refine stop ?_)
  unfold Stop;refine(zdW w3 _ q.num (HN.out.below HBW.out) (zaV 100000 HP.out.1 (by decide))).mono ?_;rintro e w4 ⟨rfl,hB⟩;have HB4:=zHi (HBW.out.trans (hB.mono HBW.out.size));clear hB;gi_wp2;all_goals (first|go_returns|go_ret|go_end0)
  exact⟨by rw [HT.out];rfl,HB4.out⟩
 ·have hc:(((q.den:Int)-1).sign == 0)=false:=beq_false_of_ne (by
   intro h;have:=Int.sign_eq_zero_iff_zero.1 h;omega)
  rw [hc];have HT:=zHi (zi2 h1);have hsz1:=zi1 (z:=q.num) (zaV 100000 HP.out.1 (by decide));have hsz2:=zdy (n:=q.den) (zaV 100000 HP.out.2 (by decide));gi_wp2;refine zar (ro:=none) [2,6] [0,1,4,5,2,3,6,7,8] [0,1,3,7,0,16,55,127,255] zaq 19 rfl (by kernel_rfl) (by kernel_rfl) ?_;replace HX:=zHi (HX.out.below (zab _));replace HBW:=zHi (HBW.out.trans ((zab w3).mono HBW.out.size));refine OW.fieldAddr rfl rfl zto rfl ?_;simp only [Go.Act.put,ztA,ztB,ztC];refine OW.loadMid rfl rfl m32 (cs:=[.bool sg,m1]) rfl (by decide) HX.out.lo rfl ?_;simp only [Go.Act.put,ztA,ztB,ztC];refine OW.fieldAddr rfl rfl zs3 rfl ?_;simp only [Go.Act.put,ztA,ztB,ztC];refine OW.loadMid rfl rfl m32 (cs:=[.bool false,m2]) rfl (by decide) HX.out.hi rfl ?_;simp only [Go.Act.put,ztA,ztB,ztC];refine OW.call rfl rfl Tryz.func16 rfl zai (args:=[.agg #[.bool sg,m1]]) rfl ?_;refine(zdW w3.drew _ q.num (HN.out.below HBW.out) (zaV 100000 HP.out.1 (by decide))).mono ?_;rintro e w4 ⟨rfl,hB⟩;refine⟨_,rfl,hB,?_⟩;simp only [Go.Act.put,ztA,ztB,ztC];replace HBW:=zHi (HBW.out.trans (hB.mono HBW.out.size));clear hB;refine OW.addStr rfl rfl rfl rfl (by show _+1≤_;omega) ?_;simp only [Go.Act.put,ztA,ztB,ztC];refine OW.call rfl rfl Tryz.func16 rfl zai (args:=[.agg #[.bool false,m2]]) rfl ?_;refine(zdW w4 _ (q.den:Int) (HD.out.below HBW.out) (zaV 100000 HP.out.2 (by decide))).mono ?_;rintro e w5 ⟨rfl,hB⟩;refine⟨_,rfl,hB,?_⟩;simp only [Go.Act.put,ztA,ztB,ztC];replace HBW:=zHi (HBW.out.trans (hB.mono HBW.out.size));clear hB;rw [zhr (z:=(q.den:Int)) (by omega),Int.natAbs_natCast];refine OW.addStr rfl rfl rfl rfl (by rw [ByteArray.size_append];show _+1+_≤_;omega) ?_;simp only [Go.Act.put,ztA,ztB,ztC];refine OW.assign rfl rfl _ rfl ?_;simp only [Go.Act.put,ztA,ztB,ztC];refine OW.done ?_;rw [HT.out];gi_wp2;all_goals (first|go_returns|go_ret|go_end0)
  exact⟨rfl,HBW.out⟩
theorem m25:zcp Tryz.prog 25 3:=l25
theorem zkr(w:World)(u v:Value)(q:Rat)(hu:zax w u q)(hv:QAt w v q)(hq:zaw q 20000)(htab:zaS w) :
  CallsIn Fence.wide 0 Tryz.prog 19 #[u,v] w fun e w'=>e = .returned (.bool true)∧Below w.heap.size w w':=by
 have HU:=zHi hu;have HV:=zHi hv;obtain⟨vn,vd,rfl,_,_⟩:=hu;obtain⟨m1,m2,rfl,_,_⟩:=hv;obtain⟨sg,hsg⟩:∃sg,decide (q.num<0)=sg:=⟨_,rfl⟩;rw [hsg]at HU HV;rw [hsg];obtain⟨W0,hW0⟩:∃W,W=w.alloc (.cells #[.bool sg,vn,vd] 25):=⟨_,rfl⟩;have h0s:W0.heap.size=w.heap.size+1:=by rw [hW0];simp
 obtain⟨W1,hW1⟩:∃W,W=W0.alloc (.cells #[.bool sg,m1,.bool false,m2] 34):=⟨_,rfl⟩;have HX:Hid (Box3 W1 w.heap.size (.bool sg) vn vd):=zHi (by rw [hW1];exact Box3.below (by rw [hW0];exact zbs _ _ _ _ _) (zaa _ _));have HY:Hid (Box4 W1 (w.heap.size+1) (.bool sg) m1 (.bool false) m2):=zHi (by rw [hW1,←h0s];exact zn9 _ _ _ _ _ _);have HBW:Hid (Below w.heap.size w W1):=zHi (by rw [hW1,hW0];exact(zaa _ _).alloc (by simp) _);have HP:=zHi hq;have HTab:=zHi htab;clear hsg hq htab;refine callsIn_of_wp Tryz.func19 rfl trivial ?_ rfl;simp only [Tryz.ntmps19,ztr,zts,ztt,Nat.reduceAdd,Nat.reduceSub,ztu,ztv,ztw,ztx,zty,ztz];gi_wp2;rw [←hW0,←hW1];obtain⟨g,hg⟩:∃g,w.heap.size=g:=⟨_,rfl⟩;rw [hg]at HX HY;rw [hg];clear hW0 hW1 h0s;refine zar (ro:=none) [1,3] [0,2,1,3,4,5] [0,1,0,7,15,31] zaq 10 rfl (by kernel_rfl) (by kernel_rfl) ?_;replace HX:=zHi (HX.out.below (zab _));replace HY:=zHi (HY.out.below (zab _));replace HBW:=zHi (HBW.out.trans ((zab W1).mono HBW.out.size));refine OW.loadAll rfl rfl m25 (cs:=[.bool sg,vn,vd]) rfl (by decide) HX.out rfl ?_;simp only [Go.Act.put,ztA,ztB,ztC];refine OW.loadAll rfl rfl m34 (cs:=[.bool sg,m1,.bool false,m2]) rfl (by decide) HY.out rfl ?_;simp only [Go.Act.put,ztA,ztB,ztC];refine OW.call rfl rfl Tryz.func13 rfl zai (args:=[.agg #[.bool sg,vn,vd]]) rfl ?_;refine(zgQ W1.drew _ q (HU.out.below HBW.out) (HP.out.mono (by decide)) (HTab.out.below HBW.out)).mono ?_;rintro e w2 ⟨rfl,hB⟩;refine⟨_,rfl,hB,?_⟩;simp only [Go.Act.put,ztA,ztB,ztC];replace HBW:=zHi (HBW.out.trans (hB.mono HBW.out.size));clear hB;refine OW.call rfl rfl Tryz.func73 rfl zai (args:=[.agg #[.bool sg,m1,.bool false,m2]]) rfl ?_;refine(zjv w2 _ q (HV.out.below HBW.out) HP.out).mono ?_;rintro e w3 ⟨rfl,hB⟩;refine⟨_,rfl,hB,?_⟩;simp only [Go.Act.put,ztA,ztB,ztC];replace HBW:=zHi (HBW.out.trans (hB.mono HBW.out.size));clear hB;refine OW.eqStr rfl rfl rfl rfl ?_;simp only [Go.Act.put,ztA,ztB,ztC];refine OW.assign rfl rfl _ rfl ?_;simp only [Go.Act.put,ztA,ztB,ztC];refine OW.done ?_;gi_wp2;all_goals (first|go_returns|go_ret|go_end0)
 exact⟨rfl,HBW.out⟩
theorem l34:zcp Tryz.prog 34 4:=m34
theorem zlG{a:Int}(h1 : -9223372036854775808≤a)(h2:a≤9223372036854775807):a.natAbs<B^3:=by
 have:B^3=1000000000000000000000000000:=by decide
 omega
theorem zoP(w:World)(a b:Int)(ha1 : -9223372036854775808≤a)(ha2:a≤9223372036854775807)(hb1 : -9223372036854775808≤b)(hb2:b≤9223372036854775807)(hb0:b≠0) :
  CallsIn Fence.wide 0 Tryz.prog 24 #[.int .i64 a,.int .i64 b] w fun e w'=>∃v',e = .returned v'∧QAt w' v' ((a:Rat)/(b:Rat))∧Below w.heap.size w w':=by
 refine callsIn_of_wp Tryz.func24 rfl trivial ?_ rfl;simp only [Tryz.ntmps24,ztr,zts,ztt,Nat.reduceAdd,Nat.reduceSub,ztu,ztv,ztw,ztx,zty,ztz];gi_wp2_with (gi_at_call 22;refine stop ?_)
 unfold Stop;obtain⟨W1,hW1⟩:∃W,W=w.alloc (.cells #[.bool false,.slice none 0 0,.bool false,.slice none 0 0] 34):=⟨_,rfl⟩;rw [←hW1];have HBW:Hid (Below w.heap.size w W1):=zHi (by rw [hW1];exact zaa _ _);have HA:Hid (zaf W1 w.heap.size 4 fun i => [.bool false,.slice none 0 0,.bool false,.slice none 0 0].getD i (.bool false)):=zHi (by
  rw [hW1];refine zaf.new _ _ _ fun i hi => ?_
  match i,hi with
  | 0,_=>rfl
  | 1,_=>rfl
  | 2,_=>rfl
  | 3,_=>rfl)
 have HE:Hid (Elem W1 w.heap.size 34):=zHi (by rw [hW1];exact zas _ _ _);obtain⟨g,hg⟩:∃g,w.heap.size=g:=⟨_,rfl⟩;have hgl:g<W1.heap.size:=by rw [hW1,←hg];simp
 have hgw:w.heap.size≤g:=by omega
 rw [hg]at HA HE;rw [hg];clear hg hW1;refine(zbb W1 a ha1 ha2).mono ?_;rintro e w2 ⟨v2,rfl,hz2,hB⟩;replace HA:=zHi (HA.out.below hgl hB);replace HE:=zHi (HE.out.below hB hgl);replace HBW:=zHi (HBW.out.trans (hB.mono HBW.out.size));replace hgl:=Nat.lt_of_lt_of_le hgl hB.size;have HZ2:=zHi hz2;clear hz2 hB;gi_wp2_with (gi_at_call 22;refine stop ?_)
 unfold Stop;refine(zbb w2 b hb1 hb2).mono ?_;rintro e w3 ⟨v3,rfl,hz3,hB⟩;replace HA:=zHi (HA.out.below hgl hB);replace HE:=zHi (HE.out.below hB hgl);replace HBW:=zHi (HBW.out.trans (hB.mono HBW.out.size));replace hgl:=Nat.lt_of_lt_of_le hgl hB.size;replace HZ2:=zHi (HZ2.out.below hB);have HZ3:=zHi hz3;clear hz3 hB;gi_wp2_with (gi_at_call 77;refine stop ?_)
 unfold Stop;refine(zdV w3 v2 v3 a b HZ2.out HZ3.out (zaV 20000 (zlG ha1 ha2) (by decide)) (zaV 20000 (zlG hb1 hb2) (by decide)) hb0).mono ?_;rintro e w4 ⟨v4,rfl,⟨m1,m2,rfl,h1,h2⟩,hB⟩;replace HA:=zHi (HA.out.below hgl hB);replace HE:=zHi (HE.out.below hB hgl);replace HBW:=zHi (HBW.out.trans (hB.mono HBW.out.size));obtain⟨o1,k1,c1,rfl,_,_⟩:=zaD h1;obtain⟨o2,k2,c2,rfl,_,_⟩:=zaD h2;have H1:=zHi h1;have H2:=zHi h2;have y0:=(HA.out 0 (by omega)).1;have y1:=(HA.out 1 (by omega)).1;have y2:=(HA.out 2 (by omega)).1;have y3:=(HA.out 3 (by omega)).1;have z0:=(HA.out 0 (by omega)).2;have z1:=(HA.out 1 (by omega)).2;have z2:=(HA.out 2 (by omega)).2;have z3:=(HA.out 3 (by omega)).2;simp only [List.getD_cons_zero,List.getD_cons_succ]at y0 y1 y2 y3;clear h1 h2 hB HZ2 HZ3;obtain⟨sg,hsg⟩:∃sg,decide (((a:Rat)/(b:Rat)).num<0)=sg:=⟨_,rfl⟩;rw [hsg];gi_wp2;have ha6:=(((HA.out.set (i:=0) (by omega) (.bool sg)).set (i:=1) (by omega) (.slice o1 k1 c1)).set (i:=2) (by omega) (.bool false)).set (i:=3) (by omega) (.slice o2 k2 c2);refine zj3 (cs:=[.bool sg,.slice o1 k1 c1,.bool false,.slice o2 k2 c2]) rfl rfl g rfl l34 rfl ?_ ?_
 ·intro j v hj;match j,hj with
  | 0,hj=>cases hj;exact(ha6 0 (by omega)).1
  | 1,hj=>cases hj;exact(ha6 1 (by omega)).1
  | 2,hj=>cases hj;exact(ha6 2 (by omega)).1
  | 3,hj=>cases hj;exact(ha6 3 (by omega)).1
 ·have n:∀{v:Value} {x:Nat},NatI w4 v x→NatI ((((w4.setCell ⟨g,0,none⟩ (.bool sg)).setCell ⟨g,1,none⟩ (.slice o1 k1 c1)).setCell ⟨g,2,none⟩ (.bool false)).setCell ⟨g,3,none⟩ (.slice o2 k2 c2)) v x:=fun h=>
   (((h.setElem HE.out (by decide)).setElem (HE.out.setCell _ _) (by decide)).setElem ((HE.out.setCell _ _).setCell _ _) (by decide)).setElem (((HE.out.setCell _ _).setCell _ _).setCell _ _) (by decide)
  refine⟨_,rfl,⟨_,_,by rw [hsg],n H1.out,n H2.out⟩,(((HBW.out.setCell hgw _).setCell hgw _).setCell hgw _).setCell hgw _⟩
def envW(z:Int):Env:=⟨fun k=>if k=7 then 1 else z,fun _=>0⟩
def tW:TTab:=fun f ts=>
 bif Nat.beq f 22 then
  match ts with
  | .cons (.val (.sc (.int .i64 1))) .nil=>some (.cons (zs false (.leaf 7)) .nil)
  | _=>none
 else none
theorem zsK(z:Int):zcc Tryz.prog (GN (envW z)) tW:=by
 intro f ts rs q;unfold tW at q
 cases hf:Nat.beq f 22 with
 | false=>rw [hf]at q;cases q
 | true=>
  rw [hf]at q;have hf:=(zam _ _).1 hf;subst hf;refine⟨⟨_,Tryz.func22,rfl⟩,fun w xs hx => ?_⟩;simp only [cond_true]at q;split at q
  ·cases q
   obtain⟨v,r,e,h1,h4⟩:=hx;have h4:r = []:=h4;subst h4;have e':xs=#[v]:=Array.toList_inj.1 (by simpa using e);subst e';have h1:some (Value.int .i64 1)=some v:=h1
   cases h1
   refine(callsIn_wide.1 (zbb w 1 (by decide) (by decide))).mono ?_;rintro e w' ⟨v',rfl,hz,hb⟩;exact⟨v',rfl,zo4 hz rfl rfl,hb⟩
  ·cases q
theorem zfi(w:World)(v:Value)(z:Int)(h:ZAt w v z) :
  CallsIn Fence.wide 0 Tryz.prog 21 #[v] w fun e w'=>∃v',e = .returned v'∧QAt w' v' (z:Rat)∧Below w.heap.size w w':=by
 refine(runZ (zsK z) (n:=50) (r:=zqD (zc (.leaf 0)) (zs false (.leaf 7))) (ts:=.cons (zc (.leaf 0)) .nil) (by kernel_rfl) (xs:=#[v]) ⟨v,[],rfl,zda h rfl,rfl⟩).mono ?_;rintro e w' ⟨v',rfl,⟨xs,rfl,a,r,e1,h1,b,r2,rfl,h2,c,r3,rfl,h3,d,r4,rfl,h4,h5⟩,hB⟩;have h5:r4 = []:=h5;subst h5;have e':xs=#[a,b,c,d]:=Array.toList_inj.1 (by simpa using e1);subst e';have h3:some (Value.bool false)=some c:=h3
 cases h3
 have h1:a = .bool (decide (z<0)):=h1;subst h1;exact⟨_,rfl,⟨b,d,rfl,h2,h4⟩,hB⟩
theorem zaH{fn:Func}{p t:Tmp}{R:Ending→World→Prop}{a:Act}{w:World}{x y z x0 x1 x2 u:Value}(h:fn.results=#[.cell p 25,.tmp t])(hd:a.defers = [])(g:Nat)(hp:a.tmps.getD p undef = .pointer (some ⟨g,0,none⟩))(ht:a.tmps.getD t undef=u)
  (h0:w.cell? ⟨g,0,none⟩=some x0) (h1:w.cell? ⟨g,1,none⟩=some x1) (h2:w.cell? ⟨g,2,none⟩=some x2) (hR:R (.returned (.tuple #[.agg #[x,y,z],u])) (((w.setCell ⟨g,0,none⟩ x).setCell ⟨g,1,none⟩ y).setCell ⟨g,2,none⟩ z)) :
  bodyPost Tryz.prog fn R .ret a (((w.setCell ⟨g,0,none⟩ x).setCell ⟨g,1,none⟩ y).setCell ⟨g,2,none⟩ z):=by
 have n01:(⟨g,0,none⟩:Addr)≠⟨g,1,none⟩:=by intro e;injection e with _ e;omega
 have n02:(⟨g,0,none⟩:Addr)≠⟨g,2,none⟩:=by intro e;injection e with _ e;omega
 have n12:(⟨g,1,none⟩:Addr)≠⟨g,2,none⟩:=by intro e;injection e with _ e;omega
 have c0:(((w.setCell ⟨g,0,none⟩ x).setCell ⟨g,1,none⟩ y).setCell ⟨g,2,none⟩ z).cell? ⟨g,0,none⟩=some x:=by
  rw [World.cell?_setCell_other _ _ _ _ n02.symm,World.cell?_setCell_other _ _ _ _ n01.symm,World.cell?_setCell_same _ _ _ h0]
 have c1:(((w.setCell ⟨g,0,none⟩ x).setCell ⟨g,1,none⟩ y).setCell ⟨g,2,none⟩ z).cell? ⟨g,1,none⟩=some y:=by
  rw [World.cell?_setCell_other _ _ _ _ n12.symm,World.cell?_setCell_same _ _ _ (by rw [World.cell?_setCell_other _ _ _ _ n01];exact h1)]
 have c2:(((w.setCell ⟨g,0,none⟩ x).setCell ⟨g,1,none⟩ y).setCell ⟨g,2,none⟩ z).cell? ⟨g,2,none⟩=some z:=by
  rw [World.cell?_setCell_same _ _ _ (by rw [World.cell?_setCell_other _ _ _ _ n12,World.cell?_setCell_other _ _ _ _ n02];exact h2)]
 refine bodyPost_ret ?_ hd hR;have hl:=l25 g [x,y,z] (((w.setCell ⟨g,0,none⟩ x).setCell ⟨g,1,none⟩ y).setCell ⟨g,2,none⟩ z) rfl (fun j v hj=>by
  match j,hj with
  | 0,hj=>rw [←hj];exact c0
  | 1,hj=>rw [←hj];exact c1
  | 2,hj=>rw [←hj];exact c2
  | n+3,hj=>simp at hj)
 simp only [Instr.loadAt,Instr.sureAddr,Sem.run_bind,Sem.run_pure,Result.andThen_ok]at hl;have hp':a.tmps[p]?.getD undef = .pointer (some ⟨g,0,none⟩):=by rw [←Array.getD_eq_getD_getElem?];exact hp
 have ht':a.tmps[t]?.getD undef=u:=by rw [←Array.getD_eq_getD_getElem?];exact ht
 simp [results,h,hp',ht',asAddr,hl]
theorem zaK(w:World):zax w (.agg #[.bool false,.slice none 0 0,.slice none 0 0]) 0:=⟨_,_,rfl,zdf _ _ _,zdf _ _ _⟩
def ztq(w:World):Prop:=∀w',Below w.heap.size w w'→CallsIn Fence.wide 0 Tryz.prog 14 #[] w' fun e w''=>e = .returned (.bool true)∧Below w'.heap.size w' w''
def ztc(R:Act→World→Prop):Exit→Act→World→Prop
 | .normal,a,w=>R a w
 | _,_,_=>False
theorem zpI{F:Fence}{n:Nat}{P:Program}{c:Code}{Q:Exit→Act→World→Prop}{a:Act}{w:World}(R:Act→World→Prop)(h:∀a' w',R a' w'→Q .normal a' w')(hr:c.wpIn F n P (ztc R) a w):c.wpIn F n P Q a w:=
 wpIn_mono hr fun e a w hh=>by
  cases e with
  | normal=>exact h a w hh
  | _=>exact hh.elim
theorem zol:zgl 0=⟨#[48]⟩:=by
 rw [zhs rfl];exact zi0
end Go.Num
namespace Go.Num
open Go.Eng Go.Shelf Go.RowKit Go.Proofs Go.Proofs.YtoamcgjbelhnkaaGreatDoor
structure Laid(w:World):Prop where
 pow:zaS w
 len:∃m,w.cell? ⟨0,0,none⟩=some (.int .i64 m)
theorem Laid.below{w w':World}(h:Laid w)(hb:Below w.heap.size w w'):Laid w':=by
 obtain⟨h1,m,h2⟩:=h;exact⟨h1.below hb,m,(hb.cell (World.block_lt_of_cell? _ _ h2)).trans h2⟩
def zfo:List Nat→Nat
 | []=>0
 | d :: r=>d+B*zfo r
def zkn:AV→Option (List Nat)
 | .nil=>some []
 | .cons (.sc (.int .u64 (.ofNat n))) t=>(zkn t).map (n :: ·)
 | _=>none
def zds:List Nat→Bool
 | []=>true
 | [d]=>Nat.blt d 1000000000 && Nat.blt 0 d
 | d :: r=>Nat.blt d 1000000000 && zds r
theorem zeR{a b:Nat}(h:Nat.blt a b=true):a<b:=Nat.le_of_ble_eq_true h
theorem zgu:∀{l:List Nat},zds l=true→∀d∈l,d<B
 | [],_,d,h=>by cases h
 | [x],h,d,hd=>by
  simp only [zds,Bool.and_eq_true]at h;have:=zeR h.1;rcases List.mem_cons.1 hd with rfl|hd
  ·exact this
  ·cases hd
 | x :: y :: r,h,d,hd=>by
  simp only [zds,Bool.and_eq_true]at h;have:=zeR h.1;rcases List.mem_cons.1 hd with rfl|hd
  ·exact this
  ·exact zgu h.2 d hd
theorem zjo:∀{l:List Nat},(∀d∈l,d<B)→∀(i d:Nat),l[i]? = some d→limb (zfo l) i=d
 | [],_,i,d,h=>by simp at h
 | x :: r,hl,0,d,h=>by
  have h:x=d:=by simpa using h
  subst h;have hx:=hl x (List.mem_cons_self);unfold limb zfo;rw [Nat.pow_zero,Nat.div_one,Nat.add_mul_mod_self_left,Nat.mod_eq_of_lt hx]
 | x :: r,hl,i+1,d,h=>by
  have hx:=hl x (List.mem_cons_self);have ih:=zjo (l:=r) (fun d hd=>hl d (List.mem_cons_of_mem _ hd)) i d (by simpa using h);rw [←ih];unfold limb;congr 1
  show(x+B*zfo r)/B^(i+1)=zfo r/B^i
  rw [Nat.pow_succ,Nat.mul_comm (B^i),←Nat.div_div_eq_div_mul,Nat.add_mul_div_left _ _ (by decide),Nat.div_eq_of_lt hx,Nat.zero_add]
theorem zkg:∀{l:List Nat},(∀d∈l,d<B)→zfo l<B^l.length
 | [],_=>by decide
 | x :: r,hl=>by
  have hx:=hl x (List.mem_cons_self);have ih:=zkg (l:=r) (fun d hd=>hl d (List.mem_cons_of_mem _ hd));show x+B*zfo r<B^(r.length+1)
  have h2:B*(zfo r+1)≤B*B^r.length:=Nat.mul_le_mul_left _ ih;rw [Nat.mul_add,Nat.mul_one]at h2;rw [Nat.pow_succ,Nat.mul_comm (B^r.length) B];omega
theorem zhP:∀{l:List Nat},zds l=true→l ≠ []→B^(l.length-1)≤zfo l
 | [],_,h=>absurd rfl h
 | [x],h,_=>by
  simp only [zds,Bool.and_eq_true]at h;have:=zeR h.2;show B^0≤x+B*0
  rw [Nat.pow_zero];omega
 | x :: y :: r,h,_=>by
  simp only [zds,Bool.and_eq_true]at h;have ih:=zhP (l:=y :: r) h.2 (by simp);show B^(r.length+1)≤x+B*zfo (y :: r)
  have ih:B^r.length≤zfo (y :: r):=ih;have:=Nat.mul_le_mul_left B ih;rw [Nat.pow_succ,Nat.mul_comm];omega
theorem zmA{l:List Nat}(h:zds l=true):zcq (zfo l) l.length:=by
 refine⟨zkg (zgu h),?_⟩;by_cases e:l = []
 ·subst e;exact .inl rfl
 ·exact .inr (zhP h e)
theorem zjr{μ:Mu}:∀{cs:AV} {l:List Nat} {xs:List Value},zkn cs=some l→LR μ cs xs→xs=l.map fun (d:Nat)=>Value.int .u64 (d:Int)
 | .nil,l,xs,h,hx=>by
  have h:some []=some l:=h
  cases h
  have hx:xs = []:=hx;rw [hx];rfl
 | .cons (.sc (.int .u64 (.ofNat n))) t,l,xs,h,hx=>by
  simp only [zkn,Option.map_eq_some_iff]at h;obtain⟨r,h1,rfl⟩:=h;obtain⟨x,ys,rfl,h2,h3⟩:=hx;have h2:x = .int .u64 (n:Int):=h2;rw [h2,zjr h1 h3];rfl
def decF:Nat→Nat→List UInt8→List UInt8
 | 0,_,acc=>acc
 | f+1,n,acc=>bif Nat.blt n 10 then UInt8.ofNat (48+n) :: acc else decF f (n/10) (UInt8.ofNat (48+n%10) :: acc)
theorem zqw:∀(f n:Nat) (acc:List UInt8),n<10^f→0<f→decF f n acc=Lib.decDigits n ++ acc
 | 0,n,acc,_,h=>by omega
 | f+1,n,acc,h,_=>by
  unfold decF
  cases e:Nat.blt n 10 with
  | true=>
   have:=zeR e;rw [Lib.decDigits,dif_pos this];rfl
  | false=>
   have hn:¬n<10:=by
    intro h';have:Nat.blt n 10=true:=Nat.ble_eq_true_of_le h';rw [e]at this;cases this
   have hf:0<f:=by
    rcases Nat.eq_zero_or_pos f with h0|h0
    ·subst h0;simp at h;omega
    ·exact h0
   rw [cond_false,zqw f (n/10) _ (by rw [Nat.pow_succ]at h;omega) hf,Lib.decDigits.eq_def n,dif_neg hn,List.append_assoc];rfl
theorem zrG{n k f:Nat}(h:n<B^k)(hf:9*k≤f)(h0:0<f):decF f n []=Lib.decDigits n:=by
 rw [zqw f n [] (Nat.lt_of_lt_of_le (by rw [←pow9];exact h) (Nat.pow_le_pow_right (by decide) hf)) h0,List.append_nil]
def strA(l:List UInt8):AV:=.sc (.str ⟨⟨l⟩⟩)
def O59(args:AV):Option AV:=
 match args with
 | .cons (.sc (.str s)) (.cons (.sc (.str p)) .nil)=>bif Nat.blt s.data.toList.length 4000000000 then
   some (.tup (.cons (strA (Lib.cut s.data.toList p.data.toList).1) (.cons (strA (Lib.cut s.data.toList p.data.toList).2.1) (.cons (.sc (.bool (Lib.cut s.data.toList p.data.toList).2.2)) .nil))))else none
 | _=>none
def O60(args:AV):Option AV:=
 match args with
 | .cons (.sc (.str s)) (.cons (.sc (.str p)) .nil)=>some (.tup (.cons (strA (Lib.trimPrefix s.data.toList p.data.toList)) (.cons (.sc (.bool (Lib.hasPrefix s.data.toList p.data.toList))) .nil)))
 | _=>none
def O105(args:AV):Option AV:=
 match args with
 | .cons (.sc (.str s)) (.cons (.sc (.str ⟨⟨[c]⟩⟩)) .nil)=>bif Nat.blt s.data.toList.length 4000000000 && Nat.blt c.toNat 128 then some (strA (Lib.trimB s.data.toList c))else none
 | _=>none
def O106(args:AV):Option AV:=
 match args with
 | .cons (.sc (.str s)) r=>bif Nat.blt s.data.toList.length 4000000000 && r.beq (.cons (.sc (.int .i64 10)) (.cons (.sc (.int .i64 64)) .nil))then
   match Lib.parseUintB 64 s.data.toList with
   | .ok u=>some (.tup (.cons (.sc (.int .u64 (u:Int))) (.cons (.sc .nilIface) .nil)))
   | _=>none
  else none
 | _=>none
def O71(args:AV)(H:AH):Option AV:=
 match args with
 | .cons (.sc .nilSlice) .nil=>some (strA [48])
 | .cons (.slc i o len _ _ e) .nil=>bif Nat.beq e 1 then
   match H.cellsAt i o len with
   | some cs=>match zkn cs with
    | some l=>bif zds l && Nat.ble l.length 1000 then some (strA (decF 9000 (zfo l) []))else none
    | none=>none
   | none=>none
  else none
 | _=>none
def OA(f:FuncId)(args:AV)(H:AH):Option (AV × AH):=
 (bif Nat.beq f 59 then O59 args else bif Nat.beq f 60 then O60 args else bif Nat.beq f 105 then O105 args else bif Nat.beq f 106 then O106 args else bif Nat.beq f 71 then O71 args H else none).map fun v=>(v,H)
theorem zg3(w:World)(s:ByteArray):Below w.heap.size w (Lib.bytesWorld w 5 s):=
 ⟨rfl,rfl,rfl,by rw [Lib.bytesWorld_size];omega,fun k hk=>Lib.bytesWorld_at_old w 5 s k hk⟩
theorem zd4{f:FuncId}(h:(match Tryz.prog.funcs[f]? with|some fn=>fn.body.isSome|none=>false)=true):∃fn:Func,Tryz.prog.funcs[f]? = some fn∧fn.body.isSome=true:=by
 split at h
 ·rename_i fn e;exact⟨fn,e,h⟩
 ·cases h
theorem zmz{μ:Mu}{a:AV}{xs:List Value}(h:LR μ (.cons a .nil) xs):∃x,xs = [x]∧VR μ a x:=by
 obtain⟨x,r,rfl,h1,h2⟩:=h;have h2:r = []:=h2;subst h2;exact⟨x,rfl,h1⟩
theorem zjT{μ:Mu}{a b:AV}{xs:List Value}(h:LR μ (.cons a (.cons b .nil)) xs):∃x y,xs = [x,y]∧VR μ a x∧VR μ b y:=by
 obtain⟨x,r,rfl,h1,h2⟩:=h;obtain⟨y,rfl,h3⟩:=zmz h2;exact⟨x,y,rfl,h1,h3⟩
theorem zjK{xs:Array Value}{l:List Value}(h:xs.toList=l):xs=l.toArray:=Array.toList_inj.1 (by simpa using h)
theorem zng{μ:Mu}{cs:AV}{l:List Value}(h:LR μ cs l):VR μ (.tup cs) (.tuple l.toArray):=⟨l.toArray,rfl,h⟩
theorem zsL{w0:World}{G:Sett}(hL:Laid w0):zgO Tryz.prog w0.heap.size w0 G OA:=by
 refine zr7 ?_;intro f args H v H' ho;unfold OA at ho;rw [Option.map_eq_some_iff]at ho;obtain⟨v',ho,e⟩:=ho
 cases e
 cases h59:Nat.beq f 59 with
 | true=>
  rw [h59]at ho;have hf:=(zam _ _).1 h59;subst hf;refine⟨zd4 (by kernel_rfl),rfl,?_⟩;intro μ w xs hrep hxs;simp only [cond_true]at ho;unfold O59 at ho;split at ho
  ·rename_i s p
   cases hb:Nat.blt s.data.toList.length 4000000000 with
   | false=>rw [hb]at ho;cases ho
   | true=>
    rw [hb]at ho
    cases ho
    have hsz:=zeR hb;obtain⟨x,y,e,h1,h2⟩:=zjT hxs;have h1:x = .string s:=h1;have h2:y = .string p:=h2;subst h1;subst h2;rw [zjK e];obtain⟨m,hm⟩:=(hL.below hrep.below).len;refine(Tryz.strings_Cut s p m w (by rw [Lib.size_eq];omega) hm).mono ?_;rintro e w' ⟨rfl,n,rfl⟩;exact⟨_,rfl,zng (LR.cons rfl (LR.cons rfl (LR.cons rfl LR.nil))),zbh _ _⟩
  ·cases ho
 | false=>
 rw [h59]at ho;simp only [cond_false]at ho
 cases h60:Nat.beq f 60 with
 | true=>
  rw [h60]at ho;have hf:=(zam _ _).1 h60;subst hf;refine⟨zd4 (by kernel_rfl),rfl,?_⟩;intro μ w xs hrep hxs;simp only [cond_true]at ho;unfold O60 at ho;split at ho
  ·rename_i s p
   cases ho
   obtain⟨x,y,e,h1,h2⟩:=zjT hxs;have h1:x = .string s:=h1;have h2:y = .string p:=h2;subst h1;subst h2;rw [zjK e];refine(Tryz.strings_CutPrefix s p w).mono ?_;rintro e w' ⟨rfl,rfl⟩;exact⟨_,rfl,zng (LR.cons rfl (LR.cons rfl LR.nil)),Below.refl _ _⟩
  ·cases ho
 | false=>
 rw [h60]at ho;simp only [cond_false]at ho
 cases h105:Nat.beq f 105 with
 | true=>
  rw [h105]at ho;have hf:=(zam _ _).1 h105;subst hf;refine⟨zd4 (by kernel_rfl),rfl,?_⟩;intro μ w xs hrep hxs;simp only [cond_true]at ho;unfold O105 at ho;split at ho
  ·rename_i s c
   cases hb:Nat.blt s.data.toList.length 4000000000 && Nat.blt c.toNat 128 with
   | false=>rw [hb]at ho;cases ho
   | true=>
    rw [hb]at ho
    cases ho
    rw [Bool.and_eq_true]at hb;have hsz:=zeR hb.1;have hc:=zeR hb.2;obtain⟨x,y,e,h1,h2⟩:=zjT hxs;have h1:x = .string s:=h1;have h2:y = .string ⟨⟨[c]⟩⟩:=h2;subst h1;subst h2;rw [zjK e];refine(Tryz.strings_Trim_one s c hc w (by rw [Lib.size_eq];omega)).mono ?_;rintro e w' ⟨rfl,rfl|rfl⟩
    ·exact⟨_,rfl,rfl,Below.refl _ _⟩
    ·exact⟨_,rfl,rfl,zab _⟩
  ·cases ho
 | false=>
 rw [h105]at ho;simp only [cond_false]at ho
 cases h106:Nat.beq f 106 with
 | true=>
  rw [h106]at ho;have hf:=(zam _ _).1 h106;subst hf;refine⟨zd4 (by kernel_rfl),rfl,?_⟩;intro μ w xs hrep hxs;simp only [cond_true]at ho;unfold O106 at ho;split at ho
  ·rename_i s r
   cases hb:Nat.blt s.data.toList.length 4000000000 && r.beq (.cons (.sc (.int .i64 10)) (.cons (.sc (.int .i64 64)) .nil))with
   | false=>rw [hb]at ho;cases ho
   | true=>
    rw [hb]at ho;simp only [cond_true]at ho;rw [Bool.and_eq_true]at hb;have hsz:=zeR hb.1;have hr:=AV.beq_eq hb.2;subst hr;split at ho
    ·rename_i u hu
     cases ho
     obtain⟨x,ys,e,h1,h2⟩:=hxs;obtain⟨y,z,rfl,h3,h4⟩:=zjT h2;have h1:x = .string s:=h1;have h3:y = .int .i64 10:=h3;have h4:z = .int .i64 64:=h4;subst h1;subst h3;subst h4;rw [zjK e];refine(Tryz.strconv_ParseUint_10_at64_ok s (by rw [Lib.size_eq];omega) u hu w).mono ?_;rintro e w' ⟨rfl,rfl|rfl⟩
     ·exact⟨_,rfl,zng (LR.cons rfl (LR.cons rfl LR.nil)),Below.refl _ _⟩
     ·exact⟨_,rfl,zng (LR.cons rfl (LR.cons rfl LR.nil)),zg3 _ _⟩
    ·cases ho
  ·cases ho
 | false=>
 rw [h106]at ho;simp only [cond_false]at ho
 cases h71:Nat.beq f 71 with
 | false=>rw [h71]at ho;cases ho
 | true=>
  rw [h71]at ho;have hf:=(zam _ _).1 h71;subst hf;refine⟨zd4 (by kernel_rfl),rfl,?_⟩;intro μ w xs hrep hxs;simp only [cond_true]at ho;unfold O71 at ho;have hP:=(hL.below hrep.below).pow;split at ho
  ·cases ho
   obtain⟨x,e,h1⟩:=zmz hxs;have h1:x = .slice none 0 0:=h1;subst h1;rw [zjK e];refine(callsIn_wide.1 (zeC w _ 0 0 zbA ⟨none,0,rfl,fun h=>by omega⟩ (zau 100000) hP)).mono ?_;rintro e w' ⟨rfl,hB⟩;refine⟨_,rfl,?_,hB⟩;show _=Value.string _
   rw [Lib.decDigits,dif_pos (by decide)];rfl
  ·rename_i i o len cm ex e
   cases hb:Nat.beq e 1 with
   | false=>rw [hb]at ho;cases ho
   | true=>
    rw [hb]at ho;simp only [cond_true]at ho;have he:=(zam _ _).1 hb;subst he;split at ho
    ·rename_i cs hcs;split at ho
     ·rename_i l hl
      cases hb:zds l && Nat.ble l.length 1000 with
      | false=>rw [hb]at ho;cases ho
      | true=>
       rw [hb]at ho
       cases ho
       rw [Bool.and_eq_true]at hb;have hlen:=Nat.le_of_ble_eq_true hb.2;obtain⟨x,e,b,N,c,hm,rfl,_,_,_,_⟩:=zmz hxs;rw [zjK e];obtain⟨xs2,h1,h2,h3⟩:=hrep.load hcs hm;have hxl:=zjr hl h2;have hll:l.length=len:=by rw [←h1,hxl,List.length_map]
       have hlt:=zgu hb.1;have hN:zfo l<B^1000:=zaV 1000 (zkg hlt) hlen;refine(callsIn_wide.1 (zeC w _ (zfo l) len (hll ▸ zmA hb.1) ⟨_,c,rfl,fun hk=>⟨⟨b,o,none⟩,rfl,(hrep.dom i b N hm).2,fun j hj => ?_⟩⟩ (zaV 100000 hN (by decide)) hP)).mono ?_
       ·obtain⟨d,hd⟩:∃d,l[j]? = some d:=⟨_,List.getElem?_eq_getElem (by omega)⟩;rw [zjo hlt j d hd];exact h3 j _ (by rw [hxl,List.getElem?_map,hd];rfl)
       ·rintro e w' ⟨rfl,hB⟩;refine⟨_,rfl,?_,hB⟩;show _=Value.string _
        rw [zrG (k:=1000) hN (by decide) (by decide)]
     ·cases ho
    ·cases ho
  ·cases ho
theorem zhw:zd9 Tryz.prog 109:=by
 refine⟨zd4 (by kernel_rfl),fun args w => ?_⟩;refine CallsDIn.mono (callsDIn_of_wpSIn (R:=fun e u' w'=>e = .returned (.tuple #[])∧u' = .returning∧w'=w) Tryz.func109 rfl trivial fun c₀ cs hu => ?_) ?_
 ·obtain⟨T,hT⟩:∃T,args ++ Array.replicate (Tryz.f109.ntmps-args.size) undef=T:=⟨_,rfl⟩;have hsz:18≤T.size:=by
   rw [←hT];have:Tryz.f109.ntmps=18:=rfl;rw [this];simp
   omega
  rw [hT];clear hT;apply wpSIn_seq
  apply wpSIn_region
  have s6:6<T.size:=by omega
  have s2:2<T.size:=by omega
  have s7:7<T.size:=by omega
  have s8:8<T.size:=by omega
  simp [wpOpsSIn,go_sem,recoverD,hu,Exit.thenS,s6]
  apply wpSIn_seq
  apply wpSIn_region
  simp [wpOpsSIn,go_sem,Exit.thenS,s2,s7]
  refine wpSIn_cond (t:=false) (by simp [Act.eval,s8]) ?_;simp only [Bool.false_eq_true,if_false];refine wpSIn_of_wpIn rfl (wpIn_skip ?_)
  cases c₀
  simp_all [bodyPostS,results]
 ·rintro e u' w' ⟨rfl,rfl,rfl⟩;exact⟨⟨_,rfl⟩,rfl,rfl,Below.refl _ _⟩
theorem zk3:zd9 Tryz.prog 120:=by
 refine⟨zd4 (by kernel_rfl),fun args w => ?_⟩;refine CallsDIn.mono (callsDIn_of_wpSIn (R:=fun e u' w'=>e = .returned (.tuple #[])∧u' = .returning∧w'=w) Tryz.func120 rfl trivial fun c₀ cs hu => ?_) ?_
 ·obtain⟨T,hT⟩:∃T,args ++ Array.replicate (Tryz.f120.ntmps-args.size) undef=T:=⟨_,rfl⟩;have hsz:18≤T.size:=by
   rw [←hT];have:Tryz.f120.ntmps=18:=rfl;rw [this];simp
   omega
  rw [hT];clear hT;apply wpSIn_seq
  apply wpSIn_region
  have s6:6<T.size:=by omega
  have s2:2<T.size:=by omega
  have s7:7<T.size:=by omega
  have s8:8<T.size:=by omega
  simp [wpOpsSIn,go_sem,recoverD,hu,Exit.thenS,s6]
  apply wpSIn_seq
  apply wpSIn_region
  simp [wpOpsSIn,go_sem,Exit.thenS,s2,s7]
  refine wpSIn_cond (t:=false) (by simp [Act.eval,s8]) ?_;simp only [Bool.false_eq_true,if_false];refine wpSIn_of_wpIn rfl (wpIn_skip ?_)
  cases c₀
  simp_all [bodyPostS,results]
 ·rintro e u' w' ⟨rfl,rfl,rfl⟩;exact⟨⟨_,rfl⟩,rfl,rfl,Below.refl _ _⟩
theorem zpt:zd9 Tryz.prog 125:=by
 refine⟨zd4 (by kernel_rfl),fun args w => ?_⟩;refine CallsDIn.mono (callsDIn_of_wpSIn (R:=fun e u' w'=>e = .returned (.tuple #[])∧u' = .returning∧w'=w) Tryz.func125 rfl trivial fun c₀ cs hu => ?_) ?_
 ·obtain⟨T,hT⟩:∃T,args ++ Array.replicate (Tryz.f125.ntmps-args.size) undef=T:=⟨_,rfl⟩;have hsz:18≤T.size:=by
   rw [←hT];have:Tryz.f125.ntmps=18:=rfl;rw [this];simp
   omega
  rw [hT];clear hT;apply wpSIn_seq
  apply wpSIn_region
  have s6:6<T.size:=by omega
  have s2:2<T.size:=by omega
  have s7:7<T.size:=by omega
  have s8:8<T.size:=by omega
  simp [wpOpsSIn,go_sem,recoverD,hu,Exit.thenS,s6]
  apply wpSIn_seq
  apply wpSIn_region
  simp [wpOpsSIn,go_sem,Exit.thenS,s2,s7]
  refine wpSIn_cond (t:=false) (by simp [Act.eval,s8]) ?_;simp only [Bool.false_eq_true,if_false];refine wpSIn_of_wpIn rfl (wpIn_skip ?_)
  cases c₀
  simp_all [bodyPostS,results]
 ·rintro e u' w' ⟨rfl,rfl,rfl⟩;exact⟨⟨_,rfl⟩,rfl,rfl,Below.refl _ _⟩
theorem zk2:zd9 Tryz.prog 137:=by
 refine⟨zd4 (by kernel_rfl),fun args w => ?_⟩;refine CallsDIn.mono (callsDIn_of_wpSIn (R:=fun e u' w'=>e = .returned (.tuple #[])∧u' = .returning∧w'=w) Tryz.func137 rfl trivial fun c₀ cs hu => ?_) ?_
 ·obtain⟨T,hT⟩:∃T,args ++ Array.replicate (Tryz.f137.ntmps-args.size) undef=T:=⟨_,rfl⟩;have hsz:18≤T.size:=by
   rw [←hT];have:Tryz.f137.ntmps=18:=rfl;rw [this];simp
   omega
  rw [hT];clear hT;apply wpSIn_seq
  apply wpSIn_region
  have s6:6<T.size:=by omega
  have s2:2<T.size:=by omega
  have s7:7<T.size:=by omega
  have s8:8<T.size:=by omega
  simp [wpOpsSIn,go_sem,recoverD,hu,Exit.thenS,s6]
  apply wpSIn_seq
  apply wpSIn_region
  simp [wpOpsSIn,go_sem,Exit.thenS,s2,s7]
  refine wpSIn_cond (t:=false) (by simp [Act.eval,s8]) ?_;simp only [Bool.false_eq_true,if_false];refine wpSIn_of_wpIn rfl (wpIn_skip ?_)
  cases c₀
  simp_all [bodyPostS,results]
 ·rintro e u' w' ⟨rfl,rfl,rfl⟩;exact⟨⟨_,rfl⟩,rfl,rfl,Below.refl _ _⟩
def zqf:Option (AV × AH)→Bool
 | some (.sc (.bool true),_)=>true
 | _=>false
theorem zqL:zqf ((cb Tryz.prog [] OA [109,120,125,137] 3000).call 14 .nil (bare []))=true:=by kernel_rfl
theorem zqe{r:Option (AV × AH)}(h:zqf r=true):∃H,r=some (.sc (.bool true),H):=by
 unfold zqf at h;split at h
 ·exact⟨_,rfl⟩
 ·cases h
theorem zps:∀g ∈ [109,120,125,137],zd9 Tryz.prog g:=by
 intro g hg;simp at hg
 rcases hg with rfl|rfl|rfl|rfl
 ·exact zhw
 ·exact zk3
 ·exact zpt
 ·exact zk2
theorem zm7{w:World}(h:Laid w):Calls Tryz.prog 14 #[] w fun e w'=>e = .returned (.bool true)∧Below w.heap.size w w':=by
 obtain⟨H',hr⟩:=zqe zqL;refine(zeP (G:=zsV) zaq zai (zsL h) zps hr (zob rfl w) (by rfl)).mono ?_;rintro e w' ⟨x,μ',rfl,_,hx,hrep⟩;have hx':x = .bool true:=hx;exact⟨by rw [hx'],hrep.below⟩
theorem zfe{w:World}(h:Laid w):ztq w:=fun _w' hb=>callsIn_wide.2 (zm7 (h.below hb))
end Go.Num
namespace Go.Num
open Go.ChangeShapes Go.WideShapes Go.ChangeAt Go.RowKit Go.Eng Go.Proofs Go.Proofs.YtoamcgjbelhnkaaGreatDoor
section
variable {H:Type} {enc:TypeId × Value→H} {P:Program}
theorem zj9{f:Func}{s:ChangeSpec}{apart fresh handsOn again:Bool}{W W':World}{args:Array Value}{v:Value}{ds gs:List (DataW H)}{before pa pv:List MemPlace}
  (hW:DataW.Whole enc P f.params.toList s.vars apart W args.toList ds gs before)
  (hres:∀(b:Nat) (sp:Nat→Bool) (hd:Bool),DataW.TrodAll enc P W' b sp hd f.resultTypes.toList (v.resultList f.resultTypes.size) (s.fn H (ds ++ gs)).results [])
  (hargs:∀sp:Nat→Bool,(∀p∈before,sp p.block=true)→DataW.TrodAll enc P W' 0 sp true f.params.toList args.toList (s.fn H (ds ++ gs)).args pa)
  (hvars:∀sp:Nat→Bool,(∀p∈before,sp p.block=true)→DataW.TrodVars enc P W' sp s.vars (s.fn H (ds ++ gs)).vars pv)
  (hps:before=pa ++ pv) (hb:Below W.heap.size W W')
  (hok:∀(j:Nat) (t:TypeId) (r:Value),f.resultTypes[j]? = some t→(v.resultList f.resultTypes.size)[j]? = some r→Value.okWide P W' .any 0 t r) :
  s.post enc P f apart fresh handsOn again W args v W':=by
 have hold:∀p∈before,(fun b=>decide (b<W.heap.size)) p.block=true:=fun p hp=>by simpa using hW.lt p hp
 have hlt:=hW.lt;refine⟨ds,gs,before,[],pa,pv,hW,hres _ _ _,hargs _ hold,hvars _ hold,World.keptBut_mono (fun p hp=>⟨hp,?_⟩) (hb.frame (· ∈ before)),fun _ => ?_⟩
 ·rw [hps,List.mem_append]at hp;exact Or.inr hp
 ·obtain⟨_,_,_,_,_,hz,hn⟩:=hW;refine⟨hok,_,_,([] ++ pa) ++ pv,⟨[] ++ pa,pv,trodAll_append (hargs _ (fun _ _=>rfl)) (hres _ _ _),hvars _ (fun _ _=>rfl),rfl,?_,?_⟩,?_⟩
  ·intro b off hp;have hp':MemPlace.cell b off∈before:=by rw [hps];simpa using hp
   rw [hb.frozen (hlt _ hp')];exact hz b off hp'
  ·intro ha;have:=hn ha;rw [hps]at this;simpa using this
  ·intro p hp _;rw [hps];simpa using hp
end
theorem own:ownKnob Tryz.prog.godebug=none:=by kernel_rfl
theorem zsn:laidOutB Tryz.prog=true:=by kernel_rfl
theorem gPow:Tryz.prog.globalNamed "internal/strconv.uint64pow10" = some 3:=by kernel_rfl
theorem ztm:(Tryz.prog.globals[3]?).map (·.type)=some 226:=by kernel_rfl
theorem u226:Tryz.prog.underlying 226=some (.array 20 111):=by kernel_rfl
theorem u111:Tryz.prog.underlying 111=some (.int .u64):=by kernel_rfl
theorem zrK:Tryz.prog.cellsOf 111=1:=by kernel_rfl
theorem zrJ:Tryz.prog.cellsOf 226=20:=by kernel_rfl
theorem zsl{l:List (String × DataW Unit)}{a b:String × DataW Unit}{r:List (String × DataW Unit)}{W:World}(e:l=a :: b :: ("internal/strconv.uint64pow10",Lib.tabData .u64 Lib.pow10Tab) :: r)(hf:(l.filter fun x=>x.2.handleName?.isSome) = [])(h:laidMetH Tryz.prog l W)(hs:W.ShapedOpen Tryz.prog):Laid W:=by
 unfold laidMetH at h;rw [hf]at h;have h:laidMet Tryz.prog l W:=h;rw [e]at h;exact⟨Lib.tabIs_of_head gPow ztm u226 u111 zrK zrJ h.tail.tail,Tryz.laysM219.s1_3 W hs⟩
theorem zl1{H:Type}{enc:TypeId × Value→H}{W W':World}{sp:Nat→Bool}(hl:laidOutB Tryz.prog=true):∀{ts:List TypeId} {vs:List Value} {ds:List (DataW H)} {ps:List MemPlace},
  (∀t∈ts,Tryz.prog.readableRec t=true∧t<Tryz.prog.types.size)→DataW.TrodAll enc Tryz.prog W 0 (fun _=>true) true ts vs ds ps→(∀p∈ps,W.sameAt W' p)→(∀p∈ps,sp p.block=true)→DataW.TrodAll enc Tryz.prog W' 0 sp true ts vs ds ps
 | [],vs,ds,ps,_,h,_,_=>by
  obtain⟨rfl,rfl,rfl⟩:=trodAll_nil h;exact trodAll_mk0
 | t :: ts,vs,ds,ps,hr,h,h1,h2=>by
  obtain⟨v,vs',d,ds',p,q,rfl,rfl,rfl,hd,hrest⟩:=trodAll_cons h;exact⟨p,q,WideElems.Trod_stays hl (hr t (by simp)).1 (hr t (by simp)).2 hd (fun x hx=>h1 x (by simp [hx])) (fun x hx=>h2 x (by simp [hx])),
   zl1 hl (fun t' ht'=>hr t' (by simp [ht'])) hrest (fun x hx=>h1 x (by simp [hx])) (fun x hx=>h2 x (by simp [hx])),rfl⟩
def db64:List Int:=[0,1,56,2,57,49,28,3,61,58,42,50,38,29,17,4,62,47,59,36,45,43,51,22,53,39,33,30,24,18,12,5,63,55,48,27,60,41,37,16,46,35,44,21,52,32,23,11,54,26,40,15,34,20,31,10,25,14,19,9,13,8,7,6]
def db32:List Int:=[0,1,28,2,29,14,24,3,30,22,20,15,25,17,4,8,31,27,13,23,21,19,16,7,26,12,18,6,11,5,10,9]
def ztp:List Nat:=[128,191,160,191,128,159,144,191,128,143] ++ List.replicate 22 0
noncomputable def zd3(cs:Array Value):Obj→Obj
 | .cells _ t frozen => .cells cs t frozen
 | o=>o
noncomputable def zhW(os:Os):World:=
 let w:=World.holding Tryz.prog os ⟨#[],#[],[]⟩
 let i:=w.heap.size
 let w:=(w.alloc (.cells #[.string ⟨#[105,110,118,97,108,105,100,32,115,121,110,116,97,120]⟩] 238)).alloc (.cells #[.string ⟨#[118,97,108,117,101,32,111,117,116,32,111,102,32,114,97,110,103,101]⟩] 238)
 {w with heap:=(((((((w.heap.modify 1 (zd3 #[.iface 236 (.pointer (some ⟨i,0,none⟩))])).modify 2 (zd3 #[.iface 236 (.pointer (some ⟨i+1,0,none⟩))])).modify 3 (zd3 (Lib.pow10Tab.map (Value.int .u64)).toArray)).modify 4 (zd3 (Pinned.utf8FirstZ.map fun (n:Nat)=>Value.int .u8 (n:Int)).toArray)).modify 5 (zd3 (ztp.map fun (n:Nat)=>Value.int .u8 (n:Int)).toArray)).modify 6 (zd3 (db32.map (Value.int .u8)).toArray)).modify 7 (zd3 (db64.map (Value.int .u8)).toArray))}
end Go.Num
namespace Go.Num
open Go.Lib
def zaY(b:UInt8):Bool:=decide (48≤b.toNat∧b.toNat≤57)
def zad(l:List UInt8):Nat:=l.foldl (fun a b=>10*a+(b.toNat-48)) 0
theorem zqm(l:List UInt8):∀a:Nat,l.foldl (fun a b=>10*a+(b.toNat-48)) a=a*10^l.length+zad l:=by
 induction l with
 | nil=>intro a;simp [zad]
 | cons b r ih=>
  intro a;show r.foldl _ (10*a+(b.toNat-48))=_
  have e:zad (b :: r)=(b.toNat-48)*10^r.length+zad r:=by
   show r.foldl _ (10*0+(b.toNat-48))=_
   rw [ih,Nat.mul_zero,Nat.zero_add]
  rw [ih,e,List.length_cons,Nat.pow_succ,Nat.add_mul,Nat.add_assoc,Nat.mul_comm 10 a,Nat.mul_assoc,Nat.mul_comm 10]
theorem zc3(a b:List UInt8):zad (a ++ b)=zad a*10^b.length+zad b:=by
 show(a ++ b).foldl _ 0=_
 rw [List.foldl_append,zqm];rfl
theorem zbT(b:UInt8):zad [b]=b.toNat-48:=by simp [zad]
theorem zfA(b:UInt8)(r:List UInt8):zad (b :: r)=(b.toNat-48)*10^r.length+zad r:=by
 have:=zc3 [b] r;rw [zbT]at this;exact this
theorem zfz(a:List UInt8)(b:UInt8):zad (a ++ [b])=zad a*10+(b.toNat-48):=by
 rw [zc3,zbT];simp
theorem zhe{b:UInt8}(h:zaY b=true):b.toNat-48<10:=by
 have:=of_decide_eq_true h;omega
theorem zdN{l:List UInt8}(h:l.all zaY=true):zad l<10^l.length:=by
 induction l with
 | nil=>simp [zad]
 | cons b r ih=>
  simp only [List.all_cons,Bool.and_eq_true]at h;have h1:=zhe h.1;have h2:=ih h.2;have e:zad (b :: r)=(b.toNat-48)*10^r.length+zad r:=zfA b r;rw [e,List.length_cons,Nat.pow_succ,Nat.mul_comm _ 10];have:(b.toNat-48)*10^r.length≤9*10^r.length:=Nat.mul_le_mul_right _ (by omega);omega
theorem zkH{l:List UInt8}(h:l.all zaY=true)(m:Nat):(l.take m).all zaY=true:=by
 rw [List.all_eq_true]at h ⊢;exact fun x hx=>h x (List.mem_of_mem_take hx)
theorem zkI{l:List UInt8}(h:l.all zaY=true)(m:Nat):(l.drop m).all zaY=true:=by
 rw [List.all_eq_true]at h ⊢;exact fun x hx=>h x (List.mem_of_mem_drop hx)
theorem zfy{l:List UInt8}(h:l.all zaY=true)(m:Nat):zad (l.take m)=zad l/10^(l.length-m):=by
 have e:zad l=zad (l.take m)*10^(l.length-m)+zad (l.drop m):=by
  have:=zc3 (l.take m) (l.drop m);rw [List.take_append_drop,List.length_drop]at this;exact this
 have h2:=zdN (zkI h m);rw [List.length_drop]at h2;rw [e,Nat.mul_comm,Nat.mul_add_div (Nat.pow_pos (by decide)),Nat.div_eq_of_lt h2,Nat.add_zero]
theorem zmY{l:List UInt8}(h:l.all zaY=true)(m:Nat):zad (l.drop m)=zad l%10^(l.length-m):=by
 have e:zad l=zad (l.take m)*10^(l.length-m)+zad (l.drop m):=by
  have:=zc3 (l.take m) (l.drop m);rw [List.take_append_drop,List.length_drop]at this;exact this
 have h2:=zdN (zkI h m);rw [List.length_drop]at h2;rw [e,Nat.mul_comm,Nat.mul_add_mod,Nat.mod_eq_of_lt h2]
def zbj(l:List UInt8):Bool:=!l.isEmpty && (l == [48] || !(l.head? == some 48)) && l.all zaY
theorem zjH{b:UInt8}(h:zaY b=true):UInt8.ofNat (48+(b.toNat-48))=b:=by
 have:=of_decide_eq_true h;rw [show 48+(b.toNat-48)=b.toNat by omega];exact UInt8.ofNat_toNat
theorem zdL{d:Nat}(h:d<10):(UInt8.ofNat (48+d)).toNat=48+d:=by
 rw [UInt8.toNat_ofNat'];omega
theorem zbM{l:List UInt8}(h:zbj l=true):l.all zaY=true:=by
 unfold zbj at h;simp only [Bool.and_eq_true]at h;exact h.2
theorem zrL{l:List UInt8}(h:zbj l=true):l ≠ []:=by
 rintro rfl;simp [zbj]at h
theorem zoY:∀{l:List UInt8} {b:UInt8},(b :: l).all zaY=true→b≠48→0<zad (b :: l):=by
 intro l b h hb;have e:zad (b :: l)=(b.toNat-48)*10^l.length+zad l:=zfA b l;simp only [List.all_cons,Bool.and_eq_true]at h;have h1:=of_decide_eq_true h.1;have:b.toNat≠48:=fun e=>hb (UInt8.toNat_inj.1 e)
 have h2:0<10^l.length:=Nat.pow_pos (by decide);have:1*10^l.length≤(b.toNat-48)*10^l.length:=Nat.mul_le_mul_right _ (by omega);omega
theorem zgd:∀(n:Nat) (l:List UInt8),l.length=n+1→l.all zaY=true→(n=0∨l.head? ≠ some 48)→decDigits (zad l)=l
 | 0,l,hn,hd,_=>by
  match l,hn with
  | [b],_=>
   simp only [List.all_cons,List.all_nil,Bool.and_true]at hd;have h1:=zhe hd;rw [zbT,decDigits,dif_pos h1,zjH hd]
 | n+1,l,hn,hd,hh=>by
  obtain⟨a,b,rfl⟩:∃a b,l=a ++ [b]:=by
   have hne:l ≠ []:=by rintro rfl;simp at hn
   exact⟨l.dropLast,l.getLast hne,(List.dropLast_concat_getLast hne).symm⟩
  rw [List.length_append,List.length_singleton]at hn;rw [List.all_append,Bool.and_eq_true]at hd;have hb:zaY b=true:=by have:=hd.2;simpa using this
  have h1:=zhe hb;have hah:a.head? ≠ some 48:=by
   rcases hh with hh|hh
   ·omega
   ·intro e;apply hh
    cases a with
    | nil=>simp at e
    | cons c r=>simpa using e
  have hpos:0<zad a:=by
   cases a with
   | nil=>simp at hn
   | cons c r=>exact zoY hd.1 (fun e=>hah (by simp [e]))
  rw [zfz,decDigits,dif_neg (by omega),show(zad a*10+(b.toNat-48))/10=zad a by omega,show(zad a*10+(b.toNat-48))%10=b.toNat-48 by omega,zjH hb];rw [zgd n a (by omega) hd.1 (.inr hah)]
theorem zlT{l:List UInt8}(h:zbj l=true):decDigits (zad l)=l:=by
 have hd:=zbM h;have hn:=zrL h;obtain⟨n,hl⟩:∃n,l.length=n+1:=by
  cases l with
  | nil=>exact absurd rfl hn
  | cons a r=>exact⟨r.length,rfl⟩
 refine zgd n l hl hd ?_;unfold zbj at h;simp only [Bool.and_eq_true,Bool.or_eq_true]at h;rcases h.1.2 with h|h
 ·left;have:l = [48]:=by simpa using h
  rw [this]at hl;simp at hl;omega
 ·right;intro e;rw [e]at h;simp at h
theorem zmX(u:Nat):(decDigits u).all zaY=true:=by
 induction u using Nat.strongRecOn with
 | _ u ih=>
  rw [decDigits];split
  ·rename_i h;simp only [List.all_cons,List.all_nil,Bool.and_true,zaY,zdL h];exact decide_eq_true (by omega)
  ·rename_i h;rw [List.all_append,ih (u/10) (by omega)];simp only [List.all_cons,List.all_nil,Bool.and_true,Bool.true_and,zaY,zdL (show u%10<10 by omega)];exact decide_eq_true (by omega)
theorem zjR(u:Nat):zad (decDigits u)=u:=by
 induction u using Nat.strongRecOn with
 | _ u ih=>
  rw [decDigits];split
  ·rename_i h;rw [zbT,zdL h];omega
  ·rename_i h;rw [zfz,ih (u/10) (by omega),zdL (by omega)];omega
theorem zr0(u:Nat):decDigits u ≠ []:=by
 intro h;have:=decDigits_length u;rw [h]at this;have:=nDigits_pos u;simp at *
 omega
theorem zrF(u:Nat)(h:0<u):(decDigits u).head? ≠ some 48:=by
 induction u using Nat.strongRecOn with
 | _ u ih=>
  rw [decDigits];split
  ·rename_i h10;intro e;have e:UInt8.ofNat (48+u)=48:=by simpa using e
   have:=zdL h10;rw [e]at this;have:(48:Nat)=48+u:=this;omega
  ·rename_i h10;have:=ih (u/10) (by omega) (by omega);intro e;apply this
   cases hc:decDigits (u/10)with
   | nil=>exact absurd hc (zr0 _)
   | cons c r=>rw [hc]at e;simpa using e
theorem zio(u:Nat):zbj (decDigits u)=true:=by
 unfold zbj;simp only [Bool.and_eq_true,Bool.or_eq_true];refine⟨⟨?_,?_⟩,zmX u⟩
 ·cases hc:decDigits u with
  | nil=>exact absurd hc (zr0 _)
  | cons c r=>rfl
 ·rcases Nat.eq_zero_or_pos u with rfl|h
  ·left;rw [decDigits];rfl
  ·right;have:=zrF u h
   cases hc:(decDigits u).head? with
   | none=>rfl
   | some c=>
    rw [hc]at this;have hne:c≠48:=fun e=>this (by rw [e])
    simp [hne]
theorem zid:∀(l:List UInt8) (acc:Nat),l.all zaY=true→decFrom acc l=some (acc*10^l.length+zad l)
 | [],acc,_=>by simp [decFrom,zad]
 | b :: r,acc,h=>by
  simp only [List.all_cons,Bool.and_eq_true]at h;have h1:=of_decide_eq_true h.1;have e:zad (b :: r)=(b.toNat-48)*10^r.length+zad r:=zfA b r;unfold decFrom digitVal;rw [if_pos h1];show decFrom (acc*10+(b.toNat-48)) r=_
  rw [zid r _ h.2,e,List.length_cons,Nat.pow_succ,Nat.add_mul,Nat.add_assoc,Nat.mul_assoc,Nat.mul_comm 10]
theorem zmw{l:List UInt8}(h:l.all zaY=true)(hn:l ≠ [])(h9:l.length≤9):parseUintB 64 l = .ok (zad l):=by
 rw [parseUintB_64];unfold parseMag;rw [if_neg hn,parseUint10_short l 0 0 (by decide) (by omega),zid l 0 h,Nat.zero_mul,Nat.zero_add];rfl
def zav(l:List UInt8):Nat:=(l.takeWhile (fun b => !(b == 47))).length
theorem znq(l:List UInt8):zav l≤l.length:=(List.takeWhile_sublist _).length_le
theorem zoo(l:List UInt8):l.take (zav l)=l.takeWhile (fun b => !(b == 47)):=by
 unfold zav;induction l with
 | nil=>rfl
 | cons b r ih=>
  rw [List.takeWhile_cons];split
  ·simp only [zts,List.take_succ_cons,ih]
  ·simp
theorem zgR(l:List UInt8){i:Nat}(h:i<zav l):l[i]? ≠ some 47:=by
 have h1:(l.take (zav l))[i]? = l[i]?:=by rw [List.getElem?_take,if_pos h]
 rw [zoo]at h1;intro e;rw [e]at h1;have hm:=List.mem_of_getElem? h1;have:=(List.all_eq_true.1 (List.all_takeWhile (p:=fun b:UInt8 => !(b == 47)) (l:=l))) _ hm;simp at this
theorem zjY(l:List UInt8)(h:zav l<l.length):l[zav l]? = some 47:=by
 unfold zav at *;induction l with
 | nil=>simp at h
 | cons b r ih=>
  rw [List.takeWhile_cons]at h ⊢;split
  ·rename_i hb;rw [if_pos hb]at h;simp only [zts,List.getElem?_cons_succ]at h ⊢;exact ih (by omega)
  ·rename_i hb;have hb':b=47:=by simpa using hb
   rw [hb'];rfl
theorem zet{l:List UInt8}{k:Nat}(h1:∀i,i<k→l[i]? ≠ some 47)(h2:k<l.length→l[k]? = some 47)(h3:k≤l.length):zav l=k:=by
 rcases Nat.lt_trichotomy (zav l) k with h|h|h
 ·exact absurd (zjY l (by omega)) (h1 _ h)
 ·exact h
 ·have:=znq l;exact absurd (h2 (by omega)) (zgR l h)
theorem zeE(l:List UInt8):List.isPrefixOf [47] l=(l.head? == some 47):=by
 cases l with
 | nil=>rfl
 | cons b r=>
  simp only [List.isPrefixOf,List.head?_cons,Bool.and_true];rw [Bool.eq_iff_iff];simp
  exact eq_comm
theorem zmI(l:List UInt8):index l [47]=if zav l<l.length then(zav l:Int)else -1:=by
 rcases index_spec l [47]with⟨h1,h2⟩|⟨i,h1,h2,h3,h4⟩
 ·rw [h1,if_neg];intro h;have:=h2 (zav l) (by omega);unfold occAt at this;rw [zeE,List.head?_drop,zjY l h]at this;simp at this
 ·have hi:l[i]? = some 47:=by
   unfold occAt at h3;rw [zeE,List.head?_drop]at h3;simpa using h3
  have hlt:i<l.length:=by
   apply Classical.byContradiction
   intro hn;rw [List.getElem?_eq_none (by omega)]at hi
   cases hi
  have hs:zav l=i:=zet (fun j hj e=>by
   have:=h4 j hj;unfold occAt at this;rw [zeE,List.head?_drop,e]at this;simp at this) (fun _=>hi) h2
  rw [h1,hs,if_pos hlt]
theorem zqx(l:List UInt8):cut l [47]=if zav l<l.length then(l.take (zav l),l.drop (zav l+1),true)else(l,[],false):=by
 unfold cut;rw [zmI];by_cases h:zav l<l.length
 ·rw [if_pos h,if_pos h,if_pos (by omega)];simp
 ·rw [if_neg h,if_neg h,if_neg (by omega)]
def zbV(l:List UInt8):Bool:=hasPrefix l [45]
def zaR(l:List UInt8):List UInt8:=trimPrefix l [45]
def zbG(l:List UInt8):Option Int:=
 if zbj (zaR l) && !(zbV l && zaR l == [48])then some (sgn (zbV l) (zad (zaR l)))else none
theorem zdH(b:UInt8)(r:List UInt8):zbV (b :: r)=(b == 45):=by
 unfold zbV hasPrefix;simp only [List.isPrefixOf,Bool.and_true];rw [Bool.eq_iff_iff];simp;exact eq_comm
theorem zlp(r:List UInt8):zaR (45 :: r)=r:=by
 unfold zaR trimPrefix;rw [if_pos (by rfl)];rfl
theorem zf5{l:List UInt8}(h:zbV l=false):zaR l=l:=by
 unfold zaR trimPrefix;rw [if_neg];unfold zbV at h;rw [h];simp
theorem zrg{l:List UInt8}(h:zbV l=true):∃r,l=45 :: r:=by
 cases l with
 | nil=>simp [zbV,hasPrefix]at h
 | cons b r=>rw [zdH]at h;exact⟨r,by rw [show b=45 by simpa using h]⟩
theorem zn5(u:Nat):zbV (decDigits u)=false:=by
 have:=zmX u
 cases h:decDigits u with
 | nil=>rfl
 | cons b r=>
  rw [h]at this;simp only [List.all_cons,Bool.and_eq_true]at this;have h1:=of_decide_eq_true this.1;rw [zdH,beq_eq_false_iff_ne];rintro rfl;have:(45:UInt8).toNat=45:=rfl;omega
theorem ziZ(z:Int):zbG (itoa z)=some z:=by
 unfold itoa;split
 ·rename_i hz;have hn:zbV (45 :: decDigits z.natAbs)=true:=by rw [zdH];rfl
  have hc:(zbj (decDigits z.natAbs) && !(decDigits z.natAbs == [48]))=true:=by
   rw [zio];have:decDigits z.natAbs ≠ [48]:=by
    intro e;have:=zjR z.natAbs;rw [e,zbT]at this;simp at this
    omega
   simpa using this
  unfold zbG;rw [hn,zlp,Bool.true_and,if_pos hc,zjR];unfold sgn;rw [if_pos rfl];congr 1;omega
 ·rename_i hz;unfold zbG;rw [zn5,zf5 (zn5 _),zio];simp only [Bool.false_and,Bool.not_false,Bool.and_self,if_true,zjR,Option.some.injEq];unfold sgn;rw [if_neg (by simp)];omega
theorem zlD(z:Int):∀x∈itoa z,x≠47:=by
 have hd:∀u,∀x∈decDigits u,x≠47:=fun u x hx=>by
  have:=List.all_eq_true.1 (zmX u) x hx;have:=of_decide_eq_true this;rintro rfl;have:(47:UInt8).toNat=47:=rfl;omega
 unfold itoa;split
 ·intro x hx;rcases List.mem_cons.1 hx with rfl|hx
  ·decide
  ·exact hd _ x hx
 ·exact hd _
def zcb(l:List UInt8):Option Rat:=
 if zav l<l.length then
  match zbG (l.take (zav l))with
  | none=>none
  | some z=>if zbj (l.drop (zav l+1)) && decide (2≤zad (l.drop (zav l+1))) && decide (Nat.gcd z.natAbs (zad (l.drop (zav l+1)))=1)
   then some ((z:Rat)/(zad (l.drop (zav l+1)):Rat))else none
 else match zbG l with
  | none=>none
  | some z=>some ((z:Int):Rat)
def ziA(q:Rat):List UInt8:=if q.den=1 then itoa q.num else itoa q.num ++ 47 :: decDigits q.den
theorem zfn{z:Int}{d:Nat}(hd:d≠0)(hg:Nat.gcd z.natAbs d=1):((z:Rat)/(d:Rat)).num=z∧((z:Rat)/(d:Rat)).den=d:=by
 have e:(z:Rat)/(d:Rat)=frac (decide (z<0)) z.natAbs d:=by
  unfold frac;have:sgn (decide (z<0)) z.natAbs=z:=by unfold sgn;simp;omega
  rw [this,Rat.divInt_eq_div];rfl
 have h:=zdK (neg:=decide (z<0)) (n:=z.natAbs) hd;rw [←e,Nat.gcd_comm,hg,Nat.div_one,Nat.div_one]at h;refine⟨?_,h.2.1⟩;have h3:=h.2.2;have h1:=h.1;by_cases hz:z<0
 ·have:=h3.2 ⟨decide_eq_true hz,by omega⟩;omega
 ·have:¬((z:Rat)/(d:Rat)).num<0:=fun hh=>hz (of_decide_eq_true (h3.1 hh).1)
  omega
theorem zpw{a b:List UInt8}(h:∀x∈a,x≠47):zav (a ++ 47 :: b)=a.length:=by
 refine zet (fun i hi e => ?_) (fun _=>by simp) (by simp);rw [List.getElem?_append_left hi]at e;exact h _ (List.mem_of_getElem? e) rfl
theorem zop{a:List UInt8}(h:∀x∈a,x≠47):zav a=a.length:=
 zet (fun _ _ e=>h _ (List.mem_of_getElem? e) rfl) (fun h=>absurd h (by omega)) (Nat.le_refl _)
theorem zok(q:Rat):zcb (ziA q)=some q:=by
 unfold ziA;split
 ·rename_i h1;have hs:zav (itoa q.num)=(itoa q.num).length:=zop (zlD _);unfold zcb;rw [hs,if_neg (by omega),ziZ];show some ((q.num:Rat))=some q
  congr 1
  apply Rat.ext
  ·exact Rat.num_intCast _
  ·rw [h1];exact Rat.den_intCast _
 ·rename_i h1;have hs:zav (itoa q.num ++ 47 :: decDigits q.den)=(itoa q.num).length:=zpw (zlD _);have hz:=q.den_nz;unfold zcb;rw [hs,if_pos (by simp),List.take_left,ziZ];have e:(itoa q.num ++ 47 :: decDigits q.den).drop ((itoa q.num).length+1)=decDigits q.den:=by
   rw [List.drop_append];simp
  rw [e,zio,zjR];have hc:(true && decide (2≤q.den) && decide (Nat.gcd q.num.natAbs q.den=1))=true:=by
   have:Nat.gcd q.num.natAbs q.den=1:=q.reduced;simp [this];omega
  rw [show(match some q.num with|none=>none|some z=>if(true && decide (2≤q.den) && decide (Nat.gcd z.natAbs q.den=1))=true then some ((z:Rat)/(q.den:Rat))else none)=if(true && decide (2≤q.den) && decide (Nat.gcd q.num.natAbs q.den=1))=true then some ((q.num:Rat)/(q.den:Rat))else none from rfl,if_pos hc];congr 1
  have hp:=zfn (z:=q.num) hz q.reduced;exact Rat.ext hp.1 hp.2
end Go.Num
