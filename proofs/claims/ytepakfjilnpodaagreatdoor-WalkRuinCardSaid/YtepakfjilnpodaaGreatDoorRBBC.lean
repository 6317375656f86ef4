/-
  'Ruin' of arguments that are not as they should be. Printed by genbad.py.
  Conditions: p is short, or at least small.
-/
import Derived.Test.YtepakfjilnpodaaGreatDoorRBAA
import Derived.Test.YtepakfjilnpodaaGreatDoorRBAZ
set_option maxRecDepth 100000
set_option maxHeartbeats 8000000
namespace Go.Num
open Go.Eng Go.Shelf Go.RowKit Go.Sort Go.Proofs Go.Proofs.YtepakfjilnpodaaGreatDoor
theorem zoK(w:World)(v:Value)(p:Rat)(k n:Int)(h:zaj w v p)(hp:zad p 1)(b0:Bool)(s0 m0:Int)(hshort:zcv p=b0)(hsgn:sgnR p=s0)(hcmp:sgnR (p-((1:Int):Rat))=m0)(hb:b0=true∧s0=1∧m0 = -1)(hbad:30<n)(htab:zbh w) :
  CallsIn Fence.wide 0 Tryz.prog 14 #[v,.int .i64 k,.int .i64 n] w fun e w'=>∃a b,e = .returned (.tuple #[a,b,.int .i64 1])∧zaj w' a 0∧zaj w' b 0∧Below w.heap.size w w':=by
 have HR:=zHi h;have HP:=zHi hp;have HS:=zHi hshort;have HG:=zHi hsgn;have HC:=zHi hcmp;have HTab:=zHi htab;obtain⟨s,o1,k1,c1,o2,k2,c2,rfl⟩:=(show ∃s o1 k1 c1 o2 k2 c2,v = .agg #[.bool s,.slice o1 k1 c1,.slice o2 k2 c2]from let ⟨o,a,b,o',a',b',e⟩:=h.form;⟨_,o,a,b,o',a',b',e⟩);clear h hp hshort hsgn hcmp htab;refine callsIn_of_wp Tryz.func14 rfl trivial ?_ rfl;simp only [Tryz.ntmps14,zsj,zsk,zsl,Nat.reduceAdd,Nat.reduceSub,zsm,zsn,zso,zsp,zsq,zsr];gi_wp2;obtain⟨WA,hWA⟩:∃W,((w.alloc (.cells #[.bool s,.slice o1 k1 c1,.slice o2 k2 c2] 27)).alloc (.cells #[.int .i64 k] 3)).alloc (.cells #[.int .i64 n] 3)=W:=⟨_,rfl⟩;have hsA:WA.heap.size=w.heap.size+1+1+1:=by rw [←hWA];simp
 have hBA:Below w.heap.size w WA:=by rw [←hWA];exact((zaa w _).alloc (by simp) _).alloc (by simp;omega) _
 have hRA:RBox WA w.heap.size s o1 k1 c1 o2 k2 c2 k n:=by
  rw [←hWA];have b1:=zaK w (.bool s) (.slice o1 k1 c1) (.slice o2 k2 c2) 27;have hb1:=zaa (w.alloc (.cells #[.bool s,.slice o1 k1 c1,.slice o2 k2 c2] 27)) (.cells #[.int .i64 k] 3);have hb2:=zaa ((w.alloc (.cells #[.bool s,.slice o1 k1 c1,.slice o2 k2 c2] 27)).alloc (.cells #[.int .i64 k] 3)) (.cells #[.int .i64 n] 3);have b3:=(b1.below hb1).below hb2;refine⟨b3.c0,b3.c1,b3.c2,?_,?_⟩
  ·have e:(w.alloc (.cells #[.bool s,.slice o1 k1 c1,.slice o2 k2 c2] 27)).heap.size=w.heap.size+1:=by simp
   refine(hb2.cell (p:=⟨w.heap.size+1,0,none⟩) (by simp)).trans ?_;rw [←e,World.cell?_alloc_new];rfl
  ·have e:((w.alloc (.cells #[.bool s,.slice o1 k1 c1,.slice o2 k2 c2] 27)).alloc (.cells #[.int .i64 k] 3)).heap.size=w.heap.size+1+1:=by simp
   rw [←e,World.cell?_alloc_new];rfl
 rw [hWA];obtain⟨WB,hWB⟩:∃W,(WA.alloc (.cells #[.bool false,.slice none 0 0,.slice none 0 0] 27)).alloc (.cells #[.bool false,.slice none 0 0,.slice none 0 0] 27)=W:=⟨_,rfl⟩;have hbB:Below WA.heap.size WA WB:=by rw [←hWB];exact(zaa WA _).alloc (by simp) _
 have HBW:Hid (Below w.heap.size w WB):=zHi (hBA.trans (hbB.mono hBA.size));have HX:Hid (RBox WB w.heap.size s o1 k1 c1 o2 k2 c2 k n):=zHi (hRA.below hbB);have hA6:zag WB WA.heap.size 3 fun i => [.bool false,.slice none 0 0,.slice none 0 0].getD i (.bool false):=by
  rw [←hWB];refine zag.alloc (zag.new _ _ _ fun i hi => ?_) (by simp) _;match i,hi with
  | 0,_=>rfl
  | 1,_=>rfl
  | 2,_=>rfl
 have hA7:zag WB (WA.heap.size+1) 3 fun i => [.bool false,.slice none 0 0,.slice none 0 0].getD i (.bool false):=by
  rw [←hWB,show WA.heap.size+1=(WA.alloc (.cells #[.bool false,.slice none 0 0,.slice none 0 0] 27)).heap.size by simp];refine zag.new _ _ _ fun i hi => ?_
  match i,hi with
  | 0,_=>rfl
  | 1,_=>rfl
  | 2,_=>rfl
 rw [hWB];rw [hsA]at hA6 hA7;obtain⟨g,hg⟩:∃g,w.heap.size=g:=⟨_,rfl⟩;have hgw:w.heap.size≤g:=by omega
 rw [hg]at hA6 hA7 HX;rw [hg];have HA6:=zHi hA6;have HA7:=zHi hA7;have HBk:Hid (Below WB.heap.size WB WB):=Below.refl _ _;clear hWA hsA hBA hRA hWB hbB hA6 hA7 hg;have d0:=HX.out.c0;have d1:=HX.out.c1;have d2:=HX.out.c2;have d3:=HX.out.k0;have d4:=HX.out.n0;refine zdY (fun a' w'=>∃y9 y10 y11 y12 y13 y14 y15 y16 y17 y18 y19 y20 y21 y22 y23 y24 y25 y26 y27 y28 y29 y30 y31 y32 y33 y34 y35 y36 y37 y38 y39 y40 y42 y43 y44 y45 y46 y47 y48 y49 y50 y51 y52 y53:Value,a'={tmps:=#[.agg #[.bool s,.slice o1 k1 c1,.slice o2 k2 c2],.int .i64 k,.int .i64 n,.pointer (some ⟨g,0,none⟩),.pointer (some ⟨g+1,0,none⟩),.pointer (some ⟨g+1+1,0,none⟩),.pointer (some ⟨g+1+1+1,0,none⟩),.pointer (some ⟨g+1+1+1+1,0,none⟩),.int .i64 0,y9,y10,y11,y12,y13,y14,y15,y16,y17,y18,y19,y20,y21,y22,y23,y24,y25,y26,y27,y28,y29,y30,y31,y32,y33,y34,y35,y36,y37,y38,y39,y40,.bool true,y42,y43,y44,y45,y46,y47,y48,y49,y50,y51,y52,y53],defers:=[]}∧Below WB.heap.size WB w') ?rest ?reg
 case reg=>
  have hD:Below WB.heap.size WB WB.drew:=zab WB;obtain⟨rfl,rfl,rfl⟩:=hb;have t1:decide (n<1)=false:=decide_eq_false (by omega);have t2:decide (n>30)=true:=decide_eq_true (by omega);clear hbad;gi_region_with (first
    | (gi_at_call 62;refine(zbo WB.drew _ p (HR.out.below (HBW.out.trans (hD.mono HBW.out.size))) (HP.out.mono (by decide)) (HTab.out.below (HBW.out.trans (hD.mono HBW.out.size)))).mono ?_;rintro e x2 ⟨rfl,hB⟩;rw [HS.out];replace HBk:=zHi (hD.trans (hB.mono hD.size));replace HX:=zHi (HX.out.below HBk.out);have d0:=HX.out.c0;have d1:=HX.out.c1;have d2:=HX.out.c2;have d3:=HX.out.k0;have d4:=HX.out.n0;clear hB)
    | (gi_at_call 25;refine(zaT x2 _ p (HR.out.below (HBW.out.trans (HBk.out.mono HBW.out.size)))).mono ?_;rintro e x3 ⟨rfl,hB⟩;rw [HG.out];replace HBk:=zHi (HBk.out.trans (hB.mono HBk.out.size));replace HX:=zHi (HX.out.below hB);have d0:=HX.out.c0;have d1:=HX.out.c1;have d2:=HX.out.c2;have d3:=HX.out.k0;have d4:=HX.out.n0;clear hB)
    | (gi_at_call 16;refine(zbm x3 1 (by decide) (by decide)).mono ?_;rintro e x4 ⟨v1,rfl,hr1,hB⟩;have HR1:=zHi hr1;clear hr1;replace HBk:=zHi (HBk.out.trans (hB.mono HBk.out.size));replace HX:=zHi (HX.out.below hB);have d0:=HX.out.c0;have d1:=HX.out.c1;have d2:=HX.out.c2;have d3:=HX.out.k0;have d4:=HX.out.n0;clear hB)
    | (gi_at_call 15;refine(zbL x4 _ v1 p ((1:Int):Rat) 100000 (HR.out.below (HBW.out.trans (HBk.out.mono HBW.out.size))) HR1.out (HP.out.mono (by decide)) zg3 (by decide)).mono ?_;rintro e x5 ⟨rfl,hB⟩;rw [HC.out];replace HBk:=zHi (HBk.out.trans (hB.mono HBk.out.size));replace HX:=zHi (HX.out.below hB);have d0:=HX.out.c0;have d1:=HX.out.c1;have d2:=HX.out.c2;have d3:=HX.out.k0;have d4:=HX.out.n0;clear hB))
  all_goals exact⟨_,_,_,_,_,_,_,_,_,_,_,_,_,_,_,_,_,_,_,_,_,_,_,_,_,_,_,_,_,_,_,_,_,_,_,_,_,_,_,_,_,_,_,_,rfl,HBk.out⟩
 case rest=>
  rintro a' w' ⟨y9,y10,y11,y12,y13,y14,y15,y16,y17,y18,y19,y20,y21,y22,y23,y24,y25,y26,y27,y28,y29,y30,y31,y32,y33,y34,y35,y36,y37,y38,y39,y40,y42,y43,y44,y45,y46,y47,y48,y49,y50,y51,y52,y53,rfl,hB⟩;have h6:=HA6.out.below (HA6.out.lt (by omega)) hB;have h7:=HA7.out.below (HA7.out.lt (by omega)) hB;have a0:w'.cell? ⟨g+1+1+1,0,none⟩=some (.bool false):=(h6 0 (by omega)).1;have a1:w'.cell? ⟨g+1+1+1,1,none⟩=some (.slice none 0 0):=(h6 1 (by omega)).1;have a2:w'.cell? ⟨g+1+1+1,2,none⟩=some (.slice none 0 0):=(h6 2 (by omega)).1;have f0:w'.frozen? ⟨g+1+1+1,0,none⟩=false:=(h6 0 (by omega)).2;have f1:w'.frozen? ⟨g+1+1+1,1,none⟩=false:=(h6 1 (by omega)).2;have f2:w'.frozen? ⟨g+1+1+1,2,none⟩=false:=(h6 2 (by omega)).2;have e0:w'.cell? ⟨g+1+1+1+1,0,none⟩=some (.bool false):=(h7 0 (by omega)).1;have e1:w'.cell? ⟨g+1+1+1+1,1,none⟩=some (.slice none 0 0):=(h7 1 (by omega)).1;have e2:w'.cell? ⟨g+1+1+1+1,2,none⟩=some (.slice none 0 0):=(h7 2 (by omega)).1;have q0:w'.frozen? ⟨g+1+1+1+1,0,none⟩=false:=(h7 0 (by omega)).2;have q1:w'.frozen? ⟨g+1+1+1+1,1,none⟩=false:=(h7 1 (by omega)).2;have q2:w'.frozen? ⟨g+1+1+1+1,2,none⟩=false:=(h7 2 (by omega)).2;have H6:=zHi h6;have H7:=zHi h7;have HB:=zHi (HBW.out.trans (hB.mono HBW.out.size));clear h6 h7 hB d0 d1 d2 d3 d4;gi_wp2;have h6:=((((((H6.out.set (i:=0) (by omega) (.bool false)).set (i:=1) (by omega) (.slice none 0 0)).set (i:=2) (by omega) (.slice none 0 0)).congr (f':=fun i => [.bool false,.slice none 0 0,.slice none 0 0].getD i (.bool false)) (fun i hi=>by
   match i,hi with
   | 0,_=>rfl
   | 1,_=>rfl
   | 2,_=>rfl)).other (b:=g+1+1+1+1) (i:=0) (v:=.bool false) (by omega)).other (b:=g+1+1+1+1) (i:=1) (v:=.slice none 0 0) (by omega)).other (b:=g+1+1+1+1) (i:=2) (v:=.slice none 0 0) (by omega)
  have h7:=(((((H7.out.other (b:=g+1+1+1) (i:=0) (v:=.bool false) (by omega)).other (b:=g+1+1+1) (i:=1) (v:=.slice none 0 0) (by omega)).other (b:=g+1+1+1) (i:=2) (v:=.slice none 0 0) (by omega)).set (i:=0) (by omega) (.bool false)).set (i:=1) (by omega) (.slice none 0 0)).set (i:=2) (by omega) (.slice none 0 0) |>.congr (f':=fun i => [.bool false,.slice none 0 0,.slice none 0 0].getD i (.bool false)) (fun i hi=>by
   match i,hi with
   | 0,_=>rfl
   | 1,_=>rfl
   | 2,_=>rfl)
  have hle:w.heap.size≤g+1+1+1:=by omega
  have hle2:w.heap.size≤g+1+1+1+1:=by omega
  refine zkQ rfl rfl (g+1+1+1) (g+1+1+1+1) rfl rfl rfl (zdS h6) (zdS h7) ?_;exact⟨_,_,rfl,zao _,zao _,(((((HB.out.setCell hle _).setCell hle _).setCell hle _).setCell hle2 _).setCell hle2 _).setCell hle2 _⟩
end Go.Num
