/-
  The reference's 'Det' and 'Rank'.
  Conditions: see each statement.
-/
import Derived.Test.YtoamcgjbelhnkaaGreatDoorSAA
import Derived.Test.YtoamcgjbelhnkaaGreatDoorSAK
set_option maxRecDepth 100000
set_option maxHeartbeats 16000000
namespace Go.Num
open Go.Eng Go.Shelf Go.RowKit Go.Sort Go.Proofs Go.Proofs.YtoamcgjbelhnkaaGreatDoor
attribute [local go_sem] Oper.semAt_some
def IZ(z:Int)(r:List Value)(w:World):Prop:=ZAt w (.agg r.toArray) z
def rowZ(a:Nat→Int)(n:Nat):List Int:=(List.range n).map a
theorem zst{a:Nat→Int}{n j:Nat}(h:j<n):(rowZ a n)[j]? = some (a j):=by simp [rowZ,h]
theorem zcj(a:Nat→Int)(n:Nat):(rowZ a n).length=n:=by simp [rowZ]
theorem zpR(a:Nat→Int)(n:Nat):rowZ a (n+1)=rowZ a n ++ [a n]:=by simp [rowZ,List.range_succ]
theorem ZAt.kept{w w':World}{v:Value}{z:Int}(h:ZAt w v z)(hk:Go.Eng.Kept rs3 w w'):ZAt w' v z:=by
 obtain⟨m,e,hm⟩:=h;exact⟨m,e,hm.kept hk rfl⟩
theorem IZ.below{w w':World}(h:Below w.heap.size w w'):∀q r,IZ q r w→IZ q r w':=fun _ _ k=>ZAt.below k h
theorem IZ.touch{ty:TypeId}{w w':World}(ht:Touch ty w w')(hty:rs3.contains ty=false):∀q r,IZ q r w→IZ q r w':=fun _ _ h=>ZAt.kept h (ht.kept hty)
theorem ZAt.form{w:World}{v:Value}{z:Int}(h:ZAt w v z):∃s o k c,v = .agg #[.bool s,.slice o k c]:=by
 obtain⟨m,e,hm⟩:=h;obtain⟨o,k,c,rfl,_,_⟩:=zaC hm;exact⟨_,o,k,c,e⟩
theorem u128:Tryz.prog.underlying 128=some (.slice 32):=by kernel_rfl
theorem i32':Tryz.prog.info? 32=some Tryz.t32:=by kernel_rfl
theorem i32z:Tryz.t32.zero=some (.agg #[.bool false,.slice none 0 0]):=by kernel_rfl
theorem i32s:Tryz.t32.size=2:=by kernel_rfl
theorem i32b:Tryz.t32.bytes=32:=by kernel_rfl
theorem lm32:zgg Tryz.prog 32 2:=zft (by kernel_rfl) (by kernel_rfl)
theorem it63:zff Tryz.prog 63 4:=zcR Go.Num.u63 i34 i34s
theorem zsJ:zek Tryz.prog 34 1 2:=zcE (by kernel_rfl)
theorem ztC:zek Tryz.prog 34 0 0:=zcE (by kernel_rfl)
theorem zgk{w:World}{b o:Nat}{x y:Value}(ht:w.there b o 2)(h1:#[x,y].all (·.oneCell')=true):(Instr.storeAt 32 (.pointer (some ⟨b,o,none⟩)) (.agg #[x,y])).run Tryz.prog w = .ok () (w.setCells b o [x,y]):=
 run_storeAt_mid w b o 32 #[x,y] ht (by kernel_rfl) h1
theorem ztd(w:World)(a b:Value):(Instr.buildSlice 128 1 #[(0,.agg #[a,b])]).run Tryz.prog w = .ok (.slice (some ⟨w.heap.size,0,none⟩) 1 1) (w.alloc (.cells #[a,b] 32)):=by
 simp [Instr.buildSlice,u128,underlying,sizeOf,typeInfo,i32',i32s,i32z,Sem.run_bind,Sem.run_pure,Result.andThen,go_sem,zeroValue,Value.cells]
structure ZBox(w:World)(g:Nat)(z:Int):Prop where
 at':∃s o k c,BoxL w g [.bool s,.slice o k c]∧ZAt w (.agg #[.bool s,.slice o k c]) z
 free:∀j,j<2→w.frozen? ⟨g,j,none⟩=false
 el:Elem w g 32
theorem ZBox.below{w w':World}{g:Nat}{z:Int}(h:ZBox w g z)(hb:Below w.heap.size w w'):ZBox w' g z:=by
 obtain⟨s,o,k,c,h1,h2⟩:=h.at';exact⟨⟨s,o,k,c,h1.below hb,h2.below hb⟩,fun j hj=>(hb.frozen (p:=⟨g,j,none⟩) h.el.lt).trans (h.free j hj),h.el.below hb h.el.lt⟩
theorem ZBox.there{w:World}{g:Nat}{z:Int}(h:ZBox w g z):w.there g 0 2:=by
 obtain⟨s,o,k,c,h1,h2⟩:=h.at';intro j hj;rw [Nat.zero_add];refine⟨?_,h.free j hj⟩;have:j=0∨j=1:=by omega
 rcases this with rfl|rfl
 ·rw [h1.2 0 _ rfl];rfl
 ·rw [h1.2 1 _ rfl];rfl
theorem ZBox.new{w:World}{s:Bool}{o:Option Addr}{k c:Nat}{z:Int}(h:ZAt w (.agg #[.bool s,.slice o k c]) z):ZBox (w.alloc (.cells #[.bool s,.slice o k c] 32)) w.heap.size z:=
 ⟨⟨s,o,k,c,zaU w [.bool s,.slice o k c] 32,h.below (zaa _ _)⟩,fun j _=>World.frozen?_alloc_new _ _ _ _,zaB _ _ _⟩
theorem ZBox.store{w:World}{g:Nat}{z z':Int}(h:ZBox w g z){s:Bool}{o:Option Addr}{k c:Nat}(hz:ZAt w (.agg #[.bool s,.slice o k c]) z'):ZBox (w.setCells g 0 [.bool s,.slice o k c]) g z'∧ButB g w (w.setCells g 0 [.bool s,.slice o k c])∧Go.Eng.Kept rs3 w (w.setCells g 0 [.bool s,.slice o k c]):=by
 obtain⟨s0,o0,k0,c0,h1,h2⟩:=h.at';have hb:=zai g [.bool s,.slice o k c] 0 w;have hk:=hb.kept h.el rfl;have ha:zaj w g 2 (fun i => [.bool s0,.slice o0 k0 c0].getD i (.bool false)):=fun i hi=>by
  have:i=0∨i=1:=by omega
  rcases this with rfl|rfl
  ·exact⟨h1.2 0 _ rfl,h.free 0 (by omega)⟩
  ·exact⟨h1.2 1 _ rfl,h.free 1 (by omega)⟩
 have ha':=(ha.set (i:=0) (by omega) (.bool s)).set (i:=1) (by omega) (.slice o k c);refine⟨⟨⟨s,o,k,c,⟨Nat.lt_of_lt_of_le h.el.lt hb.size,fun j v hj => ?_⟩,hz.kept hk⟩,fun j hj=>(ha' j hj).2,(h.el.setCell _ _).setCell _ _⟩,hb,hk⟩;match j,hj with
 | 0,hj=>rw [←hj];exact(ha' 0 (by omega)).1
 | 1,hj=>rw [←hj];exact(ha' 1 (by omega)).1
 | n+2,hj=>simp at hj
theorem up{x a b:Nat}(h:x<B^a)(hab:a≤b):x<B^b:=Nat.lt_of_lt_of_le h (zag hab)
theorem zp2(a b:Nat):sgn (decide ((a:Int)<0) != decide ((b:Int)<0)) ((a:Int).natAbs/(b:Int).natAbs)=((a/b:Nat):Int):=by
 rw [decide_eq_false (show ¬(a:Int)<0 by omega),decide_eq_false (show ¬(b:Int)<0 by omega),Int.natAbs_natCast,Int.natAbs_natCast];rfl
theorem RowQ.parts{w:World}{a:Addr}{n c i:Nat}{q:Nat→Rat}(h:RowQ w (.slice (some a) n c) (rowF q n))(hi:i<n):∃s1 o1 k1 c1 o2 k2 c2,
  (∀j v,[Value.bool s1,.slice o1 k1 c1][j]? = some v→w.cell? (((a.add (i*4)).add 0).add j)=some v)∧(∀j v,[Value.bool false,.slice o2 k2 c2][j]? = some v→w.cell? (((a.add (i*4)).add 2).add j)=some v) ∧
  ZAt w (.agg #[.bool s1,.slice o1 k1 c1]) (q i).num∧ZAt w (.agg #[.bool false,.slice o2 k2 c2]) ((q i).den:Int):=by
 obtain⟨_,row,hrl,hcell,hIQ⟩:=zad.at' h (zdf hi);obtain⟨m1,m2,e,h1,h2⟩:=hIQ;obtain⟨o1,k1,c1,rfl,_,_⟩:=zaC h1;obtain⟨o2,k2,c2,rfl,_,_⟩:=zaC h2;have hrow:row = [.bool (decide ((q i).num<0)),.slice o1 k1 c1,.bool false,.slice o2 k2 c2]:=by
  injection e with e;have:=congrArg Array.toList e;simpa using this
 subst hrow;refine⟨_,o1,k1,c1,o2,k2,c2,fun j v hj => ?_,fun j v hj => ?_,⟨_,rfl,h1⟩,⟨_,by rw [decide_eq_false (by omega)],by rw [Int.natAbs_natCast];exact h2⟩⟩
 ·rw [Addr.add_add (a.add (i*4)),Nat.zero_add];match j,hj with
  | 0,hj=>exact hcell 0 v hj
  | 1,hj=>exact hcell 1 v hj
  | n+2,hj=>simp at hj
 ·rw [Addr.add_add (a.add (i*4))];match j,hj with
  | 0,hj=>exact hcell 2 v hj
  | 1,hj=>exact hcell 3 v hj
  | n+2,hj=>simp at hj
structure ScS(w0:World)(g3 g4:Nat)(z:Int)(w:World):Prop where
 below:Below w0.heap.size w0 w
 ret:ZBox w g3 0
 acc:ZBox w g4 z
theorem ScS.under{w0 w w':World}{g3 g4:Nat}{z:Int}(h:ScS w0 g3 g4 z w)(hb:Below w.heap.size w w'):ScS w0 g3 g4 z w':=⟨h.below.trans (hb.mono h.below.size),h.ret.below hb,h.acc.below hb⟩
theorem zeB(w:World)(v:Value)(q:Nat→Rat)(n:Nat)(h:RowQ w v (rowF q n))(h0:0<n)(h9:n≤20)(hq:∀j,j<n→zan (q j) 5) :
  CallsIn Fence.wide 0 Tryz.prog 90 #[v] w fun e w'=>∃v1 v2,e = .returned (.tuple #[v1,v2])∧OwnR w' w.heap.size 32 2 IZ v1 (rowZ (zcy q n) n)∧ZAt w' v2 ((facF q n:Nat):Int)∧Below w.heap.size w w':=by
 obtain⟨a,c,rfl⟩:=zad.some h (by rw [zak];exact h0);rw [zak]at h;have HR:=zHi h;have HQ:=zHi hq;have hfac:∀i,i≤n→facF q i<B^101:=fun i hi=>by
  have:=zhU (q:=q) (D:=B^5) (n:=i) (fun j hj=>Nat.le_of_lt (hq j (by omega)).2);rw [←Nat.pow_mul]at this;exact Nat.lt_of_le_of_lt this (Nat.lt_of_lt_of_le (Nat.pow_lt_pow_right (by decide) (show 5*i<101 by omega)) (Nat.le_refl _))
 have HFAC:=zHi hfac;clear h hq hfac;refine callsIn_of_wp Tryz.func90 rfl trivial ?_ rfl;rw [zak];simp only [Tryz.ntmps90,ztH,ztI,ztJ,Nat.reduceAdd,Nat.reduceSub,ztK,ztL,ztM,ztN,ztO,ztP];gi_wp2_with (gi_at_call 22;refine stop ?_)
 refine(za6 _ 1 (by decide) (by decide)).mono ?_;rintro e w1 ⟨v1,rfl,hz1,hB1⟩;obtain⟨s1,o1,k1,c1,rfl⟩:=hz1.form;obtain⟨g3,hg3⟩:∃g,w.heap.size=g:=⟨_,rfl⟩;obtain⟨g4,hg4⟩:∃g,w1.heap.size=g:=⟨_,rfl⟩;have hb0:=zaa w (.cells #[.bool false,.slice none 0 0] 32);have hS0:ScS w g3 g4 ((facF q 0:Nat):Int) (w1.alloc (.cells #[.bool s1,.slice o1 k1 c1] 32)):=by
  have hb1:=zaa w1 (.cells #[.bool s1,.slice o1 k1 c1] 32);refine⟨(hb0.trans (hB1.mono hb0.size)).trans (hb1.mono (Nat.le_trans hb0.size hB1.size)),?_,?_⟩
  ·rw [←hg3];exact((ZBox.new (w:=w) (s:=false) (o:=none) (k:=0) (c:=0) ⟨_,rfl,zkd _ _ _⟩).below hB1).below hb1
  ·rw [←hg4];exact ZBox.new hz1
 have h34:g3<g4:=by
  rw [←hg3,←hg4];have:=hB1.size;rw [World.size_alloc]at this;omega
 have HS0:=zHi hS0;have HG3:=zHi hg3;have HG4:=zHi hg4;clear hz1 hB1 hb0 hS0 hg3 hg4;gi_wp2;rw [HG3.out,HG4.out];gi_loopw [5] (fun x5 wr=>∃i:Nat,x5 = .int .i64 (i:Int)∧i≤n∧Hid (ScS w g3 g4 ((facF q i:Nat):Int) wr)) (fun x _=>n-(intOf x).toNat)
 case atStart=>exact⟨0,rfl,by omega,HS0⟩
 case round=>
  obtain⟨i,rfl,hi,HS⟩:=hrel;clear HS0;by_cases hin:i<n
  ·gi_wp2;have hbd:=zab wr;have hS1:=HS.out.under hbd;obtain⟨W1,hW1⟩:∃W,wr.drew=W:=⟨_,rfl⟩;rw [hW1]at hS1;have hR1:=zad.below HR.out hS1.below (IQ.below hS1.below);obtain⟨sn,on,kn,cn,sd,od,kd,hcn,hcd,hzn,hzd⟩:=RowQ.parts hR1 hin;obtain⟨sf,of,kf,cf,hxf,hzf⟩:=hS1.acc.at';obtain⟨F,hF⟩:∃F,facF q i=F:=⟨_,rfl⟩;obtain⟨D,hD⟩:∃D,(q i).den=D:=⟨_,rfl⟩;have hF9:F<B^101:=by rw [←hF];exact HFAC.out i hi
   have hD9:D<B^101:=by rw [←hD];exact up (HQ.out i hin).2 (by omega)
   have hD0:0<D:=by rw [←hD];exact(q i).den_pos
   have hF0:0<F:=by rw [←hF];exact zkt q i
   have hFn:facF q (i+1)=F*(D/Nat.gcd F D):=by rw [←hF,←hD];rfl
   rw [hF]at hS1 hzf;rw [hD]at hzd;refine zap (ro:=none) [12,13,14,15] [0,1,2,3,4,5,6,7,8,9,10,11,12,13,14,15] [0,0,0,6,14,30,0,0,0,384,896,1920,4032,8190,16383,32767] zaq rfl 54 rfl (by kernel_rfl) (by kernel_rfl) ?_;rw [hW1];refine OV.ldn [.bool sf,.slice of kf cf] lm32 hxf.at' rfl rfl rfl rfl rfl (by decide) rfl ?_;refine OV.mv (v:=.slice (some a) n c) rfl rfl rfl rfl ?_;refine OV.mv (v:=.int .i64 (i:Int)) rfl rfl rfl rfl ?_;refine OV.idx it63 hin rfl rfl rfl rfl rfl ?_;refine OV.fld zsJ rfl rfl rfl rfl ?_;refine OV.ldn [.bool false,.slice sd od kd] lm32 hcd rfl rfl rfl rfl rfl (by decide) rfl ?_;refine OV.ldn [.bool sf,.slice of kf cf] lm32 hxf.at' rfl rfl rfl rfl rfl (by decide) rfl ?_;refine OV.mv (v:=.slice (some a) n c) rfl rfl rfl rfl ?_;refine OV.mv (v:=.int .i64 (i:Int)) rfl rfl rfl rfl ?_;refine OV.idx it63 hin rfl rfl rfl rfl rfl ?_;refine OV.fld zsJ rfl rfl rfl rfl ?_;refine OV.ldn [.bool false,.slice sd od kd] lm32 hcd rfl rfl rfl rfl rfl (by decide) rfl ?_;refine OV.call [.agg #[.bool sf,.slice of kf cf],.agg #[.bool false,.slice sd od kd]] Tryz.func70 rfl zah rfl rfl rfl rfl rfl (ze0 _ _ _ _ _ hzf hzd (by rw [Int.natAbs_natCast];exact up (b:=100000) hF9 (by omega)) (by rw [Int.natAbs_natCast];exact up (b:=100000) hD9 (by omega))) fun v2 w2 h2 hB2 => ?_
   rw [Int.natAbs_natCast,Int.natAbs_natCast]at h2;have hg0:0<Nat.gcd F D:=Nat.gcd_pos_of_pos_left _ hF0;have hg9:Nat.gcd F D<B^101:=Nat.lt_of_le_of_lt (Nat.le_of_dvd hF0 (Nat.gcd_dvd_left _ _)) hF9;refine OV.call [.agg #[.bool false,.slice sd od kd],v2] Tryz.func119 rfl zah rfl rfl rfl rfl rfl (zgi _ _ _ _ _ (hzd.below hB2) h2 (by rw [Int.natAbs_natCast];exact up (b:=100000) hD9 (by omega)) (by rw [Int.natAbs_natCast];exact up (b:=100000) hg9 (by omega)) (by rw [Int.natAbs_natCast];omega)) fun v3 w3 h3 hB3 => ?_
   rw [zp2]at h3;have hb23:=hB2.trans (hB3.mono hB2.size);have hq9:D/Nat.gcd F D<B^101:=Nat.lt_of_le_of_lt (Nat.div_le_self _ _) hD9;refine OV.call [.agg #[.bool sf,.slice of kf cf],v3] Tryz.func92 rfl zah rfl rfl rfl rfl rfl (zda _ _ _ _ _ (hzf.below hb23) h3 (by rw [Int.natAbs_natCast];exact up (b:=100000) hF9 (by omega)) (by rw [Int.natAbs_natCast];exact up (b:=100000) hq9 (by omega))) fun v4 w4 h4 hB4 => ?_
   have hS4:=hS1.under (hb23.trans (hB4.mono hb23.size));have h4':ZAt w4 v4 ((facF q (i+1):Nat):Int):=by rw [hFn,Int.natCast_mul];exact h4
   obtain⟨s4,o4,k4,c4,rfl⟩:=h4'.form;obtain⟨t1,t2,t3⟩:=hS4.acc.store h4';refine OV.st (w':=w4.setCells g4 0 [.bool s4,.slice o4 k4 c4]) trivial (zgk hS4.acc.there (by simp [Value.oneCell'])) rfl rfl rfl rfl rfl ?_;refine OV.done ?_;obtain⟨W5,hW5⟩:∃W,w4.setCells g4 0 [.bool s4,.slice o4 k4 c4]=W:=⟨_,rfl⟩;have hS5:ScS w g3 g4 ((facF q (i+1):Nat):Int) W5:=by
    refine⟨?_,?_,by rw [←hW5];exact t1⟩
    ·rw [←hW5];exact zax (by rw [HG3.out];omega) _ _ _ hS4.below
    ·rw [←hW5];obtain⟨s,o,k,c',r1,r2⟩:=hS4.ret.at';have hne:g3≠g4:=by omega
     exact⟨⟨s,o,k,c',r1.but t2 hne,r2.kept t3⟩,fun j hj=>by
      rw [World.frozen?_of_block (a:=⟨g3,j,none⟩) (t2.blk g3 hS4.ret.el.lt hne)];exact hS4.ret.free j hj,t2.elem hS4.ret.el hne⟩
   have HS5:=zHi hS5;rw [hW5];simp only [zbo,Go.Act.put,ztQ,ztR,ztS];clear hS5 hW5 t1 t2 t3 h4' hS4 h4 hB4 hq9 hb23 h3 hB3 hg9 hg0 h2 hB2 hzd hzf hS1 hFn hF0 hD0 hD9 hF9 hD hF hxf hzn hcd hcn hR1 hW1 hbd;gi_wp2;exact⟨⟨i+1,by go_num,by omega,HS5⟩,by simp only [intOf];omega⟩
  ·have hi2:n=i:=by omega
   subst hi2;obtain⟨W0,hW0⟩:∃W,wr=W:=⟨_,rfl⟩;rw [hW0]at HS;rw [hW0];clear hW0;gi_wp2;gi_loopw [6,7] (fun x6 x7 wr=>∃i:Nat,x7 = .int .i64 (i:Int)∧i≤n∧Hid (OwnR wr W0.heap.size 32 2 IZ x6 (rowZ (zcy q n) i))∧Hid (Below W0.heap.size W0 wr)) (fun _ x _=>n-(intOf x).toNat)
   case atStart=>exact⟨0,rfl,by omega,OwnR.nil _ _ _ _ _,Below.refl _ _⟩
   case round=>
    obtain⟨i,rfl,hi,HO,HBr⟩:=hrel;by_cases hin:i<n
    ·gi_wp2;have hbd:=zab wr;have ho1:=HO.out.below hbd (IZ.below hbd);have hb1:=HBr.out.trans (hbd.mono HBr.out.size);have hS1:=HS.out.under hb1;obtain⟨W1,hW1⟩:∃W,wr.drew=W:=⟨_,rfl⟩;rw [hW1]at hS1 ho1 hb1;have hR1:=zad.below HR.out hS1.below (IQ.below hS1.below);obtain⟨sn,on,kn,cn,od,kd,cd,hcn,hcd,hzn,hzd⟩:=RowQ.parts hR1 hin;obtain⟨sf,of,kf,cf,hxf,hzf⟩:=hS1.acc.at';obtain⟨F,hF⟩:∃F,facF q n=F:=⟨_,rfl⟩;obtain⟨D,hD⟩:∃D,(q i).den=D:=⟨_,rfl⟩;have hF9:F<B^101:=by rw [←hF];exact HFAC.out n (Nat.le_refl _)
     have hD9:D<B^101:=by rw [←hD];exact up (HQ.out i hin).2 (by omega)
     have hN9:(q i).num.natAbs<B^101:=up (HQ.out i hin).1 (by omega);have hD0:0<D:=by rw [←hD];exact(q i).den_pos
     have hsc:zcy q n i=(q i).num*((F/D:Nat):Int):=by rw [←hF,←hD];rfl
     rw [hF]at hS1 hzf;rw [hD]at hzd;obtain⟨oo,co,hof⟩:=ho1.form;rw [zcj]at hof;subst hof;refine zap (ro:=none) [12,13,14,15] [0,1,2,3,4,5,6,7,8,9,10,11,12,13,14,15,16] [0,0,0,6,14,30,0,0,0,384,896,1920,4032,8190,16382,32767,65535] zaq rfl 54 rfl (by kernel_rfl) (by kernel_rfl) ?_;rw [hW1];refine OV.mv (v:=.slice oo i co) rfl rfl rfl rfl ?_;refine OV.mv (v:=.slice (some a) n c) rfl rfl rfl rfl ?_;refine OV.mv (v:=.int .i64 (i:Int)) rfl rfl rfl rfl ?_;refine OV.idx it63 hin rfl rfl rfl rfl rfl ?_;refine OV.fld ztC rfl rfl rfl rfl ?_;refine OV.ldn [.bool sn,.slice on kn cn] lm32 hcn rfl rfl rfl rfl rfl (by decide) rfl ?_;refine OV.ldn [.bool sf,.slice of kf cf] lm32 hxf.at' rfl rfl rfl rfl rfl (by decide) rfl ?_;refine OV.mv (v:=.slice (some a) n c) rfl rfl rfl rfl ?_;refine OV.mv (v:=.int .i64 (i:Int)) rfl rfl rfl rfl ?_;refine OV.idx it63 hin rfl rfl rfl rfl rfl ?_;refine OV.fld zsJ rfl rfl rfl rfl ?_;refine OV.ldn [.bool false,.slice od kd cd] lm32 hcd rfl rfl rfl rfl rfl (by decide) rfl ?_;refine OV.call [.agg #[.bool sf,.slice of kf cf],.agg #[.bool false,.slice od kd cd]] Tryz.func119 rfl zah rfl rfl rfl rfl rfl (zgi _ _ _ _ _ hzf hzd (by rw [Int.natAbs_natCast];exact up (b:=100000) hF9 (by omega)) (by rw [Int.natAbs_natCast];exact up (b:=100000) hD9 (by omega)) (by rw [Int.natAbs_natCast];omega)) fun v3 w3 h3 hB3 => ?_
     rw [zp2]at h3;have hq9:F/D<B^101:=Nat.lt_of_le_of_lt (Nat.div_le_self _ _) hF9;refine OV.call [.agg #[.bool sn,.slice on kn cn],v3] Tryz.func92 rfl zah rfl rfl rfl rfl rfl (zda _ _ _ _ _ (hzn.below hB3) h3 (up (b:=100000) hN9 (by omega)) (by rw [Int.natAbs_natCast];exact up (b:=100000) hq9 (by omega))) fun v4 w4 h4 hB4 => ?_
     rw [←hsc]at h4;obtain⟨s4,o4,k4,c4,rfl⟩:=h4.form;have hb34:=hB3.trans (hB4.mono hB3.size);have ho4:=ho1.below hb34 (IZ.below hb34);obtain⟨v7,w7,hrun,hO7,hB7,_,_⟩:=zqc (ty:=32) (sz:=2) (t:=128) (tx:=128) (bytes:=32) W0 w4 u128 i32' i32z i32s i32b rfl (by decide) (by decide) (.slice oo i co) (rowZ (zcy q n) i) ho4 (zcy q n i) [.bool s4,.slice o4 k4 c4] 32 rfl (by simp [Value.oneCell']) h4 (fun b r w1 w2 ht=>IZ.touch ht rfl b r) (by rw [zcj];omega) (hb1.trans (hb34.mono hb1.size));rw [←zpR]at hO7;refine OV.put1 (ztd _ _ _) (zaa _ _) rfl rfl rfl rfl ?_;refine OV.app trivial hrun rfl rfl rfl rfl rfl rfl ?_;refine OV.asg (v:=v7) rfl rfl rfl rfl ?_;refine OV.done ?_;have HO7:=zHi hO7;have HB7:=zHi hB7;simp only [zbo,Go.Act.put,ztQ,ztR,ztS];clear hO7 hB7 hrun ho4 hb34 h4 hB4 hq9 h3 hB3 hzf hzd hzn hxf hcn hcd hR1 hS1 ho1 hb1 hbd hW1 hsc hD0 hN9 hD9 hF9;gi_wp2;exact⟨⟨i+1,by go_num,by omega,HO7,HB7⟩,by simp only [intOf];omega⟩
    ·have hi2:n=i:=by omega
     subst hi2;gi_wp2;have hbd:=zab wr;have ho1:=HO.out.below hbd (IZ.below hbd);have hS1:=(HS.out.under HBr.out).under hbd;have hb1:=HBr.out.trans (hbd.mono HBr.out.size);obtain⟨W1,hW1⟩:∃W,wr.drew=W:=⟨_,rfl⟩;rw [hW1]at hS1 ho1 hb1;obtain⟨sf,of,kf,cf,hxf,hzf⟩:=hS1.acc.at';obtain⟨t1,t2,t3⟩:=hS1.ret.store hzf;refine zap (ro:=none) [3] [0,1,2,3] [0,0,1,7] zaq rfl 54 rfl (by kernel_rfl) (by kernel_rfl) ?_;rw [hW1];refine OV.mv (v:=u6) rfl rfl rfl rfl ?_;refine OV.ldn [.bool sf,.slice of kf cf] lm32 hxf.at' rfl rfl rfl rfl rfl (by decide) rfl ?_;refine OV.asg (v:=u6) rfl rfl rfl rfl ?_;refine OV.st (w':=W1.setCells g3 0 [.bool sf,.slice of kf cf]) trivial (zgk hS1.ret.there (by simp [Value.oneCell'])) rfl rfl rfl rfl rfl ?_;refine OV.done ?_;obtain⟨W5,hW5⟩:∃W,W1.setCells g3 0 [.bool sf,.slice of kf cf]=W:=⟨_,rfl⟩;rw [hW5]at t1 t2 t3;have hg3W:g3<W0.heap.size:=HS.out.ret.el.lt;have ho5:OwnR W5 w.heap.size 32 2 IZ u6 (rowZ (zcy q n) n):=OwnR.weaken (ho1.keep (fun b hb hlt=>t2.blk b hlt (fun e=>by have:=(ho1.blk hb).1;omega)) (fun b r h=>ZAt.kept (show ZAt W1 (.agg r.toArray) b from h) t3)) HS.out.below.size;have hb5:Below w.heap.size w W5:=by
      rw [←hW5];exact zax (by rw [HG3.out];exact Nat.le_refl _) _ _ _ hS1.below
     have HO5:=zHi ho5;have HB5:=zHi hb5;have HT1:=zHi t1;rw [hW5];simp only [zbo,Go.Act.put,ztQ,ztR,ztS];clear t1 t2 t3 hg3W ho5 hb5 hW5 hxf hzf hb1 hS1 ho1 hbd hW1;gi_wp2;obtain⟨s6,o6,k6,c6,hx6,hz6⟩:=HT1.out.at';have l32:zcd Tryz.prog 32 2:=zbB (by kernel_rfl) (by kernel_rfl);refine⟨rfl,.tuple #[u6,.agg #[.bool s6,.slice o6 k6 c6]],?_,_,_,rfl,HO5.out,hz6,HB5.out⟩;have e1:=l32 g3 [.bool s6,.slice o6 k6 c6] W5 rfl hx6.2;simp only [Instr.loadAt,Instr.sureAddr,Sem.run_bind,Sem.run_pure,Result.andThen_ok]at e1;simp [results,asAddr,e1]
theorem u121:Tryz.prog.underlying 121=some (.slice 128):=by kernel_rfl
theorem i128:Tryz.prog.info? 128=some Tryz.t128:=by kernel_rfl
theorem zsF:Tryz.t128.zero=some (.slice none 0 0):=by kernel_rfl
theorem zrF:Tryz.t128.size=1:=by kernel_rfl
theorem zsG:Tryz.t128.bytes=24:=by kernel_rfl
theorem lo63:zcc Tryz.prog 63:=zbm (by kernel_rfl)
def zep(base:Nat)(l:List Int)(r:List Value)(w:World):Prop:=∃u,r = [u]∧OwnR w base 32 2 IZ u l
def zdY(l:List Int)(r:List Value)(w:World):Prop:=∃u,r = [u]∧zad w 32 2 IZ u l
abbrev MatZ(w:World)(v:Value)(m:List (List Int)):Prop:=zad w 128 1 zdY v m
theorem zep.below{base:Nat}{w w':World}(h:Below w.heap.size w w'):∀q r,zep base q r w→zep base q r w':=fun _ _ ⟨u,e,k⟩=>⟨u,e,k.below h (IZ.below h)⟩
theorem zep.touch{base:Nat}{w w':World}(h:Touch 128 w w'):∀q r,zep base q r w→zep base q r w':=fun _ _ ⟨u,e,k⟩=>⟨u,e,k.touch h (by decide) (IZ.touch h rfl)⟩
theorem zep.but{base g:Nat}{w w':World}(h:ButB g w w')(hk:Go.Eng.Kept rs3 w w')(hg:g<base):∀q r,zep base q r w→zep base q r w':=fun _ _ ⟨u,e,k⟩=>⟨u,e,k.keep (fun b hb hl=>h.blk b hl (fun e=>by have:=(k.blk hb).1;omega)) (fun b r q=>ZAt.kept (show ZAt w (.agg r.toArray) b from q) hk)⟩
theorem zad.imp{β:Type}{w:World}{ty sz:Nat}{I J:β→List Value→World→Prop}{v:Value}{bs:List β}(h:zad w ty sz I v bs)(hI:∀b r,b∈bs→I b r w→J b r w):zad w ty sz J v bs:=by
 rcases h with h|⟨a,cap,xs,h1,h2,h3,h4,h5,h6,h7,h8⟩
 ·exact .inl h
 ·exact .inr ⟨a,cap,xs,h1,h2,h3,h4,h5,h6,h7,fun i row b hr hb=>hI b row (List.mem_of_getElem? hb) (h8 i row b hr hb)⟩
theorem zpC{F:Fence}{n:Nat}{P:Program}{ops:Array Oper}{rest:List Oper}{x y:Operand}{ty:TypeId}{ps:String}{af:Array Edge}{a:CAct}{Q:Exit→CAct→World→Prop}{w:World}
  (h:Stop (wpListIn F n P ops Q ({op:=.store 32 x y,dst:=none,type:=ty,pos:=ps,after:=af,guard:=none} :: rest) a w)):wpListIn F n P ops Q ({op:=.store 32 x y,dst:=none,type:=ty,pos:=ps,after:=af,guard:=none} :: rest) a w:=h
theorem ZBox.eq{w w':World}{g:Nat}{z:Int}(h:ZBox w g z)(e:w'.heap[g]? = w.heap[g]?)(hk:Go.Eng.Kept rs3 w w'):ZBox w' g z:=by
 obtain⟨s,o,k,c,h1,h2⟩:=h.at';refine⟨⟨s,o,k,c,⟨?_,fun j v hj=>by rw [World.cell?_of_block (a:=⟨g,j,none⟩) e];exact h1.2 j v hj⟩,h2.kept hk⟩,fun j hj=>by rw [World.frozen?_of_block (a:=⟨g,j,none⟩) e];exact h.free j hj,h.el.of_block e⟩;obtain⟨cs,fz,hc⟩:=h.el;rw [hc]at e;exact(Array.getElem?_eq_some_iff.1 e).1
theorem ScS.turn{w0 w:World}{g3 g4:Nat}{z z':Int}(h:ScS w0 g3 g4 z w)(h3:w0.heap.size≤g3)(h34:g3<g4){s:Bool}{o:Option Addr}{k c:Nat}(hz:ZAt w (.agg #[.bool s,.slice o k c]) z'):ScS w0 g3 g4 z' (w.setCells g4 0 [.bool s,.slice o k c]):=by
 obtain⟨t1,t2,t3⟩:=h.acc.store hz;exact⟨zax (by omega) _ _ _ h.below,h.ret.eq (t2.blk g3 h.ret.el.lt (by omega)) t3,t1⟩
def facP(Q:Nat→Nat→Rat)(N:Nat):Nat→Nat
 | 0=>1
 | i+1=>facP Q N i*facF (Q i) N
theorem zqK{Q:Nat→Nat→Rat}{N m:Nat}(h:∀i,i<m→facF (Q i) N<B^101):∀i,i≤m→facP Q N i<B^(101*i+1)
 | 0,_=>by show 1<B^1;decide
 | i+1,hi=>by
  have h1:=zqK h i (by omega);have h2:=h i (by omega);show facP Q N i*facF (Q i) N<_
  rw [show 101*(i+1)+1=(101*i+1)+101 by omega,Nat.pow_add];exact Nat.mul_lt_mul'' h1 h2
theorem zjR(w:World)(v:Value)(Q:Nat→Nat→Rat)(m N:Nat)(h:MatQ w v (tab m N Q))(h0:0<m)(hN:0<N)(h9:m≤20∧N≤20)(hq:∀i j,i<m→j<N→zan (Q i j) 5) :
  CallsIn Fence.wide 0 Tryz.prog 83 #[v] w fun e w'=>∃v1 v2,e = .returned (.tuple #[v1,v2])∧MatZ w' v1 (tab m N fun i=>zcy (Q i) N)∧ZAt w' v2 ((facP Q N m:Nat):Int)∧Below w.heap.size w w':=by
 obtain⟨a,c,rfl⟩:=zad.some h (by rw [zal];exact h0);rw [zal]at h;have HR:=zHi h;have HQ:=zHi hq;have hfac:∀i,i<m→facF (Q i) N<B^101:=fun i hi=>by
  have:=zhU (q:=Q i) (D:=B^5) (n:=N) (fun j hj=>Nat.le_of_lt (hq i j hi hj).2);rw [←Nat.pow_mul]at this;exact Nat.lt_of_le_of_lt this (Nat.pow_lt_pow_right (by decide) (by omega))
 have HFAC:=zHi hfac;clear h hq hfac;rw [zal];refine callsIn_of_wp Tryz.func83 rfl trivial ?_ rfl;simp only [Tryz.ntmps83,ztH,ztI,ztJ,Nat.reduceAdd,Nat.reduceSub,ztK,ztL,ztM,ztN,ztO,ztP];gi_wp2_with (gi_at_call 22;refine stop ?_)
 refine(za6 _ 1 (by decide) (by decide)).mono ?_;rintro e w1 ⟨v1,rfl,hz1,hB1⟩;obtain⟨s1,o1,k1,c1,rfl⟩:=hz1.form;obtain⟨g3,hg3⟩:∃g,w.heap.size=g:=⟨_,rfl⟩;obtain⟨g4,hg4⟩:∃g,w1.heap.size=g:=⟨_,rfl⟩;have hb0:=zaa w (.cells #[.bool false,.slice none 0 0] 32);have hS0:ScS w g3 g4 ((facP Q N 0:Nat):Int) (w1.alloc (.cells #[.bool s1,.slice o1 k1 c1] 32)):=by
  have hb1:=zaa w1 (.cells #[.bool s1,.slice o1 k1 c1] 32);refine⟨(hb0.trans (hB1.mono hb0.size)).trans (hb1.mono (Nat.le_trans hb0.size hB1.size)),?_,?_⟩
  ·rw [←hg3];exact((ZBox.new (w:=w) (s:=false) (o:=none) (k:=0) (c:=0) ⟨_,rfl,zkd _ _ _⟩).below hB1).below hb1
  ·rw [←hg4];exact ZBox.new hz1
 have h34:g3<g4:=by
  rw [←hg3,←hg4];have:=hB1.size;rw [World.size_alloc]at this;omega
 have HS0:=zHi hS0;have HG3:=zHi hg3;have HG4:=zHi hg4;clear hz1 hB1 hb0 hS0 hg3 hg4;gi_wp2;rw [HG3.out,HG4.out];gi_loopw [4,6] (fun x4 x6 wr=>∃i:Nat,x6 = .int .i64 (i:Int)∧i≤m∧Hid (ScS w g3 g4 ((facP Q N i:Nat):Int) wr)∧Hid (OwnR wr (g4+1) 128 1 (zep (g4+1)) x4 ((tab m N fun i=>zcy (Q i) N).take i))) (fun _ x _=>m-(intOf x).toNat)
 case atStart=>exact⟨0,rfl,by omega,HS0,OwnR.nil _ _ _ _ _⟩
 case round=>
  obtain⟨i,rfl,hi,HS,HO⟩:=hrel;clear HS0;by_cases hin:i<m
  ·have hR1:=zad.below HR.out HS.out.below (zcJ.below HS.out.below);obtain⟨_,row,hrl,hcell,u,rfl,hu⟩:=zad.at' hR1 (zbG hin);have x0:=hcell 0 u rfl;rw [Addr.add_add,Nat.add_zero,Nat.mul_one]at x0;obtain⟨au,cu,rfl⟩:=zad.some hu (by simpa using hN);rw [List.length_map,List.length_range]at x0 hu;have hg4w:g4<wr.heap.size:=HS.out.acc.el.lt;have HU:=zHi hu;clear hcell hrl hR1 hu;gi_wp2_with (gi_at_call 90;refine stop ?_)
   refine(zeB wr _ (Q i) N HU.out hN h9.2 (fun j hj=>HQ.out i j hin hj)).mono ?_;rintro e w2 ⟨v1,v2,rfl,ho2,hz2,hB2⟩;obtain⟨s2,o2,k2,c2,rfl⟩:=hz2.form;obtain⟨or2,cr2,rfl⟩:=ho2.form;rw [zcj]at ho2;rw [zcj];have HS2:=zHi (HS.out.under hB2);have ho3:=HO.out.below hB2 (zep.below hB2);have HR2:=zHi (OwnR.weaken ho2 (show g4+1≤wr.heap.size by omega));obtain⟨oo,co,hof⟩:=ho3.form;have hlen:((tab m N fun i=>zcy (Q i) N).take i).length=i:=by rw [List.length_take,zal];omega
   rw [hlen]at hof;have HLen:=zHi hlen;subst hof;have HO3:=zHi ho3;have HZ2:=zHi hz2;clear ho2 hz2 hB2 ho3 hlen x0;gi_wp2_with (gi_at_builtin;refine stop ?_)
   unfold Stop;obtain⟨W8,hW8⟩:∃W,w2.alloc (.cells #[.bool s2,.slice o2 k2 c2] 32)=W:=⟨_,rfl⟩;obtain⟨g8,hg8⟩:∃g,w2.heap.size=g:=⟨_,rfl⟩;have hs8:W8.heap.size=g8+1:=by rw [←hW8,←hg8];simp
   have hb28:Below w2.heap.size w2 W8:=by rw [←hW8];exact zaa _ _
   have hx8:ZBox W8 g8 ((facF (Q i) N:Nat):Int):=by rw [←hW8,←hg8];exact ZBox.new HZ2.out
   have hS8:=HS2.out.under hb28;have ho8:=HO3.out.below hb28 (zep.below hb28);have hr8:=HR2.out.below hb28 (IZ.below hb28);have hg48:g4<g8:=by rw [←hg8];exact HS2.out.acc.el.lt
   rw [hW8,hg8];refine zaJ (ty:=128) (sz:=1) (bytes:=24) W8 rfl _ _ rfl u121 i128 zsF zrF zsG rfl (by decide) (by decide) (g4+1) (by omega) (.slice oo i co) _ rfl ho8 (rowZ (zcy (Q i) N) N) [.slice or2 N cr2] _ (by rw [hs8];rfl) rfl (by simp [Value.oneCell']) ⟨_,rfl,hr8⟩ (fun b r w1 w2 ht=>zep.touch ht b r) (by rw [HLen.out];omega) ?_;intro v5 w5 HO5 HK5 HB5;have hblk:=fun b hb=>ho8.blk (b:=b) hb
   have hk85:Go.Eng.Kept rs3 W8 w5:=fun b cs e fz hc he=>by
    rw [HK5.out.2 b (Array.getElem?_eq_some_iff.1 hc).1 (fun q=>by
     obtain⟨_,cur,hcur⟩:=hblk b q.symm;rw [hcur]at hc;cases hc;cases he)]
    exact hc
   have hne:∀b e,Elem W8 b e→e≠128→w5.heap[b]? = W8.heap[b]?:=fun b e ⟨cs,fz,hc⟩ he=>HK5.out.2 b (Array.getElem?_eq_some_iff.1 hc).1 (fun q=>by
    obtain⟨_,cur,hcur⟩:=hblk b q.symm;rw [hcur]at hc;cases hc;exact he rfl)
   have hS5:ScS w g3 g4 ((facP Q N i:Nat):Int) w5:=⟨HB5.out w.heap.size w hS8.below (by rw [HG3.out];omega),hS8.ret.eq (hne _ _ hS8.ret.el (by decide)) hk85,hS8.acc.eq (hne _ _ hS8.acc.el (by decide)) hk85⟩;have hx5:ZBox w5 g8 ((facF (Q i) N:Nat):Int):=hx8.eq (hne _ _ hx8.el (by decide)) hk85;have hnx:(tab m N fun i=>zcy (Q i) N).take (i+1)=(tab m N fun i=>zcy (Q i) N).take i ++ [rowZ (zcy (Q i) N) N]:=by rw [List.take_add_one,zbG hin];rfl
   have HO6:Hid (OwnR w5 (g4+1) 128 1 (zep (g4+1)) v5 ((tab m N fun i=>zcy (Q i) N).take (i+1))):=zHi (by rw [hnx];exact HO5.out);obtain⟨sf,of,kf,cf,hxf,hzf⟩:=hS5.acc.at';obtain⟨sg,og,kg,cg,hxg,hzg⟩:=hx5.at';have p0:=hxf.2 0 _ rfl;have p1:=hxf.2 1 _ rfl;have q0:=hxg.2 0 _ rfl;have q1:=hxg.2 1 _ rfl;have HS5:=zHi hS5;have HZF:=zHi hzf;have HZG:=zHi hzg;clear hW8 hg8 hs8 hb28 hx8 hS8 ho8 hr8 HO5 HK5 HB5 hblk hk85 hne hS5 hx5 hnx hxf hzf hxg hzg;gi_wp2_with (gi_at_call 92;refine stop ?_)
   refine(zda w5 _ _ _ _ HZF.out HZG.out (by rw [Int.natAbs_natCast];exact up (b:=100000) (zqK HFAC.out i hi) (by omega)) (by rw [Int.natAbs_natCast];exact up (b:=100000) (HFAC.out i hin) (by omega))).mono ?_;rintro e w6 ⟨v6,rfl,hz6,hB6⟩;have hz6':ZAt w6 v6 ((facP Q N (i+1):Nat):Int):=by rw [show facP Q N (i+1)=facP Q N i*facF (Q i) N from rfl,Int.natCast_mul];exact hz6
   obtain⟨s6,o6,k6,c6,rfl⟩:=hz6'.form;have hS6:=HS5.out.under hB6;have ho6:=HO6.out.below hB6 (zep.below hB6);obtain⟨t1,t2,t3⟩:=hS6.acc.store hz6';have HS7:=zHi (hS6.turn (by rw [HG3.out];exact Nat.le_refl _) h34 hz6');have HO7:=zHi (ho6.keep (w':=w6.setCells g4 0 [.bool s6,.slice o6 k6 c6]) (fun b hb hl=>t2.blk b hl (fun e=>by have:=(ho6.blk hb).1;omega)) (zep.but t2 t3 (Nat.lt_succ_self _)));have HTh:=zHi hS6.acc.there;clear p0 p1 q0 q1 hz6 hz6' hB6 hS6 ho6 t1 t2 t3;gi_wp2_with (with_reducible refine zpC ?_)
   unfold Stop;refine za2 _ rfl rfl (zgk HTh.out (by simp [Value.oneCell'])) ?_;gi_wp2;exact⟨⟨i+1,by go_num,by omega,HS7,HO7⟩,by simp only [intOf];omega⟩
  ·have hi2:m=i:=by omega
   subst hi2;gi_wp2;have hbd:=zab wr;have ho1:=HO.out.below hbd (zep.below hbd);have hS1:=HS.out.under hbd;obtain⟨W1,hW1⟩:∃W,wr.drew=W:=⟨_,rfl⟩;rw [hW1]at hS1 ho1;rw [List.take_of_length_le (by rw [zal];exact Nat.le_refl _)]at ho1;obtain⟨sf,of,kf,cf,hxf,hzf⟩:=hS1.acc.at';obtain⟨t1,t2,t3⟩:=hS1.ret.store hzf;refine zap (ro:=none) [3] [0,1,2,3] [0,0,1,7] zaq rfl 33 rfl (by kernel_rfl) (by kernel_rfl) ?_;rw [hW1];refine OV.mv (v:=u4) rfl rfl rfl rfl ?_;refine OV.ldn [.bool sf,.slice of kf cf] lm32 hxf.at' rfl rfl rfl rfl rfl (by decide) rfl ?_;refine OV.asg (v:=u4) rfl rfl rfl rfl ?_;refine OV.st (w':=W1.setCells g3 0 [.bool sf,.slice of kf cf]) trivial (zgk hS1.ret.there (by simp [Value.oneCell'])) rfl rfl rfl rfl rfl ?_;refine OV.done ?_;obtain⟨W5,hW5⟩:∃W,W1.setCells g3 0 [.bool sf,.slice of kf cf]=W:=⟨_,rfl⟩;rw [hW5]at t1 t2 t3;have ho5:=ho1.keep (w':=W5) (fun b hb hlt=>t2.blk b hlt (fun e=>by have:=(ho1.blk hb).1;omega)) (zep.but t2 t3 (by omega));have hm5:MatZ W5 u4 (tab m N fun i=>zcy (Q i) N):=(ho5.row (by rw [zal];omega)).imp (fun b r hbm ⟨u,e,k⟩=>⟨u,e,k.row (by rw [zfk hbm];omega)⟩);have hb5:Below w.heap.size w W5:=by
    rw [←hW5];exact zax (by rw [HG3.out];exact Nat.le_refl _) _ _ _ hS1.below
   have HM5:=zHi hm5;have HB5:=zHi hb5;have HT1:=zHi t1;rw [hW5];simp only [zbo,Go.Act.put,ztQ,ztR,ztS];clear t1 t2 t3 ho5 hm5 hb5 hW5 hxf hzf hS1 ho1 hbd hW1;gi_wp2;obtain⟨s6,o6,k6,c6,hx6,hz6⟩:=HT1.out.at';have l32:zcd Tryz.prog 32 2:=zbB (by kernel_rfl) (by kernel_rfl);refine⟨rfl,.tuple #[u4,.agg #[.bool s6,.slice o6 k6 c6]],?_,_,_,rfl,HM5.out,hz6,HB5.out⟩;have e1:=l32 g3 [.bool s6,.slice o6 k6 c6] W5 rfl hx6.2;simp only [Instr.loadAt,Instr.sureAddr,Sem.run_bind,Sem.run_pure,Result.andThen_ok]at e1;simp [results,asAddr,e1]
theorem zng{F:Fence}{n:Nat}(wr:World){ops:Array Oper}{rest:List Oper}{o:Oper}{a:CAct}{Q:Exit→CAct→World→Prop}{t:TypeId}(e1:Tryz.prog.underlying t=some (.slice 128))
  (hg:o.guard=none) (s x:Operand) (hop:o.op=Op.call {callee:=Callee.builtin Builtin.append,args:=#[s,x],argTypes:=#[t,t]})
  (base b2:Nat) (hbase:base≤wr.heap.size) (v:Value) {rvs:List Value} {rows:List (List Int)} (hs:a.eval s=v) (HM:zav wr base 128 32 2 IZ v rvs rows) (u:Value) {l:List Int} (hu:OwnR wr b2 32 2 IZ u l) (hb2:base≤b2) (hl:0<l.length)
  (hlt:∀(i:Nat) (u':Value) (b:Nat),rvs[i]? = some u'→u'.ownBlock=some b→b<b2) (tt:TypeId) (hx:a.eval x = .slice (some ⟨wr.heap.size,0,none⟩) 1 1) (hn:rvs.length<500000000)
  (hK:∀v' w',Hid (zav w' base 128 32 2 IZ v' (rvs ++ [u]) (rows ++ [l]))→Hid (∀B0 w0,Below B0 w0 wr→B0≤base→Below B0 w0 w')→wpListIn F n Tryz.prog ops Q rest (a.put o.dst v') w') :
  wpListIn F n Tryz.prog ops Q (o :: rest) a (wr.alloc (.cells #[u] tt)):=by
 obtain⟨gu,cu,eu,gu1,gu2,curu,gu3⟩:=hu.own hl;have hvb:∀b,v.ownBlock=some b→∃cur,wr.heap[b]? = some (.cells cur 128 (0,0)):=fun b hb=>(HM.top.blk hb).2
 refine zaJ (ty:=128) (sz:=1) (bytes:=24) wr hg s x hop e1 i128 zsF zrF zsG rfl (by decide) (by decide) base hbase v rvs hs HM.top u [u] tt hx rfl (by simp [eu,Value.oneCell']) rfl (fun _ _ _ _ _ q=>q) hn ?_;intro v' w' h1 h2 h3;have hk:∀(b:Nat) (cs:Array Value),wr.heap[b]? = some (.cells cs 32 (0,0))→w'.heap[b]? = wr.heap[b]?:=fun b cs hb=>h2.out.2 b (Array.getElem?_eq_some_iff.1 hb).1 (fun e=>by
  obtain⟨cur,hc⟩:=hvb b e.symm;rw [hc]at hb;cases hb)
 have hT:Touch 128 wr w':=⟨h2.out.1,fun b cs e fz hb hne=>by
  rw [h2.out.2 b (Array.getElem?_eq_some_iff.1 hb).1 (fun e'=>by
   obtain⟨cur,hc⟩:=hvb b e'.symm;rw [hc]at hb;cases hb;exact hne rfl)]
  exact hb⟩
 refine hK v' w' ?_ h3;refine HM.snoc h1.out (fun b cs _ hb=>hk b cs hb) (IZ.touch hT rfl) (OwnR.weaken (hu.keep (fun b hb _ => ?_) (IZ.touch hT rfl)) hb2) hl ?_
 ·have hb:gu=b:=by rw [eu]at hb;simpa [Value.ownBlock]using hb
  rw [←hb];exact hk _ _ gu3
 ·rintro b cs _ _ ⟨i,u',q1,q2⟩ e;have:=hlt i u' b q1 q2;have e:gu=b:=by rw [eu]at e;simpa [Value.ownBlock]using e
  omega
theorem IZ.one{b:Int}{r:List Value}{w:World}(h:IZ b r w):∀u∈r,u.oneCell'=true:=by
 obtain⟨s,o,k,c,e⟩:=ZAt.form h;have e:r = [.bool s,.slice o k c]:=by
  injection e with e;injection e
 subst e;simp [Value.oneCell']
def FarR(P:Option Nat)(r:List Value):Prop:=∀x m,r = [x,m]→∀b,m.ownBlock=some b→P≠some b
def IZp(P:Option Nat)(z:Int)(r:List Value)(w:World):Prop:=IZ z r w∧(z=0∨FarR P r)
theorem ZAt.blk{w:World}{x m:Value}{z:Int}(h:ZAt w (.agg #[x,m]) z)(hz:z≠0):∃b,m.ownBlock=some b∧b<w.heap.size∧∃cs fz,w.heap[b]? = some (.cells cs 3 fz):=by
 obtain⟨m',e,k,hk,hl⟩:=h;have e:m=m':=by
  injection e with e;injection e with e;injection e with _ e;injection e
 subst e;rcases hl with⟨h0,_⟩|⟨a,cap,e,h0,_,_,⟨cs,fz,h5⟩,_⟩
 ·subst h0;have:=hk.zero;omega
 ·exact⟨a.block,by rw [e];rfl,(Array.getElem?_eq_some_iff.1 h5).1,cs,fz,h5⟩
theorem ZAt.keepB{w w':World}{x m:Value}{z:Int}(h:ZAt w (.agg #[x,m]) z)(hk:z≠0→∀b,m.ownBlock=some b→b<w.heap.size→w'.heap[b]? = w.heap[b]?):ZAt w' (.agg #[x,m]) z:=by
 obtain⟨m',e,k,hkl,hl⟩:=h;have e':m=m':=by
  injection e with e;injection e with e;injection e with _ e;injection e
 refine⟨m',e,k,hkl,?_⟩;rcases hl with hl|⟨a,cap,e2,h0,h1,h2,⟨cs,fz,h5⟩,h6⟩
 ·exact .inl hl
 ·have hz:z≠0:=fun q=>by
   rw [q]at hkl;have:=hkl.le (show(0:Int).natAbs<B^0 by decide);omega
  have hb:=hk hz a.block (by rw [e',e2];rfl) (Array.getElem?_eq_some_iff.1 h5).1;exact .inr ⟨a,cap,e2,h0,h1,h2,⟨cs,fz,hb.trans h5⟩,fun i hi=>(World.cell?_of_block (by rw [zac];exact hb)).trans (h6 i hi)⟩
theorem IZ.pair{z:Int}{r:List Value}{w:World}(h:IZ z r w):∃s o k c,r = [.bool s,.slice o k c]∧ZAt w (.agg #[.bool s,.slice o k c]) z:=by
 obtain⟨s,o,k,c,e⟩:=ZAt.form h;have e':r = [.bool s,.slice o k c]:=by
  injection e with e;injection e
 exact⟨s,o,k,c,e',by rw [←e];exact h⟩
def ButP(P:Option Nat)(w w':World):Prop:=w.heap.size≤w'.heap.size∧∀(b:Nat) (cs:Array Value) (fz:Nat × Nat),w.heap[b]? = some (.cells cs 3 fz)→some b≠P→w'.heap[b]? = w.heap[b]?
theorem IZp.keep{P:Option Nat}{w w':World}(h:ButP P w w'):∀z r,IZp P z r w→IZp P z r w':=by
 rintro z r ⟨h1,h2⟩;obtain⟨s,o,k,c,rfl,hz⟩:=IZ.pair h1;refine⟨hz.keepB (fun hz0 b hb _ => ?_),h2⟩;obtain⟨b',hb',_,cs,fz,hc⟩:=hz.blk hz0;rw [hb]at hb'
 cases hb'
 exact h.2 b cs fz hc (fun e=>(h2.resolve_left hz0) _ _ rfl b hb e.symm)
theorem IZp.kept{P:Option Nat}{w w':World}(h:Go.Eng.Kept rs3 w w'):∀z r,IZp P z r w→IZp P z r w':=fun _ _ ⟨h1,h2⟩=>⟨ZAt.kept h1 h,h2⟩
theorem IZp.below{P:Option Nat}{w w':World}(h:Below w.heap.size w w'):∀z r,IZp P z r w→IZp P z r w':=fun z r ⟨h1,h2⟩=>⟨IZ.below h z r h1,h2⟩
theorem IZp.move{P P':Option Nat}{w:World}(hP:P'=P∨∃p,P'=some p∧w.heap.size≤p):∀z r,IZp P z r w→IZp P' z r w:=by
 rintro z r ⟨h1,h2⟩;refine⟨h1,?_⟩;rcases hP with rfl|⟨p,rfl,hp⟩
 ·exact h2
 ·by_cases hz:z=0
  ·exact .inl hz
  ·refine .inr fun x m e b hb q => ?_
   obtain⟨s,o,k,c,e2,hz'⟩:=IZ.pair h1;rw [e2]at e;injection e with _ e;injection e with e _;subst e;obtain⟨b',hb',hl,_⟩:=hz'.blk hz;rw [hb]at hb'
   cases hb'
   cases q
   omega
theorem IZp.fresh{P:Option Nat}{w:World}{z:Int}{s:Bool}{o:Option Addr}{k c B0:Nat}(h:ZAt w (.agg #[.bool s,.slice o k c]) z)(hf:zse B0 (.agg #[.bool s,.slice o k c]))(hP:∀p,P=some p→p<B0):IZp P z [.bool s,.slice o k c] w:=by
 refine⟨h,.inr fun x m e b hb q => ?_⟩;obtain⟨x',m',e',hf⟩:=hf;have e':m' = .slice o k c:=by
  injection e' with e';injection e' with e';injection e' with _ e';injection e' with e' _;exact e'.symm
 subst e';injection e with _ e;injection e with e _;subst e;have:=hf b hb;have:=hP b q;omega
theorem IZp.none{z:Int}{r:List Value}{w:World}(h:IZ z r w):IZp none z r w:=⟨h,.inr fun _ _ _ _ _ q=>by cases q⟩
theorem zav.swap{β:Type}{w:World}{base tyO tyI sz:Nat}{I:β→List Value→World→Prop}{v:Value}{rvs:List Value}{m N:Nat}{A:Nat→Nat→β}(h:zav w base tyO tyI sz I v rvs (tab m N A))(hne:tyO≠tyI)(hN:0<N){g cap k r:Nat}(hv:v = .slice (some ⟨g,0,none⟩) m cap)(hk:k<m)(hr:r<m)(hkr:k≠r){uk ur:Value}
  (hck:w.cell? ((⟨g,0,none⟩:Addr).add (k*1))=some uk) (hcr:w.cell? ((⟨g,0,none⟩:Addr).add (r*1))=some ur) (hI:∀w',ButB g w w'→(∀b r,I b r w→I b r w')) :
  w.there g (k*1) 1∧(w.setCells g (k*1) [ur]).there g (r*1) 1∧∃rvs',zav ((w.setCells g (k*1) [ur]).setCells g (r*1) [uk]) base tyO tyI sz I v rvs' (tab m N fun i=>A (zaM k r i)):=by
 subst hv;have hl:rvs.length=m:=by rw [←h.len,zal]
 have uniq:∀{i:Nat} {u:Value},i<m→w.cell? ((⟨g,0,none⟩:Addr).add (i*1))=some u→rvs[i]? = some u:=fun {i u} hi hc=>by
  obtain⟨u',hu'⟩:∃u',rvs[i]? = some u':=⟨_,List.getElem?_eq_getElem (by omega)⟩;obtain⟨g',cap',e,_,_,hc'⟩:=h.cell hu';injection e with e;injection e with e;injection e with e;subst e;rw [hc]at hc'
  cases hc'
  exact hu'
 have huk:=uniq hk hck;have hur:=uniq hr hcr;have hgb:∃cur,w.heap[g]? = some (.cells cur tyO (0,0)):=by
  obtain⟨g',cap',e,_,_,cur,hc⟩:=h.top.own (by omega);injection e with e;injection e with e;injection e with e;subst e;exact⟨cur,hc⟩
 obtain⟨cur,hgb⟩:=hgb;have htop:OwnR w base tyO 1 (fun u r _=>r = [u]) (.slice (some ⟨g,0,none⟩) rvs.length cap) rvs:=by rw [hl];exact h.top
 obtain⟨h1,h2⟩:=htop.store (by decide) (i:=k) (by omega) (row:=[ur]) (b:=ur) rfl (fun _ _ q=>q) rfl;have h1':OwnR (w.setCells g (k*1) [ur]) base tyO 1 (fun u r _=>r = [u]) (.slice (some ⟨g,0,none⟩) (rvs.set k ur).length cap) (rvs.set k ur):=by rw [List.length_set];exact h1
 obtain⟨h3,h4⟩:=h1'.store (by decide) (i:=r) (by rw [List.length_set];omega) (row:=[uk]) (b:=uk) rfl (fun _ _ q=>q) rfl;have hb:=(zai g [ur] (k*1) w).trans (zai g [uk] (r*1) (w.setCells g (k*1) [ur]));have hat:∀i,i<m→((rvs.set k ur).set r uk)[i]? = rvs[zaM k r i]?:=fun i hi=>by
  unfold zaM;by_cases e1:i=r
  ·subst e1;rw [List.getElem?_set_self (by rw [List.length_set];omega),if_neg (fun q=>hkr q.symm),if_pos rfl,huk]
  ·rw [List.getElem?_set_ne (Ne.symm e1)];by_cases e2:i=k
   ·subst e2;rw [List.getElem?_set_self (by omega),if_pos rfl,hur]
   ·rw [List.getElem?_set_ne (Ne.symm e2),if_neg e2,if_neg e1]
 have hlt:∀i,i<m→zaM k r i<m:=fun i hi=>by unfold zaM;split <;> (try split) <;> omega
 have hlen:((rvs.set k ur).set r uk).length=m:=by rw [List.length_set,List.length_set,hl]
 have hidx:∀{i:Nat} {u:Value},((rvs.set k ur).set r uk)[i]? = some u→i<m∧rvs[zaM k r i]? = some u:=fun {i u} q=>by
  have hi:i<m:=by rw [←hlen];exact(List.getElem?_eq_some_iff.1 q).1
  exact⟨hi,by rw [←hat i hi];exact q⟩
 refine⟨h2,h4,(rvs.set k ur).set r uk,⟨by rw [List.length_set,hl]at h3;exact h3,by rw [hlen,zal],fun i u l q1 q2 => ?_,fun l q=>by rw [zfk q];exact hN,fun i j u u' q1 q2 e => ?_⟩⟩
 ·obtain⟨hi,q1'⟩:=hidx q1;rw [zbG hi]at q2
  cases q2
  have hR:=h.row _ u _ q1' (zbG (hlt i hi));obtain⟨b,cb,e,_,_,cur',hcb⟩:=hR.own (by simpa using hN);refine hR.keep (fun k' hk' hl'=>hb.blk k' hl' (fun e' => ?_)) (hI _ hb);rw [e]at hk'
  cases hk'
  have e':b=g:=e';subst e';rw [hgb]at hcb
  cases hcb
  exact hne rfl
 ·obtain⟨_,q1'⟩:=hidx q1;obtain⟨_,q2'⟩:=hidx q2;exact zkY (h.inj _ _ u u' q1' q2' e)
structure RfS(w0:World)(g4 g8 base g cv m N:Nat)(vp:Value)(P:Option Nat)(t:RS)(cs:List Nat)(w:World):Prop where
 below:Below w0.heap.size w0 w
 ret:∃f,zaj w g4 5 f
 e4:Elem w g4 125
 form:∃s o k c,zaj w g8 5 (fun i => [.slice none 0 0,vp,.bool s,.slice o k c,.int .i64 (t.turns:Int)].getD i (.bool false))∧IZp P t.last [.bool s,.slice o k c] w
 e8:Elem w g8 125
 mat:∃rvs,zav w base 128 32 2 (IZp P) (.slice (some ⟨g,0,none⟩) m cv) rvs (tab m N t.A)
 pv:OwnR w (g8+1) 3 1 II vp cs
 pb:vp.ownBlock=P
section
variable {w0 w w':World} {g4 g8 base g cv m N:Nat} {vp:Value} {P:Option Nat} {t:RS} {cs:List Nat}
theorem RfS.under(h:RfS w0 g4 g8 base g cv m N vp P t cs w)(hb:Below w.heap.size w w'):RfS w0 g4 g8 base g cv m N vp P t cs w':=by
 obtain⟨f,hf⟩:=h.ret;obtain⟨s,o,k,c,h1,h2⟩:=h.form;obtain⟨rvs,hm⟩:=h.mat;exact⟨h.below.trans (hb.mono h.below.size),⟨f,hf.below h.e4.lt hb⟩,h.e4.below hb h.e4.lt,⟨s,o,k,c,h1.below h.e8.lt hb,IZp.below hb _ _ h2⟩,h.e8.below hb h.e8.lt,⟨rvs,hm.below hb (IZp.below hb)⟩,h.pv.below hb (fun _ _ q=>q),h.pb⟩
theorem RfS.row(h:RfS w0 g4 g8 base g cv m N vp P t cs w){i:Nat}(hi:i<m)(hN:0<N):∃b c,w.cell? ((⟨g,0,none⟩:Addr).add (i*1))=some (.slice (some ⟨b,0,none⟩) N c)∧OwnR w base 32 2 (IZp P) (.slice (some ⟨b,0,none⟩) N c) (rowZ (t.A i) N):=by
 obtain⟨rvs,hm⟩:=h.mat;have hl:rvs.length=m:=by rw [←hm.len,zal]
 obtain⟨u,hu⟩:∃u,rvs[i]? = some u:=⟨_,List.getElem?_eq_getElem (by omega)⟩;obtain⟨g',cap,e,_,_,hc⟩:=hm.cell hu;injection e with e;injection e with e;injection e with e;subst e;have hr:=hm.row i u _ hu (zbG hi);obtain⟨b,c,e,_⟩:=hr.own (by simpa using hN);rw [List.length_map,List.length_range]at e;subst e;exact⟨b,c,hc,hr⟩
theorem OwnR.itemZ{b c j:Nat}{a:Nat→Int}(h:OwnR w base 32 2 (IZp P) (.slice (some ⟨b,0,none⟩) N c) (rowZ a N))(hj:j<N):∃s o k cc,w.cell? ⟨b,j*2,none⟩=some (.bool s)∧w.cell? ⟨b,j*2+1,none⟩=some (.slice o k cc)∧IZp P (a j) [.bool s,.slice o k cc] w:=by
 obtain⟨g',cap,row,e,_,_,hrl,hc,hI⟩:=h.item (zst hj);injection e with e;injection e with e;injection e with e;subst e;obtain⟨s,o,k,cc,rfl,_⟩:=IZ.pair hI.1;have x0:=hc 0 _ rfl;have x1:=hc 1 _ rfl;rw [Addr.add_add,Addr.add_lit,Nat.zero_add]at x0 x1;exact⟨s,o,k,cc,x0,x1,hI⟩
end
theorem zav.matZ{w:World}{base:Nat}{v:Value}{rvs:List Value}{rows:List (List Int)}{P:Option Nat}(h:zav w base 128 32 2 (IZp P) v rvs rows)(h9:rows.length≤1000000000)(h8:∀l∈rows,l.length≤1000000000):MatZ w v rows:=by
 have hl:=h.len;rcases h.top.row (by omega)with⟨e,o,c,e2⟩|⟨a,cap,xs,e,h2,h3,h4,h5,h6,h7,h10⟩
 ·refine .inl ⟨List.eq_nil_of_length_eq_zero (by rw [hl,e];rfl),o,c,e2⟩
 ·refine .inr ⟨a,cap,xs,by rw [e,hl],by omega,by omega,h4,by omega,h6,h7,fun i row b hr hb => ?_⟩;have hi:i<rvs.length:=by rw [←hl];exact(List.getElem?_eq_some_iff.1 hb).1
  have hu:rvs[i]? = some rvs[i]:=List.getElem?_eq_getElem hi;have hrow:row = [rvs[i]]:=h10 i row _ hr hu;exact⟨_,hrow,((h.row i _ b hu hb).row (h8 b (List.mem_of_getElem? hb))).imp (fun _ _ _ q=>q.1)⟩
section
variable {w0 w w':World} {g4 g8 base g cv m N:Nat} {vp:Value} {P:Option Nat} {t:RS} {cs:List Nat}
theorem zav.but{b0:Nat}{rvs:List Value}{v:Value}{rows:List (List Int)}(h:zav w base 128 32 2 (IZp P) v rvs rows)(hb:ButB b0 w w')(hE:Elem w b0 125):zav w' base 128 32 2 (IZp P) v rvs rows:=by
 obtain⟨cs,fz,hE'⟩:=hE;refine h.keep (fun b c e _ he hc=>hb.blk b (Array.getElem?_eq_some_iff.1 hc).1 (fun q => ?_)) (IZp.kept (hb.kept ⟨cs,fz,hE'⟩ rfl));subst q;rw [hE']at hc
 cases hc
 rcases he with he|he <;> cases he
theorem RfS.out(h:RfS w0 g4 g8 base g cv m N vp P t cs w)(h4:w0.heap.size≤g4)(h48:g4<g8)(h9:m≤1000∧N≤1000∧cs.length≤1000)(u x0 x1 x2 x3 x4:Value){s:Bool}{o:Option Addr}{k c:Nat}(hl:IZp P t.last [.bool s,.slice o k c] w) :
  MatZ ((w.setCells g8 0 [u]).setCells g4 0 [x0,x1,x2,x3,x4]) (.slice (some ⟨g,0,none⟩) m cv) (tab m N t.A)∧zad ((w.setCells g8 0 [u]).setCells g4 0 [x0,x1,x2,x3,x4]) 3 1 II vp cs∧ZAt ((w.setCells g8 0 [u]).setCells g4 0 [x0,x1,x2,x3,x4]) (.agg #[.bool s,.slice o k c]) t.last∧Below w0.heap.size w0 ((w.setCells g8 0 [u]).setCells g4 0 [x0,x1,x2,x3,x4]) ∧
  ∀j v,[x0,x1,x2,x3,x4][j]? = some v→((w.setCells g8 0 [u]).setCells g4 0 [x0,x1,x2,x3,x4]).cell? ⟨g4,j,none⟩=some v:=by
 have b1:=zai g8 [u] 0 w;have b2:=zai g4 [x0,x1,x2,x3,x4] 0 (w.setCells g8 0 [u]);have e4:Elem (w.setCells g8 0 [u]) g4 125:=b1.elem h.e4 (by omega);have k1:=b1.kept h.e8 rfl;have k2:=b2.kept e4 rfl;obtain⟨rvs,hm⟩:=h.mat;obtain⟨f,hf⟩:=h.ret;have hf1:zaj (w.setCells g8 0 [u]) g4 5 f:=hf.other (b1.blk g4 h.e4.lt (by omega));have hf2:=((((hf1.set (i:=0) (by omega) x0).set (i:=1) (by omega) x1).set (i:=2) (by omega) x2).set (i:=3) (by omega) x3).set (i:=4) (by omega) x4;obtain⟨W1,hW1⟩:∃W,w.setCells g8 0 [u]=W:=⟨_,rfl⟩;have hbel1:Below w0.heap.size w0 W1:=by rw [←hW1];exact zax (by omega) _ _ _ h.below
 have hbel2:Below w0.heap.size w0 (W1.setCells g4 0 [x0,x1,x2,x3,x4]):=zax h4 _ _ _ hbel1;rw [hW1]at b1 b2 e4 k1 k2 hf2 ⊢;obtain⟨W2,hW2⟩:∃W,W1.setCells g4 0 [x0,x1,x2,x3,x4]=W:=⟨_,rfl⟩;have hW2':((((W1.setCell ⟨g4,0,none⟩ x0).setCell ⟨g4,1,none⟩ x1).setCell ⟨g4,2,none⟩ x2).setCell ⟨g4,3,none⟩ x3).setCell ⟨g4,4,none⟩ x4=W2:=hW2;rw [hW2']at hf2;rw [hW2]at b2 k2 hbel2 ⊢;clear hW2 hW2' hW1;have hm2:=(hm.but b1 h.e8).but b2 e4;have hp2:OwnR W2 (g8+1) 3 1 II vp cs:=(h.pv.keep (fun b hb hl=>b1.blk b hl (fun e=>by have:=(h.pv.blk hb).1;omega)) (fun _ _ q=>q)).keep (fun b hb hl=>b2.blk b hl (fun e=>by
  have:=(h.pv.blk hb).1;omega)) (fun _ _ q=>q)
 refine⟨hm2.matZ (by rw [zal];omega) (fun l hl=>by rw [zfk hl];omega),hp2.row (by omega),(IZp.kept k2 _ _ (IZp.kept k1 _ _ hl)).1,hbel2,fun j v hj => ?_⟩;match j,hj with
 | 0,hj=>rw [←hj];exact(hf2 0 (by omega)).1
 | 1,hj=>rw [←hj];exact(hf2 1 (by omega)).1
 | 2,hj=>rw [←hj];exact(hf2 2 (by omega)).1
 | 3,hj=>rw [←hj];exact(hf2 3 (by omega)).1
 | 4,hj=>rw [←hj];exact(hf2 4 (by omega)).1
 | n+5,hj=>simp at hj
end
theorem zoE(k r i:Nat):zaM k r i=zaM r k i:=by
 unfold zaM;split
 ·split
  ·omega
  ·rfl
 ·split <;> rfl
theorem RfS.swap{w0 w:World}{g4 g8 base g cv m N:Nat}{vp:Value}{P:Option Nat}{t:RS}{cs:List Nat}(h:RfS w0 g4 g8 base g cv m N vp P t cs w)(hg:w0.heap.size≤g)(hN:0<N){k r:Nat}(hk:k<m)(hr:r<m)(hkr:k≠r){uk ur:Value}
  (hck:w.cell? ((⟨g,0,none⟩:Addr).add (k*1))=some uk) (hcr:w.cell? ((⟨g,0,none⟩:Addr).add (r*1))=some ur) :
  w.there g (k*1) 1∧(w.setCells g (k*1) [ur]).there g (r*1) 1∧RfS w0 g4 g8 base g cv m N vp P {t with A:=fun i=>t.A (zaM r k i)} cs ((w.setCells g (k*1) [ur]).setCells g (r*1) [uk]):=by
 obtain⟨rvs,hm⟩:=h.mat;have hl:rvs.length=m:=by rw [←hm.len,zal]
 have hgE:Elem w g 128:=by
  obtain⟨g',cv',e,_,_,cur,hc⟩:=hm.top.own (by omega);injection e with e;injection e with e;injection e with e;subst e;exact⟨cur,_,hc⟩
 have hb:=(zai g [ur] (k*1) w).trans (zai g [uk] (r*1) (w.setCells g (k*1) [ur]));have hK:=hb.kept hgE rfl;obtain⟨h1,h2,rvs',h3⟩:=hm.swap (by decide) hN rfl hk hr hkr hck hcr (fun w' hb'=>IZp.kept (hb'.kept hgE rfl));refine⟨h1,h2,?_⟩;have e:(fun i=>t.A (zaM k r i))=fun i=>t.A (zaM r k i):=funext fun i=>by rw [zoE]
 rw [e]at h3;obtain⟨f,hf⟩:=h.ret;obtain⟨s,o,kk,c,h5,h6⟩:=h.form;exact⟨zax hg _ _ _ (zax hg _ _ _ h.below),⟨f,hf.other (hb.blk g4 h.e4.lt (h.e4.ne hgE (by decide)))⟩,hb.elem h.e4 (h.e4.ne hgE (by decide)),⟨s,o,kk,c,h5.other (hb.blk g8 h.e8.lt (h.e8.ne hgE (by decide))),IZp.kept hK _ _ h6⟩,hb.elem h.e8 (h.e8.ne hgE (by decide)),⟨rvs',h3⟩,h.pv.keep (fun b hb' hl'=>hb.blk b hl' (fun e=>by
  obtain⟨_,cur,hcur⟩:=h.pv.blk hb';obtain⟨cs',fz,hE⟩:=hgE;rw [e,hE]at hcur
  cases hcur)) (fun _ _ q=>q),h.pb⟩
theorem OwnR.keep'{β:Type}{w w':World}{base ty sz:Nat}{I J:β→List Value→World→Prop}{v:Value}{bs:List β}(h:OwnR w base ty sz I v bs)(hk:∀b,v.ownBlock=some b→b<w.heap.size→w'.heap[b]? = w.heap[b]?)(hI:∀b r,I b r w→J b r w'):OwnR w' base ty sz J v bs:=by
 have h1:OwnR w base ty sz (fun b r _=>J b r w') v bs:=by
  obtain⟨xs,q1,q2,q3,q4⟩:=h;exact⟨xs,q1,q2,q3,fun i row b hr hb=>hI _ _ (q4 i row b hr hb)⟩
 obtain⟨xs,q1,q2,q3,q4⟩:=h1.keep hk (fun _ _ q=>q);exact⟨xs,q1,q2,q3,q4⟩
theorem RfS.box{w0 w w':World}{g4 g8 base g cv m N:Nat}{vp:Value}{P:Option Nat}{t t':RS}{cs:List Nat}(h:RfS w0 g4 g8 base g cv m N vp P t cs w)(hg:w0.heap.size≤g8)(h48:g4≠g8)(hb:ButB g8 w w')(hbel:Below w0.heap.size w0 w')(hA:t'.A=t.A){s:Bool}{o:Option Addr}{k c:Nat}
  (hf:zaj w' g8 5 (fun i => [.slice none 0 0,vp,.bool s,.slice o k c,.int .i64 (t'.turns:Int)].getD i (.bool false))) (he:Elem w' g8 125) (hl:IZp P t'.last [.bool s,.slice o k c] w'):RfS w0 g4 g8 base g cv m N vp P t' cs w':=by
 obtain⟨f,hf4⟩:=h.ret;obtain⟨rvs,hm⟩:=h.mat;exact⟨hbel,⟨f,hf4.other (hb.blk g4 h.e4.lt h48)⟩,hb.elem h.e4 h48,⟨s,o,k,c,hf,hl⟩,he,⟨rvs,by rw [hA];exact hm.but hb h.e8⟩,h.pv.keep (fun b hb' hl'=>hb.blk b hl' (fun e=>by have:=(h.pv.blk hb').1;omega)) (fun _ _ q=>q),h.pb⟩
theorem RfS.turned{w0 w:World}{g4 g8 base g cv m N:Nat}{vp:Value}{P:Option Nat}{t:RS}{cs:List Nat}(h:RfS w0 g4 g8 base g cv m N vp P t cs w)(hg:w0.heap.size≤g8)(h48:g4≠g8):RfS w0 g4 g8 base g cv m N vp P {t with turns:=t.turns+1} cs (w.setCell ⟨g8,4,none⟩ (.int .i64 ((t.turns+1:Nat):Int))):=by
 obtain⟨s,o,k,c,h1,h2⟩:=h.form;have hb:=zai g8 [.int .i64 ((t.turns+1:Nat):Int)] 4 w;refine h.box (t':={t with turns:=t.turns+1}) hg h48 hb (h.below.setCell (p:=⟨g8,4,none⟩) hg _) rfl (s:=s) (o:=o) (k:=k) (c:=c) ((h1.set (i:=4) (by omega) _).congr (fun i hi => ?_)) (h.e8.setCell _ _) (IZp.kept (hb.kept h.e8 rfl) _ _ h2);have:i=0∨i=1∨i=2∨i=3∨i=4:=by omega
 rcases this with rfl|rfl|rfl|rfl|rfl <;> rfl
theorem RfS.store{w0 w:World}{g4 g8 base g cv m N:Nat}{vp:Value}{P:Option Nat}{t:RS}{cs:List Nat}(h:RfS w0 g4 g8 base g cv m N vp P t cs w)(hg:w0.heap.size≤base){i j b c:Nat}(hi:i<m)(hj:j<N)(hc:w.cell? ((⟨g,0,none⟩:Addr).add (i*1))=some (.slice (some ⟨b,0,none⟩) N c)){row:List Value}{x:Int}(hrow:row.length=2)(hx:IZp P x row w) :
  RfS w0 g4 g8 base g cv m N vp P {t with A:=fun i'=>if i'=i then(fun j'=>if j'=j then x else t.A i j')else t.A i'} cs (w.setCells b (j*2) row)∧w.there b (j*2) 2:=by
 obtain⟨rvs,hm⟩:=h.mat;have hl:rvs.length=m:=by rw [←hm.len,zal]
 obtain⟨u',hu'⟩:∃u',rvs[i]? = some u':=⟨_,List.getElem?_eq_getElem (by omega)⟩;obtain⟨g',cap',e,_,_,hc'⟩:=hm.cell hu';injection e with e;injection e with e;injection e with e;subst e;rw [hc]at hc'
 cases hc'
 have hr:=hm.row i _ _ hu' (zbG hi);obtain⟨b',c',e,hbb,_,cur,hcur⟩:=hr.own (by simp;omega);injection e with e;injection e with e;injection e with e;subst e;have hE:Elem w b 32:=⟨cur,_,hcur⟩;have hbut:=zai b row (j*2) w;have hK:=hbut.kept hE rfl;have hll:((List.range N).map (t.A i)).length=N:=by simp
 obtain⟨h1,h2⟩:=hm.setItem (by decide) (by decide) (l:=(List.range N).map (t.A i)) (by rw [hll];exact hu') (zbG hi) (by rw [hll];exact hj) hrow (IZp.kept hK) (IZp.kept hK _ _ hx);have e1:((List.range N).map (t.A i)).set j x=(List.range N).map fun j'=>if j'=j then x else t.A i j':=by
  refine List.ext_getElem? fun k => ?_
  rw [List.getElem?_set];rcases Nat.lt_or_ge k N with hk|hk
  ·by_cases e:j=k
   ·subst e;simp [hk]
   ·simp [hk,e,Ne.symm e]
  ·simp [Nat.not_lt.2 hk]
   omega
 rw [e1,zhh]at h1;obtain⟨f,hf⟩:=h.ret;obtain⟨s,o,k,c2,h5,h6⟩:=h.form;refine⟨⟨zax (by omega) _ _ _ h.below,⟨f,hf.other (hbut.blk g4 h.e4.lt (h.e4.ne hE (by decide)))⟩,hbut.elem h.e4 (h.e4.ne hE (by decide)),⟨s,o,k,c2,h5.other (hbut.blk g8 h.e8.lt (h.e8.ne hE (by decide))),IZp.kept hK _ _ h6⟩,hbut.elem h.e8 (h.e8.ne hE (by decide)),⟨rvs,h1⟩,h.pv.keep (fun b hb' hl'=>hbut.blk b hl' (fun e=>by
  obtain⟨_,cur2,hcur2⟩:=h.pv.blk hb';rw [e,hcur]at hcur2
  cases hcur2)) (fun _ _ q=>q),h.pb⟩,h2⟩
theorem RfS.lasts{w0 w:World}{g4 g8 base g cv m N:Nat}{vp:Value}{P:Option Nat}{t:RS}{cs:List Nat}(h:RfS w0 g4 g8 base g cv m N vp P t cs w)(hg:w0.heap.size≤g8)(h48:g4≠g8){z:Int}{s:Bool}{o:Option Addr}{k c:Nat}(hz:IZp P z [.bool s,.slice o k c] w) :
  RfS w0 g4 g8 base g cv m N vp P {t with last:=z} cs ((w.setCell ⟨g8,2,none⟩ (.bool s)).setCell ⟨g8,3,none⟩ (.slice o k c)):=by
 obtain⟨s',o',k',c',h1,h2⟩:=h.form;have hb:=zai g8 [.bool s,.slice o k c] 2 w;refine h.box (t':={t with last:=z}) hg h48 hb ((h.below.setCell (p:=⟨g8,2,none⟩) hg _).setCell (p:=⟨g8,3,none⟩) hg _) rfl (s:=s) (o:=o) (k:=k) (c:=c) (((h1.set (i:=2) (by omega) _).set (i:=3) (by omega) _).congr (fun i hi => ?_)) ((h.e8.setCell _ _).setCell _ _) (IZp.kept (hb.kept h.e8 rfl) _ _ hz);have:i=0∨i=1∨i=2∨i=3∨i=4:=by omega
 rcases this with rfl|rfl|rfl|rfl|rfl <;> rfl
theorem RfS.push{w0 w w':World}{g4 g8 base g cv m N:Nat}{vp v':Value}{P:Option Nat}{t:RS}{cs:List Nat}{x:Nat}(h:RfS w0 g4 g8 base g cv m N vp P t cs w)(hg:w0.heap.size≤g8)(h48:g4≠g8)(ho:OwnR w' (g8+1) 3 1 II v' (cs ++ [x]))(hk:w.heap.size≤w'.heap.size∧∀k,k<w.heap.size→some k≠vp.ownBlock→w'.heap[k]? = w.heap[k]?)(hbel:Below w0.heap.size w0 w')
  (hP:v'.ownBlock=vp.ownBlock∨∃p,v'.ownBlock=some p∧w.heap.size≤p):RfS w0 g4 g8 base g cv m N v' v'.ownBlock t (cs ++ [x]) (w'.setCell ⟨g8,1,none⟩ v'):=by
 have hpb:=h.pb;have hP':v'.ownBlock=P∨∃p,v'.ownBlock=some p∧w.heap.size≤p:=by rw [←hpb];exact hP
 have hne:∀(b:Nat) (cs:Array Value) (e:TypeId) (fz:Nat × Nat),w.heap[b]? = some (.cells cs e fz)→e≠3→w'.heap[b]? = w.heap[b]?:=fun b cs e fz hb he=>hk.2 b (Array.getElem?_eq_some_iff.1 hb).1 (fun q=>by
  obtain⟨_,cur,hcur⟩:=h.pv.blk q.symm;rw [hcur]at hb
  cases hb
  exact he rfl)
 have hE:∀b e,Elem w b e→e≠3→w'.heap[b]? = w.heap[b]?:=fun b e ⟨cs,fz,hc⟩ he=>hne b cs e fz hc he
 have hbp:ButP P w w':=⟨hk.1,fun b cs fz hb hn=>hk.2 b (Array.getElem?_eq_some_iff.1 hb).1 (by rw [hpb];exact hn)⟩;have hmv:∀z r,IZp P z r w→IZp v'.ownBlock z r w':=fun z r q=>by
  have q1:=IZp.move hP' z r q;exact⟨(IZp.keep hbp z r q).1,q1.2⟩
 obtain⟨f,hf⟩:=h.ret;obtain⟨s,o,k,c,h5,h6⟩:=h.form;obtain⟨rvs,hm⟩:=h.mat;have e8':Elem w' g8 125:=h.e8.of_block (hE _ _ h.e8 (by decide));have hb:=zai g8 [v'] 1 w';have hK:=hb.kept e8' rfl;have hm1:zav w' base 128 32 2 (IZp v'.ownBlock) (.slice (some ⟨g,0,none⟩) m cv) rvs (tab m N t.A):=by
  refine⟨h.mat.elim fun _ _ => ?_,hm.len,fun i u l q1 q2 => ?_,hm.ne,hm.inj⟩
  ·exact hm.top.keep (fun b hb _=>by
    obtain⟨_,cur,hcur⟩:=hm.top.blk hb;exact hne _ _ _ _ hcur (by decide)) (fun _ _ q=>q)
  ·exact(hm.row i u l q1 q2).keep' (fun b hb _=>by
    obtain⟨_,cur,hcur⟩:=(hm.row i u l q1 q2).blk hb;exact hne _ _ _ _ hcur (by decide)) hmv
 refine⟨hbel.setCell (p:=⟨g8,1,none⟩) hg _,⟨f,(hf.other (hE _ _ h.e4 (by decide))).other (hb.blk g4 (Nat.lt_of_lt_of_le h.e4.lt hk.1) h48)⟩,hb.elem (h.e4.of_block (hE _ _ h.e4 (by decide))) h48,⟨s,o,k,c,(((h5.other (hE _ _ h.e8 (by decide))).set (i:=1) (by omega) _).congr (fun i hi => ?_)),IZp.kept hK _ _ (hmv _ _ h6)⟩,e8'.setCell _ _,⟨rvs,hm1.but hb e8'⟩,ho.keep (fun b hb' hl'=>hb.blk b hl' (fun e=>by have:=(ho.blk hb').1;omega)) (fun _ _ q=>q),rfl⟩;have:i=0∨i=1∨i=2∨i=3∨i=4:=by omega
 rcases this with rfl|rfl|rfl|rfl|rfl <;> rfl
end Go.Num
namespace Go.Num
open Go.Eng Go.Shelf Go.RowKit Go.Sort Go.Proofs Go.Proofs.YtoamcgjbelhnkaaGreatDoor
def zdt(A:Nat→Nat→Int)(k cc:Nat)(last:Int)(i j:Nat):Nat→Nat→Int:=fun i'=>if i'=k then A k else fun j'=>if i'<i∨(i'=i∧j'<j)then(A k cc*A i' j'-A i' cc*A k j').tdiv last else A i' j'
theorem zpa(A:Nat→Nat→Int)(k cc:Nat)(last:Int):zdt A k cc last 0 0=A:=by
 funext i'
 unfold zdt;split
 ·rename_i h;rw [h]
 ·funext j'
  rw [if_neg (by omega)]
theorem zog{A:Nat→Nat→Int}{k cc:Nat}{last:Int}{i j j':Nat}(hi:i≠k)(hj:j≤j'):zdt A k cc last i j i j'=A i j':=by
 unfold zdt;rw [if_neg hi];exact if_neg (by omega)
theorem zqN{A:Nat→Nat→Int}{k cc:Nat}{last:Int}{i j:Nat}:zdt A k cc last i j k=A k:=by
 unfold zdt;rw [if_pos rfl]
theorem zpc{A:Nat→Nat→Int}{k cc:Nat}{last:Int}{i j:Nat}{x:Int}(hi:i≠k)(hx:x=(A k cc*A i j-A i cc*A k j).tdiv last):(fun i'=>if i'=i then(fun j'=>if j'=j then x else zdt A k cc last i j i j')else zdt A k cc last i j i')=zdt A k cc last i (j+1):=by
 funext i' j'
 by_cases h1:i'=i
 ·subst h1;rw [if_pos rfl];unfold zdt;rw [if_neg hi,if_neg hi];by_cases h2:j'=j
  ·subst h2;rw [if_pos rfl,if_pos (.inr ⟨rfl,by omega⟩),hx]
  ·rw [if_neg h2];by_cases h3:j'<j
   ·rw [if_pos (.inr ⟨rfl,h3⟩),if_pos (.inr ⟨rfl,by omega⟩)]
   ·rw [if_neg (by omega),if_neg (by omega)]
 ·rw [if_neg h1];unfold zdt;by_cases h2:i'=k
  ·rw [if_pos h2,if_pos h2]
  ·rw [if_neg h2,if_neg h2];by_cases h3:i'<i
   ·rw [if_pos (.inl h3),if_pos (.inl h3)]
   ·rw [if_neg (by omega),if_neg (by omega)]
theorem zqM{A:Nat→Nat→Int}{k cc:Nat}{last:Int}{i N i' j':Nat}(hj:j'<N):zdt A k cc last i N i' j'=zdt A k cc last (i+1) 0 i' j':=by
 unfold zdt;by_cases h2:i'=k
 ·rw [if_pos h2,if_pos h2]
 ·rw [if_neg h2,if_neg h2];by_cases h3:i'≤i
  ·rw [if_pos (by omega),if_pos (by omega)]
  ·rw [if_neg (by omega),if_neg (by omega)]
theorem zpb{A:Nat→Nat→Int}{k cc:Nat}{last:Int}{i' j':Nat}:zdt A k cc last k 0 i' j'=zdt A k cc last (k+1) 0 i' j':=by
 unfold zdt;by_cases h2:i'=k
 ·rw [if_pos h2,if_pos h2]
 ·rw [if_neg h2,if_neg h2];by_cases h3:i'<k
  ·rw [if_pos (by omega),if_pos (by omega)]
  ·rw [if_neg (by omega),if_neg (by omega)]
theorem zqO{A:Nat→Nat→Int}{k cc:Nat}{last:Int}{m i' j':Nat}(hi:i'<m):zdt A k cc last m 0 i' j'=zcX A k cc last i' j':=by
 unfold zdt zcX;by_cases h2:i'=k
 ·rw [if_pos h2,if_pos h2]
 ·rw [if_neg h2,if_neg h2,if_pos (.inl hi)]
theorem zoC{β:Type}{m N:Nat}{A A':Nat→Nat→β}(h:∀i j,i<m→j<N→A i j=A' i j):tab m N A=tab m N A':=by
 unfold tab;refine List.map_congr_left fun i hi => ?_
 refine List.map_congr_left fun j hj => ?_
 exact h i j (List.mem_range.1 hi) (List.mem_range.1 hj)
theorem RfS.zAs{w0 w:World}{g4 g8 base g cv m N:Nat}{vp:Value}{P:Option Nat}{t t':RS}{cs:List Nat}(h:RfS w0 g4 g8 base g cv m N vp P t cs w)(hA:∀i j,i<m→j<N→t.A i j=t'.A i j)(hl:t.last=t'.last)(ht:t.turns=t'.turns):RfS w0 g4 g8 base g cv m N vp P t' cs w:=by
 obtain⟨s,o,k,c,h1,h2⟩:=h.form;obtain⟨rvs,hm⟩:=h.mat;exact⟨h.below,h.ret,h.e4,⟨s,o,k,c,by rw [←ht];exact h1,by rw [←hl];exact h2⟩,h.e8,⟨rvs,by rw [←zoC hA];exact hm⟩,h.pv,h.pb⟩
theorem znB{F:Fence}{n:Nat}{P:Program}{ops:Array Oper}{rest:List Oper}{x y:Operand}{ty:TypeId}{ps:String}{af:Array Edge}{a:CAct}{Q:Exit→CAct→World→Prop}{w:World}
  (h:Stop (wpListIn F n P ops Q ({op:=.store 128 x y,dst:=none,type:=ty,pos:=ps,after:=af,guard:=none} :: rest) a w)):wpListIn F n P ops Q ({op:=.store 128 x y,dst:=none,type:=ty,pos:=ps,after:=af,guard:=none} :: rest) a w:=h
theorem zs8{F:Fence}{n:Nat}{P:Program}{ops:Array Oper}{rest:List Oper}{x y:Operand}{ty:TypeId}{ps:String}{af:Array Edge}{a:CAct}{Q:Exit→CAct→World→Prop}{w:World}
  (h:Stop (wpListIn F n P ops Q ({op:=.store 3 x y,dst:=none,type:=ty,pos:=ps,after:=af,guard:=none} :: rest) a w)):wpListIn F n P ops Q ({op:=.store 3 x y,dst:=none,type:=ty,pos:=ps,after:=af,guard:=none} :: rest) a w:=h
theorem znA{w:World}{g o:Nat}{v:Value}(hv:v.cells=#[v])(h1:v.oneCell'=true)(ht:w.there g o 1):(Instr.storeAt 128 (.pointer (some ⟨g,o,none⟩)) v).run Tryz.prog w = .ok () (w.setCells g o [v]):=by
 have:=zd2 (t:=128) (g:=g) (o:=o) (by kernel_rfl) hv h1 ht;rwa [Addr.add_lit,Nat.zero_add]at this
theorem zs7{w:World}{g o:Nat}{v:Value}(hv:v.cells=#[v])(h1:v.oneCell'=true)(ht:w.there g o 1):(Instr.storeAt 3 (.pointer (some ⟨g,o,none⟩)) v).run Tryz.prog w = .ok () (w.setCell ⟨g,o,none⟩ v):=by
 have:=zd2 (t:=3) (g:=g) (o:=o) (by kernel_rfl) hv h1 ht;rwa [Addr.add_lit,Nat.zero_add]at this
theorem zmQ:zff Tryz.prog 128 2:=zcR u128 i32' i32s
theorem zqx:zff Tryz.prog 121 1:=zcR u121 i128 zrF
theorem zqq:zcc Tryz.prog 128:=zbm (by kernel_rfl)
theorem ztD:zek Tryz.prog 125 2 2:=zcE (by kernel_rfl)
theorem zgp{w:World}{b o:Nat}{x y:Value}(h0:w.cell? ⟨b,o,none⟩=some x)(h1:w.cell? ⟨b,o+1,none⟩=some y):∀j v,[x,y][j]? = some v→w.cell? (((⟨b,0,none⟩:Addr).add o).add j)=some v:=fun j v hj=>by
 rw [Addr.add_lit,Addr.add_lit,Nat.zero_add];match j,hj with
 | 0,hj=>rw [←hj];exact h0
 | 1,hj=>rw [←hj];exact h1
 | n+2,hj=>simp at hj
theorem zkR{x L:Nat}(h:x<B^L)(hL:L≤20000):x<B^100000:=Nat.lt_of_lt_of_le h (zag (i:=L) (j:=100000) (by omega))
theorem zsZ{x L:Nat}(h:x<B^(2*L))(hL:L≤20000):x<B^50000:=Nat.lt_of_lt_of_le h (zag (i:=2*L) (j:=50000) (by omega))
theorem zpK{L:Nat}{p x f y:Int}(hp:p.natAbs<B^L)(hx:x.natAbs<B^L)(hf:f.natAbs<B^L)(hy:y.natAbs<B^L):(p*x).natAbs<B^(2*L)∧(f*y).natAbs<B^(2*L)∧(p*x-f*y).natAbs<B^(2*L+1):=by
 have h1:(p*x).natAbs<B^(2*L):=by
  rw [Int.natAbs_mul,Nat.two_mul,Nat.pow_add];exact Nat.mul_lt_mul'' hp hx
 have h2:(f*y).natAbs<B^(2*L):=by
  rw [Int.natAbs_mul,Nat.two_mul,Nat.pow_add];exact Nat.mul_lt_mul'' hf hy
 refine⟨h1,h2,?_⟩;have h3:(p*x-f*y).natAbs≤(p*x).natAbs+(f*y).natAbs:=Int.natAbs_sub_le _ _;have h4:B^(2*L+1)=B^(2*L)*B:=by rw [Nat.pow_succ]
 have h5:B^(2*L)*2≤B^(2*L)*B:=Nat.mul_le_mul_left _ (by decide);omega
theorem zrk{w:World}{b o:Nat}{x y:Value}(ht:w.there b o 2)(h1:#[x,y].all (·.oneCell')=true):(Instr.storeAt 32 (.pointer (some ((⟨b,0,none⟩:Addr).add o))) (.agg #[x,y])).run Tryz.prog w = .ok () (w.setCells b o [x,y]):=by
 rw [Addr.add_lit,Nat.zero_add];exact zgk ht h1
theorem zoD(k i:Nat):zaM k k i=i:=by
 unfold zaM;split
 ·omega
 ·rfl
theorem zl6{w w':World}{base t ty e size n m c bytes:Nat}{i:TypeInfo}{z v v':Value}{xs news:List Value}{a:Addr}(ht:Tryz.prog.underlying t=some (.slice e))(hi:Tryz.prog.info? e=some i)(hz:i.zero=some z)(hsize:i.size=size)(hby:i.bytes=bytes)
  (hown:w.ownsRow base e size v n xs) (hl:news.length=m*size) (hnews:∀j u,news[j]? = some u→w.cell? (a.add j)=some u) (h1:∀u∈news,u.oneCell'=true) (h63:n+m≤maxLen) (hbytes:(n+m)*bytes≤140737488355328) (hm:0<m)
  (hrun:(Builtin.append_ #[t,t] ty #[v,.slice (some a) m c]).run Tryz.prog w = .ok v' w'):v'.ownBlock=v.ownBlock∨∃p,v'.ownBlock=some p∧w.heap.size≤p:=by
 subst hsize;subst hby;have hsmall:n+m≤9223372036854775807:=by simp only [maxLen]at h63;omega
 rcases hown.2 with⟨rfl,rfl⟩|⟨g,cap,cur,rfl,hbg,hg,hnc,hcm,hcs,htake⟩
 ·have hr:=run_append_nil (P:=Tryz.prog) w t ty e i z ht hi hz a m c news hl hnews (by omega) (by omega) (by have hb:=hbytes;simp only [Nat.zero_add]at hb;omega);rw [hrun]at hr;injection hr with hr _;exact .inr ⟨w.heap.size,by rw [hr];rfl,Nat.le_refl _⟩
 ·by_cases hroom:n+m≤cap
  ·have hfit:n*i.size+news.length≤cur.size:=by rw [hl,hcs,←Nat.add_mul];exact Nat.mul_le_mul_right _ hroom
   have hr:=run_append_room (P:=Tryz.prog) w t ty e i ht hi g n cap cur hg a m c news hl hnews h1 hroom hfit;rw [hrun]at hr;injection hr with hr _;exact .inl (by rw [hr];rfl)
  ·have holds:∀j u,xs[j]? = some u→w.cell? ((⟨g,0,none⟩:Addr).add j)=some u:=hown.cells (g:=g) rfl;have hr:=run_append_grow (P:=Tryz.prog) w t ty e i z ht hi hz ⟨g,0,none⟩ n cap xs hown.1 holds a m c news hl hnews (by omega) (by omega) (growslice_fits (by omega) hbytes);rw [hrun]at hr;injection hr with hr _;exact .inr ⟨w.heap.size,by rw [hr];rfl,Nat.le_refl _⟩
theorem zl8{β:Type}{F:Fence}{n:Nat}(wr:World){ops:Array Oper}{rest:List Oper}{o:Oper}{a:CAct}{Q:Exit→CAct→World→Prop}{ty sz t bytes:Nat}{inf:TypeInfo}{z:Value}{I:β→List Value→World→Prop}
  (hg:o.guard=none) (s x:Operand) (hop:o.op=Op.call {callee:=Callee.builtin Builtin.append,args:=#[s,x],argTypes:=#[t,t]})
  (e1:Tryz.prog.underlying t=some (.slice ty)) (e2:Tryz.prog.info? ty=some inf) (e3:inf.zero=some z) (e4:inf.size=sz) (e5:inf.bytes=bytes) (e6:z.cells.size=sz) (e7:0<sz) (e8:bytes≤100)
  (base:Nat) (hbase:base≤wr.heap.size) (v:Value) (bs:List β) (hs:a.eval s=v) (HO:OwnR wr base ty sz I v bs) (b:β) (row:List Value) (tt:TypeId) (hx:a.eval x = .slice (some ⟨wr.heap.size,0,none⟩) 1 1) (hrow:row.length=sz) (h1c:∀u∈row,u.oneCell'=true) (hIb:I b row wr) (hI:∀b r w1 w2,Touch ty w1 w2→I b r w1→I b r w2) (hn:bs.length<500000000)
  (hK:∀v' w',Hid (OwnR w' base ty sz I v' (bs ++ [b]))→Hid (wr.heap.size≤w'.heap.size∧∀k,k<wr.heap.size→some k≠v.ownBlock→w'.heap[k]? = wr.heap[k]?)→Hid (∀B0 w0,Below B0 w0 wr→B0≤base→Below B0 w0 w')→Hid (v'.ownBlock=v.ownBlock∨∃p,v'.ownBlock=some p∧wr.heap.size≤p)→wpListIn F n Tryz.prog ops Q rest (a.put o.dst v') w') :
  wpListIn F n Tryz.prog ops Q (o :: rest) a (wr.alloc (.cells row.toArray tt)):=by
 obtain⟨xs,h1,h2,h3,h4⟩:=HO;have hcells:∀j u,row[j]? = some u→(wr.alloc (.cells row.toArray tt)).cell? ((⟨wr.heap.size,0,none⟩:Addr).add j)=some u:=fun j u hu=>by rw [Addr.add_lit,Nat.zero_add,World.cell?_alloc_new];simpa using hu
 have hby:(bs.length+1)*bytes≤140737488355328:=by
  have:(bs.length+1)*bytes≤500000000*100:=Nat.mul_le_mul (by omega) e8;omega
 have hml:bs.length+1≤maxLen:=by unfold maxLen;omega
 have hown:=World.ownsRow.alloc h1 (.cells row.toArray tt);obtain⟨v',w',hrun,g1,g2,g3⟩:=run_append_own (P:=Tryz.prog) (wr.alloc (.cells row.toArray tt)) base t o.type ty inf z sz bytes e1 e2 e3 e4 e5 e6 e7 v bs.length xs.flatten hown ⟨wr.heap.size,0,none⟩ 1 1 row (by rw [hrow];omega) hcells h1c hml hby (by simp;omega);have hw:=zl6 e1 e2 e3 e4 e5 hown (by rw [hrow];omega) hcells h1c hml hby (by decide) hrun;refine wpListIn_plain hg fun K hK' => ?_
 unfold Oper.wpIn;refine⟨by simp [Oper.about,hop,resolve,Target.leads,Sem.run_pure],?_⟩;rw [Oper.semAt_plain F _ _ (by rw [hop];intro c hc';cases hc')];simp [execOp,hop,resolve,invoke,builtin,hs,hx,hrun,Result.andThen]
 refine hK' _ _ ?_;have hT:Touch ty wr w':=by
  refine⟨Nat.le_trans (by simp) g2.size,fun k cs e fz hk hne => ?_⟩;have hlt:k<wr.heap.size:=(Array.getElem?_eq_some_iff.1 hk).1;have hal:(wr.alloc (.cells row.toArray tt)).heap[k]? = wr.heap[k]?:=(zaa wr _).block k hlt;rw [g2.block k (by simp;omega) (fun hk' => ?_),hal]
  ·exact hk
  ·rcases h1.2 with⟨rfl,_⟩|⟨g,cap,cur,rfl,q1,q2,_⟩
   ·cases hk'
   ·have:k=g:=by simpa [Value.ownBlock]using hk'
    subst this;rw [q2]at hk;injection hk with hk;injection hk with _ hk _;exact hne hk.symm
 refine hK v' w' ⟨xs ++ [row],?_,by simp [h2],fun r hr => ?_,fun i r b' hr hb' => ?_⟩ ⟨hT.1,?_⟩ ?_ ?_
 ·rw [List.flatten_append,List.length_append];simpa using g1
 ·rcases List.mem_append.1 hr with h|h
  ·exact h3 r h
  ·rw [List.mem_singleton.1 h,hrow]
 ·rcases Nat.lt_or_ge i bs.length with hi|hi
  ·rw [List.getElem?_append_left (by omega)]at hr hb';exact hI _ _ _ _ hT (h4 i r b' hr hb')
  ·rw [List.getElem?_append_right (by omega)]at hr hb';rw [h2]at hr;rcases Nat.eq_zero_or_pos (i-bs.length)with h0|h0
   ·rw [h0]at hr hb';have hr:row=r:=by simpa using hr
    have hb':b=b':=by simpa using hb'
    rw [←hr,←hb'];exact hI _ _ _ _ hT hIb
   ·rw [List.getElem?_eq_none (by simp;omega)]at hr
    cases hr
 ·intro k hk hne;rw [g2.block k (by simp;omega) hne,(zaa wr _).block k hk]
 ·exact zHi fun B0 w0 hB hB0=>(hB.alloc (Nat.le_trans hB0 hbase) _).grown g2 (by simp;omega) fun k hk=>Nat.le_trans hB0 (zbU h1 hk)
 ·refine zHi (hw.imp id ?_);rintro⟨p,q1,q2⟩;refine⟨p,q1,?_⟩;rw [World.size_alloc]at q2;omega
structure ElS(w0:World)(g4 g8 base g cv m N:Nat)(vp:Value)(P:Option Nat)(t:RS)(cs:List Nat)(W:World)(g13:Nat)(sp:Bool)(op:Option Addr)(kp cp kk cc i j:Nat)(w:World):Prop where
 st:RfS w0 g4 g8 base g cv m N vp P ⟨zdt t.A kk cc t.last i j,t.last,t.turns,t.k⟩ cs w
 box:BoxL w g13 [.bool sp,.slice op kp cp]
 el:Elem w g13 32
 piv:IZp P (t.A kk cc) [.bool sp,.slice op kp cp] w
 top:w.heap[g]? = W.heap[g]?
section
variable {w0 W w w':World} {g4 g8 base g cv m N g13 kp cp kk cc i j:Nat} {vp:Value} {P:Option Nat} {t:RS} {cs:List Nat} {sp:Bool} {op:Option Addr}
theorem RfS.topB(h:RfS w0 g4 g8 base g cv m N vp P t cs w)(h0:0<m):base≤g∧g<w.heap.size∧Elem w g 128:=by
 obtain⟨rvs,hm⟩:=h.mat;have hl:rvs.length=m:=by rw [←hm.len,zal]
 obtain⟨g',c',e,h1,h2,cur,hc⟩:=hm.top.own (by omega);injection e with e;injection e with e;injection e with e;subst e;exact⟨h1,h2,cur,_,hc⟩
theorem ElS.under(h:ElS w0 g4 g8 base g cv m N vp P t cs W g13 sp op kp cp kk cc i j w)(h0:0<m)(hb:Below w.heap.size w w'):ElS w0 g4 g8 base g cv m N vp P t cs W g13 sp op kp cp kk cc i j w':=
 ⟨h.st.under hb,h.box.below hb,h.el.below hb h.el.lt,IZp.below hb _ _ h.piv,(hb.block g (h.st.topB h0).2.1).trans h.top⟩
theorem ElS.row(h:ElS w0 g4 g8 base g cv m N vp P t cs W g13 sp op kp cp kk cc i j w)(hW:RfS w0 g4 g8 base g cv m N vp P t cs W)(hg:W.heap.size=g13){i':Nat}(hi:i'<m)(hN:0<N) :
  ∃b c,w.cell? ((⟨g,0,none⟩:Addr).add (i'*1))=some (.slice (some ⟨b,0,none⟩) N c)∧OwnR w base 32 2 (IZp P) (.slice (some ⟨b,0,none⟩) N c) (rowZ (zdt t.A kk cc t.last i j i') N)∧b<g13∧Elem w b 32:=by
 obtain⟨b,c,h1,h2⟩:=h.st.row hi hN;obtain⟨b',c',h3,h4⟩:=hW.row hi hN;have e:w.cell? ((⟨g,0,none⟩:Addr).add (i'*1))=W.cell? ((⟨g,0,none⟩:Addr).add (i'*1)):=World.cell?_of_block (by rw [zac];exact h.top);rw [h1,h3]at e
 cases e
 obtain⟨_,_,e,_,h5,_⟩:=h4.own (by rw [zcj];exact hN);rw [zcj]at e
 cases e
 obtain⟨_,_,e,_,_,cur,h6⟩:=h2.own (by rw [zcj];exact hN);rw [zcj]at e
 cases e
 exact⟨b,c,h1,h2,by omega,cur,_,h6⟩
theorem ElS.store(h:ElS w0 g4 g8 base g cv m N vp P t cs W g13 sp op kp cp kk cc i j w)(hg:w0.heap.size≤base)(h0:0<m)(hi:i<m)(hj:j<N)(hik:i≠kk){b c:Nat}(hc:w.cell? ((⟨g,0,none⟩:Addr).add (i*1))=some (.slice (some ⟨b,0,none⟩) N c))(hb:b≠g13)(hE:Elem w b 32){row:List Value}{x:Int}(hrow:row.length=2)(hx:IZp P x row w)(hxe:x=(t.A kk cc*t.A i j-t.A i cc*t.A kk j).tdiv t.last) :
  ElS w0 g4 g8 base g cv m N vp P t cs W g13 sp op kp cp kk cc i (j+1) (w.setCells b (j*2) row)∧w.there b (j*2) 2∧ButB b w (w.setCells b (j*2) row)∧Go.Eng.Kept rs3 w (w.setCells b (j*2) row):=by
 obtain⟨h1,h2⟩:=h.st.store hg hi hj hc hrow hx;have hbut:=zai b row (j*2) w;have hK:=hbut.kept hE rfl;have e:=zpc (A:=t.A) (k:=kk) (cc:=cc) (last:=t.last) (i:=i) (j:=j) hik hxe;refine⟨⟨h1.zAs (fun i' j' _ _=>congrFun (congrFun e i') j') rfl rfl,h.box.but hbut (Ne.symm hb),hbut.elem h.el (Ne.symm hb),IZp.kept hK _ _ h.piv,?_⟩,h2,hbut,hK⟩;have hgE:=(h.st.topB h0).2.2;rw [hbut.blk g hgE.lt (hgE.ne hE (by decide))];exact h.top
end
end Go.Num
namespace Go.Num
open Go.Eng Go.Shelf Go.RowKit Go.Sort Go.Proofs Go.Proofs.YtoamcgjbelhnkaaGreatDoor
attribute [local go_sem] Oper.semAt_some
def zaV(m:Nat)(A0:Nat→Nat→Int):Nat→List Nat
 | 0 => []
 | c+1=>if rRow m c (rRun m A0 c)=m then zaV m A0 c else zaV m A0 c ++ [c]
theorem zi2(m:Nat)(A0:Nat→Nat→Int):∀c,(rRun m A0 c).k≤m∧(rRun m A0 c).k≤c
 | 0=>⟨Nat.zero_le _,Nat.zero_le _⟩
 | c+1=>by
  have ih:=zi2 m A0 c;show(zeF m c (rRun m A0 c)).k≤m∧(zeF m c (rRun m A0 c)).k≤c+1
  unfold zeF;split
  ·omega
  ·rename_i h;have:=(zn9 (nzA (rRun m A0 c).A c) (m-(rRun m A0 c).k) (rRun m A0 c).k);unfold rRow at h;refine⟨?_,Nat.succ_le_succ ih.2⟩;show(rRun m A0 c).k+1≤m
   omega
theorem zi1(m:Nat)(A0:Nat→Nat→Int):∀c,(rRun m A0 c).turns≤(rRun m A0 c).k
 | 0=>Nat.le_refl _
 | c+1=>by
  have ih:=zi1 m A0 c;show(zeF m c (rRun m A0 c)).turns≤(zeF m c (rRun m A0 c)).k
  unfold zeF;split
  ·exact ih
  ·show(rRun m A0 c).turns+_≤(rRun m A0 c).k+1
   split <;> omega
theorem zcP(m:Nat)(A0:Nat→Nat→Int):∀c,(zaV m A0 c).length=(rRun m A0 c).k
 | 0=>rfl
 | c+1=>by
  have ih:=zcP m A0 c;show(if rRow m c (rRun m A0 c)=m then zaV m A0 c else zaV m A0 c ++ [c]).length=(zeF m c (rRun m A0 c)).k
  unfold zeF;split
  ·exact ih
  ·rw [List.length_append,ih];rfl
theorem zrn(x y:Int):sgn (decide (x<0) != decide (y<0)) (x.natAbs/y.natAbs)=x.tdiv y:=by
 unfold sgn;rcases Int.lt_or_le x 0 with hx|hx <;> rcases Int.lt_or_le y 0 with hy|hy
 ·rw [decide_eq_true hx,decide_eq_true hy];obtain⟨a,rfl⟩:∃a:Nat,x = -(a:Int):=⟨x.natAbs,by omega⟩;obtain⟨b,rfl⟩:∃b:Nat,y = -(b:Int):=⟨y.natAbs,by omega⟩;simp [Int.neg_tdiv,Int.tdiv_neg]
 ·rw [decide_eq_true hx,decide_eq_false (by omega)];obtain⟨a,rfl⟩:∃a:Nat,x = -(a:Int):=⟨x.natAbs,by omega⟩;obtain⟨b,rfl⟩:∃b:Nat,y=(b:Int):=⟨y.natAbs,by omega⟩;simp [Int.neg_tdiv]
 ·rw [decide_eq_false (by omega),decide_eq_true hy];obtain⟨a,rfl⟩:∃a:Nat,x=(a:Int):=⟨x.natAbs,by omega⟩;obtain⟨b,rfl⟩:∃b:Nat,y = -(b:Int):=⟨y.natAbs,by omega⟩;simp [Int.tdiv_neg]
 ·rw [decide_eq_false (by omega),decide_eq_false (by omega)];obtain⟨a,rfl⟩:∃a:Nat,x=(a:Int):=⟨x.natAbs,by omega⟩;obtain⟨b,rfl⟩:∃b:Nat,y=(b:Int):=⟨y.natAbs,by omega⟩;simp
theorem zfL{β:Type}{m N:Nat}{A:Nat→Nat→β}{i:Nat}(h:i<m):(tab m N A).take (i+1)=(tab m N A).take i ++ [(List.range N).map (A i)]:=by rw [List.take_add_one,zbG h];rfl
theorem zp1{m cc q:Nat}{t:RS}(h1:t.k≤q)(h2:q≤m)(h3:∀j,t.k≤j→j<q→nzA t.A cc j=false)(h4:q=m∨nzA t.A cc q=true):rRow m cc t=q:=
 zn8 h1 (by omega) h3 (h4.imp (fun e=>by omega) id)
theorem OwnR.imp{β:Type}{w:World}{base ty sz:Nat}{I J:β→List Value→World→Prop}{v:Value}{bs:List β}(h:OwnR w base ty sz I v bs)(hI:∀b r,I b r w→J b r w):OwnR w base ty sz J v bs:=by
 obtain⟨xs,h1,h2,h3,h4⟩:=h;exact⟨xs,h1,h2,h3,fun i row b hr hb=>hI _ _ (h4 i row b hr hb)⟩
theorem zav.imp{β:Type}{w:World}{base tyO tyI sz:Nat}{I J:β→List Value→World→Prop}{v:Value}{rvs:List Value}{rows:List (List β)}(h:zav w base tyO tyI sz I v rvs rows)(hI:∀b r,I b r w→J b r w):zav w base tyO tyI sz J v rvs rows:=
 ⟨h.top,h.len,fun i u l q1 q2=>(h.row i u l q1 q2).imp hI,h.ne,h.inj⟩
theorem zlh{m:Nat}{A0:Nat→Nat→Int}{c:Nat}(h:(rRun m A0 c).k=m):∀d,rRun m A0 (c+d)=rRun m A0 c∧zaV m A0 (c+d)=zaV m A0 c
 | 0=>⟨rfl,rfl⟩
 | d+1=>by
  obtain⟨h1,h2⟩:=zlh h d;have hr:rRow m (c+d) (rRun m A0 (c+d))=m:=by
   unfold rRow;rw [h1,h,Nat.sub_self];rfl
  refine⟨?_,?_⟩
  ·show zeF m (c+d) (rRun m A0 (c+d))=_
   unfold zeF;rw [if_pos hr,h1]
  ·show(if rRow m (c+d) (rRun m A0 (c+d))=m then zaV m A0 (c+d)else _)=_
   rw [if_pos hr,h2]
theorem zgL(w:World)(v:Value)(A0:Nat→Nat→Int)(m N columns L:Nat)(h:MatZ w v (tab m N A0))(h0:0<m)(hN:0<N)(h9:m≤20∧N≤40)(hcN:columns≤N)(hL:L≤20000)
  (hsz:∀c,c≤columns→(rRun m A0 c).last≠0∧(rRun m A0 c).last.natAbs<B^L∧∀i j,i<m→j<N→((rRun m A0 c).A i j).natAbs<B^L) :
  CallsIn Fence.wide 0 Tryz.prog 84 #[v,.int .i64 (columns:Int)] w fun e w'=>∃vr vp s o k c,e = .returned (.agg #[vr,vp,.bool s,.slice o k c,.int .i64 ((rRun m A0 columns).turns:Int)])∧MatZ w' vr (tab m N (rRun m A0 columns).A)∧zad w' 3 1 II vp (zaV m A0 columns)∧ZAt w' (.agg #[.bool s,.slice o k c]) (rRun m A0 columns).last∧Below w.heap.size w w':=by
 obtain⟨a,c,rfl⟩:=zad.some h (by rw [zal];exact h0);rw [zal]at h;have HR:=zHi h;have HSZ:=zHi hsz;rw [zal];clear h hsz;obtain⟨R0,hR0⟩:∃R:Ending→World→Prop,∀e w',R e w'↔∃vr vp s o k c,e = .returned (.agg #[vr,vp,.bool s,.slice o k c,.int .i64 ((rRun m A0 columns).turns:Int)])∧MatZ w' vr (tab m N (rRun m A0 columns).A)∧zad w' 3 1 II vp (zaV m A0 columns)∧ZAt w' (.agg #[.bool s,.slice o k c]) (rRun m A0 columns).last∧Below w.heap.size w w':=⟨_,fun _ _=>Iff.rfl⟩;simp only [←hR0];have HR0:=zHi hR0;clear hR0;refine callsIn_of_wp Tryz.func84 rfl trivial ?_ rfl;simp only [Tryz.ntmps84,ztH,ztI,ztJ,Nat.reduceAdd,Nat.reduceSub,ztK,ztL,ztM,ztN,ztO,ztP];gi_wp2;obtain⟨g4,hg4⟩:∃g,w.heap.size=g:=⟨_,rfl⟩;have HG4:=zHi hg4;rw [hg4];clear hg4;obtain⟨W4,hW4⟩:∃W,w.alloc (.cells #[.slice none 0 0,.slice none 0 0,.bool false,.slice none 0 0,.int .i64 0] 125)=W:=⟨_,rfl⟩;have hs4:W4.heap.size=g4+1:=by rw [←hW4,←HG4.out];simp
 have HB4:Hid (Below w.heap.size w W4):=zHi (by rw [←hW4];exact zaa _ _);have HA4:Hid (∃f,zaj W4 g4 5 f):=zHi ⟨fun i => [.slice none 0 0,.slice none 0 0,.bool false,.slice none 0 0,.int .i64 0].getD i (.bool false),by
  rw [←hW4,←HG4.out];refine zaj.new w #[.slice none 0 0,.slice none 0 0,.bool false,.slice none 0 0,.int .i64 0] 125 (fun i hi => ?_);have:i=0∨i=1∨i=2∨i=3∨i=4:=by omega
  rcases this with rfl|rfl|rfl|rfl|rfl <;> rfl⟩
 have HE4:Hid (Elem W4 g4 125):=zHi (by rw [←hW4,←HG4.out];exact zaB _ _ _);have HS4:=zHi hs4;rw [hW4];clear hW4 hs4;gi_loopw [5,6] (fun x5 x6 wr=>∃i:Nat,x6 = .int .i64 (i:Int)∧i≤m∧Hid (∃rvs,zav wr W4.heap.size 128 32 2 IZ x5 rvs ((tab m N A0).take i))∧Hid (Below W4.heap.size W4 wr)) (fun _ x _=>m-(intOf x).toNat)
 case atStart=>exact⟨0,rfl,by omega,zHi ⟨[],OwnR.nil _ _ _ _ _,rfl,fun i u l h=>by simp at h,fun l h=>by simp at h,fun i j u u' h=>by simp at h⟩,Below.refl _ _⟩
 case round=>
  obtain⟨i,rfl,hi,HM,HBr⟩:=hrel;by_cases hin:i<m
  ·have hb0:=HB4.out.trans (HBr.out.mono HB4.out.size);have hR1:=zad.below HR.out hb0 (fun _ _ ⟨u,e,k⟩=>⟨u,e,zad.below k hb0 (IZ.below hb0)⟩);obtain⟨_,row,hrl,hcell,u,rfl,hu⟩:=zad.at' hR1 (zbG hin);have x0:=hcell 0 u rfl;rw [Addr.add_add,Nat.add_zero,Nat.mul_one]at x0;obtain⟨au,cu,rfl⟩:=zad.some hu (by simpa using hN);rw [List.length_map,List.length_range]at x0;have HU:=zHi hu;clear hcell hrl hR1 hu hb0;gi_wp2_with (gi_at_builtin;refine stop ?_)
   unfold Stop;refine zfC (ty:=32) (sz:=2) (bytes:=32) wr rfl _ _ rfl u128 i32' i32z i32s i32b rfl (by decide) (by decide) wr.heap.size (Nat.le_refl _) (.slice none 0 0) [] rfl (OwnR.nil _ _ _ _ _) au cu ((List.range N).map (A0 i)) (by simp;rfl) HU.out (by simpa using hN) (fun b r w h=>IZ.one h) (fun b r w1 w2 ht=>IZ.touch ht rfl b r) (by simp;omega) ?_;intro v5 w5 HO5 HK5 HB5;obtain⟨rvs,hm⟩:=HM.out;have hb5:=HB5.out wr.heap.size wr (Below.refl _ _) (Nat.le_refl _);have hm5:=hm.below hb5 (IZ.below hb5);have hlen:rvs.length=i:=by rw [←hm.len,List.length_take,zal];omega
   have hblk:∀(i:Nat) (u':Value) (b:Nat),rvs[i]? = some u'→u'.ownBlock=some b→b<wr.heap.size:=fun k u' b q1 q2=>by
    have hk:k<((tab m N A0).take i).length:=by rw [hm.len];exact(List.getElem?_eq_some_iff.1 q1).1
    exact(hm.row k u' _ q1 (List.getElem?_eq_getElem hk)).lt q2
   have HBlk:=zHi hblk;have HLen:=zHi hlen;obtain⟨oo,co,hof⟩:=hm.top.form;rw [hlen]at hof;subst hof;have HM5:=zHi hm5;have HB15:=zBt HBr hb5;have hwr:=HBr.out.size;obtain⟨o5,c5,hv5⟩:=HO5.out.form;rw [List.nil_append,List.length_map,List.length_range]at hv5;subst hv5;clear hm hm5 hlen hblk hb5 HK5 HB5 x0;gi_wp2_with (gi_at_builtin;refine stop ?_)
   unfold Stop;refine zng w5 u121 rfl _ _ rfl W4.heap.size wr.heap.size HB15.out.size (.slice oo i co) rfl HM5.out _ HO5.out hwr (by simpa using hN) HBlk.out _ rfl (by rw [HLen.out];omega) ?_;intro v6 w6 HM6 HB6;have HB7:=zHi (HB6.out W4.heap.size W4 HB15.out (Nat.le_refl _));have HM7:Hid (∃rvs,zav w6 W4.heap.size 128 32 2 IZ v6 rvs ((tab m N A0).take (i+1))):=zHi ⟨_,by rw [zfL hin];exact HM6.out⟩;gi_wp2;exact⟨⟨i+1,by go_num,by omega,HM7,HB7⟩,by simp only [intOf];omega⟩
  ·have hi2:m=i:=by omega
   subst hi2;gi_wp2_with (gi_at_call 22;refine stop ?_)
   refine(za6 _ 1 (by decide) (by decide)).mono ?_;rintro e w1 ⟨v1,rfl,hz1,hB1⟩;obtain⟨s1,o1,k1,c1,rfl⟩:=hz1.form;obtain⟨g8,hg8⟩:∃g,w1.heap.size=g:=⟨_,rfl⟩;obtain⟨rvs,hm⟩:=HM.out;rw [List.take_of_length_le (by rw [zal];exact Nat.le_refl _)]at hm;obtain⟨g,cv,hu5⟩:∃g c,u5 = .slice (some ⟨g,0,none⟩) m c:=by
    have hl:rvs.length=m:=by rw [←hm.len,zal]
    obtain⟨g',c',e,_⟩:=hm.top.own (by omega);exact⟨g',c',by rw [e,hl]⟩
   subst hu5;have hb01:=HBr.out.trans (hB1.mono HBr.out.size);obtain⟨fr,hfr⟩:=HA4.out;have HRf:Hid (∃vp P,RfS w g4 g8 W4.heap.size g cv m N vp P (rRun m A0 0) (zaV m A0 0) (w1.alloc (.cells #[.slice none 0 0,.slice none 0 0,.bool s1,.slice o1 k1 c1,.int .i64 0] 125))):=by
    have hb2:=zaa w1 (.cells #[.slice none 0 0,.slice none 0 0,.bool s1,.slice o1 k1 c1,.int .i64 0] 125);have hb12:=hb01.trans (hb2.mono hb01.size);have hm2:=(hm.below hB1 (IZ.below hB1)).below hb2 (IZ.below hb2);refine zHi ⟨.slice none 0 0,none,HB4.out.trans (hb12.mono HB4.out.size),⟨fr,hfr.below HE4.out.lt hb12⟩,HE4.out.below hb12 HE4.out.lt,⟨s1,o1,k1,c1,?_,IZp.none (IZ.below hb2 _ _ (show IZ 1 [.bool s1,.slice o1 k1 c1] w1 from hz1))⟩,?_,⟨rvs,hm2.imp (fun _ _ q=>IZp.none q)⟩,OwnR.nil _ _ _ _ _,rfl⟩
    ·rw [←hg8];refine zaj.new w1 #[.slice none 0 0,.slice none 0 0,.bool s1,.slice o1 k1 c1,.int .i64 0] 125 (fun i hi => ?_);have:i=0∨i=1∨i=2∨i=3∨i=4:=by omega
     rcases this with rfl|rfl|rfl|rfl|rfl <;> rfl
    ·rw [←hg8];exact zaB _ _ _
   have hg48:g4<W4.heap.size∧W4.heap.size≤g8:=⟨by rw [HS4.out];omega,by rw [←hg8];exact hb01.size⟩;have HG8:=zHi hg8;clear hfr hb01 hm hg8 hB1 hz1 HM HBr;gi_wp2;rw [HG8.out];gi_loopw [9] (fun x9 wr=>∃cc:Nat,x9 = .int .i64 (cc:Int)∧cc≤columns∧Hid (∃vp P,RfS w g4 g8 W4.heap.size g cv m N vp P (rRun m A0 cc) (zaV m A0 cc) wr)) (fun x _=>columns-(intOf x).toNat)
   case atStart=>exact⟨0,rfl,by omega,HRf⟩
   case round=>
    obtain⟨cc,rfl,hcc,HRr⟩:=hrel;clear HRf;obtain⟨vp,P,hS⟩:=HRr.out;obtain⟨s,o,k,c2,hform,hlast⟩:=hS.form;obtain⟨ov,cvp,hvp⟩:=hS.pv.form;rw [zcP]at hvp;obtain⟨kk,hkk⟩:∃kk,(rRun m A0 cc).k=kk:=⟨_,rfl⟩;have hk9:kk≤m:=by rw [←hkk];exact(zi2 _ _ _).1
    rw [hkk]at hvp;have HKK:=zHi hkk;subst hvp;obtain⟨tt,htt⟩:∃tt,(rRun m A0 cc).turns=tt:=⟨_,rfl⟩;have HTT:=zHi htt;rw [htt]at hform;have z0:wr.cell? ⟨g8,0,none⟩=some (.slice none 0 0):=(hform 0 (by omega)).1;have z1:wr.cell? ⟨g8,1,none⟩=some (.slice ov kk cvp):=(hform 1 (by omega)).1;have z2:wr.cell? ⟨g8,2,none⟩=some (.bool s):=(hform 2 (by omega)).1;have z3:wr.cell? ⟨g8,3,none⟩=some (.slice o k c2):=(hform 3 (by omega)).1;have z4:wr.cell? ⟨g8,4,none⟩=some (.int .i64 (tt:Int)):=(hform 4 (by omega)).1;have y0:=(hform 0 (by omega)).2;have HLast:=zHi hlast;obtain⟨fr,hfr⟩:=hS.ret;have HFR:=zHi hfr;have HS:=zHi hS;have hne48:g4≠g8:=by omega
    clear hform hlast hS hkk htt hfr;by_cases hgo:cc<columns∧kk<m
    ·obtain⟨hlt,hkm⟩:=hgo;gi_wp2;obtain⟨W0,hW0⟩:∃W,wr=W:=⟨_,rfl⟩;rw [hW0]at HS HLast HFR z0 z1 z2 z3 z4 y0;rw [hW0];clear hW0 HRr;gi_loopw [11] (fun x11 wr=>∃i:Nat,x11 = .int .i64 (i:Int)∧kk≤i∧i≤m∧Hid (∀j,kk≤j→j<i→nzA (rRun m A0 cc).A cc j=false)∧Hid (Below W0.heap.size W0 wr)) (fun x _=>m-(intOf x).toNat)
     case atStart=>exact⟨kk,rfl,Nat.le_refl _,hk9,zHi (fun j h1 h2=>by omega),Below.refl _ _⟩
     case round=>
      obtain⟨i,rfl,hki,him,HZ,HBx⟩:=hrel;by_cases hin:i<m
      ·have hSx:=HS.out.under HBx.out;obtain⟨b,cb,hc,hr⟩:=hSx.row hin hN;rw [Addr.add_lit,Nat.zero_add,Nat.mul_one]at hc;obtain⟨si,oi,ki,ci,p0,p1,hI⟩:=hr.itemZ (show cc<N by omega);obtain⟨z,hz⟩:∃z,(rRun m A0 cc).A i cc=z:=⟨_,rfl⟩;rw [hz]at hI;have HI:=zHi hI.1;have HZZ:=zHi hz;clear hSx hr hI hz;gi_wp2_with (gi_at_call 72;refine stop ?_)
       refine(zfg wr _ z HI.out).mono ?_;rintro e w6 ⟨rfl,hB6⟩;have HB6:=zBt HBx hB6;clear hB6 hc p0 p1;by_cases hz0:z=0
       ·have hd:(z.sign == 0)=true:=by rw [hz0];rfl
        have hd':decide (z.sign=0)=true:=by rw [hz0];rfl
        have HZ2:Hid (∀j,kk≤j→j<i+1→nzA (rRun m A0 cc).A cc j=false):=zHi (fun j q1 q2=>by
         rcases Nat.lt_or_ge j i with q3|q3
         ·exact HZ.out j q1 q3
         ·have:j=i:=by omega
          rw [this];unfold nzA;rw [HZZ.out];exact decide_eq_false (fun q=>q hz0))
        gi_wp2;exact⟨⟨i+1,by go_num,by omega,by omega,HZ2,HB6⟩,by simp only [intOf];omega⟩
       ·have hs0:z.sign≠0:=fun q=>hz0 (Int.sign_eq_zero_iff_zero.1 q)
        have hd:(z.sign == 0)=false:=by rw [beq_eq_false_iff_ne];exact hs0
        have hd':decide (z.sign=0)=false:=decide_eq_false hs0;have HRow:Hid (rRow m cc (rRun m A0 cc)=i):=zHi (zp1 (by rw [HKK.out];exact hki) him (fun j q1 q2=>HZ.out j (by rw [←HKK.out];exact q1) q2) (.inr (by unfold nzA;rw [HZZ.out];exact decide_eq_true hz0)));obtain⟨t1,ht1⟩:∃t1:RS,t1=⟨fun i'=>(rRun m A0 cc).A (zaM kk i i'),(rRun m A0 cc).last,(rRun m A0 cc).turns+(if i=kk then 0 else 1),kk⟩:=⟨_,rfl⟩;have hlast1:t1.last=(rRun m A0 cc).last:=by rw [ht1]
        have HT1:Hid (rRun m A0 (cc+1)=⟨zcX t1.A kk cc t1.last,t1.A kk cc,t1.turns,kk+1⟩∧zaV m A0 (cc+1)=zaV m A0 cc ++ [cc]):=by
         have hne:¬rRow m cc (rRun m A0 cc)=m:=by rw [HRow.out];omega
         refine zHi ⟨?_,?_⟩
         ·show zeF m cc (rRun m A0 cc)=_
          unfold zeF;rw [if_neg hne,HRow.out,HKK.out,ht1];have:(rRun m A0 cc).A i cc=(rRun m A0 cc).A (zaM kk i kk) cc:=by unfold zaM;rw [if_pos rfl]
          rw [this]
         ·show(if rRow m cc (rRun m A0 cc)=m then zaV m A0 cc else _)=_
          rw [if_neg hne]
        have HSZ1:Hid (t1.last≠0∧t1.last.natAbs<B^L∧∀i j,i<m→j<N→(t1.A i j).natAbs<B^L):=by
         obtain⟨q1,q2,q3⟩:=HSZ.out cc (by omega);refine zHi ⟨by rw [hlast1];exact q1,by rw [hlast1];exact q2,fun i' j' hi' hj' => ?_⟩;rw [ht1];refine q3 _ j' ?_ hj';unfold zaM;split
         ·exact hin
         ·split
          ·exact hkm
          ·exact hi'
        have hS6:=HS.out.under HB6.out;have hgw:w.heap.size≤g:=by
         have:=(hS6.topB h0).1;have:=HB4.out.size;omega
        have hgw8:w.heap.size≤g8:=by
         have:=HB4.out.size;omega
        by_cases hik:kk=i
        case' pos=>
         subst hik;have HS20:Hid (RfS w g4 g8 W4.heap.size g cv m N (.slice ov kk cvp) P t1 (zaV m A0 cc) w6):=zHi (hS6.zAs (fun i j _ _=>by rw [ht1];show _=(rRun m A0 cc).A (zaM kk kk i) j;rw [zoD]) hlast1.symm (by rw [ht1,if_pos rfl];rfl));obtain⟨bk,ck,hck,hrk⟩:=HS20.out.row hkm hN;rw [Addr.add_lit,Nat.zero_add,Nat.mul_one]at hck;obtain⟨sp,op,kp,cp,p0,p1,hI⟩:=hrk.itemZ (show cc<N by omega);have HP20:=zHi hI;obtain⟨W20,hW20⟩:∃W,w6=W:=⟨_,rfl⟩;rw [hW20]at HS20 HP20 hck p0 p1;rw [hW20];have hem:decide ((kk:Int)=(m:Int))=false:=decide_eq_false (by omega);clear hS6 hrk hI ht1 HBx HRow HZZ HI hs0 HZ HS HB6 hW20;gi_wp2
        case' neg=>
         have hd8:decide ((i:Int)=(m:Int))=false:=decide_eq_false (by omega);have hd7:decide ((i:Int)=(kk:Int))=false:=decide_eq_false (by omega);obtain⟨bi,ci,hci,_⟩:=hS6.row hin hN;obtain⟨bk,ck,hck,_⟩:=hS6.row hkm hN;obtain⟨th1,th2,hS8⟩:=hS6.swap hgw hN (k:=i) (r:=kk) hin hkm (Ne.symm hik) hci hck;rw [Nat.mul_one]at th1;rw [Nat.mul_one,Nat.mul_one]at th2 hS8;rw [Addr.add_lit,Nat.zero_add,Nat.mul_one]at hci hck;have TH1:=zHi th1;have TH2:=zHi th2;have HS8:=zHi hS8;clear hS6 hS8 th1 th2 HB6 HBx HZZ HI HZ;gi_wp2_with (with_reducible refine znB ?_)
         unfold Stop;refine za2 (w6.setCells g i [.slice (some ⟨bk,0,none⟩) N ck]) rfl rfl (znA (g:=g) (o:=i) (v:=.slice (some ⟨bk,0,none⟩) N ck) rfl rfl TH1.out) ?_;obtain⟨W7,hW7⟩:∃W,w6.setCells g i [.slice (some ⟨bk,0,none⟩) N ck]=W:=⟨_,rfl⟩;rw [hW7]at TH2 HS8;rw [hW7];clear hW7 hci hck TH1;gi_wp2_with (with_reducible refine znB ?_)
         unfold Stop;refine za2 (W7.setCells g kk [.slice (some ⟨bi,0,none⟩) N ci]) rfl rfl (znA (g:=g) (o:=kk) (v:=.slice (some ⟨bi,0,none⟩) N ci) rfl rfl TH2.out) ?_;obtain⟨W8,hW8⟩:∃W,W7.setCells g kk [.slice (some ⟨bi,0,none⟩) N ci]=W:=⟨_,rfl⟩;rw [hW8]at HS8;rw [hW8];obtain⟨sl,ol,kl,cl,hfl,_⟩:=HS8.out.form;have z4:W8.cell? ⟨g8,4,none⟩=some (.int .i64 (tt:Int)):=by rw [←HTT.out];exact(hfl 4 (by omega)).1
         have y4:=(hfl 4 (by omega)).2;have HS9:=zHi (HS8.out.turned hgw8 hne48);clear hW8 hfl TH2;gi_wp2_with (with_reducible refine zs8 ?_)
         unfold Stop;refine za2 (W8.setCell ⟨g8,4,none⟩ (.int .i64 ((tt+1:Nat):Int))) (p:=.pointer (some ⟨g8,4,none⟩)) (v:=.int .i64 ((tt+1:Nat):Int)) rfl ?_ ?_ ?_
         ·refine(congrArg (Value.int .i64) (?_:(_:Int)=_));have htb:=(zi2 m A0 cc).2;have htk:=zi1 m A0 cc;rw [HTT.out]at htk;rw [show((tt:Int)+1)=((tt+1:Nat):Int)from rfl];exact zeq (by omega)
         ·refine zs7 rfl rfl (fun j hj => ?_);have:j=0:=by omega
          subst this;exact⟨by rw [z4];rfl,y4⟩
         have HS20:Hid (RfS w g4 g8 W4.heap.size g cv m N (.slice ov kk cvp) P t1 (zaV m A0 cc) (W8.setCell ⟨g8,4,none⟩ (.int .i64 ((tt+1:Nat):Int)))):=by
          have q:=HS9.out;rw [HTT.out]at q;exact zHi (q.zAs (fun i' j' _ _=>by rw [ht1]) hlast1.symm (by rw [ht1];show tt+1=(rRun m A0 cc).turns+(if i=kk then 0 else 1);rw [HTT.out,if_neg (Ne.symm hik)]))
         obtain⟨W20,hW20⟩:∃W,W8.setCell ⟨g8,4,none⟩ (.int .i64 ((tt+1:Nat):Int))=W:=⟨_,rfl⟩;rw [hW20]at HS20;rw [hW20];clear hW20 HS9 HS8 z4 y4;obtain⟨bk,ck,hck,hrk⟩:=HS20.out.row hkm hN;rw [Addr.add_lit,Nat.zero_add,Nat.mul_one]at hck;obtain⟨sp,op,kp,cp,p0,p1,hI⟩:=hrk.itemZ (show cc<N by omega);have HP20:=zHi hI;clear hrk hI ht1 HRow hs0 HS hd7 hd8;gi_wp2
        all_goals
         obtain⟨g13,hg13⟩:∃g,W20.heap.size=g:=⟨_,rfl⟩;have HG13:=zHi hg13;rw [hg13];obtain⟨W21,hW21⟩:∃W,W20.alloc (.cells #[.bool sp,.slice op kp cp] 32)=W:=⟨_,rfl⟩;have HE0:Hid (ElS w g4 g8 W4.heap.size g cv m N (.slice ov kk cvp) P t1 (zaV m A0 cc) W20 g13 sp op kp cp kk cc 0 0 W21):=by
          have hb:=zaa W20 (.cells #[.bool sp,.slice op kp cp] 32);rw [hW21]at hb;refine zHi ⟨(HS20.out.under hb).zAs (fun i j _ _=>by show t1.A i j=zdt t1.A kk cc t1.last 0 0 i j;rw [zpa]) rfl rfl,?_,?_,IZp.below hb _ _ HP20.out,hb.block g (HS20.out.topB h0).2.1⟩
          ·rw [←hW21,←hg13];exact zaU _ _ _
          ·rw [←hW21,←hg13];exact zaB _ _ _
         rw [hW21];clear hW21 hck p0 p1 hg13;gi_loopw [14] (fun x14 wr=>∃i:Nat,x14 = .int .i64 (i:Int)∧i≤m∧Hid (ElS w g4 g8 W4.heap.size g cv m N (.slice ov kk cvp) P t1 (zaV m A0 cc) W20 g13 sp op kp cp kk cc i 0 wr)) (fun x _=>m-(intOf x).toNat)
         case atStart=>exact⟨0,rfl,by omega,HE0⟩
         case round=>
          obtain⟨i,rfl,hi,HE⟩:=hrel;clear HE0;by_cases hin2:i<m
          ·by_cases hik2:i=kk
           ·have hd9:decide ((i:Int)=(kk:Int))=true:=decide_eq_true (by omega);have HE2:Hid (ElS w g4 g8 W4.heap.size g cv m N (.slice ov kk cvp) P t1 (zaV m A0 cc) W20 g13 sp op kp cp kk cc (i+1) 0 wr):=zHi ⟨HE.out.st.zAs (fun i' j' _ _=>by rw [hik2];exact zpb) rfl rfl,HE.out.box,HE.out.el,HE.out.piv,HE.out.top⟩;gi_wp2;exact⟨⟨i+1,by go_num,by omega,HE2⟩,by simp only [intOf];omega⟩
           ·have hd9:decide ((i:Int)=(kk:Int))=false:=decide_eq_false (by omega);obtain⟨b,cb,hcb,hrb,hb13,hEb⟩:=HE.out.row HS20.out HG13.out hin2 hN;rw [Addr.add_lit,Nat.zero_add,Nat.mul_one]at hcb;obtain⟨sf,of,kf,cf,p0,p1,hI⟩:=hrb.itemZ (show cc<N by omega);rw [zog hik2 (Nat.zero_le _)]at hI;have HIf:=zHi hI.1;have HHC:=zHi hcb;have hcA:(wr.alloc (.cells #[.bool sf,.slice of kf cf] 32)).cell? ⟨g,i,none⟩=some (.slice (some ⟨b,0,none⟩) N cb):=((zaa wr _).cell (p:=⟨g,i,none⟩) (World.block_lt_of_cell? _ _ hcb)).trans hcb;clear hrb hI;gi_wp2;clear hcA;obtain⟨g15,hg15⟩:∃g,wr.heap.size=g:=⟨_,rfl⟩;have HG15:=zHi hg15;rw [hg15];obtain⟨W22,hW22⟩:∃W,wr.alloc (.cells #[.bool sf,.slice of kf cf] 32)=W:=⟨_,rfl⟩;have hbx:=zaa wr (.cells #[.bool sf,.slice of kf cf] 32);rw [hW22]at hbx;have HE1:Hid (ElS w g4 g8 W4.heap.size g cv m N (.slice ov kk cvp) P t1 (zaV m A0 cc) W20 g13 sp op kp cp kk cc i 0 W22):=zHi (HE.out.under h0 hbx);have HF1:Hid (BoxL W22 g15 [.bool sf,.slice of kf cf]∧IZ (t1.A i cc) [.bool sf,.slice of kf cf] W22):=zHi ⟨by rw [←hW22,←hg15];exact zaU _ _ _,IZ.below hbx _ _ HIf.out⟩;have hg1315:g13<g15:=by rw [←hg15];exact HE.out.el.lt
            have HCB0:Hid (W22.cell? ⟨g,i,none⟩=some (.slice (some ⟨b,0,none⟩) N cb)):=zHi ((hbx.cell (p:=⟨g,i,none⟩) (World.block_lt_of_cell? _ _ hcb)).trans hcb);rw [hW22];clear hW22 hbx hg15 hcb p0 p1 HIf HHC;gi_loopw [17] (fun x17 wx=>∃j:Nat,x17 = .int .i64 (j:Int)∧j≤N∧Hid (ElS w g4 g8 W4.heap.size g cv m N (.slice ov kk cvp) P t1 (zaV m A0 cc) W20 g13 sp op kp cp kk cc i j wx)∧Hid (BoxL wx g15 [.bool sf,.slice of kf cf]∧IZ (t1.A i cc) [.bool sf,.slice of kf cf] wx)∧Hid (wx.cell? ⟨g,i,none⟩=some (.slice (some ⟨b,0,none⟩) N cb))) (fun x _=>N-(intOf x).toNat)
            case atStart=>exact⟨0,rfl,by omega,HE1,HF1,HCB0⟩
            case round=>
             obtain⟨j,rfl,hj,HX,HF,HCB⟩:=hrel;clear HE1 HF1 HCB0;by_cases hjn:j<N
             ·gi_wp2;have hbd:=zab wr;obtain⟨W1,hW1⟩:∃W,wr.drew=W:=⟨_,rfl⟩;rw [hW1]at hbd;have hX1:=HX.out.under h0 hbd;have hF1:=HF.out.1.below hbd;have hF2:=IZ.below hbd _ _ HF.out.2;have hc0:W1.cell? ⟨g,i,none⟩=some (.slice (some ⟨b,0,none⟩) N cb):=(hbd.cell (p:=⟨g,i,none⟩) (World.block_lt_of_cell? _ _ HCB.out)).trans HCB.out;obtain⟨b',cb',hcb,hrb,hb13',hEb'⟩:=hX1.row HS20.out HG13.out hin2 hN;have hcb':=hcb;rw [Addr.add_lit,Nat.zero_add,Nat.mul_one,hc0]at hcb'
              cases hcb'
              obtain⟨sx,ox,kx,cx,px0,px1,hIx⟩:=hrb.itemZ hjn;rw [zog hik2 (Nat.le_refl _)]at hIx;obtain⟨bk,ck,hck,hrk,_,_⟩:=hX1.row HS20.out HG13.out hkm hN;obtain⟨sy,oy,ky,cy,py0,py1,hIy⟩:=hrk.itemZ hjn;rw [zqN]at hIy;obtain⟨sl,ol,kl,cl,hfl,hIl⟩:=hX1.st.form;obtain⟨q1,q2,q3⟩:=HSZ1.out;obtain⟨z1,z2,z3⟩:=zpK (L:=L) (q3 kk cc hkm (by omega)) (q3 i j hin2 hjn) (q3 i cc hin2 (by omega)) (q3 kk j hkm hjn);have hPl:∀p,P=some p→p<W1.heap.size:=fun p hp=>by
               have hpb:=hX1.st.pb;rw [hp]at hpb;exact hX1.st.pv.lt hpb
              refine zap (ro:=none) [7,16,17,20,22] [0,1,2,3,4,5,6,8,9,10,11,12,13,14,15,18,19,7,16,17,20,21,22] [0,0,0,0,0,24,56,124,0,0,0,1536,3584,0,15872,32256,65532,131068,0,262144,1048572,2097151,4194303] zaq rfl 163 rfl (by kernel_rfl) (by kernel_rfl) ?_;rw [hW1];refine OV.mv (v:=.slice (some ⟨b,0,none⟩) N cb) rfl rfl rfl rfl ?_;refine OV.mv (v:=.int .i64 (j:Int)) rfl rfl rfl rfl ?_;refine OV.ldn [.bool sp,.slice op kp cp] lm32 hX1.box.at' rfl rfl rfl rfl rfl (by decide) rfl ?_;refine OV.mv (v:=.slice (some ⟨b,0,none⟩) N cb) rfl rfl rfl rfl ?_;refine OV.mv (v:=.int .i64 (j:Int)) rfl rfl rfl rfl ?_;refine OV.idx zmQ hjn rfl rfl rfl rfl rfl ?_;refine OV.ldn [.bool sx,.slice ox kx cx] lm32 (zgp px0 px1) rfl rfl rfl rfl rfl (by decide) rfl ?_;refine OV.ldn [.bool sf,.slice of kf cf] lm32 hF1.at' rfl rfl rfl rfl rfl (by decide) rfl ?_;refine OV.mv (v:=.slice (some ⟨g,0,none⟩) m cv) rfl rfl rfl rfl ?_;refine OV.mv (v:=.int .i64 (kk:Int)) rfl rfl rfl rfl ?_;refine OV.idx zqx hkm rfl rfl rfl rfl rfl ?_;refine OV.ld zqq hck rfl rfl rfl rfl rfl ?_;refine OV.mv (v:=.int .i64 (j:Int)) rfl rfl rfl rfl ?_;refine OV.idx zmQ hjn rfl rfl rfl rfl rfl ?_;refine OV.ldn [.bool sy,.slice oy ky cy] lm32 (zgp py0 py1) rfl rfl rfl rfl rfl (by decide) rfl ?_;refine OV.fld ztD rfl rfl rfl rfl ?_;refine OV.ldn [.bool sl,.slice ol kl cl] lm32 (zgp (o:=2) (hfl 2 (by omega)).1 (hfl 3 (by omega)).1) rfl rfl rfl rfl rfl (by decide) rfl ?_;refine OV.call [.agg #[.bool sp,.slice op kp cp],.agg #[.bool sx,.slice ox kx cx]] Tryz.func92 rfl zah rfl rfl rfl rfl rfl (zda _ _ _ _ _ hX1.piv.1 hIx.1 (zkR (q3 kk cc hkm (by omega)) hL) (zkR (q3 i j hin2 hjn) hL)) fun v2 w2 h2 hB2 => ?_
              refine OV.call [.agg #[.bool sf,.slice of kf cf],.agg #[.bool sy,.slice oy ky cy]] Tryz.func92 rfl zah rfl rfl rfl rfl rfl (zda _ _ _ _ _ (IZ.below hB2 _ _ hF2) (IZp.below hB2 _ _ hIy).1 (zkR (q3 i cc hin2 (by omega)) hL) (zkR (q3 kk j hkm hjn) hL)) fun v3 w3 h3 hB3 => ?_
              refine OV.call [v2,v3] Tryz.func95 rfl zah rfl rfl rfl rfl rfl (ziJ _ _ _ _ _ (h2.below hB3) h3 (zsZ z1 hL) (zsZ z2 hL)) fun v4 w4 h4 hB4 => ?_
              have hb14:=(hB2.trans (hB3.mono hB2.size)).trans (hB4.mono (Nat.le_trans hB2.size hB3.size));refine OV.call [v4,.agg #[.bool sl,.slice ol kl cl]] Tryz.func119 rfl zah rfl rfl rfl rfl rfl (zou _ _ _ _ _ (2*L+1) h4 (IZp.below hb14 _ _ hIl).1 z3 (up q2 (by omega)) (by omega) (by rw [Ne,Int.natAbs_eq_zero];exact q1)) fun v5 w5 h5 hB5 => ?_
              have hb15:=hb14.trans (hB5.mono hb14.size);obtain⟨hz5,hf5⟩:=h5;rw [zrn]at hz5;obtain⟨s5,o5,k5,c5,rfl⟩:=hz5.form;have hI5:=IZp.fresh (P:=P) hz5 hf5 (fun p hp=>Nat.lt_of_lt_of_le (hPl p hp) hb14.size);have hX5:=hX1.under h0 hb15;have hcb5:w5.cell? ((⟨g,0,none⟩:Addr).add (i*1))=some (.slice (some ⟨b,0,none⟩) N cb):=(hb15.cell (p:=(⟨g,0,none⟩:Addr).add (i*1)) (World.block_lt_of_cell? _ _ hcb)).trans hcb;obtain⟨hX6,hth,hbut,hK⟩:=hX5.store (j:=j) HB4.out.size h0 hin2 hjn hik2 hcb5 (Nat.ne_of_lt hb13') (hEb'.below hb15 hEb'.lt) rfl hI5 rfl;refine OV.idx zmQ hjn rfl rfl rfl rfl rfl ?_;refine OV.st (w':=w5.setCells b (j*2) [.bool s5,.slice o5 k5 c5]) trivial (zrk hth (by simp [Value.oneCell'])) rfl rfl rfl rfl rfl ?_;refine OV.done ?_;have hF5:=(hF1.below hb15).but hbut (show g15≠b by omega);have hF6:=IZp.kept (P:=none) hK _ _ (IZp.none (IZ.below hb15 _ _ hF2));have hgE:=(hX5.st.topB h0).2.2;have hcb6:=hbut.cell (p:=⟨g,i,none⟩) hgE.lt (hgE.ne (hEb'.below hb15 hEb'.lt) (by decide));rw [show w5.cell? ⟨g,i,none⟩=_ from(hb15.cell (p:=⟨g,i,none⟩) (World.block_lt_of_cell? _ _ hc0)).trans hc0]at hcb6;have HX6:=zHi hX6;have HF6:=zHi (And.intro hF5 hF6.1);have HCB6:=zHi hcb6;simp only [zbo,Go.Act.put,ztQ,ztR,ztS];clear hF5 hF6 hgE hcb6 hX6 hth hbut hK hcb5 hX5 hI5 hz5 hf5 hb15 hB5 hb14 h4 hB4 h3 hB3 h2 hB2 hPl z1 z2 z3 q1 q2 q3 hfl hIl hIy py0 py1 hrk hck hIx px0 px1 hrb hcb hc0 hF1 hF2 hX1 hbd hW1;gi_wp2;exact⟨⟨j+1,by go_num,by omega,HX6,HF6,HCB6⟩,by simp only [intOf];omega⟩
             ·have hjN:j=N:=by omega
              have HE2:Hid (ElS w g4 g8 W4.heap.size g cv m N (.slice ov kk cvp) P t1 (zaV m A0 cc) W20 g13 sp op kp cp kk cc (i+1) 0 wr):=zHi ⟨HX.out.st.zAs (fun i' j' _ hj'=>by rw [hjN];exact zqM hj') rfl rfl,HX.out.box,HX.out.el,HX.out.piv,HX.out.top⟩;gi_wp2;exact⟨⟨i+1,by go_num,by omega,HE2⟩,by simp only [intOf];omega⟩
          ·have him2:i=m:=by omega
           subst him2;have q0:=HE.out.box.2 0 _ rfl;have q1:=HE.out.box.2 1 _ rfl;obtain⟨t2,ht2⟩:∃t2:RS,t2=⟨zcX t1.A kk cc t1.last,t1.last,t1.turns,t1.k⟩:=⟨_,rfl⟩;have hS30:RfS w g4 g8 W4.heap.size g cv i N (.slice ov kk cvp) P t2 (zaV i A0 cc) wr:=HE.out.st.zAs (fun i' j' hi' _=>by rw [ht2];exact zqO hi') (by rw [ht2]) (by rw [ht2]);have hS31:=hS30.lasts hgw8 hne48 HE.out.piv;obtain⟨sl,ol,kl,cl,hfl,_⟩:=hS30.form;have hth:wr.there g8 2 2:=fun j hj=>by
            have:j=0∨j=1:=by omega
            rcases this with rfl|rfl
            ·exact⟨by rw [(hfl 2 (by omega)).1];rfl,(hfl 2 (by omega)).2⟩
            ·exact⟨by rw [(hfl 3 (by omega)).1];rfl,(hfl 3 (by omega)).2⟩
           have HTH:=zHi hth;have HS31:=zHi hS31;clear hfl hS30 hS31 hth;gi_wp2_with (with_reducible refine zpC ?_)
           unfold Stop;refine za2 (wr.setCells g8 2 [.bool sp,.slice op kp cp]) rfl rfl (zgk HTH.out (by simp [Value.oneCell'])) ?_;obtain⟨W32,hW32⟩:∃W,wr.setCells g8 2 [.bool sp,.slice op kp cp]=W:=⟨_,rfl⟩;have hW32':(wr.setCell ⟨g8,2,none⟩ (.bool sp)).setCell ⟨g8,3,none⟩ (.slice op kp cp)=W32:=hW32;rw [hW32']at HS31;rw [hW32];obtain⟨sl,ol,kl,cl,hfl,_⟩:=HS31.out.form;have z1:W32.cell? ⟨g8,1,none⟩=some (.slice ov kk cvp):=(hfl 1 (by omega)).1;clear hfl hW32 hW32' q0 q1 HTH;gi_wp2_with (gi_at_builtin;refine stop ?_)
           unfold Stop;refine zl8 (ty:=3) (sz:=1) (bytes:=8) W32 rfl _ _ rfl u29' zd0 zfl zev zd1 rfl (by decide) (by decide) (g8+1) (HS31.out.e8.lt) (.slice ov kk cvp) _ rfl HS31.out.pv cc [.int .i64 (cc:Int)] _ rfl rfl (by simp [Value.oneCell']) rfl (fun _ _ _ _ _ h=>h) (by rw [zcP,HKK.out];omega) ?_;intro v' w' HO HBk HBel HMv;have hfr:∀b,b≤g8→b<W32.heap.size→w'.heap[b]? = W32.heap[b]?:=fun b hb hl=>HBk.out.2 b hl (fun e=>by have:=(HS31.out.pv.blk e.symm).1;omega)
           obtain⟨sl,ol,kl,cl,hfl,_⟩:=HS31.out.form;have hf':=hfl.other (hfr g8 (Nat.le_refl _) HS31.out.e8.lt);have d0:=(hf' 1 (by omega)).1;have d1:=(hf' 1 (by omega)).2;have HS33:=zHi (HS31.out.push hgw8 hne48 HO.out HBk.out (HBel.out _ _ HS31.out.below (by omega)) HMv.out);have HS34:=zHi (HS33.out.zAs (t':=rRun i A0 (cc+1)) (fun i' j' _ _=>by rw [HT1.out.1,ht2]) (by rw [HT1.out.1]) (by rw [HT1.out.1,ht2]));rw [←HT1.out.2]at HS34;obtain⟨o',c',hvf⟩:=HO.out.form;have hl':(zaV i A0 cc ++ [cc]).length=kk+1:=by rw [List.length_append,zcP,HKK.out];rfl
           rw [hl']at hvf;subst hvf;clear hf' hfl hfr HMv hl' z1;gi_wp2;exact⟨⟨cc+1,by go_num,by omega,zHi ⟨_,_,HS34.out⟩⟩,by simp only [intOf];omega⟩
      ·have hi2:i=m:=by omega
       have hrow:rRow m cc (rRun m A0 cc)=m:=zp1 (by rw [HKK.out];exact hk9) (Nat.le_refl _) (fun j q1 q2=>HZ.out j (by rw [←HKK.out];exact q1) (by omega)) (.inl rfl);have HNx:Hid (rRun m A0 (cc+1)=rRun m A0 cc∧zaV m A0 (cc+1)=zaV m A0 cc):=zHi ⟨by
        show zeF m cc (rRun m A0 cc)=_
        unfold zeF;rw [if_pos hrow],by
        show(if rRow m cc (rRun m A0 cc)=m then zaV m A0 cc else _)=_
        rw [if_pos hrow]⟩
       clear hrow;gi_wp2;exact⟨⟨cc+1,by go_num,by omega,zHi ⟨_,_,by rw [HNx.out.1,HNx.out.2];exact HS.out.under HBx.out⟩⟩,by simp only [intOf];omega⟩
    ·have hend:Hid (rRun m A0 columns=rRun m A0 cc∧zaV m A0 columns=zaV m A0 cc):=zHi (by
      by_cases q:cc=columns
      ·rw [q];exact⟨rfl,rfl⟩
      ·have:=zlh (m:=m) (A0:=A0) (c:=cc) (by rw [HKK.out];omega) (columns-cc);rwa [show cc+(columns-cc)=columns by omega]at this)
     have r0:=(HFR.out 0 (by omega)).1;have r1:=(HFR.out 1 (by omega)).1;have r2:=(HFR.out 2 (by omega)).1;have r3:=(HFR.out 3 (by omega)).1;have r4:=(HFR.out 4 (by omega)).1;have v0:=(HFR.out 0 (by omega)).2;have v1:=(HFR.out 1 (by omega)).2;have v2:=(HFR.out 2 (by omega)).2;have v3:=(HFR.out 3 (by omega)).2;have v4:=(HFR.out 4 (by omega)).2;by_cases hlt:cc<columns
     ·have hkm:¬kk<m:=fun q=>hgo ⟨hlt,q⟩
      gi_wp2;have hO:=HS.out.out (by rw [HG4.out];exact Nat.le_refl _) (by omega) ⟨by omega,by omega,by rw [zcP,HKK.out];omega⟩ (.slice (some ⟨g,0,none⟩) m cv) (.slice (some ⟨g,0,none⟩) m cv) (.slice ov kk cvp) (.bool s) (.slice o k c2) (.int .i64 (tt:Int)) HLast.out;obtain⟨q1,q2,q3,q4,q5⟩:=hO;refine⟨rfl,.agg #[.slice (some ⟨g,0,none⟩) m cv,.slice ov kk cvp,.bool s,.slice o k c2,.int .i64 (tt:Int)],?_,(HR0.out _ _).2 ⟨.slice (some ⟨g,0,none⟩) m cv,.slice ov kk cvp,s,o,k,c2,by rw [hend.out.1,HTT.out],by rw [hend.out.1];exact q1,by rw [hend.out.2];exact q2,by rw [hend.out.1];exact q3,q4⟩⟩;have l125:zcd Tryz.prog 125 5:=zbB (by kernel_rfl) (by kernel_rfl);have e1:=l125 g4 [.slice (some ⟨g,0,none⟩) m cv,.slice ov kk cvp,.bool s,.slice o k c2,.int .i64 (tt:Int)] ((((((wr.setCell ⟨g8,0,none⟩ (.slice (some ⟨g,0,none⟩) m cv)).setCell ⟨g4,0,none⟩ (.slice (some ⟨g,0,none⟩) m cv)).setCell ⟨g4,1,none⟩ (.slice ov kk cvp)).setCell ⟨g4,2,none⟩ (.bool s)).setCell ⟨g4,3,none⟩ (.slice o k c2)).setCell ⟨g4,4,none⟩ (.int .i64 (tt:Int))) rfl q5;simp only [Instr.loadAt,Instr.sureAddr,Sem.run_bind,Sem.run_pure,Result.andThen_ok]at e1;simp [results,asAddr,e1]
     ·gi_wp2;have hO:=HS.out.out (by rw [HG4.out];exact Nat.le_refl _) (by omega) ⟨by omega,by omega,by rw [zcP,HKK.out];omega⟩ (.slice (some ⟨g,0,none⟩) m cv) (.slice (some ⟨g,0,none⟩) m cv) (.slice ov kk cvp) (.bool s) (.slice o k c2) (.int .i64 (tt:Int)) HLast.out;obtain⟨q1,q2,q3,q4,q5⟩:=hO;refine⟨rfl,.agg #[.slice (some ⟨g,0,none⟩) m cv,.slice ov kk cvp,.bool s,.slice o k c2,.int .i64 (tt:Int)],?_,(HR0.out _ _).2 ⟨.slice (some ⟨g,0,none⟩) m cv,.slice ov kk cvp,s,o,k,c2,by rw [hend.out.1,HTT.out],by rw [hend.out.1];exact q1,by rw [hend.out.2];exact q2,by rw [hend.out.1];exact q3,q4⟩⟩;have l125:zcd Tryz.prog 125 5:=zbB (by kernel_rfl) (by kernel_rfl);have e1:=l125 g4 [.slice (some ⟨g,0,none⟩) m cv,.slice ov kk cvp,.bool s,.slice o k c2,.int .i64 (tt:Int)] ((((((wr.setCell ⟨g8,0,none⟩ (.slice (some ⟨g,0,none⟩) m cv)).setCell ⟨g4,0,none⟩ (.slice (some ⟨g,0,none⟩) m cv)).setCell ⟨g4,1,none⟩ (.slice ov kk cvp)).setCell ⟨g4,2,none⟩ (.bool s)).setCell ⟨g4,3,none⟩ (.slice o k c2)).setCell ⟨g4,4,none⟩ (.int .i64 (tt:Int))) rfl q5;simp only [Instr.loadAt,Instr.sureAddr,Sem.run_bind,Sem.run_pure,Result.andThen_ok]at e1;simp [results,asAddr,e1]
end Go.Num
namespace Go.Num
theorem zrs:RatB 1 1 (1:Rat):=⟨1,1,by decide,by show(1:Rat)=((1:Int):Rat)/((1:Int):Rat);grind,by decide,by decide⟩
section
variable {m N X columns:Nat} {A0:Nat→Nat→Int}
theorem zpX{L:Nat}(hX:∀i,i<m→∀j,j<N→(A0 i j).natAbs≤X)(hNX:1≤N*X)(hb:(N*X)^m<B^L)(hcN:columns≤N) :
  ∀c,c≤columns→(rRun m A0 c).last≠0∧(rRun m A0 c).last.natAbs<B^L∧∀i j,i<m→j<N→((rRun m A0 c).A i j).natAbs<B^L:=by
 intro c hc;obtain⟨U,cf,g,h⟩:=zmP (N:=N) (m:=m) (X:=X) (F:=1) (g0:=fun _=>1) (U0:=fun i j=>(A0 i j:Rat)) (P0:=fun i j=>(A0 i j:Rat)) (A0:=A0) (fun _ _ _ _=>rfl) hX (fun _ _=>by decide) (fun _ _=>zrs) (fun _ _ _ _=>by grind) c (by omega);have hd:zaE U cf (pRun m (fun i j=>(A0 i j:Rat)) c).k≠0:=zd7 h.E.piv;have hbd:=zdB.bound h.E h.R hNX;refine⟨fun e => ?_,Nat.lt_of_le_of_lt hbd.1 hb,fun i j hi hj=>Nat.lt_of_le_of_lt (hbd.2 i hi j hj) hb⟩;have:=h.R.last;rw [e]at this;exact hd this.symm
theorem znJ{F:Nat}{g0:Nat→Rat}{U0 P0:Nat→Nat→Rat}(hA:∀i,i<m→∀j,j<N→(A0 i j:Rat)=U0 i j)(hX:∀i,i<m→∀j,j<N→(A0 i j).natAbs≤X)(hg:∀i,i<m→g0 i≠0)(hgF:∀i,i<m→RatB 1 F (g0 i))
  (hP:∀i,i<m→∀j,j<N→P0 i j=g0 i*U0 i j):∀c,c≤N→zaV m A0 c=zaF m P0 c
 | 0,_=>rfl
 | c+1,hc=>by
  obtain⟨U,cf,g,h⟩:=zmP hA hX hg hgF hP c (by omega);have ih:=znJ hA hX hg hgF hP c (by omega);show(if rRow m c (rRun m A0 c)=m then zaV m A0 c else zaV m A0 c ++ [c])=(if pRow m c (pRun m P0 c)=m then zaF m P0 c else zaF m P0 c ++ [c])
  rw [h.row (by omega),ih]
end
end Go.Num
namespace Go.Num
open Go.Eng Go.Shelf Go.RowKit Go.Sort Go.Proofs Go.Proofs.YtoamcgjbelhnkaaGreatDoor
attribute [local go_sem] Oper.semAt_some
theorem zrf{x L:Nat}(h:x<B^L)(hL:L≤20000):x<B^20000:=Nat.lt_of_lt_of_le h (zag (i:=L) (j:=20000) hL)
theorem zb4(a:Addr):a.add 0=a:=by
 unfold Addr.add;split <;> simp_all
structure OBox(w:World)(g:Nat)(ty:TypeId)(xs:List Value):Prop where
 box:BoxL w g xs
 free:∀j,j<xs.length→w.frozen? ⟨g,j,none⟩=false
 el:Elem w g ty
section
variable {w w':World} {g:Nat} {ty:TypeId} {xs ys:List Value}
theorem OBox.new(w:World)(xs:List Value)(ty:TypeId):OBox (w.alloc (.cells xs.toArray ty)) w.heap.size ty xs:=⟨zaU w xs ty,fun j _=>World.frozen?_alloc_new _ _ _ _,zaB _ _ _⟩
theorem OBox.below(h:OBox w g ty xs)(hb:Below w.heap.size w w'):OBox w' g ty xs:=⟨h.box.below hb,fun j hj=>(hb.frozen (p:=⟨g,j,none⟩) h.el.lt).trans (h.free j hj),h.el.below hb h.el.lt⟩
theorem OBox.there(h:OBox w g ty xs):w.there g 0 xs.length:=fun j hj=>by
 rw [Nat.zero_add];exact⟨by rw [h.box.2 j _ (List.getElem?_eq_getElem hj)];rfl,h.free j hj⟩
theorem OBox.store(h:OBox w g ty xs)(hl:ys.length=xs.length):OBox (w.setCells g 0 ys) g ty ys:=by
 have hb:=zai g ys 0 w;have hr:=World.rangeAt_setCells_same w g 0 ys (by rw [hl];exact h.there);refine⟨⟨Nat.lt_of_lt_of_le h.el.lt hb.size,fun j v hj=>by have:=hr j v hj;rwa [Nat.zero_add]at this⟩,fun j hj=>by rw [World.frozen?_setCells];exact h.free j (by omega),?_⟩;suffices H:∀(ys:List Value) (o:Nat) (w:World),Elem w g ty→Elem (w.setCells g o ys) g ty from H ys 0 w h.el
 intro ys;induction ys with
 | nil=>intro o w hc;exact hc
 | cons y ys ih=>intro o w hc;exact ih (o+1) (w.setCell ⟨g,o,none⟩ y) (hc.setCell _ _)
theorem OBox.eq(h:OBox w g ty xs)(e:w'.heap[g]? = w.heap[g]?):OBox w' g ty xs:=by
 refine⟨⟨?_,fun j v hj=>by rw [World.cell?_of_block (a:=⟨g,j,none⟩) e];exact h.box.2 j v hj⟩,fun j hj=>by rw [World.frozen?_of_block (a:=⟨g,j,none⟩) e];exact h.free j hj,h.el.of_block e⟩;obtain⟨cs,fz,hc⟩:=h.el;rw [hc]at e;exact(Array.getElem?_eq_some_iff.1 e).1
end
theorem QAt.form{w:World}{v:Value}{q:Rat}(h:QAt w v q):∃s o1 k1 c1 o2 k2 c2,v = .agg #[.bool s,.slice o1 k1 c1,.bool false,.slice o2 k2 c2]:=by
 obtain⟨m1,m2,e,h1,h2⟩:=h;obtain⟨o1,k1,c1,rfl,_,_⟩:=zaC h1;obtain⟨o2,k2,c2,rfl,_,_⟩:=zaC h2;exact⟨_,o1,k1,c1,o2,k2,c2,e⟩
theorem zso{w:World}{g:Nat}{x0 x1 x2 x3:Value}(ht:w.there g 0 4)(h1:#[x0,x1,x2,x3].all (·.oneCell')=true):(Instr.storeAt 34 (.pointer (some ⟨g,0,none⟩)) (.agg #[x0,x1,x2,x3])).run Tryz.prog w = .ok () (w.setCells g 0 [x0,x1,x2,x3]):=
 run_storeAt_mid w g 0 34 #[x0,x1,x2,x3] ht (by kernel_rfl) h1
theorem zsp{F:Fence}{n:Nat}{P:Program}{ops:Array Oper}{rest:List Oper}{x y:Operand}{ty:TypeId}{ps:String}{af:Array Edge}{a:CAct}{Q:Exit→CAct→World→Prop}{w:World}
  (h:Stop (wpListIn F n P ops Q ({op:=.store 34 x y,dst:=none,type:=ty,pos:=ps,after:=af,guard:=none} :: rest) a w)):wpListIn F n P ops Q ({op:=.store 34 x y,dst:=none,type:=ty,pos:=ps,after:=af,guard:=none} :: rest) a w:=h
theorem QAt.setBox{w:World}{g:Nat}{v:Value}{q:Rat}{ys:List Value}{o:Nat}(h:QAt w v q){ty:TypeId}(he:Elem w g ty)(hty:rs3.contains ty=false):QAt (w.setCells g o ys) v q:=by
 have hk:=(zai g ys o w).kept he hty;obtain⟨m1,m2,e,h1,h2⟩:=h;exact⟨m1,m2,e,h1.kept hk rfl,h2.kept hk rfl⟩
end Go.Num
