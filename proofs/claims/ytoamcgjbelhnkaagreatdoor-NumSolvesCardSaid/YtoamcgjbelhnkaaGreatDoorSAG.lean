/-
  'Cmp' of the program.
  Conditions: see each statement.
-/
import Derived.Test.YtoamcgjbelhnkaaGreatDoorSAE
import Derived.Test.YtoamcgjbelhnkaaGreatDoorSAA
import Derived.Test.YtoamcgjbelhnkaaGreatDoorSAF
import Derived.Lib.SmallJoins
import Derived.RecoverIn
import Derived.Test.YtoamcgjbelhnkaaGreatDoorCards
import Derived.Test.YtoamcgjbelhnkaaGreatDoorTie
import Derived.WalkKit
import Derived.ProofKit
import Derived.OpenShut
import Derived.Deep.DeepHandedRow
import Derived.Lib.LaidTab
import Derived.Stop.LaidErr
import Derived.Lib.ParseIntBCases
import Derived.Lib.AtoiTie
import Derived.Test.YtoamcgjbelhnkaaGreatDoorSAC
import Derived.Lib.IndexMore
set_option maxRecDepth 100000
set_option maxHeartbeats 8000000
namespace Go.Eng
open Go.RowKit
section
variable {P:Program} {ops:Array Oper} {bs bars r:List Nat} {i:Nat} {a:CAct} {w:World} {Q:CAct→World→Prop} {o:Oper}
theorem OW.eqInt{t x2:TypeId}{x y:Operand}{k':IntKind}{p q:Int}{d:Option Tmp}{ty:TypeId}{ps:String}{af:Array Edge}(ho:ops[i]? = some {op:=.binOp .eql t x y x2,dst:=d,type:=ty,pos:=ps,after:=af,guard:=none})(hb:bars.contains i=false)
  (hx:a.eval x = .int k' p) (hy:a.eval y = .int k' q) (h:OW P none ops bs bars Q r (a.put d (.bool (p == q))) w):OW P none ops bs bars Q (i :: r) a w:=
 OW.read ho hb _ (fun w' _=>by
  have:(execOp a.eval {op:=.binOp .eql t x y x2,dst:=d,type:=ty,pos:=ps,after:=af,guard:=none}).run P w' = .ok (.value (.bool (p == q))) w':=by
   unfold execOp;simp only [hx,hy];simp [eqGuard,binOp,Op.intCmp,Sem.run_pure]
  exact this) h
theorem OW.eqStr{t x2:TypeId}{x y:Operand}{p:ByteArray}{d:Option Tmp}{ty:TypeId}{ps:String}{af:Array Edge}(ho:ops[i]? = some {op:=.binOp .eql t x y x2,dst:=d,type:=ty,pos:=ps,after:=af,guard:=none})(hb:bars.contains i=false)
  (hx:a.eval x = .string p) (hy:a.eval y = .string p) (h:OW P none ops bs bars Q r (a.put d (.bool true)) w):OW P none ops bs bars Q (i :: r) a w:=
 OW.read ho hb _ (fun w' _=>by
  have:(execOp a.eval {op:=.binOp .eql t x y x2,dst:=d,type:=ty,pos:=ps,after:=af,guard:=none}).run P w' = .ok (.value (.bool true)) w':=by
   unfold execOp;simp only [hx,hy];simp [eqGuard,binOp,Op.stringOp,Sem.run_pure]
  exact this) h
theorem OW.addStr{t x2:TypeId}{x y:Operand}{p q:ByteArray}{d:Option Tmp}{ty:TypeId}{ps:String}{af:Array Edge}(ho:ops[i]? = some {op:=.binOp .add t x y x2,dst:=d,type:=ty,pos:=ps,after:=af,guard:=none})(hb:bars.contains i=false)
  (hx:a.eval x = .string p) (hy:a.eval y = .string q) (hs:p.size+q.size≤9223372036854775807) (h:OW P none ops bs bars Q r (a.put d (.string (p ++ q))) w):OW P none ops bs bars Q (i :: r) a w:=
 OW.read ho hb _ (fun w' _=>by
  have:(execOp a.eval {op:=.binOp .add t x y x2,dst:=d,type:=ty,pos:=ps,after:=af,guard:=none}).run P w' = .ok (.value (.string (p ++ q))) w':=by
   unfold execOp;simp only [hx,hy];have:¬(((p.size+q.size:Nat):Int)>IntKind.i64.max):=by
    rw [show IntKind.i64.max=9223372036854775807 from rfl];omega
   simp [eqGuard,binOp,Op.stringOp,Sem.run_pure]
   omega
  exact this) h
def znj(P:Program)(t:TypeId)(n:Nat):Prop:=∀g off (cs:List Value) w,cs.length=n→(∀j v,cs[j]? = some v→World.cell? w ⟨g,off+j,none⟩=some v)→(Instr.loadAt t (.pointer (some ⟨g,off,none⟩))).run P w = .ok (.agg cs.toArray) w
theorem zo1{P:Program}{t:TypeId}{n:Nat}(h:(match P.underlying t with|some (.struct _)=>true|_=>false)=true)(hi:(P.info? t).map (·.size)=some n):znj P t n:=by
 intro g off cs w hn hc
 cases hu:P.underlying t with
 | none=>rw [hu]at h;cases h
 | some d=>
  rw [hu]at h
  cases d with
  | struct fs=>
   have hl:=run_loadVar_mid (P:=P) w g off t cs (.struct fs) hc hu rfl (by rw [hn];exact hi);simp [Instr.loadAt,Instr.sureAddr,hl]
  | _=>cases h
theorem OW.loadMid{t:TypeId}{x:Operand}{g off n:Nat}{cs:List Value}{d:Option Tmp}{ty:TypeId}{ps:String}{af:Array Edge}(ho:ops[i]? = some {op:=.load t x,dst:=d,type:=ty,pos:=ps,after:=af,guard:=none})(hb:bars.contains i=false)
  (hL:znj P t n) (hn:cs.length=n) (h0:0<n) (hc:∀j v,cs[j]? = some v→w.cell? ⟨g,off+j,none⟩=some v) (hx:a.eval x = .pointer (some ⟨g,off,none⟩)) (h:OW P none ops bs bars Q r (a.put d (.agg cs.toArray)) w):OW P none ops bs bars Q (i :: r) a w:=
 OW.read ho hb _ (fun w' hb'=>by
  have hp:g<w.heap.size:=by
   obtain⟨v,hv⟩:∃v,cs[0]? = some v:=⟨_,List.getElem?_eq_getElem (by omega)⟩;exact World.block_lt_of_cell? _ _ (hc 0 v hv)
  simp [execOp,hx,hL g off cs w' hn (fun j v hj=>(hb'.cell (p:=⟨g,off+j,none⟩) hp).trans (hc j v hj))]) h
end
end Go.Eng
namespace Go.Num
open Go.Eng Go.Shelf Go.RowKit Go.Sort Go.Proofs Go.Proofs.YtoamcgjbelhnkaaGreatDoor
theorem ztE:zfF Tryz.prog 34 0 0:=ze9 (by kernel_rfl)
theorem ztk:zfF Tryz.prog 34 1 2:=ze9 (by kernel_rfl)
theorem m32:znj Tryz.prog 32 2:=zo1 (by kernel_rfl) (by kernel_rfl)
theorem m34:zcd Tryz.prog 34 4:=zbB (by kernel_rfl) (by kernel_rfl)
def Box4(w:World)(g:Nat)(x y z u:Value):Prop:=∀j v,[x,y,z,u][j]? = some v→w.cell? ⟨g,j,none⟩=some v
theorem Box4.lt{w:World}{g:Nat}{x y z u:Value}(h:Box4 w g x y z u):g<w.heap.size:=World.block_lt_of_cell? _ _ (h 0 x rfl)
theorem Box4.below{w w':World}{g:Nat}{x y z u:Value}(h:Box4 w g x y z u)(hb:Below w.heap.size w w'):Box4 w' g x y z u:=fun j v hj=>(hb.cell (p:=⟨g,j,none⟩) h.lt).trans (h j v hj)
theorem zop(w:World)(x y z u:Value)(t:TypeId):Box4 (w.alloc (.cells #[x,y,z,u] t)) w.heap.size x y z u:=fun j v hj=>by
 rw [World.cell?_alloc_new,←hj];simp
theorem Box4.lo{w:World}{g:Nat}{x y z u:Value}(h:Box4 w g x y z u):∀j v,[x,y][j]? = some v→w.cell? ⟨g,0+j,none⟩=some v:=fun j v hj=>by
 match j,hj with
 | 0,hj=>exact h 0 v hj
 | 1,hj=>exact h 1 v hj
 | n+2,hj=>simp at hj
theorem Box4.hi{w:World}{g:Nat}{x y z u:Value}(h:Box4 w g x y z u):∀j v,[z,u][j]? = some v→w.cell? ⟨g,2+j,none⟩=some v:=fun j v hj=>by
 match j,hj with
 | 0,hj=>exact h 2 v hj
 | 1,hj=>exact h 3 v hj
 | n+2,hj=>simp at hj
theorem QAt.parts{w:World}{v:Value}{q:Rat}(h:QAt w v q):∃m1 m2,v = .agg #[.bool (decide (q.num<0)),m1,.bool false,m2]∧ZAt w (.agg #[.bool (decide (q.num<0)),m1]) q.num∧ZAt w (.agg #[.bool false,m2]) (q.den:Int):=by
 obtain⟨m1,m2,e,h1,h2⟩:=h;refine⟨m1,m2,e,⟨m1,rfl,h1⟩,⟨m2,?_,h2⟩⟩;have:decide ((q.den:Int)<0)=false:=decide_eq_false (by omega);rw [this]
theorem zjk(w:World)(v:Value)(q:Rat)(h:QAt w v q)(hq:zan q 20000) :
  CallsIn Fence.wide 0 Tryz.prog 73 #[v] w fun e w'=>e = .returned (.string (zgX q))∧Below w.heap.size w w':=by
 obtain⟨m1,m2,rfl,hn,hd⟩:=h.parts;have HN:=zHi hn;have HD:=zHi hd;obtain⟨sg,hsg⟩:∃sg,decide (q.num<0)=sg:=⟨_,rfl⟩;rw [hsg]at HN;rw [hsg];obtain⟨W1,hW1⟩:∃W,W=w.alloc (.cells #[.bool sg,m1,.bool false,m2] 34):=⟨_,rfl⟩;have HX:Hid (Box4 W1 w.heap.size (.bool sg) m1 (.bool false) m2):=zHi (by rw [hW1];exact zop _ _ _ _ _ _);have HBW:Hid (Below w.heap.size w W1):=zHi (by rw [hW1];exact zaa _ _);have HP:=zHi hq;clear h hn hd hsg hq;refine callsIn_of_wp Tryz.func73 rfl trivial ?_ rfl;simp only [Tryz.ntmps73,ztH,ztI,ztJ,Nat.reduceAdd,Nat.reduceSub,ztK,ztL,ztM,ztN,ztO,ztP];gi_wp2;rw [←hW1];obtain⟨g,hg⟩:∃g,w.heap.size=g:=⟨_,rfl⟩;rw [hg]at HX;rw [hg];clear hW1;refine zao (ro:=none) [2,3] [0,1,2,3,4] [0,1,0,7,15] zaq 19 rfl (by kernel_rfl) (by kernel_rfl) ?_;replace HX:=zHi (HX.out.below (zab _));replace HBW:=zHi (HBW.out.trans ((zab W1).mono HBW.out.size));refine OW.fieldAddr rfl rfl ztk rfl ?_;simp only [Go.Act.put,ztQ,ztR,ztS];refine OW.loadMid rfl rfl m32 (cs:=[.bool false,m2]) rfl (by decide) HX.out.hi rfl ?_;simp only [Go.Act.put,ztQ,ztR,ztS];refine OW.call rfl rfl Tryz.func22 rfl zah (args:=[.int .i64 1]) rfl ?_;refine(za6 W1.drew 1 (by decide) (by decide)).mono ?_;rintro e w2 ⟨v5,rfl,hz5,hB⟩;refine⟨v5,rfl,hB,?_⟩;simp only [Go.Act.put,ztQ,ztR,ztS];replace HX:=zHi (HX.out.below hB);replace HBW:=zBt HBW hB;have HZ5:=zHi hz5;clear hz5 hB;refine OW.call rfl rfl Tryz.func69 rfl zah (args:=[.agg #[.bool false,m2],v5]) rfl ?_;refine(zct w2 _ v5 (q.den:Int) 1 (HD.out.below HBW.out) HZ5.out (zaX 50000 HP.out.2 (by decide)) (zaX 50000 (show 1<B^1 by decide) (by decide))).mono ?_;rintro e w3 ⟨rfl,hB⟩;refine⟨_,rfl,hB,?_⟩;simp only [Go.Act.put,ztQ,ztR,ztS];replace HX:=zHi (HX.out.below hB);replace HBW:=zBt HBW hB;clear hB HZ5;refine OW.eqInt rfl rfl rfl rfl ?_;simp only [Go.Act.put,ztQ,ztR,ztS];refine OW.done ?_;by_cases h1:q.den=1
 ·have hc:(((q.den:Int)-1).sign == 0)=true:=by rw [h1];rfl
  rw [hc];have y0:=HX.out 0 _ rfl;have y1:=HX.out 1 _ rfl;have HT:=zHi (zkW h1);clear h1 hc;gi_wp2_with (gi_at_call 16;refine stop ?_)
  refine(zd5 w3 _ q.num (HN.out.below HBW.out) (zaX 100000 HP.out.1 (by decide))).mono ?_;rintro e w4 ⟨rfl,hB⟩;have HB4:=zBt HBW hB;clear hB;gi_wp2;all_goals (first|go_returns|go_ret|go_end0)
  exact⟨by rw [HT.out];rfl,HB4.out⟩
 ·have hc:(((q.den:Int)-1).sign == 0)=false:=beq_false_of_ne (by
   intro h;have:=Int.sign_eq_zero_iff_zero.1 h;omega)
  rw [hc];have HT:=zHi (ziR h1);have hsz1:=ziQ (z:=q.num) (zaX 100000 HP.out.1 (by decide));have hsz2:=zdF (n:=q.den) (zaX 100000 HP.out.2 (by decide));gi_wp2;refine zao (ro:=none) [2,6] [0,1,4,5,2,3,6,7,8] [0,1,3,7,0,16,55,127,255] zaq 19 rfl (by kernel_rfl) (by kernel_rfl) ?_;replace HX:=zHi (HX.out.below (zab _));replace HBW:=zHi (HBW.out.trans ((zab w3).mono HBW.out.size));refine OW.fieldAddr rfl rfl ztE rfl ?_;simp only [Go.Act.put,ztQ,ztR,ztS];refine OW.loadMid rfl rfl m32 (cs:=[.bool sg,m1]) rfl (by decide) HX.out.lo rfl ?_;simp only [Go.Act.put,ztQ,ztR,ztS];refine OW.fieldAddr rfl rfl ztk rfl ?_;simp only [Go.Act.put,ztQ,ztR,ztS];refine OW.loadMid rfl rfl m32 (cs:=[.bool false,m2]) rfl (by decide) HX.out.hi rfl ?_;simp only [Go.Act.put,ztQ,ztR,ztS];refine OW.call rfl rfl Tryz.func16 rfl zah (args:=[.agg #[.bool sg,m1]]) rfl ?_;refine(zd5 w3.drew _ q.num (HN.out.below HBW.out) (zaX 100000 HP.out.1 (by decide))).mono ?_;rintro e w4 ⟨rfl,hB⟩;refine⟨_,rfl,hB,?_⟩;simp only [Go.Act.put,ztQ,ztR,ztS];replace HBW:=zBt HBW hB;clear hB;refine OW.addStr rfl rfl rfl rfl (by show _+1≤_;omega) ?_;simp only [Go.Act.put,ztQ,ztR,ztS];refine OW.call rfl rfl Tryz.func16 rfl zah (args:=[.agg #[.bool false,m2]]) rfl ?_;refine(zd5 w4 _ (q.den:Int) (HD.out.below HBW.out) (zaX 100000 HP.out.2 (by decide))).mono ?_;rintro e w5 ⟨rfl,hB⟩;refine⟨_,rfl,hB,?_⟩;simp only [Go.Act.put,ztQ,ztR,ztS];replace HBW:=zBt HBW hB;clear hB;rw [zhe (z:=(q.den:Int)) (by omega),Int.natAbs_natCast];refine OW.addStr rfl rfl rfl rfl (by rw [ByteArray.size_append];show _+1+_≤_;omega) ?_;simp only [Go.Act.put,ztQ,ztR,ztS];refine OW.assign rfl rfl _ rfl ?_;simp only [Go.Act.put,ztQ,ztR,ztS];refine OW.done ?_;rw [HT.out];gi_wp2;all_goals (first|go_returns|go_ret|go_end0)
  exact⟨rfl,HBW.out⟩
theorem m25:zcd Tryz.prog 25 3:=l25
theorem zrC(w:World)(u v:Value)(q:Rat)(hu:zau w u q)(hv:QAt w v q)(hq:zan q 20000)(htab:zaY w) :
  CallsIn Fence.wide 0 Tryz.prog 19 #[u,v] w fun e w'=>e = .returned (.bool true)∧Below w.heap.size w w':=by
 have HU:=zHi hu;have HV:=zHi hv;obtain⟨vn,vd,rfl,_,_⟩:=hu;obtain⟨m1,m2,rfl,_,_⟩:=hv;obtain⟨sg,hsg⟩:∃sg,decide (q.num<0)=sg:=⟨_,rfl⟩;rw [hsg]at HU HV;rw [hsg];obtain⟨W0,hW0⟩:∃W,W=w.alloc (.cells #[.bool sg,vn,vd] 25):=⟨_,rfl⟩;have h0s:W0.heap.size=w.heap.size+1:=by rw [hW0];simp
 obtain⟨W1,hW1⟩:∃W,W=W0.alloc (.cells #[.bool sg,m1,.bool false,m2] 34):=⟨_,rfl⟩;have HX:Hid (Box3 W1 w.heap.size (.bool sg) vn vd):=zHi (by rw [hW1];exact Box3.below (by rw [hW0];exact zbu _ _ _ _ _) (zaa _ _));have HY:Hid (Box4 W1 (w.heap.size+1) (.bool sg) m1 (.bool false) m2):=zHi (by rw [hW1,←h0s];exact zop _ _ _ _ _ _);have HBW:Hid (Below w.heap.size w W1):=zHi (by rw [hW1,hW0];exact(zaa _ _).alloc (by simp) _);have HP:=zHi hq;have HTab:=zHi htab;clear hsg hq htab;refine callsIn_of_wp Tryz.func19 rfl trivial ?_ rfl;simp only [Tryz.ntmps19,ztH,ztI,ztJ,Nat.reduceAdd,Nat.reduceSub,ztK,ztL,ztM,ztN,ztO,ztP];gi_wp2;rw [←hW0,←hW1];obtain⟨g,hg⟩:∃g,w.heap.size=g:=⟨_,rfl⟩;rw [hg]at HX HY;rw [hg];clear hW0 hW1 h0s;refine zao (ro:=none) [1,3] [0,2,1,3,4,5] [0,1,0,7,15,31] zaq 10 rfl (by kernel_rfl) (by kernel_rfl) ?_;replace HX:=zHi (HX.out.below (zab _));replace HY:=zHi (HY.out.below (zab _));replace HBW:=zHi (HBW.out.trans ((zab W1).mono HBW.out.size));refine OW.loadAll rfl rfl m25 (cs:=[.bool sg,vn,vd]) rfl (by decide) HX.out rfl ?_;simp only [Go.Act.put,ztQ,ztR,ztS];refine OW.loadAll rfl rfl m34 (cs:=[.bool sg,m1,.bool false,m2]) rfl (by decide) HY.out rfl ?_;simp only [Go.Act.put,ztQ,ztR,ztS];refine OW.call rfl rfl Tryz.func13 rfl zah (args:=[.agg #[.bool sg,vn,vd]]) rfl ?_;refine(zk0 W1.drew _ q (HU.out.below HBW.out) (HP.out.mono (by decide)) (HTab.out.below HBW.out)).mono ?_;rintro e w2 ⟨rfl,hB⟩;refine⟨_,rfl,hB,?_⟩;simp only [Go.Act.put,ztQ,ztR,ztS];replace HBW:=zBt HBW hB;clear hB;refine OW.call rfl rfl Tryz.func73 rfl zah (args:=[.agg #[.bool sg,m1,.bool false,m2]]) rfl ?_;refine(zjk w2 _ q (HV.out.below HBW.out) HP.out).mono ?_;rintro e w3 ⟨rfl,hB⟩;refine⟨_,rfl,hB,?_⟩;simp only [Go.Act.put,ztQ,ztR,ztS];replace HBW:=zBt HBW hB;clear hB;refine OW.eqStr rfl rfl rfl rfl ?_;simp only [Go.Act.put,ztQ,ztR,ztS];refine OW.assign rfl rfl _ rfl ?_;simp only [Go.Act.put,ztQ,ztR,ztS];refine OW.done ?_;gi_wp2;all_goals (first|go_returns|go_ret|go_end0)
 exact⟨rfl,HBW.out⟩
theorem l34:zcd Tryz.prog 34 4:=m34
theorem zlI{a:Int}(h1 : -9223372036854775808≤a)(h2:a≤9223372036854775807):a.natAbs<B^3:=by
 have:B^3=1000000000000000000000000000:=by decide
 omega
theorem zo6(w:World)(a b:Int)(ha1 : -9223372036854775808≤a)(ha2:a≤9223372036854775807)(hb1 : -9223372036854775808≤b)(hb2:b≤9223372036854775807)(hb0:b≠0) :
  CallsIn Fence.wide 0 Tryz.prog 24 #[.int .i64 a,.int .i64 b] w fun e w'=>∃v',e = .returned v'∧QAt w' v' ((a:Rat)/(b:Rat))∧Below w.heap.size w w':=by
 refine callsIn_of_wp Tryz.func24 rfl trivial ?_ rfl;simp only [Tryz.ntmps24,ztH,ztI,ztJ,Nat.reduceAdd,Nat.reduceSub,ztK,ztL,ztM,ztN,ztO,ztP];gi_wp2_with (gi_at_call 22;refine stop ?_)
 unfold Stop;obtain⟨W1,hW1⟩:∃W,W=w.alloc (.cells #[.bool false,.slice none 0 0,.bool false,.slice none 0 0] 34):=⟨_,rfl⟩;rw [←hW1];have HBW:Hid (Below w.heap.size w W1):=zHi (by rw [hW1];exact zaa _ _);have HA:Hid (zaj W1 w.heap.size 4 fun i => [.bool false,.slice none 0 0,.bool false,.slice none 0 0].getD i (.bool false)):=zHi (by
  rw [hW1];refine zaj.new _ _ _ fun i hi => ?_
  match i,hi with
  | 0,_=>rfl
  | 1,_=>rfl
  | 2,_=>rfl
  | 3,_=>rfl)
 have HE:Hid (Elem W1 w.heap.size 34):=zHi (by rw [hW1];exact zaB _ _ _);obtain⟨g,hg⟩:∃g,w.heap.size=g:=⟨_,rfl⟩;have hgl:g<W1.heap.size:=by rw [hW1,←hg];simp
 have hgw:w.heap.size≤g:=by omega
 rw [hg]at HA HE;rw [hg];clear hg hW1;refine(za6 W1 a ha1 ha2).mono ?_;rintro e w2 ⟨v2,rfl,hz2,hB⟩;replace HA:=zHi (HA.out.below hgl hB);replace HE:=zHi (HE.out.below hB hgl);replace HBW:=zBt HBW hB;replace hgl:=Nat.lt_of_lt_of_le hgl hB.size;have HZ2:=zHi hz2;clear hz2 hB;gi_wp2_with (gi_at_call 22;refine stop ?_)
 refine(za6 w2 b hb1 hb2).mono ?_;rintro e w3 ⟨v3,rfl,hz3,hB⟩;replace HA:=zHi (HA.out.below hgl hB);replace HE:=zHi (HE.out.below hB hgl);replace HBW:=zBt HBW hB;replace hgl:=Nat.lt_of_lt_of_le hgl hB.size;replace HZ2:=zHi (HZ2.out.below hB);have HZ3:=zHi hz3;clear hz3 hB;gi_wp2_with (gi_at_call 77;refine stop ?_)
 refine(zd4 w3 v2 v3 a b HZ2.out HZ3.out (zaX 20000 (zlI ha1 ha2) (by decide)) (zaX 20000 (zlI hb1 hb2) (by decide)) hb0).mono ?_;rintro e w4 ⟨v4,rfl,⟨m1,m2,rfl,h1,h2⟩,hB⟩;replace HA:=zHi (HA.out.below hgl hB);replace HE:=zHi (HE.out.below hB hgl);replace HBW:=zBt HBW hB;obtain⟨o1,k1,c1,rfl,_,_⟩:=zaC h1;obtain⟨o2,k2,c2,rfl,_,_⟩:=zaC h2;have H1:=zHi h1;have H2:=zHi h2;have y0:=(HA.out 0 (by omega)).1;have y1:=(HA.out 1 (by omega)).1;have y2:=(HA.out 2 (by omega)).1;have y3:=(HA.out 3 (by omega)).1;have z0:=(HA.out 0 (by omega)).2;have z1:=(HA.out 1 (by omega)).2;have z2:=(HA.out 2 (by omega)).2;have z3:=(HA.out 3 (by omega)).2;simp only [List.getD_cons_zero,List.getD_cons_succ]at y0 y1 y2 y3;clear h1 h2 hB HZ2 HZ3;obtain⟨sg,hsg⟩:∃sg,decide (((a:Rat)/(b:Rat)).num<0)=sg:=⟨_,rfl⟩;rw [hsg];gi_wp2;have ha6:=(((HA.out.set (i:=0) (by omega) (.bool sg)).set (i:=1) (by omega) (.slice o1 k1 c1)).set (i:=2) (by omega) (.bool false)).set (i:=3) (by omega) (.slice o2 k2 c2);refine zjX (cs:=[.bool sg,.slice o1 k1 c1,.bool false,.slice o2 k2 c2]) rfl rfl g rfl l34 rfl ?_ ?_
 ·intro j v hj;match j,hj with
  | 0,hj=>cases hj;exact(ha6 0 (by omega)).1
  | 1,hj=>cases hj;exact(ha6 1 (by omega)).1
  | 2,hj=>cases hj;exact(ha6 2 (by omega)).1
  | 3,hj=>cases hj;exact(ha6 3 (by omega)).1
 ·have n:∀{v:Value} {x:Nat},NatI w4 v x→NatI ((((w4.setCell ⟨g,0,none⟩ (.bool sg)).setCell ⟨g,1,none⟩ (.slice o1 k1 c1)).setCell ⟨g,2,none⟩ (.bool false)).setCell ⟨g,3,none⟩ (.slice o2 k2 c2)) v x:=fun h=>
   (((h.setElem HE.out (by decide)).setElem (HE.out.setCell _ _) (by decide)).setElem ((HE.out.setCell _ _).setCell _ _) (by decide)).setElem (((HE.out.setCell _ _).setCell _ _).setCell _ _) (by decide)
  refine⟨_,rfl,⟨_,_,by rw [hsg],n H1.out,n H2.out⟩,(((HBW.out.setCell hgw _).setCell hgw _).setCell hgw _).setCell hgw _⟩
def envW(z:Int):Env:=⟨fun k=>if k=7 then 1 else z,fun _=>0⟩
def tW:TTab:=fun f ts=>
 bif Nat.beq f 22 then
  match ts with
  | .cons (.val (.sc (.int .i64 1))) .nil=>some (.cons (zs false (.leaf 7)) .nil)
  | _=>none
 else none
theorem zs1(z:Int):zbZ Tryz.prog (GN (envW z)) tW:=by
 intro f ts rs q;unfold tW at q
 cases hf:Nat.beq f 22 with
 | false=>rw [hf]at q;cases q
 | true=>
  rw [hf]at q;have hf:=(zam _ _).1 hf;subst hf;refine⟨⟨_,Tryz.func22,rfl⟩,fun w xs hx => ?_⟩;simp only [cond_true]at q;split at q
  ·cases q
   obtain⟨v,r,e,h1,h4⟩:=hx;have h4:r = []:=h4;subst h4;have e':xs=#[v]:=Array.toList_inj.1 (by simpa using e);subst e';have h1:some (Value.int .i64 1)=some v:=h1
   cases h1
   refine(callsIn_wide.1 (za6 w 1 (by decide) (by decide))).mono ?_;rintro e w' ⟨v',rfl,hz,hb⟩;exact⟨v',rfl,zpk hz rfl rfl,hb⟩
  ·cases q
theorem zdZ(w:World)(v:Value)(z:Int)(h:ZAt w v z) :
  CallsIn Fence.wide 0 Tryz.prog 21 #[v] w fun e w'=>∃v',e = .returned v'∧QAt w' v' (z:Rat)∧Below w.heap.size w w':=by
 refine(runZ (zs1 z) (n:=50) (r:=zqY (zc (.leaf 0)) (zs false (.leaf 7))) (ts:=.cons (zc (.leaf 0)) .nil) (by kernel_rfl) (xs:=#[v]) ⟨v,[],rfl,zdd h rfl,rfl⟩).mono ?_;rintro e w' ⟨v',rfl,⟨xs,rfl,a,r,e1,h1,b,r2,rfl,h2,c,r3,rfl,h3,d,r4,rfl,h4,h5⟩,hB⟩;have h5:r4 = []:=h5;subst h5;have e':xs=#[a,b,c,d]:=Array.toList_inj.1 (by simpa using e1);subst e';have h3:some (Value.bool false)=some c:=h3
 cases h3
 have h1:a = .bool (decide (z<0)):=h1;subst h1;exact⟨_,rfl,⟨b,d,rfl,h2,h4⟩,hB⟩
theorem zaG{fn:Func}{p t:Tmp}{R:Ending→World→Prop}{a:Act}{w:World}{x y z x0 x1 x2 u:Value}(h:fn.results=#[.cell p 25,.tmp t])(hd:a.defers = [])(g:Nat)(hp:a.tmps.getD p undef = .pointer (some ⟨g,0,none⟩))(ht:a.tmps.getD t undef=u)
  (h0:w.cell? ⟨g,0,none⟩=some x0) (h1:w.cell? ⟨g,1,none⟩=some x1) (h2:w.cell? ⟨g,2,none⟩=some x2) (hR:R (.returned (.tuple #[.agg #[x,y,z],u])) (((w.setCell ⟨g,0,none⟩ x).setCell ⟨g,1,none⟩ y).setCell ⟨g,2,none⟩ z)) :
  bodyPost Tryz.prog fn R .ret a (((w.setCell ⟨g,0,none⟩ x).setCell ⟨g,1,none⟩ y).setCell ⟨g,2,none⟩ z):=by
 have n01:(⟨g,0,none⟩:Addr)≠⟨g,1,none⟩:=by intro e;injection e with _ e;omega
 have n02:(⟨g,0,none⟩:Addr)≠⟨g,2,none⟩:=by intro e;injection e with _ e;omega
 have n12:(⟨g,1,none⟩:Addr)≠⟨g,2,none⟩:=by intro e;injection e with _ e;omega
 have c0:(((w.setCell ⟨g,0,none⟩ x).setCell ⟨g,1,none⟩ y).setCell ⟨g,2,none⟩ z).cell? ⟨g,0,none⟩=some x:=by
  rw [World.cell?_setCell_other _ _ _ _ n02.symm,World.cell?_setCell_other _ _ _ _ n01.symm,World.cell?_setCell_same _ _ _ h0]
 have c1:(((w.setCell ⟨g,0,none⟩ x).setCell ⟨g,1,none⟩ y).setCell ⟨g,2,none⟩ z).cell? ⟨g,1,none⟩=some y:=by
  rw [World.cell?_setCell_other _ _ _ _ n12.symm,World.cell?_setCell_same _ _ _ (by rw [World.cell?_setCell_other _ _ _ _ n01];exact h1)]
 have c2:(((w.setCell ⟨g,0,none⟩ x).setCell ⟨g,1,none⟩ y).setCell ⟨g,2,none⟩ z).cell? ⟨g,2,none⟩=some z:=by
  rw [World.cell?_setCell_same _ _ _ (by rw [World.cell?_setCell_other _ _ _ _ n12,World.cell?_setCell_other _ _ _ _ n02];exact h2)]
 refine bodyPost_ret ?_ hd hR;have hl:=l25 g [x,y,z] (((w.setCell ⟨g,0,none⟩ x).setCell ⟨g,1,none⟩ y).setCell ⟨g,2,none⟩ z) rfl (fun j v hj=>by
  match j,hj with
  | 0,hj=>rw [←hj];exact c0
  | 1,hj=>rw [←hj];exact c1
  | 2,hj=>rw [←hj];exact c2
  | n+3,hj=>simp at hj)
 simp only [Instr.loadAt,Instr.sureAddr,Sem.run_bind,Sem.run_pure,Result.andThen_ok]at hl;have hp':a.tmps[p]?.getD undef = .pointer (some ⟨g,0,none⟩):=by rw [←Array.getD_eq_getD_getElem?];exact hp
 have ht':a.tmps[t]?.getD undef=u:=by rw [←Array.getD_eq_getD_getElem?];exact ht
 simp [results,h,hp',ht',asAddr,hl]
theorem zaS(w:World):zau w (.agg #[.bool false,.slice none 0 0,.slice none 0 0]) 0:=⟨_,_,rfl,zdm _ _ _,zdm _ _ _⟩
def ztG(w:World):Prop:=∀w',Below w.heap.size w w'→CallsIn Fence.wide 0 Tryz.prog 14 #[] w' fun e w''=>e = .returned (.bool true)∧Below w'.heap.size w' w''
def ztr(R:Act→World→Prop):Exit→Act→World→Prop
 | .normal,a,w=>R a w
 | _,_,_=>False
theorem zpW{F:Fence}{n:Nat}{P:Program}{c:Code}{Q:Exit→Act→World→Prop}{a:Act}{w:World}(R:Act→World→Prop)(h:∀a' w',R a' w'→Q .normal a' w')(hr:c.wpIn F n P (ztr R) a w):c.wpIn F n P Q a w:=
 wpIn_mono hr fun e a w hh=>by
  cases e with
  | normal=>exact h a w hh
  | _=>exact hh.elim
end Go.Num
namespace Go.Num
open Go.Eng Go.Shelf Go.RowKit Go.Proofs Go.Proofs.YtoamcgjbelhnkaaGreatDoor
structure Laid(w:World):Prop where
 pow:zaY w
 len:∃m,w.cell? ⟨0,0,none⟩=some (.int .i64 m)
theorem Laid.below{w w':World}(h:Laid w)(hb:Below w.heap.size w w'):Laid w':=by
 obtain⟨h1,m,h2⟩:=h;exact⟨h1.below hb,m,(hb.cell (World.block_lt_of_cell? _ _ h2)).trans h2⟩
def zfp:List Nat→Nat
 | []=>0
 | d :: r=>d+B*zfp r
def zki:AV→Option (List Nat)
 | .nil=>some []
 | .cons (.sc (.int .u64 (.ofNat n))) t=>(zki t).map (n :: ·)
 | _=>none
def zdy:List Nat→Bool
 | []=>true
 | [d]=>Nat.blt d 1000000000 && Nat.blt 0 d
 | d :: r=>Nat.blt d 1000000000 && zdy r
theorem bltN_lt{a b:Nat}(h:Nat.blt a b=true):a<b:=Nat.le_of_ble_eq_true h
theorem zgq:∀{l:List Nat},zdy l=true→∀d∈l,d<B
 | [],_,d,h=>by cases h
 | [x],h,d,hd=>by
  simp only [zdy,Bool.and_eq_true]at h;have:=bltN_lt h.1;rcases List.mem_cons.1 hd with rfl|hd
  ·exact this
  ·cases hd
 | x :: y :: r,h,d,hd=>by
  simp only [zdy,Bool.and_eq_true]at h;have:=bltN_lt h.1;rcases List.mem_cons.1 hd with rfl|hd
  ·exact this
  ·exact zgq h.2 d hd
theorem zjb:∀{l:List Nat},(∀d∈l,d<B)→∀(i d:Nat),l[i]? = some d→limb (zfp l) i=d
 | [],_,i,d,h=>by simp at h
 | x :: r,hl,0,d,h=>by
  have h:x=d:=by simpa using h
  subst h;have hx:=hl x (List.mem_cons_self);unfold limb zfp;rw [Nat.pow_zero,Nat.div_one,Nat.add_mul_mod_self_left,Nat.mod_eq_of_lt hx]
 | x :: r,hl,i+1,d,h=>by
  have hx:=hl x (List.mem_cons_self);have ih:=zjb (l:=r) (fun d hd=>hl d (List.mem_cons_of_mem _ hd)) i d (by simpa using h);rw [←ih];unfold limb;congr 1
  show(x+B*zfp r)/B^(i+1)=zfp r/B^i
  rw [Nat.pow_succ,Nat.mul_comm (B^i),←Nat.div_div_eq_div_mul,Nat.add_mul_div_left _ _ (by decide),Nat.div_eq_of_lt hx,Nat.zero_add]
theorem zka:∀{l:List Nat},(∀d∈l,d<B)→zfp l<B^l.length
 | [],_=>by decide
 | x :: r,hl=>by
  have hx:=hl x (List.mem_cons_self);have ih:=zka (l:=r) (fun d hd=>hl d (List.mem_cons_of_mem _ hd));show x+B*zfp r<B^(r.length+1)
  have h2:B*(zfp r+1)≤B*B^r.length:=Nat.mul_le_mul_left _ ih;rw [Nat.mul_add,Nat.mul_one]at h2;rw [Nat.pow_succ,Nat.mul_comm (B^r.length) B];omega
theorem zhA:∀{l:List Nat},zdy l=true→l ≠ []→B^(l.length-1)≤zfp l
 | [],_,h=>absurd rfl h
 | [x],h,_=>by
  simp only [zdy,Bool.and_eq_true]at h;have:=bltN_lt h.2;show B^0≤x+B*0
  rw [Nat.pow_zero];omega
 | x :: y :: r,h,_=>by
  simp only [zdy,Bool.and_eq_true]at h;have ih:=zhA (l:=y :: r) h.2 (by simp);show B^(r.length+1)≤x+B*zfp (y :: r)
  have ih:B^r.length≤zfp (y :: r):=ih;have:=Nat.mul_le_mul_left B ih;rw [Nat.pow_succ,Nat.mul_comm];omega
theorem zmH{l:List Nat}(h:zdy l=true):zcq (zfp l) l.length:=by
 refine⟨zka (zgq h),?_⟩;by_cases e:l = []
 ·subst e;exact .inl rfl
 ·exact .inr (zhA h e)
theorem zjf{μ:Mu}:∀{cs:AV} {l:List Nat} {xs:List Value},zki cs=some l→LR μ cs xs→xs=l.map fun (d:Nat)=>Value.int .u64 (d:Int)
 | .nil,l,xs,h,hx=>by
  have h:some []=some l:=h
  cases h
  have hx:xs = []:=hx;rw [hx];rfl
 | .cons (.sc (.int .u64 (.ofNat n))) t,l,xs,h,hx=>by
  simp only [zki,Option.map_eq_some_iff]at h;obtain⟨r,h1,rfl⟩:=h;obtain⟨x,ys,rfl,h2,h3⟩:=hx;have h2:x = .int .u64 (n:Int):=h2;rw [h2,zjf h1 h3];rfl
def decF:Nat→Nat→List UInt8→List UInt8
 | 0,_,acc=>acc
 | f+1,n,acc=>bif Nat.blt n 10 then UInt8.ofNat (48+n) :: acc else decF f (n/10) (UInt8.ofNat (48+n%10) :: acc)
theorem zqR:∀(f n:Nat) (acc:List UInt8),n<10^f→0<f→decF f n acc=Lib.decDigits n ++ acc
 | 0,n,acc,_,h=>by omega
 | f+1,n,acc,h,_=>by
  unfold decF
  cases e:Nat.blt n 10 with
  | true=>
   have:=bltN_lt e;rw [Lib.decDigits,dif_pos this];rfl
  | false=>
   have hn:¬n<10:=by
    intro h';have:Nat.blt n 10=true:=Nat.ble_eq_true_of_le h';rw [e]at this;cases this
   have hf:0<f:=by
    rcases Nat.eq_zero_or_pos f with h0|h0
    ·subst h0;simp at h;omega
    ·exact h0
   rw [cond_false,zqR f (n/10) _ (by rw [Nat.pow_succ]at h;omega) hf,Lib.decDigits.eq_def n,dif_neg hn,List.append_assoc];rfl
theorem zrR{n k f:Nat}(h:n<B^k)(hf:9*k≤f)(h0:0<f):decF f n []=Lib.decDigits n:=by
 rw [zqR f n [] (Nat.lt_of_lt_of_le (by rw [←pow9];exact h) (Nat.pow_le_pow_right (by decide) hf)) h0,List.append_nil]
def strA(l:List UInt8):AV:=.sc (.str ⟨⟨l⟩⟩)
def O59(args:AV):Option AV:=
 match args with
 | .cons (.sc (.str s)) (.cons (.sc (.str p)) .nil)=>bif Nat.blt s.data.toList.length 4000000000 then
   some (.tup (.cons (strA (Lib.cut s.data.toList p.data.toList).1) (.cons (strA (Lib.cut s.data.toList p.data.toList).2.1) (.cons (.sc (.bool (Lib.cut s.data.toList p.data.toList).2.2)) .nil))))else none
 | _=>none
def O60(args:AV):Option AV:=
 match args with
 | .cons (.sc (.str s)) (.cons (.sc (.str p)) .nil)=>some (.tup (.cons (strA (Lib.trimPrefix s.data.toList p.data.toList)) (.cons (.sc (.bool (Lib.hasPrefix s.data.toList p.data.toList))) .nil)))
 | _=>none
def O105(args:AV):Option AV:=
 match args with
 | .cons (.sc (.str s)) (.cons (.sc (.str ⟨⟨[c]⟩⟩)) .nil)=>bif Nat.blt s.data.toList.length 4000000000 && Nat.blt c.toNat 128 then some (strA (Lib.trimB s.data.toList c))else none
 | _=>none
def O106(args:AV):Option AV:=
 match args with
 | .cons (.sc (.str s)) r=>bif Nat.blt s.data.toList.length 4000000000 && r.beq (.cons (.sc (.int .i64 10)) (.cons (.sc (.int .i64 64)) .nil))then
   match Lib.parseUintB 64 s.data.toList with
   | .ok u=>some (.tup (.cons (.sc (.int .u64 (u:Int))) (.cons (.sc .nilIface) .nil)))
   | _=>none
  else none
 | _=>none
def O71(args:AV)(H:AH):Option AV:=
 match args with
 | .cons (.sc .nilSlice) .nil=>some (strA [48])
 | .cons (.slc i o len _ _ e) .nil=>bif Nat.beq e 1 then
   match H.cellsAt i o len with
   | some cs=>match zki cs with
    | some l=>bif zdy l && Nat.ble l.length 1000 then some (strA (decF 9000 (zfp l) []))else none
    | none=>none
   | none=>none
  else none
 | _=>none
def OA(f:FuncId)(args:AV)(H:AH):Option (AV × AH):=
 (bif Nat.beq f 59 then O59 args else bif Nat.beq f 60 then O60 args else bif Nat.beq f 105 then O105 args else bif Nat.beq f 106 then O106 args else bif Nat.beq f 71 then O71 args H else none).map fun v=>(v,H)
theorem zgT(w:World)(s:ByteArray):Below w.heap.size w (Lib.bytesWorld w 5 s):=
 ⟨rfl,rfl,rfl,by rw [Lib.bytesWorld_size];omega,fun k hk=>Lib.bytesWorld_at_old w 5 s k hk⟩
theorem zed{f:FuncId}(h:(match Tryz.prog.funcs[f]? with|some fn=>fn.body.isSome|none=>false)=true):∃fn:Func,Tryz.prog.funcs[f]? = some fn∧fn.body.isSome=true:=by
 split at h
 ·rename_i fn e;exact⟨fn,e,h⟩
 ·cases h
theorem zmG{μ:Mu}{a:AV}{xs:List Value}(h:LR μ (.cons a .nil) xs):∃x,xs = [x]∧VR μ a x:=by
 obtain⟨x,r,rfl,h1,h2⟩:=h;have h2:r = []:=h2;subst h2;exact⟨x,rfl,h1⟩
theorem zjJ{μ:Mu}{a b:AV}{xs:List Value}(h:LR μ (.cons a (.cons b .nil)) xs):∃x y,xs = [x,y]∧VR μ a x∧VR μ b y:=by
 obtain⟨x,r,rfl,h1,h2⟩:=h;obtain⟨y,rfl,h3⟩:=zmG h2;exact⟨x,y,rfl,h1,h3⟩
theorem zjA{xs:Array Value}{l:List Value}(h:xs.toList=l):xs=l.toArray:=Array.toList_inj.1 (by simpa using h)
theorem zno{μ:Mu}{cs:AV}{l:List Value}(h:LR μ cs l):VR μ (.tup cs) (.tuple l.toArray):=⟨l.toArray,rfl,h⟩
theorem zs2{w0:World}{G:Sett}(hL:Laid w0):zgH Tryz.prog w0.heap.size w0 G OA:=by
 refine zsk ?_;intro f args H v H' ho;unfold OA at ho;rw [Option.map_eq_some_iff]at ho;obtain⟨v',ho,e⟩:=ho
 cases e
 cases h59:Nat.beq f 59 with
 | true=>
  rw [h59]at ho;have hf:=(zam _ _).1 h59;subst hf;refine⟨zed (by kernel_rfl),rfl,?_⟩;intro μ w xs hrep hxs;simp only [cond_true]at ho;unfold O59 at ho;split at ho
  ·rename_i s p
   cases hb:Nat.blt s.data.toList.length 4000000000 with
   | false=>rw [hb]at ho;cases ho
   | true=>
    rw [hb]at ho
    cases ho
    have hsz:=bltN_lt hb;obtain⟨x,y,e,h1,h2⟩:=zjJ hxs;have h1:x = .string s:=h1;have h2:y = .string p:=h2;subst h1;subst h2;rw [zjA e];obtain⟨m,hm⟩:=(hL.below hrep.below).len;refine(Tryz.strings_Cut s p m w (by rw [Lib.size_eq];omega) hm).mono ?_;rintro e w' ⟨rfl,n,rfl⟩;exact⟨_,rfl,zno (LR.cons rfl (LR.cons rfl (LR.cons rfl LR.nil))),zbh _ _⟩
  ·cases ho
 | false=>
 rw [h59]at ho;simp only [cond_false]at ho
 cases h60:Nat.beq f 60 with
 | true=>
  rw [h60]at ho;have hf:=(zam _ _).1 h60;subst hf;refine⟨zed (by kernel_rfl),rfl,?_⟩;intro μ w xs hrep hxs;simp only [cond_true]at ho;unfold O60 at ho;split at ho
  ·rename_i s p
   cases ho
   obtain⟨x,y,e,h1,h2⟩:=zjJ hxs;have h1:x = .string s:=h1;have h2:y = .string p:=h2;subst h1;subst h2;rw [zjA e];refine(Tryz.strings_CutPrefix s p w).mono ?_;rintro e w' ⟨rfl,rfl⟩;exact⟨_,rfl,zno (LR.cons rfl (LR.cons rfl LR.nil)),Below.refl _ _⟩
  ·cases ho
 | false=>
 rw [h60]at ho;simp only [cond_false]at ho
 cases h105:Nat.beq f 105 with
 | true=>
  rw [h105]at ho;have hf:=(zam _ _).1 h105;subst hf;refine⟨zed (by kernel_rfl),rfl,?_⟩;intro μ w xs hrep hxs;simp only [cond_true]at ho;unfold O105 at ho;split at ho
  ·rename_i s c
   cases hb:Nat.blt s.data.toList.length 4000000000 && Nat.blt c.toNat 128 with
   | false=>rw [hb]at ho;cases ho
   | true=>
    rw [hb]at ho
    cases ho
    rw [Bool.and_eq_true]at hb;have hsz:=bltN_lt hb.1;have hc:=bltN_lt hb.2;obtain⟨x,y,e,h1,h2⟩:=zjJ hxs;have h1:x = .string s:=h1;have h2:y = .string ⟨⟨[c]⟩⟩:=h2;subst h1;subst h2;rw [zjA e];refine(Tryz.strings_Trim_one s c hc w (by rw [Lib.size_eq];omega)).mono ?_;rintro e w' ⟨rfl,rfl|rfl⟩
    ·exact⟨_,rfl,rfl,Below.refl _ _⟩
    ·exact⟨_,rfl,rfl,zab _⟩
  ·cases ho
 | false=>
 rw [h105]at ho;simp only [cond_false]at ho
 cases h106:Nat.beq f 106 with
 | true=>
  rw [h106]at ho;have hf:=(zam _ _).1 h106;subst hf;refine⟨zed (by kernel_rfl),rfl,?_⟩;intro μ w xs hrep hxs;simp only [cond_true]at ho;unfold O106 at ho;split at ho
  ·rename_i s r
   cases hb:Nat.blt s.data.toList.length 4000000000 && r.beq (.cons (.sc (.int .i64 10)) (.cons (.sc (.int .i64 64)) .nil))with
   | false=>rw [hb]at ho;cases ho
   | true=>
    rw [hb]at ho;simp only [cond_true]at ho;rw [Bool.and_eq_true]at hb;have hsz:=bltN_lt hb.1;have hr:=AV.beq_eq hb.2;subst hr;split at ho
    ·rename_i u hu
     cases ho
     obtain⟨x,ys,e,h1,h2⟩:=hxs;obtain⟨y,z,rfl,h3,h4⟩:=zjJ h2;have h1:x = .string s:=h1;have h3:y = .int .i64 10:=h3;have h4:z = .int .i64 64:=h4;subst h1;subst h3;subst h4;rw [zjA e];refine(Tryz.strconv_ParseUint_10_at64_ok s (by rw [Lib.size_eq];omega) u hu w).mono ?_;rintro e w' ⟨rfl,rfl|rfl⟩
     ·exact⟨_,rfl,zno (LR.cons rfl (LR.cons rfl LR.nil)),Below.refl _ _⟩
     ·exact⟨_,rfl,zno (LR.cons rfl (LR.cons rfl LR.nil)),zgT _ _⟩
    ·cases ho
  ·cases ho
 | false=>
 rw [h106]at ho;simp only [cond_false]at ho
 cases h71:Nat.beq f 71 with
 | false=>rw [h71]at ho;cases ho
 | true=>
  rw [h71]at ho;have hf:=(zam _ _).1 h71;subst hf;refine⟨zed (by kernel_rfl),rfl,?_⟩;intro μ w xs hrep hxs;simp only [cond_true]at ho;unfold O71 at ho;have hP:=(hL.below hrep.below).pow;split at ho
  ·cases ho
   obtain⟨x,e,h1⟩:=zmG hxs;have h1:x = .slice none 0 0:=h1;subst h1;rw [zjA e];refine(callsIn_wide.1 (zeI w _ 0 0 zbC ⟨none,0,rfl,fun h=>by omega⟩ (zar 100000) hP)).mono ?_;rintro e w' ⟨rfl,hB⟩;refine⟨_,rfl,?_,hB⟩;show _=Value.string _
   rw [Lib.decDigits,dif_pos (by decide)];rfl
  ·rename_i i o len cm ex e
   cases hb:Nat.beq e 1 with
   | false=>rw [hb]at ho;cases ho
   | true=>
    rw [hb]at ho;simp only [cond_true]at ho;have he:=(zam _ _).1 hb;subst he;split at ho
    ·rename_i cs hcs;split at ho
     ·rename_i l hl
      cases hb:zdy l && Nat.ble l.length 1000 with
      | false=>rw [hb]at ho;cases ho
      | true=>
       rw [hb]at ho
       cases ho
       rw [Bool.and_eq_true]at hb;have hlen:=Nat.le_of_ble_eq_true hb.2;obtain⟨x,e,b,N,c,hm,rfl,_,_,_,_⟩:=zmG hxs;rw [zjA e];obtain⟨xs2,h1,h2,h3⟩:=hrep.load hcs hm;have hxl:=zjf hl h2;have hll:l.length=len:=by rw [←h1,hxl,List.length_map]
       have hlt:=zgq hb.1;have hN:zfp l<B^1000:=zaX 1000 (zka hlt) hlen;refine(callsIn_wide.1 (zeI w _ (zfp l) len (hll ▸ zmH hb.1) ⟨_,c,rfl,fun hk=>⟨⟨b,o,none⟩,rfl,(hrep.dom i b N hm).2,fun j hj => ?_⟩⟩ (zaX 100000 hN (by decide)) hP)).mono ?_
       ·obtain⟨d,hd⟩:∃d,l[j]? = some d:=⟨_,List.getElem?_eq_getElem (by omega)⟩;rw [zjb hlt j d hd];exact h3 j _ (by rw [hxl,List.getElem?_map,hd];rfl)
       ·rintro e w' ⟨rfl,hB⟩;refine⟨_,rfl,?_,hB⟩;show _=Value.string _
        rw [zrR (k:=1000) hN (by decide) (by decide)]
     ·cases ho
    ·cases ho
  ·cases ho
theorem zhi:zei Tryz.prog 109:=by
 refine⟨zed (by kernel_rfl),fun args w => ?_⟩;refine CallsDIn.mono (callsDIn_of_wpSIn (R:=fun e u' w'=>e = .returned (.tuple #[])∧u' = .returning∧w'=w) Tryz.func109 rfl trivial fun c₀ cs hu => ?_) ?_
 ·obtain⟨T,hT⟩:∃T,args ++ Array.replicate (Tryz.f109.ntmps-args.size) undef=T:=⟨_,rfl⟩;have hsz:18≤T.size:=by
   rw [←hT];have:Tryz.f109.ntmps=18:=rfl;rw [this];simp
   omega
  rw [hT];clear hT;apply wpSIn_seq
  apply wpSIn_region
  have s6:6<T.size:=by omega
  have s2:2<T.size:=by omega
  have s7:7<T.size:=by omega
  have s8:8<T.size:=by omega
  simp [wpOpsSIn,go_sem,recoverD,hu,Exit.thenS,s6]
  apply wpSIn_seq
  apply wpSIn_region
  simp [wpOpsSIn,go_sem,Exit.thenS,s2,s7]
  refine wpSIn_cond (t:=false) (by simp [Act.eval,s8]) ?_;simp only [Bool.false_eq_true,if_false];refine wpSIn_of_wpIn rfl (wpIn_skip ?_)
  cases c₀
  simp_all [bodyPostS,results]
 ·rintro e u' w' ⟨rfl,rfl,rfl⟩;exact⟨⟨_,rfl⟩,rfl,rfl,Below.refl _ _⟩
theorem zk4:zei Tryz.prog 120:=by
 refine⟨zed (by kernel_rfl),fun args w => ?_⟩;refine CallsDIn.mono (callsDIn_of_wpSIn (R:=fun e u' w'=>e = .returned (.tuple #[])∧u' = .returning∧w'=w) Tryz.func120 rfl trivial fun c₀ cs hu => ?_) ?_
 ·obtain⟨T,hT⟩:∃T,args ++ Array.replicate (Tryz.f120.ntmps-args.size) undef=T:=⟨_,rfl⟩;have hsz:18≤T.size:=by
   rw [←hT];have:Tryz.f120.ntmps=18:=rfl;rw [this];simp
   omega
  rw [hT];clear hT;apply wpSIn_seq
  apply wpSIn_region
  have s6:6<T.size:=by omega
  have s2:2<T.size:=by omega
  have s7:7<T.size:=by omega
  have s8:8<T.size:=by omega
  simp [wpOpsSIn,go_sem,recoverD,hu,Exit.thenS,s6]
  apply wpSIn_seq
  apply wpSIn_region
  simp [wpOpsSIn,go_sem,Exit.thenS,s2,s7]
  refine wpSIn_cond (t:=false) (by simp [Act.eval,s8]) ?_;simp only [Bool.false_eq_true,if_false];refine wpSIn_of_wpIn rfl (wpIn_skip ?_)
  cases c₀
  simp_all [bodyPostS,results]
 ·rintro e u' w' ⟨rfl,rfl,rfl⟩;exact⟨⟨_,rfl⟩,rfl,rfl,Below.refl _ _⟩
theorem zk3:zei Tryz.prog 125:=by
 refine⟨zed (by kernel_rfl),fun args w => ?_⟩;refine CallsDIn.mono (callsDIn_of_wpSIn (R:=fun e u' w'=>e = .returned (.tuple #[])∧u' = .returning∧w'=w) Tryz.func125 rfl trivial fun c₀ cs hu => ?_) ?_
 ·obtain⟨T,hT⟩:∃T,args ++ Array.replicate (Tryz.f125.ntmps-args.size) undef=T:=⟨_,rfl⟩;have hsz:18≤T.size:=by
   rw [←hT];have:Tryz.f125.ntmps=18:=rfl;rw [this];simp
   omega
  rw [hT];clear hT;apply wpSIn_seq
  apply wpSIn_region
  have s6:6<T.size:=by omega
  have s2:2<T.size:=by omega
  have s7:7<T.size:=by omega
  have s8:8<T.size:=by omega
  simp [wpOpsSIn,go_sem,recoverD,hu,Exit.thenS,s6]
  apply wpSIn_seq
  apply wpSIn_region
  simp [wpOpsSIn,go_sem,Exit.thenS,s2,s7]
  refine wpSIn_cond (t:=false) (by simp [Act.eval,s8]) ?_;simp only [Bool.false_eq_true,if_false];refine wpSIn_of_wpIn rfl (wpIn_skip ?_)
  cases c₀
  simp_all [bodyPostS,results]
 ·rintro e u' w' ⟨rfl,rfl,rfl⟩;exact⟨⟨_,rfl⟩,rfl,rfl,Below.refl _ _⟩
theorem zpE:zei Tryz.prog 137:=by
 refine⟨zed (by kernel_rfl),fun args w => ?_⟩;refine CallsDIn.mono (callsDIn_of_wpSIn (R:=fun e u' w'=>e = .returned (.tuple #[])∧u' = .returning∧w'=w) Tryz.func137 rfl trivial fun c₀ cs hu => ?_) ?_
 ·obtain⟨T,hT⟩:∃T,args ++ Array.replicate (Tryz.f137.ntmps-args.size) undef=T:=⟨_,rfl⟩;have hsz:18≤T.size:=by
   rw [←hT];have:Tryz.f137.ntmps=18:=rfl;rw [this];simp
   omega
  rw [hT];clear hT;apply wpSIn_seq
  apply wpSIn_region
  have s6:6<T.size:=by omega
  have s2:2<T.size:=by omega
  have s7:7<T.size:=by omega
  have s8:8<T.size:=by omega
  simp [wpOpsSIn,go_sem,recoverD,hu,Exit.thenS,s6]
  apply wpSIn_seq
  apply wpSIn_region
  simp [wpOpsSIn,go_sem,Exit.thenS,s2,s7]
  refine wpSIn_cond (t:=false) (by simp [Act.eval,s8]) ?_;simp only [Bool.false_eq_true,if_false];refine wpSIn_of_wpIn rfl (wpIn_skip ?_)
  cases c₀
  simp_all [bodyPostS,results]
 ·rintro e u' w' ⟨rfl,rfl,rfl⟩;exact⟨⟨_,rfl⟩,rfl,rfl,Below.refl _ _⟩
def zqz:Option (AV × AH)→Bool
 | some (.sc (.bool true),_)=>true
 | _=>false
theorem zq6:zqz ((cb Tryz.prog [] OA [109,120,125,137] 3000).call 14 .nil (bare []))=true:=by kernel_rfl
theorem zqy{r:Option (AV × AH)}(h:zqz r=true):∃H,r=some (.sc (.bool true),H):=by
 unfold zqz at h;split at h
 ·exact⟨_,rfl⟩
 ·cases h
theorem zpD:∀g ∈ [109,120,125,137],zei Tryz.prog g:=by
 intro g hg;simp at hg
 rcases hg with rfl|rfl|rfl|rfl
 ·exact zhi
 ·exact zk4
 ·exact zk3
 ·exact zpE
theorem znf{w:World}(h:Laid w):Calls Tryz.prog 14 #[] w fun e w'=>e = .returned (.bool true)∧Below w.heap.size w w':=by
 obtain⟨H',hr⟩:=zqy zq6;refine(zeV (G:=zte) zaq zah (zs2 h) zpD hr (zor rfl w) (by rfl)).mono ?_;rintro e w' ⟨x,μ',rfl,_,hx,hrep⟩;have hx':x = .bool true:=hx;exact⟨by rw [hx'],hrep.below⟩
theorem zjy{w:World}(h:Laid w):ztG w:=fun _w' hb=>callsIn_wide.2 (znf (h.below hb))
end Go.Num
namespace Go.Num
open Go.ChangeShapes Go.WideShapes Go.ChangeAt Go.RowKit Go.Eng Go.Proofs Go.Proofs.YtoamcgjbelhnkaaGreatDoor
section
variable {H:Type} {enc:TypeId × Value→H} {P:Program}
theorem zj3{f:Func}{s:ChangeSpec}{apart fresh handsOn again:Bool}{W W':World}{args:Array Value}{v:Value}{ds gs:List (DataW H)}{before pa pv:List MemPlace}
  (hW:DataW.Whole enc P f.params.toList s.vars apart W args.toList ds gs before)
  (hres:∀(b:Nat) (sp:Nat→Bool) (hd:Bool),DataW.TrodAll enc P W' b sp hd f.resultTypes.toList (v.resultList f.resultTypes.size) (s.fn H (ds ++ gs)).results [])
  (hargs:∀sp:Nat→Bool,(∀p∈before,sp p.block=true)→DataW.TrodAll enc P W' 0 sp true f.params.toList args.toList (s.fn H (ds ++ gs)).args pa)
  (hvars:∀sp:Nat→Bool,(∀p∈before,sp p.block=true)→DataW.TrodVars enc P W' sp s.vars (s.fn H (ds ++ gs)).vars pv)
  (hps:before=pa ++ pv) (hb:Below W.heap.size W W')
  (hok:∀(j:Nat) (t:TypeId) (r:Value),f.resultTypes[j]? = some t→(v.resultList f.resultTypes.size)[j]? = some r→Value.okWide P W' .any 0 t r) :
  s.post enc P f apart fresh handsOn again W args v W':=by
 have hold:∀p∈before,(fun b=>decide (b<W.heap.size)) p.block=true:=fun p hp=>by simpa using hW.lt p hp
 have hlt:=hW.lt;refine⟨ds,gs,before,[],pa,pv,hW,hres _ _ _,hargs _ hold,hvars _ hold,World.keptBut_mono (fun p hp=>⟨hp,?_⟩) (hb.frame (· ∈ before)),fun _ => ?_⟩
 ·rw [hps,List.mem_append]at hp;exact Or.inr hp
 ·obtain⟨_,_,_,_,_,hz,hn⟩:=hW;refine⟨hok,_,_,([] ++ pa) ++ pv,⟨[] ++ pa,pv,trodAll_append (hargs _ (fun _ _=>rfl)) (hres _ _ _),hvars _ (fun _ _=>rfl),rfl,?_,?_⟩,?_⟩
  ·intro b off hp;have hp':MemPlace.cell b off∈before:=by rw [hps];simpa using hp
   rw [hb.frozen (hlt _ hp')];exact hz b off hp'
  ·intro ha;have:=hn ha;rw [hps]at this;simpa using this
  ·intro p hp _;rw [hps];simpa using hp
end
theorem own:ownKnob Tryz.prog.godebug=none:=by kernel_rfl
theorem zsC:laidOutB Tryz.prog=true:=by kernel_rfl
theorem gPow:Tryz.prog.globalNamed "internal/strconv.uint64pow10" = some 3:=by kernel_rfl
theorem ztB:(Tryz.prog.globals[3]?).map (·.type)=some 226:=by kernel_rfl
theorem u226:Tryz.prog.underlying 226=some (.array 20 111):=by kernel_rfl
theorem u111:Tryz.prog.underlying 111=some (.int .u64):=by kernel_rfl
theorem zrV:Tryz.prog.cellsOf 111=1:=by kernel_rfl
theorem zrU:Tryz.prog.cellsOf 226=20:=by kernel_rfl
theorem zsA{l:List (String × DataW Unit)}{a b:String × DataW Unit}{r:List (String × DataW Unit)}{W:World}(e:l=a :: b :: ("internal/strconv.uint64pow10",Lib.tabData .u64 Lib.pow10Tab) :: r)(hf:(l.filter fun x=>x.2.handleName?.isSome) = [])(h:laidMetH Tryz.prog l W)(hs:W.ShapedOpen Tryz.prog):Laid W:=by
 unfold laidMetH at h;rw [hf]at h;have h:laidMet Tryz.prog l W:=h;rw [e]at h;exact⟨Lib.tabIs_of_head gPow ztB u226 u111 zrV zrU h.tail.tail,Tryz.laysM219.s1_3 W hs⟩
theorem zl5{H:Type}{enc:TypeId × Value→H}{W W':World}{sp:Nat→Bool}(hl:laidOutB Tryz.prog=true):∀{ts:List TypeId} {vs:List Value} {ds:List (DataW H)} {ps:List MemPlace},
  (∀t∈ts,Tryz.prog.readableRec t=true∧t<Tryz.prog.types.size)→DataW.TrodAll enc Tryz.prog W 0 (fun _=>true) true ts vs ds ps→(∀p∈ps,W.sameAt W' p)→(∀p∈ps,sp p.block=true)→DataW.TrodAll enc Tryz.prog W' 0 sp true ts vs ds ps
 | [],vs,ds,ps,_,h,_,_=>by
  obtain⟨rfl,rfl,rfl⟩:=trodAll_nil h;exact trodAll_mk0
 | t :: ts,vs,ds,ps,hr,h,h1,h2=>by
  obtain⟨v,vs',d,ds',p,q,rfl,rfl,rfl,hd,hrest⟩:=trodAll_cons h;exact⟨p,q,WideElems.Trod_stays hl (hr t (by simp)).1 (hr t (by simp)).2 hd (fun x hx=>h1 x (by simp [hx])) (fun x hx=>h2 x (by simp [hx])),
   zl5 hl (fun t' ht'=>hr t' (by simp [ht'])) hrest (fun x hx=>h1 x (by simp [hx])) (fun x hx=>h2 x (by simp [hx])),rfl⟩
def db64:List Int:=[0,1,56,2,57,49,28,3,61,58,42,50,38,29,17,4,62,47,59,36,45,43,51,22,53,39,33,30,24,18,12,5,63,55,48,27,60,41,37,16,46,35,44,21,52,32,23,11,54,26,40,15,34,20,31,10,25,14,19,9,13,8,7,6]
def db32:List Int:=[0,1,28,2,29,14,24,3,30,22,20,15,25,17,4,8,31,27,13,23,21,19,16,7,26,12,18,6,11,5,10,9]
def ztF:List Nat:=[128,191,160,191,128,159,144,191,128,143] ++ List.replicate 22 0
noncomputable def zec(cs:Array Value):Obj→Obj
 | .cells _ t frozen => .cells cs t frozen
 | o=>o
noncomputable def zhI(os:Os):World:=
 let w:=World.holding Tryz.prog os ⟨#[],#[],[]⟩
 let i:=w.heap.size
 let w:=(w.alloc (.cells #[.string ⟨#[105,110,118,97,108,105,100,32,115,121,110,116,97,120]⟩] 238)).alloc (.cells #[.string ⟨#[118,97,108,117,101,32,111,117,116,32,111,102,32,114,97,110,103,101]⟩] 238)
 {w with heap:=(((((((w.heap.modify 1 (zec #[.iface 236 (.pointer (some ⟨i,0,none⟩))])).modify 2 (zec #[.iface 236 (.pointer (some ⟨i+1,0,none⟩))])).modify 3 (zec (Lib.pow10Tab.map (Value.int .u64)).toArray)).modify 4 (zec (Pinned.utf8FirstZ.map fun (n:Nat)=>Value.int .u8 (n:Int)).toArray)).modify 5 (zec (ztF.map fun (n:Nat)=>Value.int .u8 (n:Int)).toArray)).modify 6 (zec (db32.map (Value.int .u8)).toArray)).modify 7 (zec (db64.map (Value.int .u8)).toArray))}
end Go.Num
namespace Go.Num
open Go.Lib
def za0(b:UInt8):Bool:=decide (48≤b.toNat∧b.toNat≤57)
def zaf(l:List UInt8):Nat:=l.foldl (fun a b=>10*a+(b.toNat-48)) 0
theorem zqH(l:List UInt8):∀a:Nat,l.foldl (fun a b=>10*a+(b.toNat-48)) a=a*10^l.length+zaf l:=by
 induction l with
 | nil=>intro a;simp [zaf]
 | cons b r ih=>
  intro a;show r.foldl _ (10*a+(b.toNat-48))=_
  have e:zaf (b :: r)=(b.toNat-48)*10^r.length+zaf r:=by
   show r.foldl _ (10*0+(b.toNat-48))=_
   rw [ih,Nat.mul_zero,Nat.zero_add]
  rw [ih,e,List.length_cons,Nat.pow_succ,Nat.add_mul,Nat.add_assoc,Nat.mul_comm 10 a,Nat.mul_assoc,Nat.mul_comm 10]
theorem zc7(a b:List UInt8):zaf (a ++ b)=zaf a*10^b.length+zaf b:=by
 show(a ++ b).foldl _ 0=_
 rw [List.foldl_append,zqH];rfl
theorem zbW(b:UInt8):zaf [b]=b.toNat-48:=by simp [zaf]
theorem zfz(b:UInt8)(r:List UInt8):zaf (b :: r)=(b.toNat-48)*10^r.length+zaf r:=by
 have:=zc7 [b] r;rw [zbW]at this;exact this
theorem zfy(a:List UInt8)(b:UInt8):zaf (a ++ [b])=zaf a*10+(b.toNat-48):=by
 rw [zc7,zbW];simp
theorem zg5{b:UInt8}(h:za0 b=true):b.toNat-48<10:=by
 have:=of_decide_eq_true h;omega
theorem zdU{l:List UInt8}(h:l.all za0=true):zaf l<10^l.length:=by
 induction l with
 | nil=>simp [zaf]
 | cons b r ih=>
  simp only [List.all_cons,Bool.and_eq_true]at h;have h1:=zg5 h.1;have h2:=ih h.2;have e:zaf (b :: r)=(b.toNat-48)*10^r.length+zaf r:=zfz b r;rw [e,List.length_cons,Nat.pow_succ,Nat.mul_comm _ 10];have:(b.toNat-48)*10^r.length≤9*10^r.length:=Nat.mul_le_mul_right _ (by omega);omega
theorem zkE{l:List UInt8}(h:l.all za0=true)(m:Nat):(l.take m).all za0=true:=by
 rw [List.all_eq_true]at h ⊢;exact fun x hx=>h x (List.mem_of_mem_take hx)
theorem zkF{l:List UInt8}(h:l.all za0=true)(m:Nat):(l.drop m).all za0=true:=by
 rw [List.all_eq_true]at h ⊢;exact fun x hx=>h x (List.mem_of_mem_drop hx)
theorem zfx{l:List UInt8}(h:l.all za0=true)(m:Nat):zaf (l.take m)=zaf l/10^(l.length-m):=by
 have e:zaf l=zaf (l.take m)*10^(l.length-m)+zaf (l.drop m):=by
  have:=zc7 (l.take m) (l.drop m);rw [List.take_append_drop,List.length_drop]at this;exact this
 have h2:=zdU (zkF h m);rw [List.length_drop]at h2;rw [e,Nat.mul_comm,Nat.mul_add_div (Nat.pow_pos (by decide)),Nat.div_eq_of_lt h2,Nat.add_zero]
theorem zm6{l:List UInt8}(h:l.all za0=true)(m:Nat):zaf (l.drop m)=zaf l%10^(l.length-m):=by
 have e:zaf l=zaf (l.take m)*10^(l.length-m)+zaf (l.drop m):=by
  have:=zc7 (l.take m) (l.drop m);rw [List.take_append_drop,List.length_drop]at this;exact this
 have h2:=zdU (zkF h m);rw [List.length_drop]at h2;rw [e,Nat.mul_comm,Nat.mul_add_mod,Nat.mod_eq_of_lt h2]
def zbj(l:List UInt8):Bool:=!l.isEmpty && (l == [48] || !(l.head? == some 48)) && l.all za0
theorem zjw{b:UInt8}(h:za0 b=true):UInt8.ofNat (48+(b.toNat-48))=b:=by
 have:=of_decide_eq_true h;rw [show 48+(b.toNat-48)=b.toNat by omega];exact UInt8.ofNat_toNat
theorem zdT{d:Nat}(h:d<10):(UInt8.ofNat (48+d)).toNat=48+d:=by
 rw [UInt8.toNat_ofNat'];omega
theorem zbM{l:List UInt8}(h:zbj l=true):l.all za0=true:=by
 unfold zbj at h;simp only [Bool.and_eq_true]at h;exact h.2
theorem zrW{l:List UInt8}(h:zbj l=true):l ≠ []:=by
 rintro rfl;simp [zbj]at h
theorem zpe:∀{l:List UInt8} {b:UInt8},(b :: l).all za0=true→b≠48→0<zaf (b :: l):=by
 intro l b h hb;have e:zaf (b :: l)=(b.toNat-48)*10^l.length+zaf l:=zfz b l;simp only [List.all_cons,Bool.and_eq_true]at h;have h1:=of_decide_eq_true h.1;have:b.toNat≠48:=fun e=>hb (UInt8.toNat_inj.1 e)
 have h2:0<10^l.length:=Nat.pow_pos (by decide);have:1*10^l.length≤(b.toNat-48)*10^l.length:=Nat.mul_le_mul_right _ (by omega);omega
theorem zgb:∀(n:Nat) (l:List UInt8),l.length=n+1→l.all za0=true→(n=0∨l.head? ≠ some 48)→decDigits (zaf l)=l
 | 0,l,hn,hd,_=>by
  match l,hn with
  | [b],_=>
   simp only [List.all_cons,List.all_nil,Bool.and_true]at hd;have h1:=zg5 hd;rw [zbW,decDigits,dif_pos h1,zjw hd]
 | n+1,l,hn,hd,hh=>by
  obtain⟨a,b,rfl⟩:∃a b,l=a ++ [b]:=by
   have hne:l ≠ []:=by rintro rfl;simp at hn
   exact⟨l.dropLast,l.getLast hne,(List.dropLast_concat_getLast hne).symm⟩
  rw [List.length_append,List.length_singleton]at hn;rw [List.all_append,Bool.and_eq_true]at hd;have hb:za0 b=true:=by have:=hd.2;simpa using this
  have h1:=zg5 hb;have hah:a.head? ≠ some 48:=by
   rcases hh with hh|hh
   ·omega
   ·intro e;apply hh
    cases a with
    | nil=>simp at e
    | cons c r=>simpa using e
  have hpos:0<zaf a:=by
   cases a with
   | nil=>simp at hn
   | cons c r=>exact zpe hd.1 (fun e=>hah (by simp [e]))
  rw [zfy,decDigits,dif_neg (by omega),show(zaf a*10+(b.toNat-48))/10=zaf a by omega,show(zaf a*10+(b.toNat-48))%10=b.toNat-48 by omega,zjw hb];rw [zgb n a (by omega) hd.1 (.inr hah)]
theorem zlY{l:List UInt8}(h:zbj l=true):decDigits (zaf l)=l:=by
 have hd:=zbM h;have hn:=zrW h;obtain⟨n,hl⟩:∃n,l.length=n+1:=by
  cases l with
  | nil=>exact absurd rfl hn
  | cons a r=>exact⟨r.length,rfl⟩
 refine zgb n l hl hd ?_;unfold zbj at h;simp only [Bool.and_eq_true,Bool.or_eq_true]at h;rcases h.1.2 with h|h
 ·left;have:l = [48]:=by simpa using h
  rw [this]at hl;simp at hl;omega
 ·right;intro e;rw [e]at h;simp at h
theorem zm5(u:Nat):(decDigits u).all za0=true:=by
 induction u using Nat.strongRecOn with
 | _ u ih=>
  rw [decDigits];split
  ·rename_i h;simp only [List.all_cons,List.all_nil,Bool.and_true,za0,zdT h];exact decide_eq_true (by omega)
  ·rename_i h;rw [List.all_append,ih (u/10) (by omega)];simp only [List.all_cons,List.all_nil,Bool.and_true,Bool.true_and,za0,zdT (show u%10<10 by omega)];exact decide_eq_true (by omega)
theorem zjH(u:Nat):zaf (decDigits u)=u:=by
 induction u using Nat.strongRecOn with
 | _ u ih=>
  rw [decDigits];split
  ·rename_i h;rw [zbW,zdT h];omega
  ·rename_i h;rw [zfy,ih (u/10) (by omega),zdT (by omega)];omega
theorem zsc(u:Nat):decDigits u ≠ []:=by
 intro h;have:=decDigits_length u;rw [h]at this;have:=nDigits_pos u;simp at *
 omega
theorem zrQ(u:Nat)(h:0<u):(decDigits u).head? ≠ some 48:=by
 induction u using Nat.strongRecOn with
 | _ u ih=>
  rw [decDigits];split
  ·rename_i h10;intro e;have e:UInt8.ofNat (48+u)=48:=by simpa using e
   have:=zdT h10;rw [e]at this;have:(48:Nat)=48+u:=this;omega
  ·rename_i h10;have:=ih (u/10) (by omega) (by omega);intro e;apply this
   cases hc:decDigits (u/10)with
   | nil=>exact absurd hc (zsc _)
   | cons c r=>rw [hc]at e;simpa using e
theorem zig(u:Nat):zbj (decDigits u)=true:=by
 unfold zbj;simp only [Bool.and_eq_true,Bool.or_eq_true];refine⟨⟨?_,?_⟩,zm5 u⟩
 ·cases hc:decDigits u with
  | nil=>exact absurd hc (zsc _)
  | cons c r=>rfl
 ·rcases Nat.eq_zero_or_pos u with rfl|h
  ·left;rw [decDigits];rfl
  ·right;have:=zrQ u h
   cases hc:(decDigits u).head? with
   | none=>rfl
   | some c=>
    rw [hc]at this;have hne:c≠48:=fun e=>this (by rw [e])
    simp [hne]
theorem zh1:∀(l:List UInt8) (acc:Nat),l.all za0=true→decFrom acc l=some (acc*10^l.length+zaf l)
 | [],acc,_=>by simp [decFrom,zaf]
 | b :: r,acc,h=>by
  simp only [List.all_cons,Bool.and_eq_true]at h;have h1:=of_decide_eq_true h.1;have e:zaf (b :: r)=(b.toNat-48)*10^r.length+zaf r:=zfz b r;unfold decFrom digitVal;rw [if_pos h1];show decFrom (acc*10+(b.toNat-48)) r=_
  rw [zh1 r _ h.2,e,List.length_cons,Nat.pow_succ,Nat.add_mul,Nat.add_assoc,Nat.mul_assoc,Nat.mul_comm 10]
theorem zmE{l:List UInt8}(h:l.all za0=true)(hn:l ≠ [])(h9:l.length≤9):parseUintB 64 l = .ok (zaf l):=by
 rw [parseUintB_64];unfold parseMag;rw [if_neg hn,parseUint10_short l 0 0 (by decide) (by omega),zh1 l 0 h,Nat.zero_mul,Nat.zero_add];rfl
def zat(l:List UInt8):Nat:=(l.takeWhile (fun b => !(b == 47))).length
theorem znE(l:List UInt8):zat l≤l.length:=(List.takeWhile_sublist _).length_le
theorem zoF(l:List UInt8):l.take (zat l)=l.takeWhile (fun b => !(b == 47)):=by
 unfold zat;induction l with
 | nil=>rfl
 | cons b r ih=>
  rw [List.takeWhile_cons];split
  ·simp only [ztI,List.take_succ_cons,ih]
  ·simp
theorem zgJ(l:List UInt8){i:Nat}(h:i<zat l):l[i]? ≠ some 47:=by
 have h1:(l.take (zat l))[i]? = l[i]?:=by rw [List.getElem?_take,if_pos h]
 rw [zoF]at h1;intro e;rw [e]at h1;have hm:=List.mem_of_getElem? h1;have:=(List.all_eq_true.1 (List.all_takeWhile (p:=fun b:UInt8 => !(b == 47)) (l:=l))) _ hm;simp at this
theorem zjQ(l:List UInt8)(h:zat l<l.length):l[zat l]? = some 47:=by
 unfold zat at *;induction l with
 | nil=>simp at h
 | cons b r ih=>
  rw [List.takeWhile_cons]at h ⊢;split
  ·rename_i hb;rw [if_pos hb]at h;simp only [ztI,List.getElem?_cons_succ]at h ⊢;exact ih (by omega)
  ·rename_i hb;have hb':b=47:=by simpa using hb
   rw [hb'];rfl
theorem zez{l:List UInt8}{k:Nat}(h1:∀i,i<k→l[i]? ≠ some 47)(h2:k<l.length→l[k]? = some 47)(h3:k≤l.length):zat l=k:=by
 rcases Nat.lt_trichotomy (zat l) k with h|h|h
 ·exact absurd (zjQ l (by omega)) (h1 _ h)
 ·exact h
 ·have:=znE l;exact absurd (h2 (by omega)) (zgJ l h)
theorem zeL(l:List UInt8):List.isPrefixOf [47] l=(l.head? == some 47):=by
 cases l with
 | nil=>rfl
 | cons b r=>
  simp only [List.isPrefixOf,List.head?_cons,Bool.and_true];rw [Bool.eq_iff_iff];simp
  exact eq_comm
theorem zmS(l:List UInt8):index l [47]=if zat l<l.length then(zat l:Int)else -1:=by
 rcases index_spec l [47]with⟨h1,h2⟩|⟨i,h1,h2,h3,h4⟩
 ·rw [h1,if_neg];intro h;have:=h2 (zat l) (by omega);unfold occAt at this;rw [zeL,List.head?_drop,zjQ l h]at this;simp at this
 ·have hi:l[i]? = some 47:=by
   unfold occAt at h3;rw [zeL,List.head?_drop]at h3;simpa using h3
  have hlt:i<l.length:=by
   apply Classical.byContradiction
   intro hn;rw [List.getElem?_eq_none (by omega)]at hi
   cases hi
  have hs:zat l=i:=zez (fun j hj e=>by
   have:=h4 j hj;unfold occAt at this;rw [zeL,List.head?_drop,e]at this;simp at this) (fun _=>hi) h2
  rw [h1,hs,if_pos hlt]
theorem zqS(l:List UInt8):cut l [47]=if zat l<l.length then(l.take (zat l),l.drop (zat l+1),true)else(l,[],false):=by
 unfold cut;rw [zmS];by_cases h:zat l<l.length
 ·rw [if_pos h,if_pos h,if_pos (by omega)];simp
 ·rw [if_neg h,if_neg h,if_neg (by omega)]
def zbY(l:List UInt8):Bool:=hasPrefix l [45]
def zaR(l:List UInt8):List UInt8:=trimPrefix l [45]
def zbF(l:List UInt8):Option Int:=
 if zbj (zaR l) && !(zbY l && zaR l == [48])then some (sgn (zbY l) (zaf (zaR l)))else none
theorem zdP(b:UInt8)(r:List UInt8):zbY (b :: r)=(b == 45):=by
 unfold zbY hasPrefix;simp only [List.isPrefixOf,Bool.and_true];rw [Bool.eq_iff_iff];simp;exact eq_comm
theorem zls(r:List UInt8):zaR (45 :: r)=r:=by
 unfold zaR trimPrefix;rw [if_pos (by rfl)];rfl
theorem zf4{l:List UInt8}(h:zbY l=false):zaR l=l:=by
 unfold zaR trimPrefix;rw [if_neg];unfold zbY at h;rw [h];simp
theorem zrv{l:List UInt8}(h:zbY l=true):∃r,l=45 :: r:=by
 cases l with
 | nil=>simp [zbY,hasPrefix]at h
 | cons b r=>rw [zdP]at h;exact⟨r,by rw [show b=45 by simpa using h]⟩
theorem zol(u:Nat):zbY (decDigits u)=false:=by
 have:=zm5 u
 cases h:decDigits u with
 | nil=>rfl
 | cons b r=>
  rw [h]at this;simp only [List.all_cons,Bool.and_eq_true]at this;have h1:=of_decide_eq_true this.1;rw [zdP,beq_eq_false_iff_ne];rintro rfl;have:(45:UInt8).toNat=45:=rfl;omega
theorem ziP(z:Int):zbF (itoa z)=some z:=by
 unfold itoa;split
 ·rename_i hz;have hn:zbY (45 :: decDigits z.natAbs)=true:=by rw [zdP];rfl
  have hc:(zbj (decDigits z.natAbs) && !(decDigits z.natAbs == [48]))=true:=by
   rw [zig];have:decDigits z.natAbs ≠ [48]:=by
    intro e;have:=zjH z.natAbs;rw [e,zbW]at this;simp at this
    omega
   simpa using this
  unfold zbF;rw [hn,zls,Bool.true_and,if_pos hc,zjH];unfold sgn;rw [if_pos rfl];congr 1;omega
 ·rename_i hz;unfold zbF;rw [zol,zf4 (zol _),zig];simp only [Bool.false_and,Bool.not_false,Bool.and_self,if_true,zjH,Option.some.injEq];unfold sgn;rw [if_neg (by simp)];omega
theorem zlF(z:Int):∀x∈itoa z,x≠47:=by
 have hd:∀u,∀x∈decDigits u,x≠47:=fun u x hx=>by
  have:=List.all_eq_true.1 (zm5 u) x hx;have:=of_decide_eq_true this;rintro rfl;have:(47:UInt8).toNat=47:=rfl;omega
 unfold itoa;split
 ·intro x hx;rcases List.mem_cons.1 hx with rfl|hx
  ·decide
  ·exact hd _ x hx
 ·exact hd _
def zcg(l:List UInt8):Option Rat:=
 if zat l<l.length then
  match zbF (l.take (zat l))with
  | none=>none
  | some z=>if zbj (l.drop (zat l+1)) && decide (2≤zaf (l.drop (zat l+1))) && decide (Nat.gcd z.natAbs (zaf (l.drop (zat l+1)))=1)
   then some ((z:Rat)/(zaf (l.drop (zat l+1)):Rat))else none
 else match zbF l with
  | none=>none
  | some z=>some ((z:Int):Rat)
def zio(q:Rat):List UInt8:=if q.den=1 then itoa q.num else itoa q.num ++ 47 :: decDigits q.den
theorem zfo{z:Int}{d:Nat}(hd:d≠0)(hg:Nat.gcd z.natAbs d=1):((z:Rat)/(d:Rat)).num=z∧((z:Rat)/(d:Rat)).den=d:=by
 have e:(z:Rat)/(d:Rat)=frac (decide (z<0)) z.natAbs d:=by
  unfold frac;have:sgn (decide (z<0)) z.natAbs=z:=by unfold sgn;simp;omega
  rw [this,Rat.divInt_eq_div];rfl
 have h:=zdS (neg:=decide (z<0)) (n:=z.natAbs) hd;rw [←e,Nat.gcd_comm,hg,Nat.div_one,Nat.div_one]at h;refine⟨?_,h.2.1⟩;have h3:=h.2.2;have h1:=h.1;by_cases hz:z<0
 ·have:=h3.2 ⟨decide_eq_true hz,by omega⟩;omega
 ·have:¬((z:Rat)/(d:Rat)).num<0:=fun hh=>hz (of_decide_eq_true (h3.1 hh).1)
  omega
theorem zpJ{a b:List UInt8}(h:∀x∈a,x≠47):zat (a ++ 47 :: b)=a.length:=by
 refine zez (fun i hi e => ?_) (fun _=>by simp) (by simp);rw [List.getElem?_append_left hi]at e;exact h _ (List.mem_of_getElem? e) rfl
theorem zoG{a:List UInt8}(h:∀x∈a,x≠47):zat a=a.length:=
 zez (fun _ _ e=>h _ (List.mem_of_getElem? e) rfl) (fun h=>absurd h (by omega)) (Nat.le_refl _)
theorem zoz(q:Rat):zcg (zio q)=some q:=by
 unfold zio;split
 ·rename_i h1;have hs:zat (itoa q.num)=(itoa q.num).length:=zoG (zlF _);unfold zcg;rw [hs,if_neg (by omega),ziP];show some ((q.num:Rat))=some q
  congr 1
  apply Rat.ext
  ·exact Rat.num_intCast _
  ·rw [h1];exact Rat.den_intCast _
 ·rename_i h1;have hs:zat (itoa q.num ++ 47 :: decDigits q.den)=(itoa q.num).length:=zpJ (zlF _);have hz:=q.den_nz;unfold zcg;rw [hs,if_pos (by simp),List.take_left,ziP];have e:(itoa q.num ++ 47 :: decDigits q.den).drop ((itoa q.num).length+1)=decDigits q.den:=by
   rw [List.drop_append];simp
  rw [e,zig,zjH];have hc:(true && decide (2≤q.den) && decide (Nat.gcd q.num.natAbs q.den=1))=true:=by
   have:Nat.gcd q.num.natAbs q.den=1:=q.reduced;simp [this];omega
  rw [show(match some q.num with|none=>none|some z=>if(true && decide (2≤q.den) && decide (Nat.gcd z.natAbs q.den=1))=true then some ((z:Rat)/(q.den:Rat))else none)=if(true && decide (2≤q.den) && decide (Nat.gcd q.num.natAbs q.den=1))=true then some ((q.num:Rat)/(q.den:Rat))else none from rfl,if_pos hc];congr 1
  have hp:=zfo (z:=q.num) hz q.reduced;exact Rat.ext hp.1 hp.2
theorem zmf(k:Nat):B^k=10^(9*k):=by
 rw [Nat.pow_mul];rfl
theorem zph{l:List UInt8}(h:l.all za0=true){i m:Nat}(hm:m+9*i=l.length):zaf ((l.take m).drop (m-9))=limb (zaf l) i:=by
 have hlen:(l.take m).length=m:=by rw [List.length_take];omega
 rw [zm6 (zkE h m),hlen,zfx h m,show l.length-m=9*i by omega,←zmf];unfold limb;rcases Nat.lt_or_ge m 9 with h9|h9
 ·have h1:zaf l/B^i<10^m:=by
   have:=zdU (zkE h m);rw [zfx h m,hlen,show l.length-m=9*i by omega,←zmf]at this;exact this
  have h2:10^m≤10^9:=Nat.pow_le_pow_right (by decide) (by omega);have h3:(10:Nat)^9=B:=by decide
  rw [show m-(m-9)=m by omega,Nat.mod_eq_of_lt h1,Nat.mod_eq_of_lt (by omega)]
 ·rw [show m-(m-9)=9 by omega];rfl
theorem zfK{l:List UInt8}(h:l.all za0=true){k:Nat}(hk:l.length≤9*k):zaf l<B^k:=by
 rw [zmf];exact Nat.lt_of_lt_of_le (zdU h) (Nat.pow_le_pow_right (by decide) hk)
theorem zoi{l:List UInt8}(h:l.all za0=true){j:Nat}(hj:j<l.length)(b:UInt8)(hb:l[l.length-1-j]? = some b):b.toNat-48=zaf l/10^j%10:=by
 have h1:=zfx h (l.length-j);rw [show l.length-(l.length-j)=j by omega]at h1;rw [←h1];have e:l.take (l.length-j)=l.take (l.length-1-j) ++ [b]:=by
  rw [show l.length-j=(l.length-1-j)+1 by omega,List.take_add_one,hb];rfl
 rw [e,zfy];have hd:za0 b=true:=List.all_eq_true.1 h b (List.mem_of_getElem? hb);have:=zg5 hd;omega
def part(V j:Nat):Nat:=V%10^j/B^(j/9)
theorem zo0(V j:Nat):V%10^(j+1)=V%10^j+10^j*(V/10^j%10):=by
 rw [Nat.pow_succ,Nat.mod_mul]
theorem zlk(V j:Nat):part V j+10^(j%9)*(V/10^j%10)=V%10^(j+1)/B^(j/9):=by
 unfold part;rw [zo0,zmf];have e:10^j=10^(9*(j/9))*10^(j%9):=by rw [←Nat.pow_add,Nat.div_add_mod]
 rw [show V%10^j+10^j*(V/10^j%10)=V%10^j+10^(9*(j/9))*(10^(j%9)*(V/10^j%10))by rw [←Nat.mul_assoc,←e]];rw [Nat.add_mul_div_left _ _ (Nat.pow_pos (by decide))]
theorem zll{V j:Nat}(h:j%9≠8):part V (j+1)=part V j+10^(j%9)*(V/10^j%10):=by
 rw [zlk];unfold part;rw [show(j+1)/9=j/9 by omega]
theorem zlm{V j:Nat}(h:j%9=8):limb V (j/9)=part V j+10^(j%9)*(V/10^j%10)∧part V (j+1)=0:=by
 rw [zlk];have e:j+1=9*(j/9)+9:=by omega
 have e2:10^(j+1)=B^(j/9)*B:=by rw [e,Nat.pow_add,←zmf];rfl
 constructor
 ·unfold limb;rw [e2,Nat.mod_mul,Nat.add_mul_div_left _ _ (zar _),Nat.div_eq_of_lt (Nat.mod_lt _ (zar _)),Nat.zero_add]
 ·unfold part;rw [show(j+1)/9=j/9+1 by omega,Nat.pow_succ B,←e2];exact Nat.div_eq_of_lt (Nat.mod_lt _ (Nat.pow_pos (by decide)))
theorem znO{V n:Nat}(h:V<10^n):part V n=V/B^(n/9):=by
 unfold part;rw [Nat.mod_eq_of_lt h]
theorem zg8{V n:Nat}(h:V<10^n):limb V (n/9)=part V n∧V<B^(n/9+1):=by
 have h2:V<B^(n/9+1):=by
  rw [zmf];exact Nat.lt_of_lt_of_le h (Nat.pow_le_pow_right (by decide) (by omega))
 refine⟨?_,h2⟩;rw [znO h];unfold limb;apply Nat.mod_eq_of_lt
 rw [Nat.pow_succ]at h2;exact Nat.div_lt_of_lt_mul h2
theorem zoe{V n:Nat}(h:V<10^n)(h0:part V n=0):V<B^(n/9):=by
 rw [znO h]at h0;rcases Nat.lt_or_ge V (B^(n/9))with h|h
 ·exact h
 ·have:=Nat.div_pos h (zar _);omega
theorem ziS(l:List UInt8):∃k,k≤l.length∧(l.drop k).all za0=true∧(0<k→∃b,l[k-1]? = some b∧za0 b=false):=by
 induction l with
 | nil=>exact⟨0,Nat.le_refl _,rfl,fun h=>absurd h (by omega)⟩
 | cons b r ih=>
  obtain⟨k,hk,h1,h2⟩:=ih;rcases Nat.eq_zero_or_pos k with rfl|h0
  ·cases hb:za0 b with
   | true=>exact⟨0,by simp,by rw [List.drop_zero,List.all_cons,hb,Bool.true_and];simpa using h1,fun h=>absurd h (by omega)⟩
   | false=>exact⟨1,by simp,by simpa using h1,fun _=>⟨b,rfl,hb⟩⟩
  ·refine⟨k+1,by simp;omega,by simpa using h1,fun _ => ?_⟩;obtain⟨c,hc,hd⟩:=h2 h0;refine⟨c,?_,hd⟩;obtain⟨m,rfl⟩:∃m,k=m+1:=⟨k-1,by omega⟩;simpa using hc
end Go.Num
namespace Go.Num
open Go.Eng Go.Shelf Go.RowKit Go.Sort Go.Proofs Go.Proofs.YtoamcgjbelhnkaaGreatDoor
abbrev zgz:ByteArray:={data:=#[48,49,50,51,52,53,54,55,56,57]}
theorem zpd(b:UInt8):zgz.data.toList.contains b=za0 b:=by
 have h:zgz.data.toList = [48,49,50,51,52,53,54,55,56,57]:=rfl;rw [h,Bool.eq_iff_iff];unfold za0;simp only [List.contains_eq_mem,List.mem_cons,List.not_mem_nil,or_false,decide_eq_true_eq];constructor
 ·rintro (rfl|rfl|rfl|rfl|rfl|rfl|rfl|rfl|rfl|rfl) <;> decide
 ·intro h;have hb:b.toNat=48∨b.toNat=49∨b.toNat=50∨b.toNat=51∨b.toNat=52∨b.toNat=53∨b.toNat=54∨b.toNat=55∨b.toNat=56∨b.toNat=57:=by omega
  rcases hb with h|h|h|h|h|h|h|h|h|h
  all_goals
   have:b=UInt8.ofNat b.toNat:=UInt8.ofNat_toNat.symm;rw [this,h];decide
theorem dropWhile_nil{p:UInt8→Bool}{l:List UInt8}:l.dropWhile p = []↔l.all p=true:=by
 induction l with
 | nil=>simp
 | cons b r ih=>
  rw [List.dropWhile_cons];split
  ·rename_i h;rw [ih];simp [h]
  ·rename_i h;simp [h]
theorem zmk(l:List UInt8):(Lib.trimS l zgz.data.toList = [])↔l.all za0=true:=by
 have hp:(fun b=>zgz.data.toList.contains b)=za0:=funext zpd;unfold Lib.trimS Lib.trimLeftS Lib.trimRightS;rw [hp,dropWhile_nil,List.all_reverse];constructor
 ·intro h;have e:l.reverse=l.reverse.takeWhile za0 ++ l.reverse.dropWhile za0:=(List.takeWhile_append_dropWhile).symm;have h2:l.reverse.all za0=true:=by
   rw [e,List.all_append,List.all_takeWhile,h];rfl
  rwa [List.all_reverse]at h2
 ·intro h;have h2:l.reverse.dropWhile za0 = []:=dropWhile_nil.2 (by rw [List.all_reverse];exact h);rw [h2];rfl
theorem zhd(w:World)(s:ByteArray)(hs:s.size≤100000) :
  CallsIn Fence.wide 0 Tryz.prog 105 #[.string s,.string zgz] w fun e w'=>∃t:ByteArray,e = .returned (.string t)∧(t.data.toList = []↔s.data.toList.all za0=true)∧Below w.heap.size w w':=by
 refine callsIn_wide.2 ((Any.strings_Trim_laid Tryz.lays160 (by kernel_rfl) s zgz w (by omega) (by decide) (ascii_of_all (by decide))).mono ?_);rintro e w' ⟨rfl,hB⟩;exact⟨_,rfl,zmk _,hB⟩
theorem zof{l:List UInt8}{b:Bool}(h:l = []↔b=true):l.isEmpty=b:=by
 rw [Bool.eq_iff_iff,←h]
 cases l <;> simp
theorem zhL(s:ByteArray)(h:0<s.size):s.data.toList=s[0] :: s.data.toList.tail:=by
 obtain⟨⟨l⟩⟩:=s
 cases l with
 | nil=>exact absurd h (by decide)
 | cons b r=>rfl
theorem zgC{b:UInt8}{r:List UInt8}(h:b.toNat=48)(hne:b :: r ≠ [48]):zbj (b :: r)=false:=by
 have hb:b=48:=UInt8.toNat_inj.1 h;subst hb;unfold zbj;have:(48 :: r == [48])=false:=beq_false_of_ne hne;rw [this];simp
theorem zif{b:UInt8}{r:List UInt8}(h:¬b.toNat=48):zbj (b :: r)=(b :: r).all za0:=by
 have hb:b≠48:=fun e=>h (by rw [e];rfl)
 unfold zbj;have:((b :: r).head? == some 48)=false:=by simp [hb]
 rw [this];simp
theorem znb(s:ByteArray)(h0:0<s.size)(h:(s[0].toNat:Int)=48)(hne:¬s.toList = [48]):zbj s.data.toList=false:=by
 rw [Lib.toList_data]at hne;rw [zhL s h0]at hne ⊢;exact zgC (by omega) hne
theorem zl1(s:ByteArray)(h0:0<s.size)(h:¬(s[0].toNat:Int)=48):zbj s.data.toList=s.data.toList.all za0:=by
 rw [zhL s h0];exact zif (by omega)
theorem zdz(w:World)(s:ByteArray)(hs:s.size≤100000) :
  CallsIn Fence.wide 0 Tryz.prog 61 #[.string s] w fun e w'=>e = .returned (.bool (zbj s.data.toList))∧Below w.heap.size w w':=by
 have HS:=zHi hs;refine callsIn_of_wp Tryz.func61 rfl trivial ?_ rfl;simp only [Tryz.ntmps61,ztH,ztI,ztJ,Nat.reduceAdd,Nat.reduceSub,ztK,ztL,ztM,ztN,ztO,ztP];gi_wp2_with (gi_at_call 105;refine stop ?_)
 ·have h:s.toList = []:=by assumption
  all_goals (first|go_returns|go_ret|go_end0)
  rw [Lib.toList_data]at h;exact⟨by rw [h];rfl,Below.refl _ _⟩
 ·have h:s.toList = [48]:=by assumption
  rw [Lib.toList_data]at h;have HC:Hid (zbj s.data.toList=s.data.toList.all za0):=zHi (by rw [h];rfl);clear h;refine(zhd w s hs).mono ?_;rintro e w2 ⟨t,rfl,ht,hB⟩;rw [←Lib.toList_data]at ht;have HT:=zHi ht;have HB:=zHi hB;clear ht hB;gi_wp2;all_goals (first|go_returns|go_ret|go_end0)
  refine⟨?_,HB.out⟩;rw [HC.out];show Ending.returned (Value.bool t.toList.isEmpty)=Ending.returned (Value.bool _)
  rw [zof HT.out]
 ·have h1:(s[0].toNat:Int)=48:=by assumption
  have h2:¬s.toList = [48]:=by assumption
  all_goals (first|go_returns|go_ret|go_end0)
  exact⟨by rw [znb s (by assumption) h1 h2];rfl,Below.refl _ _⟩
 ·have h1:¬(s[0].toNat:Int)=48:=by assumption
  have HC:Hid (zbj s.data.toList=s.data.toList.all za0):=zHi (zl1 s (by assumption) h1);clear h1;refine(zhd w s hs).mono ?_;rintro e w2 ⟨t,rfl,ht,hB⟩;rw [←Lib.toList_data]at ht;have HT:=zHi ht;have HB:=zHi hB;clear ht hB;have hne:¬s.toList = []:=by assumption
  have hne':s.toList.isEmpty=false:=by cases hc:s.toList with|nil=>exact absurd hc hne|cons _ _=>rfl
  gi_wp2;all_goals (first|go_returns|go_ret|go_end0)
  refine⟨?_,HB.out⟩;rw [HC.out];show Ending.returned (Value.bool ((s.toList == [48] || (s[0].toNat:Int) != 48) && t.toList.isEmpty))=Ending.returned (Value.bool _)
  have hx:((s[0].toNat:Int) != 48)=true:=by simpa using (by assumption:¬(s[0].toNat:Int)=48)
  rw [hx,Bool.or_true,Bool.true_and,zof HT.out]
 ·exfalso;have h1:¬s.toList = []:=by assumption
  have h2:¬0<s.size:=by assumption
  rw [Lib.toList_data]at h1;rw [Lib.size_eq]at h2;exact h1 (List.eq_nil_of_length_eq_zero (by omega))
theorem zln(w:World)(s:ByteArray)(l:List UInt8)(hl:s.data.toList=l)(hd:l.all za0=true)(hn:l ≠ [])(h9:l.length≤9) :
  CallsIn Fence.wide 0 Tryz.prog 106 #[.string s,.int .i64 10,.int .i64 64] w fun e w'=>e = .returned (.tuple #[.int .u64 (zaf l:Int),.nilIface])∧Below w.heap.size w w':=by
 subst hl;refine callsIn_wide.2 ((Tryz.strconv_ParseUint_10_at64_ok s (by rw [Lib.size_eq];omega) (zaf s.data.toList) (zmE hd hn h9) w).mono ?_);rintro e w' ⟨rfl,rfl|rfl⟩
 ·exact⟨rfl,Below.refl _ _⟩
 ·exact⟨rfl,zgT _ _⟩
theorem zku{t:ByteArray}{l:List UInt8}{m k:Nat}(h:t.data.toList=l.take m)(hk:k≤m):(t.extract 0 k).data.toList=l.take k:=by
 rw [Lib.extract_eq];show(List.take (k-0) (List.drop 0 t.data.toList))=_
 rw [h,List.drop_zero,Nat.sub_zero,List.take_take,Nat.min_eq_left hk]
theorem zod{t:ByteArray}{l:List UInt8}{m k:Nat}(h:t.data.toList=l.take m)(ht:t.size=m):(t.extract k m).data.toList=(l.take m).drop k:=by
 rw [Lib.extract_eq];show(List.take (m-k) (List.drop k t.data.toList))=_
 rw [List.take_of_length_le (by rw [List.length_drop,←Lib.size_eq];omega),h]
theorem zis{w w':World}{base:Nat}{e:TypeId}{size n:Nat}{v:Value}{xs:List Value}(h:w.ownsRow base e size v n xs)(hb:Below w.heap.size w w'):w'.ownsRow base e size v n xs:=by
 refine⟨h.1,?_⟩;rcases h.2 with h|⟨g,cap,cur,h1,h2,h3,h4⟩
 ·exact .inl h
 ·refine .inr ⟨g,cap,cur,h1,h2,?_,h4⟩;rw [hb.block g (Array.getElem?_eq_some_iff.1 h3).1];exact h3
def zr4:Value→Nat
 | .string s=>s.size
 | _=>0
theorem zcB(w:World)(s:ByteArray)(l:List UInt8)(hl:s.data.toList=l)(hd:l.all za0=true)(hn:l.length≤100000) :
  CallsIn Fence.wide 0 Tryz.prog 62 #[.string s] w fun e w'=>∃v',e = .returned v'∧zas w' v' (zaf l)∧Below w.heap.size w w':=by
 have hsz:s.size=l.length:=by rw [Lib.size_eq,hl]
 have HD:=zHi hd;have HL:Hid (s.data.toList=l.take l.length):=zHi (by rw [List.take_length];exact hl);clear hl hd;obtain⟨n,hnl⟩:∃n,l.length=n:=⟨_,rfl⟩;have HNL:=zHi hnl;rw [hnl]at hsz hn HL;clear hnl;refine callsIn_of_wp Tryz.func62 rfl trivial ?_ rfl;simp only [Tryz.ntmps62,ztH,ztI,ztJ,Nat.reduceAdd,Nat.reduceSub,ztK,ztL,ztM,ztN,ztO,ztP];gi_wp2;gi_loopw [0,3] (fun v0 v3 wr=>∃(i m:Nat) (t:ByteArray),v0 = .string t∧t.size=m∧m≤n∧Hid (t.data.toList=l.take m)∧Hid (m+9*i=n∨m=0∧n≤9*i)∧i≤n∧Hid (wr.ownsRow w.heap.size 111 1 v3 i (zbE (zaf l) i))∧Hid (Below w.heap.size w wr)) (fun v _ _=>zr4 v)
 case atStart=>exact⟨0,n,s,rfl,hsz,Nat.le_refl _,HL,zHi (.inl (by omega)),by omega,World.ownsRow_nil _ _ _ _,Below.refl _ w⟩
 case round=>
  obtain⟨i,m,t,rfl,ht,hm,HT,HI,hi,HO,HBr⟩:=hrel;by_cases h0:0<m
  ·have hMI:m+9*i=n:=by rcases HI.out with h|h <;> omega
   have HC:Hid (zaf ((l.take m).drop (m-9))=limb (zaf l) i):=zHi (zph HD.out (by rw [HNL.out];exact hMI));have hlen:(l.take m).length=m:=by rw [List.length_take,HNL.out];omega
   have HLen:=zHi hlen;have HMI:=zHi hMI;clear hlen hMI;obtain⟨k,hk⟩:∃k,m-9=k:=⟨_,rfl⟩;have hmx:max (0:Int) ((m:Int)-9)=(k:Int):=by omega
   rw [hk]at HC;gi_wp2_with (gi_at_call 106;refine stop ?_)
   unfold Stop;have hkm:k<m:=by omega
   refine(zln wr (t.extract k m) ((l.take m).drop k) (zod HT.out ht) (zkF (zkE HD.out m) k) ?_ ?_).mono ?_
   ·intro e;have:=congrArg List.length e;rw [List.length_drop,HLen.out]at this;simp at this;omega
   ·rw [List.length_drop,HLen.out];omega
   rintro e w2 ⟨rfl,hB⟩;rw [HC.out];have HO2:=zHi (zis HO.out hB);have HB2:=zBt HBr hB;clear hB;gi_wp2_with (gi_at_builtin;refine stop ?_)
   unfold Stop;refine zbv w w2 rfl _ _ rfl u3 i (zaf l) rfl HO2 _ _ rfl rfl (by omega) HB2 ?_;intro v2 w3 HO3 HB3;gi_wp2;have hx:=zku HT.out (Nat.le_of_lt hkm);have hxs:(t.extract 0 k).size=k:=by rw [Lib.size_eq,hx,List.length_take,HNL.out];omega
   refine⟨⟨i+1,k,_,rfl,hxs,by omega,hx,?_,by have:=HMI.out;omega,HO3,HB3⟩,by simp only [zr4];omega⟩;have:=HMI.out;refine zHi ?_;omega
  ·have hm0:m=0:=by omega
   subst hm0;have HLT:Hid (zaf l<B^i):=zHi (zfK HD.out (by have:=HI.out;rw [HNL.out];omega));have HRow:Hid (zbw wr u3 (zaf l) i):=zHi (zeD HO.out (by omega));gi_wp2_with (gi_at_call 107;refine stop ?_)
   refine(zbT wr u3 (zaf l) i HRow.out HLT.out).mono ?_;rintro e w2 ⟨v',rfl,⟨hM,_⟩,hB⟩;have HM:=zHi hM;have HB:=zBt HBr hB;clear hM hB;gi_wp2;all_goals (first|go_returns|go_ret|go_end0)
   exact⟨_,rfl,HM.out,HB.out⟩
def zeY(n:Nat):Bool:=decide (Lib.nDigits n≤20000)
theorem zc5(w:World)(v:Value)(n:Nat)(h:zas w v n)(hn:n<B^100000)(htab:zaY w) :
  CallsIn Fence.wide 0 Tryz.prog 110 #[v] w fun e w'=>e = .returned (.bool (zeY n))∧Below w.heap.size w w':=by
 have HM:=zHi h;have HN:=zHi hn;have HTab:=zHi htab;obtain⟨k,hk,hl⟩:=h;obtain⟨o,c,rfl,_⟩:=hl.form;have HK:=zHi hk;clear hk hl hn htab;refine callsIn_of_wp Tryz.func110 rfl trivial ?_ rfl;simp only [Tryz.ntmps110,ztH,ztI,ztJ,Nat.reduceAdd,Nat.reduceSub,ztK,ztL,ztM,ztN,ztO,ztP];by_cases hk2:k≤2222
 ·have hkd:decide ((k:Int)≤2222)=true:=decide_eq_true (by omega);have HS:Hid (zeY n=true):=zHi (decide_eq_true (by
   rcases Nat.eq_zero_or_pos k with h0|h0
   ·subst h0;rw [HK.out.zero,Lib.nDigits_small (by decide)];decide
   ·have h1:=zd9 h0 HK.out.1;omega))
  gi_wp2;all_goals (first|go_returns|go_ret|go_end0)
  exact⟨by rw [HS.out];rfl,Below.refl _ _⟩
 ·have hkd:decide ((k:Int)≤2222)=false:=decide_eq_false (by omega);gi_wp2_with (gi_at_call 71;refine stop ?_)
  refine(zbV w _ n HM.out HN.out HTab.out).mono ?_;rintro e w2 ⟨rfl,hB⟩;obtain⟨S,hS⟩:∃S:ByteArray,(⟨(Lib.decDigits n).toArray⟩:ByteArray)=S:=⟨_,rfl⟩;have hsz:S.size=Lib.nDigits n:=by rw [←hS,zcG,Lib.decDigits_length]
  rw [hS];obtain⟨d,hd⟩:∃d,Lib.nDigits n=d:=⟨_,rfl⟩;have HS:Hid (zeY n=decide (d≤20000)):=zHi (by unfold zeY;rw [hd]);rw [hd]at hsz;clear hS hd;gi_wp2;all_goals (first|go_returns|go_ret|go_end0)
  refine⟨?_,hB⟩;rw [HS.out];show Ending.returned (Value.bool (decide ((d:Int)≤20000)))=Ending.returned (Value.bool (decide (d≤20000)))
  rw [show decide ((d:Int)≤20000)=decide (d≤20000)from decide_eq_decide.2 (by omega)]
def zb5(q:Rat):Bool:=zeY q.num.natAbs && zeY (if q.den=1 then 0 else q.den)
theorem zgw(w:World)(v:Value)(q:Rat)(h:zau w v q)(hq:zan q 100000)(hs:zb5 q=true)(htab:zaY w) :
  CallsIn Fence.wide 0 Tryz.prog 67 #[v] w fun e w'=>∃v',e = .returned v'∧zau w' v' q∧Below w.heap.size w w':=by
 have HR:=zHi h;obtain⟨vn,vd,rfl,hn,hd⟩:=h;have HN:=zHi hn;have HD:=zHi hd;obtain⟨sg,hsg⟩:∃sg,decide (q.num<0)=sg:=⟨_,rfl⟩;obtain⟨o1,k1,c1,rfl,_,_⟩:=zaI hn;obtain⟨o2,k2,c2,rfl,_,_⟩:=zaI hd;rw [hsg]at HR;rw [hsg];have hs1:zeY q.num.natAbs=true:=by unfold zb5 at hs;rw [Bool.and_eq_true]at hs;exact hs.1
 have hs2:zeY (if q.den=1 then 0 else q.den)=true:=by unfold zb5 at hs;rw [Bool.and_eq_true]at hs;exact hs.2
 have HS1:=zHi hs1;have HS2:=zHi hs2;obtain⟨W0,hW0⟩:∃W,W=w.alloc (.cells #[.bool sg,.slice o1 k1 c1,.slice o2 k2 c2] 25):=⟨_,rfl⟩;have h0s:W0.heap.size=w.heap.size+1:=by rw [hW0];simp
 obtain⟨W1,hW1⟩:∃W,W=W0.alloc (.cells #[.bool false,.slice none 0 0,.slice none 0 0] 25):=⟨_,rfl⟩;have HX:Hid (Box3 W1 w.heap.size (.bool sg) (.slice o1 k1 c1) (.slice o2 k2 c2)):=zHi (by rw [hW1];exact Box3.below (by rw [hW0];exact zbu _ _ _ _ _) (zaa _ _));have HK:Hid (Own3 W0 W1):=by rw [hW1];exact ze2 _ _ _ _ _
 have HE:Hid (Elem W1 W0.heap.size 25):=zHi (by rw [hW1];exact zaB _ _ _);have HB0:Hid (Below w.heap.size w W0):=zHi (by rw [hW0];exact zaa _ _);have HBW:Hid (Below w.heap.size w W1):=zHi (HB0.out.trans (HK.out.2.2.mono HB0.out.size));have HP:=zHi hq;have HTab:=zHi htab;have y0:=HX.out.c0;have y1:=HX.out.c1;have y2:=HX.out.c2;clear hn hd hsg hq htab hs hs1 hs2;refine callsIn_of_wp Tryz.func67 rfl trivial ?_ rfl;simp only [Tryz.ntmps67,ztH,ztI,ztJ,Nat.reduceAdd,Nat.reduceSub,ztK,ztL,ztM,ztN,ztO,ztP];gi_wp2_with (gi_at_call 110;refine stop ?_)
 unfold Stop;rw [←hW0,←hW1];obtain⟨g,hg⟩:∃g,w.heap.size=g:=⟨_,rfl⟩;rw [hg]at HX h0s y0 y1 y2;rw [hg];obtain⟨g2,hg2⟩:∃g2,W0.heap.size=g2:=⟨_,rfl⟩;have hg2':g+1=g2:=by omega
 have HE2:Hid (Elem W1 g2 25):=by rw [←hg2];exact HE
 have HA2:Hid (∃f,zaj W1 g2 3 f):=by rw [←hg2];exact HK.out.1
 have hl2:g2<W1.heap.size:=by rw [←hg2];exact HK.out.2.1
 have hgw:w.heap.size≤g2:=by omega
 rw [hg2'];clear hW0 hW1 HE HK HB0 h0s hg2 hg;refine(zc5 W1 _ _ (HN.out.below HBW.out) HP.out.1 (HTab.out.below HBW.out)).mono ?_;rintro e w2 ⟨rfl,hB⟩;replace HX:=zHi (HX.out.below hB);replace HBW:=zBt HBW hB;replace HE2:=zHi (HE2.out.below hB hl2);replace HA2:Hid (∃f,zaj w2 g2 3 f):=zHi (HA2.out.elim fun f hf=>⟨f,hf.below hl2 hB⟩);replace hl2:=Nat.lt_of_lt_of_le hl2 hB.size;rw [HS1.out];replace y0:=HX.out.c0;replace y1:=HX.out.c1;replace y2:=HX.out.c2;clear hB;gi_wp2_with (gi_at_call 110;refine stop ?_)
 refine(zc5 w2 _ _ (HD.out.below HBW.out) (by split;exact zar 100000;exact HP.out.2) (HTab.out.below HBW.out)).mono ?_;rintro e w3 ⟨rfl,hB⟩;replace HX:=zHi (HX.out.below hB);replace HBW:=zBt HBW hB;replace HE2:=zHi (HE2.out.below hB hl2);replace HA2:Hid (∃f,zaj w3 g2 3 f):=zHi (HA2.out.elim fun f hf=>⟨f,hf.below hl2 hB⟩);rw [HS2.out];replace y0:=HX.out.c0;replace y1:=HX.out.c1;replace y2:=HX.out.c2;replace HR:=zHi (HR.out.below HBW.out);obtain⟨f,hf⟩:=HA2.out;have z0:=(hf 0 (by omega)).1;have z1:=(hf 1 (by omega)).1;have z2:=(hf 2 (by omega)).1;have f0:=(hf 0 (by omega)).2;have f1:=(hf 1 (by omega)).2;have f2:=(hf 2 (by omega)).2;clear hB HA2;gi_wp2;refine zbk rfl rfl g2 rfl z0 z1 z2 ?_;refine⟨_,rfl,?_,((HBW.out.setCell hgw _).setCell hgw _).setCell hgw _⟩;exact((HR.out.setElem HE2.out (by decide)).setElem (HE2.out.setCell _ _) (by decide)).setElem ((HE2.out.setCell _ _).setCell _ _) (by decide)
end Go.Num
namespace Go.Num
open Go.Eng Go.Shelf Go.RowKit Go.Proofs Go.Proofs.YtoamcgjbelhnkaaGreatDoor
theorem l26:zcc Tryz.prog 26:=zbm (by kernel_rfl)
theorem zkB(w:World)(v:Value)(q:Rat)(h:zau w v q)(hq:zan q 100000)(hs:zb5 q=true)(htab:zaY w) :
  CallsIn Fence.wide 0 Tryz.prog 66 #[.func (.func 67) #[v] #[]] w fun e w'=>∃v',e = .returned (.tuple #[v',.int .i64 0])∧zau w' v' q∧Below w.heap.size w w':=by
 have hmf:∀(fn:Fn) (first cap:Array Value) (w:World),(Instr.makeFunc fn first cap).run Tryz.prog w = .ok (.func fn first cap) w:=fun _ _ _ _=>rfl
 have HR:=zHi h;have HP:=zHi hq;have HS:=zHi hs;have HTab:=zHi htab;obtain⟨o,k,c,o2,k2,c2,rfl⟩:=h.form;clear h hq hs htab;gi_enter_defers Tryz.func66,Tryz.ntmps66
 gi_wp2_with (gi_at_call 67;refine stop ?_)
 unfold Stop;obtain⟨W0,hW0⟩:∃W,W=w.alloc (.cells #[.bool false,.slice none 0 0,.slice none 0 0] 25):=⟨_,rfl⟩;have h0s:W0.heap.size=w.heap.size+1:=by rw [hW0];simp
 obtain⟨W1,hW1⟩:∃W,W=W0.alloc (.cells #[.int .i64 0] 26):=⟨_,rfl⟩;rw [←hW0,←hW1];have HA:Hid (∃f,zaj W1 w.heap.size 3 f):=zHi ⟨fun i => [.bool false,.slice none 0 0,.slice none 0 0].getD i (.bool false),by
  rw [hW1];refine zaj.alloc ?_ (by omega) _;rw [hW0];exact zaj.new _ _ _ fun i hi=>by
   have:i=0∨i=1∨i=2:=by omega
   rcases this with rfl|rfl|rfl <;> rfl⟩
 have HA2:Hid (∃f,zaj W1 (w.heap.size+1) 1 f):=zHi ⟨fun i => .int .i64 0,by
  rw [hW1,←h0s];exact zaj.new _ _ _ fun i hi=>by
   have:i=0:=by omega
   rw [this];rfl⟩
 have HE:Hid (Elem W1 w.heap.size 25):=zHi ((by rw [hW0];exact zaB _ _ _:Elem W0 w.heap.size 25).below (by rw [hW1];exact zaa _ _) (by omega));have HE2:Hid (Elem W1 (w.heap.size+1) 26):=zHi (by rw [hW1,←h0s];exact zaB _ _ _);have HBW:Hid (Below w.heap.size w W1):=zHi (by rw [hW1,hW0];exact(zaa _ _).alloc (by simp) _);have hl:w.heap.size+1<W1.heap.size:=by rw [hW1];simp;omega
 obtain⟨g,hg⟩:∃g,w.heap.size=g:=⟨_,rfl⟩;rw [hg]at HA HA2 HE HE2 hl;rw [hg];have hgw:w.heap.size≤g:=by omega
 clear hW0 hW1 h0s hg;refine(zgw W1 _ q (HR.out.below HBW.out) HP.out HS.out (HTab.out.below HBW.out)).mono ?_;rintro e w2 ⟨v2,rfl,hr2,hB⟩;obtain⟨p,l,d,p2,l2,d2,rfl⟩:=hr2.form;have HR2:=zHi hr2;replace HBW:=zBt HBW hB;replace HE:=zHi (HE.out.below hB (by omega));replace HE2:=zHi (HE2.out.below hB (by omega));obtain⟨f,hf⟩:=HA.out;obtain⟨f2,hf2⟩:=HA2.out;have ha:=hf.below (by omega) hB;have ha2:=hf2.below (by omega) hB;have z0:=(ha 0 (by omega)).1;have z1:=(ha 1 (by omega)).1;have z2:=(ha 2 (by omega)).1;have y0:=(ha 0 (by omega)).2;have y1:=(ha 1 (by omega)).2;have y2:=(ha 2 (by omega)).2;have x0:=(ha2 0 (by omega)).1;have x1:=(ha2 0 (by omega)).2;have HA9:=zHi ha;have HA8:=zHi ha2;clear hr2 hB ha ha2 hf hf2 HA HA2;obtain⟨sg,hsg⟩:∃sg,decide (q.num<0)=sg:=⟨_,rfl⟩;rw [hsg]at HR2;rw [hsg];gi_wp2;have hB3:Below w.heap.size w ((((w2.setCell ⟨g,0,none⟩ (.bool sg)).setCell ⟨g,1,none⟩ (.slice p l d)).setCell ⟨g,2,none⟩ (.slice p2 l2 d2)).setCell ⟨g+1,0,none⟩ (.int .i64 0)):=
  (((HBW.out.setCell hgw _).setCell hgw _).setCell hgw _).setCell (by show w.heap.size≤g+1;omega) _
 refine leavesIn_cons (f:=109) (args:=#[.pointer (some ⟨g,0,none⟩),.pointer (some ⟨g+1,0,none⟩)]) (by simp) (by simp) (by simp [go_sem]) (by simp [Target.leads]) ?_;refine(zhi.2 _ _).mono ?_;rintro e u' w'' ⟨⟨v3,rfl⟩,rfl,hh,hb⟩;refine⟨.tuple #[.agg #[.bool sg,.slice p l d,.slice p2 l2 d2],.int .i64 0],?_,_,rfl,?_,?_⟩
 ·have h3:=((HA9.out.set (i:=0) (by omega) (.bool sg)).set (i:=1) (by omega) (.slice p l d)).set (i:=2) (by omega) (.slice p2 l2 d2);have n3:∀j:Nat,(⟨g,j,none⟩:Addr)≠⟨g+1,0,none⟩:=fun j e=>by injection e with e _ _;omega
  have n4:∀j:Nat,(⟨g+1,0,none⟩:Addr)≠⟨g,j,none⟩:=fun j e=>by injection e with e _ _;omega
  have b3:Box3 ((((w2.setCell ⟨g,0,none⟩ (.bool sg)).setCell ⟨g,1,none⟩ (.slice p l d)).setCell ⟨g,2,none⟩ (.slice p2 l2 d2)).setCell ⟨g+1,0,none⟩ (.int .i64 0)) g (.bool sg) (.slice p l d) (.slice p2 l2 d2):=fun j v hj=>by
   rw [World.cell?_setCell_other _ _ _ _ (n4 j)];match j,hj with
   | 0,hj=>rw [←hj];exact(h3 0 (by omega)).1
   | 1,hj=>rw [←hj];exact(h3 1 (by omega)).1
   | 2,hj=>rw [←hj];exact(h3 2 (by omega)).1
   | n+3,hj=>simp at hj
  have c3:((((w2.setCell ⟨g,0,none⟩ (.bool sg)).setCell ⟨g,1,none⟩ (.slice p l d)).setCell ⟨g,2,none⟩ (.slice p2 l2 d2)).setCell ⟨g+1,0,none⟩ (.int .i64 0)).cell? ⟨g+1,0,none⟩=some (.int .i64 0):=
   World.cell?_setCell_same _ _ _ (by rw [World.cell?_setCell_other _ _ _ _ (n3 2),World.cell?_setCell_other _ _ _ _ (n3 1),World.cell?_setCell_other _ _ _ _ (n3 0)];exact x0)
  have e1:=l25 g [.bool sg,.slice p l d,.slice p2 l2 d2] w'' rfl (b3.below hb);have e2:=l26 ⟨g+1,0,none⟩ _ w'' ((hb.cell (World.block_lt_of_cell? _ _ c3)).trans c3);simp only [Instr.loadAt,Instr.sureAddr,Sem.run_bind,Sem.run_pure,Result.andThen_ok]at e1 e2;simp [results,asAddr,e1,e2]
 ·have h4:=(((HR2.out.setElem (i:=0) (u:=.bool sg) HE.out (by decide)).setElem (i:=1) (u:=.slice p l d) (HE.out.setCell _ _) (by decide)).setElem (i:=2) (u:=.slice p2 l2 d2) ((HE.out.setCell _ _).setCell _ _) (by decide)).setElem (i:=0) (u:=.int .i64 0) (((HE2.out.setCell _ _).setCell _ _).setCell _ _) (by decide);exact h4.below hb
 ·exact hB3.trans (hb.mono hB3.size)
def tooL:List PanicEntry:=[{v:=.iface 152 (.agg #[]),recovered:=false}]
theorem zmO(w:World)(v:Value)(q:Rat)(h:zau w v q)(hq:zan q 100000)(hs:zb5 q=false)(htab:zaY w) :
  CallsIn Fence.wide 0 Tryz.prog 67 #[v] w fun e w'=>e = .panicked tooL∧Below w.heap.size w w':=by
 obtain⟨vn,vd,rfl,hn,hd⟩:=h;have HN:=zHi hn;have HD:=zHi hd;obtain⟨sg,hsg⟩:∃sg,decide (q.num<0)=sg:=⟨_,rfl⟩;obtain⟨o1,k1,c1,rfl,_,_⟩:=zaI hn;obtain⟨o2,k2,c2,rfl,_,_⟩:=zaI hd;rw [hsg];obtain⟨W0,hW0⟩:∃W,W=w.alloc (.cells #[.bool sg,.slice o1 k1 c1,.slice o2 k2 c2] 25):=⟨_,rfl⟩;have h0s:W0.heap.size=w.heap.size+1:=by rw [hW0];simp
 obtain⟨W1,hW1⟩:∃W,W=W0.alloc (.cells #[.bool false,.slice none 0 0,.slice none 0 0] 25):=⟨_,rfl⟩;have HX:Hid (Box3 W1 w.heap.size (.bool sg) (.slice o1 k1 c1) (.slice o2 k2 c2)):=zHi (by rw [hW1];exact Box3.below (by rw [hW0];exact zbu _ _ _ _ _) (zaa _ _));have HB0:Hid (Below w.heap.size w W0):=zHi (by rw [hW0];exact zaa _ _);have HBW:Hid (Below w.heap.size w W1):=zHi (HB0.out.trans ((by rw [hW1];exact zaa _ _:Below W0.heap.size W0 W1).mono HB0.out.size));have HP:=zHi hq;have HTab:=zHi htab;have HS:=zHi hs;have y0:=HX.out.c0;have y1:=HX.out.c1;have y2:=HX.out.c2;clear hn hd hsg hq htab hs;refine callsIn_of_wp Tryz.func67 rfl trivial ?_ rfl;simp only [Tryz.ntmps67,ztH,ztI,ztJ,Nat.reduceAdd,Nat.reduceSub,ztK,ztL,ztM,ztN,ztO,ztP];gi_wp2_with (gi_at_call 110;refine stop ?_)
 unfold Stop;rw [←hW0,←hW1];obtain⟨g,hg⟩:∃g,w.heap.size=g:=⟨_,rfl⟩;rw [hg]at HX h0s y0 y1 y2;rw [hg];clear hW0 hW1 HB0 h0s hg;refine(zc5 W1 _ _ (HN.out.below HBW.out) HP.out.1 (HTab.out.below HBW.out)).mono ?_;rintro e w2 ⟨rfl,hB⟩;replace HX:=zHi (HX.out.below hB);replace HBW:=zBt HBW hB;replace y0:=HX.out.c0;replace y1:=HX.out.c1;replace y2:=HX.out.c2;clear hB
 cases hs1:zeY q.num.natAbs with
 | false=>
  clear hs1;gi_wp2;exact⟨rfl,rfl,HBW.out⟩
 | true=>
  have HS2:Hid (zeY (if q.den=1 then 0 else q.den)=false):=zHi (by have:=HS.out;unfold zb5 at this;rw [hs1,Bool.true_and]at this;exact this);clear hs1;gi_wp2_with (gi_at_call 110;refine stop ?_)
  refine(zc5 w2 _ _ (HD.out.below HBW.out) (by split;exact zar 100000;exact HP.out.2) (HTab.out.below HBW.out)).mono ?_;rintro e w3 ⟨rfl,hB⟩;replace HBW:=zBt HBW hB;rw [HS2.out];replace HX:=zHi (HX.out.below hB);replace y0:=HX.out.c0;replace y1:=HX.out.c1;replace y2:=HX.out.c2;clear hB;gi_wp2;exact⟨rfl,rfl,HBW.out⟩
def zgc(w:World)(g:Nat):World:=
 (((((w.alloc (.cells #[] 152)).alloc (.cells #[.bool false,.slice none 0 0,.slice none 0 0] 25)).setCell ⟨g,0,none⟩ (.bool false)).setCell ⟨g,1,none⟩ (.slice none 0 0)).setCell ⟨g,2,none⟩ (.slice none 0 0)).setCell ⟨g+1,0,none⟩ (.int .i64 11)
theorem zqZ(g:Nat)(w:World)(f f2:Nat→Value)(hg:g+1<w.heap.size)(hA:zaj w g 3 f)(hA2:zaj w (g+1) 1 f2) :
  CallsDIn Fence.wide 0 Tryz.prog 109 #[.pointer (some ⟨g,0,none⟩),.pointer (some ⟨g+1,0,none⟩)] (.panicking tooL) w fun e u' w'=>
   e = .returned (.tuple #[])∧u' = .panicking [{v:=.iface 152 (.agg #[]),recovered:=true}]∧w'=zgc w g:=by
 have hB:=(hA.alloc (by omega) (Obj.cells #[] 152)).alloc (by simp;omega) (Obj.cells #[.bool false,.slice none 0 0,.slice none 0 0] 25);have hB2:=(hA2.alloc (by omega) (Obj.cells #[] 152)).alloc (by simp;omega) (Obj.cells #[.bool false,.slice none 0 0,.slice none 0 0] 25);have z0:=(hB 0 (by omega)).1;have z1:=(hB 1 (by omega)).1;have z2:=(hB 2 (by omega)).1;have y0:=(hB 0 (by omega)).2;have y1:=(hB 1 (by omega)).2;have y2:=(hB 2 (by omega)).2;have x0:=(hB2 0 (by omega)).1;have x1:=(hB2 0 (by omega)).2;clear hB hB2;refine callsDIn_of_wpSIn Tryz.func109 rfl trivial fun c₀ cs hu => ?_
 simp only [show Tryz.f109.ntmps=18 from rfl,ztH,ztI,ztJ,Nat.reduceAdd,Nat.reduceSub,ztK,ztL,ztM,ztN,ztO,ztP];unfold tooL at hu;apply wpSIn_seq
 apply wpSIn_region
 simp [wpOpsSIn,go_sem,recoverD,hu,Exit.thenS]
 apply wpSIn_seq
 apply wpSIn_region
 simp [wpOpsSIn,go_sem,Exit.thenS]
 refine wpSIn_cond (t:=true) (by simp [Act.eval]) ?_;simp only [if_true];refine wpSIn_of_wpIn rfl ?_;clear hA hA2;have hta:∀w:World,(Instr.typeAssert (.iface 152 (.agg #[])) 20 152 true).run Tryz.prog w = .ok (.tuple #[.agg #[],.bool true]) w:=fun w=>by kernel_rfl
 gi_wp2;exact⟨rfl,_,rfl,.tuple #[],by simp [results],rfl,rfl,rfl⟩
theorem ziG(w:World)(v:Value)(q:Rat)(h:zau w v q)(hq:zan q 100000)(hs:zb5 q=false)(htab:zaY w) :
  CallsIn Fence.wide 0 Tryz.prog 66 #[.func (.func 67) #[v] #[]] w fun e w'=>∃v',e = .returned (.tuple #[v',.int .i64 11])∧zau w' v' 0∧Below w.heap.size w w':=by
 have hmf:∀(fn:Fn) (first cap:Array Value) (w:World),(Instr.makeFunc fn first cap).run Tryz.prog w = .ok (.func fn first cap) w:=fun _ _ _ _=>rfl
 have HR:=zHi h;have HP:=zHi hq;have HS:=zHi hs;have HTab:=zHi htab;obtain⟨o,k,c,o2,k2,c2,rfl⟩:=h.form;clear h hq hs htab;gi_enter_defers Tryz.func66,Tryz.ntmps66
 gi_wp2_with (gi_at_call 67;refine stop ?_)
 unfold Stop;obtain⟨W0,hW0⟩:∃W,W=w.alloc (.cells #[.bool false,.slice none 0 0,.slice none 0 0] 25):=⟨_,rfl⟩;have h0s:W0.heap.size=w.heap.size+1:=by rw [hW0];simp
 obtain⟨W1,hW1⟩:∃W,W=W0.alloc (.cells #[.int .i64 0] 26):=⟨_,rfl⟩;rw [←hW0,←hW1];have HA:Hid (∃f,zaj W1 w.heap.size 3 f):=zHi ⟨fun i => [.bool false,.slice none 0 0,.slice none 0 0].getD i (.bool false),by
  rw [hW1];refine zaj.alloc ?_ (by omega) _;rw [hW0];exact zaj.new _ _ _ fun i hi=>by
   have:i=0∨i=1∨i=2:=by omega
   rcases this with rfl|rfl|rfl <;> rfl⟩
 have HA2:Hid (∃f,zaj W1 (w.heap.size+1) 1 f):=zHi ⟨fun i => .int .i64 0,by
  rw [hW1,←h0s];exact zaj.new _ _ _ fun i hi=>by
   have:i=0:=by omega
   rw [this];rfl⟩
 have HBW:Hid (Below w.heap.size w W1):=zHi (by rw [hW1,hW0];exact(zaa _ _).alloc (by simp) _);have hl:w.heap.size+1<W1.heap.size:=by rw [hW1];simp;omega
 obtain⟨g,hg⟩:∃g,w.heap.size=g:=⟨_,rfl⟩;rw [hg]at HA HA2 hl;rw [hg];have hgw:w.heap.size≤g:=by omega
 clear hW0 hW1 h0s hg;refine(zmO W1 _ q (HR.out.below HBW.out) HP.out HS.out (HTab.out.below HBW.out)).mono ?_;rintro e w2 ⟨rfl,hB⟩;replace HBW:=zBt HBW hB;obtain⟨f,hf⟩:=HA.out;obtain⟨f2,hf2⟩:=HA2.out;have ha:=hf.below (by omega) hB;have ha2:=hf2.below (by omega) hB;have hl2:g+1<w2.heap.size:=Nat.lt_of_lt_of_le hl hB.size;clear HA HA2 hf hf2 hB;gi_wp2;refine leavesIn_cons (f:=109) (args:=#[.pointer (some ⟨g,0,none⟩),.pointer (some ⟨g+1,0,none⟩)]) (by simp) (by simp) (by simp [go_sem]) (by simp [Target.leads]) ?_;refine(zqZ g w2 f f2 hl2 ha ha2).mono ?_;rintro e u' w'' ⟨rfl,rfl,rfl⟩;show LeavesIn _ _ _ _ _ _ _ FrameMode.returning (zgc w2 g)
 have n3:∀j:Nat,(⟨g,j,none⟩:Addr)≠⟨g+1,0,none⟩:=fun j e=>by injection e with e _ _;omega
 have n4:∀j:Nat,(⟨g+1,0,none⟩:Addr)≠⟨g,j,none⟩:=fun j e=>by injection e with e _ _;omega
 have hW:=(ha.alloc (by omega) (Obj.cells #[] 152)).alloc (by simp;omega) (Obj.cells #[.bool false,.slice none 0 0,.slice none 0 0] 25);have hW2:=(ha2.alloc (by omega) (Obj.cells #[] 152)).alloc (by simp;omega) (Obj.cells #[.bool false,.slice none 0 0,.slice none 0 0] 25);have h3:=((hW.set (i:=0) (by omega) (.bool false)).set (i:=1) (by omega) (.slice none 0 0)).set (i:=2) (by omega) (.slice none 0 0);have hsz:=HBW.out.size;have hB3:Below w.heap.size w (zgc w2 g):=by
  unfold zgc;exact(((((HBW.out.alloc hsz _).alloc (by simp;omega) _).setCell hgw _).setCell hgw _).setCell hgw _).setCell (by show w.heap.size≤g+1;omega) _
 have b3:Box3 (zgc w2 g) g (.bool false) (.slice none 0 0) (.slice none 0 0):=fun j v hj=>by
  unfold zgc;rw [World.cell?_setCell_other _ _ _ _ (n4 j)];match j,hj with
  | 0,hj=>rw [←hj];exact(h3 0 (by omega)).1
  | 1,hj=>rw [←hj];exact(h3 1 (by omega)).1
  | 2,hj=>rw [←hj];exact(h3 2 (by omega)).1
  | n+3,hj=>simp at hj
 have c3:(zgc w2 g).cell? ⟨g+1,0,none⟩=some (.int .i64 11):=by
  unfold zgc;exact World.cell?_setCell_same _ _ _ (by rw [World.cell?_setCell_other _ _ _ _ (n3 2),World.cell?_setCell_other _ _ _ _ (n3 1),World.cell?_setCell_other _ _ _ _ (n3 0)];exact(hW2 0 (by omega)).1)
 obtain⟨W,hWW⟩:∃W,zgc w2 g=W:=⟨_,rfl⟩;rw [hWW]at b3 c3 hB3 ⊢;refine⟨.tuple #[.agg #[.bool false,.slice none 0 0,.slice none 0 0],.int .i64 11],?_,_,rfl,zaS _,hB3⟩;have e1:=l25 g [.bool false,.slice none 0 0,.slice none 0 0] W rfl b3;have e2:=l26 ⟨g+1,0,none⟩ _ W c3;simp only [Instr.loadAt,Instr.sureAddr,Sem.run_bind,Sem.run_pure,Result.andThen_ok]at e1 e2;simp [results,asAddr,e1,e2]
end Go.Num
namespace Go.Eng
open Go.RowKit
def AT.beq:AT→AT→Bool
 | .tag a,.tag b=>a.beq b
 | .val a,.val b=>a.beq b
 | .agg a,.agg b=>a.beq b
 | .fn f a b,.fn g c d=>Nat.beq f g && a.beq c && b.beq d
 | .nil,.nil=>true
 | .cons a b,.cons c d=>a.beq c && b.beq d
 | _,_=>false
theorem AT.eq_of_beq{a:AT}:∀{b:AT},a.beq b=true→a=b:=by
 induction a with
 | tag t=>intro b h;cases b <;> simp only [AT.beq,Bool.false_eq_true]at h;rw [Tg.eq_of_beq h]
 | val v=>intro b h;cases b <;> simp only [AT.beq,Bool.false_eq_true]at h;rw [AV.beq_eq h]
 | agg a ih=>intro b h;cases b <;> simp only [AT.beq,Bool.false_eq_true]at h;rw [ih h]
 | fn f a c ih1 ih2=>
  intro b h;cases b <;> simp only [AT.beq,Bool.and_eq_true,Bool.false_eq_true]at h;rw [Nat.eq_of_beq_eq_true h.1.1,ih1 h.1.2,ih2 h.2]
 | nil=>intro b h;cases b <;> simp only [AT.beq,Bool.false_eq_true]at h;rfl
 | cons a c ih1 ih2=>
  intro b h;cases b <;> simp only [AT.beq,Bool.and_eq_true,Bool.false_eq_true]at h;rw [ih1 h.1,ih2 h.2]
structure Leaf(res:List TypeId) where
 sh:Sh
 I:Value→World→Prop
 stable:∀v w w',Go.Eng.Kept res w w'→I v w→I v w'
 ok:∀v w,I v w→ShOK sh v
 det:sh = .str→∀v v' w,I v w→I v' w→v=v'
def clsL(S:List Sh):Tg→Sh
 | .leaf k=>S.getD k .one
 | _ => .one
def Leaf.at{res:List TypeId}(env:List (Leaf res))(t:Tg)(v:Value)(w:World):Prop:=
 match t with
 | .leaf k=>match env[k]? with
  | some p=>p.I v w
  | none=>False
 | _=>False
def Gs{res:List TypeId}(env:List (Leaf res)):Sett where
 ids:=[]
 res:=res
 I:=Leaf.at env
 stable:=by
  intro t v w w' hk h;unfold Leaf.at at h ⊢;split at h
  ·split at h
   ·rename_i p hp;exact p.stable v w w' hk h
   ·exact h.elim
  ·exact h.elim
theorem zss{res:List TypeId}{env:List (Leaf res)}{S:List Sh}(hS:env.map (·.sh)=S):zgf (Gs env) (clsL S) where
 ok:=by
  intro t v w h;replace h:Leaf.at env t v w:=h;unfold Leaf.at at h;split at h
  ·rename_i k;split at h
   ·rename_i p hp;have e:clsL S (.leaf k)=p.sh:=by
     show S.getD k .one=_
     rw [←hS,List.getD_eq_getElem?_getD,List.getElem?_map,hp];rfl
    rw [e];exact p.ok v w h
   ·exact h.elim
  ·exact h.elim
 det:=by
  intro t ht v v' w h h';replace h:Leaf.at env t v w:=h;replace h':Leaf.at env t v' w:=h';unfold Leaf.at at h h';split at h
  ·rename_i k;split at h
   ·rename_i p hp;have e:clsL S (.leaf k)=p.sh:=by
     show S.getD k .one=_
     rw [←hS,List.getD_eq_getElem?_getD,List.getElem?_map,hp];rfl
    rw [e]at ht;simp only [hp]at h';exact p.det ht v v' w h h'
   ·exact h.elim
  ·exact h.elim
abbrev znl:=FuncId × AT × AT
def ziw:List znl→TTab
 | [],_,_=>none
 | (g,ts,rs) :: r,f,us=>bif Nat.beq f g && ts.beq us then some rs else ziw r f us
section
variable {P:Program} {B:Nat} {w0:World} {G:Sett}
theorem znp:zfe P B w0 G (ziw []):=fun _ _ _ q=>by cases q
theorem zpq{g:FuncId}{ts rs:AT}{r:List znl}(hb:zkH P g)
  (h:∀w (xs:Array Value),Below B w0 w→zb8 G ts xs.toList w→Calls P g xs w fun e w'=>∃x,e = .returned x∧zdq G rs x w'∧Below w.heap.size w w')
  (k:zfe P B w0 G (ziw r)):zfe P B w0 G (ziw ((g,ts,rs) :: r)):=by
 intro f us rs' q;unfold ziw at q
 cases hc:Nat.beq f g && ts.beq us with
 | true=>
  rw [hc]at q;simp only [cond_true,Option.some.injEq]at q;simp only [Bool.and_eq_true]at hc;have e1:=Nat.eq_of_beq_eq_true hc.1;have e2:=AT.eq_of_beq hc.2;subst e1;subst e2;subst q;exact⟨hb,h⟩
 | false=>
  rw [hc]at q;exact k f us rs' q
theorem zjK{g:FuncId}{a rs:AT}{r:List znl}(hb:zkH P g)
  (h:∀w v,Below B w0 w→za9 G a v w→CallsIn Fence.wide 0 P g #[v] w fun e w'=>∃x,e = .returned x∧zdq G rs x w'∧Below w.heap.size w w')
  (k:zfe P B w0 G (ziw r)):zfe P B w0 G (ziw ((g,.cons a .nil,rs) :: r)):=by
 refine zpq hb (fun w xs hw hx => ?_) k;obtain⟨v,r,e,h1,h2⟩:=hx;have h2:r = []:=h2;subst h2;have:xs=#[v]:=Array.toList_inj.1 (by simpa using e);subst this;exact callsIn_wide.1 (h w v hw h1)
theorem ziY{res:List TypeId}{env:List (Leaf res)}{S:List Sh}{L:List znl}{w:World}(hm:P.follows .mixedOrders=true)(hN:zbO P)(hS:env.map (·.sh)=S)(hT:zfe P w.heap.size w (Gs env) (ziw L))
  {n:Nat} {f:FuncId} {ts rs:AT} (h:runF P (clsL S) (ziw L) res [] n f ts=some rs) {xs:Array Value} (hx:zb8 (Gs env) ts xs.toList w) :
  CallsIn Fence.wide 0 P f xs w fun e w'=>∃x,e = .returned x∧zdq (Gs env) rs x w'∧Below w.heap.size w w':=
 callsIn_wide.2 (ziX hm hN (zss hS) rfl hT (by simp) h hx)
end
end Go.Eng
namespace Go.Num
open Go.Eng Go.Shelf Go.RowKit Go.Proofs Go.Proofs.YtoamcgjbelhnkaaGreatDoor
end Go.Num
namespace Go.Num
open Go.Eng Go.Shelf Go.RowKit Go.Proofs Go.Proofs.YtoamcgjbelhnkaaGreatDoor
theorem zpM{q:Rat}(h:q.num≠0):sgnR q≠0:=by
 unfold sgnR;split
 ·decide
 ·decide
theorem zk6{q:Rat}(h:q.num=0):sgnR q=0:=by
 unfold sgnR;rw [if_neg (by omega),if_pos h]
end Go.Num
namespace Go.Num
open Go.Eng Go.Shelf Go.RowKit Go.Proofs Go.Proofs.YtoamcgjbelhnkaaGreatDoor
end Go.Num
namespace Go.Num
open Go.Eng Go.Shelf Go.RowKit Go.Proofs Go.Proofs.YtoamcgjbelhnkaaGreatDoor
abbrev rs3:List TypeId:=[3,111]
theorem zau.kept{w w':World}{v:Value}{q:Rat}(h:zau w v q)(hk:Go.Eng.Kept rs3 w w'):zau w' v q:=by
 obtain⟨vn,vd,e,h1,h2⟩:=h;exact⟨vn,vd,e,h1.kept hk rfl,h2.kept hk rfl⟩
theorem QAt.kept{w w':World}{v:Value}{q:Rat}(h:QAt w v q)(hk:Go.Eng.Kept rs3 w w'):QAt w' v q:=by
 obtain⟨m1,m2,e,h1,h2⟩:=h;exact⟨m1,m2,e,h1.kept hk rfl,h2.kept hk rfl⟩
def ztA(q:Rat):Leaf rs3 where
 sh:=.agg 3
 I:=fun v w=>zau w v q
 stable:=fun _ _ _ hk h=>h.kept hk
 ok:=by
  rintro v w ⟨vn,vd,rfl,h1,h2⟩;refine⟨_,rfl,rfl,fun x hx => ?_⟩;simp only [List.mem_cons,List.not_mem_nil,or_false]at hx;rcases hx with rfl|rfl|rfl
  ·rfl
  ·exact h1.oneCell
  ·exact h2.oneCell
 det:=fun h=>by cases h
def zti(q:Rat):Leaf rs3 where
 sh:=.agg 4
 I:=fun v w=>QAt w v q
 stable:=fun _ _ _ hk h=>h.kept hk
 ok:=by
  rintro v w ⟨vn,vd,rfl,h1,h2⟩;refine⟨_,rfl,rfl,fun x hx => ?_⟩;simp only [List.mem_cons,List.not_mem_nil,or_false]at hx;rcases hx with rfl|rfl|rfl|rfl
  ·rfl
  ·exact h1.oneCell
  ·rfl
  ·exact h2.oneCell
 det:=fun h=>by cases h
def ztz(s:ByteArray):Leaf rs3 where
 sh:=.str
 I:=fun v _=>v = .string s
 stable:=fun _ _ _ _ h=>h
 ok:=by rintro v w rfl;exact⟨_,rfl⟩
 det:=by rintro _ v v' w rfl rfl;rfl
abbrev tg(k:Nat):AT:=.tag (.leaf k)
abbrev vi(n:Int):AT:=.val (.sc (.int .i64 n))
abbrev A1(a:AT):AT:=.cons a .nil
abbrev A2(a b:AT):AT:=.cons a (.cons b .nil)
abbrev shR:Sh:=.agg 3
abbrev shQ:Sh:=.agg 4
def zko(q:Rat):Rat:=if zb5 q=true then q else 0
def zqw(q:Rat):Int:=if zb5 q=true then 0 else 11
theorem zef(w:World)(v:Value)(q:Rat)(h:zau w v q)(hq:zan q 100000)(htab:zaY w) :
  CallsIn Fence.wide 0 Tryz.prog 66 #[.func (.func 67) #[v] #[]] w fun e w'=>∃v',e = .returned (.tuple #[v',.int .i64 (zqw q)])∧zau w' v' (zko q)∧Below w.heap.size w w':=by
 unfold zqw zko
 cases hs:zb5 q with
 | true=>exact zkB w v q h hq hs htab
 | false=>exact ziG w v q h hq hs htab
section
variable {w0:World} {env:List (Leaf rs3)} {r:List znl}
abbrev TI(w0:World)(env:List (Leaf rs3))(L:List znl):Prop:=zfe Tryz.prog w0.heap.size w0 (Gs env) (ziw L)
theorem pk2{G:Sett}{w:World}{a b:AT}{x y:Value}(h1:za9 G a x w)(h2:za9 G b y w):zdq G (A2 a b) (.tuple #[x,y]) w:=⟨_,rfl,_,_,rfl,h1,_,_,rfl,h2,rfl⟩
theorem ps1{G:Sett}{w:World}{a:AT}{x:Value}(h1:za9 G a x w):zb8 G (A1 a) [x] w:=⟨_,_,rfl,h1,rfl⟩
end
end Go.Num
