/-
  'Make' of the program. 'attempt' where nothing panics. Add, Mul of the program, where the answer may be kept. Fractions made: Whole, Frac, Z
  Conditions: see each statement.
-/
import Derived.Test.YtepakfjilnpodaaGreatDoorRBAA
import Derived.Test.YtepakfjilnpodaaGreatDoorRBAM
import Derived.Test.YtepakfjilnpodaaGreatDoorRBAJ
import Derived.Lib.SmallJoins
import Derived.RecoverIn
set_option maxRecDepth 100000
set_option maxHeartbeats 8000000
namespace Go.Num
open Go.Eng Go.Shelf Go.RowKit Go.Sort Go.Proofs Go.Proofs.YtepakfjilnpodaaGreatDoor
def zgw(n:Nat):ByteArray:=⟨(Lib.decDigits n).toArray⟩
theorem zf4{z:Int}(h:0≤z):zdg z=zgw z.natAbs:=by
 unfold zdg zgw Lib.itoa;rw [if_neg (by omega),show z.toNat=z.natAbs by omega]
theorem ziE(a b:List UInt8):(⟨a.toArray⟩:ByteArray) ++ ⟨b.toArray⟩=⟨(a ++ b).toArray⟩:=by
 refine ByteArray.ext ?_;rw [ByteArray.data_append];simp
theorem zkE{z:Int}(h:z<0):(⟨#[45]⟩:ByteArray) ++ zgw z.natAbs=zdg z:=by
 unfold zdg zgw Lib.itoa;rw [if_pos h];exact ziE [45] _
theorem zdV{n:Nat}(h:n<B^100000):(zgw n).size≤900000:=by
 unfold zgw;rw [zch,Lib.decDigits_length];exact zk2 h
theorem zi5{z:Int}(h:z.natAbs<B^100000):(zdg z).size≤900001:=by
 by_cases h0:z<0
 ·rw [←zkE h0,ByteArray.size_append];have:=zdV h;show 1+_≤_
  omega
 ·rw [zf4 (by omega)];have:=zdV h;omega
theorem zkF{q:Rat}(h:q.den=1):zf5 q=zdg q.num:=by unfold zf5;rw [if_pos h]
theorem zi6{q:Rat}(h:q.den≠1):zdg q.num ++ ⟨#[47]⟩ ++ zgw q.den=zf5 q:=by
 unfold zf5 zdg zgw;rw [if_neg h];have e1:=ziE (Lib.itoa q.num) [47];have e2:=ziE (Lib.itoa q.num ++ [47]) (Lib.decDigits q.den);rw [show(⟨#[47]⟩:ByteArray)=⟨[47].toArray⟩from rfl,e1,e2,List.append_assoc];rfl
theorem zfE(w:World)(v:Value)(q:Rat)(h:zaj w v q)(hq:zad q 100000)(htab:zbh w) :
  CallsIn Fence.wide 0 Tryz.prog 75 #[v] w fun e w'=>e = .returned (.tuple #[.string (zdg q.num),.string (zgw q.den)])∧Below w.heap.size w w':=by
 have HR:=zHi h;obtain⟨vn,vd,rfl,hn,hd⟩:=h;have HN:=zHi hn;obtain⟨sg,hsg⟩:∃sg,decide (q.num<0)=sg:=⟨_,rfl⟩;have HSG:=zHi hsg;obtain⟨o1,k1,c1,rfl,_,_⟩:=zaG hn;obtain⟨o2,k2,c2,rfl,_,_⟩:=zaG hd;rw [hsg]at HR;rw [hsg];obtain⟨W1,hW1⟩:∃W,W=w.alloc (.cells #[.bool sg,.slice o1 k1 c1,.slice o2 k2 c2] 27):=⟨_,rfl⟩;have HX1:Hid (Box3 W1 w.heap.size (.bool sg) (.slice o1 k1 c1) (.slice o2 k2 c2)):=zHi (by rw [hW1];exact zaK _ _ _ _ _);have HB1:Hid (Below w.heap.size w W1):=zHi (by rw [hW1];exact zaa _ _);have HP:=zHi hq;have HTab:=zHi htab;clear hn hd hsg hq htab;refine callsIn_of_wp Tryz.func75 rfl trivial ?_ rfl;simp only [Tryz.ntmps75,zsj,zsk,zsl,Nat.reduceAdd,Nat.reduceSub,zsm,zsn,zso,zsp,zsq,zsr];gi_wp2_with (gi_at_call 141;refine stop ?_)
 unfold Stop;rw [←hW1];obtain⟨g,hg⟩:∃g,w.heap.size=g:=⟨_,rfl⟩;rw [hg]at HX1;rw [hg];clear hW1;refine(zce W1 _ _ (HN.out.below HB1.out) HP.out.1 (HTab.out.below HB1.out)).mono ?_;rintro e w2 ⟨rfl,hb2⟩;have HX2:=zHi (HX1.out.below hb2);have HB2:=zHi (HB1.out.trans (hb2.mono HB1.out.size));have y0:=HX2.out.c0;have y1:=HX2.out.c1;have y2:=HX2.out.c2;have HR2:=zHi (HR.out.below HB2.out);obtain⟨S,hS⟩:∃S:ByteArray,(⟨(Lib.decDigits q.num.natAbs).toArray⟩:ByteArray)=S:=⟨_,rfl⟩;rw [hS];have HS:=zHi hS;have hSsz:S.size≤900000:=by rw [←hS];exact zdV HP.out.1
 clear hb2 HX1 HB1 hS
 cases sg with
 | true=>
  have HT:Hid ((⟨#[45]⟩:ByteArray) ++ S=zdg q.num):=zHi (by rw [←HS.out];exact zkE (of_decide_eq_true HSG.out));gi_wp2_with (gi_at_call 132;refine stop ?_)
  unfold Stop;refine(zbb w2 _ q HR2.out).mono ?_;rintro e w3 ⟨v3,rfl,hm3,hb3⟩;have HM3:=zHi hm3;have HB3:=zHi (HB2.out.trans (hb3.mono HB2.out.size));clear hm3 hb3 HR2 HX2 HB2 y0 y1 y2;gi_wp2_with (gi_at_call 141;refine stop ?_)
  unfold Stop;refine(zce w3 _ _ HM3.out HP.out.2 (HTab.out.below HB3.out)).mono ?_;rintro e w4 ⟨rfl,hb4⟩;have HB4:=zHi (HB3.out.trans (hb4.mono HB3.out.size));rw [HT.out];clear hb4 HB3;gi_wp2;all_goals (first|go_returns|go_ret2|go_ret|go_end0)
  exact⟨rfl,HB4.out⟩
 | false=>
  have HT:Hid (S=zdg q.num):=zHi (by rw [←HS.out];exact(zf4 (by have:=of_decide_eq_false HSG.out;omega)).symm);gi_wp2_with (gi_at_call 132;refine stop ?_)
  unfold Stop;refine(zbb w2 _ q HR2.out).mono ?_;rintro e w3 ⟨v3,rfl,hm3,hb3⟩;have HM3:=zHi hm3;have HB3:=zHi (HB2.out.trans (hb3.mono HB2.out.size));clear hm3 hb3 HR2 HX2 HB2 y0 y1 y2;gi_wp2_with (gi_at_call 141;refine stop ?_)
  unfold Stop;refine(zce w3 _ _ HM3.out HP.out.2 (HTab.out.below HB3.out)).mono ?_;rintro e w4 ⟨rfl,hb4⟩;have HB4:=zHi (HB3.out.trans (hb4.mono HB3.out.size));rw [HT.out];clear hb4 HB3;gi_wp2;all_goals (first|go_returns|go_ret2|go_ret|go_end0)
  exact⟨rfl,HB4.out⟩
theorem zgW(w:World)(v:Value)(q:Rat)(h:zaj w v q)(hq:zad q 100000)(htab:zbh w) :
  CallsIn Fence.wide 0 Tryz.prog 18 #[v] w fun e w'=>e = .returned (.string (zf5 q))∧Below w.heap.size w w':=by
 have HR:=zHi h;obtain⟨vn,vd,rfl,hn,hd⟩:=h;obtain⟨sg,hsg⟩:∃sg,decide (q.num<0)=sg:=⟨_,rfl⟩;obtain⟨o1,k1,c1,rfl,_,_⟩:=zaG hn;obtain⟨o2,k2,c2,rfl,hk2,_⟩:=zaG hd;have HK2:=zHi hk2;rw [hsg]at HR;rw [hsg];obtain⟨W1,hW1⟩:∃W,W=w.alloc (.cells #[.bool sg,.slice o1 k1 c1,.slice o2 k2 c2] 27):=⟨_,rfl⟩;have HX1:Hid (Box3 W1 w.heap.size (.bool sg) (.slice o1 k1 c1) (.slice o2 k2 c2)):=zHi (by rw [hW1];exact zaK _ _ _ _ _);have HB1:Hid (Below w.heap.size w W1):=zHi (by rw [hW1];exact zaa _ _);have HP:=zHi hq;have HTab:=zHi htab;clear hn hd hsg hq htab hk2;refine callsIn_of_wp Tryz.func18 rfl trivial ?_ rfl;simp only [Tryz.ntmps18,zsj,zsk,zsl,Nat.reduceAdd,Nat.reduceSub,zsm,zsn,zso,zsp,zsq,zsr];gi_wp2_with (gi_at_call 75;refine stop ?_)
 unfold Stop;rw [←hW1];obtain⟨g,hg⟩:∃g,w.heap.size=g:=⟨_,rfl⟩;rw [hg]at HX1;rw [hg];clear hW1;refine(zfE W1 _ q (HR.out.below HB1.out) HP.out (HTab.out.below HB1.out)).mono ?_;rintro e w2 ⟨rfl,hb2⟩;have HX2:=zHi (HX1.out.below hb2);have HB2:=zHi (HB1.out.trans (hb2.mono HB1.out.size));have y0:=HX2.out.c0;have y1:=HX2.out.c1;have y2:=HX2.out.c2;clear hb2 HX1 HB1;obtain⟨Z,hZ⟩:∃Z,zdg q.num=Z:=⟨_,rfl⟩;obtain⟨D,hD⟩:∃D,zgw q.den=D:=⟨_,rfl⟩;have hZsz:Z.size≤900001:=by rw [←hZ];exact zi5 HP.out.1
 have hDsz:D.size≤900000:=by rw [←hD];exact zdV HP.out.2
 have hZ47:(Z ++ ⟨#[47]⟩:ByteArray).size=Z.size+1:=by rw [ByteArray.size_append];rfl
 rw [hZ,hD];by_cases h1:q.den=1
 ·have hk0:k2=0:=HK2.out.2 (by rw [if_pos h1]);subst hk0;have HT:=zHi (zkF h1);rw [hZ]at HT;clear hZ hD;gi_wp2;all_goals (first|go_returns|go_ret2|go_ret|go_end0)
  exact⟨by rw [HT.out];rfl,HB2.out⟩
 ·have hk0:((k2:Int) == 0)=false:=beq_false_of_ne (by
   intro h;have:=HK2.out.1 (by omega);rw [if_neg h1]at this;exact q.den_nz this)
  have HT:=zHi (zi6 h1);rw [hZ,hD]at HT;clear hZ hD;gi_wp2;all_goals (first|go_returns|go_ret2|go_ret|go_end0)
  exact⟨by rw [←HT.out];rfl,HB2.out⟩
end Go.Num
namespace Go.Eng
open Go.RowKit
section
variable {P:Program} {ops:Array Oper} {bs bars r:List Nat} {i:Nat} {a:CAct} {w:World} {Q:CAct→World→Prop} {o:Oper}
theorem OW.eqInt{t x2:TypeId}{x y:Operand}{k':IntKind}{p q:Int}{d:Option Tmp}{ty:TypeId}{ps:String}{af:Array Edge}(ho:ops[i]? = some {op:=.binOp .eql t x y x2,dst:=d,type:=ty,pos:=ps,after:=af,guard:=none})(hb:bars.contains i=false)
  (hx:a.eval x = .int k' p) (hy:a.eval y = .int k' q) (h:OW P none ops bs bars Q r (a.put d (.bool (p == q))) w):OW P none ops bs bars Q (i :: r) a w:=
 OW.read ho hb _ (fun w' _=>by
  have:(execOp a.eval {op:=.binOp .eql t x y x2,dst:=d,type:=ty,pos:=ps,after:=af,guard:=none}).run P w' = .ok (.value (.bool (p == q))) w':=by
   unfold execOp;simp only [hx,hy];simp [eqGuard,binOp,Op.intCmp,Sem.run_pure]
  exact this) h
theorem OW.eqStr{t x2:TypeId}{x y:Operand}{p:ByteArray}{d:Option Tmp}{ty:TypeId}{ps:String}{af:Array Edge}(ho:ops[i]? = some {op:=.binOp .eql t x y x2,dst:=d,type:=ty,pos:=ps,after:=af,guard:=none})(hb:bars.contains i=false)
  (hx:a.eval x = .string p) (hy:a.eval y = .string p) (h:OW P none ops bs bars Q r (a.put d (.bool true)) w):OW P none ops bs bars Q (i :: r) a w:=
 OW.read ho hb _ (fun w' _=>by
  have:(execOp a.eval {op:=.binOp .eql t x y x2,dst:=d,type:=ty,pos:=ps,after:=af,guard:=none}).run P w' = .ok (.value (.bool true)) w':=by
   unfold execOp;simp only [hx,hy];simp [eqGuard,binOp,Op.stringOp,Sem.run_pure]
  exact this) h
theorem OW.addStr{t x2:TypeId}{x y:Operand}{p q:ByteArray}{d:Option Tmp}{ty:TypeId}{ps:String}{af:Array Edge}(ho:ops[i]? = some {op:=.binOp .add t x y x2,dst:=d,type:=ty,pos:=ps,after:=af,guard:=none})(hb:bars.contains i=false)
  (hx:a.eval x = .string p) (hy:a.eval y = .string q) (hs:p.size+q.size≤9223372036854775807) (h:OW P none ops bs bars Q r (a.put d (.string (p ++ q))) w):OW P none ops bs bars Q (i :: r) a w:=
 OW.read ho hb _ (fun w' _=>by
  have:(execOp a.eval {op:=.binOp .add t x y x2,dst:=d,type:=ty,pos:=ps,after:=af,guard:=none}).run P w' = .ok (.value (.string (p ++ q))) w':=by
   unfold execOp;simp only [hx,hy];have:¬(((p.size+q.size:Nat):Int)>IntKind.i64.max):=by
    rw [show IntKind.i64.max=9223372036854775807 from rfl];omega
   simp [eqGuard,binOp,Op.stringOp,Sem.run_pure]
   omega
  exact this) h
def zmz(P:Program)(t:TypeId)(n:Nat):Prop:=∀g off (cs:List Value) w,cs.length=n→(∀j v,cs[j]? = some v→World.cell? w ⟨g,off+j,none⟩=some v)→(Instr.loadAt t (.pointer (some ⟨g,off,none⟩))).run P w = .ok (.agg cs.toArray) w
theorem znR{P:Program}{t:TypeId}{n:Nat}(h:(match P.underlying t with|some (.struct _)=>true|_=>false)=true)(hi:(P.info? t).map (·.size)=some n):zmz P t n:=by
 intro g off cs w hn hc
 cases hu:P.underlying t with
 | none=>rw [hu]at h;cases h
 | some d=>
  rw [hu]at h
  cases d with
  | struct fs=>
   have hl:=run_loadVar_mid (P:=P) w g off t cs (.struct fs) hc hu rfl (by rw [hn];exact hi);simp [Instr.loadAt,Instr.sureAddr,hl]
  | _=>cases h
theorem OW.loadMid{t:TypeId}{x:Operand}{g off n:Nat}{cs:List Value}{d:Option Tmp}{ty:TypeId}{ps:String}{af:Array Edge}(ho:ops[i]? = some {op:=.load t x,dst:=d,type:=ty,pos:=ps,after:=af,guard:=none})(hb:bars.contains i=false)
  (hL:zmz P t n) (hn:cs.length=n) (h0:0<n) (hc:∀j v,cs[j]? = some v→w.cell? ⟨g,off+j,none⟩=some v) (hx:a.eval x = .pointer (some ⟨g,off,none⟩)) (h:OW P none ops bs bars Q r (a.put d (.agg cs.toArray)) w):OW P none ops bs bars Q (i :: r) a w:=
 OW.read ho hb _ (fun w' hb'=>by
  have hp:g<w.heap.size:=by
   obtain⟨v,hv⟩:∃v,cs[0]? = some v:=⟨_,List.getElem?_eq_getElem (by omega)⟩;exact World.block_lt_of_cell? _ _ (hc 0 v hv)
  simp [execOp,hx,hL g off cs w' hn (fun j v hj=>(hb'.cell (p:=⟨g,off+j,none⟩) hp).trans (hc j v hj))]) h
end
end Go.Eng
namespace Go.Num
open Go.Eng Go.Shelf Go.RowKit Go.Sort Go.Proofs Go.Proofs.YtepakfjilnpodaaGreatDoor
theorem zse:zfY Tryz.prog 62 0 0:=zfm (by kernel_rfl)
theorem zrR:zfY Tryz.prog 62 1 2:=zfm (by kernel_rfl)
theorem m32:zmz Tryz.prog 60 2:=znR (by kernel_rfl) (by kernel_rfl)
theorem m34:zfa Tryz.prog 62 4:=zgI (by kernel_rfl) (by kernel_rfl)
def Box4(w:World)(g:Nat)(x y z u:Value):Prop:=∀j v,[x,y,z,u][j]? = some v→w.cell? ⟨g,j,none⟩=some v
theorem Box4.lt{w:World}{g:Nat}{x y z u:Value}(h:Box4 w g x y z u):g<w.heap.size:=World.block_lt_of_cell? _ _ (h 0 x rfl)
theorem Box4.below{w w':World}{g:Nat}{x y z u:Value}(h:Box4 w g x y z u)(hb:Below w.heap.size w w'):Box4 w' g x y z u:=fun j v hj=>(hb.cell (p:=⟨g,j,none⟩) h.lt).trans (h j v hj)
theorem znp(w:World)(x y z u:Value)(t:TypeId):Box4 (w.alloc (.cells #[x,y,z,u] t)) w.heap.size x y z u:=fun j v hj=>by
 rw [World.cell?_alloc_new,←hj];simp
theorem Box4.lo{w:World}{g:Nat}{x y z u:Value}(h:Box4 w g x y z u):∀j v,[x,y][j]? = some v→w.cell? ⟨g,0+j,none⟩=some v:=fun j v hj=>by
 match j,hj with
 | 0,hj=>exact h 0 v hj
 | 1,hj=>exact h 1 v hj
 | n+2,hj=>simp at hj
theorem Box4.hi{w:World}{g:Nat}{x y z u:Value}(h:Box4 w g x y z u):∀j v,[z,u][j]? = some v→w.cell? ⟨g,2+j,none⟩=some v:=fun j v hj=>by
 match j,hj with
 | 0,hj=>exact h 2 v hj
 | 1,hj=>exact h 3 v hj
 | n+2,hj=>simp at hj
theorem QAt.parts{w:World}{v:Value}{q:Rat}(h:QAt w v q):∃m1 m2,v = .agg #[.bool (decide (q.num<0)),m1,.bool false,m2]∧ZAt w (.agg #[.bool (decide (q.num<0)),m1]) q.num∧ZAt w (.agg #[.bool false,m2]) (q.den:Int):=by
 obtain⟨m1,m2,e,h1,h2⟩:=h;refine⟨m1,m2,e,⟨m1,rfl,h1⟩,⟨m2,?_,h2⟩⟩;have:decide ((q.den:Int)<0)=false:=decide_eq_false (by omega);rw [this]
theorem zjt(w:World)(v:Value)(q:Rat)(h:QAt w v q)(hq:zad q 20000) :
  CallsIn Fence.wide 0 Tryz.prog 91 #[v] w fun e w'=>e = .returned (.string (zf5 q))∧Below w.heap.size w w':=by
 obtain⟨m1,m2,rfl,hn,hd⟩:=h.parts;have HN:=zHi hn;have HD:=zHi hd;obtain⟨sg,hsg⟩:∃sg,decide (q.num<0)=sg:=⟨_,rfl⟩;rw [hsg]at HN;rw [hsg];obtain⟨W1,hW1⟩:∃W,W=w.alloc (.cells #[.bool sg,m1,.bool false,m2] 62):=⟨_,rfl⟩;have HX:Hid (Box4 W1 w.heap.size (.bool sg) m1 (.bool false) m2):=zHi (by rw [hW1];exact znp _ _ _ _ _ _);have HBW:Hid (Below w.heap.size w W1):=zHi (by rw [hW1];exact zaa _ _);have HP:=zHi hq;clear h hn hd hsg hq;refine callsIn_of_wp Tryz.func91 rfl trivial ?_ rfl;simp only [Tryz.ntmps91,zsj,zsk,zsl,Nat.reduceAdd,Nat.reduceSub,zsm,zsn,zso,zsp,zsq,zsr];gi_wp2;rw [←hW1];obtain⟨g,hg⟩:∃g,w.heap.size=g:=⟨_,rfl⟩;rw [hg]at HX;rw [hg];clear hW1;refine zan (ro:=none) [2,3] [0,1,2,3,4] [0,1,0,7,15] zak 19 rfl (by kernel_rfl) (by kernel_rfl) ?_;replace HX:=zHi (HX.out.below (zab _));replace HBW:=zHi (HBW.out.trans ((zab W1).mono HBW.out.size));refine OW.fieldAddr rfl rfl zrR rfl ?_;simp only [Go.Act.put,zss,zst,zsu];refine OW.loadMid rfl rfl m32 (cs:=[.bool false,m2]) rfl (by decide) HX.out.hi rfl ?_;simp only [Go.Act.put,zss,zst,zsu];refine OW.call rfl rfl Tryz.func31 rfl zac (args:=[.int .i64 1]) rfl ?_;refine(zaM W1.drew 1 (by decide) (by decide)).mono ?_;rintro e w2 ⟨v5,rfl,hz5,hB⟩;refine⟨v5,rfl,hB,?_⟩;simp only [Go.Act.put,zss,zst,zsu];replace HX:=zHi (HX.out.below hB);replace HBW:=zHi (HBW.out.trans (hB.mono HBW.out.size));have HZ5:=zHi hz5;clear hz5 hB;refine OW.call rfl rfl Tryz.func99 rfl zac (args:=[.agg #[.bool false,m2],v5]) rfl ?_;refine(zcI w2 _ v5 (q.den:Int) 1 (HD.out.below HBW.out) HZ5.out (zaY 50000 HP.out.2 (by decide)) (zaY 50000 (show 1<B^1 by decide) (by decide))).mono ?_;rintro e w3 ⟨rfl,hB⟩;refine⟨_,rfl,hB,?_⟩;simp only [Go.Act.put,zss,zst,zsu];replace HX:=zHi (HX.out.below hB);replace HBW:=zHi (HBW.out.trans (hB.mono HBW.out.size));clear hB HZ5;refine OW.eqInt rfl rfl rfl rfl ?_;simp only [Go.Act.put,zss,zst,zsu];refine OW.done ?_;by_cases h1:q.den=1
 ·have hc:(((q.den:Int)-1).sign == 0)=true:=by rw [h1];rfl
  rw [hc];have y0:=HX.out 0 _ rfl;have y1:=HX.out 1 _ rfl;have HT:=zHi (zkF h1);clear h1 hc;gi_wp2_with (gi_at_call 155;refine stop ?_)
  unfold Stop;refine(zek w3 _ q.num (HN.out.below HBW.out) (zaY 100000 HP.out.1 (by decide))).mono ?_;rintro e w4 ⟨rfl,hB⟩;have HB4:=zHi (HBW.out.trans (hB.mono HBW.out.size));clear hB;gi_wp2;all_goals (first|go_returns|go_ret|go_end0)
  exact⟨by rw [HT.out];rfl,HB4.out⟩
 ·have hc:(((q.den:Int)-1).sign == 0)=false:=beq_false_of_ne (by
   intro h;have:=Int.sign_eq_zero_iff_zero.1 h;omega)
  rw [hc];have HT:=zHi (zi6 h1);have hsz1:=zi5 (z:=q.num) (zaY 100000 HP.out.1 (by decide));have hsz2:=zdV (n:=q.den) (zaY 100000 HP.out.2 (by decide));gi_wp2;refine zan (ro:=none) [2,6] [0,1,4,5,2,3,6,7,8] [0,1,3,7,0,16,55,127,255] zak 19 rfl (by kernel_rfl) (by kernel_rfl) ?_;replace HX:=zHi (HX.out.below (zab _));replace HBW:=zHi (HBW.out.trans ((zab w3).mono HBW.out.size));refine OW.fieldAddr rfl rfl zse rfl ?_;simp only [Go.Act.put,zss,zst,zsu];refine OW.loadMid rfl rfl m32 (cs:=[.bool sg,m1]) rfl (by decide) HX.out.lo rfl ?_;simp only [Go.Act.put,zss,zst,zsu];refine OW.fieldAddr rfl rfl zrR rfl ?_;simp only [Go.Act.put,zss,zst,zsu];refine OW.loadMid rfl rfl m32 (cs:=[.bool false,m2]) rfl (by decide) HX.out.hi rfl ?_;simp only [Go.Act.put,zss,zst,zsu];refine OW.call rfl rfl Tryz.func155 rfl zac (args:=[.agg #[.bool sg,m1]]) rfl ?_;refine(zek w3.drew _ q.num (HN.out.below HBW.out) (zaY 100000 HP.out.1 (by decide))).mono ?_;rintro e w4 ⟨rfl,hB⟩;refine⟨_,rfl,hB,?_⟩;simp only [Go.Act.put,zss,zst,zsu];replace HBW:=zHi (HBW.out.trans (hB.mono HBW.out.size));clear hB;refine OW.addStr rfl rfl rfl rfl (by show _+1≤_;omega) ?_;simp only [Go.Act.put,zss,zst,zsu];refine OW.call rfl rfl Tryz.func155 rfl zac (args:=[.agg #[.bool false,m2]]) rfl ?_;refine(zek w4 _ (q.den:Int) (HD.out.below HBW.out) (zaY 100000 HP.out.2 (by decide))).mono ?_;rintro e w5 ⟨rfl,hB⟩;refine⟨_,rfl,hB,?_⟩;simp only [Go.Act.put,zss,zst,zsu];replace HBW:=zHi (HBW.out.trans (hB.mono HBW.out.size));clear hB;rw [zf4 (z:=(q.den:Int)) (by omega),Int.natAbs_natCast];refine OW.addStr rfl rfl rfl rfl (by rw [ByteArray.size_append];show _+1+_≤_;omega) ?_;simp only [Go.Act.put,zss,zst,zsu];refine OW.assign rfl rfl _ rfl ?_;simp only [Go.Act.put,zss,zst,zsu];refine OW.done ?_;rw [HT.out];gi_wp2;all_goals (first|go_returns|go_ret|go_end0)
  exact⟨rfl,HBW.out⟩
theorem m25:zfa Tryz.prog 27 3:=l25
theorem zm8(w:World)(u v:Value)(q:Rat)(hu:zaj w u q)(hv:QAt w v q)(hq:zad q 20000)(htab:zbh w) :
  CallsIn Fence.wide 0 Tryz.prog 28 #[u,v] w fun e w'=>e = .returned (.bool true)∧Below w.heap.size w w':=by
 have HU:=zHi hu;have HV:=zHi hv;obtain⟨vn,vd,rfl,_,_⟩:=hu;obtain⟨m1,m2,rfl,_,_⟩:=hv;obtain⟨sg,hsg⟩:∃sg,decide (q.num<0)=sg:=⟨_,rfl⟩;rw [hsg]at HU HV;rw [hsg];obtain⟨W0,hW0⟩:∃W,W=w.alloc (.cells #[.bool sg,vn,vd] 27):=⟨_,rfl⟩;have h0s:W0.heap.size=w.heap.size+1:=by rw [hW0];simp
 obtain⟨W1,hW1⟩:∃W,W=W0.alloc (.cells #[.bool sg,m1,.bool false,m2] 62):=⟨_,rfl⟩;have HX:Hid (Box3 W1 w.heap.size (.bool sg) vn vd):=zHi (by rw [hW1];exact Box3.below (by rw [hW0];exact zaK _ _ _ _ _) (zaa _ _));have HY:Hid (Box4 W1 (w.heap.size+1) (.bool sg) m1 (.bool false) m2):=zHi (by rw [hW1,←h0s];exact znp _ _ _ _ _ _);have HBW:Hid (Below w.heap.size w W1):=zHi (by rw [hW1,hW0];exact(zaa _ _).alloc (by simp) _);have HP:=zHi hq;have HTab:=zHi htab;clear hsg hq htab;refine callsIn_of_wp Tryz.func28 rfl trivial ?_ rfl;simp only [Tryz.ntmps28,zsj,zsk,zsl,Nat.reduceAdd,Nat.reduceSub,zsm,zsn,zso,zsp,zsq,zsr];gi_wp2;rw [←hW0,←hW1];obtain⟨g,hg⟩:∃g,w.heap.size=g:=⟨_,rfl⟩;rw [hg]at HX HY;rw [hg];clear hW0 hW1 h0s;refine zan (ro:=none) [1,3] [0,2,1,3,4,5] [0,1,0,7,15,31] zak 10 rfl (by kernel_rfl) (by kernel_rfl) ?_;replace HX:=zHi (HX.out.below (zab _));replace HY:=zHi (HY.out.below (zab _));replace HBW:=zHi (HBW.out.trans ((zab W1).mono HBW.out.size));refine OW.loadAll rfl rfl m25 (cs:=[.bool sg,vn,vd]) rfl (by decide) HX.out rfl ?_;simp only [Go.Act.put,zss,zst,zsu];refine OW.loadAll rfl rfl m34 (cs:=[.bool sg,m1,.bool false,m2]) rfl (by decide) HY.out rfl ?_;simp only [Go.Act.put,zss,zst,zsu];refine OW.call rfl rfl Tryz.func18 rfl zac (args:=[.agg #[.bool sg,vn,vd]]) rfl ?_;refine(zgW W1.drew _ q (HU.out.below HBW.out) (HP.out.mono (by decide)) (HTab.out.below HBW.out)).mono ?_;rintro e w2 ⟨rfl,hB⟩;refine⟨_,rfl,hB,?_⟩;simp only [Go.Act.put,zss,zst,zsu];replace HBW:=zHi (HBW.out.trans (hB.mono HBW.out.size));clear hB;refine OW.call rfl rfl Tryz.func91 rfl zac (args:=[.agg #[.bool sg,m1,.bool false,m2]]) rfl ?_;refine(zjt w2 _ q (HV.out.below HBW.out) HP.out).mono ?_;rintro e w3 ⟨rfl,hB⟩;refine⟨_,rfl,hB,?_⟩;simp only [Go.Act.put,zss,zst,zsu];replace HBW:=zHi (HBW.out.trans (hB.mono HBW.out.size));clear hB;refine OW.eqStr rfl rfl rfl rfl ?_;simp only [Go.Act.put,zss,zst,zsu];refine OW.assign rfl rfl _ rfl ?_;simp only [Go.Act.put,zss,zst,zsu];refine OW.done ?_;gi_wp2;all_goals (first|go_returns|go_ret|go_end0)
 exact⟨rfl,HBW.out⟩
theorem l34:zfa Tryz.prog 62 4:=m34
theorem zd5{a:Int}(h1 : -9223372036854775808≤a)(h2:a≤9223372036854775807):a.natAbs<B^3:=by
 have:B^3=1000000000000000000000000000:=by decide
 omega
theorem zoV{a b:Int}(ha:a.natAbs<B^3)(hb:b.natAbs<B^3):zad ((a:Rat)/(b:Rat)) 6:=zbl (zbW ha (by decide)) (zbW hb (by decide))
theorem znU(w:World)(a b:Int)(ha1 : -9223372036854775808≤a)(ha2:a≤9223372036854775807)(hb1 : -9223372036854775808≤b)(hb2:b≤9223372036854775807)(hb0:b≠0) :
  CallsIn Fence.wide 0 Tryz.prog 39 #[.int .i64 a,.int .i64 b] w fun e w'=>∃v',e = .returned v'∧QAt w' v' ((a:Rat)/(b:Rat))∧Below w.heap.size w w':=by
 refine callsIn_of_wp Tryz.func39 rfl trivial ?_ rfl;simp only [Tryz.ntmps39,zsj,zsk,zsl,Nat.reduceAdd,Nat.reduceSub,zsm,zsn,zso,zsp,zsq,zsr];gi_wp2_with (gi_at_call 31;refine stop ?_)
 unfold Stop;obtain⟨W1,hW1⟩:∃W,W=w.alloc (.cells #[.bool false,.slice none 0 0,.bool false,.slice none 0 0] 62):=⟨_,rfl⟩;rw [←hW1];have HBW:Hid (Below w.heap.size w W1):=zHi (by rw [hW1];exact zaa _ _);have HA:Hid (zag W1 w.heap.size 4 fun i => [.bool false,.slice none 0 0,.bool false,.slice none 0 0].getD i (.bool false)):=zHi (by
  rw [hW1];refine zag.new _ _ _ fun i hi => ?_
  match i,hi with
  | 0,_=>rfl
  | 1,_=>rfl
  | 2,_=>rfl
  | 3,_=>rfl)
 have HE:Hid (Elem W1 w.heap.size 62):=zHi (by rw [hW1];exact zaO _ _ _);obtain⟨g,hg⟩:∃g,w.heap.size=g:=⟨_,rfl⟩;have hgl:g<W1.heap.size:=by rw [hW1,←hg];simp
 have hgw:w.heap.size≤g:=by omega
 rw [hg]at HA HE;rw [hg];clear hg hW1;refine(zaM W1 a ha1 ha2).mono ?_;rintro e w2 ⟨v2,rfl,hz2,hB⟩;replace HA:=zHi (HA.out.below hgl hB);replace HE:=zHi (HE.out.below hB hgl);replace HBW:=zHi (HBW.out.trans (hB.mono HBW.out.size));replace hgl:=Nat.lt_of_lt_of_le hgl hB.size;have HZ2:=zHi hz2;clear hz2 hB;gi_wp2_with (gi_at_call 31;refine stop ?_)
 unfold Stop;refine(zaM w2 b hb1 hb2).mono ?_;rintro e w3 ⟨v3,rfl,hz3,hB⟩;replace HA:=zHi (HA.out.below hgl hB);replace HE:=zHi (HE.out.below hB hgl);replace HBW:=zHi (HBW.out.trans (hB.mono HBW.out.size));replace hgl:=Nat.lt_of_lt_of_le hgl hB.size;replace HZ2:=zHi (HZ2.out.below hB);have HZ3:=zHi hz3;clear hz3 hB;gi_wp2_with (gi_at_call 92;refine stop ?_)
 unfold Stop;refine(zhI w3 v2 v3 a b HZ2.out HZ3.out (zaY 20000 (zd5 ha1 ha2) (by decide)) (zaY 20000 (zd5 hb1 hb2) (by decide)) hb0).mono ?_;rintro e w4 ⟨v4,rfl,⟨m1,m2,rfl,h1,h2⟩,hB⟩;replace HA:=zHi (HA.out.below hgl hB);replace HE:=zHi (HE.out.below hB hgl);replace HBW:=zHi (HBW.out.trans (hB.mono HBW.out.size));obtain⟨o1,k1,c1,rfl,_,_⟩:=zbf h1;obtain⟨o2,k2,c2,rfl,_,_⟩:=zbf h2;have H1:=zHi h1;have H2:=zHi h2;have y0:=(HA.out 0 (by omega)).1;have y1:=(HA.out 1 (by omega)).1;have y2:=(HA.out 2 (by omega)).1;have y3:=(HA.out 3 (by omega)).1;have z0:=(HA.out 0 (by omega)).2;have z1:=(HA.out 1 (by omega)).2;have z2:=(HA.out 2 (by omega)).2;have z3:=(HA.out 3 (by omega)).2;simp only [List.getD_cons_zero,List.getD_cons_succ]at y0 y1 y2 y3;clear h1 h2 hB HZ2 HZ3;obtain⟨sg,hsg⟩:∃sg,decide (((a:Rat)/(b:Rat)).num<0)=sg:=⟨_,rfl⟩;rw [hsg];gi_wp2;have ha6:=(((HA.out.set (i:=0) (by omega) (.bool sg)).set (i:=1) (by omega) (.slice o1 k1 c1)).set (i:=2) (by omega) (.bool false)).set (i:=3) (by omega) (.slice o2 k2 c2);refine zoR (cs:=[.bool sg,.slice o1 k1 c1,.bool false,.slice o2 k2 c2]) rfl rfl g rfl l34 rfl ?_ ?_
 ·intro j v hj;match j,hj with
  | 0,hj=>cases hj;exact(ha6 0 (by omega)).1
  | 1,hj=>cases hj;exact(ha6 1 (by omega)).1
  | 2,hj=>cases hj;exact(ha6 2 (by omega)).1
  | 3,hj=>cases hj;exact(ha6 3 (by omega)).1
 ·have n:∀{v:Value} {x:Nat},NatI w4 v x→NatI ((((w4.setCell ⟨g,0,none⟩ (.bool sg)).setCell ⟨g,1,none⟩ (.slice o1 k1 c1)).setCell ⟨g,2,none⟩ (.bool false)).setCell ⟨g,3,none⟩ (.slice o2 k2 c2)) v x:=fun h=>
   (((h.setElem HE.out (by decide)).setElem (HE.out.setCell _ _) (by decide)).setElem ((HE.out.setCell _ _).setCell _ _) (by decide)).setElem (((HE.out.setCell _ _).setCell _ _).setCell _ _) (by decide)
  refine⟨_,rfl,⟨_,_,by rw [hsg],n H1.out,n H2.out⟩,(((HBW.out.setCell hgw _).setCell hgw _).setCell hgw _).setCell hgw _⟩
def envW(z:Int):Env:=⟨fun k=>if k=7 then 1 else z,fun _=>0⟩
def tW:TTab:=fun f ts=>
 bif Nat.beq f 31 then
  match ts with
  | .cons (.val (.sc (.int .i64 1))) .nil=>some (.cons (zs false (.leaf 7)) .nil)
  | _=>none
 else none
theorem zrw(z:Int):zcj Tryz.prog (GN (envW z)) tW:=by
 intro f ts rs q;unfold tW at q
 cases hf:Nat.beq f 31 with
 | false=>rw [hf]at q;cases q
 | true=>
  rw [hf]at q;have hf:=(zal _ _).1 hf;subst hf;refine⟨⟨_,Tryz.func31,rfl⟩,fun w xs hx => ?_⟩;simp only [cond_true]at q;split at q
  ·cases q
   obtain⟨v,r,e,h1,h4⟩:=hx;have h4:r = []:=h4;subst h4;have e':xs=#[v]:=Array.toList_inj.1 (by simpa using e);subst e';have h1:some (Value.int .i64 1)=some v:=h1
   cases h1
   refine(callsIn_wide.1 (zaM w 1 (by decide) (by decide))).mono ?_;rintro e w' ⟨v',rfl,hz,hb⟩;exact⟨v',rfl,zn8 hz rfl rfl,hb⟩
  ·cases q
theorem zbr(w:World)(v:Value)(z:Int)(h:ZAt w v z) :
  CallsIn Fence.wide 0 Tryz.prog 30 #[v] w fun e w'=>∃v',e = .returned v'∧QAt w' v' (z:Rat)∧Below w.heap.size w w':=by
 refine(runZ (zrw z) (n:=50) (r:=zpA (zc (.leaf 0)) (zs false (.leaf 7))) (ts:=.cons (zc (.leaf 0)) .nil) (by kernel_rfl) (xs:=#[v]) ⟨v,[],rfl,zdv h rfl,rfl⟩).mono ?_;rintro e w' ⟨v',rfl,⟨xs,rfl,a,r,e1,h1,b,r2,rfl,h2,c,r3,rfl,h3,d,r4,rfl,h4,h5⟩,hB⟩;have h5:r4 = []:=h5;subst h5;have e':xs=#[a,b,c,d]:=Array.toList_inj.1 (by simpa using e1);subst e';have h3:some (Value.bool false)=some c:=h3
 cases h3
 have h1:a = .bool (decide (z<0)):=h1;subst h1;exact⟨_,rfl,⟨b,d,rfl,h2,h4⟩,hB⟩
theorem zav{fn:Func}{p t:Tmp}{R:Ending→World→Prop}{a:Act}{w:World}{x y z x0 x1 x2 u:Value}(h:fn.results=#[.cell p 27,.tmp t])(hd:a.defers = [])(g:Nat)(hp:a.tmps.getD p undef = .pointer (some ⟨g,0,none⟩))(ht:a.tmps.getD t undef=u)
  (h0:w.cell? ⟨g,0,none⟩=some x0) (h1:w.cell? ⟨g,1,none⟩=some x1) (h2:w.cell? ⟨g,2,none⟩=some x2) (hR:R (.returned (.tuple #[.agg #[x,y,z],u])) (((w.setCell ⟨g,0,none⟩ x).setCell ⟨g,1,none⟩ y).setCell ⟨g,2,none⟩ z)) :
  bodyPost Tryz.prog fn R .ret a (((w.setCell ⟨g,0,none⟩ x).setCell ⟨g,1,none⟩ y).setCell ⟨g,2,none⟩ z):=by
 have n01:(⟨g,0,none⟩:Addr)≠⟨g,1,none⟩:=by intro e;injection e with _ e;omega
 have n02:(⟨g,0,none⟩:Addr)≠⟨g,2,none⟩:=by intro e;injection e with _ e;omega
 have n12:(⟨g,1,none⟩:Addr)≠⟨g,2,none⟩:=by intro e;injection e with _ e;omega
 have c0:(((w.setCell ⟨g,0,none⟩ x).setCell ⟨g,1,none⟩ y).setCell ⟨g,2,none⟩ z).cell? ⟨g,0,none⟩=some x:=by
  rw [World.cell?_setCell_other _ _ _ _ n02.symm,World.cell?_setCell_other _ _ _ _ n01.symm,World.cell?_setCell_same _ _ _ h0]
 have c1:(((w.setCell ⟨g,0,none⟩ x).setCell ⟨g,1,none⟩ y).setCell ⟨g,2,none⟩ z).cell? ⟨g,1,none⟩=some y:=by
  rw [World.cell?_setCell_other _ _ _ _ n12.symm,World.cell?_setCell_same _ _ _ (by rw [World.cell?_setCell_other _ _ _ _ n01];exact h1)]
 have c2:(((w.setCell ⟨g,0,none⟩ x).setCell ⟨g,1,none⟩ y).setCell ⟨g,2,none⟩ z).cell? ⟨g,2,none⟩=some z:=by
  rw [World.cell?_setCell_same _ _ _ (by rw [World.cell?_setCell_other _ _ _ _ n12,World.cell?_setCell_other _ _ _ _ n02];exact h2)]
 refine bodyPost_ret ?_ hd hR;have hl:=l25 g [x,y,z] (((w.setCell ⟨g,0,none⟩ x).setCell ⟨g,1,none⟩ y).setCell ⟨g,2,none⟩ z) rfl (fun j v hj=>by
  match j,hj with
  | 0,hj=>rw [←hj];exact c0
  | 1,hj=>rw [←hj];exact c1
  | 2,hj=>rw [←hj];exact c2
  | n+3,hj=>simp at hj)
 simp only [Instr.loadAt,Instr.sureAddr,Sem.run_bind,Sem.run_pure,Result.andThen_ok]at hl;have hp':a.tmps[p]?.getD undef = .pointer (some ⟨g,0,none⟩):=by rw [←Array.getD_eq_getD_getElem?];exact hp
 have ht':a.tmps[t]?.getD undef=u:=by rw [←Array.getD_eq_getD_getElem?];exact ht
 simp [results,h,hp',ht',asAddr,hl]
theorem zao(w:World):zaj w (.agg #[.bool false,.slice none 0 0,.slice none 0 0]) 0:=⟨_,_,rfl,zdD _ _ _,zdD _ _ _⟩
theorem znQ(w:World)(a b:Int)(ha1 : -9223372036854775808≤a)(ha2:a≤9223372036854775807)(hb1 : -9223372036854775808≤b)(hb2:b≤9223372036854775807)(hb0:b≠0) :
  CallsIn Fence.wide 0 Tryz.prog 13 #[.int .i64 a,.int .i64 b] w fun e w'=>∃v',e = .returned (.tuple #[v',.int .i64 0])∧zaj w' v' ((a:Rat)/(b:Rat))∧Below w.heap.size w w':=by
 refine callsIn_of_wp Tryz.func13 rfl trivial ?_ rfl;simp only [Tryz.ntmps13,zsj,zsk,zsl,Nat.reduceAdd,Nat.reduceSub,zsm,zsn,zso,zsp,zsq,zsr];have hb0':(b == 0)=false:=beq_false_of_ne hb0;gi_wp2_with (gi_at_call 16;refine stop ?_)
 unfold Stop;obtain⟨W,hW⟩:∃W,W=w.alloc (.cells #[.bool false,.slice none 0 0,.slice none 0 0] 27):=⟨_,rfl⟩;rw [←hW];have HK:Hid (Own3 w W):=by rw [hW];exact zel _ _ _ _ _
 have HE:Hid (Elem W w.heap.size 27):=zHi (by rw [hW];exact zaO _ _ _);clear hW;refine(zbm W a ha1 ha2).mono ?_;rintro e w2 ⟨v2,rfl,hr2,hB⟩;replace HE:=zHi (HE.out.below hB HK.out.2.1);replace HK:=zHi (HK.out.step hB);have HR2:=zHi hr2;clear hr2 hB;gi_wp2_with (gi_at_call 16;refine stop ?_)
 unfold Stop;refine(zbm w2 b hb1 hb2).mono ?_;rintro e w3 ⟨v3,rfl,hr3,hB⟩;replace HE:=zHi (HE.out.below hB HK.out.2.1);replace HK:=zHi (HK.out.step hB);replace HR2:=zHi (HR2.out.below hB);have HR3:=zHi hr3;clear hr3 hB;gi_wp2_with (gi_at_call 61;refine stop ?_)
 unfold Stop;refine(zgD w3 v2 v3 (a:Rat) (b:Rat) 3 HR2.out HR3.out (zbW (zd5 ha1 ha2) (by decide)) (zbW (zd5 hb1 hb2) (by decide)) (by rw [zei];exact hb0) (by decide)).mono ?_;rintro e w4 ⟨v4,rfl,hr4,hB⟩;replace HE:=zHi (HE.out.below hB HK.out.2.1);replace HK:=zHi (HK.out.step hB);have HR4:=zHi hr4;obtain⟨o,k,c,o2,k2,c2,rfl⟩:=hr4.form;obtain⟨x0,x1,x2,z0,z1,z2,y0,y1,y2⟩:=HK.out.cells;clear hr4 hB HR2 HR3;obtain⟨sg,hsg⟩:∃sg,decide (((a:Rat)/(b:Rat)).num<0)=sg:=⟨_,rfl⟩;rw [hsg]at HR4;rw [hsg];gi_wp2;refine zav rfl rfl w.heap.size rfl rfl z0 z1 z2 ?_;have hB:=HK.out.2.2;refine⟨_,rfl,?_,((hB.setCell (Nat.le_refl _) _).setCell (Nat.le_refl _) _).setCell (Nat.le_refl _) _⟩;exact((HR4.out.setElem HE.out (by decide)).setElem (HE.out.setCell _ _) (by decide)).setElem ((HE.out.setCell _ _).setCell _ _) (by decide)
def zsi(w:World):Prop:=∀w',Below w.heap.size w w'→CallsIn Fence.wide 0 Tryz.prog 19 #[] w' fun e w''=>e = .returned (.bool true)∧Below w'.heap.size w' w''
def zr5(R:Act→World→Prop):Exit→Act→World→Prop
 | .normal,a,w=>R a w
 | _,_,_=>False
theorem zdY{F:Fence}{n:Nat}{P:Program}{c:Code}{Q:Exit→Act→World→Prop}{a:Act}{w:World}(R:Act→World→Prop)(h:∀a' w',R a' w'→Q .normal a' w')(hr:c.wpIn F n P (zr5 R) a w):c.wpIn F n P Q a w:=
 wpIn_mono hr fun e a w hh=>by
  cases e with
  | normal=>exact h a w hh
  | _=>exact hh.elim
end Go.Num
namespace Go.Num
open Go.Eng Go.Shelf Go.RowKit Go.Proofs Go.Proofs.YtepakfjilnpodaaGreatDoor
structure Laid(w:World):Prop where
 pow:zbh w
 len:∃m,w.cell? ⟨0,0,none⟩=some (.int .i64 m)
theorem Laid.below{w w':World}(h:Laid w)(hb:Below w.heap.size w w'):Laid w':=by
 obtain⟨h1,m,h2⟩:=h;exact⟨h1.below hb,m,(hb.cell (World.block_lt_of_cell? _ _ h2)).trans h2⟩
theorem bltN_lt{a b:Nat}(h:Nat.blt a b=true):a<b:=Nat.le_of_ble_eq_true h
def decF:Nat→Nat→List UInt8→List UInt8
 | 0,_,acc=>acc
 | f+1,n,acc=>bif Nat.blt n 10 then UInt8.ofNat (48+n) :: acc else decF f (n/10) (UInt8.ofNat (48+n%10) :: acc)
theorem zpu:∀(f n:Nat) (acc:List UInt8),n<10^f→0<f→decF f n acc=Lib.decDigits n ++ acc
 | 0,n,acc,_,h=>by omega
 | f+1,n,acc,h,_=>by
  unfold decF
  cases e:Nat.blt n 10 with
  | true=>
   have:=bltN_lt e;rw [Lib.decDigits,dif_pos this];rfl
  | false=>
   have hn:¬n<10:=by
    intro h';have:Nat.blt n 10=true:=Nat.ble_eq_true_of_le h';rw [e]at this;cases this
   have hf:0<f:=by
    rcases Nat.eq_zero_or_pos f with h0|h0
    ·subst h0;simp at h;omega
    ·exact h0
   rw [cond_false,zpu f (n/10) _ (by rw [Nat.pow_succ]at h;omega) hf,Lib.decDigits.eq_def n,dif_neg hn,List.append_assoc];rfl
theorem zqr{n k f:Nat}(h:n<B^k)(hf:9*k≤f)(h0:0<f):decF f n []=Lib.decDigits n:=by
 rw [zpu f n [] (Nat.lt_of_lt_of_le (by rw [←pow9];exact h) (Nat.pow_le_pow_right (by decide) hf)) h0,List.append_nil]
theorem zlu(w:World)(s:ByteArray):Below w.heap.size w (Lib.bytesWorld w 5 s):=
 ⟨rfl,rfl,rfl,by rw [Lib.bytesWorld_size];omega,fun k hk=>Lib.bytesWorld_at_old w 5 s k hk⟩
theorem ziz{f:FuncId}(h:(match Tryz.prog.funcs[f]? with|some fn=>fn.body.isSome|none=>false)=true):∃fn:Func,Tryz.prog.funcs[f]? = some fn∧fn.body.isSome=true:=by
 split at h
 ·rename_i fn e;exact⟨fn,e,h⟩
 ·cases h
theorem zkJ:zdc Tryz.prog 139:=by
 refine⟨ziz (by kernel_rfl),fun args w => ?_⟩;refine CallsDIn.mono (callsDIn_of_wpSIn (R:=fun e u' w'=>e = .returned (.tuple #[])∧u' = .returning∧w'=w) Tryz.func139 rfl trivial fun c₀ cs hu => ?_) ?_
 ·obtain⟨T,hT⟩:∃T,args ++ Array.replicate (Tryz.f139.ntmps-args.size) undef=T:=⟨_,rfl⟩;have hsz:18≤T.size:=by
   rw [←hT];have:Tryz.f139.ntmps=18:=rfl;rw [this];simp
   omega
  rw [hT];clear hT;apply wpSIn_seq
  apply wpSIn_region
  have s6:6<T.size:=by omega
  have s2:2<T.size:=by omega
  have s7:7<T.size:=by omega
  have s8:8<T.size:=by omega
  simp [wpOpsSIn,go_sem,recoverD,hu,Exit.thenS,s6]
  apply wpSIn_seq
  apply wpSIn_region
  simp [wpOpsSIn,go_sem,Exit.thenS,s2,s7]
  refine wpSIn_cond (t:=false) (by simp [Act.eval,s8]) ?_;simp only [Bool.false_eq_true,if_false];refine wpSIn_of_wpIn rfl (wpIn_skip ?_)
  cases c₀
  simp_all [bodyPostS,results]
 ·rintro e u' w' ⟨rfl,rfl,rfl⟩;exact⟨⟨_,rfl⟩,rfl,rfl,Below.refl _ _⟩
theorem zkI:zdc Tryz.prog 133:=by
 refine⟨ziz (by kernel_rfl),fun args w => ?_⟩;refine CallsDIn.mono (callsDIn_of_wpSIn (R:=fun e u' w'=>e = .returned (.tuple #[])∧u' = .returning∧w'=w) Tryz.func133 rfl trivial fun c₀ cs hu => ?_) ?_
 ·obtain⟨T,hT⟩:∃T,args ++ Array.replicate (Tryz.f133.ntmps-args.size) undef=T:=⟨_,rfl⟩;have hsz:18≤T.size:=by
   rw [←hT];have:Tryz.f133.ntmps=20:=rfl;rw [this];simp
   omega
  rw [hT];clear hT;apply wpSIn_seq
  apply wpSIn_region
  have s6:6<T.size:=by omega
  have s2:2<T.size:=by omega
  have s7:7<T.size:=by omega
  have s8:8<T.size:=by omega
  simp [wpOpsSIn,go_sem,recoverD,hu,Exit.thenS,s6]
  apply wpSIn_seq
  apply wpSIn_region
  simp [wpOpsSIn,go_sem,Exit.thenS,s2,s7]
  refine wpSIn_cond (t:=false) (by simp [Act.eval,s8]) ?_;simp only [Bool.false_eq_true,if_false];refine wpSIn_of_wpIn rfl (wpIn_skip ?_)
  cases c₀
  simp_all [bodyPostS,results]
 ·rintro e u' w' ⟨rfl,rfl,rfl⟩;exact⟨⟨_,rfl⟩,rfl,rfl,Below.refl _ _⟩
theorem zox:zdc Tryz.prog 143:=by
 refine⟨ziz (by kernel_rfl),fun args w => ?_⟩;refine CallsDIn.mono (callsDIn_of_wpSIn (R:=fun e u' w'=>e = .returned (.tuple #[])∧u' = .returning∧w'=w) Tryz.func143 rfl trivial fun c₀ cs hu => ?_) ?_
 ·obtain⟨T,hT⟩:∃T,args ++ Array.replicate (Tryz.f143.ntmps-args.size) undef=T:=⟨_,rfl⟩;have hsz:18≤T.size:=by
   rw [←hT];have:Tryz.f143.ntmps=20:=rfl;rw [this];simp
   omega
  rw [hT];clear hT;apply wpSIn_seq
  apply wpSIn_region
  have s6:6<T.size:=by omega
  have s2:2<T.size:=by omega
  have s7:7<T.size:=by omega
  have s8:8<T.size:=by omega
  simp [wpOpsSIn,go_sem,recoverD,hu,Exit.thenS,s6]
  apply wpSIn_seq
  apply wpSIn_region
  simp [wpOpsSIn,go_sem,Exit.thenS,s2,s7]
  refine wpSIn_cond (t:=false) (by simp [Act.eval,s8]) ?_;simp only [Bool.false_eq_true,if_false];refine wpSIn_of_wpIn rfl (wpIn_skip ?_)
  cases c₀
  simp_all [bodyPostS,results]
 ·rintro e u' w' ⟨rfl,rfl,rfl⟩;exact⟨⟨_,rfl⟩,rfl,rfl,Below.refl _ _⟩
theorem zow:zdc Tryz.prog 146:=by
 refine⟨ziz (by kernel_rfl),fun args w => ?_⟩;refine CallsDIn.mono (callsDIn_of_wpSIn (R:=fun e u' w'=>e = .returned (.tuple #[])∧u' = .returning∧w'=w) Tryz.func146 rfl trivial fun c₀ cs hu => ?_) ?_
 ·obtain⟨T,hT⟩:∃T,args ++ Array.replicate (Tryz.f146.ntmps-args.size) undef=T:=⟨_,rfl⟩;have hsz:18≤T.size:=by
   rw [←hT];have:Tryz.f146.ntmps=20:=rfl;rw [this];simp
   omega
  rw [hT];clear hT;apply wpSIn_seq
  apply wpSIn_region
  have s6:6<T.size:=by omega
  have s2:2<T.size:=by omega
  have s7:7<T.size:=by omega
  have s8:8<T.size:=by omega
  simp [wpOpsSIn,go_sem,recoverD,hu,Exit.thenS,s6]
  apply wpSIn_seq
  apply wpSIn_region
  simp [wpOpsSIn,go_sem,Exit.thenS,s2,s7]
  refine wpSIn_cond (t:=false) (by simp [Act.eval,s8]) ?_;simp only [Bool.false_eq_true,if_false];refine wpSIn_of_wpIn rfl (wpIn_skip ?_)
  cases c₀
  simp_all [bodyPostS,results]
 ·rintro e u' w' ⟨rfl,rfl,rfl⟩;exact⟨⟨_,rfl⟩,rfl,rfl,Below.refl _ _⟩
theorem zov:zdc Tryz.prog 219:=by
 refine⟨ziz (by kernel_rfl),fun args w => ?_⟩;refine CallsDIn.mono (callsDIn_of_wpSIn (R:=fun e u' w'=>e = .returned (.tuple #[])∧u' = .returning∧w'=w) Tryz.func219 rfl trivial fun c₀ cs hu => ?_) ?_
 ·obtain⟨T,hT⟩:∃T,args ++ Array.replicate (Tryz.f219.ntmps-args.size) undef=T:=⟨_,rfl⟩;have hsz:18≤T.size:=by
   rw [←hT];have:Tryz.f219.ntmps=18:=rfl;rw [this];simp
   omega
  rw [hT];clear hT;apply wpSIn_seq
  apply wpSIn_region
  have s6:6<T.size:=by omega
  have s2:2<T.size:=by omega
  have s7:7<T.size:=by omega
  have s8:8<T.size:=by omega
  simp [wpOpsSIn,go_sem,recoverD,hu,Exit.thenS,s6]
  apply wpSIn_seq
  apply wpSIn_region
  simp [wpOpsSIn,go_sem,Exit.thenS,s2,s7]
  refine wpSIn_cond (t:=false) (by simp [Act.eval,s8]) ?_;simp only [Bool.false_eq_true,if_false];refine wpSIn_of_wpIn rfl (wpIn_skip ?_)
  cases c₀
  simp_all [bodyPostS,results]
 ·rintro e u' w' ⟨rfl,rfl,rfl⟩;exact⟨⟨_,rfl⟩,rfl,rfl,Below.refl _ _⟩
end Go.Num
namespace Go.Num
open Go.Eng Go.Shelf Go.RowKit Go.Sort Go.Proofs Go.Proofs.YtepakfjilnpodaaGreatDoor
def zdN(n:Nat):Bool:=decide (Lib.nDigits n≤20000)
theorem zdk(w:World)(v:Value)(n:Nat)(h:zaq w v n)(hn:n<B^100000)(htab:zbh w) :
  CallsIn Fence.wide 0 Tryz.prog 140 #[v] w fun e w'=>e = .returned (.bool (zdN n))∧Below w.heap.size w w':=by
 have HM:=zHi h;have HN:=zHi hn;have HTab:=zHi htab;obtain⟨k,hk,hl⟩:=h;obtain⟨o,c,rfl,_⟩:=hl.form;have HK:=zHi hk;clear hk hl hn htab;refine callsIn_of_wp Tryz.func140 rfl trivial ?_ rfl;simp only [Tryz.ntmps140,zsj,zsk,zsl,Nat.reduceAdd,Nat.reduceSub,zsm,zsn,zso,zsp,zsq,zsr];by_cases hk2:k≤2222
 ·have hkd:decide ((k:Int)≤2222)=true:=decide_eq_true (by omega);have HS:Hid (zdN n=true):=zHi (decide_eq_true (by
   rcases Nat.eq_zero_or_pos k with h0|h0
   ·subst h0;rw [HK.out.zero,Lib.nDigits_small (by decide)];decide
   ·have h1:=zem h0 HK.out.1;omega))
  gi_wp2;all_goals (first|go_returns|go_ret|go_end0)
  exact⟨by rw [HS.out];rfl,Below.refl _ _⟩
 ·have hkd:decide ((k:Int)≤2222)=false:=decide_eq_false (by omega);gi_wp2_with (gi_at_call 141;refine stop ?_)
  unfold Stop;refine(zce w _ n HM.out HN.out HTab.out).mono ?_;rintro e w2 ⟨rfl,hB⟩;obtain⟨S,hS⟩:∃S:ByteArray,(⟨(Lib.decDigits n).toArray⟩:ByteArray)=S:=⟨_,rfl⟩;have hsz:S.size=Lib.nDigits n:=by rw [←hS,zch,Lib.decDigits_length]
  rw [hS];obtain⟨d,hd⟩:∃d,Lib.nDigits n=d:=⟨_,rfl⟩;have HS:Hid (zdN n=decide (d≤20000)):=zHi (by unfold zdN;rw [hd]);rw [hd]at hsz;clear hS hd;gi_wp2;all_goals (first|go_returns|go_ret|go_end0)
  refine⟨?_,hB⟩;rw [HS.out];show Ending.returned (Value.bool (decide ((d:Int)≤20000)))=Ending.returned (Value.bool (decide (d≤20000)))
  rw [show decide ((d:Int)≤20000)=decide (d≤20000)from decide_eq_decide.2 (by omega)]
def zbR(q:Rat):Bool:=zdN q.num.natAbs && zdN (if q.den=1 then 0 else q.den)
theorem zjr(w:World)(v:Value)(q:Rat)(h:zaj w v q)(hq:zad q 100000)(hs:zbR q=true)(htab:zbh w) :
  CallsIn Fence.wide 0 Tryz.prog 74 #[v] w fun e w'=>∃v',e = .returned v'∧zaj w' v' q∧Below w.heap.size w w':=by
 have HR:=zHi h;obtain⟨vn,vd,rfl,hn,hd⟩:=h;have HN:=zHi hn;have HD:=zHi hd;obtain⟨sg,hsg⟩:∃sg,decide (q.num<0)=sg:=⟨_,rfl⟩;obtain⟨o1,k1,c1,rfl,_,_⟩:=zaG hn;obtain⟨o2,k2,c2,rfl,_,_⟩:=zaG hd;rw [hsg]at HR;rw [hsg];have hs1:zdN q.num.natAbs=true:=by unfold zbR at hs;rw [Bool.and_eq_true]at hs;exact hs.1
 have hs2:zdN (if q.den=1 then 0 else q.den)=true:=by unfold zbR at hs;rw [Bool.and_eq_true]at hs;exact hs.2
 have HS1:=zHi hs1;have HS2:=zHi hs2;obtain⟨W0,hW0⟩:∃W,W=w.alloc (.cells #[.bool sg,.slice o1 k1 c1,.slice o2 k2 c2] 27):=⟨_,rfl⟩;have h0s:W0.heap.size=w.heap.size+1:=by rw [hW0];simp
 obtain⟨W1,hW1⟩:∃W,W=W0.alloc (.cells #[.bool false,.slice none 0 0,.slice none 0 0] 27):=⟨_,rfl⟩;have HX:Hid (Box3 W1 w.heap.size (.bool sg) (.slice o1 k1 c1) (.slice o2 k2 c2)):=zHi (by rw [hW1];exact Box3.below (by rw [hW0];exact zaK _ _ _ _ _) (zaa _ _));have HK:Hid (Own3 W0 W1):=by rw [hW1];exact zel _ _ _ _ _
 have HE:Hid (Elem W1 W0.heap.size 27):=zHi (by rw [hW1];exact zaO _ _ _);have HB0:Hid (Below w.heap.size w W0):=zHi (by rw [hW0];exact zaa _ _);have HBW:Hid (Below w.heap.size w W1):=zHi (HB0.out.trans (HK.out.2.2.mono HB0.out.size));have HP:=zHi hq;have HTab:=zHi htab;have y0:=HX.out.c0;have y1:=HX.out.c1;have y2:=HX.out.c2;clear hn hd hsg hq htab hs hs1 hs2;refine callsIn_of_wp Tryz.func74 rfl trivial ?_ rfl;simp only [Tryz.ntmps74,zsj,zsk,zsl,Nat.reduceAdd,Nat.reduceSub,zsm,zsn,zso,zsp,zsq,zsr];gi_wp2_with (gi_at_call 140;refine stop ?_)
 unfold Stop;rw [←hW0,←hW1];obtain⟨g,hg⟩:∃g,w.heap.size=g:=⟨_,rfl⟩;rw [hg]at HX h0s y0 y1 y2;rw [hg];obtain⟨g2,hg2⟩:∃g2,W0.heap.size=g2:=⟨_,rfl⟩;have hg2':g+1=g2:=by omega
 have HE2:Hid (Elem W1 g2 27):=by rw [←hg2];exact HE
 have HA2:Hid (∃f,zag W1 g2 3 f):=by rw [←hg2];exact HK.out.1
 have hl2:g2<W1.heap.size:=by rw [←hg2];exact HK.out.2.1
 have hgw:w.heap.size≤g2:=by omega
 rw [hg2'];clear hW0 hW1 HE HK HB0 h0s hg2 hg;refine(zdk W1 _ _ (HN.out.below HBW.out) HP.out.1 (HTab.out.below HBW.out)).mono ?_;rintro e w2 ⟨rfl,hB⟩;replace HX:=zHi (HX.out.below hB);replace HBW:=zHi (HBW.out.trans (hB.mono HBW.out.size));replace HE2:=zHi (HE2.out.below hB hl2);replace HA2:Hid (∃f,zag w2 g2 3 f):=zHi (HA2.out.elim fun f hf=>⟨f,hf.below hl2 hB⟩);replace hl2:=Nat.lt_of_lt_of_le hl2 hB.size;rw [HS1.out];replace y0:=HX.out.c0;replace y1:=HX.out.c1;replace y2:=HX.out.c2;clear hB;gi_wp2_with (gi_at_call 140;refine stop ?_)
 unfold Stop;refine(zdk w2 _ _ (HD.out.below HBW.out) (by split;exact zar 100000;exact HP.out.2) (HTab.out.below HBW.out)).mono ?_;rintro e w3 ⟨rfl,hB⟩;replace HX:=zHi (HX.out.below hB);replace HBW:=zHi (HBW.out.trans (hB.mono HBW.out.size));replace HE2:=zHi (HE2.out.below hB hl2);replace HA2:Hid (∃f,zag w3 g2 3 f):=zHi (HA2.out.elim fun f hf=>⟨f,hf.below hl2 hB⟩);rw [HS2.out];replace y0:=HX.out.c0;replace y1:=HX.out.c1;replace y2:=HX.out.c2;replace HR:=zHi (HR.out.below HBW.out);obtain⟨f,hf⟩:=HA2.out;have z0:=(hf 0 (by omega)).1;have z1:=(hf 1 (by omega)).1;have z2:=(hf 2 (by omega)).1;have f0:=(hf 0 (by omega)).2;have f1:=(hf 1 (by omega)).2;have f2:=(hf 2 (by omega)).2;clear hB HA2;gi_wp2;refine zbe rfl rfl g2 rfl z0 z1 z2 ?_;refine⟨_,rfl,?_,((HBW.out.setCell hgw _).setCell hgw _).setCell hgw _⟩;exact((HR.out.setElem HE2.out (by decide)).setElem (HE2.out.setCell _ _) (by decide)).setElem ((HE2.out.setCell _ _).setCell _ _) (by decide)
end Go.Num
namespace Go.Num
open Go.Eng Go.Shelf Go.RowKit Go.Proofs Go.Proofs.YtepakfjilnpodaaGreatDoor
theorem l26:zfX Tryz.prog 28:=zfg (by kernel_rfl)
theorem zdo(w:World)(v:Value)(q:Rat)(h:zaj w v q)(hq:zad q 100000)(hs:zbR q=true)(htab:zbh w) :
  CallsIn Fence.wide 0 Tryz.prog 73 #[.func (.func 74) #[v] #[]] w fun e w'=>∃v',e = .returned (.tuple #[v',.int .i64 0])∧zaj w' v' q∧Below w.heap.size w w':=by
 have hmf:∀(fn:Fn) (first cap:Array Value) (w:World),(Instr.makeFunc fn first cap).run Tryz.prog w = .ok (.func fn first cap) w:=fun _ _ _ _=>rfl
 have HR:=zHi h;have HP:=zHi hq;have HS:=zHi hs;have HTab:=zHi htab;obtain⟨o,k,c,o2,k2,c2,rfl⟩:=h.form;clear h hq hs htab;gi_enter_defers Tryz.func73,Tryz.ntmps73
 gi_wp2_with (gi_at_call 74;refine stop ?_)
 unfold Stop;obtain⟨W0,hW0⟩:∃W,W=w.alloc (.cells #[.bool false,.slice none 0 0,.slice none 0 0] 27):=⟨_,rfl⟩;have h0s:W0.heap.size=w.heap.size+1:=by rw [hW0];simp
 obtain⟨W1,hW1⟩:∃W,W=W0.alloc (.cells #[.int .i64 0] 28):=⟨_,rfl⟩;rw [←hW0,←hW1];have HA:Hid (∃f,zag W1 w.heap.size 3 f):=zHi ⟨fun i => [.bool false,.slice none 0 0,.slice none 0 0].getD i (.bool false),by
  rw [hW1];refine zag.alloc ?_ (by omega) _;rw [hW0];exact zag.new _ _ _ fun i hi=>by
   have:i=0∨i=1∨i=2:=by omega
   rcases this with rfl|rfl|rfl <;> rfl⟩
 have HA2:Hid (∃f,zag W1 (w.heap.size+1) 1 f):=zHi ⟨fun i => .int .i64 0,by
  rw [hW1,←h0s];exact zag.new _ _ _ fun i hi=>by
   have:i=0:=by omega
   rw [this];rfl⟩
 have HE:Hid (Elem W1 w.heap.size 27):=zHi ((by rw [hW0];exact zaO _ _ _:Elem W0 w.heap.size 27).below (by rw [hW1];exact zaa _ _) (by omega));have HE2:Hid (Elem W1 (w.heap.size+1) 28):=zHi (by rw [hW1,←h0s];exact zaO _ _ _);have HBW:Hid (Below w.heap.size w W1):=zHi (by rw [hW1,hW0];exact(zaa _ _).alloc (by simp) _);have hl:w.heap.size+1<W1.heap.size:=by rw [hW1];simp;omega
 obtain⟨g,hg⟩:∃g,w.heap.size=g:=⟨_,rfl⟩;rw [hg]at HA HA2 HE HE2 hl;rw [hg];have hgw:w.heap.size≤g:=by omega
 clear hW0 hW1 h0s hg;refine(zjr W1 _ q (HR.out.below HBW.out) HP.out HS.out (HTab.out.below HBW.out)).mono ?_;rintro e w2 ⟨v2,rfl,hr2,hB⟩;obtain⟨p,l,d,p2,l2,d2,rfl⟩:=hr2.form;have HR2:=zHi hr2;replace HBW:=zHi (HBW.out.trans (hB.mono HBW.out.size));replace HE:=zHi (HE.out.below hB (by omega));replace HE2:=zHi (HE2.out.below hB (by omega));obtain⟨f,hf⟩:=HA.out;obtain⟨f2,hf2⟩:=HA2.out;have ha:=hf.below (by omega) hB;have ha2:=hf2.below (by omega) hB;have z0:=(ha 0 (by omega)).1;have z1:=(ha 1 (by omega)).1;have z2:=(ha 2 (by omega)).1;have y0:=(ha 0 (by omega)).2;have y1:=(ha 1 (by omega)).2;have y2:=(ha 2 (by omega)).2;have x0:=(ha2 0 (by omega)).1;have x1:=(ha2 0 (by omega)).2;have HA9:=zHi ha;have HA8:=zHi ha2;clear hr2 hB ha ha2 hf hf2 HA HA2;obtain⟨sg,hsg⟩:∃sg,decide (q.num<0)=sg:=⟨_,rfl⟩;rw [hsg]at HR2;rw [hsg];gi_wp2;have hB3:Below w.heap.size w ((((w2.setCell ⟨g,0,none⟩ (.bool sg)).setCell ⟨g,1,none⟩ (.slice p l d)).setCell ⟨g,2,none⟩ (.slice p2 l2 d2)).setCell ⟨g+1,0,none⟩ (.int .i64 0)):=
  (((HBW.out.setCell hgw _).setCell hgw _).setCell hgw _).setCell (by show w.heap.size≤g+1;omega) _
 refine leavesIn_cons (f:=139) (args:=#[.pointer (some ⟨g,0,none⟩),.pointer (some ⟨g+1,0,none⟩)]) (by simp) (by simp) (by simp [go_sem]) (by simp [Target.leads]) ?_;refine(zkJ.2 _ _).mono ?_;rintro e u' w'' ⟨⟨v3,rfl⟩,rfl,hh,hb⟩;refine⟨.tuple #[.agg #[.bool sg,.slice p l d,.slice p2 l2 d2],.int .i64 0],?_,_,rfl,?_,?_⟩
 ·have h3:=((HA9.out.set (i:=0) (by omega) (.bool sg)).set (i:=1) (by omega) (.slice p l d)).set (i:=2) (by omega) (.slice p2 l2 d2);have n3:∀j:Nat,(⟨g,j,none⟩:Addr)≠⟨g+1,0,none⟩:=fun j e=>by injection e with e _ _;omega
  have n4:∀j:Nat,(⟨g+1,0,none⟩:Addr)≠⟨g,j,none⟩:=fun j e=>by injection e with e _ _;omega
  have b3:Box3 ((((w2.setCell ⟨g,0,none⟩ (.bool sg)).setCell ⟨g,1,none⟩ (.slice p l d)).setCell ⟨g,2,none⟩ (.slice p2 l2 d2)).setCell ⟨g+1,0,none⟩ (.int .i64 0)) g (.bool sg) (.slice p l d) (.slice p2 l2 d2):=fun j v hj=>by
   rw [World.cell?_setCell_other _ _ _ _ (n4 j)];match j,hj with
   | 0,hj=>rw [←hj];exact(h3 0 (by omega)).1
   | 1,hj=>rw [←hj];exact(h3 1 (by omega)).1
   | 2,hj=>rw [←hj];exact(h3 2 (by omega)).1
   | n+3,hj=>simp at hj
  have c3:((((w2.setCell ⟨g,0,none⟩ (.bool sg)).setCell ⟨g,1,none⟩ (.slice p l d)).setCell ⟨g,2,none⟩ (.slice p2 l2 d2)).setCell ⟨g+1,0,none⟩ (.int .i64 0)).cell? ⟨g+1,0,none⟩=some (.int .i64 0):=
   World.cell?_setCell_same _ _ _ (by rw [World.cell?_setCell_other _ _ _ _ (n3 2),World.cell?_setCell_other _ _ _ _ (n3 1),World.cell?_setCell_other _ _ _ _ (n3 0)];exact x0)
  have e1:=l25 g [.bool sg,.slice p l d,.slice p2 l2 d2] w'' rfl (b3.below hb);have e2:=l26 ⟨g+1,0,none⟩ _ w'' ((hb.cell (World.block_lt_of_cell? _ _ c3)).trans c3);simp only [Instr.loadAt,Instr.sureAddr,Sem.run_bind,Sem.run_pure,Result.andThen_ok]at e1 e2;simp [results,asAddr,e1,e2]
 ·have h4:=(((HR2.out.setElem (i:=0) (u:=.bool sg) HE.out (by decide)).setElem (i:=1) (u:=.slice p l d) (HE.out.setCell _ _) (by decide)).setElem (i:=2) (u:=.slice p2 l2 d2) ((HE.out.setCell _ _).setCell _ _) (by decide)).setElem (i:=0) (u:=.int .i64 0) (((HE2.out.setCell _ _).setCell _ _).setCell _ _) (by decide);exact h4.below hb
 ·exact hB3.trans (hb.mono hB3.size)
theorem zjH(w:World)(va vb:Value)(p q:Rat)(L:Nat)(ha:zaj w va p)(hb:zaj w vb q)(hp:zad p L)(hq:zad q L)(hL:L≤1000000)(hr:zad (p+q) 100000)(hs:zbR (p+q)=true)(htab:zbh w) :
  CallsIn Fence.wide 0 Tryz.prog 17 #[va,vb] w fun e w'=>∃v',e = .returned (.tuple #[v',.int .i64 0])∧zaj w' v' (p+q)∧Below w.heap.size w w':=by
 have HA:=zHi ha;have HB:=zHi hb;have HP:=zHi hp;have HQ:=zHi hq;have HR:=zHi hr;have HS:=zHi hs;have HTab:=zHi htab;obtain⟨o1,k1,c1,o2,k2,c2,rfl⟩:=ha.form;obtain⟨o3,k3,c3,o4,k4,c4,rfl⟩:=hb.form;obtain⟨sa,hsa⟩:∃sa,decide (p.num<0)=sa:=⟨_,rfl⟩;obtain⟨sb,hsb⟩:∃sb,decide (q.num<0)=sb:=⟨_,rfl⟩;rw [hsa]at HA;rw [hsb]at HB;rw [hsa,hsb];clear ha hb hp hq hr hs htab hsa hsb;refine callsIn_of_wp Tryz.func17 rfl trivial ?_ rfl;simp only [Tryz.ntmps17,zsj,zsk,zsl,Nat.reduceAdd,Nat.reduceSub,zsm,zsn,zso,zsp,zsq,zsr];gi_wp2_with (gi_at_call 71;refine stop ?_)
 unfold Stop;obtain⟨W,hW⟩:∃W,W=((w.alloc (Obj.cells #[Value.bool sa,.slice o1 k1 c1,.slice o2 k2 c2] 27)).alloc (Obj.cells #[Value.bool sb,.slice o3 k3 c3,.slice o4 k4 c4] 27)).alloc (Obj.cells #[Value.bool false,Value.slice none 0 0,Value.slice none 0 0] 27):=⟨_,rfl⟩;rw [←hW];have HK:Hid (zdT w W w.heap.size (.bool sa) (.slice o1 k1 c1) (.slice o2 k2 c2) (.bool sb) (.slice o3 k3 c3) (.slice o4 k4 c4)):=by
  rw [hW];exact zcO w _ _ _ _ _ _ _ _ _ _
 obtain⟨g,hg⟩:∃g,w.heap.size=g:=⟨_,rfl⟩;rw [hg]at HK;rw [hg];clear hW;refine(zgC W _ _ p q L (HA.out.below HK.out.below) (HB.out.below HK.out.below) HP.out HQ.out hL).mono ?_;rintro e w2 ⟨v2,rfl,hr2,hB⟩;replace HK:=zHi (HK.out.step hB);have HR2:=zHi hr2;clear hr2 hB;gi_wp2_with (gi_at_call 73;refine stop ?_)
 unfold Stop;refine(zdo w2 v2 (p+q) HR2.out HR.out HS.out (HTab.out.below HK.out.below)).mono ?_;rintro e w3 ⟨v3,rfl,hr3,hB⟩;replace HK:=zHi (HK.out.step hB);obtain⟨o5,k5,c5,o6,k6,c6,rfl⟩:=hr3.form;have HR3:=zHi hr3;clear hr3 hB HR2;obtain⟨sg,hsg⟩:∃sg,decide ((p+q).num<0)=sg:=⟨_,rfl⟩;rw [hsg]at HR3;rw [hsg];obtain⟨f,hf⟩:=HK.out.res;have z0:=(hf 0 (by omega)).1;have z1:=(hf 1 (by omega)).1;have z2:=(hf 2 (by omega)).1;have y0:=(hf 0 (by omega)).2;have y1:=(hf 1 (by omega)).2;have y2:=(hf 2 (by omega)).2;have HE:=zHi HK.out.el;have hle:w.heap.size≤g+1+1:=by omega
 clear hf;gi_wp2;refine zav rfl rfl (g+1+1) rfl rfl z0 z1 z2 ?_;refine⟨_,rfl,?_,((HK.out.below.setCell hle _).setCell hle _).setCell hle _⟩;exact((HR3.out.setElem HE.out (by decide)).setElem (HE.out.setCell _ _) (by decide)).setElem ((HE.out.setCell _ _).setCell _ _) (by decide)
theorem zjn(w:World)(va vb:Value)(p q:Rat)(L:Nat)(ha:zaj w va p)(hb:zaj w vb q)(hp:zad p L)(hq:zad q L)(hL:L≤1000000)(hr:zad (p*q) 100000)(hs:zbR (p*q)=true)(htab:zbh w) :
  CallsIn Fence.wide 0 Tryz.prog 44 #[va,vb] w fun e w'=>∃v',e = .returned (.tuple #[v',.int .i64 0])∧zaj w' v' (p*q)∧Below w.heap.size w w':=by
 have HA:=zHi ha;have HB:=zHi hb;have HP:=zHi hp;have HQ:=zHi hq;have HR:=zHi hr;have HS:=zHi hs;have HTab:=zHi htab;obtain⟨o1,k1,c1,o2,k2,c2,rfl⟩:=ha.form;obtain⟨o3,k3,c3,o4,k4,c4,rfl⟩:=hb.form;obtain⟨sa,hsa⟩:∃sa,decide (p.num<0)=sa:=⟨_,rfl⟩;obtain⟨sb,hsb⟩:∃sb,decide (q.num<0)=sb:=⟨_,rfl⟩;rw [hsa]at HA;rw [hsb]at HB;rw [hsa,hsb];clear ha hb hp hq hr hs htab hsa hsb;refine callsIn_of_wp Tryz.func44 rfl trivial ?_ rfl;simp only [Tryz.ntmps44,zsj,zsk,zsl,Nat.reduceAdd,Nat.reduceSub,zsm,zsn,zso,zsp,zsq,zsr];gi_wp2_with (gi_at_call 111;refine stop ?_)
 unfold Stop;obtain⟨W,hW⟩:∃W,W=((w.alloc (Obj.cells #[Value.bool sa,.slice o1 k1 c1,.slice o2 k2 c2] 27)).alloc (Obj.cells #[Value.bool sb,.slice o3 k3 c3,.slice o4 k4 c4] 27)).alloc (Obj.cells #[Value.bool false,Value.slice none 0 0,Value.slice none 0 0] 27):=⟨_,rfl⟩;rw [←hW];have HK:Hid (zdT w W w.heap.size (.bool sa) (.slice o1 k1 c1) (.slice o2 k2 c2) (.bool sb) (.slice o3 k3 c3) (.slice o4 k4 c4)):=by
  rw [hW];exact zcO w _ _ _ _ _ _ _ _ _ _
 obtain⟨g,hg⟩:∃g,w.heap.size=g:=⟨_,rfl⟩;rw [hg]at HK;rw [hg];clear hW;refine(zhy W _ _ p q L (HA.out.below HK.out.below) (HB.out.below HK.out.below) HP.out HQ.out hL).mono ?_;rintro e w2 ⟨v2,rfl,hr2,hB⟩;replace HK:=zHi (HK.out.step hB);have HR2:=zHi hr2;clear hr2 hB;gi_wp2_with (gi_at_call 73;refine stop ?_)
 unfold Stop;refine(zdo w2 v2 (p*q) HR2.out HR.out HS.out (HTab.out.below HK.out.below)).mono ?_;rintro e w3 ⟨v3,rfl,hr3,hB⟩;replace HK:=zHi (HK.out.step hB);obtain⟨o5,k5,c5,o6,k6,c6,rfl⟩:=hr3.form;have HR3:=zHi hr3;clear hr3 hB HR2;obtain⟨sg,hsg⟩:∃sg,decide ((p*q).num<0)=sg:=⟨_,rfl⟩;rw [hsg]at HR3;rw [hsg];obtain⟨f,hf⟩:=HK.out.res;have z0:=(hf 0 (by omega)).1;have z1:=(hf 1 (by omega)).1;have z2:=(hf 2 (by omega)).1;have y0:=(hf 0 (by omega)).2;have y1:=(hf 1 (by omega)).2;have y2:=(hf 2 (by omega)).2;have HE:=zHi HK.out.el;have hle:w.heap.size≤g+1+1:=by omega
 clear hf;gi_wp2;refine zav rfl rfl (g+1+1) rfl rfl z0 z1 z2 ?_;refine⟨_,rfl,?_,((HK.out.below.setCell hle _).setCell hle _).setCell hle _⟩;exact((HR3.out.setElem HE.out (by decide)).setElem (HE.out.setCell _ _) (by decide)).setElem ((HE.out.setCell _ _).setCell _ _) (by decide)
theorem zqZ{q:Rat}(h:q.num≠0):sgnR q≠0:=by
 unfold sgnR;split
 ·decide
 ·decide
theorem zjg(w:World)(va vb:Value)(p q:Rat)(L:Nat)(ha:zaj w va p)(hb:zaj w vb q)(hp:zad p L)(hq:zad q L)(hq0:q.num≠0)(hL:L≤1000000)(hr:zad (p/q) 100000)(hs:zbR (p/q)=true)(htab:zbh w) :
  CallsIn Fence.wide 0 Tryz.prog 45 #[va,vb] w fun e w'=>∃v',e = .returned (.tuple #[v',.int .i64 0])∧zaj w' v' (p/q)∧Below w.heap.size w w':=by
 have HA:=zHi ha;have HB:=zHi hb;have HP:=zHi hp;have HQ:=zHi hq;have HR:=zHi hr;have HS:=zHi hs;have HTab:=zHi htab;obtain⟨o1,k1,c1,o2,k2,c2,rfl⟩:=ha.form;obtain⟨o3,k3,c3,o4,k4,c4,rfl⟩:=hb.form;obtain⟨sa,hsa⟩:∃sa,decide (p.num<0)=sa:=⟨_,rfl⟩;obtain⟨sb,hsb⟩:∃sb,decide (q.num<0)=sb:=⟨_,rfl⟩;rw [hsa]at HA;rw [hsb]at HB;rw [hsa,hsb];clear ha hb hp hq hr hs htab hsa hsb;refine callsIn_of_wp Tryz.func45 rfl trivial ?_ rfl;simp only [Tryz.ntmps45,zsj,zsk,zsl,Nat.reduceAdd,Nat.reduceSub,zsm,zsn,zso,zsp,zsq,zsr];have hsg0:(sgnR q == 0)=false:=beq_false_of_ne (zqZ hq0);gi_wp2_with (gi_at_call 25;refine stop ?_)
 unfold Stop;obtain⟨W,hW⟩:∃W,W=((w.alloc (Obj.cells #[Value.bool sa,.slice o1 k1 c1,.slice o2 k2 c2] 27)).alloc (Obj.cells #[Value.bool sb,.slice o3 k3 c3,.slice o4 k4 c4] 27)).alloc (Obj.cells #[Value.bool false,Value.slice none 0 0,Value.slice none 0 0] 27):=⟨_,rfl⟩;rw [←hW];have HK:Hid (zdT w W w.heap.size (.bool sa) (.slice o1 k1 c1) (.slice o2 k2 c2) (.bool sb) (.slice o3 k3 c3) (.slice o4 k4 c4)):=by
  rw [hW];exact zcO w _ _ _ _ _ _ _ _ _ _
 obtain⟨g,hg⟩:∃g,w.heap.size=g:=⟨_,rfl⟩;rw [hg]at HK;rw [hg];clear hW;refine(zaT W _ q (HB.out.below HK.out.below)).mono ?_;rintro e W2 ⟨rfl,hB⟩;replace HK:=zHi (HK.out.step hB);have y0:=HK.out.bx.c0;have y1:=HK.out.bx.c1;have y2:=HK.out.bx.c2;have z0:=HK.out.by'.c0;have z1:=HK.out.by'.c1;have z2:=HK.out.by'.c2;clear hB;gi_wp2_with (gi_at_call 61;refine stop ?_)
 unfold Stop;refine(zgD W2 _ _ p q L (HA.out.below HK.out.below) (HB.out.below HK.out.below) HP.out HQ.out hq0 hL).mono ?_;rintro e w2 ⟨v2,rfl,hr2,hB⟩;replace HK:=zHi (HK.out.step hB);have HR2:=zHi hr2;clear hr2 hB y0 y1 y2 z0 z1 z2;gi_wp2_with (gi_at_call 73;refine stop ?_)
 unfold Stop;refine(zdo w2 v2 (p/q) HR2.out HR.out HS.out (HTab.out.below HK.out.below)).mono ?_;rintro e w3 ⟨v3,rfl,hr3,hB⟩;replace HK:=zHi (HK.out.step hB);obtain⟨o5,k5,c5,o6,k6,c6,rfl⟩:=hr3.form;have HR3:=zHi hr3;clear hr3 hB HR2;obtain⟨sg,hsg⟩:∃sg,decide ((p/q).num<0)=sg:=⟨_,rfl⟩;rw [hsg]at HR3;rw [hsg];obtain⟨f,hf⟩:=HK.out.res;have z0:=(hf 0 (by omega)).1;have z1:=(hf 1 (by omega)).1;have z2:=(hf 2 (by omega)).1;have y0:=(hf 0 (by omega)).2;have y1:=(hf 1 (by omega)).2;have y2:=(hf 2 (by omega)).2;have HE:=zHi HK.out.el;have hle:w.heap.size≤g+1+1:=by omega
 clear hf;gi_wp2;refine zav rfl rfl (g+1+1) rfl rfl z0 z1 z2 ?_;refine⟨_,rfl,?_,((HK.out.below.setCell hle _).setCell hle _).setCell hle _⟩;exact((HR3.out.setElem HE.out (by decide)).setElem (HE.out.setCell _ _) (by decide)).setElem ((HE.out.setCell _ _).setCell _ _) (by decide)
end Go.Num
