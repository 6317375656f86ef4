/-
  The law NumSolves answers true.
  Conditions: the tables lie in memory; the rows of strings lie in memory.
-/
import Derived.Test.YtoamcgjbelhnkaaGreatDoorSAA
import Derived.Test.YtoamcgjbelhnkaaGreatDoorSAM
set_option maxRecDepth 100000
set_option maxHeartbeats 16000000
namespace Go.Num
open Go.Eng Go.Shelf Go.RowKit Go.Sort Go.Proofs Go.Proofs.YtoamcgjbelhnkaaGreatDoor
attribute [local go_sem] Oper.semAt_some
theorem zmI(q:Rat):zbq q 20 = !zbf q:=by unfold zbf;rw [Bool.not_not]
def zfj(bs:List Rat)(m k:Nat):Int:=if bs.length≠m then 7 else if(bs.take k).any zbf then 11 else 0
theorem zkD{bs:List Rat}{k:Nat}{q:Rat}(h:bs[k]? = some q):(bs.take (k+1)).any zbf=((bs.take k).any zbf || zbf q):=by
 rw [List.take_add_one,h,List.any_append];simp
theorem zh0{m N:Nat}{Q:Nat→Nat→Rat}{bs:List Rat}(h:∀i j,i<m→j<N→Dig (Q i j))(hl:bs.length=m)(ha:bs.any zbf=false):∀i j,i<m→j<N+1→Dig (zbr Q (fun i=>bs.getD i 0) N i j):=fun i j hi hj=>by
 unfold zbr;split
 ·rename_i hjn;exact h i j hi hjn
 ·refine zsb ?_;have hq:bs[i]? = some bs[i]:=List.getElem?_eq_getElem (by omega);show zbf (bs.getD i 0)=false
  rw [show bs.getD i 0=bs[i]by simp [show i<bs.length by omega]]
  cases e:zbf bs[i]with
  | false=>rfl
  | true=>rw [List.any_eq_true.2 ⟨bs[i],List.getElem_mem _,e⟩]at ha;cases ha
structure SumS(w0:World)(g:Nat)(q:Rat)(v9 v10:Value)(bs:List Rat)(w:World):Prop where
 below:Below w0.heap.size w0 w
 box:∃x0 x1 x2 x3,OBox w g 34 [x0,x1,x2,x3]∧QAt w (.agg #[x0,x1,x2,x3]) q
 o9:OwnR w w0.heap.size 34 4 IQ v9 bs
 o10:OwnR w w0.heap.size 25 3 IR v10 bs
 lt:∀b,v9.ownBlock=some b→b<g
 ge:w0.heap.size≤g
theorem SumS.under{w0 w w':World}{g:Nat}{q:Rat}{v9 v10:Value}{bs:List Rat}(h:SumS w0 g q v9 v10 bs w)(hb:Below w.heap.size w w'):SumS w0 g q v9 v10 bs w':=by
 obtain⟨x0,x1,x2,x3,h1,h2⟩:=h.box;exact⟨h.below.trans (hb.mono h.below.size),⟨x0,x1,x2,x3,h1.below hb,h2.below hb⟩,h.o9.below hb (IQ.below hb),h.o10.below hb (IR.below hb),h.lt,h.ge⟩
theorem SumS.store{w0 w:World}{g:Nat}{q q':Rat}{v9 v10:Value}{bs:List Rat}(h:SumS w0 g q v9 v10 bs w){y0 y1 y2 y3:Value}(hq:QAt w (.agg #[y0,y1,y2,y3]) q'):SumS w0 g q' v9 v10 bs (w.setCells g 0 [y0,y1,y2,y3])∧w.there g 0 4:=by
 obtain⟨x0,x1,x2,x3,h1,h2⟩:=h.box;have hb:=zai g [y0,y1,y2,y3] 0 w;have hk:=hb.kept h1.el rfl;refine⟨⟨zax h.ge _ _ _ h.below,⟨y0,y1,y2,y3,h1.store (ys:=[y0,y1,y2,y3]) rfl,hq.setBox h1.el rfl⟩,h.o9.keep (fun b hb' hl=>hb.blk b hl (fun e=>by have:=h.lt b hb';omega)) (fun b r q=>QAt.kept' (show QAt w (.agg r.toArray) b from q) hk),h.o10.keep (fun b hb' hl=>hb.blk b hl (fun e => ?_)) (fun b r q=>zau.kept (show zau w (.agg r.toArray) b from q) hk),h.lt,h.ge⟩,h1.there⟩;obtain⟨_,cur,hc⟩:=h.o10.blk hb';exact h1.el.ne ⟨cur,_,hc⟩ (by decide) e.symm
theorem zoB{F:Fence}{n:Nat}{P:Program}{c1 c2 c3 c4 c5 c6 c7 c8 c9 lp:Code}{id:Nat}{Q:Exit→CAct→World→Prop}{a:CAct}{w:World}(R:CAct→World→Prop)(tail:∀A W,R A W→lp.wpIn F n P (Exit.inBlock id Q) A W)
  (h:(∀A W,R A W→lp.wpIn F n P (Exit.inBlock id Q) A W)→Code.wpIn F n P (Code.seq c1 (Code.seq c2 (Code.seq c3 (Code.seq c4 (Code.seq c5 (Code.seq c6 (Code.seq c7 (Code.seq c8 (Code.seq c9 (Code.block id lp)))))))))) Q a w):Code.wpIn F n P (Code.seq c1 (Code.seq c2 (Code.seq c3 (Code.seq c4 (Code.seq c5 (Code.seq c6 (Code.seq c7 (Code.seq c8 (Code.seq c9 (Code.block id lp)))))))))) Q a w:=h tail
theorem OV.rem3{K:World→Prop}{ks:List Nat}{nt:Nat}{ops:Array Oper}{bs bars r:List Nat}{i:Nat}{a:CAct}{ov:List (Tmp × Value)}{w:World}{Q:CAct→World→Prop}{t t2:TypeId}{x:Operand}{j:Nat}{d:Tmp}{ty:TypeId}{ps:String}{af:Array Edge}
  (ho:ops[i]? = some {op:=.binOp .rem t x (.const (.int .i64 3)) t2,dst:=some d,type:=ty,pos:=ps,after:=af,guard:=none}) (hb:bars.contains i=false) (hd:Nat.blt d nt=true)
  (hx:Go.Eng.look a ov x = .int .i64 (j:Int)) (h:OV K ks Tryz.prog nt ops bs bars Q r a ((d,.int .i64 ((j:Int)%3)) :: ov) w):OV K ks Tryz.prog nt ops bs bars Q (i :: r) a ov w:=
 OV.read _ ho rfl hb hd (fun w' _=>by
  have hc:Go.Eng.look a ov (.const (.int .i64 3)) = .int .i64 3:=by unfold Go.Eng.look;rfl
  simp [execOp,hx,hc,binOp,go_sem]
  exact Int.tmod_eq_emod_of_nonneg (by omega)) h
theorem znD{z:Int}{L:Nat}(h : -1≤z∧z≤1)(hL:1≤L:=by decide):zan (z:Rat) L:=by
 have h1:zan (z:Rat) 1:=by
  have:z = -1∨z=0∨z=1:=by omega
  rcases this with e|e|e <;> rw [e] <;> exact⟨by decide,by decide⟩
 exact h1.mono hL
theorem zau.formS{w:World}{v:Value}{q:Rat}(h:zau w v q):∃(s:Bool) (o1:Option Addr) (k1 c1:Nat) (o2:Option Addr) (k2 c2:Nat),v = .agg #[.bool s,.slice o1 k1 c1,.slice o2 k2 c2]:=by
 obtain⟨o1,k1,c1,o2,k2,c2,e⟩:=h.form;exact⟨_,o1,k1,c1,o2,k2,c2,e⟩
theorem ziu(w:World)(v vr:Value)(n:Nat)(rv:Nat→Value)(m:Nat→Nat)(s:Nat→Nat→ByteArray)(h:zsV w v n rv m s)(nr:Nat)(sr:Nat→ByteArray)(hr:zmc w vr nr fun j => .string (sr j))(hrs:∀j,j<nr→(sr j).size≤9223372036854775807)(hL:Laid w) :
  CallsIn Fence.wide 0 Tryz.prog 5 #[v,vr] w fun e w'=>e = .returned (.bool true)∧Below w.heap.size w w':=by
 obtain⟨o,c,rfl,hn9,_⟩:=h.top;have hr2:=hr;obtain⟨orr,cr,rfl,hnr9,_⟩:=hr;have HT:=zHi h;have HRD:=zHi hr2;have HRS:=zHi hrs;have HL:=zHi hL;obtain⟨M,hM⟩:∃M,zcQ m s 8 (min n 8)=M:=⟨_,rfl⟩;have HM:=zHi hM;clear h hr2 hrs hL hM;refine callsIn_of_wp Tryz.func5 rfl trivial ?_ rfl;simp only [Tryz.ntmps5,ztH,ztI,ztJ,Nat.reduceAdd,Nat.reduceSub,ztK,ztL,ztM,ztN,ztO,ztP];gi_wp2_with (gi_at_call 25;refine stop ?_)
 refine(zlw w _ n rv m s 8 HT.out (by decide) HL.out).mono ?_;rintro e w1 ⟨v1,v2,rfl,h1,h2,hB⟩;rw [HM.out]at h1 h2;have H1:=zHi h1;have H2:=zHi h2;have HB:=zHi hB;clear h1 h2 hB;gi_wp2_with (gi_at_call 26;refine stop ?_)
 refine(zle w1 v1 M H1.out).mono ?_;rintro e w2 ⟨rfl,hB⟩;replace H1:=zHi (zad.below H1.out hB (zcJ.below hB));replace H2:=zHi (zad.below H2.out hB (zbQ.below hB));replace HB:=zBt HB hB;clear hB;obtain⟨cc,hcc⟩:∃cc,zbi M=cc:=⟨_,rfl⟩;rw [hcc];by_cases hc0:cc=0
 ·subst hc0;obtain⟨mm,N,Q,hMQ,hm0,hm8,hN0,hN8,hD⟩:=rect hcc;rw [hMQ]at H1 H2 hcc;have HD:=zHi hD;have HC:=zHi hcc;clear hD hcc;have hS:=zpO hm8 hN0 (by omega) HD.out (Nat.le_refl N);have HS:=zHi hS;obtain⟨KL,hKL⟩:∃KL,kern (zbS (pRun mm Q N).P (zaF mm Q N)) (zaF mm Q N) N N=KL:=⟨_,rfl⟩;have HKS:=zHi (zqu hS);have HKL:Hid (∀l∈KL,∀q∈l,zan q 20000):=zHi (by
   rw [←hKL];exact zsE (by decide) (fun i c hi hc=>(hS.fine.unit i c (by rw [zdl]at hi;have:=(zf3 mm Q N).1;omega) hc).mono (by decide)))
  rw [hKL]at HKS;gi_wp2_with (gi_at_call 27;refine stop ?_)
  refine(zlE w2 v2 mm N Q H2.out hm0 hN0 (by omega) HC.out (zlW HD.out) (HL.out.pow.below HB.out) hS.fine).mono ?_;rintro e w3 ⟨v3,rfl,hk3,hB⟩;rw [hKL]at hk3;replace H1:=zHi (zad.below H1.out hB (zcJ.below hB));replace H2:=zHi (zad.below H2.out hB (zbQ.below hB));replace HB:=zBt HB hB;have HK3:=zHi hk3;clear hB hk3 hS hKL;gi_wp2_with (gi_at_call 29;refine stop ?_)
  refine(zhp w3 v1 Q mm N 700 _ rfl H1.out hm0 hN0 (by omega) (zsO HD.out) (by decide) HS.out.sizes (zpN HS.out)).mono ?_;rintro e w4 ⟨v4,rfl,hk4,hB⟩;rw [HKS.out]at hk4;replace H1:=zHi (zad.below H1.out hB (zcJ.below hB));replace H2:=zHi (zad.below H2.out hB (zbQ.below hB));replace HB:=zBt HB hB;have HK4:=zHi (zad.below HK3.out hB (zbQ.below hB));have HK5:=zHi hk4;clear hB hk4;gi_wp2_with (gi_at_call 28;refine stop ?_)
  refine(zoJ w4 v3 v4 KL HK4.out HK5.out HKL.out (HL.out.pow.below HB.out)).mono ?_;rintro e w5 ⟨rfl,hB⟩;replace H1:=zHi (zad.below H1.out hB (zcJ.below hB));replace H2:=zHi (zad.below H2.out hB (zbQ.below hB));replace HB:=zBt HB hB;obtain⟨o1,k1,rfl,_⟩:=zad.form H1.out;obtain⟨o2,k2,rfl,_⟩:=zad.form H2.out;rw [zal]at H1 H2;rw [zal];clear hB HK3 HK4 HK5 HKL HKS;gi_wp2;obtain⟨R1,hR1⟩:∃R:Exit→CAct→World→Prop,∀e A W,R e A W↔(e = .exit 0∧∃(j:Nat) (bs:List Rat) (x9 x10 x12 x48 x49 x50 x51 x52 x53 x54 x55 x56 x57 x58 x59 x60 x61 x62 x63 x64 x65 x66 x67 x68 x69 x70 x71:Value),A={tmps:=#[Value.slice o n c,Value.slice orr nr cr,undef,undef,Value.bool false,Value.slice o1 mm k1,Value.slice o2 mm k2,v3,Value.int IntKind.i64 0,x9,x10,Value.int IntKind.i64 (j:Int),x12,undef,undef,undef,undef,undef,undef,undef,undef,undef,undef,undef,undef,Value.tuple #[Value.slice o1 mm k1,Value.slice o2 mm k2],Value.slice o n c,Value.tuple #[Value.slice o1 mm k1,Value.slice o2 mm k2],Value.slice o1 mm k1,Value.slice o2 mm k2,Value.slice o1 mm k1,Value.int IntKind.i64 0,Value.bool false,undef,Value.tuple #[v3,Value.int IntKind.i64 0],Value.slice o2 mm k2,Value.tuple #[v3,Value.int IntKind.i64 0],v3,Value.int IntKind.i64 0,Value.int IntKind.i64 0,Value.bool false,Value.bool false,v3,Value.slice o1 mm k1,v4,Value.bool true,Value.bool false,Value.bool false,x48,x49,x50,x51,x52,x53,x54,x55,x56,x57,x58,x59,x60,x61,x62,x63,x64,x65,x66,x67,x68,x69,x70,x71,undef,undef,undef,undef,undef,undef,undef,undef,undef,undef,undef,undef,undef,undef,undef,undef,undef,undef,undef,undef,undef,undef,undef,undef,undef,undef,undef,undef,undef,undef,undef,undef,undef,undef,undef,undef,undef,undef,undef,undef,undef,undef,undef,undef,undef,undef,undef,undef,undef,undef,undef,undef,undef,undef,undef,undef,undef,undef,undef,undef,undef,undef,undef,undef,undef,undef,undef,undef,undef,undef,undef,undef,undef,undef,undef,undef,undef,undef,undef,undef,undef,undef,undef,undef,undef,undef,undef,undef,undef,undef,undef,undef,undef,undef,undef,undef,undef,undef,undef,undef,undef,undef,undef,undef,undef,undef,undef,undef,undef,undef,undef,undef,undef,undef,undef,undef],defers:=[]}∧RowQ W x9 bs∧RowR W x10 bs∧bs.length≤9∧(∀q∈bs,zb5 q=true)∧Below w5.heap.size w5 W):=⟨_,fun _ _ _=>Iff.rfl⟩;have HR1:=zHi hR1;clear hR1;refine wpIn_mono (Q:=R1) ?lp ?rest
  case lp=>
   gi_loopw [9,10,11] (fun x9 x10 x11 wr=>∃j:Nat,x11 = .int .i64 (j:Int)∧j≤nr∧j≤9∧Hid (OwnR wr w5.heap.size 34 4 IQ x9 (zbs sr j))∧Hid (OwnR wr w5.heap.size 25 3 IR x10 (zbs sr j))∧Hid (Below w5.heap.size w5 wr)) (fun _ _ x _=>9-(intOf x).toNat)
   case atStart=>exact⟨0,rfl,by omega,by omega,OwnR.nil _ _ _ _ _,OwnR.nil _ _ _ _ _,Below.refl _ _⟩
   case round=>
    obtain⟨j,rfl,hjn,hj9,HO9,HO10,HBi⟩:=hrel;obtain⟨o9,c9,h9f⟩:=HO9.out.form;obtain⟨o10,c10,h10f⟩:=HO10.out.form;rw [za5]at h9f h10f;subst h9f;subst h10f;have HBw:=zHi (HB.out.trans (HBi.out.mono HB.out.size));by_cases hgo:j<nr∧j<9
    ·obtain⟨hj1,hj2⟩:=hgo;have hd9:decide ((j:Int)<9)=true:=decide_eq_true (by omega);obtain⟨_,_,ee,_,hcs⟩:=HRD.out;obtain⟨ad,ee2,had,hcell⟩:=hcs (by omega);injection ee with ee _ e3;subst e3;rw [ee2]at ee;subst ee;have p1:wr.cell? (ad.add j)=some (.string (sr j)):=(HBw.out.cell (p:=ad.add j) (by rw [zac];exact had)).trans (hcell j hj1);have hsl:=HRS.out j hj1;obtain⟨sj,hsj⟩:∃sj,sr j=sj:=⟨_,rfl⟩;have HSJ:=zHi hsj;rw [hsj]at p1 hsl;clear hcs hcell had ee2 hsj;gi_wp2_with (gi_at_call 30;refine stop ?_)
     refine(zi0 wr sj _ rfl hsl 50 (by decide)).mono ?_;rintro e w2' ⟨vq,rfl,hq,hB2⟩;obtain⟨q,hqq⟩:∃q,rq sj.data.toList 50=q:=⟨_,rfl⟩;have HKq:Hid (zb5 q=true):=zHi (by rw [←hqq];exact zmx _ _);rw [hqq]at hq;obtain⟨s1,a1,b1,d1,a2,b2,d2,rfl⟩:=hq.form;have hrow:zbs sr (j+1)=zbs sr j ++ [q]:=by rw [zgm,HSJ.out,hqq]
     have HROW:=zHi hrow;obtain⟨W3,hW3⟩:∃W,w2'.alloc (.cells #[.bool s1,.slice a1 b1 d1,.bool false,.slice a2 b2 d2] 34)=W:=⟨_,rfl⟩;have hB3:Below w2'.heap.size w2' W3:=by rw [←hW3];exact zaa _ _
     have hx3:OBox W3 w2'.heap.size 34 [.bool s1,.slice a1 b1 d1,.bool false,.slice a2 b2 d2]:=by rw [←hW3];exact OBox.new _ _ _
     have hb23:=hB2.trans (hB3.mono hB2.size);have HBi3:=zBt HBi hb23;have H9:=zHi (HO9.out.below hb23 (IQ.below hb23));have H10:=zHi (HO10.out.below hb23 (IR.below hb23));have H9L:Hid (∀k,(Value.slice o9 j c9).ownBlock=some k→k<w2'.heap.size):=zHi (fun k hk=>Nat.lt_of_lt_of_le (HO9.out.lt hk) hB2.size);have HQ3:=zHi (hq.below hB3);have HX3:=zHi hx3;have q0:=hx3.box.2 0 _ rfl;have q1:=hx3.box.2 1 _ rfl;have q2:=hx3.box.2 2 _ rfl;have q3:=hx3.box.2 3 _ rfl;clear hB2 hq hqq hrow hB3 hx3 hb23 p1;gi_wp2_with (gi_at_builtin;refine stop ?_)
     unfold Stop;obtain⟨g12,hg12⟩:∃g,w2'.heap.size=g:=⟨_,rfl⟩;rw [hg12]at HX3 H9L;rw [hg12];clear hW3 hg12 q0 q1 q2 q3;refine zaJ (ty:=34) (sz:=4) (bytes:=64) W3 rfl _ _ rfl Go.Num.u63 i34 i34z i34s i34b rfl (by decide) (by decide) w5.heap.size HBi3.out.size (.slice o9 j c9) _ rfl H9.out q [.bool s1,.slice a1 b1 d1,.bool false,.slice a2 b2 d2] _ rfl rfl (by simp [Value.oneCell']) HQ3.out (fun b r w1 w2 ht=>IQ.touch ht rfl b r) (by rw [za5];omega) ?_;intro v9 w4' HO9n HBk HBl;rw [←HROW.out]at HO9n;have HBk2:Hid (OBox w4' g12 34 [.bool s1,.slice a1 b1 d1,.bool false,.slice a2 b2 d2]):=zHi (HX3.out.eq (HBk.out.2 g12 HX3.out.el.lt (fun e=>by have:=H9L.out g12 e.symm;omega)));have hk34:Go.Eng.Kept rs3 W3 w4':=fun b cs e fz hc he=>by
      rw [HBk.out.2 b (Array.getElem?_eq_some_iff.1 hc).1 (fun q=>by
       obtain⟨_,cur,hcur⟩:=H9.out.blk q.symm;rw [hcur]at hc;cases hc;cases he)]
      exact hc
     have HB4':=zHi (HBl.out w5.heap.size w5 HBi3.out (Nat.le_refl _));have HQ4:=zHi (QAt.kept' HQ3.out hk34);have h10':OwnR w4' w5.heap.size 25 3 IR (.slice o10 j c10) (zbs sr j):=H10.out.keep (fun b hb hl=>HBk.out.2 b hl (fun e=>by
      obtain⟨_,cur,hcur⟩:=H10.out.blk hb;obtain⟨_,cur2,hcur2⟩:=H9.out.blk e.symm;rw [hcur]at hcur2
      cases hcur2)) (fun b r q=>zau.kept (show zau W3 (.agg r.toArray) b from q) hk34)
     have H10b:=zHi h10';obtain⟨on,cn,hof⟩:=HO9n.out.form;rw [za5]at hof;subst hof;have q0:=HBk2.out.box.2 0 _ rfl;have q1:=HBk2.out.box.2 1 _ rfl;have q2:=HBk2.out.box.2 2 _ rfl;have q3:=HBk2.out.box.2 3 _ rfl;clear hk34 h10' HBk HBl H9 H10 H9L HX3 HQ3 HBi3;gi_wp2_with (gi_at_call 31;refine stop ?_)
     refine(zhq w4' _ q HQ4.out HKq.out (HL.out.below (HB.out.trans (HB4'.out.mono HB.out.size)))).mono ?_;rintro e w7 ⟨v7,rfl,hr7,hB7⟩;obtain⟨o5,k5,c5,o6,k6,c6,rfl⟩:=hr7.form;obtain⟨sg,hsg⟩:∃sg,decide (q.num<0)=sg:=⟨_,rfl⟩;rw [hsg]at hr7 ⊢;have HR7:=zHi hr7;have HB7:=zHi (HB4'.out.trans (hB7.mono HB4'.out.size));have H9c:=zHi (HO9n.out.below hB7 (IQ.below hB7));have H10c:=zHi (H10b.out.below hB7 (IR.below hB7));clear hr7 hB7 hsg q0 q1 q2 q3 HO9n H10b;gi_wp2_with (gi_at_builtin;refine stop ?_)
     unfold Stop;refine zaJ (ty:=25) (sz:=3) (bytes:=56) w7 rfl _ _ rfl Go.Num.u64 i25' i25z i25s i25b rfl (by decide) (by decide) w5.heap.size HB7.out.size (.slice o10 j c10) _ rfl H10c.out q [.bool sg,.slice o5 k5 c5,.slice o6 k6 c6] _ rfl rfl (by simp [Value.oneCell']) HR7.out (fun b r w1 w2 ht=>IR.touch ht rfl b r) (by rw [za5];omega) ?_;intro v10 w8 HO10n HBk HBl;rw [←HROW.out]at HO10n;have hk78:Go.Eng.Kept rs3 w7 w8:=fun b cs e fz hc he=>by
      rw [HBk.out.2 b (Array.getElem?_eq_some_iff.1 hc).1 (fun q=>by
       obtain⟨_,cur,hcur⟩:=H10c.out.blk q.symm;rw [hcur]at hc;cases hc;cases he)]
      exact hc
     have HO9z:Hid (OwnR w8 w5.heap.size 34 4 IQ (.slice on (j+1) cn) (zbs sr (j+1))):=zHi (H9c.out.keep (fun b hb hl=>HBk.out.2 b hl (fun e=>by
      obtain⟨_,cur,hcur⟩:=H9c.out.blk hb;obtain⟨_,cur2,hcur2⟩:=H10c.out.blk e.symm;rw [hcur]at hcur2
      cases hcur2)) (fun b r q=>QAt.kept' (show QAt w7 (.agg r.toArray) b from q) hk78))
     have HBz:=zHi (HBl.out w5.heap.size w5 HB7.out (Nat.le_refl _));clear hk78 HBk HBl;gi_wp2;exact⟨⟨j+1,by go_num,by omega,by omega,HO9z,HO10n,HBz⟩,by simp only [intOf];omega⟩
    ·have HKb:Hid (∀q∈zbs sr j,zb5 q=true):=zHi (fun q hq=>zrp _ _ q hq);obtain⟨bs,hbs⟩:∃bs,zbs sr j=bs:=⟨_,rfl⟩;have hbl:bs.length=j:=by rw [←hbs,za5]
     rw [hbs]at HO9 HO10 HKb;have HBL:=zHi hbl;clear hbl hbs;by_cases hj1:j<nr
     case' pos=>
      have hd9:decide ((j:Int)<9)=false:=decide_eq_false (by omega);gi_wp2
     case' neg=>
      gi_wp2
     all_goals exact(HR1.out _ _ _).2 ⟨rfl,j,bs,_,_,_,_,_,_,_,_,_,_,_,_,_,_,_,_,_,_,_,_,_,_,_,_,_,_,_,rfl,HO9.out.row (by rw [HBL.out];omega),HO10.out.row (by rw [HBL.out];omega),by rw [HBL.out];exact hj9,HKb.out,HBi.out⟩
  case rest=>
   intro e A W hR;obtain⟨rfl,j,bs,x9,x10,x12,x48,x49,x50,x51,x52,x53,x54,x55,x56,x57,x58,x59,x60,x61,x62,x63,x64,x65,x66,x67,x68,x69,x70,x71,rfl,g1,g2,g3,g4,g5⟩:=(HR1.out _ _ _).1 hR;have HI0:Hid (RowQ W x9 bs∧RowR W x10 bs∧bs.length≤9∧(∀q∈bs,zb5 q=true)∧Below w5.heap.size w5 W):=zHi ⟨g1,g2,g3,g4,g5⟩;clear hR g1 g2 g3 g4 g5 HR1;gi_wp2;gi_loopw [9,10,13] (fun x9 x10 x13 wr=>∃(r:Nat) (bs:List Rat),x13 = .int .i64 (r:Int)∧r≤2∧Hid (RowQ wr x9 bs∧RowR wr x10 bs∧bs.length≤9∧(∀q∈bs,zb5 q=true)∧Below w5.heap.size w5 wr)) (fun _ _ x _=>2-(intOf x).toNat)
   case atStart=>exact⟨0,bs,rfl,by omega,HI0⟩
   case round=>
    clear HI0;obtain⟨r,bs,rfl,hr2,HI⟩:=hrel;by_cases hrr:r<2
    ·refine zs9 (by gi_wp2;exact⟨rfl,rfl⟩) ?_;refine wpIn_seq (wpIn_block ?_);obtain⟨R2,hR2⟩:∃R:CAct→World→Prop,∀A W,R A W↔∃(y14 y15 y16 y17 y18 y19 y20 y21 y76 y77 y78 y79 y80 y81 y82 y83 y84 y85 y86 y87 y88 y89 y90 y91 y92 y93 y94 y95 y96 y97 y98 y99 y100 y101 y102 y103 y104 y105 y106 y107 y108 y109 y110 y111 y112 y113 y114 y115 y116 y117 y118 y119 y120 y121 y122 y123 y124 y125 y126 y127 y128 y129 y130 y131 y132 y133 y134 y135 y136 y137 y138 y139 y140 y141 y142 y143 y144 y145 y146:Value),A={tmps:=#[Value.slice o n c,Value.slice orr nr cr,undef,undef,u4,Value.slice o1 mm k1,Value.slice o2 mm k2,v3,Value.int IntKind.i64 0,Value.slice none 0 0,Value.slice none 0 0,Value.int IntKind.i64 (j:Int),x12,Value.int IntKind.i64 (r:Int),y14,y15,y16,y17,y18,y19,y20,y21,Value.int IntKind.i64 0,u23,u24,Value.tuple #[Value.slice o1 mm k1,Value.slice o2 mm k2],Value.slice o n c,Value.tuple #[Value.slice o1 mm k1,Value.slice o2 mm k2],Value.slice o1 mm k1,Value.slice o2 mm k2,Value.slice o1 mm k1,Value.int IntKind.i64 0,Value.bool false,undef,Value.tuple #[v3,Value.int IntKind.i64 0],Value.slice o2 mm k2,Value.tuple #[v3,Value.int IntKind.i64 0],v3,Value.int IntKind.i64 0,Value.int IntKind.i64 0,Value.bool false,Value.bool false,v3,Value.slice o1 mm k1,v4,Value.bool true,Value.bool false,Value.bool false,x48,x49,x50,x51,x52,x53,x54,x55,x56,x57,x58,x59,x60,x61,x62,x63,x64,x65,x66,x67,x68,x69,x70,x71,Value.int IntKind.i64 (r:Int),Value.bool true,u74,u75,y76,y77,y78,y79,y80,y81,y82,y83,y84,y85,y86,y87,y88,y89,y90,y91,y92,y93,y94,y95,y96,y97,y98,y99,y100,y101,y102,y103,y104,y105,y106,y107,y108,y109,y110,y111,y112,y113,y114,y115,y116,y117,y118,y119,y120,y121,y122,y123,y124,y125,y126,y127,y128,y129,y130,y131,y132,y133,y134,y135,y136,y137,y138,y139,y140,y141,y142,y143,y144,y145,y146,u147,u148,u149,u150,u151,u152,u153,u154,u155,u156,u157,u158,u159,u160,u161,u162,u163,u164,u165,u166,u167,u168,u169,u170,u171,u172,u173,u174,u175,u176,u177,u178,u179,u180,u181,u182,u183,u184,u185,u186,undef],defers:=[]}∧Below w5.heap.size w5 W:=⟨_,fun _ _=>Iff.rfl⟩;have HR2:=zHi hR2;clear hR2;refine zoB R2 ?second ?first
     case first=>
      intro hT;have HTL:=zHi hT;clear hT;obtain⟨o9,c9,e9,_⟩:=zad.form HI.out.1;obtain⟨o10,c10,e10,_⟩:=zad.form HI.out.2.1;subst e9;subst e10;obtain⟨lb,hlb⟩:∃l,bs.length=l:=⟨_,rfl⟩;have HLB:=zHi hlb;have hlb9:lb≤9:=by rw [←hlb];exact HI.out.2.2.1
      rw [hlb]at HI ⊢;clear hlb;gi_wp2_with (gi_at_call 32;refine stop ?_)
      unfold Stop;obtain⟨hq9,hr10,_,hkq,hB5⟩:=HI.out;have hBw:=HB.out.trans (hB5.mono HB.out.size);refine(zmq wr _ _ mm N Q bs (zad.below H2.out hB5 (zbQ.below hB5)) hr10 hm0 hN0 ⟨hm8,hN8⟩ HC.out (zlW HD.out) (fun q hq=>(zqv (hkq q hq)).mono (by decide)) (by rw [HLB.out];omega) (HL.out.pow.below hBw) (fun q1 q2=>(zpO hm8 (show 0<N+1 by omega) (by omega) (zh0 HD.out q1 q2) (show N≤N+1 by omega)).fine)).mono ?_;rintro e w6 ⟨y1,fr,er,rfl,hsay,hB6⟩;have HSAY:=zHi hsay;have HB6:=zHi (hB5.trans (hB6.mono hB5.size));have HI6:Hid (RowQ w6 (.slice o9 lb c9) bs∧∀q∈bs,zb5 q=true):=zHi ⟨zad.below hq9 hB6 (IQ.below hB6),hkq⟩;clear hq9 hr10 hkq hB5 hBw hsay hB6 HI;by_cases hlm:lb=mm
      case' pos=>
       have hd1:((lb:Int) == (mm:Int))=true:=by rw [beq_iff_eq];omega
       have hd2:decide ((lb:Int)=(mm:Int))=true:=decide_eq_true (by omega);have hd3:((lb:Int) != (mm:Int))=false:=by rw [bne,hd1];rfl
       have HW0:Hid (zfj bs mm 0=0):=zHi (by unfold zfj;rw [HLB.out,if_neg (fun q=>q hlm)];rfl);have HLM:=zHi hlm;clear hlm;gi_wp2;clear hd1 hd2 hd3
      case' neg=>
       have hd1:((lb:Int) == (mm:Int))=false:=by rw [beq_eq_false_iff_ne];omega
       have hd2:decide ((lb:Int)=(mm:Int))=false:=decide_eq_false (by omega);have hd3:((lb:Int) != (mm:Int))=true:=by rw [bne,hd1];rfl
       have HW0:Hid (zfj bs mm 0=7):=zHi (by unfold zfj;rw [HLB.out,if_pos hlm]);gi_wp2;have HLM:Hid (lb=mm→False):=zHi hlm;clear hd1 hd2 hd3 hlm
      all_goals
       gi_loopw [17,18] (fun x17 x18 wr=>∃i:Nat,x18 = .int .i64 (i:Int)∧x17 = .int .i64 (zfj bs mm i)∧i≤lb∧Hid (Below w6.heap.size w6 wr)) (fun _ x _=>lb-(intOf x).toNat)
       case atStart=>exact⟨0,rfl,by rw [HW0.out],by omega,Below.refl _ _⟩
       case round=>
        clear HW0;obtain⟨i,rfl,rfl,hi,HBx⟩:=hrel;obtain⟨wt,hwt⟩:∃wt,zfj bs mm i=wt:=⟨_,rfl⟩;have HWT:=zHi hwt;rw [hwt];clear hwt;by_cases hgo:i<lb∧wt=0
        ·obtain⟨hil,hw0⟩:=hgo;subst hw0;have hqx:=zad.below HI6.out.1 HBx.out (IQ.below HBx.out);obtain⟨q,hq⟩:∃q,bs[i]? = some q:=⟨_,List.getElem?_eq_getElem (by rw [HLB.out];exact hil)⟩;obtain⟨ab,e2⟩:=zcz hqx (by rw [HLB.out];omega);subst e2;obtain⟨_,rb,_,hcb,hIb⟩:=zad.at' hqx hq;obtain⟨sb,a1,b1,d1,a2,b2,d2,e2⟩:=QAt.form hIb;have e2:=zdw (l:=[.bool sb,.slice a1 b1 d1,.bool false,.slice a2 b2 d2]) e2;subst e2;have HIb:=zHi hIb;have t0:=hcb 0 _ rfl;rw [zb4]at t0;have t1:wr.cell? ⟨(ab.add (i*4)).block,(ab.add (i*4)).off+1,none⟩=some (.slice a1 b1 d1):=by rw [zbx _ _ _ (by decide),←Addr.add_add];exact hcb 1 _ rfl
         have t2:wr.cell? ⟨(ab.add (i*4)).block,(ab.add (i*4)).off+2,none⟩=some (.bool false):=by rw [zbx _ _ _ (by decide),←Addr.add_add];exact hcb 2 _ rfl
         have t3:wr.cell? ⟨(ab.add (i*4)).block,(ab.add (i*4)).off+3,none⟩=some (.slice a2 b2 d2):=by rw [zbx _ _ _ (by decide),←Addr.add_add];exact hcb 3 _ rfl
         have hnx:zfj bs mm (i+1)=if zbf q then 11 else 0:=by
          have h0:=HWT.out;unfold zfj at h0 ⊢;by_cases e:bs.length≠mm
          ·rw [if_pos e]at h0;cases h0
          ·rw [if_neg e]at h0 ⊢;rw [zkD hq]
           cases e3:(bs.take i).any zbf with
           | true=>rw [e3]at h0;cases h0
           | false=>rfl
         have HNX:=zHi hnx;clear hqx hq hcb hIb hnx;gi_wp2_with (gi_at_call 33;refine stop ?_)
         refine(zdu wr _ q 20 HIb.out).mono ?_;rintro e w8 ⟨rfl,hB8⟩;rw [zmI];have HB8:=zBt HBx hB8;clear hB8 t0 t1 t2 t3
         cases hlo:zbf q with
         | true=>
          have HN1:Hid (zfj bs mm (i+1)=11):=zHi (by rw [HNX.out,hlo];rfl);clear hlo;gi_wp2;exact⟨⟨i+1,by go_num,by rw [HN1.out],by omega,HB8⟩,by simp only [intOf];omega⟩
         | false=>
          have HN1:Hid (zfj bs mm (i+1)=0):=zHi (by rw [HNX.out,hlo];rfl);clear hlo;gi_wp2;exact⟨⟨i+1,by go_num,by rw [HN1.out],by omega,HB8⟩,by simp only [intOf];omega⟩
        ·have HWF:Hid (zfj bs mm lb=wt):=zHi (by
          rw [←HWT.out];rcases Nat.lt_or_ge i lb with hil|hil
          ·have hne:wt≠0:=fun q=>hgo ⟨hil,q⟩
           have h0:=HWT.out;unfold zfj at h0 ⊢;by_cases e:bs.length≠mm
           ·rw [if_pos e,if_pos e]
           ·rw [if_neg e]at h0;rw [if_neg e,if_neg e];have e3:(bs.take i).any zbf=true:=by
             cases e3:(bs.take i).any zbf with
             | true=>rfl
             | false=>rw [e3]at h0;exact absurd h0.symm hne
            rw [e3];obtain⟨x,hx,hl⟩:=List.any_eq_true.1 e3;rw [List.take_of_length_le (by rw [HLB.out];exact Nat.le_refl _),List.any_eq_true.2 ⟨x,List.mem_of_mem_take hx,hl⟩]
          ·rw [show i=lb by omega])
         have HB7:=zHi (HB6.out.trans (HBx.out.mono HB6.out.size));have HI7:=zHi (And.intro (zad.below HI6.out.1 HBx.out (IQ.below HBx.out)) HI6.out.2);have hsay:=HSAY.out;clear HSAY;rcases hsay with⟨hl,rfl,rfl,rfl⟩|⟨hl,hal,rfl,rfl,rfl⟩|⟨hl,hal,hcase⟩
         case' inl=>
          have hw7:wt=7:=by rw [←HWF.out];unfold zfj;rw [if_pos hl]
          subst hw7;clear hl HWT HWF HLM hgo;gi_wp2;all_goals exact HTL.out _ _ ((HR2.out _ _).2 ⟨_,_,_,_,_,_,_,_,_,_,_,_,_,_,_,_,_,_,_,_,_,_,_,_,_,_,_,_,_,_,_,_,_,_,_,_,_,_,_,_,_,_,_,_,_,_,_,_,_,_,_,_,_,_,_,_,_,_,_,_,_,_,_,_,_,_,_,_,_,_,_,_,_,_,_,_,_,_,_,rfl,HB7.out⟩)
         case' inr.inl=>
          have hw11:wt=11:=by rw [←HWF.out];unfold zfj;rw [if_neg (fun q=>q hl),List.take_of_length_le (by rw [HLB.out];exact Nat.le_refl _),hal];rfl
          subst hw11;clear hl hal HWT HWF HLM hgo;gi_wp2;all_goals exact HTL.out _ _ ((HR2.out _ _).2 ⟨_,_,_,_,_,_,_,_,_,_,_,_,_,_,_,_,_,_,_,_,_,_,_,_,_,_,_,_,_,_,_,_,_,_,_,_,_,_,_,_,_,_,_,_,_,_,_,_,_,_,_,_,_,_,_,_,_,_,_,_,_,_,_,_,_,_,_,_,_,_,_,_,_,_,_,_,_,_,_,rfl,HB7.out⟩)
         case' inr.inr=>
          have hw0:wt=0:=by rw [←HWF.out];unfold zfj;rw [if_neg (fun q=>q hl),List.take_of_length_le (by rw [HLB.out];exact Nat.le_refl _),hal];rfl
          have hil:¬i<lb:=fun q=>hgo ⟨q,hw0⟩
          subst hw0;have hS2:=zpO hm8 (show 0<N+1 by omega) (by omega) (zh0 HD.out hl hal) (show N≤N+1 by omega);have HS2:=zHi hS2;have HCASE:=zHi hcase;have HLL:=zHi hl;have HAL:=zHi hal;clear HWT HWF HLM hgo hS2 hcase hal hl;gi_wp2_with (gi_at_call 34;refine stop ?_)
          unfold Stop;have HB7':=HB7;obtain⟨b,hb⟩:∃b:Nat→Rat,(fun i=>bs.getD i 0)=b:=⟨_,rfl⟩;have hbs:bs=rowF b mm:=by rw [←HLL.out,←hb,zlb]
          rw [hb]at HS2 HCASE;refine(zir wr _ _ Q b mm N 700 _ rfl (zad.below H1.out HB7.out (zcJ.below HB7.out)) (by rw [←hbs];exact HI7.out.1) hm0 hN0 ⟨hm8,hN8⟩ (fun i j hi hj=>(hb ▸ zh0 HD.out HLL.out HAL.out i j hi hj).le (by decide)) (by decide) HS2.out.sizes (zpN HS2.out)).mono ?_;rintro e w8 ⟨v8,he8,hB8⟩;have hek:=HS2.out.ends.k;obtain⟨k,hk⟩:∃k,(pRun mm (zbr Q b N) N).k=k:=⟨_,rfl⟩;have hns:=fun i h1 h2=>zqg HS2.out (i:=i) h1 h2
          rw [hek,hk]at he8;rw [hk]at hns;have hcase:=HCASE.out;rw [hk]at hcase;have HB9:=zBt HB7 hB8;rcases hcase with⟨⟨i0,g1,g2,g3⟩,rfl,rfl,rfl⟩|⟨hz,hry,rfl,rfl⟩
          case' inl=>
           rcases he8 with⟨_,rfl⟩|⟨hz,_⟩
           case' inr=>exact absurd ((hns i0 g1 g2).2 (hz i0 g1 g2)) g3
           clear hns HCASE hek hk g1 g2 g3 hbs hb HB7' hB8 HB7 HI7 HI6 HBx HB6;gi_wp2_with (exfalso;exact zae (by assumption))
           all_goals exact HTL.out _ _ ((HR2.out _ _).2 ⟨_,_,_,_,_,_,_,_,_,_,_,_,_,_,_,_,_,_,_,_,_,_,_,_,_,_,_,_,_,_,_,_,_,_,_,_,_,_,_,_,_,_,_,_,_,_,_,_,_,_,_,_,_,_,_,_,_,_,_,_,_,_,_,_,_,_,_,_,_,_,_,_,_,_,_,_,_,_,_,rfl,HB9.out⟩)
          case' inr=>
           rcases he8 with⟨⟨i0,g1,g2,g3⟩,_⟩|⟨_,rfl,hq8⟩
           case' inl=>exact absurd ((hns i0 g1 g2).1 (hz i0 g1 g2)) g3
           have hsl:=zpG HS2.out;have hle:∀q∈rowF (solv (zbS (pRun mm (zbr Q b N) N).P (zaF mm (zbr Q b N) N)) (zaF mm (zbr Q b N) N) N (zaF mm (zbr Q b N) N).length) N,zan q 20000:=fun q hq=>by
            obtain⟨j,_,rfl⟩:=List.mem_map.1 hq;exact(zpH (by decide) (fun i _ hi=>HS2.out.fine.unit i N (by rw [zdl]at hi;have:=(zf3 mm (zbr Q b N) N).1;omega) (by omega)) j).mono (by decide)
           rw [hsl]at hq8;have hry8:=zad.below (zad.below hry HBx.out (IR.below HBx.out)) hB8 (IR.below hB8);have HRY:=zHi hry8;have HQ8:=zHi hq8;have HLE:=zHi hle;obtain⟨oy,cy,ey,_⟩:=zad.form hry8;subst ey;obtain⟨oz,cz,ez,_⟩:=zad.form hq8;subst ez;rw [zak]at HRY HQ8 ⊢;clear hns HCASE hek hk hz hry hbs hb HB7' hB8 HB7 HI7 HI6 HBx HB6 hsl hle hry8 hq8;gi_wp2_with (gi_at_call 35;refine stop ?_)
           refine(zje w8 _ _ _ HRY.out HQ8.out HLE.out (HL.out.pow.below (HB.out.trans (HB9.out.mono HB.out.size)))).mono ?_;rintro e w10 ⟨rfl,hB10⟩;have HB9:=zBt HB9 hB10;clear hB10 HRY HQ8 HLE;gi_wp2_with (exfalso;exact zae (by assumption))
           all_goals exact HTL.out _ _ ((HR2.out _ _).2 ⟨_,_,_,_,_,_,_,_,_,_,_,_,_,_,_,_,_,_,_,_,_,_,_,_,_,_,_,_,_,_,_,_,_,_,_,_,_,_,_,_,_,_,_,_,_,_,_,_,_,_,_,_,_,_,_,_,_,_,_,_,_,_,_,_,_,_,_,_,_,_,_,_,_,_,_,_,_,_,_,rfl,HB9.out⟩)
     case second=>
      intro A W hR;obtain⟨y14,y15,y16,y17,y18,y19,y20,y21,y76,y77,y78,y79,y80,y81,y82,y83,y84,y85,y86,y87,y88,y89,y90,y91,y92,y93,y94,y95,y96,y97,y98,y99,y100,y101,y102,y103,y104,y105,y106,y107,y108,y109,y110,y111,y112,y113,y114,y115,y116,y117,y118,y119,y120,y121,y122,y123,y124,y125,y126,y127,y128,y129,y130,y131,y132,y133,y134,y135,y136,y137,y138,y139,y140,y141,y142,y143,y144,y145,y146,rfl,hB0⟩:=(HR2.out _ _).1 hR;have HBF:=zHi hB0;obtain⟨WF,hWF⟩:∃W',W=W':=⟨_,rfl⟩;rw [hWF]at HBF ⊢;clear hWF hR hB0 HR2 HI;have HCS:Hid (∀q,(∃x,x<mm∧zbL (Q x) N=q)→zb5 q=true):=zHi (by
       rintro q ⟨x,hx,rfl⟩;exact zgv (zh7 (fun j hj=>(HD.out x j hx hj).le (by decide)) N (Nat.le_refl _)) (by omega) (by omega))
      dsimp only;gi_loopw [9,10,22] (fun x9 x10 x22 wi=>∃i:Nat,x22 = .int .i64 (i:Int)∧i≤mm∧Hid (OwnR wi WF.heap.size 34 4 IQ x9 (rowF (fun i'=>zbL (Q i') N) i))∧Hid (OwnR wi WF.heap.size 25 3 IR x10 (rowF (fun i'=>zbL (Q i') N) i))∧Hid (Below WF.heap.size WF wi)) (fun _ _ x _=>mm-(intOf x).toNat)
      case atStart=>exact⟨0,rfl,by omega,OwnR.nil _ _ _ _ _,OwnR.nil _ _ _ _ _,Below.refl _ _⟩
      case round=>
       obtain⟨i,rfl,hi,HO9,HO10,HBi⟩:=hrel;obtain⟨p9,d9,h9f⟩:=HO9.out.form;obtain⟨p10,d10,h10f⟩:=HO10.out.form;rw [zak]at h9f h10f;subst h9f;subst h10f;have HBw:=zHi (HBF.out.trans (HBi.out.mono HBF.out.size));by_cases hin:i<mm
       ·gi_wp2_with (gi_at_call 36;refine stop ?_)
        refine(zfi wr).mono ?_;rintro e z1 ⟨z2,rfl,hq0,hB⟩;obtain⟨s0,a1,b1,e1,a2,b2,e2,rfl⟩:=hq0.form;obtain⟨Z,hZ⟩:∃W,z1.alloc (.cells #[.bool s0,.slice a1 b1 e1,.bool false,.slice a2 b2 e2] 34)=W:=⟨_,rfl⟩;have hBZ:Below z1.heap.size z1 Z:=by rw [←hZ];exact zaa _ _
        obtain⟨g23,hg23⟩:∃g,z1.heap.size=g:=⟨_,rfl⟩;have hbb:=hB.trans (hBZ.mono hB.size);have HS0:Hid (SumS WF g23 (zbL (Q i) 0) (.slice p9 i d9) (.slice p10 i d10) (rowF (fun i'=>zbL (Q i') N) i) Z):=zHi ⟨HBi.out.trans (hbb.mono HBi.out.size),⟨_,_,_,_,by rw [←hZ,←hg23];exact OBox.new _ _ _,hq0.below hBZ⟩,HO9.out.below hbb (IQ.below hbb),HO10.out.below hbb (IR.below hbb),fun b hb=>by rw [←hg23];exact Nat.lt_of_lt_of_le (HO9.out.lt hb) hB.size,by rw [←hg23];exact Nat.le_trans HBi.out.size hB.size⟩;have HZ:=zHi hZ;have HG:=zHi hg23;clear hB hBZ hbb hq0 HO9 HO10 HBi HBw hZ hg23;gi_wp2;rw [HZ.out,HG.out];clear HZ HG;gi_loopw [24] (fun x24 wi=>∃j:Nat,x24 = .int .i64 (j:Int)∧j≤N∧Hid (SumS WF g23 (zbL (Q i) j) (.slice p9 i d9) (.slice p10 i d10) (rowF (fun i'=>zbL (Q i') N) i) wi)) (fun x _=>N-(intOf x).toNat)
        case atStart=>exact⟨0,rfl,by omega,HS0⟩
        case round=>
         obtain⟨j,rfl,hj,HSj⟩:=hrel;clear HS0;have HBj:=zHi (HBF.out.trans (HSj.out.below.mono HBF.out.size));have hmx:=zad.below H1.out HBj.out (zcJ.below HBj.out);obtain⟨aa,e1⟩:=zcz hmx (by rw [zal];exact hm0);subst e1;obtain⟨_,r1,_,hc1,v1,rfl,hI1⟩:=zad.at' hmx (zbG hin);have x1:=hc1 0 v1 rfl;rw [zb4]at x1;obtain⟨ai,ci,rfl⟩:=zad.some hI1 (by simp;omega);rw [List.length_map,List.length_range]at x1 hI1;have x1s:=x1;rw [Nat.mul_one]at x1s;clear hc1 hmx;have HI1:=zHi hI1;clear hI1;by_cases hjn:j<N
         ·gi_wp2;have hbd:=zab wr;obtain⟨W1,hW1⟩:∃W,wr.drew=W:=⟨_,rfl⟩;rw [hW1]at hbd;have hs1:=HSj.out.under hbd;obtain⟨x0,x1',x2',x3',hbx,hqx⟩:=hs1.box;obtain⟨s0,a3,b3,e3,a4,b4,e4,e5⟩:=QAt.form hqx;have e5:=zdw (r:=[x0,x1',x2',x3']) (l:=[.bool s0,.slice a3 b3 e3,.bool false,.slice a4 b4 e4]) e5;injection e5 with g0 e5;injection e5 with g1 e5;injection e5 with g2 e5;injection e5 with g3 _;subst g0;subst g1;subst g2;subst g3;obtain⟨_,r2,_,hc2,hI2⟩:=zad.at' (zad.below HI1.out hbd (IQ.below hbd)) (i:=j) (b:=Q i j) (by simp [hjn]);have hI2:QAt W1 (.agg r2.toArray) (Q i j):=hI2;obtain⟨s5,a5,b5,e5,a6,b6,e6,e7⟩:=QAt.form hI2;have e7:=zdw (l:=[.bool s5,.slice a5 b5 e5,.bool false,.slice a6 b6 e6]) e7;subst e7;have xw1:=(hbd.cell (World.block_lt_of_cell? _ _ x1)).trans x1;have hz : -1≤(j:Int)%3-1∧(j:Int)%3-1≤1:=by omega
          refine zap (ro:=none) [11,12,13,14,15] [0,1,2,3,4,5,6,7,8,9,10,11,12,13,14,15] [0,0,0,6,14,0,62,126,0,256,768,1792,3840,8190,16383,32767] zaq rfl 188 rfl (by kernel_rfl) (by kernel_rfl) ?_;rw [hW1];refine OV.ldn (p:=⟨g23,0,none⟩) [.bool s0,.slice a3 b3 e3,.bool false,.slice a4 b4 e4] lm34 (fun k v hk=>by rw [zbN];exact hbx.box.2 k v hk) rfl rfl rfl rfl rfl (by decide) rfl ?_;refine OV.mv (v:=.slice (some aa) mm k1) rfl rfl rfl rfl ?_;refine OV.mv (v:=.int .i64 (i:Int)) rfl rfl rfl rfl ?_;refine OV.idx it54 hin rfl rfl rfl rfl rfl ?_;refine OV.ld lo63 xw1 rfl rfl rfl rfl rfl ?_;refine OV.mv (v:=.int .i64 (j:Int)) rfl rfl rfl rfl ?_;refine OV.idx it63 hjn rfl rfl rfl rfl rfl ?_;refine OV.ldn [.bool s5,.slice a5 b5 e5,.bool false,.slice a6 b6 e6] lm34 hc2 rfl rfl rfl rfl rfl (by decide) rfl ?_;refine OV.mv (v:=.int .i64 (j:Int)) rfl rfl rfl rfl ?_;refine OV.rem3 rfl rfl rfl rfl ?_;refine OV.sub (p:=(j:Int)%3) (q:=1) (z:=(j:Int)%3-1) (by unfold RowKit.wrap64;omega) rfl rfl rfl rfl rfl ?_;refine OV.call (R:=fun v w'=>ZAt w' v ((j:Int)%3-1)) [.int .i64 ((j:Int)%3-1)] Tryz.func22 rfl zah rfl rfl rfl rfl rfl (za6 W1 _ (by omega) (by omega)) fun v2 w2 hz2 hB2 => ?_
          refine OV.call (R:=fun v w'=>QAt w' v (((j:Int)%3-1:Int):Rat)) [v2] Tryz.func21 rfl zah rfl rfl rfl rfl rfl (zdZ w2 v2 _ hz2) fun v3 w3 hq3 hB3 => ?_
          have hb13:=hB2.trans (hB3.mono hB2.size);refine OV.call (R:=fun v w'=>QAt w' v (Q i j*(((j:Int)%3-1:Int):Rat))) [.agg #[.bool s5,.slice a5 b5 e5,.bool false,.slice a6 b6 e6],v3] Tryz.func38 rfl zah rfl rfl rfl rfl rfl (zkU w3 _ _ _ _ (hI2.below hb13) hq3 ((HD.out i j hin hjn).le (by decide)) (znD hz)) fun v4 w4 hq4 hB4 => ?_
          have hb14:=hb13.trans (hB4.mono hb13.size);refine OV.call (R:=fun v w'=>QAt w' v (zbL (Q i) (j+1))) [.agg #[.bool s0,.slice a3 b3 e3,.bool false,.slice a4 b4 e4],v4] Tryz.func37 rfl zah rfl rfl rfl rfl rfl (zmC w4 _ _ (zbL (Q i) j) _ (hqx.below hb14) hq4 ((zh7 (fun j hj=>(HD.out i j hin hj).le (by decide)) j hj).mono (by omega)) ((zfX ((HD.out i j hin hjn).le (L:=3) (by decide)) (znD (L:=1) hz)).mono (by decide))) fun v5 w5' hq5 hB5 => ?_
          have hb15:=hb14.trans (hB5.mono hb14.size);obtain⟨s7,a7,b7,e7,a8,b8,e8,rfl⟩:=hq5.form;obtain⟨hsn,hth⟩:=(hs1.under hb15).store hq5;refine OV.st (w':=w5'.setCells g23 0 [.bool s7,.slice a7 b7 e7,.bool false,.slice a8 b8 e8]) trivial (zso hth (by simp [Value.oneCell'])) rfl rfl rfl rfl rfl ?_;refine OV.done ?_;have HSN:=zHi hsn;simp only [zbo,Go.Act.put,ztQ,ztR,ztS];clear hsn hth hq5 hB5 hb15 hq4 hB4 hb14 hq3 hB3 hb13 hz2 hB2 hI2 hc2 hbx hqx hs1 hbd hW1 xw1 x1 x1s hz;gi_wp2;exact⟨⟨j+1,by go_num,by omega,HSN⟩,by simp only [intOf];omega⟩
         ·obtain rfl:j=N:=by omega
          obtain⟨x0,x1',x2',x3',hbx,hqx⟩:=HSj.out.box;obtain⟨s0,a3,b3,e3,a4,b4,e4,e5⟩:=QAt.form hqx;have e5:=zdw (r:=[x0,x1',x2',x3']) (l:=[.bool s0,.slice a3 b3 e3,.bool false,.slice a4 b4 e4]) e5;injection e5 with g0 e5;injection e5 with g1 e5;injection e5 with g2 e5;injection e5 with g3 _;subst g0;subst g1;subst g2;subst g3;have q0:=hbx.box.2 0 _ rfl;have q1:=hbx.box.2 1 _ rfl;have q2:=hbx.box.2 2 _ rfl;have q3:=hbx.box.2 3 _ rfl;have HX:=zHi hbx;have HQX:=zHi hqx;have H9:=zHi HSj.out.o9;have H10:=zHi HSj.out.o10;have H9L:=zHi HSj.out.lt;have HBi3:=zHi HSj.out.below;have HKq:Hid (zb5 (zbL (Q i) j)=true):=zHi (HCS.out _ ⟨i,hin,rfl⟩);have HROW:Hid (∀f:Nat→Rat,rowF f i ++ [f i]=rowF f (i+1)):=zHi (fun f=>(zla f i).symm);clear hbx hqx HI1 HSj;gi_wp2_with (gi_at_builtin;refine stop ?_)
          unfold Stop;refine zaJ (ty:=34) (sz:=4) (bytes:=64) wr rfl _ _ rfl Go.Num.u63 i34 i34z i34s i34b rfl (by decide) (by decide) WF.heap.size HBi3.out.size (.slice p9 i d9) _ rfl H9.out (zbL (Q i) j) [.bool s0,.slice a3 b3 e3,.bool false,.slice a4 b4 e4] _ rfl rfl (by simp [Value.oneCell']) HQX.out (fun b r w1 w2 ht=>IQ.touch ht rfl b r) (by rw [zak];omega) ?_;intro v9 w4' HO9n HBk HBl;have hr9:=HROW.out (fun i'=>zbL (Q i') j);rw [hr9]at HO9n;have HBk2:Hid (OBox w4' g23 34 [.bool s0,.slice a3 b3 e3,.bool false,.slice a4 b4 e4]):=zHi (HX.out.eq (HBk.out.2 g23 HX.out.el.lt (fun e=>by have:=H9L.out g23 e.symm;omega)));have hk34:Go.Eng.Kept rs3 wr w4':=fun b cs e fz hc he=>by
           rw [HBk.out.2 b (Array.getElem?_eq_some_iff.1 hc).1 (fun q=>by
            obtain⟨_,cur,hcur⟩:=H9.out.blk q.symm;rw [hcur]at hc;cases hc;cases he)]
           exact hc
          have HB4':=zHi (HBl.out WF.heap.size WF HBi3.out (Nat.le_refl _));have HQ4:=zHi (QAt.kept' HQX.out hk34);have h10':OwnR w4' WF.heap.size 25 3 IR (.slice p10 i d10) (rowF (fun i'=>zbL (Q i') j) i):=H10.out.keep (fun b hb hl=>HBk.out.2 b hl (fun e=>by
           obtain⟨_,cur,hcur⟩:=H10.out.blk hb;obtain⟨_,cur2,hcur2⟩:=H9.out.blk e.symm;rw [hcur]at hcur2
           cases hcur2)) (fun b r q=>zau.kept (show zau wr (.agg r.toArray) b from q) hk34)
          have H10b:=zHi h10';obtain⟨on,cn,hof⟩:=HO9n.out.form;rw [zak]at hof;subst hof;have q0:=HBk2.out.box.2 0 _ rfl;have q1:=HBk2.out.box.2 1 _ rfl;have q2:=HBk2.out.box.2 2 _ rfl;have q3:=HBk2.out.box.2 3 _ rfl;clear hk34 h10' HBk HBl H9 H10 H9L HX HQX HBi3 hr9 x1 x1s;gi_wp2_with (gi_at_call 31;refine stop ?_)
          refine(zhq w4' _ _ HQ4.out HKq.out (HL.out.below (HB.out.trans ((HBF.out.trans (HB4'.out.mono HBF.out.size)).mono HB.out.size)))).mono ?_;rintro e w7 ⟨v7,rfl,hr7,hB7⟩;obtain⟨sg,o5,k5,c5,o6,k6,c6,rfl⟩:=hr7.formS;have HR7:=zHi hr7;have HB7:=zHi (HB4'.out.trans (hB7.mono HB4'.out.size));have H9c:=zHi (HO9n.out.below hB7 (IQ.below hB7));have H10c:=zHi (H10b.out.below hB7 (IR.below hB7));clear hr7 hB7 q0 q1 q2 q3 HO9n H10b;gi_wp2_with (gi_at_builtin;refine stop ?_)
          unfold Stop;refine zaJ (ty:=25) (sz:=3) (bytes:=56) w7 rfl _ _ rfl Go.Num.u64 i25' i25z i25s i25b rfl (by decide) (by decide) WF.heap.size HB7.out.size (.slice p10 i d10) _ rfl H10c.out (zbL (Q i) j) [.bool sg,.slice o5 k5 c5,.slice o6 k6 c6] _ rfl rfl (by simp [Value.oneCell']) HR7.out (fun b r w1 w2 ht=>IR.touch ht rfl b r) (by rw [zak];omega) ?_;intro v10 w8 HO10n HBk HBl;have hr10:=HROW.out (fun i'=>zbL (Q i') j);rw [hr10]at HO10n;have hk78:Go.Eng.Kept rs3 w7 w8:=fun b cs e fz hc he=>by
           rw [HBk.out.2 b (Array.getElem?_eq_some_iff.1 hc).1 (fun q=>by
            obtain⟨_,cur,hcur⟩:=H10c.out.blk q.symm;rw [hcur]at hc;cases hc;cases he)]
           exact hc
          have HO9z:Hid (OwnR w8 WF.heap.size 34 4 IQ (.slice on (i+1) cn) (rowF (fun i'=>zbL (Q i') j) (i+1))):=zHi (H9c.out.keep (fun b hb hl=>HBk.out.2 b hl (fun e=>by
           obtain⟨_,cur,hcur⟩:=H9c.out.blk hb;obtain⟨_,cur2,hcur2⟩:=H10c.out.blk e.symm;rw [hcur]at hcur2
           cases hcur2)) (fun b r q=>QAt.kept' (show QAt w7 (.agg r.toArray) b from q) hk78))
          have HBz:=zHi (HBl.out WF.heap.size WF HB7.out (Nat.le_refl _));clear hk78 HBk HBl hr10;gi_wp2;exact⟨⟨i+1,by go_num,by omega,HO9z,HO10n,HBz⟩,by simp only [intOf];omega⟩
       ·obtain rfl:i=mm:=by omega
        have HIN:Hid (RowQ wr (.slice p9 i d9) (rowF (fun i'=>zbL (Q i') N) i)∧RowR wr (.slice p10 i d10) (rowF (fun i'=>zbL (Q i') N) i)∧(rowF (fun i'=>zbL (Q i') N) i).length≤9∧(∀q∈rowF (fun i'=>zbL (Q i') N) i,zb5 q=true)∧Below w5.heap.size w5 wr):=zHi ⟨HO9.out.row (by rw [zak];omega),HO10.out.row (by rw [zak];omega),by rw [zak];omega,fun q hq=>HCS.out q (by
         obtain⟨x,hx,rfl⟩:=List.mem_map.1 hq;exact⟨x,List.mem_range.1 hx,rfl⟩),HBw.out⟩
        gi_wp2;exact⟨⟨r+1,_,by go_num,by omega,HIN⟩,by simp only [intOf];omega⟩
    ·have hr3:r=2:=by omega
     gi_wp2_with (gi_at_call 14;refine stop ?_)
     refine(zjy HL.out wr (HB.out.trans (HI.out.2.2.2.2.mono HB.out.size))).mono ?_;rintro e w8 ⟨rfl,hB8⟩;have HB8:=zHi ((HB.out.trans (HI.out.2.2.2.2.mono HB.out.size)).trans (hB8.mono (Nat.le_trans HB.out.size HI.out.2.2.2.2.size)));clear hB8;gi_wp2;all_goals (first|go_returns|go_ret|go_end0)
     exact⟨rfl,HB8.out⟩
 ·gi_wp2_with (gi_at_call 14;refine stop ?_)
  refine(zjy HL.out w2 HB.out).mono ?_;rintro e w3 ⟨rfl,hB⟩;replace HB:=zBt HB hB;clear hB;gi_wp2;all_goals (first|go_returns|go_ret|go_end0)
  exact⟨rfl,HB.out⟩
end Go.Num
