/-
  'Cmp' of the program. 'attempt' where nothing panics. 'kept' and 'attempt' of a fraction that is too long. Add, Mul of the program, where th
  Conditions: see each statement.
-/
import Derived.Test.YtoamcgjbelhnkaaGreatDoorPAA
import Derived.Test.YtoamcgjbelhnkaaGreatDoorPAN
import Derived.Test.YtoamcgjbelhnkaaGreatDoorPAK
set_option maxRecDepth 100000
set_option maxHeartbeats 8000000
namespace Go.Num
open Go.Eng Go.Shelf Go.RowKit Go.Sort Go.Proofs Go.Proofs.YtoamcgjbelhnkaaGreatDoor
theorem zlo(w:World)(s:ByteArray)(l:List UInt8)(hl:s.data.toList=l)(hd:l.all za0=true)(hn:l ≠ [])(h9:l.length≤9) :
  CallsIn Fence.wide 0 Tryz.prog 106 #[.string s,.int .i64 10,.int .i64 64] w fun e w'=>e = .returned (.tuple #[.int .u64 (zad l:Int),.nilIface])∧Below w.heap.size w w':=by
 subst hl;refine callsIn_wide.2 ((Tryz.strconv_ParseUint_10_at64_ok s (by rw [Lib.size_eq];omega) (zad s.data.toList) (zmI hd hn h9) w).mono ?_);rintro e w' ⟨rfl,rfl|rfl⟩
 ·exact⟨rfl,Below.refl _ _⟩
 ·exact⟨rfl,zg9 _ _⟩
theorem zkI{t:ByteArray}{l:List UInt8}{m k:Nat}(h:t.data.toList=l.take m)(hk:k≤m):(t.extract 0 k).data.toList=l.take k:=by
 rw [Lib.extract_eq];show(List.take (k-0) (List.drop 0 t.data.toList))=_
 rw [h,List.drop_zero,Nat.sub_zero,List.take_take,Nat.min_eq_left hk]
theorem zoi{t:ByteArray}{l:List UInt8}{m k:Nat}(h:t.data.toList=l.take m)(ht:t.size=m):(t.extract k m).data.toList=(l.take m).drop k:=by
 rw [Lib.extract_eq];show(List.take (m-k) (List.drop k t.data.toList))=_
 rw [List.take_of_length_le (by rw [List.length_drop,←Lib.size_eq];omega),h]
theorem ziY{w w':World}{base:Nat}{e:TypeId}{size n:Nat}{v:Value}{xs:List Value}(h:w.ownsRow base e size v n xs)(hb:Below w.heap.size w w'):w'.ownsRow base e size v n xs:=by
 refine⟨h.1,?_⟩;rcases h.2 with h|⟨g,cap,cur,h1,h2,h3,h4⟩
 ·exact .inl h
 ·refine .inr ⟨g,cap,cur,h1,h2,?_,h4⟩;rw [hb.block g (Array.getElem?_eq_some_iff.1 h3).1];exact h3
def zsk:Value→Nat
 | .string s=>s.size
 | _=>0
theorem zct(w:World)(s:ByteArray)(l:List UInt8)(hl:s.data.toList=l)(hd:l.all za0=true)(hn:l.length≤100000) :
  CallsIn Fence.wide 0 Tryz.prog 62 #[.string s] w fun e w'=>∃v',e = .returned v'∧zat w' v' (zad l)∧Below w.heap.size w w':=by
 have hsz:s.size=l.length:=by rw [Lib.size_eq,hl]
 have HD:=zHi hd;have HL:Hid (s.data.toList=l.take l.length):=zHi (by rw [List.take_length];exact hl);clear hl hd;obtain⟨n,hnl⟩:∃n,l.length=n:=⟨_,rfl⟩;have HNL:=zHi hnl;rw [hnl]at hsz hn HL;clear hnl;refine callsIn_of_wp Tryz.func62 rfl trivial ?_ rfl;simp only [Tryz.ntmps62,ztE,ztF,ztG,Nat.reduceAdd,Nat.reduceSub,ztH,ztI,ztJ,ztK,ztL,ztM];gi_wp2;gi_loopw [0,3] (fun v0 v3 wr=>∃(i m:Nat) (t:ByteArray),v0 = .string t∧t.size=m∧m≤n∧Hid (t.data.toList=l.take m)∧Hid (m+9*i=n∨m=0∧n≤9*i)∧i≤n∧Hid (wr.ownsRow w.heap.size 111 1 v3 i (zbB (zad l) i))∧Hid (Below w.heap.size w wr)) (fun v _ _=>zsk v)
 case atStart=>exact⟨0,n,s,rfl,hsz,Nat.le_refl _,HL,zHi (.inl (by omega)),by omega,World.ownsRow_nil _ _ _ _,Below.refl _ w⟩
 case round=>
  obtain⟨i,m,t,rfl,ht,hm,HT,HI,hi,HO,HBr⟩:=hrel;by_cases h0:0<m
  ·have hMI:m+9*i=n:=by rcases HI.out with h|h <;> omega
   have HC:Hid (zad ((l.take m).drop (m-9))=limb (zad l) i):=zHi (zpi HD.out (by rw [HNL.out];exact hMI));have hlen:(l.take m).length=m:=by rw [List.length_take,HNL.out];omega
   have HLen:=zHi hlen;have HMI:=zHi hMI;clear hlen hMI;obtain⟨k,hk⟩:∃k,m-9=k:=⟨_,rfl⟩;have hmx:max (0:Int) ((m:Int)-9)=(k:Int):=by omega
   rw [hk]at HC;gi_wp2_with (gi_at_call 106;refine stop ?_)
   unfold Stop;have hkm:k<m:=by omega
   refine(zlo wr (t.extract k m) ((l.take m).drop k) (zoi HT.out ht) (zkS (zkR HD.out m) k) ?_ ?_).mono ?_
   ·intro e;have:=congrArg List.length e;rw [List.length_drop,HLen.out]at this;simp at this;omega
   ·rw [List.length_drop,HLen.out];omega
   rintro e w2 ⟨rfl,hB⟩;rw [HC.out];have HO2:=zHi (ziY HO.out hB);have HB2:=zHi (HBr.out.trans (hB.mono HBr.out.size));clear hB;gi_wp2_with (gi_at_builtin;refine stop ?_)
   unfold Stop;refine zbq w w2 rfl _ _ rfl u3 i (zad l) rfl HO2 _ _ rfl rfl (by omega) HB2 ?_;intro v2 w3 HO3 HB3;gi_wp2;have hx:=zkI HT.out (Nat.le_of_lt hkm);have hxs:(t.extract 0 k).size=k:=by rw [Lib.size_eq,hx,List.length_take,HNL.out];omega
   refine⟨⟨i+1,k,_,rfl,hxs,by omega,hx,?_,by have:=HMI.out;omega,HO3,HB3⟩,by simp only [zsk];omega⟩;have:=HMI.out;refine zHi ?_;omega
  ·have hm0:m=0:=by omega
   subst hm0;have HLT:Hid (zad l<B^i):=zHi (zfO HD.out (by have:=HI.out;rw [HNL.out];omega));have HRow:Hid (zbs wr u3 (zad l) i):=zHi (zez HO.out (by omega));gi_wp2_with (gi_at_call 107;refine stop ?_)
   unfold Stop;refine(zbM wr u3 (zad l) i HRow.out HLT.out).mono ?_;rintro e w2 ⟨v',rfl,⟨hM,_⟩,hB⟩;have HM:=zHi hM;have HB:=zHi (HBr.out.trans (hB.mono HBr.out.size));clear hM hB;gi_wp2;all_goals (first|go_returns|go_ret|go_end0)
   exact⟨_,rfl,HM.out,HB.out⟩
def zeU(n:Nat):Bool:=decide (Lib.nDigits n≤20000)
theorem zcX(w:World)(v:Value)(n:Nat)(h:zat w v n)(hn:n<B^100000)(htab:zaU w) :
  CallsIn Fence.wide 0 Tryz.prog 110 #[v] w fun e w'=>e = .returned (.bool (zeU n))∧Below w.heap.size w w':=by
 have HM:=zHi h;have HN:=zHi hn;have HTab:=zHi htab;obtain⟨k,hk,hl⟩:=h;obtain⟨o,c,rfl,_⟩:=hl.form;have HK:=zHi hk;clear hk hl hn htab;refine callsIn_of_wp Tryz.func110 rfl trivial ?_ rfl;simp only [Tryz.ntmps110,ztE,ztF,ztG,Nat.reduceAdd,Nat.reduceSub,ztH,ztI,ztJ,ztK,ztL,ztM];by_cases hk2:k≤2222
 ·have hkd:decide ((k:Int)≤2222)=true:=decide_eq_true (by omega);have HS:Hid (zeU n=true):=zHi (decide_eq_true (by
   rcases Nat.eq_zero_or_pos k with h0|h0
   ·subst h0;rw [HK.out.zero,Lib.nDigits_small (by decide)];decide
   ·have h1:=zd4 h0 HK.out.1;omega))
  gi_wp2;all_goals (first|go_returns|go_ret|go_end0)
  exact⟨by rw [HS.out];rfl,Below.refl _ _⟩
 ·have hkd:decide ((k:Int)≤2222)=false:=decide_eq_false (by omega);gi_wp2_with (gi_at_call 71;refine stop ?_)
  unfold Stop;refine(zbO w _ n HM.out HN.out HTab.out).mono ?_;rintro e w2 ⟨rfl,hB⟩;obtain⟨S,hS⟩:∃S:ByteArray,(⟨(Lib.decDigits n).toArray⟩:ByteArray)=S:=⟨_,rfl⟩;have hsz:S.size=Lib.nDigits n:=by rw [←hS,zcy,Lib.decDigits_length]
  rw [hS];obtain⟨d,hd⟩:∃d,Lib.nDigits n=d:=⟨_,rfl⟩;have HS:Hid (zeU n=decide (d≤20000)):=zHi (by unfold zeU;rw [hd]);rw [hd]at hsz;clear hS hd;gi_wp2;all_goals (first|go_returns|go_ret|go_end0)
  refine⟨?_,hB⟩;rw [HS.out];show Ending.returned (Value.bool (decide ((d:Int)≤20000)))=Ending.returned (Value.bool (decide (d≤20000)))
  rw [show decide ((d:Int)≤20000)=decide (d≤20000)from decide_eq_decide.2 (by omega)]
def zc1(q:Rat):Bool:=zeU q.num.natAbs && zeU (if q.den=1 then 0 else q.den)
theorem ze9(w:World)(v:Value)(q:Rat)(h:zao w v q)(hq:zar q 100000)(hs:zc1 q=true)(htab:zaU w) :
  CallsIn Fence.wide 0 Tryz.prog 67 #[v] w fun e w'=>∃v',e = .returned v'∧zao w' v' q∧Below w.heap.size w w':=by
 have HR:=zHi h;obtain⟨vn,vd,rfl,hn,hd⟩:=h;have HN:=zHi hn;have HD:=zHi hd;obtain⟨sg,hsg⟩:∃sg,decide (q.num<0)=sg:=⟨_,rfl⟩;obtain⟨o1,k1,c1,rfl,_,_⟩:=zaM hn;obtain⟨o2,k2,c2,rfl,_,_⟩:=zaM hd;rw [hsg]at HR;rw [hsg];have hs1:zeU q.num.natAbs=true:=by unfold zc1 at hs;rw [Bool.and_eq_true]at hs;exact hs.1
 have hs2:zeU (if q.den=1 then 0 else q.den)=true:=by unfold zc1 at hs;rw [Bool.and_eq_true]at hs;exact hs.2
 have HS1:=zHi hs1;have HS2:=zHi hs2;obtain⟨W0,hW0⟩:∃W,W=w.alloc (.cells #[.bool sg,.slice o1 k1 c1,.slice o2 k2 c2] 25):=⟨_,rfl⟩;have h0s:W0.heap.size=w.heap.size+1:=by rw [hW0];simp
 obtain⟨W1,hW1⟩:∃W,W=W0.alloc (.cells #[.bool false,.slice none 0 0,.slice none 0 0] 25):=⟨_,rfl⟩;have HX:Hid (Box3 W1 w.heap.size (.bool sg) (.slice o1 k1 c1) (.slice o2 k2 c2)):=zHi (by rw [hW1];exact Box3.below (by rw [hW0];exact zbC _ _ _ _ _) (zaa _ _));have HK:Hid (Own3 W0 W1):=by rw [hW1];exact ze5 _ _ _ _ _
 have HE:Hid (Elem W1 W0.heap.size 25):=zHi (by rw [hW1];exact zaA _ _ _);have HB0:Hid (Below w.heap.size w W0):=zHi (by rw [hW0];exact zaa _ _);have HBW:Hid (Below w.heap.size w W1):=zHi (HB0.out.trans (HK.out.2.2.mono HB0.out.size));have HP:=zHi hq;have HTab:=zHi htab;have y0:=HX.out.c0;have y1:=HX.out.c1;have y2:=HX.out.c2;clear hn hd hsg hq htab hs hs1 hs2;refine callsIn_of_wp Tryz.func67 rfl trivial ?_ rfl;simp only [Tryz.ntmps67,ztE,ztF,ztG,Nat.reduceAdd,Nat.reduceSub,ztH,ztI,ztJ,ztK,ztL,ztM];gi_wp2_with (gi_at_call 110;refine stop ?_)
 unfold Stop;rw [←hW0,←hW1];obtain⟨g,hg⟩:∃g,w.heap.size=g:=⟨_,rfl⟩;rw [hg]at HX h0s y0 y1 y2;rw [hg];obtain⟨g2,hg2⟩:∃g2,W0.heap.size=g2:=⟨_,rfl⟩;have hg2':g+1=g2:=by omega
 have HE2:Hid (Elem W1 g2 25):=by rw [←hg2];exact HE
 have HA2:Hid (∃f,zaf W1 g2 3 f):=by rw [←hg2];exact HK.out.1
 have hl2:g2<W1.heap.size:=by rw [←hg2];exact HK.out.2.1
 have hgw:w.heap.size≤g2:=by omega
 rw [hg2'];clear hW0 hW1 HE HK HB0 h0s hg2 hg;refine(zcX W1 _ _ (HN.out.below HBW.out) HP.out.1 (HTab.out.below HBW.out)).mono ?_;rintro e w2 ⟨rfl,hB⟩;replace HX:=zHi (HX.out.below hB);replace HBW:=zHi (HBW.out.trans (hB.mono HBW.out.size));replace HE2:=zHi (HE2.out.below hB hl2);replace HA2:Hid (∃f,zaf w2 g2 3 f):=zHi (HA2.out.elim fun f hf=>⟨f,hf.below hl2 hB⟩);replace hl2:=Nat.lt_of_lt_of_le hl2 hB.size;rw [HS1.out];replace y0:=HX.out.c0;replace y1:=HX.out.c1;replace y2:=HX.out.c2;clear hB;gi_wp2_with (gi_at_call 110;refine stop ?_)
 unfold Stop;refine(zcX w2 _ _ (HD.out.below HBW.out) (by split;exact zau 100000;exact HP.out.2) (HTab.out.below HBW.out)).mono ?_;rintro e w3 ⟨rfl,hB⟩;replace HX:=zHi (HX.out.below hB);replace HBW:=zHi (HBW.out.trans (hB.mono HBW.out.size));replace HE2:=zHi (HE2.out.below hB hl2);replace HA2:Hid (∃f,zaf w3 g2 3 f):=zHi (HA2.out.elim fun f hf=>⟨f,hf.below hl2 hB⟩);rw [HS2.out];replace y0:=HX.out.c0;replace y1:=HX.out.c1;replace y2:=HX.out.c2;replace HR:=zHi (HR.out.below HBW.out);obtain⟨f,hf⟩:=HA2.out;have z0:=(hf 0 (by omega)).1;have z1:=(hf 1 (by omega)).1;have z2:=(hf 2 (by omega)).1;have f0:=(hf 0 (by omega)).2;have f1:=(hf 1 (by omega)).2;have f2:=(hf 2 (by omega)).2;clear hB HA2;gi_wp2;refine zbk rfl rfl g2 rfl z0 z1 z2 ?_;refine⟨_,rfl,?_,((HBW.out.setCell hgw _).setCell hgw _).setCell hgw _⟩;exact((HR.out.setElem HE2.out (by decide)).setElem (HE2.out.setCell _ _) (by decide)).setElem ((HE2.out.setCell _ _).setCell _ _) (by decide)
end Go.Num
namespace Go.Num
open Go.Eng Go.Shelf Go.RowKit Go.Proofs Go.Proofs.YtoamcgjbelhnkaaGreatDoor
theorem l26:zcB Tryz.prog 26:=zbP (by kernel_rfl)
theorem zed(w:World)(v:Value)(q:Rat)(h:zao w v q)(hq:zar q 100000)(hs:zc1 q=true)(htab:zaU w) :
  CallsIn Fence.wide 0 Tryz.prog 66 #[.func (.func 67) #[v] #[]] w fun e w'=>∃v',e = .returned (.tuple #[v',.int .i64 0])∧zao w' v' q∧Below w.heap.size w w':=by
 have hmf:∀(fn:Fn) (first cap:Array Value) (w:World),(Instr.makeFunc fn first cap).run Tryz.prog w = .ok (.func fn first cap) w:=fun _ _ _ _=>rfl
 have HR:=zHi h;have HP:=zHi hq;have HS:=zHi hs;have HTab:=zHi htab;obtain⟨o,k,c,o2,k2,c2,rfl⟩:=h.form;clear h hq hs htab;gi_enter_defers Tryz.func66,Tryz.ntmps66
 gi_wp2_with (gi_at_call 67;refine stop ?_)
 unfold Stop;obtain⟨W0,hW0⟩:∃W,W=w.alloc (.cells #[.bool false,.slice none 0 0,.slice none 0 0] 25):=⟨_,rfl⟩;have h0s:W0.heap.size=w.heap.size+1:=by rw [hW0];simp
 obtain⟨W1,hW1⟩:∃W,W=W0.alloc (.cells #[.int .i64 0] 26):=⟨_,rfl⟩;rw [←hW0,←hW1];have HA:Hid (∃f,zaf W1 w.heap.size 3 f):=zHi ⟨fun i => [.bool false,.slice none 0 0,.slice none 0 0].getD i (.bool false),by
  rw [hW1];refine zaf.alloc ?_ (by omega) _;rw [hW0];exact zaf.new _ _ _ fun i hi=>by
   have:i=0∨i=1∨i=2:=by omega
   rcases this with rfl|rfl|rfl <;> rfl⟩
 have HA2:Hid (∃f,zaf W1 (w.heap.size+1) 1 f):=zHi ⟨fun i => .int .i64 0,by
  rw [hW1,←h0s];exact zaf.new _ _ _ fun i hi=>by
   have:i=0:=by omega
   rw [this];rfl⟩
 have HE:Hid (Elem W1 w.heap.size 25):=zHi ((by rw [hW0];exact zaA _ _ _:Elem W0 w.heap.size 25).below (by rw [hW1];exact zaa _ _) (by omega));have HE2:Hid (Elem W1 (w.heap.size+1) 26):=zHi (by rw [hW1,←h0s];exact zaA _ _ _);have HBW:Hid (Below w.heap.size w W1):=zHi (by rw [hW1,hW0];exact(zaa _ _).alloc (by simp) _);have hl:w.heap.size+1<W1.heap.size:=by rw [hW1];simp;omega
 obtain⟨g,hg⟩:∃g,w.heap.size=g:=⟨_,rfl⟩;rw [hg]at HA HA2 HE HE2 hl;rw [hg];have hgw:w.heap.size≤g:=by omega
 clear hW0 hW1 h0s hg;refine(ze9 W1 _ q (HR.out.below HBW.out) HP.out HS.out (HTab.out.below HBW.out)).mono ?_;rintro e w2 ⟨v2,rfl,hr2,hB⟩;obtain⟨p,l,d,p2,l2,d2,rfl⟩:=hr2.form;have HR2:=zHi hr2;replace HBW:=zHi (HBW.out.trans (hB.mono HBW.out.size));replace HE:=zHi (HE.out.below hB (by omega));replace HE2:=zHi (HE2.out.below hB (by omega));obtain⟨f,hf⟩:=HA.out;obtain⟨f2,hf2⟩:=HA2.out;have ha:=hf.below (by omega) hB;have ha2:=hf2.below (by omega) hB;have z0:=(ha 0 (by omega)).1;have z1:=(ha 1 (by omega)).1;have z2:=(ha 2 (by omega)).1;have y0:=(ha 0 (by omega)).2;have y1:=(ha 1 (by omega)).2;have y2:=(ha 2 (by omega)).2;have x0:=(ha2 0 (by omega)).1;have x1:=(ha2 0 (by omega)).2;have HA9:=zHi ha;have HA8:=zHi ha2;clear hr2 hB ha ha2 hf hf2 HA HA2;obtain⟨sg,hsg⟩:∃sg,decide (q.num<0)=sg:=⟨_,rfl⟩;rw [hsg]at HR2;rw [hsg];gi_wp2;have hB3:Below w.heap.size w ((((w2.setCell ⟨g,0,none⟩ (.bool sg)).setCell ⟨g,1,none⟩ (.slice p l d)).setCell ⟨g,2,none⟩ (.slice p2 l2 d2)).setCell ⟨g+1,0,none⟩ (.int .i64 0)):=
  (((HBW.out.setCell hgw _).setCell hgw _).setCell hgw _).setCell (by show w.heap.size≤g+1;omega) _
 refine leavesIn_cons (f:=109) (args:=#[.pointer (some ⟨g,0,none⟩),.pointer (some ⟨g+1,0,none⟩)]) (by simp) (by simp) (by simp [go_sem]) (by simp [Target.leads]) ?_;refine(zhG.2 _ _).mono ?_;rintro e u' w'' ⟨⟨v3,rfl⟩,rfl,hh,hb⟩;refine⟨.tuple #[.agg #[.bool sg,.slice p l d,.slice p2 l2 d2],.int .i64 0],?_,_,rfl,?_,?_⟩
 ·have h3:=((HA9.out.set (i:=0) (by omega) (.bool sg)).set (i:=1) (by omega) (.slice p l d)).set (i:=2) (by omega) (.slice p2 l2 d2);have n3:∀j:Nat,(⟨g,j,none⟩:Addr)≠⟨g+1,0,none⟩:=fun j e=>by injection e with e _ _;omega
  have n4:∀j:Nat,(⟨g+1,0,none⟩:Addr)≠⟨g,j,none⟩:=fun j e=>by injection e with e _ _;omega
  have b3:Box3 ((((w2.setCell ⟨g,0,none⟩ (.bool sg)).setCell ⟨g,1,none⟩ (.slice p l d)).setCell ⟨g,2,none⟩ (.slice p2 l2 d2)).setCell ⟨g+1,0,none⟩ (.int .i64 0)) g (.bool sg) (.slice p l d) (.slice p2 l2 d2):=fun j v hj=>by
   rw [World.cell?_setCell_other _ _ _ _ (n4 j)];match j,hj with
   | 0,hj=>rw [←hj];exact(h3 0 (by omega)).1
   | 1,hj=>rw [←hj];exact(h3 1 (by omega)).1
   | 2,hj=>rw [←hj];exact(h3 2 (by omega)).1
   | n+3,hj=>simp at hj
  have c3:((((w2.setCell ⟨g,0,none⟩ (.bool sg)).setCell ⟨g,1,none⟩ (.slice p l d)).setCell ⟨g,2,none⟩ (.slice p2 l2 d2)).setCell ⟨g+1,0,none⟩ (.int .i64 0)).cell? ⟨g+1,0,none⟩=some (.int .i64 0):=
   World.cell?_setCell_same _ _ _ (by rw [World.cell?_setCell_other _ _ _ _ (n3 2),World.cell?_setCell_other _ _ _ _ (n3 1),World.cell?_setCell_other _ _ _ _ (n3 0)];exact x0)
  have e1:=l25 g [.bool sg,.slice p l d,.slice p2 l2 d2] w'' rfl (b3.below hb);have e2:=l26 ⟨g+1,0,none⟩ _ w'' ((hb.cell (World.block_lt_of_cell? _ _ c3)).trans c3);simp only [Instr.loadAt,Instr.sureAddr,Sem.run_bind,Sem.run_pure,Result.andThen_ok]at e1 e2;simp [results,asAddr,e1,e2]
 ·have h4:=(((HR2.out.setElem (i:=0) (u:=.bool sg) HE.out (by decide)).setElem (i:=1) (u:=.slice p l d) (HE.out.setCell _ _) (by decide)).setElem (i:=2) (u:=.slice p2 l2 d2) ((HE.out.setCell _ _).setCell _ _) (by decide)).setElem (i:=0) (u:=.int .i64 0) (((HE2.out.setCell _ _).setCell _ _).setCell _ _) (by decide);exact h4.below hb
 ·exact hB3.trans (hb.mono hB3.size)
def tooL:List PanicEntry:=[{v:=.iface 152 (.agg #[]),recovered:=false}]
theorem zmS(w:World)(v:Value)(q:Rat)(h:zao w v q)(hq:zar q 100000)(hs:zc1 q=false)(htab:zaU w) :
  CallsIn Fence.wide 0 Tryz.prog 67 #[v] w fun e w'=>e = .panicked tooL∧Below w.heap.size w w':=by
 obtain⟨vn,vd,rfl,hn,hd⟩:=h;have HN:=zHi hn;have HD:=zHi hd;obtain⟨sg,hsg⟩:∃sg,decide (q.num<0)=sg:=⟨_,rfl⟩;obtain⟨o1,k1,c1,rfl,_,_⟩:=zaM hn;obtain⟨o2,k2,c2,rfl,_,_⟩:=zaM hd;rw [hsg];obtain⟨W0,hW0⟩:∃W,W=w.alloc (.cells #[.bool sg,.slice o1 k1 c1,.slice o2 k2 c2] 25):=⟨_,rfl⟩;have h0s:W0.heap.size=w.heap.size+1:=by rw [hW0];simp
 obtain⟨W1,hW1⟩:∃W,W=W0.alloc (.cells #[.bool false,.slice none 0 0,.slice none 0 0] 25):=⟨_,rfl⟩;have HX:Hid (Box3 W1 w.heap.size (.bool sg) (.slice o1 k1 c1) (.slice o2 k2 c2)):=zHi (by rw [hW1];exact Box3.below (by rw [hW0];exact zbC _ _ _ _ _) (zaa _ _));have HB0:Hid (Below w.heap.size w W0):=zHi (by rw [hW0];exact zaa _ _);have HBW:Hid (Below w.heap.size w W1):=zHi (HB0.out.trans ((by rw [hW1];exact zaa _ _:Below W0.heap.size W0 W1).mono HB0.out.size));have HP:=zHi hq;have HTab:=zHi htab;have HS:=zHi hs;have y0:=HX.out.c0;have y1:=HX.out.c1;have y2:=HX.out.c2;clear hn hd hsg hq htab hs;refine callsIn_of_wp Tryz.func67 rfl trivial ?_ rfl;simp only [Tryz.ntmps67,ztE,ztF,ztG,Nat.reduceAdd,Nat.reduceSub,ztH,ztI,ztJ,ztK,ztL,ztM];gi_wp2_with (gi_at_call 110;refine stop ?_)
 unfold Stop;rw [←hW0,←hW1];obtain⟨g,hg⟩:∃g,w.heap.size=g:=⟨_,rfl⟩;rw [hg]at HX h0s y0 y1 y2;rw [hg];clear hW0 hW1 HB0 h0s hg;refine(zcX W1 _ _ (HN.out.below HBW.out) HP.out.1 (HTab.out.below HBW.out)).mono ?_;rintro e w2 ⟨rfl,hB⟩;replace HX:=zHi (HX.out.below hB);replace HBW:=zHi (HBW.out.trans (hB.mono HBW.out.size));replace y0:=HX.out.c0;replace y1:=HX.out.c1;replace y2:=HX.out.c2;clear hB
 cases hs1:zeU q.num.natAbs with
 | false=>
  clear hs1;gi_wp2;exact⟨rfl,rfl,HBW.out⟩
 | true=>
  have HS2:Hid (zeU (if q.den=1 then 0 else q.den)=false):=zHi (by have:=HS.out;unfold zc1 at this;rw [hs1,Bool.true_and]at this;exact this);clear hs1;gi_wp2_with (gi_at_call 110;refine stop ?_)
  unfold Stop;refine(zcX w2 _ _ (HD.out.below HBW.out) (by split;exact zau 100000;exact HP.out.2) (HTab.out.below HBW.out)).mono ?_;rintro e w3 ⟨rfl,hB⟩;replace HBW:=zHi (HBW.out.trans (hB.mono HBW.out.size));rw [HS2.out];replace HX:=zHi (HX.out.below hB);replace y0:=HX.out.c0;replace y1:=HX.out.c1;replace y2:=HX.out.c2;clear hB;gi_wp2;exact⟨rfl,rfl,HBW.out⟩
def zge(w:World)(g:Nat):World:=
 (((((w.alloc (.cells #[] 152)).alloc (.cells #[.bool false,.slice none 0 0,.slice none 0 0] 25)).setCell ⟨g,0,none⟩ (.bool false)).setCell ⟨g,1,none⟩ (.slice none 0 0)).setCell ⟨g,2,none⟩ (.slice none 0 0)).setCell ⟨g+1,0,none⟩ (.int .i64 11)
theorem zqU(g:Nat)(w:World)(f f2:Nat→Value)(hg:g+1<w.heap.size)(hA:zaf w g 3 f)(hA2:zaf w (g+1) 1 f2) :
  CallsDIn Fence.wide 0 Tryz.prog 109 #[.pointer (some ⟨g,0,none⟩),.pointer (some ⟨g+1,0,none⟩)] (.panicking tooL) w fun e u' w'=>
   e = .returned (.tuple #[])∧u' = .panicking [{v:=.iface 152 (.agg #[]),recovered:=true}]∧w'=zge w g:=by
 have hB:=(hA.alloc (by omega) (Obj.cells #[] 152)).alloc (by simp;omega) (Obj.cells #[.bool false,.slice none 0 0,.slice none 0 0] 25);have hB2:=(hA2.alloc (by omega) (Obj.cells #[] 152)).alloc (by simp;omega) (Obj.cells #[.bool false,.slice none 0 0,.slice none 0 0] 25);have z0:=(hB 0 (by omega)).1;have z1:=(hB 1 (by omega)).1;have z2:=(hB 2 (by omega)).1;have y0:=(hB 0 (by omega)).2;have y1:=(hB 1 (by omega)).2;have y2:=(hB 2 (by omega)).2;have x0:=(hB2 0 (by omega)).1;have x1:=(hB2 0 (by omega)).2;clear hB hB2;refine callsDIn_of_wpSIn Tryz.func109 rfl trivial fun c₀ cs hu => ?_
 simp only [show Tryz.f109.ntmps=18 from rfl,ztE,ztF,ztG,Nat.reduceAdd,Nat.reduceSub,ztH,ztI,ztJ,ztK,ztL,ztM];unfold tooL at hu;apply wpSIn_seq
 apply wpSIn_region
 simp [wpOpsSIn,go_sem,recoverD,hu,Exit.thenS]
 apply wpSIn_seq
 apply wpSIn_region
 simp [wpOpsSIn,go_sem,Exit.thenS]
 refine wpSIn_cond (t:=true) (by simp [Act.eval]) ?_;simp only [if_true];refine wpSIn_of_wpIn rfl ?_;clear hA hA2;have hta:∀w:World,(Instr.typeAssert (.iface 152 (.agg #[])) 20 152 true).run Tryz.prog w = .ok (.tuple #[.agg #[],.bool true]) w:=fun w=>by kernel_rfl
 gi_wp2;exact⟨rfl,_,rfl,.tuple #[],by simp [results],rfl,rfl,rfl⟩
theorem zjb(w:World)(v:Value)(q:Rat)(h:zao w v q)(hq:zar q 100000)(hs:zc1 q=false)(htab:zaU w) :
  CallsIn Fence.wide 0 Tryz.prog 66 #[.func (.func 67) #[v] #[]] w fun e w'=>∃v',e = .returned (.tuple #[v',.int .i64 11])∧zao w' v' 0∧Below w.heap.size w w':=by
 have hmf:∀(fn:Fn) (first cap:Array Value) (w:World),(Instr.makeFunc fn first cap).run Tryz.prog w = .ok (.func fn first cap) w:=fun _ _ _ _=>rfl
 have HR:=zHi h;have HP:=zHi hq;have HS:=zHi hs;have HTab:=zHi htab;obtain⟨o,k,c,o2,k2,c2,rfl⟩:=h.form;clear h hq hs htab;gi_enter_defers Tryz.func66,Tryz.ntmps66
 gi_wp2_with (gi_at_call 67;refine stop ?_)
 unfold Stop;obtain⟨W0,hW0⟩:∃W,W=w.alloc (.cells #[.bool false,.slice none 0 0,.slice none 0 0] 25):=⟨_,rfl⟩;have h0s:W0.heap.size=w.heap.size+1:=by rw [hW0];simp
 obtain⟨W1,hW1⟩:∃W,W=W0.alloc (.cells #[.int .i64 0] 26):=⟨_,rfl⟩;rw [←hW0,←hW1];have HA:Hid (∃f,zaf W1 w.heap.size 3 f):=zHi ⟨fun i => [.bool false,.slice none 0 0,.slice none 0 0].getD i (.bool false),by
  rw [hW1];refine zaf.alloc ?_ (by omega) _;rw [hW0];exact zaf.new _ _ _ fun i hi=>by
   have:i=0∨i=1∨i=2:=by omega
   rcases this with rfl|rfl|rfl <;> rfl⟩
 have HA2:Hid (∃f,zaf W1 (w.heap.size+1) 1 f):=zHi ⟨fun i => .int .i64 0,by
  rw [hW1,←h0s];exact zaf.new _ _ _ fun i hi=>by
   have:i=0:=by omega
   rw [this];rfl⟩
 have HBW:Hid (Below w.heap.size w W1):=zHi (by rw [hW1,hW0];exact(zaa _ _).alloc (by simp) _);have hl:w.heap.size+1<W1.heap.size:=by rw [hW1];simp;omega
 obtain⟨g,hg⟩:∃g,w.heap.size=g:=⟨_,rfl⟩;rw [hg]at HA HA2 hl;rw [hg];have hgw:w.heap.size≤g:=by omega
 clear hW0 hW1 h0s hg;refine(zmS W1 _ q (HR.out.below HBW.out) HP.out HS.out (HTab.out.below HBW.out)).mono ?_;rintro e w2 ⟨rfl,hB⟩;replace HBW:=zHi (HBW.out.trans (hB.mono HBW.out.size));obtain⟨f,hf⟩:=HA.out;obtain⟨f2,hf2⟩:=HA2.out;have ha:=hf.below (by omega) hB;have ha2:=hf2.below (by omega) hB;have hl2:g+1<w2.heap.size:=Nat.lt_of_lt_of_le hl hB.size;clear HA HA2 hf hf2 hB;gi_wp2;refine leavesIn_cons (f:=109) (args:=#[.pointer (some ⟨g,0,none⟩),.pointer (some ⟨g+1,0,none⟩)]) (by simp) (by simp) (by simp [go_sem]) (by simp [Target.leads]) ?_;refine(zqU g w2 f f2 hl2 ha ha2).mono ?_;rintro e u' w'' ⟨rfl,rfl,rfl⟩;show LeavesIn _ _ _ _ _ _ _ FrameMode.returning (zge w2 g)
 have n3:∀j:Nat,(⟨g,j,none⟩:Addr)≠⟨g+1,0,none⟩:=fun j e=>by injection e with e _ _;omega
 have n4:∀j:Nat,(⟨g+1,0,none⟩:Addr)≠⟨g,j,none⟩:=fun j e=>by injection e with e _ _;omega
 have hW:=(ha.alloc (by omega) (Obj.cells #[] 152)).alloc (by simp;omega) (Obj.cells #[.bool false,.slice none 0 0,.slice none 0 0] 25);have hW2:=(ha2.alloc (by omega) (Obj.cells #[] 152)).alloc (by simp;omega) (Obj.cells #[.bool false,.slice none 0 0,.slice none 0 0] 25);have h3:=((hW.set (i:=0) (by omega) (.bool false)).set (i:=1) (by omega) (.slice none 0 0)).set (i:=2) (by omega) (.slice none 0 0);have hsz:=HBW.out.size;have hB3:Below w.heap.size w (zge w2 g):=by
  unfold zge;exact(((((HBW.out.alloc hsz _).alloc (by simp;omega) _).setCell hgw _).setCell hgw _).setCell hgw _).setCell (by show w.heap.size≤g+1;omega) _
 have b3:Box3 (zge w2 g) g (.bool false) (.slice none 0 0) (.slice none 0 0):=fun j v hj=>by
  unfold zge;rw [World.cell?_setCell_other _ _ _ _ (n4 j)];match j,hj with
  | 0,hj=>rw [←hj];exact(h3 0 (by omega)).1
  | 1,hj=>rw [←hj];exact(h3 1 (by omega)).1
  | 2,hj=>rw [←hj];exact(h3 2 (by omega)).1
  | n+3,hj=>simp at hj
 have c3:(zge w2 g).cell? ⟨g+1,0,none⟩=some (.int .i64 11):=by
  unfold zge;exact World.cell?_setCell_same _ _ _ (by rw [World.cell?_setCell_other _ _ _ _ (n3 2),World.cell?_setCell_other _ _ _ _ (n3 1),World.cell?_setCell_other _ _ _ _ (n3 0)];exact(hW2 0 (by omega)).1)
 obtain⟨W,hWW⟩:∃W,zge w2 g=W:=⟨_,rfl⟩;rw [hWW]at b3 c3 hB3 ⊢;refine⟨.tuple #[.agg #[.bool false,.slice none 0 0,.slice none 0 0],.int .i64 11],?_,_,rfl,zaL _,hB3⟩;have e1:=l25 g [.bool false,.slice none 0 0,.slice none 0 0] W rfl b3;have e2:=l26 ⟨g+1,0,none⟩ _ W c3;simp only [Instr.loadAt,Instr.sureAddr,Sem.run_bind,Sem.run_pure,Result.andThen_ok]at e1 e2;simp [results,asAddr,e1,e2]
end Go.Num
namespace Go.Eng
open Go.RowKit
def AT.beq:AT→AT→Bool
 | .tag a,.tag b=>a.beq b
 | .val a,.val b=>a.beq b
 | .agg a,.agg b=>a.beq b
 | .fn f a b,.fn g c d=>Nat.beq f g && a.beq c && b.beq d
 | .nil,.nil=>true
 | .cons a b,.cons c d=>a.beq c && b.beq d
 | _,_=>false
theorem AT.eq_of_beq{a:AT}:∀{b:AT},a.beq b=true→a=b:=by
 induction a with
 | tag t=>intro b h;cases b <;> simp only [AT.beq,Bool.false_eq_true]at h;rw [Tg.eq_of_beq h]
 | val v=>intro b h;cases b <;> simp only [AT.beq,Bool.false_eq_true]at h;rw [AV.beq_eq h]
 | agg a ih=>intro b h;cases b <;> simp only [AT.beq,Bool.false_eq_true]at h;rw [ih h]
 | fn f a c ih1 ih2=>
  intro b h;cases b <;> simp only [AT.beq,Bool.and_eq_true,Bool.false_eq_true]at h;rw [Nat.eq_of_beq_eq_true h.1.1,ih1 h.1.2,ih2 h.2]
 | nil=>intro b h;cases b <;> simp only [AT.beq,Bool.false_eq_true]at h;rfl
 | cons a c ih1 ih2=>
  intro b h;cases b <;> simp only [AT.beq,Bool.and_eq_true,Bool.false_eq_true]at h;rw [ih1 h.1,ih2 h.2]
structure Leaf(res:List TypeId) where
 sh:Sh
 I:Value→World→Prop
 stable:∀v w w',Go.Eng.Kept res w w'→I v w→I v w'
 ok:∀v w,I v w→ShOK sh v
 det:sh = .str→∀v v' w,I v w→I v' w→v=v'
def clsL(S:List Sh):Tg→Sh
 | .leaf k=>S.getD k .one
 | _ => .one
def Leaf.at{res:List TypeId}(env:List (Leaf res))(t:Tg)(v:Value)(w:World):Prop:=
 match t with
 | .leaf k=>match env[k]? with
  | some p=>p.I v w
  | none=>False
 | _=>False
def Gs{res:List TypeId}(env:List (Leaf res)):Sett where
 ids:=[]
 res:=res
 I:=Leaf.at env
 stable:=by
  intro t v w w' hk h;unfold Leaf.at at h ⊢;split at h
  ·split at h
   ·rename_i p hp;exact p.stable v w w' hk h
   ·exact h.elim
  ·exact h.elim
theorem zsB{res:List TypeId}{env:List (Leaf res)}{S:List Sh}(hS:env.map (·.sh)=S):zgh (Gs env) (clsL S) where
 ok:=by
  intro t v w h;replace h:Leaf.at env t v w:=h;unfold Leaf.at at h;split at h
  ·rename_i k;split at h
   ·rename_i p hp;have e:clsL S (.leaf k)=p.sh:=by
     show S.getD k .one=_
     rw [←hS,List.getD_eq_getElem?_getD,List.getElem?_map,hp];rfl
    rw [e];exact p.ok v w h
   ·exact h.elim
  ·exact h.elim
 det:=by
  intro t ht v v' w h h';replace h:Leaf.at env t v w:=h;replace h':Leaf.at env t v' w:=h';unfold Leaf.at at h h';split at h
  ·rename_i k;split at h
   ·rename_i p hp;have e:clsL S (.leaf k)=p.sh:=by
     show S.getD k .one=_
     rw [←hS,List.getD_eq_getElem?_getD,List.getElem?_map,hp];rfl
    rw [e]at ht;simp only [hp]at h';exact p.det ht v v' w h h'
   ·exact h.elim
  ·exact h.elim
abbrev znp:=FuncId × AT × AT
def zi0:List znp→TTab
 | [],_,_=>none
 | (g,ts,rs) :: r,f,us=>bif Nat.beq f g && ts.beq us then some rs else zi0 r f us
section
variable {P:Program} {B:Nat} {w0:World} {G:Sett}
theorem zrf:zfk P B w0 G (zi0 []):=fun _ _ _ q=>by cases q
theorem zpv{g:FuncId}{ts rs:AT}{r:List znp}(hb:zkV P g)
  (h:∀w (xs:Array Value),Below B w0 w→zb2 G ts xs.toList w→Calls P g xs w fun e w'=>∃x,e = .returned x∧zdk G rs x w'∧Below w.heap.size w w')
  (k:zfk P B w0 G (zi0 r)):zfk P B w0 G (zi0 ((g,ts,rs) :: r)):=by
 intro f us rs' q;unfold zi0 at q
 cases hc:Nat.beq f g && ts.beq us with
 | true=>
  rw [hc]at q;simp only [cond_true,Option.some.injEq]at q;simp only [Bool.and_eq_true]at hc;have e1:=Nat.eq_of_beq_eq_true hc.1;have e2:=AT.eq_of_beq hc.2;subst e1;subst e2;subst q;exact⟨hb,h⟩
 | false=>
  rw [hc]at q;exact k f us rs' q
theorem zpu{g:FuncId}{a rs:AT}{r:List znp}(hb:zkV P g)
  (h:∀w v,Below B w0 w→zbm G a v w→CallsIn Fence.wide 0 P g #[v] w fun e w'=>∃x,e = .returned x∧zdk G rs x w'∧Below w.heap.size w w')
  (k:zfk P B w0 G (zi0 r)):zfk P B w0 G (zi0 ((g,.cons a .nil,rs) :: r)):=by
 refine zpv hb (fun w xs hw hx => ?_) k;obtain⟨v,r,e,h1,h2⟩:=hx;have h2:r = []:=h2;subst h2;have:xs=#[v]:=Array.toList_inj.1 (by simpa using e);subst this;exact callsIn_wide.1 (h w v hw h1)
theorem zoO{res:List TypeId}{env:List (Leaf res)}{S:List Sh}{L:List znp}{w:World}(hm:P.follows .mixedOrders=true)(hN:zbr P)(hS:env.map (·.sh)=S)(hT:zfk P w.heap.size w (Gs env) (zi0 L))
  {n:Nat} {f:FuncId} {ts rs:AT} (h:runF P (clsL S) (zi0 L) res [] n f ts=some rs) {xs:Array Value} (hx:zb2 (Gs env) ts xs.toList w) :
  CallsIn Fence.wide 0 P f xs w fun e w'=>∃x,e = .returned x∧zdk (Gs env) rs x w'∧Below w.heap.size w w':=
 callsIn_wide.2 (zjr hm hN (zsB hS) rfl hT (by simp) h hx)
end
end Go.Eng
namespace Go.Num
open Go.Eng Go.Shelf Go.RowKit Go.Proofs Go.Proofs.YtoamcgjbelhnkaaGreatDoor
theorem zpl(w:World)(va vb:Value)(p q:Rat)(L:Nat)(ha:zao w va p)(hb:zao w vb q)(hp:zar p L)(hq:zar q L)(hL:L≤1000000)(hr:zar (p+q) 100000)(hs:zc1 (p+q)=true)(htab:zaU w) :
  CallsIn Fence.wide 0 Tryz.prog 39 #[va,vb] w fun e w'=>∃v',e = .returned (.tuple #[v',.int .i64 0])∧zao w' v' (p+q)∧Below w.heap.size w w':=by
 have HA:=zHi ha;have HB:=zHi hb;have HP:=zHi hp;have HQ:=zHi hq;have HR:=zHi hr;have HS:=zHi hs;have HTab:=zHi htab;obtain⟨o1,k1,c1,o2,k2,c2,rfl⟩:=ha.form;obtain⟨o3,k3,c3,o4,k4,c4,rfl⟩:=hb.form;obtain⟨sa,hsa⟩:∃sa,decide (p.num<0)=sa:=⟨_,rfl⟩;obtain⟨sb,hsb⟩:∃sb,decide (q.num<0)=sb:=⟨_,rfl⟩;rw [hsa]at HA;rw [hsb]at HB;rw [hsa,hsb];clear ha hb hp hq hr hs htab hsa hsb;refine callsIn_of_wp Tryz.func39 rfl trivial ?_ rfl;simp only [Tryz.ntmps39,ztE,ztF,ztG,Nat.reduceAdd,Nat.reduceSub,ztH,ztI,ztJ,ztK,ztL,ztM];gi_wp2_with (gi_at_call 93;refine stop ?_)
 unfold Stop;obtain⟨W,hW⟩:∃W,W=((w.alloc (Obj.cells #[Value.bool sa,.slice o1 k1 c1,.slice o2 k2 c2] 25)).alloc (Obj.cells #[Value.bool sb,.slice o3 k3 c3,.slice o4 k4 c4] 25)).alloc (Obj.cells #[Value.bool false,Value.slice none 0 0,Value.slice none 0 0] 25):=⟨_,rfl⟩;rw [←hW];have HK:Hid (zdj w W w.heap.size (.bool sa) (.slice o1 k1 c1) (.slice o2 k2 c2) (.bool sb) (.slice o3 k3 c3) (.slice o4 k4 c4)):=by
  rw [hW];exact zdc w _ _ _ _ _ _ _ _ _ _
 obtain⟨g,hg⟩:∃g,w.heap.size=g:=⟨_,rfl⟩;rw [hg]at HK;rw [hg];clear hW;refine(zju W _ _ p q L (HA.out.below HK.out.below) (HB.out.below HK.out.below) HP.out HQ.out hL).mono ?_;rintro e w2 ⟨v2,rfl,hr2,hB⟩;replace HK:=zHi (HK.out.step hB);have HR2:=zHi hr2;clear hr2 hB;gi_wp2_with (gi_at_call 66;refine stop ?_)
 unfold Stop;refine(zed w2 v2 (p+q) HR2.out HR.out HS.out (HTab.out.below HK.out.below)).mono ?_;rintro e w3 ⟨v3,rfl,hr3,hB⟩;replace HK:=zHi (HK.out.step hB);obtain⟨o5,k5,c5,o6,k6,c6,rfl⟩:=hr3.form;have HR3:=zHi hr3;clear hr3 hB HR2;obtain⟨sg,hsg⟩:∃sg,decide ((p+q).num<0)=sg:=⟨_,rfl⟩;rw [hsg]at HR3;rw [hsg];obtain⟨f,hf⟩:=HK.out.res;have z0:=(hf 0 (by omega)).1;have z1:=(hf 1 (by omega)).1;have z2:=(hf 2 (by omega)).1;have y0:=(hf 0 (by omega)).2;have y1:=(hf 1 (by omega)).2;have y2:=(hf 2 (by omega)).2;have HE:=zHi HK.out.el;have hle:w.heap.size≤g+1+1:=by omega
 clear hf;gi_wp2;refine zaD rfl rfl (g+1+1) rfl rfl z0 z1 z2 ?_;refine⟨_,rfl,?_,((HK.out.below.setCell hle _).setCell hle _).setCell hle _⟩;exact((HR3.out.setElem HE.out (by decide)).setElem (HE.out.setCell _ _) (by decide)).setElem ((HE.out.setCell _ _).setCell _ _) (by decide)
theorem zgz(w:World)(va vb:Value)(p q:Rat)(L:Nat)(ha:zao w va p)(hb:zao w vb q)(hp:zar p L)(hq:zar q L)(hL:L≤1000000)(hr:zar (p*q) 100000)(hs:zc1 (p*q)=true)(htab:zaU w) :
  CallsIn Fence.wide 0 Tryz.prog 41 #[va,vb] w fun e w'=>∃v',e = .returned (.tuple #[v',.int .i64 0])∧zao w' v' (p*q)∧Below w.heap.size w w':=by
 have HA:=zHi ha;have HB:=zHi hb;have HP:=zHi hp;have HQ:=zHi hq;have HR:=zHi hr;have HS:=zHi hs;have HTab:=zHi htab;obtain⟨o1,k1,c1,o2,k2,c2,rfl⟩:=ha.form;obtain⟨o3,k3,c3,o4,k4,c4,rfl⟩:=hb.form;obtain⟨sa,hsa⟩:∃sa,decide (p.num<0)=sa:=⟨_,rfl⟩;obtain⟨sb,hsb⟩:∃sb,decide (q.num<0)=sb:=⟨_,rfl⟩;rw [hsa]at HA;rw [hsb]at HB;rw [hsa,hsb];clear ha hb hp hq hr hs htab hsa hsb;refine callsIn_of_wp Tryz.func41 rfl trivial ?_ rfl;simp only [Tryz.ntmps41,ztE,ztF,ztG,Nat.reduceAdd,Nat.reduceSub,ztH,ztI,ztJ,ztK,ztL,ztM];gi_wp2_with (gi_at_call 94;refine stop ?_)
 unfold Stop;obtain⟨W,hW⟩:∃W,W=((w.alloc (Obj.cells #[Value.bool sa,.slice o1 k1 c1,.slice o2 k2 c2] 25)).alloc (Obj.cells #[Value.bool sb,.slice o3 k3 c3,.slice o4 k4 c4] 25)).alloc (Obj.cells #[Value.bool false,Value.slice none 0 0,Value.slice none 0 0] 25):=⟨_,rfl⟩;rw [←hW];have HK:Hid (zdj w W w.heap.size (.bool sa) (.slice o1 k1 c1) (.slice o2 k2 c2) (.bool sb) (.slice o3 k3 c3) (.slice o4 k4 c4)):=by
  rw [hW];exact zdc w _ _ _ _ _ _ _ _ _ _
 obtain⟨g,hg⟩:∃g,w.heap.size=g:=⟨_,rfl⟩;rw [hg]at HK;rw [hg];clear hW;refine(zfm W _ _ p q L (HA.out.below HK.out.below) (HB.out.below HK.out.below) HP.out HQ.out hL).mono ?_;rintro e w2 ⟨v2,rfl,hr2,hB⟩;replace HK:=zHi (HK.out.step hB);have HR2:=zHi hr2;clear hr2 hB;gi_wp2_with (gi_at_call 66;refine stop ?_)
 unfold Stop;refine(zed w2 v2 (p*q) HR2.out HR.out HS.out (HTab.out.below HK.out.below)).mono ?_;rintro e w3 ⟨v3,rfl,hr3,hB⟩;replace HK:=zHi (HK.out.step hB);obtain⟨o5,k5,c5,o6,k6,c6,rfl⟩:=hr3.form;have HR3:=zHi hr3;clear hr3 hB HR2;obtain⟨sg,hsg⟩:∃sg,decide ((p*q).num<0)=sg:=⟨_,rfl⟩;rw [hsg]at HR3;rw [hsg];obtain⟨f,hf⟩:=HK.out.res;have z0:=(hf 0 (by omega)).1;have z1:=(hf 1 (by omega)).1;have z2:=(hf 2 (by omega)).1;have y0:=(hf 0 (by omega)).2;have y1:=(hf 1 (by omega)).2;have y2:=(hf 2 (by omega)).2;have HE:=zHi HK.out.el;have hle:w.heap.size≤g+1+1:=by omega
 clear hf;gi_wp2;refine zaD rfl rfl (g+1+1) rfl rfl z0 z1 z2 ?_;refine⟨_,rfl,?_,((HK.out.below.setCell hle _).setCell hle _).setCell hle _⟩;exact((HR3.out.setElem HE.out (by decide)).setElem (HE.out.setCell _ _) (by decide)).setElem ((HE.out.setCell _ _).setCell _ _) (by decide)
theorem zpW{q:Rat}(h:q.num≠0):sgnR q≠0:=by
 unfold sgnR;split
 ·decide
 ·decide
theorem zlc{q:Rat}(h:q.num=0):sgnR q=0:=by
 unfold sgnR;rw [if_neg (by omega),if_pos h]
end Go.Num
namespace Go.Num
open Go.Eng Go.Shelf Go.RowKit Go.Proofs Go.Proofs.YtoamcgjbelhnkaaGreatDoor
end Go.Num
namespace Go.Num
open Go.Eng Go.Shelf Go.RowKit Go.Proofs Go.Proofs.YtoamcgjbelhnkaaGreatDoor
abbrev rs3:List TypeId:=[3,111]
theorem zao.kept{w w':World}{v:Value}{q:Rat}(h:zao w v q)(hk:Go.Eng.Kept rs3 w w'):zao w' v q:=by
 obtain⟨vn,vd,e,h1,h2⟩:=h;exact⟨vn,vd,e,h1.kept hk rfl,h2.kept hk rfl⟩
theorem QAt.kept{w w':World}{v:Value}{q:Rat}(h:QAt w v q)(hk:Go.Eng.Kept rs3 w w'):QAt w' v q:=by
 obtain⟨m1,m2,e,h1,h2⟩:=h;exact⟨m1,m2,e,h1.kept hk rfl,h2.kept hk rfl⟩
def zty(q:Rat):Leaf rs3 where
 sh:=.agg 3
 I:=fun v w=>zao w v q
 stable:=fun _ _ _ hk h=>h.kept hk
 ok:=by
  rintro v w ⟨vn,vd,rfl,h1,h2⟩;refine⟨_,rfl,rfl,fun x hx => ?_⟩;simp only [List.mem_cons,List.not_mem_nil,or_false]at hx;rcases hx with rfl|rfl|rfl
  ·rfl
  ·exact h1.oneCell
  ·exact h2.oneCell
 det:=fun h=>by cases h
def ztz(q:Rat):Leaf rs3 where
 sh:=.agg 4
 I:=fun v w=>QAt w v q
 stable:=fun _ _ _ hk h=>h.kept hk
 ok:=by
  rintro v w ⟨vn,vd,rfl,h1,h2⟩;refine⟨_,rfl,rfl,fun x hx => ?_⟩;simp only [List.mem_cons,List.not_mem_nil,or_false]at hx;rcases hx with rfl|rfl|rfl|rfl
  ·rfl
  ·exact h1.oneCell
  ·rfl
  ·exact h2.oneCell
 det:=fun h=>by cases h
def ztx(s:ByteArray):Leaf rs3 where
 sh:=.str
 I:=fun v _=>v = .string s
 stable:=fun _ _ _ _ h=>h
 ok:=by rintro v w rfl;exact⟨_,rfl⟩
 det:=by rintro _ v v' w rfl rfl;rfl
abbrev tg(k:Nat):AT:=.tag (.leaf k)
abbrev vi(n:Int):AT:=.val (.sc (.int .i64 n))
abbrev A1(a:AT):AT:=.cons a .nil
abbrev A2(a b:AT):AT:=.cons a (.cons b .nil)
abbrev shR:Sh:=.agg 3
abbrev shQ:Sh:=.agg 4
def zkF(q:Rat):Rat:=if zc1 q=true then q else 0
def zqu(q:Rat):Int:=if zc1 q=true then 0 else 11
theorem zee(w:World)(v:Value)(q:Rat)(h:zao w v q)(hq:zar q 100000)(htab:zaU w) :
  CallsIn Fence.wide 0 Tryz.prog 66 #[.func (.func 67) #[v] #[]] w fun e w'=>∃v',e = .returned (.tuple #[v',.int .i64 (zqu q)])∧zao w' v' (zkF q)∧Below w.heap.size w w':=by
 unfold zqu zkF
 cases hs:zc1 q with
 | true=>exact zed w v q h hq hs htab
 | false=>exact zjb w v q h hq hs htab
section
variable {w0:World} {env:List (Leaf rs3)} {r:List znp}
abbrev TI(w0:World)(env:List (Leaf rs3))(L:List znp):Prop:=zfk Tryz.prog w0.heap.size w0 (Gs env) (zi0 L)
theorem pk2{G:Sett}{w:World}{a b:AT}{x y:Value}(h1:zbm G a x w)(h2:zbm G b y w):zdk G (A2 a b) (.tuple #[x,y]) w:=⟨_,rfl,_,_,rfl,h1,_,_,rfl,h2,rfl⟩
theorem ps1{G:Sett}{w:World}{a:AT}{x:Value}(h1:zbm G a x w):zb2 G (A1 a) [x] w:=⟨_,_,rfl,h1,rfl⟩
end
end Go.Num
