/-
  'Check' of the reference. 'ContainsFunc' of the rows of a matrix; 'Check' of the program. 'IndexFunc' of the rows of a matrix; 'Check' of th
  Conditions: see each statement.
-/
import Derived.Test.YtoamcgjbelhnkaaGreatDoorPAA
import Derived.Test.YtoamcgjbelhnkaaGreatDoorPAR
import Derived.BigFrameIn
import Derived.SliceStrings
import Derived.Test.YtoamcgjbelhnkaaGreatDoorPAO
import Derived.Test.YtoamcgjbelhnkaaGreatDoorPAN
set_option maxRecDepth 100000
set_option maxHeartbeats 8000000
namespace Go.Num
open Go.Eng Go.Shelf Go.RowKit Go.Sort Go.Proofs Go.Proofs.YtoamcgjbelhnkaaGreatDoor
def IQ(q:Rat)(r:List Value)(w:World):Prop:=QAt w (.agg r.toArray) q
def IR(q:Rat)(r:List Value)(w:World):Prop:=zao w (.agg r.toArray) q
theorem IQ.touch{ty:TypeId}{w w':World}(ht:Touch ty w w')(hty:rs3.contains ty=false):∀q r,IQ q r w→IQ q r w':=fun _ _ h=>QAt.kept h (ht.kept hty)
theorem IR.touch{ty:TypeId}{w w':World}(ht:Touch ty w w')(hty:rs3.contains ty=false):∀q r,IR q r w→IR q r w':=fun _ _ h=>zao.kept h (ht.kept hty)
theorem IQ.below{w w':World}(h:Below w.heap.size w w'):∀q r,IQ q r w→IQ q r w':=fun _ _ k=>QAt.below k h
theorem IR.below{w w':World}(h:Below w.heap.size w w'):∀q r,IR q r w→IR q r w':=fun _ _ k=>zao.below k h
abbrev RowQ(w:World)(v:Value)(qs:List Rat):Prop:=zah w 34 4 IQ v qs
abbrev RowR(w:World)(v:Value)(qs:List Rat):Prop:=zah w 25 3 IR v qs
def zgi(qs:List Rat)(r:List Value)(w:World):Prop:=∃v,r = [v]∧RowQ w v qs
def zaF(qs:List Rat)(r:List Value)(w:World):Prop:=∃v,r = [v]∧RowR w v qs
theorem zgi.touch{ty:TypeId}{w w':World}(ht:Touch ty w w')(hty:rs3.contains ty=false)(hne:34≠ty):∀q r,zgi q r w→zgi q r w':=fun _ _ ⟨v,e,h⟩=>⟨v,e,h.touch ht hne (IQ.touch ht hty)⟩
theorem zaF.touch{ty:TypeId}{w w':World}(ht:Touch ty w w')(hty:rs3.contains ty=false)(hne:25≠ty):∀q r,zaF q r w→zaF q r w':=fun _ _ ⟨v,e,h⟩=>⟨v,e,h.touch ht hne (IR.touch ht hty)⟩
theorem zgi.below{w w':World}(h:Below w.heap.size w w'):∀q r,zgi q r w→zgi q r w':=fun _ _ ⟨v,e,k⟩=>⟨v,e,zah.below k h (IQ.below h)⟩
theorem zaF.below{w w':World}(h:Below w.heap.size w w'):∀q r,zaF q r w→zaF q r w':=fun _ _ ⟨v,e,k⟩=>⟨v,e,zah.below k h (IR.below h)⟩
abbrev MatQ(w:World)(v:Value)(m:List (List Rat)):Prop:=zah w 63 1 zgi v m
abbrev MatR(w:World)(v:Value)(m:List (List Rat)):Prop:=zah w 64 1 zaF v m
def zeW(w:World)(v:Value)(n:Nat)(f:Nat→Value):Prop:=∃o c,v = .slice o n c∧n≤9223372036854775807∧(0<n→∃a:Addr,o=some a∧a.block<w.heap.size∧∀i,i<n→w.cell? (a.add i)=some (f i))
theorem zeW.below{w w':World}{v:Value}{n:Nat}{f:Nat→Value}(h:zeW w v n f)(hb:Below w.heap.size w w'):zeW w' v n f:=by
 obtain⟨o,c,e,hn,h1⟩:=h;refine⟨o,c,e,hn,fun h0 => ?_⟩;obtain⟨a,e2,ha,hc⟩:=h1 h0;exact⟨a,e2,Nat.lt_of_lt_of_le ha hb.size,fun i hi=>(hb.cell (p:=a.add i) (by rw [zac];exact ha)).trans (hc i hi)⟩
structure zkT(w:World)(v:Value)(n:Nat)(rv:Nat→Value)(m:Nat→Nat)(s:Nat→Nat→ByteArray):Prop where
 top:zeW w v n rv
 row:∀i,i<n→zeW w (rv i) (m i) fun j => .string (s i j)
 len:∀i j,i<n→j<m i→(s i j).size≤9223372036854775807
theorem zkT.below{w w':World}{v:Value}{n:Nat}{rv:Nat→Value}{m:Nat→Nat}{s:Nat→Nat→ByteArray}(h:zkT w v n rv m s)(hb:Below w.heap.size w w'):zkT w' v n rv m s:=
 ⟨h.top.below hb,fun i hi=>(h.row i hi).below hb,h.len⟩
def zb9(s:Nat→ByteArray)(k:Nat):List Rat:=(List.range k).map fun j=>rq (s j).data.toList 50
def zcJ(m:Nat→Nat)(s:Nat→Nat→ByteArray)(most k:Nat):List (List Rat):=(List.range k).map fun i=>zb9 (s i) (min (m i) most)
theorem zjs(s:Nat→ByteArray)(k:Nat):zb9 s (k+1)=zb9 s k ++ [rq (s k).data.toList 50]:=by simp [zb9,List.range_succ]
theorem ze7(m:Nat→Nat)(s:Nat→Nat→ByteArray)(most k:Nat):zcJ m s most (k+1)=zcJ m s most k ++ [zb9 (s k) (min (m k) most)]:=by simp [zcJ,List.range_succ]
theorem zbV(s:Nat→ByteArray)(k:Nat):(zb9 s k).length=k:=by simp [zb9]
theorem zbX(m:Nat→Nat)(s:Nat→Nat→ByteArray)(most k:Nat):(zcJ m s most k).length=k:=by simp [zcJ]
theorem zlw(w:World)(v:Value)(n:Nat)(rv:Nat→Value)(m:Nat→Nat)(s:Nat→Nat→ByteArray)(most:Nat)(h:zkT w v n rv m s)(hm:most≤100)(hL:Laid w) :
  CallsIn Fence.wide 0 Tryz.prog 25 #[v,.int .i64 (most:Int)] w fun e w'=>∃v1 v2,e = .returned (.tuple #[v1,v2])∧MatQ w' v1 (zcJ m s most (min n most))∧MatR w' v2 (zcJ m s most (min n most))∧Below w.heap.size w w':=by
 have HT:=zHi h;have HL:=zHi hL;obtain⟨o,c,rfl,hn9,_⟩:=h.top;clear h hL;refine callsIn_of_wp Tryz.func25 rfl trivial ?_ rfl;simp only [Tryz.ntmps25,ztE,ztF,ztG,Nat.reduceAdd,Nat.reduceSub,ztH,ztI,ztJ,ztK,ztL,ztM];gi_wp2;gi_loopw [6,7,8] (fun x6 x7 x8 wr=>∃i:Nat,x8 = .int .i64 (i:Int)∧i≤n∧i≤most∧Hid (OwnR wr w.heap.size 63 1 zgi x6 (zcJ m s most i))∧Hid (OwnR wr w.heap.size 64 1 zaF x7 (zcJ m s most i))∧Hid (Below w.heap.size w wr)) (fun _ _ x _=>most-(intOf x).toNat)
 case atStart=>exact⟨0,rfl,by omega,by omega,OwnR.nil _ _ _ _ _,OwnR.nil _ _ _ _ _,Below.refl _ w⟩
 case round=>
  obtain⟨ws,hws⟩:∃ws,ws=wr:=⟨_,rfl⟩;subst hws;obtain⟨i,rfl,hin,him,HO6,HO7,HBr⟩:=hrel;by_cases hi1:i<n
  ·by_cases hi2:i<most
   ·obtain⟨o',c',e',_,htop⟩:=HT.out.top;injection e' with e1 e2 e3;subst e1;obtain⟨a,rfl,ha,hca⟩:=htop (by omega);obtain⟨oi,ci,hri,hmi9,hrow⟩:=HT.out.row i hi1;have p0:=hca i hi1;rw [hri]at p0;have HP0:Hid (∀w',Below w.heap.size w w'→w'.cell? (a.add i)=some (.slice oi (m i) ci)):=zHi (fun w' hb=>(hb.cell (p:=a.add i) (by rw [zac];exact ha)).trans p0);obtain⟨mi,hmi⟩:∃mi,m i=mi:=⟨_,rfl⟩;have HMI:=zHi hmi;have HRow:=zHi hrow;rw [hmi]at HP0 hmi9;clear e2 e3 htop hca p0 hri hrow hmi;gi_wp2;have HO9:Hid (OwnR ws ws.heap.size 34 4 IQ (.slice none 0 0) (zb9 (s i) 0)):=OwnR.nil _ _ _ _ _;have HO10:Hid (OwnR ws ws.heap.size 25 3 IR (.slice none 0 0) (zb9 (s i) 0)):=OwnR.nil _ _ _ _ _;have HBi:Hid (Below ws.heap.size ws ws):=Below.refl _ ws;gi_loopw [9,10,11] (fun x9 x10 x11 wi=>∃j:Nat,x11 = .int .i64 (j:Int)∧j≤mi∧j≤most∧Hid (OwnR wi ws.heap.size 34 4 IQ x9 (zb9 (s i) j))∧Hid (OwnR wi ws.heap.size 25 3 IR x10 (zb9 (s i) j))∧Hid (Below ws.heap.size ws wi)) (fun _ _ x _=>most-(intOf x).toNat)
    case atStart=>exact⟨0,rfl,by omega,by omega,HO9.out,HO10.out,HBi.out⟩
    case round=>
     obtain⟨j,rfl,hjm,hjmost,HO9',HO10',HBi'⟩:=hrel;clear HO9 HO10 HBi;have HBw:=zHi (HBr.out.trans (HBi'.out.mono HBr.out.size));have p0:=HP0.out wr HBw.out;by_cases hj1:j<mi
     ·by_cases hj2:j<most
      ·obtain⟨ai,rfl,hai,hcai⟩:=HRow.out (by rw [HMI.out];omega);have p1:=(HBw.out.cell (p:=ai.add j) (by rw [zac];exact hai)).trans (hcai j (by rw [HMI.out];exact hj1));obtain⟨sj,hsj⟩:∃sj,s i j=sj:=⟨_,rfl⟩;have HSJ:=zHi hsj;have hsl:=HT.out.len i j hi1 (by rw [HMI.out];exact hj1);rw [hsj]at p1 hsl;clear hcai hsj;gi_wp2_with (gi_at_call 30;refine stop ?_)
       unfold Stop;refine(zoR wr sj _ rfl hsl 50 (by decide)).mono ?_;rintro e w2 ⟨vq,rfl,hq,hB⟩;have HQ:=zHi hq;obtain⟨m1,m2,rfl,hm1,hm2⟩:=hq;obtain⟨o1,k1,c1,rfl,_,_⟩:=za7 hm1;obtain⟨o2,k2,c2,rfl,_,_⟩:=za7 hm2;obtain⟨q,hqq⟩:∃q,rq sj.data.toList 50=q:=⟨_,rfl⟩;have HQQ:Hid (rq (s i j).data.toList 50=q):=zHi (by rw [HSJ.out];exact hqq);have HKq:Hid (zc1 q=true):=zHi (by rw [←hqq];exact zsC _ _);rw [hqq]at HQ;rw [hqq];obtain⟨sg,hsg⟩:∃sg,decide (q.num<0)=sg:=⟨_,rfl⟩;rw [hsg]at HQ;rw [hsg];obtain⟨W3,hW3⟩:∃W,W=w2.alloc (.cells #[.bool sg,.slice o1 k1 c1,.bool false,.slice o2 k2 c2] 34):=⟨_,rfl⟩;have hB3:Below w2.heap.size w2 W3:=by rw [hW3];exact zaa _ _
       have HBox:Hid (BoxL W3 w2.heap.size [.bool sg,.slice o1 k1 c1,.bool false,.slice o2 k2 c2]):=zHi (by rw [hW3];exact zaP _ _ _);have hBw3:=hB.trans (hB3.mono hB.size);have HBi3:=zHi (HBi'.out.trans (hBw3.mono HBi'.out.size));have H9:=zHi (HO9'.out.below hBw3 (IQ.below hBw3));have H10:=zHi (HO10'.out.below hBw3 (IR.below hBw3));have h9lt:∀k,u9.ownBlock=some k→k<w2.heap.size:=fun k hk=>Nat.lt_of_lt_of_le (HO9'.out.lt hk) hB.size
       have H9L:=zHi h9lt;have HQ3:=zHi (HQ.out.below hB3);have HBw3:=zHi (HBw.out.trans (hBw3.mono HBw.out.size));have HW3s:Hid (W3.heap.size=w2.heap.size+1):=zHi (by rw [hW3];simp);have d0:=HBox.out.2 0 _ rfl;have d1:=HBox.out.2 1 _ rfl;have d2:=HBox.out.2 2 _ rfl;have d3:=HBox.out.2 3 _ rfl;obtain⟨o9,c9,h9f⟩:=HO9'.out.form;rw [zbV]at h9f;rw [hW3]at d0 d1 d2 d3;clear hm1 hm2 hB hB3 hBw3 h9lt hqq hsg p0 p1;gi_wp2_with (gi_at_builtin;refine stop ?_)
       unfold Stop;rw [←hW3];obtain⟨g12,hg12⟩:∃g12,w2.heap.size=g12:=⟨_,rfl⟩;rw [hg12]at HBox H9L HW3s;rw [hg12];clear hW3 hg12 d0 d1 d2 d3;rw [h9f]at H9 H9L;refine zaN (ty:=34) (sz:=4) (bytes:=64) ws W3 rfl _ _ rfl Go.Num.u63 i34 i34z i34s i34b rfl (by decide) (by decide) (.slice o9 j c9) (zb9 (s i) j) rfl H9.out q [.bool sg,.slice o1 k1 c1,.bool false,.slice o2 k2 c2] _ (by rw [HW3s.out];rfl) rfl (by simp [Value.oneCell']) HQ3.out (fun b r w1 w2 ht=>IQ.touch ht rfl b r) (by rw [zbV];omega) HBi3.out ?_;intro v9 w4 HO9n HBi4 HT4 HBlk;have hrs:zb9 (s i) j ++ [q]=zb9 (s i) (j+1):=by rw [zjs,HQQ.out]
       rw [hrs]at HO9n;have hboxb:w4.heap[g12]? = W3.heap[g12]?:=HBlk.out g12 HBox.out.1 (fun e=>by have:=H9L.out g12 e.symm;omega);have HBox4:Hid (BoxL w4 g12 [.bool sg,.slice o1 k1 c1,.bool false,.slice o2 k2 c2]):=zHi ⟨Nat.lt_of_lt_of_le HBox.out.1 HT4.out.1,fun x v hx=>(World.cell?_of_block hboxb).trans (HBox.out.2 x v hx)⟩;have H10b:=zHi (H10.out.touch HT4.out (by decide) (IR.touch HT4.out rfl));have HQ4:=zHi (IQ.touch HT4.out rfl _ _ HQ3.out);have HBw4:=zHi (HBr.out.trans (HBi4.out.mono HBr.out.size));obtain⟨o10,c10,h10f⟩:=H10b.out.form;obtain⟨on,cn,h9n⟩:=HO9n.out.form;rw [zbV]at h10f h9n;have d0:=HBox4.out.2 0 _ rfl;have d1:=HBox4.out.2 1 _ rfl;have d2:=HBox4.out.2 2 _ rfl;have d3:=HBox4.out.2 3 _ rfl;clear hboxb h9f hrs;gi_wp2_with (gi_at_call 31;refine stop ?_)
       unfold Stop;refine(zp5 w4 _ q HQ4.out HKq.out (HL.out.below HBw4.out)).mono ?_;rintro e w5 ⟨vr,rfl,hr,hB⟩;have HR:=zHi hr;obtain⟨o5,k5,c5,o6,k6,c6,rfl⟩:=hr.form;obtain⟨sr,hsr⟩:∃sr,decide (q.num<0)=sr:=⟨_,rfl⟩;rw [hsr]at HR;rw [hsr];have HBi5:=zHi (HBi4.out.trans (hB.mono HBi4.out.size));have H10c:=zHi (H10b.out.below hB (IR.below hB));have H9c:=zHi (HO9n.out.below hB (IQ.below hB));rw [h10f]at H10c;clear hr hB d0 d1 d2 d3 hsr;gi_wp2_with (gi_at_builtin;refine stop ?_)
       unfold Stop;refine zaN (ty:=25) (sz:=3) (bytes:=56) ws w5 rfl _ _ rfl Go.Num.u64 i25' i25z i25s i25b rfl (by decide) (by decide) (.slice o10 j c10) (zb9 (s i) j) rfl H10c.out q [.bool sr,.slice o5 k5 c5,.slice o6 k6 c6] _ rfl rfl (by simp [Value.oneCell']) HR.out (fun b r w1 w2 ht=>IR.touch ht rfl b r) (by rw [zbV];omega) HBi5.out ?_;intro v10 w6 HO10n HBi6 HT6 _;have hrs:zb9 (s i) j ++ [q]=zb9 (s i) (j+1):=by rw [zjs,HQQ.out]
       rw [hrs]at HO10n;have H9d:=zHi (H9c.out.touch HT6.out (by decide) (IQ.touch HT6.out rfl));clear hrs h10f;gi_wp2;exact⟨⟨j+1,by go_num,by omega,by omega,by rw [h9n]at H9d;exact H9d,HO10n,HBi6⟩,by simp only [intOf];omega⟩
      ·have hjm2:j=most:=by omega
       have hmin:min mi most=j:=by omega
       have hjx:decide ((j:Int)<(most:Int))=false:=decide_eq_false (by omega);have hj9:j≤100:=by omega
       have HMN:Hid (zb9 (s i) (min (m i) most)=zb9 (s i) j):=zHi (by rw [HMI.out,hmin]);obtain⟨o9,c9,h9f⟩:=HO9'.out.form;obtain⟨o10,c10,h10f⟩:=HO10'.out.form;obtain⟨o6,c6,h6f⟩:=HO6.out.form;obtain⟨o7,c7,h7f⟩:=HO7.out.form;rw [zbV]at h9f h10f;rw [zbX]at h6f h7f;subst h9f;subst h10f;subst h6f;subst h7f;have H6:=zHi (HO6.out.below HBi'.out (zgi.below HBi'.out));have H7:=zHi (HO7.out.below HBi'.out (zaF.below HBi'.out));clear hjm2 hmin hjx;gi_wp2_with (first|(exfalso;exact zae (by assumption))|(gi_at_builtin;refine stop ?_))
       unfold Stop;refine zaN (ty:=63) (sz:=1) (bytes:=24) w wr rfl _ _ rfl Go.Num.u54 i63 i63z i63s i63b rfl (by decide) (by decide) (.slice o6 i c6) (zcJ m s most i) rfl H6.out (zb9 (s i) j) [.slice o9 j c9] _ rfl rfl (by simp [Value.oneCell']) ⟨_,rfl,HO9'.out.row (by rw [zbV];omega)⟩ (fun b r w1 w2 ht=>zgi.touch ht rfl (by decide) b r) (by rw [zbX];omega) HBw.out ?_;intro v6 w4 HO6n HBw4 HT4 _;have hms:zcJ m s most i ++ [zb9 (s i) j]=zcJ m s most (i+1):=by rw [ze7,HMN.out]
       rw [hms]at HO6n;have H7b:=zHi (H7.out.touch HT4.out (by decide) (zaF.touch HT4.out rfl (by decide)));have H10b:=zHi ((HO10'.out.row (by rw [zbV];omega)).touch HT4.out (by decide) (IR.touch HT4.out rfl));clear hms;gi_wp2_with (gi_at_builtin;refine stop ?_)
       unfold Stop;refine zaN (ty:=64) (sz:=1) (bytes:=24) w w4 rfl _ _ rfl Go.Num.u55 i64i i64z i64s i64b rfl (by decide) (by decide) (.slice o7 i c7) (zcJ m s most i) rfl H7b.out (zb9 (s i) j) [.slice o10 j c10] _ rfl rfl (by simp [Value.oneCell']) ⟨_,rfl,H10b.out⟩ (fun b r w1 w2 ht=>zaF.touch ht rfl (by decide) b r) (by rw [zbX];omega) HBw4.out ?_;intro v7 w5 HO7n HBw5 HT5 _;have hms:zcJ m s most i ++ [zb9 (s i) j]=zcJ m s most (i+1):=by rw [ze7,HMN.out]
       rw [hms]at HO7n;have H6c:=zHi (HO6n.out.touch HT5.out (by decide) (zgi.touch HT5.out rfl (by decide)));clear hms;gi_wp2;exact⟨⟨i+1,by go_num,by omega,by omega,H6c,HO7n,HBw5⟩,by simp only [intOf];omega⟩
     ·have hjm2:j=mi:=by omega
      have hmin:min mi most=j:=by omega
      subst hjm2;have HMN:Hid (zb9 (s i) (min (m i) most)=zb9 (s i) j):=zHi (by rw [HMI.out,hmin]);obtain⟨o9,c9,h9f⟩:=HO9'.out.form;obtain⟨o10,c10,h10f⟩:=HO10'.out.form;obtain⟨o6,c6,h6f⟩:=HO6.out.form;obtain⟨o7,c7,h7f⟩:=HO7.out.form;rw [zbV]at h9f h10f;rw [zbX]at h6f h7f;subst h9f;subst h10f;subst h6f;subst h7f;have H6:=zHi (HO6.out.below HBi'.out (zgi.below HBi'.out));have H7:=zHi (HO7.out.below HBi'.out (zaF.below HBi'.out));have hj9:j≤100:=by omega
      gi_wp2_with (first|(exfalso;exact zae (by assumption))|(gi_at_builtin;refine stop ?_))
      unfold Stop;refine zaN (ty:=63) (sz:=1) (bytes:=24) w wr rfl _ _ rfl Go.Num.u54 i63 i63z i63s i63b rfl (by decide) (by decide) (.slice o6 i c6) (zcJ m s most i) rfl H6.out (zb9 (s i) j) [.slice o9 j c9] _ rfl rfl (by simp [Value.oneCell']) ⟨_,rfl,HO9'.out.row (by rw [zbV];omega)⟩ (fun b r w1 w2 ht=>zgi.touch ht rfl (by decide) b r) (by rw [zbX];omega) HBw.out ?_;intro v6 w4 HO6n HBw4 HT4 _;have hms:zcJ m s most i ++ [zb9 (s i) j]=zcJ m s most (i+1):=by rw [ze7,HMN.out]
      rw [hms]at HO6n;have H7b:=zHi (H7.out.touch HT4.out (by decide) (zaF.touch HT4.out rfl (by decide)));have H10b:=zHi ((HO10'.out.row (by rw [zbV];omega)).touch HT4.out (by decide) (IR.touch HT4.out rfl));clear hms;gi_wp2_with (gi_at_builtin;refine stop ?_)
      unfold Stop;refine zaN (ty:=64) (sz:=1) (bytes:=24) w w4 rfl _ _ rfl Go.Num.u55 i64i i64z i64s i64b rfl (by decide) (by decide) (.slice o7 i c7) (zcJ m s most i) rfl H7b.out (zb9 (s i) j) [.slice o10 j c10] _ rfl rfl (by simp [Value.oneCell']) ⟨_,rfl,H10b.out⟩ (fun b r w1 w2 ht=>zaF.touch ht rfl (by decide) b r) (by rw [zbX];omega) HBw4.out ?_;intro v7 w5 HO7n HBw5 HT5 _;have hms:zcJ m s most i ++ [zb9 (s i) j]=zcJ m s most (i+1):=by rw [ze7,HMN.out]
      rw [hms]at HO7n;have H6c:=zHi (HO6n.out.touch HT5.out (by decide) (zgi.touch HT5.out rfl (by decide)));clear hms;gi_wp2;exact⟨⟨i+1,by go_num,by omega,by omega,H6c,HO7n,HBw5⟩,by simp only [intOf];omega⟩
   ·have him2:min n most=i:=by omega
    have HMM:Hid (zcJ m s most (min n most)=zcJ m s most i):=zHi (by rw [him2]);gi_wp2_with (exfalso;exact zae (by assumption))
    all_goals (first|go_returns|go_ret|go_end0)
    exact⟨_,_,rfl,by rw [HMM.out];exact HO6.out.row (by rw [zbX];omega),by rw [HMM.out];exact HO7.out.row (by rw [zbX];omega),HBr.out⟩
  ·have him2:min n most=i:=by omega
   have HMM:Hid (zcJ m s most (min n most)=zcJ m s most i):=zHi (by rw [him2]);gi_wp2_with (exfalso;exact zae (by assumption))
   all_goals (first|go_returns|go_ret|go_end0)
   exact⟨_,_,rfl,by rw [HMM.out];exact HO6.out.row (by rw [zbX];omega),by rw [HMM.out];exact HO7.out.row (by rw [zbX];omega),HBr.out⟩
end Go.Num
namespace Go.Num
open Go.ChangeShapes Go.WideShapes Go.Eng Go.RowKit Go.Proofs Go.Proofs.YtoamcgjbelhnkaaGreatDoor
section
variable {H:Type} {enc:TypeId × Value→H} {w:World} {base:Nat} {spare:Nat→Bool} {held:Bool}
theorem ztb{fuel:Nat}{v:Value}{x:DataW H × List MemPlace}(h:DataW.trod enc Tryz.prog w base spare held fuel 53 [v]=some x):∃(n:Nat) (s:Nat→ByteArray),zeW w v n (fun j => .string (s j))∧∀j,j<n→(s j).size≤9223372036854775807:=by
 rcases open_strings (e:=9) (by kernel_rfl) (by kernel_rfl) (by kernel_rfl) h with⟨hcs,_⟩|⟨a,len,cap,ss,hcs,_,hl,hm,hz,_,hcell,hsz⟩
 ·injection hcs with hv _;exact⟨0,fun _=>ByteArray.empty,⟨none,0,hv,by omega,fun h=>absurd h (by omega)⟩,fun j hj=>absurd hj (by omega)⟩
 ·injection hcs with hv _;have hlen:len≤ss.length:=by rw [hz];split <;> omega
  have hm':cap≤9223372036854775807:=hm;refine⟨len,fun j=>ss.getD j ByteArray.empty,⟨some a,cap,hv,by omega,fun h0=>⟨a,rfl,?_,fun i hi=>hcell i (by omega)⟩⟩,fun j hj => ?_⟩
  ·have:=World.block_lt_of_cell? _ _ (hcell 0 (by omega));rwa [zac]at this
  ·have hmem:ss.getD j ByteArray.empty∈ss:=by
    rw [List.getD_eq_getElem?_getD,List.getElem?_eq_getElem (by omega)];exact List.getElem_mem _
   exact hsz _ hmem
theorem zsi{v:Value}{d:DataW H}{ps:List MemPlace}(hs:∃a len cap,v = .slice a len cap)(h:DataW.Trod enc Tryz.prog w base spare held 52 v d ps):∃(n:Nat) (rv:Nat→Value) (m:Nat→Nat) (s:Nat→Nat→ByteArray),zkT w v n rv m s:=by
 obtain⟨a,len,cap,rfl⟩:=hs;obtain⟨fuel,h⟩:=h;have h:DataW.trod enc Tryz.prog w base spare held fuel 52 [.slice a len cap]=some (d,ps):=h;rcases DataW.trod_slice (e:=53) (by kernel_rfl) h with⟨hcs,_⟩|⟨a,len,cap,elems,rest,n,_,hcs,_,_,hl,hm,hlen,hel,_,_⟩
 ·injection hcs with hv _;exact⟨0,fun _ => .nilFunc,fun _=>0,fun _ _=>ByteArray.empty,⟨none,0,hv,by omega,fun h=>absurd h (by omega)⟩,fun i hi=>absurd hi (by omega),fun i j hi _=>absurd hi (by omega)⟩
 ·injection hcs with hv _;have hm':cap≤9223372036854775807:=hm;have each:∀i,∃t:Value × Nat × (Nat→ByteArray),i<len→w.cell? (a.add i)=some t.1∧zeW w t.1 t.2.1 (fun j => .string (t.2.2 j))∧∀j,j<t.2.1→(t.2.2 j).size≤9223372036854775807:=by
   intro i;by_cases hi:i<len
   ·have he:=hel i hi;rw [show Tryz.prog.cellsOf 53=1 by kernel_rfl,Nat.mul_one,List.getElem?_eq_getElem (by omega),Option.bind_eq_some_iff]at he;obtain⟨cs,hcs,hy⟩:=he;obtain⟨x,rfl⟩:∃x,cs = [x]:=by
     rcases DataW.trod_slice (e:=9) (by kernel_rfl) hy with⟨rfl,_⟩|⟨_,_,_,_,_,_,_,rfl,_⟩
     ·exact⟨_,rfl⟩
     ·exact⟨_,rfl⟩
    obtain⟨k,s,h1,h2⟩:=ztb hy;exact⟨(x,k,s),fun _=>⟨cell_of_cells?_one hcs,h1,h2⟩⟩
   ·exact⟨(.nilFunc,0,fun _=>ByteArray.empty),fun h=>absurd h hi⟩
  have hall:=fun i=>Classical.choose_spec (each i)
  refine⟨len,fun i=>(Classical.choose (each i)).1,fun i=>(Classical.choose (each i)).2.1,fun i=>(Classical.choose (each i)).2.2,⟨some a,cap,hv,by omega,fun h0=>⟨a,rfl,?_,fun i hi=>(hall i hi).1⟩⟩,fun i hi=>(hall i hi).2.1,fun i j hi hj=>(hall i hi).2.2 j hj⟩;have:=World.block_lt_of_cell? _ _ (hall 0 h0).1;rwa [zac]at this
end
end Go.Num
namespace Go.Num
open Go.Eng Go.Shelf Go.RowKit Go.Sort Go.Proofs Go.Proofs.YtoamcgjbelhnkaaGreatDoor
theorem zah.view{β:Type}{w:World}{ty:Nat}{J:World→Value→β→Prop}{v:Value}{m:List β}(h:zah w ty 1 (fun b r w=>∃v,r = [v]∧J w v b) v m) :
  ∃o c,v = .slice o m.length c∧m.length≤1000000000∧∃rv:Nat→Value,(0<m.length→∃a:Addr,o=some a∧a.block<w.heap.size∧∀i,i<m.length→w.cell? (a.add i)=some (rv i))∧∀i b,m[i]? = some b→J w (rv i) b:=by
 rcases h with⟨rfl,o,c,rfl⟩|⟨a,cap,xs,rfl,h2,h3,h4,h5,h6,h7,h8⟩
 ·exact⟨o,c,rfl,by simp,fun _ => .nilFunc,fun h=>absurd h (by simp),fun i b hb=>by simp at hb⟩
 ·refine⟨some a,cap,rfl,h3.2,fun i=>(xs.getD i []).getD 0 .nilFunc,fun _=>⟨a,rfl,h4.lt,fun i hi => ?_⟩,fun i b hb => ?_⟩
  ·obtain⟨row,hr⟩:∃row,xs[i]? = some row:=⟨_,List.getElem?_eq_getElem (by omega)⟩;have hl:=h6 row (List.mem_of_getElem? hr);obtain⟨x,rfl⟩:∃x,row = [x]:=by
    match row,hl with
    | [x],_=>exact⟨x,rfl⟩
   have:=h7 i _ hr 0 x rfl;rw [Nat.mul_one,Nat.add_zero]at this;rw [this];show some x=some ((xs.getD i []).getD 0 .nilFunc)
   rw [List.getD_eq_getElem?_getD (l:=xs),hr];rfl
  ·have hi:i<m.length:=(List.getElem?_eq_some_iff.1 hb).1;obtain⟨row,hr⟩:∃row,xs[i]? = some row:=⟨_,List.getElem?_eq_getElem (by omega)⟩;obtain⟨x,rfl,hJ⟩:=h8 i row b hr hb;show J w ((xs.getD i []).getD 0 .nilFunc) b
   rw [List.getD_eq_getElem?_getD (l:=xs),hr];exact hJ
theorem zah.form{β:Type}{w:World}{ty sz:Nat}{I:β→List Value→World→Prop}{v:Value}{bs:List β}(h:zah w ty sz I v bs):∃o c,v = .slice o bs.length c∧bs.length≤1000000000:=by
 rcases h with⟨rfl,o,c,rfl⟩|⟨a,cap,xs,rfl,_,h3,_⟩
 ·exact⟨o,c,rfl,by simp⟩
 ·exact⟨_,_,rfl,h3.2⟩
theorem zlG(w:World)(v:Value)(q:Rat)(h:zao w v q)(hq:zar q 100000)(htab:zaU w) :
  CallsIn Fence.wide 0 Tryz.prog 124 #[v] w fun e w'=>e = .returned (.bool (!zbS q 20))∧Below w.heap.size w w':=by
 obtain⟨vn,vd,rfl,hn,hd⟩:=h;have HN:=zHi hn;have HD:=zHi hd;obtain⟨sg,hsg⟩:∃sg,decide (q.num<0)=sg:=⟨_,rfl⟩;obtain⟨o1,k1,c1,rfl,_,_⟩:=zaM hn;obtain⟨o2,k2,c2,rfl,_,_⟩:=zaM hd;rw [hsg];obtain⟨W1,hW1⟩:∃W,W=w.alloc (.cells #[.bool sg,.slice o1 k1 c1,.slice o2 k2 c2] 25):=⟨_,rfl⟩;have HX:Hid (Box3 W1 w.heap.size (.bool sg) (.slice o1 k1 c1) (.slice o2 k2 c2)):=zHi (by rw [hW1];exact zbC _ _ _ _ _);have HBW:Hid (Below w.heap.size w W1):=zHi (by rw [hW1];exact zaa _ _);have HP:=zHi hq;have HTab:=zHi htab;have y0:=HX.out.c0;have y1:=HX.out.c1;have y2:=HX.out.c2;clear hn hd hsg hq htab;refine callsIn_of_wp Tryz.func124 rfl trivial ?_ rfl;simp only [Tryz.ntmps124,ztE,ztF,ztG,Nat.reduceAdd,Nat.reduceSub,ztH,ztI,ztJ,ztK,ztL,ztM];rw [hW1]at y0 y1 y2;gi_wp2_with (gi_at_call 71;refine stop ?_)
 unfold Stop;rw [←hW1]at y0 y1 y2 ⊢;obtain⟨g,hg⟩:∃g,w.heap.size=g:=⟨_,rfl⟩;rw [hg]at HX y0 y1 y2;rw [hg];clear hW1 hg;refine(zbO W1 _ _ (HN.out.below HBW.out) HP.out.1 (HTab.out.below HBW.out)).mono ?_;rintro e w2 ⟨rfl,hB⟩;replace HX:=zHi (HX.out.below hB);replace HBW:=zHi (HBW.out.trans (hB.mono HBW.out.size));replace y0:=HX.out.c0;replace y1:=HX.out.c1;replace y2:=HX.out.c2;obtain⟨S,hS⟩:∃S:ByteArray,(⟨(Lib.decDigits q.num.natAbs).toArray⟩:ByteArray)=S:=⟨_,rfl⟩;have hsz:S.size=Lib.nDigits q.num.natAbs:=by rw [←hS,zcy,Lib.decDigits_length]
 rw [hS];obtain⟨d,hd⟩:∃d,Lib.nDigits q.num.natAbs=d:=⟨_,rfl⟩;have HDd:=zHi hd;rw [hd]at hsz;clear hB hS hd;by_cases hd20:20<d
 ·have hdd:decide ((d:Int)>20)=true:=decide_eq_true (by omega);have HS:Hid (zbS q 20=false):=zHi (by unfold zbS;rw [HDd.out,decide_eq_false (by omega)];rfl);gi_wp2_with (exfalso;exact zae (by assumption))
  all_goals (first|go_returns|go_ret|go_end0)
  exact⟨by rw [HS.out];rfl,HBW.out⟩
 ·have hdd:decide ((d:Int)>20)=false:=decide_eq_false (by omega);gi_wp2_with (gi_at_call 71;refine stop ?_)
  unfold Stop;refine(zbO w2 _ _ (HD.out.below HBW.out) (by split;exact zau 100000;exact HP.out.2) (HTab.out.below HBW.out)).mono ?_;rintro e w3 ⟨rfl,hB⟩;replace HBW:=zHi (HBW.out.trans (hB.mono HBW.out.size));obtain⟨S2,hS2⟩:∃S:ByteArray,(⟨(Lib.decDigits (if q.den=1 then 0 else q.den)).toArray⟩:ByteArray)=S:=⟨_,rfl⟩;have hsz2:S2.size=Lib.nDigits (if q.den=1 then 0 else q.den):=by rw [←hS2,zcy,Lib.decDigits_length]
  rw [hS2];have hde:Lib.nDigits (if q.den=1 then 0 else q.den)=Lib.nDigits q.den:=by
   split
   ·rename_i h1;rw [h1,Lib.nDigits_small (show 0<10 by decide),Lib.nDigits_small (show 1<10 by decide)]
   ·rfl
  rw [hde]at hsz2;obtain⟨d2,hd2⟩:∃d2,Lib.nDigits q.den=d2:=⟨_,rfl⟩;have HS:Hid ((!zbS q 20)=decide (20<d2)):=zHi (by
   unfold zbS;rw [HDd.out,hd2,decide_eq_true (by omega),Bool.true_and];by_cases h:d2≤20
   ·rw [decide_eq_true h,decide_eq_false (by omega)];rfl
   ·rw [decide_eq_false h,decide_eq_true (by omega)];rfl)
  rw [hd2]at hsz2;clear hB hS2 hde hd2 y0 y1 y2;gi_wp2;all_goals (first|go_returns|go_ret|go_end0)
  refine⟨?_,HBW.out⟩;rw [HS.out];show Ending.returned (Value.bool (decide ((20:Int)<(d2:Int))))=_
  rw [show decide ((20:Int)<(d2:Int))=decide (20<d2)from decide_eq_decide.2 (by omega)]
theorem zl8(a:Addr)(i k:Nat)(hk:0<k):(⟨(a.add i).block,(a.add i).off+k,none⟩:Addr)=a.add (i+k):=by
 unfold Addr.add;split <;> simp_all <;> omega
theorem zah.item{w:World}{a:Addr}{n c:Nat}{qs:List Rat}(h:RowR w (.slice (some a) n c) qs){i:Nat}{q:Rat}(hq:qs[i]? = some q) :
  a.block<w.heap.size∧∃sg o1 k1 c1 o2 k2 c2,w.cell? (a.add (i*3))=some (.bool sg)∧w.cell? ⟨(a.add (i*3)).block,(a.add (i*3)).off+1,none⟩=some (.slice o1 k1 c1)∧w.cell? ⟨(a.add (i*3)).block,(a.add (i*3)).off+2,none⟩=some (.slice o2 k2 c2)∧zao w (.agg #[.bool sg,.slice o1 k1 c1,.slice o2 k2 c2]) q:=by
 rcases h with⟨rfl,_⟩|⟨a',cap,xs,e,h2,h3,h4,h5,h6,h7,h8⟩
 ·simp at hq
 ·injection e with e _ _;injection e with e;subst e;have hi:i<qs.length:=(List.getElem?_eq_some_iff.1 hq).1;obtain⟨row,hr⟩:∃row,xs[i]? = some row:=⟨_,List.getElem?_eq_getElem (by omega)⟩;have hR:zao w (.agg row.toArray) q:=h8 i row q hr hq;obtain⟨o1,k1,c1,o2,k2,c2,hf⟩:=hR.form;have hrow:row = [.bool (decide (q.num<0)),.slice o1 k1 c1,.slice o2 k2 c2]:=by
   injection hf with hf;have:=congrArg Array.toList hf;simpa using this
  subst hrow;exact⟨h4.lt,_,o1,k1,c1,o2,k2,c2,h7 i _ hr 0 _ rfl,by rw [zl8 _ _ _ (by decide)];exact h7 i _ hr 1 _ rfl,by rw [zl8 _ _ _ (by decide)];exact h7 i _ hr 2 _ rfl,hR⟩
def zeE(q:Rat):Bool:=!zbS q 20
theorem zlI(w:World)(v:Value)(qs:List Rat)(h:RowR w v qs)(hq:∀q∈qs,zar q 100000)(htab:zaU w) :
  CallsIn Fence.wide 0 Tryz.prog 158 #[v,.func (.func 124) #[] #[]] w fun e w'=>(∃i:Int,e = .returned (.int .i64 i)∧decide (0≤i)=qs.any zeE)∧Below w.heap.size w w':=by
 have HR:=zHi h;have HQ:=zHi hq;have HTab:=zHi htab;obtain⟨o,c,rfl,hn9⟩:=h.form;obtain⟨n,hn⟩:∃n,qs.length=n:=⟨_,rfl⟩;have HN:=zHi hn;rw [hn]at hn9 HR;rw [hn];clear h hq htab hn;refine callsIn_of_wp Tryz.func158 rfl trivial ?_ rfl;simp only [Tryz.ntmps158,ztE,ztF,ztG,Nat.reduceAdd,Nat.reduceSub,ztH,ztI,ztJ,ztK,ztL,ztM];gi_wp2;gi_loopw [8] (fun x8 wr=>∃i:Nat,x8 = .int .i64 (i:Int)∧i≤n∧Hid ((qs.take i).any zeE=false)∧Hid (Below w.heap.size w wr)) (fun x _=>n-(intOf x).toNat)
 case atStart=>exact⟨0,rfl,by omega,zHi (by simp),Below.refl _ w⟩
 case round=>
  obtain⟨i,rfl,hi,HA,HB⟩:=hrel;by_cases hin:i<n
  ·obtain⟨q,hq⟩:∃q,qs[i]? = some q:=⟨_,List.getElem?_eq_getElem (by rw [HN.out];exact hin)⟩;have hR2:RowR wr (.slice o n c) qs:=HR.out.below HB.out (IR.below HB.out);obtain⟨a,rfl⟩:∃a,o=some a:=by
    rcases hR2 with⟨h0,_⟩|⟨a,cap,xs,e,_⟩
    ·rw [h0]at hq;simp at hq
    ·injection e with e _ _;exact⟨a,e⟩
   obtain⟨hal,sg,o1,k1,c1,o2,k2,c2,x0,x1,x2,hra⟩:=hR2.item hq;have HRA:=zHi hra;have HQq:=zHi hq;clear hR2 hra hq;gi_wp2_with (gi_at_call 124;refine stop ?_)
   unfold Stop;refine(zlG wr _ q HRA.out (HQ.out q (List.mem_of_getElem? HQq.out)) (HTab.out.below HB.out)).mono ?_;rintro e w2 ⟨rfl,hB⟩;have HB2:=zHi (HB.out.trans (hB.mono HB.out.size));have htk:qs.take (i+1)=qs.take i ++ [q]:=by rw [List.take_add_one,HQq.out];rfl
   have HTK:=zHi htk;clear hB htk
   cases hs:zbS q 20 with
   | true=>
    simp only [Bool.not_true];have HA2:Hid ((qs.take (i+1)).any zeE=false):=zHi (by rw [HTK.out,List.any_append,HA.out];show(false || (zeE q || false))=false;unfold zeE;rw [hs];rfl);clear hs;gi_wp2;exact⟨⟨i+1,by go_num,by omega,HA2,HB2⟩,by simp only [intOf];omega⟩
   | false=>
    simp only [Bool.not_false];have HA2:Hid (qs.any zeE=true):=zHi (List.any_eq_true.2 ⟨q,List.mem_of_getElem? HQq.out,by unfold zeE;rw [hs];rfl⟩);clear hs;gi_wp2;all_goals (first|go_returns|go_ret|go_end0)
    exact⟨⟨(i:Int),rfl,by rw [HA2.out];exact decide_eq_true (by omega)⟩,HB2.out⟩
  ·have hin2:i=n:=by omega
   have HA2:Hid (qs.any zeE=false):=zHi (by have:=HA.out;rw [hin2,←HN.out,List.take_length]at this;exact this);gi_wp2;all_goals (first|go_returns|go_ret|go_end0)
   exact⟨⟨-1,rfl,by rw [HA2.out];rfl⟩,HB.out⟩
theorem ziC(w:World)(v:Value)(qs:List Rat)(h:RowR w v qs)(hq:∀q∈qs,zar q 100000)(htab:zaU w) :
  CallsIn Fence.wide 0 Tryz.prog 123 #[v,.func (.func 124) #[] #[]] w fun e w'=>e = .returned (.bool (qs.any zeE))∧Below w.heap.size w w':=by
 have H1:Hid (CallsIn Fence.wide 0 Tryz.prog 158 #[v,.func (.func 124) #[] #[]] w fun e w'=>(∃i:Int,e = .returned (.int .i64 i)∧decide (0≤i)=qs.any zeE)∧Below w.heap.size w w'):=zHi (zlI w v qs h hq htab);obtain⟨o,c,rfl,_⟩:=h.form;clear h hq htab;refine callsIn_of_wp Tryz.func123 rfl trivial ?_ rfl;simp only [Tryz.ntmps123,ztE,ztF,ztG,Nat.reduceAdd,Nat.reduceSub,ztH,ztI,ztJ,ztK,ztL,ztM];gi_wp2_with (gi_at_call 158;refine stop ?_)
 unfold Stop;refine H1.out.mono ?_;rintro e w2 ⟨⟨i,rfl,hi⟩,hB⟩;have HI:=zHi hi;have HB:=zHi hB;clear hi hB;gi_wp2;all_goals (first|go_returns|go_ret|go_end0)
 refine⟨?_,HB.out⟩;rw [←HI.out];first|rfl|trace_state
theorem zkQ(w:World)(v:Value)(qs:List Rat)(h:RowR w v qs)(hq:∀q∈qs,zar q 100000)(htab:zaU w) :
  CallsIn Fence.wide 0 Tryz.prog 86 #[v] w fun e w'=>e = .returned (.bool (qs.any zeE))∧Below w.heap.size w w':=by
 have H1:Hid (CallsIn Fence.wide 0 Tryz.prog 123 #[v,.func (.func 124) #[] #[]] w fun e w'=>e = .returned (.bool (qs.any zeE))∧Below w.heap.size w w'):=zHi (ziC w v qs h hq htab);obtain⟨o,c,rfl,_⟩:=h.form;clear h hq htab;refine callsIn_of_wp Tryz.func86 rfl trivial ?_ rfl;simp only [Tryz.ntmps86,ztE,ztF,ztG,Nat.reduceAdd,Nat.reduceSub,ztH,ztI,ztJ,ztK,ztL,ztM];gi_wp2_with (gi_at_call 123;refine stop ?_)
 unfold Stop;refine H1.out.mono ?_;rintro e w2 ⟨rfl,hB⟩;have HB:=zHi hB;clear hB;gi_wp2;all_goals (first|go_returns|go_ret|go_end0)
 exact⟨rfl,HB.out⟩
def zcu(r:List Rat):Bool:=r.any zeE
def zdJ(k:Nat)(r:List Rat):Bool:=!decide (r.length=k)
theorem zmW(w:World)(v:Value)(m:List (List Rat))(h:MatR w v m)(hq:∀r∈m,∀q∈r,zar q 100000)(htab:zaU w) :
  CallsIn Fence.wide 0 Tryz.prog 133 #[v,(.func (.func 86) #[] #[])] w fun e w'=>(∃i:Int,e = .returned (.int .i64 i)∧decide (0≤i)=m.any zcu)∧Below w.heap.size w w':=by
 have HR:=zHi h;have HQ:=zHi hq;have HTab:=zHi htab;obtain⟨o,c,hv,hn9,rv,hrd,hrow⟩:=zah.view (J:=fun w x r=>RowR w x r) h;subst hv;obtain⟨n,hn⟩:∃n,m.length=n:=⟨_,rfl⟩;have HN:=zHi hn;have HRd:=zHi hrd;have HRow:=zHi hrow;rw [hn]at hn9 HR HRd;rw [hn];clear h hq htab hn hrd hrow;refine callsIn_of_wp Tryz.func133 rfl trivial ?_ rfl;simp only [Tryz.ntmps133,ztE,ztF,ztG,Nat.reduceAdd,Nat.reduceSub,ztH,ztI,ztJ,ztK,ztL,ztM];gi_wp2;gi_loopw [8] (fun x8 wr=>∃i:Nat,x8 = .int .i64 (i:Int)∧i≤n∧Hid ((m.take i).any zcu=false)∧Hid (Below w.heap.size w wr)) (fun x _=>n-(intOf x).toNat)
 case atStart=>exact⟨0,rfl,by omega,zHi (by simp),Below.refl _ w⟩
 case round=>
  obtain⟨i,rfl,hi,HA,HB⟩:=hrel;by_cases hin:i<n
  ·obtain⟨r,hr⟩:∃r,m[i]? = some r:=⟨_,List.getElem?_eq_getElem (by rw [HN.out];exact hin)⟩;obtain⟨a,rfl,ha,hc⟩:=HRd.out (by omega);have hrr:=HRow.out i r hr;obtain⟨oi,ci,hf,_⟩:=hrr.form;have p0:=(HB.out.cell (p:=a.add i) (by rw [zac];exact ha)).trans (hc i hin);rw [hf]at p0 hrr;have HRR:=zHi hrr;have HMr:=zHi hr;clear hc hrr hr hf;gi_wp2_with (gi_at_call 86;refine stop ?_)
   unfold Stop;refine(zkQ wr _ r (zah.below HRR.out HB.out (IR.below HB.out)) (HQ.out r (List.mem_of_getElem? HMr.out)) (HTab.out.below HB.out)).mono ?_;rintro e w2 ⟨rfl,hB⟩;have HB2:=zHi (HB.out.trans (hB.mono HB.out.size));have htk:m.take (i+1)=m.take i ++ [r]:=by rw [List.take_add_one,HMr.out];rfl
   have HTK:=zHi htk;clear hB htk;obtain⟨b,hb⟩:∃b,zcu r=b:=⟨_,rfl⟩;rw [show r.any zeE=b from hb]
   cases b with
   | false=>
    have HA2:Hid ((m.take (i+1)).any zcu=false):=zHi (by rw [HTK.out,List.any_append,HA.out];show(false || (zcu r || false))=false;rw [hb];rfl);clear hb;gi_wp2;exact⟨⟨i+1,by go_num,by omega,HA2,HB2⟩,by simp only [intOf];omega⟩
   | true=>
    have HA2:Hid (m.any zcu=true):=zHi (List.any_eq_true.2 ⟨r,List.mem_of_getElem? HMr.out,hb⟩);clear hb;gi_wp2;all_goals (first|go_returns|go_ret|go_end0)
    exact⟨⟨(i:Int),rfl,by rw [HA2.out];exact decide_eq_true (by omega)⟩,HB2.out⟩
  ·have hin2:i=n:=by omega
   have HA2:Hid (m.any zcu=false):=zHi (by have:=HA.out;rw [hin2,←HN.out,List.take_length]at this;exact this);gi_wp2;all_goals (first|go_returns|go_ret|go_end0)
   exact⟨⟨-1,rfl,by rw [HA2.out];rfl⟩,HB.out⟩
theorem zqg(w:World)(oi:Option Addr)(l ci:Nat)(g:Nat)(a:Addr)(n c:Nat)(o0:Option Addr)(k c0:Nat)(hn:0<n)(hk:k≤1000000000)(hb:w.cell? ⟨g,0,none⟩=some (.slice (some a) n c))(h0:w.cell? a=some (.slice o0 k c0)) :
  CallsIn Fence.wide 0 Tryz.prog 97 #[.slice oi l ci,.pointer (some ⟨g,0,none⟩)] w fun e w'=>e = .returned (.bool (!decide (l=k)))∧Below w.heap.size w w':=by
 refine callsIn_of_wp Tryz.func97 rfl trivial ?_ rfl;simp only [Tryz.ntmps97,ztE,ztF,ztG,Nat.reduceAdd,Nat.reduceSub,ztH,ztI,ztJ,ztK,ztL,ztM];by_cases hlk:l=k
 ·subst hlk;gi_wp2;all_goals (first|go_returns|go_ret|go_end0)
  refine⟨?_,Below.refl _ _⟩;first|rfl|(rw [decide_eq_true rfl];rfl)
 ·have hne:((l:Int) != (k:Int))=true:=by rw [bne_iff_ne];omega
  gi_wp2;all_goals (first|go_returns|go_ret|go_end0)
  refine⟨?_,Below.refl _ _⟩;rw [decide_eq_false hlk];first|rfl|trace_state
theorem zo6(w:World)(v:Value)(m:List (List Rat))(h:MatR w v m)(hq:∀r∈m,∀q∈r,zar q 100000)(htab:zaU w)(g:Nat)(a0:Addr)(n0 cc:Nat)(o0:Option Addr)(k c0:Nat)(hn0:0<n0)(hk:k≤1000000000)(hb0:w.cell? ⟨g,0,none⟩=some (.slice (some a0) n0 cc))(hc0:w.cell? a0=some (.slice o0 k c0)) :
  CallsIn Fence.wide 0 Tryz.prog 133 #[v,(.func (.func 97) #[] #[.pointer (some ⟨g,0,none⟩)])] w fun e w'=>(∃i:Int,e = .returned (.int .i64 i)∧decide (0≤i)=m.any (zdJ k))∧Below w.heap.size w w':=by
 have HR:=zHi h;have HQ:=zHi hq;have HTab:=zHi htab;have HB0:=zHi hb0;have HC0:=zHi hc0;obtain⟨o,c,hv,hn9,rv,hrd,hrow⟩:=zah.view (J:=fun w x r=>RowR w x r) h;subst hv;obtain⟨n,hn⟩:∃n,m.length=n:=⟨_,rfl⟩;have HN:=zHi hn;have HRd:=zHi hrd;have HRow:=zHi hrow;rw [hn]at hn9 HR HRd;rw [hn];clear h hq htab hn hrd hrow hb0 hc0;refine callsIn_of_wp Tryz.func133 rfl trivial ?_ rfl;simp only [Tryz.ntmps133,ztE,ztF,ztG,Nat.reduceAdd,Nat.reduceSub,ztH,ztI,ztJ,ztK,ztL,ztM];gi_wp2;gi_loopw [8] (fun x8 wr=>∃i:Nat,x8 = .int .i64 (i:Int)∧i≤n∧Hid ((m.take i).any (zdJ k)=false)∧Hid (Below w.heap.size w wr)) (fun x _=>n-(intOf x).toNat)
 case atStart=>exact⟨0,rfl,by omega,zHi (by simp),Below.refl _ w⟩
 case round=>
  obtain⟨i,rfl,hi,HA,HB⟩:=hrel;by_cases hin:i<n
  ·obtain⟨r,hr⟩:∃r,m[i]? = some r:=⟨_,List.getElem?_eq_getElem (by rw [HN.out];exact hin)⟩;obtain⟨a,rfl,ha,hc⟩:=HRd.out (by omega);have hrr:=HRow.out i r hr;obtain⟨oi,ci,hf,_⟩:=hrr.form;have p0:=(HB.out.cell (p:=a.add i) (by rw [zac];exact ha)).trans (hc i hin);rw [hf]at p0 hrr;have HRR:=zHi hrr;have HMr:=zHi hr;clear hc hrr hr hf;gi_wp2_with (gi_at_call 97;refine stop ?_)
   unfold Stop;refine(zqg wr oi r.length ci g a0 n0 cc o0 k c0 hn0 hk ((HB.out.cell (World.block_lt_of_cell? _ _ HB0.out)).trans HB0.out) ((HB.out.cell (World.block_lt_of_cell? _ _ HC0.out)).trans HC0.out)).mono ?_;rintro e w2 ⟨rfl,hB⟩;have HB2:=zHi (HB.out.trans (hB.mono HB.out.size));have htk:m.take (i+1)=m.take i ++ [r]:=by rw [List.take_add_one,HMr.out];rfl
   have HTK:=zHi htk;clear hB htk;obtain⟨b,hb⟩:∃b,(zdJ k) r=b:=⟨_,rfl⟩;rw [show(!decide (r.length=k))=b from hb]
   cases b with
   | false=>
    have HA2:Hid ((m.take (i+1)).any (zdJ k)=false):=zHi (by rw [HTK.out,List.any_append,HA.out];show(false || ((zdJ k) r || false))=false;rw [hb];rfl);clear hb;gi_wp2;exact⟨⟨i+1,by go_num,by omega,HA2,HB2⟩,by simp only [intOf];omega⟩
   | true=>
    have HA2:Hid (m.any (zdJ k)=true):=zHi (List.any_eq_true.2 ⟨r,List.mem_of_getElem? HMr.out,hb⟩);clear hb;gi_wp2;all_goals (first|go_returns|go_ret|go_end0)
    exact⟨⟨(i:Int),rfl,by rw [HA2.out];exact decide_eq_true (by omega)⟩,HB2.out⟩
  ·have hin2:i=n:=by omega
   have HA2:Hid (m.any (zdJ k)=false):=zHi (by have:=HA.out;rw [hin2,←HN.out,List.take_length]at this;exact this);gi_wp2;all_goals (first|go_returns|go_ret|go_end0)
   exact⟨⟨-1,rfl,by rw [HA2.out];rfl⟩,HB.out⟩
theorem zi7(w:World)(v:Value)(m:List (List Rat))(h:MatR w v m)(hq:∀r∈m,∀q∈r,zar q 100000)(htab:zaU w) :
  CallsIn Fence.wide 0 Tryz.prog 96 #[v,(.func (.func 86) #[] #[])] w fun e w'=>e = .returned (.bool (m.any zcu))∧Below w.heap.size w w':=by
 have H1:=zHi (zmW w v m h hq htab);obtain⟨o,c,rfl,_⟩:=zah.form h;clear h hq htab;refine callsIn_of_wp Tryz.func96 rfl trivial ?_ rfl;simp only [Tryz.ntmps96,ztE,ztF,ztG,Nat.reduceAdd,Nat.reduceSub,ztH,ztI,ztJ,ztK,ztL,ztM];gi_wp2_with (gi_at_call 133;refine stop ?_)
 unfold Stop;refine H1.out.mono ?_;rintro e w2 ⟨⟨i,rfl,hi⟩,hB⟩;have HI:=zHi hi;have HB:=zHi hB;clear hi hB;gi_wp2;all_goals (first|go_returns|go_ret|go_end0)
 refine⟨?_,HB.out⟩;rw [←HI.out];first|rfl|trace_state
theorem zkJ(w:World)(v:Value)(m:List (List Rat))(h:MatR w v m)(hq:∀r∈m,∀q∈r,zar q 100000)(htab:zaU w)(g:Nat)(a0:Addr)(n0 cc:Nat)(o0:Option Addr)(k c0:Nat)(hn0:0<n0)(hk:k≤1000000000)(hb0:w.cell? ⟨g,0,none⟩=some (.slice (some a0) n0 cc))(hc0:w.cell? a0=some (.slice o0 k c0)) :
  CallsIn Fence.wide 0 Tryz.prog 96 #[v,(.func (.func 97) #[] #[.pointer (some ⟨g,0,none⟩)])] w fun e w'=>e = .returned (.bool (m.any (zdJ k)))∧Below w.heap.size w w':=by
 have H1:=zHi (zo6 w v m h hq htab g a0 n0 cc o0 k c0 hn0 hk hb0 hc0);obtain⟨o,c,rfl,_⟩:=zah.form h;clear h hq htab hn0 hk hb0 hc0;refine callsIn_of_wp Tryz.func96 rfl trivial ?_ rfl;simp only [Tryz.ntmps96,ztE,ztF,ztG,Nat.reduceAdd,Nat.reduceSub,ztH,ztI,ztJ,ztK,ztL,ztM];gi_wp2_with (gi_at_call 133;refine stop ?_)
 unfold Stop;refine H1.out.mono ?_;rintro e w2 ⟨⟨i,rfl,hi⟩,hB⟩;have HI:=zHi hi;have HB:=zHi hB;clear hi hB;gi_wp2;all_goals (first|go_returns|go_ret|go_end0)
 refine⟨?_,HB.out⟩;rw [←HI.out];first|rfl|trace_state
def zb8(m:List (List Rat)):Int:=
 if 8<m.length then 2 else
 match m with
 | []=>7
 | r :: _=>if 8<r.length then 2 else if r.length=0 then 7 else if m.any (zdJ r.length)then 7 else if m.any zcu then 11 else 0
theorem zea(w:World)(v:Value)(m:List (List Rat))(h:MatR w v m)(hq:∀r∈m,∀q∈r,zar q 100000)(htab:zaU w) :
  CallsIn Fence.wide 0 Tryz.prog 49 #[v] w fun e w'=>e = .returned (.int .i64 (zb8 m))∧Below w.heap.size w w':=by
 have HR:=zHi h;have HQ:=zHi hq;have HTab:=zHi htab;obtain⟨o,c,rfl,hn9,rv,hrd,hrow⟩:=zah.view (J:=fun w x r=>RowR w x r) h;obtain⟨n,hn⟩:∃n,m.length=n:=⟨_,rfl⟩;have HN:=zHi hn;have HRow:=zHi hrow;rw [hn]at hn9 HR hrd;rw [hn];obtain⟨W1,hW1⟩:∃W,W=w.alloc (.cells #[.slice o n c] 55):=⟨_,rfl⟩;have hbw:Below w.heap.size w W1:=by rw [hW1];exact zaa _ _
 have HBW:=zHi hbw;obtain⟨g,hg⟩:∃g,w.heap.size=g:=⟨_,rfl⟩;have hbox:W1.cell? ⟨g,0,none⟩=some (.slice o n c):=by rw [hW1,←hg];exact(zaP _ [.slice o n c] _).2 0 _ rfl
 have HBox:=zHi hbox;refine callsIn_of_wp Tryz.func49 rfl trivial ?_ rfl;simp only [Tryz.ntmps49,ztE,ztF,ztG,Nat.reduceAdd,Nat.reduceSub,ztH,ztI,ztJ,ztK,ztL,ztM];rcases Nat.lt_or_ge 8 n with h8|h8
 ·have hd:decide ((n:Int)>8)=true:=decide_eq_true (by omega);have HS:Hid (zb8 m=2):=zHi (by unfold zb8;rw [if_pos (by omega)]);clear hq h htab hn hrow hrd hbw;rw [hW1,←hg]at hbox;gi_wp2_with (exfalso;exact zae (by assumption))
  all_goals (first|go_returns|go_ret|go_end0)
  refine⟨by rw [HS.out];rfl,?_⟩;rw [←hW1];exact HBW.out
 ·have hd:decide ((n:Int)>8)=false:=decide_eq_false (by omega);match m,h,hq,HR,HQ,HN,HRow,hrow,hn with
  | [],_,_,_,_,HN,_,_,hn=>
   have hn0:n=0:=by rw [←hn];rfl
   subst hn0;clear hq h htab hn hrow hrd hbw;rw [hW1,←hg]at hbox;gi_wp2_with (exfalso;exact zae (by assumption))
   all_goals (first|go_returns|go_ret|go_end0)
   refine⟨rfl,?_⟩;rw [←hW1];exact HBW.out
  | r :: t,_,_,HR,HQ,HN,HRow,hrow,hn=>
   have hn1:0<n:=by rw [←hn];exact Nat.succ_pos _
   obtain⟨a,rfl,ha,hc⟩:=hrd hn1;have hr0:=hrow 0 r rfl;obtain⟨o0,c0,hf,hk9⟩:=zah.form hr0;have p0:=(hbw.cell (p:=a.add 0) (by rw [zac];exact ha)).trans (hc 0 hn1);rw [hf,show a.add 0=a by simp [Addr.add]]at p0;obtain⟨k,hk⟩:∃k,r.length=k:=⟨_,rfl⟩;have HK:=zHi hk;rw [hk]at p0 hk9;have HP0:=zHi p0;have he:decide ((n:Int)=0)=false:=decide_eq_false (by omega);have he2:((n:Int) == 0)=false:=by rw [beq_eq_false_iff_ne];omega
   have hn8:(r :: t).length=n:=hn;have HN8:Hid (¬8<(r :: t).length):=zHi (by rw [hn];omega);clear hq h htab hn hrow hrd hbw hc hr0 hf hk;rw [hW1]at p0;rw [hW1,←hg]at hbox;rcases Nat.lt_or_ge 8 k with hk8|hk8
   ·have hd2:decide ((k:Int)>8)=true:=decide_eq_true (by omega);have HS:Hid (zb8 (r :: t)=2):=zHi (by unfold zb8;rw [if_neg HN8.out];show(if 8<r.length then _ else _)=_;rw [if_pos (by rw [HK.out];exact hk8)]);gi_wp2_with (exfalso;exact zae (by assumption))
    all_goals (first|go_returns|go_ret|go_end0)
    refine⟨by rw [HS.out];rfl,?_⟩;rw [←hW1];exact HBW.out
   ·have hd2:decide ((k:Int)>8)=false:=decide_eq_false (by omega);rcases Nat.eq_zero_or_pos k with hk0|hk0
    ·subst hk0;have HS:Hid (zb8 (r :: t)=7):=zHi (by unfold zb8;rw [if_neg HN8.out];show(if 8<r.length then _ else _)=_;rw [if_neg (by rw [HK.out];omega),if_pos HK.out]);gi_wp2_with (exfalso;exact zae (by assumption))
     all_goals (first|go_returns|go_ret|go_end0)
     refine⟨by rw [HS.out];rfl,?_⟩;rw [←hW1];exact HBW.out
    ·have he3:((k:Int) == 0)=false:=by rw [beq_eq_false_iff_ne];omega
     have hne8:zb8 (r :: t)=(if(r :: t).any (zdJ k)then 7 else if(r :: t).any zcu then 11 else 0):=by
      unfold zb8;rw [if_neg HN8.out];show(if 8<r.length then _ else _)=_
      rw [if_neg (by rw [HK.out];omega),if_neg (by rw [HK.out];omega),HK.out]
     have HS:=zHi hne8;have h1:=zkJ W1 (.slice (some a) n c) (r :: t) (zah.below HR.out HBW.out (zaF.below HBW.out)) HQ.out (HTab.out.below HBW.out) g a n c o0 k c0 hn1 hk9 HBox.out HP0.out;have H1:=zHi h1;clear hne8 h1;gi_wp2_with (first|(exfalso;exact zae (by assumption))|(gi_at_call 96;refine stop ?_))
     unfold Stop;rw [←hW1];refine H1.out.mono ?_;rintro e w2 ⟨rfl,hB⟩;have hbox2:w2.cell? ⟨g,0,none⟩=some (.slice (some a) n c):=(hB.cell (World.block_lt_of_cell? _ _ HBox.out)).trans HBox.out;have HBW2:=zHi (HBW.out.trans (hB.mono HBW.out.size));clear hbox p0 hW1 hB;obtain⟨b,hb⟩:∃b,(r :: t).any (zdJ k)=b:=⟨_,rfl⟩;rw [hb]
     cases b with
     | true=>
      have HS2:Hid (zb8 (r :: t)=7):=zHi (by rw [HS.out,hb];rfl);gi_wp2_with (exfalso;exact zae (by assumption))
      all_goals (first|go_returns|go_ret|go_end0)
      exact⟨by rw [HS2.out];rfl,HBW2.out⟩
     | false=>
      have HS2:Hid (zb8 (r :: t)=(if(r :: t).any zcu then 11 else 0)):=zHi (by rw [HS.out,hb];rfl);have h2:=zi7 w2 (.slice (some a) n c) (r :: t) (zah.below HR.out HBW2.out (zaF.below HBW2.out)) HQ.out (HTab.out.below HBW2.out);have H2:=zHi h2;clear h2 hb;gi_wp2_with (first|(exfalso;exact zae (by assumption))|(gi_at_call 96;refine stop ?_))
      unfold Stop;refine H2.out.mono ?_;rintro e w3 ⟨rfl,hB⟩;have HBW3:=zHi (HBW2.out.trans (hB.mono HBW2.out.size));clear hB;obtain⟨b,hb⟩:∃b,(r :: t).any zcu=b:=⟨_,rfl⟩;rw [hb]
      cases b with
      | true=>
       have HS3:Hid (zb8 (r :: t)=11):=zHi (by rw [HS2.out,hb];rfl);clear hb;gi_wp2_with (exfalso;exact zae (by assumption))
       all_goals (first|go_returns|go_ret|go_end0)
       exact⟨by rw [HS3.out];rfl,HBW3.out⟩
      | false=>
       have HS3:Hid (zb8 (r :: t)=0):=zHi (by rw [HS2.out,hb];rfl);clear hb;gi_wp2_with (exfalso;exact zae (by assumption))
       all_goals (first|go_returns|go_ret|go_end0)
       exact⟨by rw [HS3.out];rfl,HBW3.out⟩
end Go.Num
namespace Go.Num
open Go.Eng Go.Shelf Go.RowKit Go.Sort Go.Proofs Go.Proofs.YtoamcgjbelhnkaaGreatDoor
end Go.Num
namespace Go.Eng
open Go.RowKit
section
variable {P:Program}
end
end Go.Eng
namespace Go.Num
open Go.Eng Go.Shelf Go.RowKit Go.Sort Go.Proofs Go.Proofs.YtoamcgjbelhnkaaGreatDoor
section
variable {w:World} {o:Option Addr} {n k:Nat} {m:List (List Rat)} {c:Int}
end
theorem zkv(w:World)(v:Value)(l:List Rat)(h:RowR w v l)(h9:l.length≤1000) :
  CallsIn Fence.wide 0 Tryz.prog 135 #[v] w fun e w'=>∃v',e = .returned v'∧OwnR w' w.heap.size 25 3 IR v' (l.map fun q => -q)∧Below w.heap.size w w':=by
 have HR:=zHi h;obtain⟨o,c,rfl,_⟩:=zah.form h;obtain⟨n,hn⟩:∃n,l.length=n:=⟨_,rfl⟩;have HN:=zHi hn;rw [hn]at HR h9;rw [hn];clear h hn;refine callsIn_of_wp Tryz.func135 rfl trivial ?_ rfl;simp only [Tryz.ntmps135,ztE,ztF,ztG,Nat.reduceAdd,Nat.reduceSub,ztH,ztI,ztJ,ztK,ztL,ztM];gi_wp2;gi_loopw [3,8] (fun x3 x8 wr=>∃i:Nat,x8 = .int .i64 (i:Int)∧i≤n∧Hid (OwnR wr w.heap.size 25 3 IR x3 ((l.take i).map fun q => -q))∧Hid (Below w.heap.size w wr)) (fun _ x _=>n-(intOf x).toNat)
 case atStart=>exact⟨0,rfl,by omega,OwnR.nil _ _ _ _ _,Below.refl _ w⟩
 case round=>
  obtain⟨i,rfl,hi,HO,HB⟩:=hrel;by_cases hin:i<n
  ·obtain⟨q,hq⟩:∃q,l[i]? = some q:=⟨_,List.getElem?_eq_getElem (by rw [HN.out];exact hin)⟩;have hR2:RowR wr (.slice o n c) l:=zah.below HR.out HB.out (IR.below HB.out);obtain⟨a,rfl⟩:∃a,o=some a:=by
    rcases hR2 with⟨h0,_⟩|⟨a,cap,xs,e,_⟩
    ·rw [h0]at hq;simp at hq
    ·injection e with e _ _;exact⟨a,e⟩
   obtain⟨hal,sg,o1,k1,c1,o2,k2,c2,x0,x1,x2,hra⟩:=zah.item hR2 hq;have HRA:=zHi hra;have HQq:=zHi hq;clear hR2 hra hq;gi_wp2_with (gi_at_call 46;refine stop ?_)
   unfold Stop;obtain⟨W1,hW1⟩:∃W,wr.alloc (.cells #[.bool sg,.slice o1 k1 c1,.slice o2 k2 c2] 25)=W:=⟨_,rfl⟩;have hb1:Below wr.heap.size wr W1:=by rw [←hW1];exact zaa _ _
   rw [hW1];refine(zh7 W1 _ q (zao.below HRA.out hb1)).mono ?_;rintro e w2 ⟨vr,rfl,hr,hB⟩;have hb2:Below wr.heap.size wr w2:=hb1.trans (hB.mono hb1.size);have HR2:=zHi hr;obtain⟨o5,k5,c5,o6,k6,c6,rfl⟩:=hr.form;obtain⟨sr,hsr⟩:∃sr,decide ((-q).num<0)=sr:=⟨_,rfl⟩;rw [hsr]at HR2;rw [hsr];have HB2:=zHi (HB.out.trans (hb2.mono HB.out.size));have HO2:=zHi (HO.out.below hb2 (IR.below hb2));obtain⟨oo,cc,hof⟩:=HO2.out.form;have hlen:((l.take i).map fun q => -q).length=i:=by rw [List.length_map,List.length_take,HN.out];omega
   have HLen:=zHi hlen;rw [hlen]at hof;have htk:((l.take (i+1)).map fun q => -q)=((l.take i).map fun q => -q) ++ [-q]:=by rw [List.take_add_one,HQq.out,List.map_append];rfl
   have HTK:=zHi htk;subst hof;clear hr hB hsr hb1 hb2 hW1 hlen htk x0 x1 x2 hal;gi_wp2_with (gi_at_builtin;refine stop ?_)
   unfold Stop;refine zaN (ty:=25) (sz:=3) (bytes:=56) w w2 rfl _ _ rfl Go.Num.u64 i25' i25z i25s i25b rfl (by decide) (by decide) (.slice oo i cc) ((l.take i).map fun q => -q) rfl HO2.out (-q) [.bool sr,.slice o5 k5 c5,.slice o6 k6 c6] _ rfl rfl (by simp [Value.oneCell']) HR2.out (fun b r w1 w2 ht=>IR.touch ht rfl b r) (by rw [HLen.out];omega) HB2.out ?_;intro v3 w4 HO3 HB4 _ _;rw [←HTK.out]at HO3;gi_wp2;exact⟨⟨i+1,by go_num,by omega,HO3,HB4⟩,by simp only [intOf];omega⟩
  ·have hin2:i=n:=by omega
   have HE:Hid (((l.take i).map fun q => -q)=l.map fun q => -q):=zHi (by rw [hin2,←HN.out,List.take_length]);gi_wp2;all_goals (first|go_returns|go_ret|go_end0)
   exact⟨_,rfl,by rw [←HE.out];exact HO.out,HB.out⟩
end Go.Num
namespace Go.Eng
open Go.RowKit Go.Num Go.Proofs Go.Proofs.YtoamcgjbelhnkaaGreatDoor
section
variable {P:Program} {ops:Array Oper} {bs bars r:List Nat} {i:Nat} {a:CAct} {w:World} {Q:CAct→World→Prop} {o:Oper}
end
theorem zsJ(w:World)(a b c:Value):(Instr.buildSlice 64 1 #[(0,.agg #[a,b,c])]).run Tryz.prog w = .ok (.slice (some ⟨w.heap.size,0,none⟩) 1 1) (w.alloc (.cells #[a,b,c] 25)):=by
 simp [Instr.buildSlice,underlying,sizeOf,typeInfo,i25',i25s,i25z,Sem.run_bind,Result.andThen,go_sem,zeroValue,Value.cells]
section
variable {ops:Array Oper} {bs bars r:List Nat} {i:Nat} {a:CAct} {w:World} {Q:CAct→World→Prop} {o:Oper}
end
end Go.Eng
namespace Go.Num
open Go.Eng Go.Shelf Go.RowKit Go.Sort Go.Proofs Go.Proofs.YtoamcgjbelhnkaaGreatDoor
theorem zsH{β:Type}(w wr:World){ty sz t tx bytes:Nat}{inf:TypeInfo}{z:Value}{I:β→List Value→World→Prop}
  (e1:Tryz.prog.underlying t=some (.slice ty)) (e2:Tryz.prog.info? ty=some inf) (e3:inf.zero=some z) (e4:inf.size=sz) (e5:inf.bytes=bytes) (e6:z.cells.size=sz) (e7:0<sz) (e8:bytes≤100)
  (v:Value) (bs:List β) (HO:OwnR wr w.heap.size ty sz I v bs) (b:β) (row:List Value) (tt:TypeId) (hrow:row.length=sz) (h1c:∀u∈row,u.oneCell'=true) (hIb:I b row wr) (hI:∀b r w1 w2,Touch ty w1 w2→I b r w1→I b r w2) (hn:bs.length<500000000)
  (HB:Below w.heap.size w wr) :
  ∃v' w',(Builtin.append_ #[t,t] tx #[v,.slice (some ⟨wr.heap.size,0,none⟩) 1 1]).run Tryz.prog (wr.alloc (.cells row.toArray tt)) = .ok v' w' ∧
   OwnR w' w.heap.size ty sz I v' (bs ++ [b])∧Below w.heap.size w w'∧Touch ty wr w'∧∀k,k<wr.heap.size→some k≠v.ownBlock→w'.heap[k]? = wr.heap[k]?:=by
 have hsz:=HB.size;obtain⟨xs,h1,h2,h3,h4⟩:=HO;obtain⟨v',w',hrun,g1,g2,_⟩:=run_append_own (P:=Tryz.prog) (wr.alloc (.cells row.toArray tt)) w.heap.size t tx ty inf z sz bytes e1 e2 e3 e4 e5 e6 e7 v bs.length xs.flatten (World.ownsRow.alloc h1 _) ⟨wr.heap.size,0,none⟩ 1 1 row (by rw [hrow];omega) (fun j u hu=>by rw [Addr.add_lit,Nat.zero_add,World.cell?_alloc_new];simpa using hu) h1c (by unfold maxLen;omega) (by
  have:(bs.length+1)*bytes≤500000000*100:=Nat.mul_le_mul (by omega) e8;omega) (by simp;omega)
 have hT:Touch ty wr w':=by
  refine⟨Nat.le_trans (by simp) g2.size,fun k cs e fz hk hne => ?_⟩;have hlt:k<wr.heap.size:=(Array.getElem?_eq_some_iff.1 hk).1;have hal:(wr.alloc (.cells row.toArray tt)).heap[k]? = wr.heap[k]?:=(zaa wr _).block k hlt;rw [g2.block k (by simp;omega) (fun hk' => ?_),hal]
  ·exact hk
  ·rcases h1.2 with⟨rfl,_⟩|⟨g,cap,cur,rfl,q1,q2,_⟩
   ·cases hk'
   ·have:k=g:=by simpa [Value.ownBlock]using hk'
    subst this;rw [q2]at hk;injection hk with hk;injection hk with _ hk _;exact hne hk.symm
 refine⟨v',w',hrun,⟨xs ++ [row],?_,by simp [h2],fun r hr => ?_,fun i r b' hr hb' => ?_⟩,?_,hT,?_⟩
 ·rw [List.flatten_append,List.length_append];simpa using g1
 ·rcases List.mem_append.1 hr with h|h
  ·exact h3 r h
  ·rw [List.mem_singleton.1 h,hrow]
 ·rcases Nat.lt_or_ge i bs.length with hi|hi
  ·rw [List.getElem?_append_left (by omega)]at hr hb';exact hI _ _ _ _ hT (h4 i r b' hr hb')
  ·rw [List.getElem?_append_right (by omega)]at hr hb';rw [h2]at hr;rcases Nat.eq_zero_or_pos (i-bs.length)with h0|h0
   ·rw [h0]at hr hb';have hr:row=r:=by simpa using hr
    have hb':b=b':=by simpa using hb'
    rw [←hr,←hb'];exact hI _ _ _ _ hT hIb
   ·rw [List.getElem?_eq_none (by simp;omega)]at hr
    cases hr
 ·exact(HB.alloc hsz _).grown g2 (by simp;omega) fun k hk=>zb0 h1 hk
 ·intro k hk hne;rw [g2.block k (by simp;omega) hne,(zaa wr _).block k hk]
end Go.Num
