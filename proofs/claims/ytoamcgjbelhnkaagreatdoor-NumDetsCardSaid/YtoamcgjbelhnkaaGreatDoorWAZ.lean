/-
  The reference's 'Reduce'. The reference's 'scaled': all rows of a matrix as integers. The reference's elimination, a row under way, in plain
  Conditions: see each statement.
-/
import Derived.Test.YtoamcgjbelhnkaaGreatDoorWAA
import Derived.Test.YtoamcgjbelhnkaaGreatDoorWAY
set_option maxRecDepth 100000
set_option maxHeartbeats 16000000
namespace Go.Num
open Go.Eng Go.Shelf Go.RowKit Go.Sort Go.Proofs Go.Proofs.YtoamcgjbelhnkaaGreatDoor
attribute [local go_sem] Oper.semAt_some
theorem u121:Tryz.prog.underlying 121=some (.slice 128):=by kernel_rfl
theorem i128:Tryz.prog.info? 128=some Tryz.t128:=by kernel_rfl
theorem zsq:Tryz.t128.zero=some (.slice none 0 0):=by kernel_rfl
theorem zrq:Tryz.t128.size=1:=by kernel_rfl
theorem zsr:Tryz.t128.bytes=24:=by kernel_rfl
theorem lo63:zbW Tryz.prog 63:=za9 (by kernel_rfl)
def zek(base:Nat)(l:List Int)(r:List Value)(w:World):Prop:=∃u,r = [u]∧OwnR w base 32 2 IZ u l
def zeW(l:List Int)(r:List Value)(w:World):Prop:=∃u,r = [u]∧zag w 32 2 IZ u l
abbrev MatZ(w:World)(v:Value)(m:List (List Int)):Prop:=zag w 128 1 zeW v m
theorem zek.below{base:Nat}{w w':World}(h:Below w.heap.size w w'):∀q r,zek base q r w→zek base q r w':=fun _ _ ⟨u,e,k⟩=>⟨u,e,k.below h (IZ.below h)⟩
theorem zek.touch{base:Nat}{w w':World}(h:Touch 128 w w'):∀q r,zek base q r w→zek base q r w':=fun _ _ ⟨u,e,k⟩=>⟨u,e,k.touch h (by decide) (IZ.touch h rfl)⟩
theorem zek.but{base g:Nat}{w w':World}(h:ButB g w w')(hk:Go.Eng.Kept rs3 w w')(hg:g<base):∀q r,zek base q r w→zek base q r w':=fun _ _ ⟨u,e,k⟩=>⟨u,e,k.keep (fun b hb hl=>h.blk b hl (fun e=>by have:=(k.blk hb).1;omega)) (fun b r q=>ZAt.kept (show ZAt w (.agg r.toArray) b from q) hk)⟩
theorem zag.imp{β:Type}{w:World}{ty sz:Nat}{I J:β→List Value→World→Prop}{v:Value}{bs:List β}(h:zag w ty sz I v bs)(hI:∀b r,b∈bs→I b r w→J b r w):zag w ty sz J v bs:=by
 rcases h with h|⟨a,cap,xs,h1,h2,h3,h4,h5,h6,h7,h8⟩
 ·exact .inl h
 ·exact .inr ⟨a,cap,xs,h1,h2,h3,h4,h5,h6,h7,fun i row b hr hb=>hI b row (List.mem_of_getElem? hb) (h8 i row b hr hb)⟩
theorem zpr{F:Fence}{n:Nat}{P:Program}{ops:Array Oper}{rest:List Oper}{x y:Operand}{ty:TypeId}{ps:String}{af:Array Edge}{a:CAct}{Q:Exit→CAct→World→Prop}{w:World}
  (h:Stop (wpListIn F n P ops Q ({op:=.store 32 x y,dst:=none,type:=ty,pos:=ps,after:=af,guard:=none} :: rest) a w)):wpListIn F n P ops Q ({op:=.store 32 x y,dst:=none,type:=ty,pos:=ps,after:=af,guard:=none} :: rest) a w:=h
theorem ZBox.eq{w w':World}{g:Nat}{z:Int}(h:ZBox w g z)(e:w'.heap[g]? = w.heap[g]?)(hk:Go.Eng.Kept rs3 w w'):ZBox w' g z:=by
 obtain⟨s,o,k,c,h1,h2⟩:=h.at';refine⟨⟨s,o,k,c,⟨?_,fun j v hj=>by rw [World.cell?_of_block (a:=⟨g,j,none⟩) e];exact h1.2 j v hj⟩,h2.kept hk⟩,fun j hj=>by rw [World.frozen?_of_block (a:=⟨g,j,none⟩) e];exact h.free j hj,h.el.of_block e⟩;obtain⟨cs,fz,hc⟩:=h.el;rw [hc]at e;exact(Array.getElem?_eq_some_iff.1 e).1
theorem ScS.turn{w0 w:World}{g3 g4:Nat}{z z':Int}(h:ScS w0 g3 g4 z w)(h3:w0.heap.size≤g3)(h34:g3<g4){s:Bool}{o:Option Addr}{k c:Nat}(hz:ZAt w (.agg #[.bool s,.slice o k c]) z'):ScS w0 g3 g4 z' (w.setCells g4 0 [.bool s,.slice o k c]):=by
 obtain⟨t1,t2,t3⟩:=h.acc.store hz;exact⟨zaF (by omega) _ _ _ h.below,h.ret.eq (t2.blk g3 h.ret.el.lt (by omega)) t3,t1⟩
def facP(Q:Nat→Nat→Rat)(N:Nat):Nat→Nat
 | 0=>1
 | i+1=>facP Q N i*facF (Q i) N
theorem zmS{Q:Nat→Nat→Rat}{N m:Nat}(h:∀i,i<m→facF (Q i) N<B^101):∀i,i≤m→facP Q N i<B^(101*i+1)
 | 0,_=>by show 1<B^1;decide
 | i+1,hi=>by
  have h1:=zmS h i (by omega);have h2:=h i (by omega);show facP Q N i*facF (Q i) N<_
  rw [show 101*(i+1)+1=(101*i+1)+101 by omega,Nat.pow_add];exact Nat.mul_lt_mul'' h1 h2
theorem zfT(w:World)(v:Value)(Q:Nat→Nat→Rat)(m N:Nat)(h:MatQ w v (tab m N Q))(h0:0<m)(hN:0<N)(h9:m≤20∧N≤20)(hq:∀i j,i<m→j<N→zaw (Q i j) 5) :
  CallsIn Fence.wide 0 Tryz.prog 83 #[v] w fun e w'=>∃v1 v2,e = .returned (.tuple #[v1,v2])∧MatZ w' v1 (tab m N fun i=>za2 (Q i) N)∧ZAt w' v2 ((facP Q N m:Nat):Int)∧Below w.heap.size w w':=by
 obtain⟨a,c,rfl⟩:=zag.some h (by rw [zak];exact h0);rw [zak]at h;have HR:=zHi h;have HQ:=zHi hq;have hfac:∀i,i<m→facF (Q i) N<B^101:=fun i hi=>by
  have:=zgC (q:=Q i) (D:=B^5) (n:=N) (fun j hj=>Nat.le_of_lt (hq i j hi hj).2);rw [←Nat.pow_mul]at this;exact Nat.lt_of_le_of_lt this (Nat.pow_lt_pow_right (by decide) (by omega))
 have HFAC:=zHi hfac;clear h hq hfac;rw [zak];refine callsIn_of_wp Tryz.func83 rfl trivial ?_ rfl;simp only [Tryz.ntmps83,ztr,zts,ztt,Nat.reduceAdd,Nat.reduceSub,ztu,ztv,ztw,ztx,zty,ztz];gi_wp2_with (gi_at_call 22;refine stop ?_)
 unfold Stop;refine(zbb _ 1 (by decide) (by decide)).mono ?_;rintro e w1 ⟨v1,rfl,hz1,hB1⟩;obtain⟨s1,o1,k1,c1,rfl⟩:=hz1.form;obtain⟨g3,hg3⟩:∃g,w.heap.size=g:=⟨_,rfl⟩;obtain⟨g4,hg4⟩:∃g,w1.heap.size=g:=⟨_,rfl⟩;have hb0:=zaa w (.cells #[.bool false,.slice none 0 0] 32);have hS0:ScS w g3 g4 ((facP Q N 0:Nat):Int) (w1.alloc (.cells #[.bool s1,.slice o1 k1 c1] 32)):=by
  have hb1:=zaa w1 (.cells #[.bool s1,.slice o1 k1 c1] 32);refine⟨(hb0.trans (hB1.mono hb0.size)).trans (hb1.mono (Nat.le_trans hb0.size hB1.size)),?_,?_⟩
  ·rw [←hg3];exact((ZBox.new (w:=w) (s:=false) (o:=none) (k:=0) (c:=0) ⟨_,rfl,zkj _ _ _⟩).below hB1).below hb1
  ·rw [←hg4];exact ZBox.new hz1
 have h34:g3<g4:=by
  rw [←hg3,←hg4];have:=hB1.size;rw [World.size_alloc]at this;omega
 have HS0:=zHi hS0;have HG3:=zHi hg3;have HG4:=zHi hg4;clear hz1 hB1 hb0 hS0 hg3 hg4;gi_wp2;rw [HG3.out,HG4.out];gi_loopw [4,6] (fun x4 x6 wr=>∃i:Nat,x6 = .int .i64 (i:Int)∧i≤m∧Hid (ScS w g3 g4 ((facP Q N i:Nat):Int) wr)∧Hid (OwnR wr (g4+1) 128 1 (zek (g4+1)) x4 ((tab m N fun i=>za2 (Q i) N).take i))) (fun _ x _=>m-(intOf x).toNat)
 case atStart=>exact⟨0,rfl,by omega,HS0,OwnR.nil _ _ _ _ _⟩
 case round=>
  obtain⟨i,rfl,hi,HS,HO⟩:=hrel;clear HS0;by_cases hin:i<m
  ·have hR1:=zag.below HR.out HS.out.below (zbC.below HS.out.below);obtain⟨_,row,hrl,hcell,u,rfl,hu⟩:=zag.at' hR1 (zbD hin);have x0:=hcell 0 u rfl;rw [Addr.add_add,Nat.add_zero,Nat.mul_one]at x0;obtain⟨au,cu,rfl⟩:=zag.some hu (by simpa using hN);rw [List.length_map,List.length_range]at x0 hu;have hg4w:g4<wr.heap.size:=HS.out.acc.el.lt;have HU:=zHi hu;clear hcell hrl hR1 hu;gi_wp2_with (gi_at_call 90;refine stop ?_)
   unfold Stop;refine(zev wr _ (Q i) N HU.out hN h9.2 (fun j hj=>HQ.out i j hin hj)).mono ?_;rintro e w2 ⟨v1,v2,rfl,ho2,hz2,hB2⟩;obtain⟨s2,o2,k2,c2,rfl⟩:=hz2.form;obtain⟨or2,cr2,rfl⟩:=ho2.form;rw [zcg]at ho2;rw [zcg];have HS2:=zHi (HS.out.under hB2);have ho3:=HO.out.below hB2 (zek.below hB2);have HR2:=zHi (OwnR.weaken ho2 (show g4+1≤wr.heap.size by omega));obtain⟨oo,co,hof⟩:=ho3.form;have hlen:((tab m N fun i=>za2 (Q i) N).take i).length=i:=by rw [List.length_take,zak];omega
   rw [hlen]at hof;have HLen:=zHi hlen;subst hof;have HO3:=zHi ho3;have HZ2:=zHi hz2;clear ho2 hz2 hB2 ho3 hlen x0;gi_wp2_with (gi_at_builtin;refine stop ?_)
   unfold Stop;obtain⟨W8,hW8⟩:∃W,w2.alloc (.cells #[.bool s2,.slice o2 k2 c2] 32)=W:=⟨_,rfl⟩;obtain⟨g8,hg8⟩:∃g,w2.heap.size=g:=⟨_,rfl⟩;have hs8:W8.heap.size=g8+1:=by rw [←hW8,←hg8];simp
   have hb28:Below w2.heap.size w2 W8:=by rw [←hW8];exact zaa _ _
   have hx8:ZBox W8 g8 ((facF (Q i) N:Nat):Int):=by rw [←hW8,←hg8];exact ZBox.new HZ2.out
   have hS8:=HS2.out.under hb28;have ho8:=HO3.out.below hb28 (zek.below hb28);have hr8:=HR2.out.below hb28 (IZ.below hb28);have hg48:g4<g8:=by rw [←hg8];exact HS2.out.acc.el.lt
   rw [hW8,hg8];refine zbi (ty:=128) (sz:=1) (bytes:=24) W8 rfl _ _ rfl u121 i128 zsq zrq zsr rfl (by decide) (by decide) (g4+1) (by omega) (.slice oo i co) _ rfl ho8 (rowZ (za2 (Q i) N) N) [.slice or2 N cr2] _ (by rw [hs8];rfl) rfl (by simp [Value.oneCell']) ⟨_,rfl,hr8⟩ (fun b r w1 w2 ht=>zek.touch ht b r) (by rw [HLen.out];omega) ?_;intro v5 w5 HO5 HK5 HB5;have hblk:=fun b hb=>ho8.blk (b:=b) hb
   have hk85:Go.Eng.Kept rs3 W8 w5:=fun b cs e fz hc he=>by
    rw [HK5.out.2 b (Array.getElem?_eq_some_iff.1 hc).1 (fun q=>by
     obtain⟨_,cur,hcur⟩:=hblk b q.symm;rw [hcur]at hc;cases hc;cases he)]
    exact hc
   have hne:∀b e,Elem W8 b e→e≠128→w5.heap[b]? = W8.heap[b]?:=fun b e ⟨cs,fz,hc⟩ he=>HK5.out.2 b (Array.getElem?_eq_some_iff.1 hc).1 (fun q=>by
    obtain⟨_,cur,hcur⟩:=hblk b q.symm;rw [hcur]at hc;cases hc;exact he rfl)
   have hS5:ScS w g3 g4 ((facP Q N i:Nat):Int) w5:=⟨HB5.out w.heap.size w hS8.below (by rw [HG3.out];omega),hS8.ret.eq (hne _ _ hS8.ret.el (by decide)) hk85,hS8.acc.eq (hne _ _ hS8.acc.el (by decide)) hk85⟩;have hx5:ZBox w5 g8 ((facF (Q i) N:Nat):Int):=hx8.eq (hne _ _ hx8.el (by decide)) hk85;have hnx:(tab m N fun i=>za2 (Q i) N).take (i+1)=(tab m N fun i=>za2 (Q i) N).take i ++ [rowZ (za2 (Q i) N) N]:=by rw [List.take_add_one,zbD hin];rfl
   have HO6:Hid (OwnR w5 (g4+1) 128 1 (zek (g4+1)) v5 ((tab m N fun i=>za2 (Q i) N).take (i+1))):=zHi (by rw [hnx];exact HO5.out);obtain⟨sf,of,kf,cf,hxf,hzf⟩:=hS5.acc.at';obtain⟨sg,og,kg,cg,hxg,hzg⟩:=hx5.at';have p0:=hxf.2 0 _ rfl;have p1:=hxf.2 1 _ rfl;have q0:=hxg.2 0 _ rfl;have q1:=hxg.2 1 _ rfl;have HS5:=zHi hS5;have HZF:=zHi hzf;have HZG:=zHi hzg;clear hW8 hg8 hs8 hb28 hx8 hS8 ho8 hr8 HO5 HK5 HB5 hblk hk85 hne hS5 hx5 hnx hxf hzf hxg hzg;gi_wp2_with (gi_at_call 92;refine stop ?_)
   unfold Stop;refine(zc6 w5 _ _ _ _ HZF.out HZG.out (by rw [Int.natAbs_natCast];exact up (b:=100000) (zmS HFAC.out i hi) (by omega)) (by rw [Int.natAbs_natCast];exact up (b:=100000) (HFAC.out i hin) (by omega))).mono ?_;rintro e w6 ⟨v6,rfl,hz6,hB6⟩;have hz6':ZAt w6 v6 ((facP Q N (i+1):Nat):Int):=by rw [show facP Q N (i+1)=facP Q N i*facF (Q i) N from rfl,Int.natCast_mul];exact hz6
   obtain⟨s6,o6,k6,c6,rfl⟩:=hz6'.form;have hS6:=HS5.out.under hB6;have ho6:=HO6.out.below hB6 (zek.below hB6);obtain⟨t1,t2,t3⟩:=hS6.acc.store hz6';have HS7:=zHi (hS6.turn (by rw [HG3.out];exact Nat.le_refl _) h34 hz6');have HO7:=zHi (ho6.keep (w':=w6.setCells g4 0 [.bool s6,.slice o6 k6 c6]) (fun b hb hl=>t2.blk b hl (fun e=>by have:=(ho6.blk hb).1;omega)) (zek.but t2 t3 (Nat.lt_succ_self _)));have HTh:=zHi hS6.acc.there;clear p0 p1 q0 q1 hz6 hz6' hB6 hS6 ho6 t1 t2 t3;gi_wp2_with (with_reducible refine zpr ?_)
   unfold Stop;refine zbe _ rfl rfl (zgo HTh.out (by simp [Value.oneCell'])) ?_;gi_wp2;exact⟨⟨i+1,by go_num,by omega,HS7,HO7⟩,by simp only [intOf];omega⟩
  ·have hi2:m=i:=by omega
   subst hi2;gi_wp2;have hbd:=zab wr;have ho1:=HO.out.below hbd (zek.below hbd);have hS1:=HS.out.under hbd;obtain⟨W1,hW1⟩:∃W,wr.drew=W:=⟨_,rfl⟩;rw [hW1]at hS1 ho1;rw [List.take_of_length_le (by rw [zak];exact Nat.le_refl _)]at ho1;obtain⟨sf,of,kf,cf,hxf,hzf⟩:=hS1.acc.at';obtain⟨t1,t2,t3⟩:=hS1.ret.store hzf;refine zap (ro:=none) [3] [0,1,2,3] [0,0,1,7] zaq rfl 33 rfl (by kernel_rfl) (by kernel_rfl) ?_;rw [hW1];refine OV.mv (v:=u4) rfl rfl rfl rfl ?_;refine OV.ldn [.bool sf,.slice of kf cf] lm32 hxf.at' rfl rfl rfl rfl rfl (by decide) rfl ?_;refine OV.asg (v:=u4) rfl rfl rfl rfl ?_;refine OV.st (w':=W1.setCells g3 0 [.bool sf,.slice of kf cf]) trivial (zgo hS1.ret.there (by simp [Value.oneCell'])) rfl rfl rfl rfl rfl ?_;refine OV.done ?_;obtain⟨W5,hW5⟩:∃W,W1.setCells g3 0 [.bool sf,.slice of kf cf]=W:=⟨_,rfl⟩;rw [hW5]at t1 t2 t3;have ho5:=ho1.keep (w':=W5) (fun b hb hlt=>t2.blk b hlt (fun e=>by have:=(ho1.blk hb).1;omega)) (zek.but t2 t3 (by omega));have hm5:MatZ W5 u4 (tab m N fun i=>za2 (Q i) N):=(ho5.row (by rw [zak];omega)).imp (fun b r hbm ⟨u,e,k⟩=>⟨u,e,k.row (by rw [zgm hbm];omega)⟩);have hb5:Below w.heap.size w W5:=by
    rw [←hW5];exact zaF (by rw [HG3.out];exact Nat.le_refl _) _ _ _ hS1.below
   have HM5:=zHi hm5;have HB5:=zHi hb5;have HT1:=zHi t1;rw [hW5];simp only [za4,Go.Act.put,ztA,ztB,ztC];clear t1 t2 t3 ho5 hm5 hb5 hW5 hxf hzf hS1 ho1 hbd hW1;gi_wp2;obtain⟨s6,o6,k6,c6,hx6,hz6⟩:=HT1.out.at';have l32:zcp Tryz.prog 32 2:=zbS (by kernel_rfl) (by kernel_rfl);refine⟨rfl,.tuple #[u4,.agg #[.bool s6,.slice o6 k6 c6]],?_,_,_,rfl,HM5.out,hz6,HB5.out⟩;have e1:=l32 g3 [.bool s6,.slice o6 k6 c6] W5 rfl hx6.2;simp only [Instr.loadAt,Instr.sureAddr,Sem.run_bind,Sem.run_pure,Result.andThen_ok]at e1;simp [results,asAddr,e1]
theorem zm9{F:Fence}{n:Nat}(wr:World){ops:Array Oper}{rest:List Oper}{o:Oper}{a:CAct}{Q:Exit→CAct→World→Prop}{t:TypeId}(e1:Tryz.prog.underlying t=some (.slice 128))
  (hg:o.guard=none) (s x:Operand) (hop:o.op=Op.call {callee:=Callee.builtin Builtin.append,args:=#[s,x],argTypes:=#[t,t]})
  (base b2:Nat) (hbase:base≤wr.heap.size) (v:Value) {rvs:List Value} {rows:List (List Int)} (hs:a.eval s=v) (HM:zan wr base 128 32 2 IZ v rvs rows) (u:Value) {l:List Int} (hu:OwnR wr b2 32 2 IZ u l) (hb2:base≤b2) (hl:0<l.length)
  (hlt:∀(i:Nat) (u':Value) (b:Nat),rvs[i]? = some u'→u'.ownBlock=some b→b<b2) (tt:TypeId) (hx:a.eval x = .slice (some ⟨wr.heap.size,0,none⟩) 1 1) (hn:rvs.length<500000000)
  (hK:∀v' w',Hid (zan w' base 128 32 2 IZ v' (rvs ++ [u]) (rows ++ [l]))→Hid (∀B0 w0,Below B0 w0 wr→B0≤base→Below B0 w0 w')→wpListIn F n Tryz.prog ops Q rest (a.put o.dst v') w') :
  wpListIn F n Tryz.prog ops Q (o :: rest) a (wr.alloc (.cells #[u] tt)):=by
 obtain⟨gu,cu,eu,gu1,gu2,curu,gu3⟩:=hu.own hl;have hvb:∀b,v.ownBlock=some b→∃cur,wr.heap[b]? = some (.cells cur 128 (0,0)):=fun b hb=>(HM.top.blk hb).2
 refine zbi (ty:=128) (sz:=1) (bytes:=24) wr hg s x hop e1 i128 zsq zrq zsr rfl (by decide) (by decide) base hbase v rvs hs HM.top u [u] tt hx rfl (by simp [eu,Value.oneCell']) rfl (fun _ _ _ _ _ q=>q) hn ?_;intro v' w' h1 h2 h3;have hk:∀(b:Nat) (cs:Array Value),wr.heap[b]? = some (.cells cs 32 (0,0))→w'.heap[b]? = wr.heap[b]?:=fun b cs hb=>h2.out.2 b (Array.getElem?_eq_some_iff.1 hb).1 (fun e=>by
  obtain⟨cur,hc⟩:=hvb b e.symm;rw [hc]at hb;cases hb)
 have hT:Touch 128 wr w':=⟨h2.out.1,fun b cs e fz hb hne=>by
  rw [h2.out.2 b (Array.getElem?_eq_some_iff.1 hb).1 (fun e'=>by
   obtain⟨cur,hc⟩:=hvb b e'.symm;rw [hc]at hb;cases hb;exact hne rfl)]
  exact hb⟩
 refine hK v' w' ?_ h3;refine HM.snoc h1.out (fun b cs _ hb=>hk b cs hb) (IZ.touch hT rfl) (OwnR.weaken (hu.keep (fun b hb _ => ?_) (IZ.touch hT rfl)) hb2) hl ?_
 ·have hb:gu=b:=by rw [eu]at hb;simpa [Value.ownBlock]using hb
  rw [←hb];exact hk _ _ gu3
 ·rintro b cs _ _ ⟨i,u',q1,q2⟩ e;have:=hlt i u' b q1 q2;have e:gu=b:=by rw [eu]at e;simpa [Value.ownBlock]using e
  omega
theorem IZ.one{b:Int}{r:List Value}{w:World}(h:IZ b r w):∀u∈r,u.oneCell'=true:=by
 obtain⟨s,o,k,c,e⟩:=ZAt.form h;have e:r = [.bool s,.slice o k c]:=by
  injection e with e;injection e
 subst e;simp [Value.oneCell']
def FarR(P:Option Nat)(r:List Value):Prop:=∀x m,r = [x,m]→∀b,m.ownBlock=some b→P≠some b
def IZp(P:Option Nat)(z:Int)(r:List Value)(w:World):Prop:=IZ z r w∧(z=0∨FarR P r)
theorem ZAt.blk{w:World}{x m:Value}{z:Int}(h:ZAt w (.agg #[x,m]) z)(hz:z≠0):∃b,m.ownBlock=some b∧b<w.heap.size∧∃cs fz,w.heap[b]? = some (.cells cs 3 fz):=by
 obtain⟨m',e,k,hk,hl⟩:=h;have e:m=m':=by
  injection e with e;injection e with e;injection e with _ e;injection e
 subst e;rcases hl with⟨h0,_⟩|⟨a,cap,e,h0,_,_,⟨cs,fz,h5⟩,_⟩
 ·subst h0;have:=hk.zero;omega
 ·exact⟨a.block,by rw [e];rfl,(Array.getElem?_eq_some_iff.1 h5).1,cs,fz,h5⟩
theorem ZAt.keepB{w w':World}{x m:Value}{z:Int}(h:ZAt w (.agg #[x,m]) z)(hk:z≠0→∀b,m.ownBlock=some b→b<w.heap.size→w'.heap[b]? = w.heap[b]?):ZAt w' (.agg #[x,m]) z:=by
 obtain⟨m',e,k,hkl,hl⟩:=h;have e':m=m':=by
  injection e with e;injection e with e;injection e with _ e;injection e
 refine⟨m',e,k,hkl,?_⟩;rcases hl with hl|⟨a,cap,e2,h0,h1,h2,⟨cs,fz,h5⟩,h6⟩
 ·exact .inl hl
 ·have hz:z≠0:=fun q=>by
   rw [q]at hkl;have:=hkl.le (show(0:Int).natAbs<B^0 by decide);omega
  have hb:=hk hz a.block (by rw [e',e2];rfl) (Array.getElem?_eq_some_iff.1 h5).1;exact .inr ⟨a,cap,e2,h0,h1,h2,⟨cs,fz,hb.trans h5⟩,fun i hi=>(World.cell?_of_block (by rw [zac];exact hb)).trans (h6 i hi)⟩
theorem IZ.pair{z:Int}{r:List Value}{w:World}(h:IZ z r w):∃s o k c,r = [.bool s,.slice o k c]∧ZAt w (.agg #[.bool s,.slice o k c]) z:=by
 obtain⟨s,o,k,c,e⟩:=ZAt.form h;have e':r = [.bool s,.slice o k c]:=by
  injection e with e;injection e
 exact⟨s,o,k,c,e',by rw [←e];exact h⟩
def ButP(P:Option Nat)(w w':World):Prop:=w.heap.size≤w'.heap.size∧∀(b:Nat) (cs:Array Value) (fz:Nat × Nat),w.heap[b]? = some (.cells cs 3 fz)→some b≠P→w'.heap[b]? = w.heap[b]?
theorem IZp.keep{P:Option Nat}{w w':World}(h:ButP P w w'):∀z r,IZp P z r w→IZp P z r w':=by
 rintro z r ⟨h1,h2⟩;obtain⟨s,o,k,c,rfl,hz⟩:=IZ.pair h1;refine⟨hz.keepB (fun hz0 b hb _ => ?_),h2⟩;obtain⟨b',hb',_,cs,fz,hc⟩:=hz.blk hz0;rw [hb]at hb'
 cases hb'
 exact h.2 b cs fz hc (fun e=>(h2.resolve_left hz0) _ _ rfl b hb e.symm)
theorem IZp.kept{P:Option Nat}{w w':World}(h:Go.Eng.Kept rs3 w w'):∀z r,IZp P z r w→IZp P z r w':=fun _ _ ⟨h1,h2⟩=>⟨ZAt.kept h1 h,h2⟩
theorem IZp.below{P:Option Nat}{w w':World}(h:Below w.heap.size w w'):∀z r,IZp P z r w→IZp P z r w':=fun z r ⟨h1,h2⟩=>⟨IZ.below h z r h1,h2⟩
theorem IZp.move{P P':Option Nat}{w:World}(hP:P'=P∨∃p,P'=some p∧w.heap.size≤p):∀z r,IZp P z r w→IZp P' z r w:=by
 rintro z r ⟨h1,h2⟩;refine⟨h1,?_⟩;rcases hP with rfl|⟨p,rfl,hp⟩
 ·exact h2
 ·by_cases hz:z=0
  ·exact .inl hz
  ·refine .inr fun x m e b hb q => ?_
   obtain⟨s,o,k,c,e2,hz'⟩:=IZ.pair h1;rw [e2]at e;injection e with _ e;injection e with e _;subst e;obtain⟨b',hb',hl,_⟩:=hz'.blk hz;rw [hb]at hb'
   cases hb'
   cases q
   omega
theorem IZp.fresh{P:Option Nat}{w:World}{z:Int}{s:Bool}{o:Option Addr}{k c B0:Nat}(h:ZAt w (.agg #[.bool s,.slice o k c]) z)(hf:zr1 B0 (.agg #[.bool s,.slice o k c]))(hP:∀p,P=some p→p<B0):IZp P z [.bool s,.slice o k c] w:=by
 refine⟨h,.inr fun x m e b hb q => ?_⟩;obtain⟨x',m',e',hf⟩:=hf;have e':m' = .slice o k c:=by
  injection e' with e';injection e' with e';injection e' with _ e';injection e' with e' _;exact e'.symm
 subst e';injection e with _ e;injection e with e _;subst e;have:=hf b hb;have:=hP b q;omega
theorem IZp.none{z:Int}{r:List Value}{w:World}(h:IZ z r w):IZp none z r w:=⟨h,.inr fun _ _ _ _ _ q=>by cases q⟩
theorem zan.swap{β:Type}{w:World}{base tyO tyI sz:Nat}{I:β→List Value→World→Prop}{v:Value}{rvs:List Value}{m N:Nat}{A:Nat→Nat→β}(h:zan w base tyO tyI sz I v rvs (tab m N A))(hne:tyO≠tyI)(hN:0<N){g cap k r:Nat}(hv:v = .slice (some ⟨g,0,none⟩) m cap)(hk:k<m)(hr:r<m)(hkr:k≠r){uk ur:Value}
  (hck:w.cell? ((⟨g,0,none⟩:Addr).add (k*1))=some uk) (hcr:w.cell? ((⟨g,0,none⟩:Addr).add (r*1))=some ur) (hI:∀w',ButB g w w'→(∀b r,I b r w→I b r w')) :
  w.there g (k*1) 1∧(w.setCells g (k*1) [ur]).there g (r*1) 1∧∃rvs',zan ((w.setCells g (k*1) [ur]).setCells g (r*1) [uk]) base tyO tyI sz I v rvs' (tab m N fun i=>A (zaM k r i)):=by
 subst hv;have hl:rvs.length=m:=by rw [←h.len,zak]
 have uniq:∀{i:Nat} {u:Value},i<m→w.cell? ((⟨g,0,none⟩:Addr).add (i*1))=some u→rvs[i]? = some u:=fun {i u} hi hc=>by
  obtain⟨u',hu'⟩:∃u',rvs[i]? = some u':=⟨_,List.getElem?_eq_getElem (by omega)⟩;obtain⟨g',cap',e,_,_,hc'⟩:=h.cell hu';injection e with e;injection e with e;injection e with e;subst e;rw [hc]at hc'
  cases hc'
  exact hu'
 have huk:=uniq hk hck;have hur:=uniq hr hcr;have hgb:∃cur,w.heap[g]? = some (.cells cur tyO (0,0)):=by
  obtain⟨g',cap',e,_,_,cur,hc⟩:=h.top.own (by omega);injection e with e;injection e with e;injection e with e;subst e;exact⟨cur,hc⟩
 obtain⟨cur,hgb⟩:=hgb;have htop:OwnR w base tyO 1 (fun u r _=>r = [u]) (.slice (some ⟨g,0,none⟩) rvs.length cap) rvs:=by rw [hl];exact h.top
 obtain⟨h1,h2⟩:=htop.store (by decide) (i:=k) (by omega) (row:=[ur]) (b:=ur) rfl (fun _ _ q=>q) rfl;have h1':OwnR (w.setCells g (k*1) [ur]) base tyO 1 (fun u r _=>r = [u]) (.slice (some ⟨g,0,none⟩) (rvs.set k ur).length cap) (rvs.set k ur):=by rw [List.length_set];exact h1
 obtain⟨h3,h4⟩:=h1'.store (by decide) (i:=r) (by rw [List.length_set];omega) (row:=[uk]) (b:=uk) rfl (fun _ _ q=>q) rfl;have hb:=(zah g [ur] (k*1) w).trans (zah g [uk] (r*1) (w.setCells g (k*1) [ur]));have hat:∀i,i<m→((rvs.set k ur).set r uk)[i]? = rvs[zaM k r i]?:=fun i hi=>by
  unfold zaM;by_cases e1:i=r
  ·subst e1;rw [List.getElem?_set_self (by rw [List.length_set];omega),if_neg (fun q=>hkr q.symm),if_pos rfl,huk]
  ·rw [List.getElem?_set_ne (Ne.symm e1)];by_cases e2:i=k
   ·subst e2;rw [List.getElem?_set_self (by omega),if_pos rfl,hur]
   ·rw [List.getElem?_set_ne (Ne.symm e2),if_neg e2,if_neg e1]
 have hlt:∀i,i<m→zaM k r i<m:=fun i hi=>by unfold zaM;split <;> (try split) <;> omega
 have hlen:((rvs.set k ur).set r uk).length=m:=by rw [List.length_set,List.length_set,hl]
 have hidx:∀{i:Nat} {u:Value},((rvs.set k ur).set r uk)[i]? = some u→i<m∧rvs[zaM k r i]? = some u:=fun {i u} q=>by
  have hi:i<m:=by rw [←hlen];exact(List.getElem?_eq_some_iff.1 q).1
  exact⟨hi,by rw [←hat i hi];exact q⟩
 refine⟨h2,h4,(rvs.set k ur).set r uk,⟨by rw [List.length_set,hl]at h3;exact h3,by rw [hlen,zak],fun i u l q1 q2 => ?_,fun l q=>by rw [zgm q];exact hN,fun i j u u' q1 q2 e => ?_⟩⟩
 ·obtain⟨hi,q1'⟩:=hidx q1;rw [zbD hi]at q2
  cases q2
  have hR:=h.row _ u _ q1' (zbD (hlt i hi));obtain⟨b,cb,e,_,_,cur',hcb⟩:=hR.own (by simpa using hN);refine hR.keep (fun k' hk' hl'=>hb.blk k' hl' (fun e' => ?_)) (hI _ hb);rw [e]at hk'
  cases hk'
  have e':b=g:=e';subst e';rw [hgb]at hcb
  cases hcb
  exact hne rfl
 ·obtain⟨_,q1'⟩:=hidx q1;obtain⟨_,q2'⟩:=hidx q2;exact zkY (h.inj _ _ u u' q1' q2' e)
structure RfS(w0:World)(g4 g8 base g cv m N:Nat)(vp:Value)(P:Option Nat)(t:RS)(cs:List Nat)(w:World):Prop where
 below:Below w0.heap.size w0 w
 ret:∃f,zaf w g4 5 f
 e4:Elem w g4 125
 form:∃s o k c,zaf w g8 5 (fun i => [.slice none 0 0,vp,.bool s,.slice o k c,.int .i64 (t.turns:Int)].getD i (.bool false))∧IZp P t.last [.bool s,.slice o k c] w
 e8:Elem w g8 125
 mat:∃rvs,zan w base 128 32 2 (IZp P) (.slice (some ⟨g,0,none⟩) m cv) rvs (tab m N t.A)
 pv:OwnR w (g8+1) 3 1 II vp cs
 pb:vp.ownBlock=P
section
variable {w0 w w':World} {g4 g8 base g cv m N:Nat} {vp:Value} {P:Option Nat} {t:RS} {cs:List Nat}
theorem RfS.under(h:RfS w0 g4 g8 base g cv m N vp P t cs w)(hb:Below w.heap.size w w'):RfS w0 g4 g8 base g cv m N vp P t cs w':=by
 obtain⟨f,hf⟩:=h.ret;obtain⟨s,o,k,c,h1,h2⟩:=h.form;obtain⟨rvs,hm⟩:=h.mat;exact⟨h.below.trans (hb.mono h.below.size),⟨f,hf.below h.e4.lt hb⟩,h.e4.below hb h.e4.lt,⟨s,o,k,c,h1.below h.e8.lt hb,IZp.below hb _ _ h2⟩,h.e8.below hb h.e8.lt,⟨rvs,hm.below hb (IZp.below hb)⟩,h.pv.below hb (fun _ _ q=>q),h.pb⟩
theorem RfS.row(h:RfS w0 g4 g8 base g cv m N vp P t cs w){i:Nat}(hi:i<m)(hN:0<N):∃b c,w.cell? ((⟨g,0,none⟩:Addr).add (i*1))=some (.slice (some ⟨b,0,none⟩) N c)∧OwnR w base 32 2 (IZp P) (.slice (some ⟨b,0,none⟩) N c) (rowZ (t.A i) N):=by
 obtain⟨rvs,hm⟩:=h.mat;have hl:rvs.length=m:=by rw [←hm.len,zak]
 obtain⟨u,hu⟩:∃u,rvs[i]? = some u:=⟨_,List.getElem?_eq_getElem (by omega)⟩;obtain⟨g',cap,e,_,_,hc⟩:=hm.cell hu;injection e with e;injection e with e;injection e with e;subst e;have hr:=hm.row i u _ hu (zbD hi);obtain⟨b,c,e,_⟩:=hr.own (by simpa using hN);rw [List.length_map,List.length_range]at e;subst e;exact⟨b,c,hc,hr⟩
theorem OwnR.itemZ{b c j:Nat}{a:Nat→Int}(h:OwnR w base 32 2 (IZp P) (.slice (some ⟨b,0,none⟩) N c) (rowZ a N))(hj:j<N):∃s o k cc,w.cell? ⟨b,j*2,none⟩=some (.bool s)∧w.cell? ⟨b,j*2+1,none⟩=some (.slice o k cc)∧IZp P (a j) [.bool s,.slice o k cc] w:=by
 obtain⟨g',cap,row,e,_,_,hrl,hc,hI⟩:=h.item (zsd hj);injection e with e;injection e with e;injection e with e;subst e;obtain⟨s,o,k,cc,rfl,_⟩:=IZ.pair hI.1;have x0:=hc 0 _ rfl;have x1:=hc 1 _ rfl;rw [Addr.add_add,Addr.add_lit,Nat.zero_add]at x0 x1;exact⟨s,o,k,cc,x0,x1,hI⟩
end
theorem zan.matZ{w:World}{base:Nat}{v:Value}{rvs:List Value}{rows:List (List Int)}{P:Option Nat}(h:zan w base 128 32 2 (IZp P) v rvs rows)(h9:rows.length≤1000000000)(h8:∀l∈rows,l.length≤1000000000):MatZ w v rows:=by
 have hl:=h.len;rcases h.top.row (by omega)with⟨e,o,c,e2⟩|⟨a,cap,xs,e,h2,h3,h4,h5,h6,h7,h10⟩
 ·refine .inl ⟨List.eq_nil_of_length_eq_zero (by rw [hl,e];rfl),o,c,e2⟩
 ·refine .inr ⟨a,cap,xs,by rw [e,hl],by omega,by omega,h4,by omega,h6,h7,fun i row b hr hb => ?_⟩;have hi:i<rvs.length:=by rw [←hl];exact(List.getElem?_eq_some_iff.1 hb).1
  have hu:rvs[i]? = some rvs[i]:=List.getElem?_eq_getElem hi;have hrow:row = [rvs[i]]:=h10 i row _ hr hu;exact⟨_,hrow,((h.row i _ b hu hb).row (h8 b (List.mem_of_getElem? hb))).imp (fun _ _ _ q=>q.1)⟩
section
variable {w0 w w':World} {g4 g8 base g cv m N:Nat} {vp:Value} {P:Option Nat} {t:RS} {cs:List Nat}
theorem zan.but{b0:Nat}{rvs:List Value}{v:Value}{rows:List (List Int)}(h:zan w base 128 32 2 (IZp P) v rvs rows)(hb:ButB b0 w w')(hE:Elem w b0 125):zan w' base 128 32 2 (IZp P) v rvs rows:=by
 obtain⟨cs,fz,hE'⟩:=hE;refine h.keep (fun b c e _ he hc=>hb.blk b (Array.getElem?_eq_some_iff.1 hc).1 (fun q => ?_)) (IZp.kept (hb.kept ⟨cs,fz,hE'⟩ rfl));subst q;rw [hE']at hc
 cases hc
 rcases he with he|he <;> cases he
theorem RfS.out(h:RfS w0 g4 g8 base g cv m N vp P t cs w)(h4:w0.heap.size≤g4)(h48:g4<g8)(h9:m≤1000∧N≤1000∧cs.length≤1000)(u x0 x1 x2 x3 x4:Value){s:Bool}{o:Option Addr}{k c:Nat}(hl:IZp P t.last [.bool s,.slice o k c] w) :
  MatZ ((w.setCells g8 0 [u]).setCells g4 0 [x0,x1,x2,x3,x4]) (.slice (some ⟨g,0,none⟩) m cv) (tab m N t.A)∧zag ((w.setCells g8 0 [u]).setCells g4 0 [x0,x1,x2,x3,x4]) 3 1 II vp cs∧ZAt ((w.setCells g8 0 [u]).setCells g4 0 [x0,x1,x2,x3,x4]) (.agg #[.bool s,.slice o k c]) t.last∧Below w0.heap.size w0 ((w.setCells g8 0 [u]).setCells g4 0 [x0,x1,x2,x3,x4]) ∧
  ∀j v,[x0,x1,x2,x3,x4][j]? = some v→((w.setCells g8 0 [u]).setCells g4 0 [x0,x1,x2,x3,x4]).cell? ⟨g4,j,none⟩=some v:=by
 have b1:=zah g8 [u] 0 w;have b2:=zah g4 [x0,x1,x2,x3,x4] 0 (w.setCells g8 0 [u]);have e4:Elem (w.setCells g8 0 [u]) g4 125:=b1.elem h.e4 (by omega);have k1:=b1.kept h.e8 rfl;have k2:=b2.kept e4 rfl;obtain⟨rvs,hm⟩:=h.mat;obtain⟨f,hf⟩:=h.ret;have hf1:zaf (w.setCells g8 0 [u]) g4 5 f:=hf.other (b1.blk g4 h.e4.lt (by omega));have hf2:=((((hf1.set (i:=0) (by omega) x0).set (i:=1) (by omega) x1).set (i:=2) (by omega) x2).set (i:=3) (by omega) x3).set (i:=4) (by omega) x4;obtain⟨W1,hW1⟩:∃W,w.setCells g8 0 [u]=W:=⟨_,rfl⟩;have hbel1:Below w0.heap.size w0 W1:=by rw [←hW1];exact zaF (by omega) _ _ _ h.below
 have hbel2:Below w0.heap.size w0 (W1.setCells g4 0 [x0,x1,x2,x3,x4]):=zaF h4 _ _ _ hbel1;rw [hW1]at b1 b2 e4 k1 k2 hf2 ⊢;obtain⟨W2,hW2⟩:∃W,W1.setCells g4 0 [x0,x1,x2,x3,x4]=W:=⟨_,rfl⟩;have hW2':((((W1.setCell ⟨g4,0,none⟩ x0).setCell ⟨g4,1,none⟩ x1).setCell ⟨g4,2,none⟩ x2).setCell ⟨g4,3,none⟩ x3).setCell ⟨g4,4,none⟩ x4=W2:=hW2;rw [hW2']at hf2;rw [hW2]at b2 k2 hbel2 ⊢;clear hW2 hW2' hW1;have hm2:=(hm.but b1 h.e8).but b2 e4;have hp2:OwnR W2 (g8+1) 3 1 II vp cs:=(h.pv.keep (fun b hb hl=>b1.blk b hl (fun e=>by have:=(h.pv.blk hb).1;omega)) (fun _ _ q=>q)).keep (fun b hb hl=>b2.blk b hl (fun e=>by
  have:=(h.pv.blk hb).1;omega)) (fun _ _ q=>q)
 refine⟨hm2.matZ (by rw [zak];omega) (fun l hl=>by rw [zgm hl];omega),hp2.row (by omega),(IZp.kept k2 _ _ (IZp.kept k1 _ _ hl)).1,hbel2,fun j v hj => ?_⟩;match j,hj with
 | 0,hj=>rw [←hj];exact(hf2 0 (by omega)).1
 | 1,hj=>rw [←hj];exact(hf2 1 (by omega)).1
 | 2,hj=>rw [←hj];exact(hf2 2 (by omega)).1
 | 3,hj=>rw [←hj];exact(hf2 3 (by omega)).1
 | 4,hj=>rw [←hj];exact(hf2 4 (by omega)).1
 | n+5,hj=>simp at hj
end
theorem zon(k r i:Nat):zaM k r i=zaM r k i:=by
 unfold zaM;split
 ·split
  ·omega
  ·rfl
 ·split <;> rfl
theorem RfS.swap{w0 w:World}{g4 g8 base g cv m N:Nat}{vp:Value}{P:Option Nat}{t:RS}{cs:List Nat}(h:RfS w0 g4 g8 base g cv m N vp P t cs w)(hg:w0.heap.size≤g)(hN:0<N){k r:Nat}(hk:k<m)(hr:r<m)(hkr:k≠r){uk ur:Value}
  (hck:w.cell? ((⟨g,0,none⟩:Addr).add (k*1))=some uk) (hcr:w.cell? ((⟨g,0,none⟩:Addr).add (r*1))=some ur) :
  w.there g (k*1) 1∧(w.setCells g (k*1) [ur]).there g (r*1) 1∧RfS w0 g4 g8 base g cv m N vp P {t with A:=fun i=>t.A (zaM r k i)} cs ((w.setCells g (k*1) [ur]).setCells g (r*1) [uk]):=by
 obtain⟨rvs,hm⟩:=h.mat;have hl:rvs.length=m:=by rw [←hm.len,zak]
 have hgE:Elem w g 128:=by
  obtain⟨g',cv',e,_,_,cur,hc⟩:=hm.top.own (by omega);injection e with e;injection e with e;injection e with e;subst e;exact⟨cur,_,hc⟩
 have hb:=(zah g [ur] (k*1) w).trans (zah g [uk] (r*1) (w.setCells g (k*1) [ur]));have hK:=hb.kept hgE rfl;obtain⟨h1,h2,rvs',h3⟩:=hm.swap (by decide) hN rfl hk hr hkr hck hcr (fun w' hb'=>IZp.kept (hb'.kept hgE rfl));refine⟨h1,h2,?_⟩;have e:(fun i=>t.A (zaM k r i))=fun i=>t.A (zaM r k i):=funext fun i=>by rw [zon]
 rw [e]at h3;obtain⟨f,hf⟩:=h.ret;obtain⟨s,o,kk,c,h5,h6⟩:=h.form;exact⟨zaF hg _ _ _ (zaF hg _ _ _ h.below),⟨f,hf.other (hb.blk g4 h.e4.lt (h.e4.ne hgE (by decide)))⟩,hb.elem h.e4 (h.e4.ne hgE (by decide)),⟨s,o,kk,c,h5.other (hb.blk g8 h.e8.lt (h.e8.ne hgE (by decide))),IZp.kept hK _ _ h6⟩,hb.elem h.e8 (h.e8.ne hgE (by decide)),⟨rvs',h3⟩,h.pv.keep (fun b hb' hl'=>hb.blk b hl' (fun e=>by
  obtain⟨_,cur,hcur⟩:=h.pv.blk hb';obtain⟨cs',fz,hE⟩:=hgE;rw [e,hE]at hcur
  cases hcur)) (fun _ _ q=>q),h.pb⟩
theorem OwnR.keep'{β:Type}{w w':World}{base ty sz:Nat}{I J:β→List Value→World→Prop}{v:Value}{bs:List β}(h:OwnR w base ty sz I v bs)(hk:∀b,v.ownBlock=some b→b<w.heap.size→w'.heap[b]? = w.heap[b]?)(hI:∀b r,I b r w→J b r w'):OwnR w' base ty sz J v bs:=by
 have h1:OwnR w base ty sz (fun b r _=>J b r w') v bs:=by
  obtain⟨xs,q1,q2,q3,q4⟩:=h;exact⟨xs,q1,q2,q3,fun i row b hr hb=>hI _ _ (q4 i row b hr hb)⟩
 obtain⟨xs,q1,q2,q3,q4⟩:=h1.keep hk (fun _ _ q=>q);exact⟨xs,q1,q2,q3,q4⟩
theorem RfS.box{w0 w w':World}{g4 g8 base g cv m N:Nat}{vp:Value}{P:Option Nat}{t t':RS}{cs:List Nat}(h:RfS w0 g4 g8 base g cv m N vp P t cs w)(hg:w0.heap.size≤g8)(h48:g4≠g8)(hb:ButB g8 w w')(hbel:Below w0.heap.size w0 w')(hA:t'.A=t.A){s:Bool}{o:Option Addr}{k c:Nat}
  (hf:zaf w' g8 5 (fun i => [.slice none 0 0,vp,.bool s,.slice o k c,.int .i64 (t'.turns:Int)].getD i (.bool false))) (he:Elem w' g8 125) (hl:IZp P t'.last [.bool s,.slice o k c] w'):RfS w0 g4 g8 base g cv m N vp P t' cs w':=by
 obtain⟨f,hf4⟩:=h.ret;obtain⟨rvs,hm⟩:=h.mat;exact⟨hbel,⟨f,hf4.other (hb.blk g4 h.e4.lt h48)⟩,hb.elem h.e4 h48,⟨s,o,k,c,hf,hl⟩,he,⟨rvs,by rw [hA];exact hm.but hb h.e8⟩,h.pv.keep (fun b hb' hl'=>hb.blk b hl' (fun e=>by have:=(h.pv.blk hb').1;omega)) (fun _ _ q=>q),h.pb⟩
theorem RfS.turned{w0 w:World}{g4 g8 base g cv m N:Nat}{vp:Value}{P:Option Nat}{t:RS}{cs:List Nat}(h:RfS w0 g4 g8 base g cv m N vp P t cs w)(hg:w0.heap.size≤g8)(h48:g4≠g8):RfS w0 g4 g8 base g cv m N vp P {t with turns:=t.turns+1} cs (w.setCell ⟨g8,4,none⟩ (.int .i64 ((t.turns+1:Nat):Int))):=by
 obtain⟨s,o,k,c,h1,h2⟩:=h.form;have hb:=zah g8 [.int .i64 ((t.turns+1:Nat):Int)] 4 w;refine h.box (t':={t with turns:=t.turns+1}) hg h48 hb (h.below.setCell (p:=⟨g8,4,none⟩) hg _) rfl (s:=s) (o:=o) (k:=k) (c:=c) ((h1.set (i:=4) (by omega) _).congr (fun i hi => ?_)) (h.e8.setCell _ _) (IZp.kept (hb.kept h.e8 rfl) _ _ h2);have:i=0∨i=1∨i=2∨i=3∨i=4:=by omega
 rcases this with rfl|rfl|rfl|rfl|rfl <;> rfl
theorem RfS.store{w0 w:World}{g4 g8 base g cv m N:Nat}{vp:Value}{P:Option Nat}{t:RS}{cs:List Nat}(h:RfS w0 g4 g8 base g cv m N vp P t cs w)(hg:w0.heap.size≤base){i j b c:Nat}(hi:i<m)(hj:j<N)(hc:w.cell? ((⟨g,0,none⟩:Addr).add (i*1))=some (.slice (some ⟨b,0,none⟩) N c)){row:List Value}{x:Int}(hrow:row.length=2)(hx:IZp P x row w) :
  RfS w0 g4 g8 base g cv m N vp P {t with A:=fun i'=>if i'=i then(fun j'=>if j'=j then x else t.A i j')else t.A i'} cs (w.setCells b (j*2) row)∧w.there b (j*2) 2:=by
 obtain⟨rvs,hm⟩:=h.mat;have hl:rvs.length=m:=by rw [←hm.len,zak]
 obtain⟨u',hu'⟩:∃u',rvs[i]? = some u':=⟨_,List.getElem?_eq_getElem (by omega)⟩;obtain⟨g',cap',e,_,_,hc'⟩:=hm.cell hu';injection e with e;injection e with e;injection e with e;subst e;rw [hc]at hc'
 cases hc'
 have hr:=hm.row i _ _ hu' (zbD hi);obtain⟨b',c',e,hbb,_,cur,hcur⟩:=hr.own (by simp;omega);injection e with e;injection e with e;injection e with e;subst e;have hE:Elem w b 32:=⟨cur,_,hcur⟩;have hbut:=zah b row (j*2) w;have hK:=hbut.kept hE rfl;have hll:((List.range N).map (t.A i)).length=N:=by simp
 obtain⟨h1,h2⟩:=hm.setItem (by decide) (by decide) (l:=(List.range N).map (t.A i)) (by rw [hll];exact hu') (zbD hi) (by rw [hll];exact hj) hrow (IZp.kept hK) (IZp.kept hK _ _ hx);have e1:((List.range N).map (t.A i)).set j x=(List.range N).map fun j'=>if j'=j then x else t.A i j':=by
  refine List.ext_getElem? fun k => ?_
  rw [List.getElem?_set];rcases Nat.lt_or_ge k N with hk|hk
  ·by_cases e:j=k
   ·subst e;simp [hk]
   ·simp [hk,e,Ne.symm e]
  ·simp [Nat.not_lt.2 hk]
   omega
 rw [e1,zhv]at h1;obtain⟨f,hf⟩:=h.ret;obtain⟨s,o,k,c2,h5,h6⟩:=h.form;refine⟨⟨zaF (by omega) _ _ _ h.below,⟨f,hf.other (hbut.blk g4 h.e4.lt (h.e4.ne hE (by decide)))⟩,hbut.elem h.e4 (h.e4.ne hE (by decide)),⟨s,o,k,c2,h5.other (hbut.blk g8 h.e8.lt (h.e8.ne hE (by decide))),IZp.kept hK _ _ h6⟩,hbut.elem h.e8 (h.e8.ne hE (by decide)),⟨rvs,h1⟩,h.pv.keep (fun b hb' hl'=>hbut.blk b hl' (fun e=>by
  obtain⟨_,cur2,hcur2⟩:=h.pv.blk hb';rw [e,hcur]at hcur2
  cases hcur2)) (fun _ _ q=>q),h.pb⟩,h2⟩
theorem RfS.lasts{w0 w:World}{g4 g8 base g cv m N:Nat}{vp:Value}{P:Option Nat}{t:RS}{cs:List Nat}(h:RfS w0 g4 g8 base g cv m N vp P t cs w)(hg:w0.heap.size≤g8)(h48:g4≠g8){z:Int}{s:Bool}{o:Option Addr}{k c:Nat}(hz:IZp P z [.bool s,.slice o k c] w) :
  RfS w0 g4 g8 base g cv m N vp P {t with last:=z} cs ((w.setCell ⟨g8,2,none⟩ (.bool s)).setCell ⟨g8,3,none⟩ (.slice o k c)):=by
 obtain⟨s',o',k',c',h1,h2⟩:=h.form;have hb:=zah g8 [.bool s,.slice o k c] 2 w;refine h.box (t':={t with last:=z}) hg h48 hb ((h.below.setCell (p:=⟨g8,2,none⟩) hg _).setCell (p:=⟨g8,3,none⟩) hg _) rfl (s:=s) (o:=o) (k:=k) (c:=c) (((h1.set (i:=2) (by omega) _).set (i:=3) (by omega) _).congr (fun i hi => ?_)) ((h.e8.setCell _ _).setCell _ _) (IZp.kept (hb.kept h.e8 rfl) _ _ hz);have:i=0∨i=1∨i=2∨i=3∨i=4:=by omega
 rcases this with rfl|rfl|rfl|rfl|rfl <;> rfl
theorem RfS.push{w0 w w':World}{g4 g8 base g cv m N:Nat}{vp v':Value}{P:Option Nat}{t:RS}{cs:List Nat}{x:Nat}(h:RfS w0 g4 g8 base g cv m N vp P t cs w)(hg:w0.heap.size≤g8)(h48:g4≠g8)(ho:OwnR w' (g8+1) 3 1 II v' (cs ++ [x]))(hk:w.heap.size≤w'.heap.size∧∀k,k<w.heap.size→some k≠vp.ownBlock→w'.heap[k]? = w.heap[k]?)(hbel:Below w0.heap.size w0 w')
  (hP:v'.ownBlock=vp.ownBlock∨∃p,v'.ownBlock=some p∧w.heap.size≤p):RfS w0 g4 g8 base g cv m N v' v'.ownBlock t (cs ++ [x]) (w'.setCell ⟨g8,1,none⟩ v'):=by
 have hpb:=h.pb;have hP':v'.ownBlock=P∨∃p,v'.ownBlock=some p∧w.heap.size≤p:=by rw [←hpb];exact hP
 have hne:∀(b:Nat) (cs:Array Value) (e:TypeId) (fz:Nat × Nat),w.heap[b]? = some (.cells cs e fz)→e≠3→w'.heap[b]? = w.heap[b]?:=fun b cs e fz hb he=>hk.2 b (Array.getElem?_eq_some_iff.1 hb).1 (fun q=>by
  obtain⟨_,cur,hcur⟩:=h.pv.blk q.symm;rw [hcur]at hb
  cases hb
  exact he rfl)
 have hE:∀b e,Elem w b e→e≠3→w'.heap[b]? = w.heap[b]?:=fun b e ⟨cs,fz,hc⟩ he=>hne b cs e fz hc he
 have hbp:ButP P w w':=⟨hk.1,fun b cs fz hb hn=>hk.2 b (Array.getElem?_eq_some_iff.1 hb).1 (by rw [hpb];exact hn)⟩;have hmv:∀z r,IZp P z r w→IZp v'.ownBlock z r w':=fun z r q=>by
  have q1:=IZp.move hP' z r q;exact⟨(IZp.keep hbp z r q).1,q1.2⟩
 obtain⟨f,hf⟩:=h.ret;obtain⟨s,o,k,c,h5,h6⟩:=h.form;obtain⟨rvs,hm⟩:=h.mat;have e8':Elem w' g8 125:=h.e8.of_block (hE _ _ h.e8 (by decide));have hb:=zah g8 [v'] 1 w';have hK:=hb.kept e8' rfl;have hm1:zan w' base 128 32 2 (IZp v'.ownBlock) (.slice (some ⟨g,0,none⟩) m cv) rvs (tab m N t.A):=by
  refine⟨h.mat.elim fun _ _ => ?_,hm.len,fun i u l q1 q2 => ?_,hm.ne,hm.inj⟩
  ·exact hm.top.keep (fun b hb _=>by
    obtain⟨_,cur,hcur⟩:=hm.top.blk hb;exact hne _ _ _ _ hcur (by decide)) (fun _ _ q=>q)
  ·exact(hm.row i u l q1 q2).keep' (fun b hb _=>by
    obtain⟨_,cur,hcur⟩:=(hm.row i u l q1 q2).blk hb;exact hne _ _ _ _ hcur (by decide)) hmv
 refine⟨hbel.setCell (p:=⟨g8,1,none⟩) hg _,⟨f,(hf.other (hE _ _ h.e4 (by decide))).other (hb.blk g4 (Nat.lt_of_lt_of_le h.e4.lt hk.1) h48)⟩,hb.elem (h.e4.of_block (hE _ _ h.e4 (by decide))) h48,⟨s,o,k,c,(((h5.other (hE _ _ h.e8 (by decide))).set (i:=1) (by omega) _).congr (fun i hi => ?_)),IZp.kept hK _ _ (hmv _ _ h6)⟩,e8'.setCell _ _,⟨rvs,hm1.but hb e8'⟩,ho.keep (fun b hb' hl'=>hb.blk b hl' (fun e=>by have:=(ho.blk hb').1;omega)) (fun _ _ q=>q),rfl⟩;have:i=0∨i=1∨i=2∨i=3∨i=4:=by omega
 rcases this with rfl|rfl|rfl|rfl|rfl <;> rfl
end Go.Num
namespace Go.Num
open Go.Eng Go.Shelf Go.RowKit Go.Sort Go.Proofs Go.Proofs.YtoamcgjbelhnkaaGreatDoor
def zdo(A:Nat→Nat→Int)(k cc:Nat)(last:Int)(i j:Nat):Nat→Nat→Int:=fun i'=>if i'=k then A k else fun j'=>if i'<i∨(i'=i∧j'<j)then(A k cc*A i' j'-A i' cc*A k j').tdiv last else A i' j'
theorem zoT(A:Nat→Nat→Int)(k cc:Nat)(last:Int):zdo A k cc last 0 0=A:=by
 funext i'
 unfold zdo;split
 ·rename_i h;rw [h]
 ·funext j'
  rw [if_neg (by omega)]
theorem zn1{A:Nat→Nat→Int}{k cc:Nat}{last:Int}{i j j':Nat}(hi:i≠k)(hj:j≤j'):zdo A k cc last i j i j'=A i j':=by
 unfold zdo;rw [if_neg hi];exact if_neg (by omega)
theorem zqq{A:Nat→Nat→Int}{k cc:Nat}{last:Int}{i j:Nat}:zdo A k cc last i j k=A k:=by
 unfold zdo;rw [if_pos rfl]
theorem zoV{A:Nat→Nat→Int}{k cc:Nat}{last:Int}{i j:Nat}{x:Int}(hi:i≠k)(hx:x=(A k cc*A i j-A i cc*A k j).tdiv last):(fun i'=>if i'=i then(fun j'=>if j'=j then x else zdo A k cc last i j i j')else zdo A k cc last i j i')=zdo A k cc last i (j+1):=by
 funext i' j'
 by_cases h1:i'=i
 ·subst h1;rw [if_pos rfl];unfold zdo;rw [if_neg hi,if_neg hi];by_cases h2:j'=j
  ·subst h2;rw [if_pos rfl,if_pos (.inr ⟨rfl,by omega⟩),hx]
  ·rw [if_neg h2];by_cases h3:j'<j
   ·rw [if_pos (.inr ⟨rfl,h3⟩),if_pos (.inr ⟨rfl,by omega⟩)]
   ·rw [if_neg (by omega),if_neg (by omega)]
 ·rw [if_neg h1];unfold zdo;by_cases h2:i'=k
  ·rw [if_pos h2,if_pos h2]
  ·rw [if_neg h2,if_neg h2];by_cases h3:i'<i
   ·rw [if_pos (.inl h3),if_pos (.inl h3)]
   ·rw [if_neg (by omega),if_neg (by omega)]
theorem zqp{A:Nat→Nat→Int}{k cc:Nat}{last:Int}{i N i' j':Nat}(hj:j'<N):zdo A k cc last i N i' j'=zdo A k cc last (i+1) 0 i' j':=by
 unfold zdo;by_cases h2:i'=k
 ·rw [if_pos h2,if_pos h2]
 ·rw [if_neg h2,if_neg h2];by_cases h3:i'≤i
  ·rw [if_pos (by omega),if_pos (by omega)]
  ·rw [if_neg (by omega),if_neg (by omega)]
theorem zoU{A:Nat→Nat→Int}{k cc:Nat}{last:Int}{i' j':Nat}:zdo A k cc last k 0 i' j'=zdo A k cc last (k+1) 0 i' j':=by
 unfold zdo;by_cases h2:i'=k
 ·rw [if_pos h2,if_pos h2]
 ·rw [if_neg h2,if_neg h2];by_cases h3:i'<k
  ·rw [if_pos (by omega),if_pos (by omega)]
  ·rw [if_neg (by omega),if_neg (by omega)]
theorem zqr{A:Nat→Nat→Int}{k cc:Nat}{last:Int}{m i' j':Nat}(hi:i'<m):zdo A k cc last m 0 i' j'=zcT A k cc last i' j':=by
 unfold zdo zcT;by_cases h2:i'=k
 ·rw [if_pos h2,if_pos h2]
 ·rw [if_neg h2,if_neg h2,if_pos (.inl hi)]
theorem zi3{β:Type}{m N:Nat}{A A':Nat→Nat→β}(h:∀i j,i<m→j<N→A i j=A' i j):tab m N A=tab m N A':=by
 unfold tab;refine List.map_congr_left fun i hi => ?_
 refine List.map_congr_left fun j hj => ?_
 exact h i j (List.mem_range.1 hi) (List.mem_range.1 hj)
theorem RfS.zAs{w0 w:World}{g4 g8 base g cv m N:Nat}{vp:Value}{P:Option Nat}{t t':RS}{cs:List Nat}(h:RfS w0 g4 g8 base g cv m N vp P t cs w)(hA:∀i j,i<m→j<N→t.A i j=t'.A i j)(hl:t.last=t'.last)(ht:t.turns=t'.turns):RfS w0 g4 g8 base g cv m N vp P t' cs w:=by
 obtain⟨s,o,k,c,h1,h2⟩:=h.form;obtain⟨rvs,hm⟩:=h.mat;exact⟨h.below,h.ret,h.e4,⟨s,o,k,c,by rw [←ht];exact h1,by rw [←hl];exact h2⟩,h.e8,⟨rvs,by rw [←zi3 hA];exact hm⟩,h.pv,h.pb⟩
theorem zno{F:Fence}{n:Nat}{P:Program}{ops:Array Oper}{rest:List Oper}{x y:Operand}{ty:TypeId}{ps:String}{af:Array Edge}{a:CAct}{Q:Exit→CAct→World→Prop}{w:World}
  (h:Stop (wpListIn F n P ops Q ({op:=.store 128 x y,dst:=none,type:=ty,pos:=ps,after:=af,guard:=none} :: rest) a w)):wpListIn F n P ops Q ({op:=.store 128 x y,dst:=none,type:=ty,pos:=ps,after:=af,guard:=none} :: rest) a w:=h
theorem zsQ{F:Fence}{n:Nat}{P:Program}{ops:Array Oper}{rest:List Oper}{x y:Operand}{ty:TypeId}{ps:String}{af:Array Edge}{a:CAct}{Q:Exit→CAct→World→Prop}{w:World}
  (h:Stop (wpListIn F n P ops Q ({op:=.store 3 x y,dst:=none,type:=ty,pos:=ps,after:=af,guard:=none} :: rest) a w)):wpListIn F n P ops Q ({op:=.store 3 x y,dst:=none,type:=ty,pos:=ps,after:=af,guard:=none} :: rest) a w:=h
theorem znn{w:World}{g o:Nat}{v:Value}(hv:v.cells=#[v])(h1:v.oneCell'=true)(ht:w.there g o 1):(Instr.storeAt 128 (.pointer (some ⟨g,o,none⟩)) v).run Tryz.prog w = .ok () (w.setCells g o [v]):=by
 have:=zcf (t:=128) (g:=g) (o:=o) (by kernel_rfl) hv h1 ht;rwa [Addr.add_lit,Nat.zero_add]at this
theorem zsP{w:World}{g o:Nat}{v:Value}(hv:v.cells=#[v])(h1:v.oneCell'=true)(ht:w.there g o 1):(Instr.storeAt 3 (.pointer (some ⟨g,o,none⟩)) v).run Tryz.prog w = .ok () (w.setCell ⟨g,o,none⟩ v):=by
 have:=zcf (t:=3) (g:=g) (o:=o) (by kernel_rfl) hv h1 ht;rwa [Addr.add_lit,Nat.zero_add]at this
theorem zqd:zgi Tryz.prog 128 2:=zdg u128 i32' i32s
theorem zsp:zgi Tryz.prog 121 1:=zdg u121 i128 zrq
theorem zsk:zbW Tryz.prog 128:=za9 (by kernel_rfl)
theorem zs2:zgN Tryz.prog 125 2 2:=ze9 (by kernel_rfl)
theorem ze1{w:World}{b o:Nat}{x y:Value}(h0:w.cell? ⟨b,o,none⟩=some x)(h1:w.cell? ⟨b,o+1,none⟩=some y):∀j v,[x,y][j]? = some v→w.cell? (((⟨b,0,none⟩:Addr).add o).add j)=some v:=fun j v hj=>by
 rw [Addr.add_lit,Addr.add_lit,Nat.zero_add];match j,hj with
 | 0,hj=>rw [←hj];exact h0
 | 1,hj=>rw [←hj];exact h1
 | n+2,hj=>simp at hj
theorem zkT{x L:Nat}(h:x<B^L)(hL:L≤20000):x<B^100000:=Nat.lt_of_lt_of_le h (zaj (i:=L) (j:=100000) (by omega))
theorem zsI{x L:Nat}(h:x<B^(2*L))(hL:L≤20000):x<B^50000:=Nat.lt_of_lt_of_le h (zaj (i:=2*L) (j:=50000) (by omega))
theorem zpx{L:Nat}{p x f y:Int}(hp:p.natAbs<B^L)(hx:x.natAbs<B^L)(hf:f.natAbs<B^L)(hy:y.natAbs<B^L):(p*x).natAbs<B^(2*L)∧(f*y).natAbs<B^(2*L)∧(p*x-f*y).natAbs<B^(2*L+1):=by
 have h1:(p*x).natAbs<B^(2*L):=by
  rw [Int.natAbs_mul,Nat.two_mul,Nat.pow_add];exact Nat.mul_lt_mul'' hp hx
 have h2:(f*y).natAbs<B^(2*L):=by
  rw [Int.natAbs_mul,Nat.two_mul,Nat.pow_add];exact Nat.mul_lt_mul'' hf hy
 refine⟨h1,h2,?_⟩;have h3:(p*x-f*y).natAbs≤(p*x).natAbs+(f*y).natAbs:=Int.natAbs_sub_le _ _;have h4:B^(2*L+1)=B^(2*L)*B:=by rw [Nat.pow_succ]
 have h5:B^(2*L)*2≤B^(2*L)*B:=Nat.mul_le_mul_left _ (by decide);omega
theorem zq2{w:World}{b o:Nat}{x y:Value}(ht:w.there b o 2)(h1:#[x,y].all (·.oneCell')=true):(Instr.storeAt 32 (.pointer (some ((⟨b,0,none⟩:Addr).add o))) (.agg #[x,y])).run Tryz.prog w = .ok () (w.setCells b o [x,y]):=by
 rw [Addr.add_lit,Nat.zero_add];exact zgo ht h1
theorem zom(k i:Nat):zaM k k i=i:=by
 unfold zaM;split
 ·omega
 ·rfl
theorem zl2{w w':World}{base t ty e size n m c bytes:Nat}{i:TypeInfo}{z v v':Value}{xs news:List Value}{a:Addr}(ht:Tryz.prog.underlying t=some (.slice e))(hi:Tryz.prog.info? e=some i)(hz:i.zero=some z)(hsize:i.size=size)(hby:i.bytes=bytes)
  (hown:w.ownsRow base e size v n xs) (hl:news.length=m*size) (hnews:∀j u,news[j]? = some u→w.cell? (a.add j)=some u) (h1:∀u∈news,u.oneCell'=true) (h63:n+m≤maxLen) (hbytes:(n+m)*bytes≤140737488355328) (hm:0<m)
  (hrun:(Builtin.append_ #[t,t] ty #[v,.slice (some a) m c]).run Tryz.prog w = .ok v' w'):v'.ownBlock=v.ownBlock∨∃p,v'.ownBlock=some p∧w.heap.size≤p:=by
 subst hsize;subst hby;have hsmall:n+m≤9223372036854775807:=by simp only [maxLen]at h63;omega
 rcases hown.2 with⟨rfl,rfl⟩|⟨g,cap,cur,rfl,hbg,hg,hnc,hcm,hcs,htake⟩
 ·have hr:=run_append_nil (P:=Tryz.prog) w t ty e i z ht hi hz a m c news hl hnews (by omega) (by omega) (by have hb:=hbytes;simp only [Nat.zero_add]at hb;omega);rw [hrun]at hr;injection hr with hr _;exact .inr ⟨w.heap.size,by rw [hr];rfl,Nat.le_refl _⟩
 ·by_cases hroom:n+m≤cap
  ·have hfit:n*i.size+news.length≤cur.size:=by rw [hl,hcs,←Nat.add_mul];exact Nat.mul_le_mul_right _ hroom
   have hr:=run_append_room (P:=Tryz.prog) w t ty e i ht hi g n cap cur hg a m c news hl hnews h1 hroom hfit;rw [hrun]at hr;injection hr with hr _;exact .inl (by rw [hr];rfl)
  ·have holds:∀j u,xs[j]? = some u→w.cell? ((⟨g,0,none⟩:Addr).add j)=some u:=hown.cells (g:=g) rfl;have hr:=run_append_grow (P:=Tryz.prog) w t ty e i z ht hi hz ⟨g,0,none⟩ n cap xs hown.1 holds a m c news hl hnews (by omega) (by omega) (growslice_fits (by omega) hbytes);rw [hrun]at hr;injection hr with hr _;exact .inr ⟨w.heap.size,by rw [hr];rfl,Nat.le_refl _⟩
theorem zl4{β:Type}{F:Fence}{n:Nat}(wr:World){ops:Array Oper}{rest:List Oper}{o:Oper}{a:CAct}{Q:Exit→CAct→World→Prop}{ty sz t bytes:Nat}{inf:TypeInfo}{z:Value}{I:β→List Value→World→Prop}
  (hg:o.guard=none) (s x:Operand) (hop:o.op=Op.call {callee:=Callee.builtin Builtin.append,args:=#[s,x],argTypes:=#[t,t]})
  (e1:Tryz.prog.underlying t=some (.slice ty)) (e2:Tryz.prog.info? ty=some inf) (e3:inf.zero=some z) (e4:inf.size=sz) (e5:inf.bytes=bytes) (e6:z.cells.size=sz) (e7:0<sz) (e8:bytes≤100)
  (base:Nat) (hbase:base≤wr.heap.size) (v:Value) (bs:List β) (hs:a.eval s=v) (HO:OwnR wr base ty sz I v bs) (b:β) (row:List Value) (tt:TypeId) (hx:a.eval x = .slice (some ⟨wr.heap.size,0,none⟩) 1 1) (hrow:row.length=sz) (h1c:∀u∈row,u.oneCell'=true) (hIb:I b row wr) (hI:∀b r w1 w2,Touch ty w1 w2→I b r w1→I b r w2) (hn:bs.length<500000000)
  (hK:∀v' w',Hid (OwnR w' base ty sz I v' (bs ++ [b]))→Hid (wr.heap.size≤w'.heap.size∧∀k,k<wr.heap.size→some k≠v.ownBlock→w'.heap[k]? = wr.heap[k]?)→Hid (∀B0 w0,Below B0 w0 wr→B0≤base→Below B0 w0 w')→Hid (v'.ownBlock=v.ownBlock∨∃p,v'.ownBlock=some p∧wr.heap.size≤p)→wpListIn F n Tryz.prog ops Q rest (a.put o.dst v') w') :
  wpListIn F n Tryz.prog ops Q (o :: rest) a (wr.alloc (.cells row.toArray tt)):=by
 obtain⟨xs,h1,h2,h3,h4⟩:=HO;have hcells:∀j u,row[j]? = some u→(wr.alloc (.cells row.toArray tt)).cell? ((⟨wr.heap.size,0,none⟩:Addr).add j)=some u:=fun j u hu=>by rw [Addr.add_lit,Nat.zero_add,World.cell?_alloc_new];simpa using hu
 have hby:(bs.length+1)*bytes≤140737488355328:=by
  have:(bs.length+1)*bytes≤500000000*100:=Nat.mul_le_mul (by omega) e8;omega
 have hml:bs.length+1≤maxLen:=by unfold maxLen;omega
 have hown:=World.ownsRow.alloc h1 (.cells row.toArray tt);obtain⟨v',w',hrun,g1,g2,g3⟩:=run_append_own (P:=Tryz.prog) (wr.alloc (.cells row.toArray tt)) base t o.type ty inf z sz bytes e1 e2 e3 e4 e5 e6 e7 v bs.length xs.flatten hown ⟨wr.heap.size,0,none⟩ 1 1 row (by rw [hrow];omega) hcells h1c hml hby (by simp;omega);have hw:=zl2 e1 e2 e3 e4 e5 hown (by rw [hrow];omega) hcells h1c hml hby (by decide) hrun;refine wpListIn_plain hg fun K hK' => ?_
 unfold Oper.wpIn;refine⟨by simp [Oper.about,hop,resolve,Target.leads,Sem.run_pure],?_⟩;rw [Oper.semAt_plain F _ _ (by rw [hop];intro c hc';cases hc')];simp [execOp,hop,resolve,invoke,builtin,hs,hx,hrun,Result.andThen]
 refine hK' _ _ ?_;have hT:Touch ty wr w':=by
  refine⟨Nat.le_trans (by simp) g2.size,fun k cs e fz hk hne => ?_⟩;have hlt:k<wr.heap.size:=(Array.getElem?_eq_some_iff.1 hk).1;have hal:(wr.alloc (.cells row.toArray tt)).heap[k]? = wr.heap[k]?:=(zaa wr _).block k hlt;rw [g2.block k (by simp;omega) (fun hk' => ?_),hal]
  ·exact hk
  ·rcases h1.2 with⟨rfl,_⟩|⟨g,cap,cur,rfl,q1,q2,_⟩
   ·cases hk'
   ·have:k=g:=by simpa [Value.ownBlock]using hk'
    subst this;rw [q2]at hk;injection hk with hk;injection hk with _ hk _;exact hne hk.symm
 refine hK v' w' ⟨xs ++ [row],?_,by simp [h2],fun r hr => ?_,fun i r b' hr hb' => ?_⟩ ⟨hT.1,?_⟩ ?_ ?_
 ·rw [List.flatten_append,List.length_append];simpa using g1
 ·rcases List.mem_append.1 hr with h|h
  ·exact h3 r h
  ·rw [List.mem_singleton.1 h,hrow]
 ·rcases Nat.lt_or_ge i bs.length with hi|hi
  ·rw [List.getElem?_append_left (by omega)]at hr hb';exact hI _ _ _ _ hT (h4 i r b' hr hb')
  ·rw [List.getElem?_append_right (by omega)]at hr hb';rw [h2]at hr;rcases Nat.eq_zero_or_pos (i-bs.length)with h0|h0
   ·rw [h0]at hr hb';have hr:row=r:=by simpa using hr
    have hb':b=b':=by simpa using hb'
    rw [←hr,←hb'];exact hI _ _ _ _ hT hIb
   ·rw [List.getElem?_eq_none (by simp;omega)]at hr
    cases hr
 ·intro k hk hne;rw [g2.block k (by simp;omega) hne,(zaa wr _).block k hk]
 ·exact zHi fun B0 w0 hB hB0=>(hB.alloc (Nat.le_trans hB0 hbase) _).grown g2 (by simp;omega) fun k hk=>Nat.le_trans hB0 (zbQ h1 hk)
 ·refine zHi (hw.imp id ?_);rintro⟨p,q1,q2⟩;refine⟨p,q1,?_⟩;rw [World.size_alloc]at q2;omega
structure ElS(w0:World)(g4 g8 base g cv m N:Nat)(vp:Value)(P:Option Nat)(t:RS)(cs:List Nat)(W:World)(g13:Nat)(sp:Bool)(op:Option Addr)(kp cp kk cc i j:Nat)(w:World):Prop where
 st:RfS w0 g4 g8 base g cv m N vp P ⟨zdo t.A kk cc t.last i j,t.last,t.turns,t.k⟩ cs w
 box:BoxL w g13 [.bool sp,.slice op kp cp]
 el:Elem w g13 32
 piv:IZp P (t.A kk cc) [.bool sp,.slice op kp cp] w
 top:w.heap[g]? = W.heap[g]?
section
variable {w0 W w w':World} {g4 g8 base g cv m N g13 kp cp kk cc i j:Nat} {vp:Value} {P:Option Nat} {t:RS} {cs:List Nat} {sp:Bool} {op:Option Addr}
theorem RfS.topB(h:RfS w0 g4 g8 base g cv m N vp P t cs w)(h0:0<m):base≤g∧g<w.heap.size∧Elem w g 128:=by
 obtain⟨rvs,hm⟩:=h.mat;have hl:rvs.length=m:=by rw [←hm.len,zak]
 obtain⟨g',c',e,h1,h2,cur,hc⟩:=hm.top.own (by omega);injection e with e;injection e with e;injection e with e;subst e;exact⟨h1,h2,cur,_,hc⟩
theorem ElS.under(h:ElS w0 g4 g8 base g cv m N vp P t cs W g13 sp op kp cp kk cc i j w)(h0:0<m)(hb:Below w.heap.size w w'):ElS w0 g4 g8 base g cv m N vp P t cs W g13 sp op kp cp kk cc i j w':=
 ⟨h.st.under hb,h.box.below hb,h.el.below hb h.el.lt,IZp.below hb _ _ h.piv,(hb.block g (h.st.topB h0).2.1).trans h.top⟩
theorem ElS.row(h:ElS w0 g4 g8 base g cv m N vp P t cs W g13 sp op kp cp kk cc i j w)(hW:RfS w0 g4 g8 base g cv m N vp P t cs W)(hg:W.heap.size=g13){i':Nat}(hi:i'<m)(hN:0<N) :
  ∃b c,w.cell? ((⟨g,0,none⟩:Addr).add (i'*1))=some (.slice (some ⟨b,0,none⟩) N c)∧OwnR w base 32 2 (IZp P) (.slice (some ⟨b,0,none⟩) N c) (rowZ (zdo t.A kk cc t.last i j i') N)∧b<g13∧Elem w b 32:=by
 obtain⟨b,c,h1,h2⟩:=h.st.row hi hN;obtain⟨b',c',h3,h4⟩:=hW.row hi hN;have e:w.cell? ((⟨g,0,none⟩:Addr).add (i'*1))=W.cell? ((⟨g,0,none⟩:Addr).add (i'*1)):=World.cell?_of_block (by rw [zac];exact h.top);rw [h1,h3]at e
 cases e
 obtain⟨_,_,e,_,h5,_⟩:=h4.own (by rw [zcg];exact hN);rw [zcg]at e
 cases e
 obtain⟨_,_,e,_,_,cur,h6⟩:=h2.own (by rw [zcg];exact hN);rw [zcg]at e
 cases e
 exact⟨b,c,h1,h2,by omega,cur,_,h6⟩
theorem ElS.store(h:ElS w0 g4 g8 base g cv m N vp P t cs W g13 sp op kp cp kk cc i j w)(hg:w0.heap.size≤base)(h0:0<m)(hi:i<m)(hj:j<N)(hik:i≠kk){b c:Nat}(hc:w.cell? ((⟨g,0,none⟩:Addr).add (i*1))=some (.slice (some ⟨b,0,none⟩) N c))(hb:b≠g13)(hE:Elem w b 32){row:List Value}{x:Int}(hrow:row.length=2)(hx:IZp P x row w)(hxe:x=(t.A kk cc*t.A i j-t.A i cc*t.A kk j).tdiv t.last) :
  ElS w0 g4 g8 base g cv m N vp P t cs W g13 sp op kp cp kk cc i (j+1) (w.setCells b (j*2) row)∧w.there b (j*2) 2∧ButB b w (w.setCells b (j*2) row)∧Go.Eng.Kept rs3 w (w.setCells b (j*2) row):=by
 obtain⟨h1,h2⟩:=h.st.store hg hi hj hc hrow hx;have hbut:=zah b row (j*2) w;have hK:=hbut.kept hE rfl;have e:=zoV (A:=t.A) (k:=kk) (cc:=cc) (last:=t.last) (i:=i) (j:=j) hik hxe;refine⟨⟨h1.zAs (fun i' j' _ _=>congrFun (congrFun e i') j') rfl rfl,h.box.but hbut (Ne.symm hb),hbut.elem h.el (Ne.symm hb),IZp.kept hK _ _ h.piv,?_⟩,h2,hbut,hK⟩;have hgE:=(h.st.topB h0).2.2;rw [hbut.blk g hgE.lt (hgE.ne hE (by decide))];exact h.top
end
end Go.Num
