/-
  'read' of a list of strings.
  Conditions: the tables lie in memory.
-/
import Derived.Test.YtepakfjilnpodaaGreatDoorRCAW
import Derived.Stop.RegionWithIn
namespace Go.Num
open Go.Eng Go.Shelf Go.RowKit Go.Sort Go.Proofs Go.Proofs.YtepakfjilnpodaaGreatDoor
set_option maxRecDepth 100000 in
set_option maxHeartbeats 8000000 in
theorem readL_calls(w:World)(v:Value)(n:Nat)(s:Nat→ByteArray)(most:Nat)(h:ReadAt w v n fun i => .string (s i))(hlen:∀i,i<n→(s i).size≤9223372036854775807)(hm:most≤100)(hL:Laid w) :
  CallsIn Fence.wide 0 Tryz.prog 34 #[v,.int .i64 (most:Int)] w fun e w'=>∃v1 v2,e = .returned (.tuple #[v1,v2])∧RowQ w' v1 (rowOf s (min n most))∧RowR w' v2 (rowOf s (min n most))∧Below w.heap.size w w':=by
 have HT:=Hid.intro h
 have HLen:=Hid.intro hlen
 have HL:=Hid.intro hL
 obtain⟨o,c,rfl,hn9,_⟩:=h
 clear hlen hL
 refine callsIn_of_wp Tryz.func34 rfl trivial ?_ rfl
 simp only [Tryz.ntmps34,List.size_toArray,List.length_cons,List.length_nil,Nat.reduceAdd,Nat.reduceSub,Array.replicate_succ,Array.replicate_zero,List.push_toArray,List.append_toArray,List.nil_append,List.cons_append]
 gi_wp2
 gi_loopw [6,7,8] (fun x6 x7 x8 wr=>∃i:Nat,x8 = .int .i64 (i:Int)∧i≤n∧i≤most∧Hid (OwnR wr w.heap.size 62 4 IQ x6 (rowOf s i))∧Hid (OwnR wr w.heap.size 27 3 IR x7 (rowOf s i))∧Hid (Below w.heap.size w wr)) (fun _ _ x _=>most-(intOf x).toNat)
 case atStart=>exact⟨0,rfl,by omega,by omega,OwnR.nil _ _ _ _ _,OwnR.nil _ _ _ _ _,Below.refl _ w⟩
 case round=>
  obtain⟨i,rfl,hin,him,HO6,HO7,HB⟩:=hrel
  obtain⟨o6,c6,h6f⟩:=HO6.out.form
  obtain⟨o7,c7,h7f⟩:=HO7.out.form
  rw [rowOf_len]at h6f h7f
  subst h6f
  subst h7f
  have HLt6:Hid (∀k,(Value.slice o6 i c6).ownBlock=some k→k<wr.heap.size):=Hid.intro (fun k hk=>HO6.out.lt hk)
  by_cases hi1:i<n
  ·by_cases hi2:i<most
   ·obtain⟨o',c',e',_,htop⟩:=HT.out
    injection e' with e1 e2 e3
    subst e1
    obtain⟨a,rfl,ha,hca⟩:=htop (by omega)
    have hal:a.block<wr.heap.size:=Nat.lt_of_lt_of_le ha HB.out.size
    have p0:wr.cell? (a.add i)=some (.string (s i)):=(HB.out.cell (p:=a.add i) (by rw [add_block];exact ha)).trans (hca i hi1)
    have hsl:=HLen.out i hi1
    obtain⟨si,hsi⟩:∃si,s i=si:=⟨_,rfl⟩
    have HSI:=Hid.intro hsi
    rw [hsi]at p0 hsl
    clear e2 e3 htop hca hsi
    have hsz:si.size=si.data.toList.length:=Lib.size_eq si
    obtain⟨N,hN⟩:∃N,si.data.toList.length=N:=⟨_,rfl⟩
    rw [hN]at hsz
    rw [hsz]at hsl
    have HN:=Hid.intro hN
    obtain⟨k,hk⟩:∃k,min N 30=k:=⟨_,rfl⟩
    have hkm:min (N:Int) 30=(k:Int):=by omega
    have hkn:k≤N:=by omega
    have HTk:Hid (si.data.toList.take k=si.data.toList.take 30):=Hid.intro (by
     rcases Nat.le_total N 30 with h|h
     ·rw [List.take_of_length_le (by omega),List.take_of_length_le (by omega)]
     ·rw [show k=30 by omega])
    clear hN hk
    gi_wp2
    have hx:(si.extract 0 k).data.toList=si.data.toList.take 30:=by
     rw [ext_take (l:=si.data.toList) (m:=N) (by rw [←HN.out,List.take_length]) hkn,HTk.out]
    have HX:=Hid.intro hx
    clear hx
    obtain⟨W0,hW0⟩:∃W,W=wr.alloc (.cells #[.bool false,.slice none 0 0,.bool false,.slice none 0 0] 62):=⟨_,rfl⟩
    have hA0:ArrAt W0.drew wr.heap.size 4 fun i => [.bool false,.slice none 0 0,.bool false,.slice none 0 0].getD i (.bool false):=by
     rw [hW0]
     refine ArrAt.below ?_ (by simp) (drew_below _)
     refine ArrAt.new _ _ _ fun i hi => ?_
     match i,hi with
     | 0,_=>rfl
     | 1,_=>rfl
     | 2,_=>rfl
     | 3,_=>rfl
    have HA0:=Hid.intro hA0
    have HE0:Hid (Elem W0.drew wr.heap.size 62):=Hid.intro (by rw [hW0];exact(elem_new _ _ _).below (drew_below _) (by simp))
    have HBA:Hid (Below wr.heap.size wr W0.drew):=Hid.intro (by rw [hW0];exact(alloc_below wr _).trans ((drew_below _).mono (alloc_below wr _).size))
    have HBB:Hid (Below wr.heap.size wr wr.drew):=Hid.intro (drew_below wr)
    have HW0:=Hid.intro hW0
    have p1:(wr.alloc (.cells #[.bool false,.slice none 0 0,.bool false,.slice none 0 0] 62)).cell? (a.add i)=some (.string si):=by rw [←hW0];exact((show Below wr.heap.size wr W0 by rw [hW0];exact alloc_below _ _).cell (by rw [add_block];exact hal)).trans p0
    have p2:(wr.drew.alloc (.cells #[.bool false,.slice none 0 0,.bool false,.slice none 0 0] 62)).cell? (a.add i)=some (.string si):=p1
    clear hW0 hA0
    gi_region_with (first
     | (gi_at_call 97;refine(parseQ_calls wr.drew (si.extract 0 k) (si.data.toList.take 30) HX.out).mono ?_;rintro e w2 ⟨v2,rfl,⟨s1,o1,k1,c1,s2,o2,k2,c2,rfl⟩,hq,hB⟩;have HPQ:=Hid.intro hq;have HB2:=Hid.intro (HBB.out.trans (hB.mono HBB.out.size));clear hq hB)
     | (gi_at_call 97;rw [←HW0.out];refine(parseQ_calls W0.drew (si.extract 0 k) (si.data.toList.take 30) HX.out).mono ?_;rintro e w2 ⟨v2,rfl,⟨s1,o1,k1,c1,s2,o2,k2,c2,rfl⟩,hq,hB⟩;have HPQ:=Hid.intro hq;have HA2:=Hid.intro (HA0.out.below (HA0.out.lt (by omega)) hB);have HE2:=Hid.intro (HE0.out.below hB HE0.out.lt);have HB2:=Hid.intro (HBA.out.trans (hB.mono HBA.out.size));have y0:w2.cell? ⟨wr.heap.size,0,none⟩=some (.bool false):=(HA2.out 0 (by omega)).1;have y1:w2.cell? ⟨wr.heap.size,1,none⟩=some (.slice none 0 0):=(HA2.out 1 (by omega)).1;have y2:w2.cell? ⟨wr.heap.size,2,none⟩=some (.bool false):=(HA2.out 2 (by omega)).1;have y3:w2.cell? ⟨wr.heap.size,3,none⟩=some (.slice none 0 0):=(HA2.out 3 (by omega)).1;have z0:=(HA2.out 0 (by omega)).2;have z1:=(HA2.out 1 (by omega)).2;have z2:=(HA2.out 2 (by omega)).2;have z3:=(HA2.out 3 (by omega)).2;clear hq hB))
    all_goals (first
     | (obtain⟨W3,hW3⟩:∃W,w2.alloc (.cells #[.bool s1,.slice o1 k1 c1,.bool s2,.slice o2 k2 c2] 62)=W:=⟨_,rfl⟩
        rw [hW3]
        have hb3:Below w2.heap.size w2 W3:=by rw [←hW3];exact alloc_below _ _
        have HAr:Hid (ArrAt W3 w2.heap.size 4 fun i => [.bool s1,.slice o1 k1 c1,.bool s2,.slice o2 k2 c2].getD i (.bool false)):=Hid.intro (by
         rw [←hW3]
         refine ArrAt.new _ _ _ fun i hi => ?_
         match i,hi with
         | 0,_=>rfl
         | 1,_=>rfl
         | 2,_=>rfl
         | 3,_=>rfl)
        have HEl:Hid (Elem W3 w2.heap.size 62):=Hid.intro (by rw [←hW3];exact elem_new _ _ _)
        have hle9:wr.heap.size≤w2.heap.size:=HB2.out.size
        replace HB2:=Hid.intro (HB2.out.trans (hb3.mono HB2.out.size))
        replace HPQ:Hid (refE (si.data.toList.take 30)=0→∃q,formQ (si.data.toList.take 30)=some q∧QAt W3 (.agg #[.bool s1,.slice o1 k1 c1,.bool s2,.slice o2 k2 c2]) q):=Hid.intro (fun h=>let ⟨q,h1,h2⟩:=HPQ.out h;⟨q,h1,h2.below hb3⟩)
        obtain⟨g9,hg9⟩:∃g,w2.heap.size=g:=⟨_,rfl⟩
        rw [hg9]at HAr HEl hle9
        rw [hg9]
        clear hb3 hW3 hg9)
     | (obtain⟨W3,hW3⟩:∃W,(((w2.setCell ⟨wr.heap.size,0,none⟩ (.bool s1)).setCell ⟨wr.heap.size,1,none⟩ (.slice o1 k1 c1)).setCell ⟨wr.heap.size,2,none⟩ (.bool s2)).setCell ⟨wr.heap.size,3,none⟩ (.slice o2 k2 c2)=W:=⟨_,rfl⟩
        rw [hW3]
        have HAr:Hid (ArrAt W3 wr.heap.size 4 fun i => [.bool s1,.slice o1 k1 c1,.bool s2,.slice o2 k2 c2].getD i (.bool false)):=Hid.intro (by
         rw [←hW3]
         refine((((HA2.out.set (i:=0) (by omega) (.bool s1)).set (i:=1) (by omega) (.slice o1 k1 c1)).set (i:=2) (by omega) (.bool s2)).set (i:=3) (by omega) (.slice o2 k2 c2)).congr fun i hi => ?_
         match i,hi with
         | 0,_=>rfl
         | 1,_=>rfl
         | 2,_=>rfl
         | 3,_=>rfl)
        have HEl:Hid (Elem W3 wr.heap.size 62):=Hid.intro (by rw [←hW3];exact(((HE2.out.setCell _ _).setCell _ _).setCell _ _).setCell _ _)
        have hle9:wr.heap.size≤wr.heap.size:=Nat.le_refl _
        replace HPQ:Hid (refE (si.data.toList.take 30)=0→∃q,formQ (si.data.toList.take 30)=some q∧QAt W3 (.agg #[.bool s1,.slice o1 k1 c1,.bool s2,.slice o2 k2 c2]) q):=Hid.intro (fun h=>let ⟨q,h1,m1,m2,e,h3,h4⟩:=HPQ.out h;⟨q,h1,m1,m2,e,by rw [←hW3];exact h3.set4 HE2.out,by rw [←hW3];exact h4.set4 HE2.out⟩)
        replace HB2:Hid (Below wr.heap.size wr W3):=Hid.intro (by rw [←hW3];exact(((HB2.out.setCell (Nat.le_refl _) _).setCell (Nat.le_refl _) _).setCell (Nat.le_refl _) _).setCell (Nat.le_refl _) _)
        obtain⟨g9,hg9⟩:∃g,wr.heap.size=g:=⟨_,rfl⟩
        have hle10:wr.heap.size≤g9:=by omega
        rw [hg9]at HAr HEl
        rw [hg9]
        clear hle9
        have hle9:=hle10
        clear hle10 hW3 hg9 HA2 HE2 y0 y1 y2 y3 z0 z1 z2 z3))
    all_goals (clear p0 p1 p2 HA0 HE0 HBA HBB HW0)
    all_goals (
     have hex:∃q,rq si.data.toList=q:=⟨_,rfl⟩
     obtain⟨q,hqq⟩:=hex
     have HQQ:Hid (rq (s i).data.toList=q):=Hid.intro (by rw [HSI.out];exact hqq)
     have HKq:Hid (Kept1 q=true):=Hid.intro (by rw [←hqq];exact rq_kept _)
     have hgl:g9<W3.heap.size:=HAr.out.lt (by omega)
     by_cases h0:refE (si.data.toList.take 30)=0
     ·obtain⟨q',hfq,hqa⟩:=HPQ.out h0
      have hq2:q=q':=by rw [←hqq];unfold rq;rw [if_pos h0,hfq];rfl
      subst hq2
      have HQ5:=Hid.intro hqa
      have d0:W3.cell? ⟨g9,0,none⟩=some (.bool s1):=(HAr.out 0 (by omega)).1
      have d1:W3.cell? ⟨g9,1,none⟩=some (.slice o1 k1 c1):=(HAr.out 1 (by omega)).1
      have d2:W3.cell? ⟨g9,2,none⟩=some (.bool s2):=(HAr.out 2 (by omega)).1
      have d3:W3.cell? ⟨g9,3,none⟩=some (.slice o2 k2 c2):=(HAr.out 3 (by omega)).1
      rw [h0]
      clear h0 hfq hqa hqq HPQ
      gi_wp2_with (gi_at_builtin;refine stop ?_)
      unfold Stop
      clear d0 d1 d2 d3
      obtain⟨W5,hW5⟩:∃W,W=W3:=⟨_,rfl⟩
      subst hW5
      have HA5:=HAr
      have HB5:=HB2
      obtain⟨sa,hsa⟩:∃x,x=s1:=⟨_,rfl⟩
      obtain⟨oa,hoa⟩:∃x,x=o1:=⟨_,rfl⟩
      obtain⟨ka,hka⟩:∃x,x=k1:=⟨_,rfl⟩
      obtain⟨ca,hca⟩:∃x,x=c1:=⟨_,rfl⟩
      obtain⟨sb,hsb⟩:∃x,x=s2:=⟨_,rfl⟩
      obtain⟨ob,hob⟩:∃x,x=o2:=⟨_,rfl⟩
      obtain⟨kb,hkb⟩:∃x,x=k2:=⟨_,rfl⟩
      obtain⟨cb,hcb⟩:∃x,x=c2:=⟨_,rfl⟩
      subst hsa;subst hoa;subst hka;subst hca;subst hsb;subst hob;subst hkb;subst hcb
      have HS5:Hid (W5.heap.size=W5.heap.size):=Hid.intro rfl
      clear HAr HB2 HEl
      have HC:Hid (ArrAt W5 g9 4 fun i => [.bool sa,.slice oa ka ca,.bool sb,.slice ob kb cb].getD i (.bool false)):=HA5
      have H6:=Hid.intro (HO6.out.below HB5.out (IQ.below HB5.out))
      have H7:=Hid.intro (HO7.out.below HB5.out (IR.below HB5.out))
      have HBw:=Hid.intro (HB.out.trans (HB5.out.mono HB.out.size))
      have hgl:g9<W5.heap.size:=HC.out.lt (by omega)
      clear HA5
      refine append_item (ty:=62) (sz:=4) (bytes:=64) w W5 rfl _ _ rfl Go.Num.u63 i34 i34z i34s i34b rfl (by decide) (by decide) (.slice o6 i c6) (rowOf s i) rfl H6.out q [.bool sa,.slice oa ka ca,.bool sb,.slice ob kb cb] _ (by rw [HS5.out];rfl) rfl (by simp [Value.oneCell']) HQ5.out (fun b r w1 w2 ht=>IQ.touch ht rfl b r) (by rw [rowOf_len];omega) HBw.out ?_
      intro v6 w6 HO6n HB6 HT6 HBlk
      have hrs:rowOf s i ++ [q]=rowOf s (i+1):=by rw [rowOf_succ,HQQ.out]
      rw [hrs]at HO6n
      have hboxb:w6.heap[g9]? = W5.heap[g9]?:=HBlk.out g9 hgl (fun e=>by have:=HLt6.out g9 e.symm;omega)
      have d0:w6.cell? ⟨g9,0,none⟩=some (.bool sa):=(World.cell?_of_block hboxb).trans (HC.out 0 (by omega)).1
      have d1:w6.cell? ⟨g9,1,none⟩=some (.slice oa ka ca):=(World.cell?_of_block hboxb).trans (HC.out 1 (by omega)).1
      have d2:w6.cell? ⟨g9,2,none⟩=some (.bool sb):=(World.cell?_of_block hboxb).trans (HC.out 2 (by omega)).1
      have d3:w6.cell? ⟨g9,3,none⟩=some (.slice ob kb cb):=(World.cell?_of_block hboxb).trans (HC.out 3 (by omega)).1
      have H7b:=Hid.intro (H7.out.touch HT6.out (by decide) (IR.touch HT6.out rfl))
      have HQ6:=Hid.intro (IQ.touch HT6.out rfl _ _ HQ5.out)
      obtain⟨on,cn,h6n⟩:=HO6n.out.form
      rw [rowOf_len]at h6n
      clear hboxb hrs
      gi_wp2_with (gi_at_call 40;refine stop ?_)
      unfold Stop
      refine(rat_calls w6 _ q HQ6.out HKq.out (HL.out.below HB6.out)).mono ?_
      rintro e w7 ⟨vr,rfl,hr,hB⟩
      have HR:=Hid.intro hr
      obtain⟨o5,k5,c5,o8,k8,c8,rfl⟩:=hr.form
      obtain⟨sr,hsr⟩:∃sr,decide (q.num<0)=sr:=⟨_,rfl⟩
      rw [hsr]at HR
      rw [hsr]
      have HB7:=Hid.intro (HB6.out.trans (hB.mono HB6.out.size))
      have H7c:=Hid.intro (H7b.out.below hB (IR.below hB))
      have H6c:=Hid.intro (HO6n.out.below hB (IQ.below hB))
      clear hr hB d0 d1 d2 d3 hsr
      gi_wp2_with (gi_at_builtin;refine stop ?_)
      unfold Stop
      refine append_item (ty:=27) (sz:=3) (bytes:=56) w w7 rfl _ _ rfl Go.Num.u64 i25' i25z i25s i25b rfl (by decide) (by decide) (.slice o7 i c7) (rowOf s i) rfl H7c.out q [.bool sr,.slice o5 k5 c5,.slice o8 k8 c8] _ rfl rfl (by simp [Value.oneCell']) HR.out (fun b r w1 w2 ht=>IR.touch ht rfl b r) (by rw [rowOf_len];omega) HB7.out ?_
      intro v7 w8 HO7n HB8 HT8 _
      have hrs:rowOf s i ++ [q]=rowOf s (i+1):=by rw [rowOf_succ,HQQ.out]
      rw [hrs]at HO7n
      have H6d:=Hid.intro (H6c.out.touch HT8.out (by decide) (IQ.touch HT8.out rfl))
      clear hrs
      gi_wp2
      exact⟨⟨i+1,by go_num,by omega,by omega,by rw [h6n]at H6d;exact H6d,HO7n,HB8⟩,by simp only [intOf];omega⟩
     ·have hz:q=0:=by rw [←hqq];unfold rq;rw [if_neg h0]
      have hne:(refE (si.data.toList.take 30) != 0)=true:=by rw [bne_iff_ne];exact h0
      clear hqq HPQ h0
      gi_wp2_with (gi_at_call 89;refine stop ?_)
      unfold Stop
      refine(zeroQ_calls W3).mono ?_
      rintro e w4 ⟨v4,rfl,hq4,hB4⟩
      rw [←hz]at hq4
      have HQ4:=Hid.intro hq4
      obtain⟨m1,m2,rfl,hm1,hm2⟩:=hq4
      obtain⟨oa,ka,ca,rfl,_,_⟩:=natI_len hm1
      obtain⟨ob,kb,cb,rfl,_,_⟩:=natI_len hm2
      obtain⟨sa,hsa⟩:∃x,decide (q.num<0)=x:=⟨_,rfl⟩
      rw [hsa]at HQ4
      rw [hsa]
      have HA4:=Hid.intro (HAr.out.below hgl hB4)
      have HE4:=Hid.intro (HEl.out.below hB4 hgl)
      have HB4:=Hid.intro (HB2.out.trans (hB4.mono HB2.out.size))
      have d0:w4.cell? ⟨g9,0,none⟩=some (.bool s1):=(HA4.out 0 (by omega)).1
      have d1:w4.cell? ⟨g9,1,none⟩=some (.slice o1 k1 c1):=(HA4.out 1 (by omega)).1
      have d2:w4.cell? ⟨g9,2,none⟩=some (.bool s2):=(HA4.out 2 (by omega)).1
      have d3:w4.cell? ⟨g9,3,none⟩=some (.slice o2 k2 c2):=(HA4.out 3 (by omega)).1
      have z0:=(HA4.out 0 (by omega)).2
      have z1:=(HA4.out 1 (by omega)).2
      have z2:=(HA4.out 2 (by omega)).2
      have z3:=(HA4.out 3 (by omega)).2
      clear hm1 hm2 hsa hz hB4 HAr HEl HB2
      gi_wp2_with (gi_at_builtin;refine stop ?_)
      unfold Stop
      clear d0 d1 d2 d3 z0 z1 z2 z3
      obtain⟨sb,hsb⟩:∃x,false=x:=⟨_,rfl⟩
      have HSB:=Hid.intro hsb
      obtain⟨W5,hW5⟩:∃W,(((w4.setCell ⟨g9,0,none⟩ (.bool sa)).setCell ⟨g9,1,none⟩ (.slice oa ka ca)).setCell ⟨g9,2,none⟩ (.bool false)).setCell ⟨g9,3,none⟩ (.slice ob kb cb)=W:=⟨_,rfl⟩
      rw [hW5]
      have HA5:Hid (ArrAt W5 g9 4 fun i => [.bool sa,.slice oa ka ca,.bool sb,.slice ob kb cb].getD i (.bool false)):=Hid.intro (by
       rw [←hW5,←hsb]
       refine((((HA4.out.set (i:=0) (by omega) (.bool sa)).set (i:=1) (by omega) (.slice oa ka ca)).set (i:=2) (by omega) (.bool false)).set (i:=3) (by omega) (.slice ob kb cb)).congr fun i hi => ?_
       match i,hi with
       | 0,_=>rfl
       | 1,_=>rfl
       | 2,_=>rfl
       | 3,_=>rfl)
      have HQ5:Hid (QAt W5 (.agg #[.bool sa,.slice oa ka ca,.bool sb,.slice ob kb cb]) q):=Hid.intro (by
       obtain⟨m1,m2,e,h3,h4⟩:=HQ4.out
       exact⟨m1,m2,by rw [←hsb];exact e,by rw [←hW5];exact h3.set4 HE4.out,by rw [←hW5];exact h4.set4 HE4.out⟩)
      have HB5:Hid (Below wr.heap.size wr W5):=Hid.intro (by rw [←hW5];exact(((HB4.out.setCell hle9 _).setCell hle9 _).setCell hle9 _).setCell hle9 _)
      rw [hsb]
      have HS5:Hid (W5.heap.size=w4.heap.size):=Hid.intro (by rw [←hW5];simp)
      clear hW5 hsb HSB HA4 HE4 HB4 HQ4 hne
      have HC:Hid (ArrAt W5 g9 4 fun i => [.bool sa,.slice oa ka ca,.bool sb,.slice ob kb cb].getD i (.bool false)):=HA5
      have H6:=Hid.intro (HO6.out.below HB5.out (IQ.below HB5.out))
      have H7:=Hid.intro (HO7.out.below HB5.out (IR.below HB5.out))
      have HBw:=Hid.intro (HB.out.trans (HB5.out.mono HB.out.size))
      have hgl:g9<W5.heap.size:=HC.out.lt (by omega)
      clear HA5
      refine append_item (ty:=62) (sz:=4) (bytes:=64) w W5 rfl _ _ rfl Go.Num.u63 i34 i34z i34s i34b rfl (by decide) (by decide) (.slice o6 i c6) (rowOf s i) rfl H6.out q [.bool sa,.slice oa ka ca,.bool sb,.slice ob kb cb] _ (by rw [HS5.out];rfl) rfl (by simp [Value.oneCell']) HQ5.out (fun b r w1 w2 ht=>IQ.touch ht rfl b r) (by rw [rowOf_len];omega) HBw.out ?_
      intro v6 w6 HO6n HB6 HT6 HBlk
      have hrs:rowOf s i ++ [q]=rowOf s (i+1):=by rw [rowOf_succ,HQQ.out]
      rw [hrs]at HO6n
      have hboxb:w6.heap[g9]? = W5.heap[g9]?:=HBlk.out g9 hgl (fun e=>by have:=HLt6.out g9 e.symm;omega)
      have d0:w6.cell? ⟨g9,0,none⟩=some (.bool sa):=(World.cell?_of_block hboxb).trans (HC.out 0 (by omega)).1
      have d1:w6.cell? ⟨g9,1,none⟩=some (.slice oa ka ca):=(World.cell?_of_block hboxb).trans (HC.out 1 (by omega)).1
      have d2:w6.cell? ⟨g9,2,none⟩=some (.bool sb):=(World.cell?_of_block hboxb).trans (HC.out 2 (by omega)).1
      have d3:w6.cell? ⟨g9,3,none⟩=some (.slice ob kb cb):=(World.cell?_of_block hboxb).trans (HC.out 3 (by omega)).1
      have H7b:=Hid.intro (H7.out.touch HT6.out (by decide) (IR.touch HT6.out rfl))
      have HQ6:=Hid.intro (IQ.touch HT6.out rfl _ _ HQ5.out)
      obtain⟨on,cn,h6n⟩:=HO6n.out.form
      rw [rowOf_len]at h6n
      clear hboxb hrs
      gi_wp2_with (gi_at_call 40;refine stop ?_)
      unfold Stop
      refine(rat_calls w6 _ q HQ6.out HKq.out (HL.out.below HB6.out)).mono ?_
      rintro e w7 ⟨vr,rfl,hr,hB⟩
      have HR:=Hid.intro hr
      obtain⟨o5,k5,c5,o8,k8,c8,rfl⟩:=hr.form
      obtain⟨sr,hsr⟩:∃sr,decide (q.num<0)=sr:=⟨_,rfl⟩
      rw [hsr]at HR
      rw [hsr]
      have HB7:=Hid.intro (HB6.out.trans (hB.mono HB6.out.size))
      have H7c:=Hid.intro (H7b.out.below hB (IR.below hB))
      have H6c:=Hid.intro (HO6n.out.below hB (IQ.below hB))
      clear hr hB d0 d1 d2 d3 hsr
      gi_wp2_with (gi_at_builtin;refine stop ?_)
      unfold Stop
      refine append_item (ty:=27) (sz:=3) (bytes:=56) w w7 rfl _ _ rfl Go.Num.u64 i25' i25z i25s i25b rfl (by decide) (by decide) (.slice o7 i c7) (rowOf s i) rfl H7c.out q [.bool sr,.slice o5 k5 c5,.slice o8 k8 c8] _ rfl rfl (by simp [Value.oneCell']) HR.out (fun b r w1 w2 ht=>IR.touch ht rfl b r) (by rw [rowOf_len];omega) HB7.out ?_
      intro v7 w8 HO7n HB8 HT8 _
      have hrs:rowOf s i ++ [q]=rowOf s (i+1):=by rw [rowOf_succ,HQQ.out]
      rw [hrs]at HO7n
      have H6d:=Hid.intro (H6c.out.touch HT8.out (by decide) (IQ.touch HT8.out rfl))
      clear hrs
      gi_wp2
      exact⟨⟨i+1,by go_num,by omega,by omega,by rw [h6n]at H6d;exact H6d,HO7n,HB8⟩,by simp only [intOf];omega⟩)
   ·have him2:min n most=i:=by omega
    have HMM:Hid (rowOf s (min n most)=rowOf s i):=Hid.intro (by rw [him2])
    gi_wp2_with (exfalso;exact undef_nb (by assumption))
    all_goals (first|go_returns|go_ret|go_end0)
    exact⟨_,_,rfl,by rw [HMM.out];exact HO6.out.row (by rw [rowOf_len];omega),by rw [HMM.out];exact HO7.out.row (by rw [rowOf_len];omega),HB.out⟩
  ·have him2:min n most=i:=by omega
   have HMM:Hid (rowOf s (min n most)=rowOf s i):=Hid.intro (by rw [him2])
   gi_wp2_with (exfalso;exact undef_nb (by assumption))
   all_goals (first|go_returns|go_ret|go_end0)
   exact⟨_,_,rfl,by rw [HMM.out];exact HO6.out.row (by rw [rowOf_len];omega),by rw [HMM.out];exact HO7.out.row (by rw [rowOf_len];omega),HB.out⟩
end Go.Num
