/-
  The law WalkClasses.
  Conditions: the library's variables lie in memory.
-/
import Derived.Test.YtepakfjilnpodaaGreatDoorRDBE
import Derived.Test.YtepakfjilnpodaaGreatDoorRDAQ
namespace Go.Eng
open Go.RowKit Go.Num Go.Proofs Go.Proofs.YtepakfjilnpodaaGreatDoor
theorem GS.neqB{K:World→Prop}{ks:List Nat}{nt:Nat}{ops:Array Oper}{bs bars r:List Nat}{i:Nat}{a:CAct}{ov:List (Tmp × Value)}{w:World}{Q:CAct→World→Prop}{gd:Option (Nat × Bool)}{x y:Operand}{p:Bool}{t2:TypeId}{d:Tmp}{ty:TypeId}{ps:String}{af:Array Edge}
  (ho:ops[i]? = some {op:=.binOp .neq 4 x y t2,dst:=some d,type:=ty,pos:=ps,after:=af,guard:=gd}) (hg:GSt ops a ov true gd) (hb:bars.contains i=false) (hd:Nat.blt d nt=true)
  (hx:look a ov x = .bool p) (hy:look a ov y = .bool p) (h:GS K ks Tryz.prog nt ops bs bars Q r a ((d,.bool false) :: ov) w):GS K ks Tryz.prog nt ops bs bars Q (i :: r) a ov w:=
 GS.read _ ho hg rfl hb hd (fun w' _=>by
  have h4:Tryz.prog.underlying 4=some .bool:=by kernel_rfl
  have h5:(Op.equal 4 (.bool p) (.bool p)).run Tryz.prog w' = .ok true w':=by
   unfold Op.equal Op.maxDepth
   rw [Op.equalIn,Sem.run_bind,run_underlying h4]
   cases p <;> rfl
  have h6:(binOp .neq 4 (.bool p) (.bool p)).run Tryz.prog w' = .ok (.bool false) w':=by
   simp [binOp,h5]
  simp [execOp,hx,hy,h6,eqGuard]) h
end Go.Eng
namespace Go.Num
open Go.Eng Go.Shelf Go.RowKit Go.Sort Go.Proofs Go.Proofs.YtepakfjilnpodaaGreatDoor
theorem l3:LoadOne Tryz.prog 3:=loadOne_of (by kernel_rfl)
theorem it45:ItemAt Tryz.prog 45 1:=itemAt_of ul45 i3i i3s
theorem it46:ItemAt Tryz.prog 46 1:=itemAt_of ul46 i4i i4s
theorem rowIN_at{w:World}{a:Addr}{n c:Nat}{f:Nat→Nat}(h:RowIs w 3 1 IN (.slice (some a) n c) ((List.range n).map f)){k:Nat}(hk:k<n):w.cell? (a.add (k*1))=some (.int .i64 (f k:Int)):=by
 obtain⟨_,row,_,hcell,hrow⟩:=RowIs.at9 h (show((List.range n).map f)[k]? = some (f k)by simp [hk])
 have hrow:row=_:=hrow
 subst hrow
 have:=hcell 0 _ rfl
 rwa [Addr.add_zero']at this
theorem rowIB_at{w:World}{a:Addr}{n c:Nat}{f:Nat→Bool}(h:RowIs w 4 1 IB (.slice (some a) n c) ((List.range n).map f)){k:Nat}(hk:k<n):w.cell? (a.add (k*1))=some (.bool (f k)):=by
 obtain⟨_,row,_,hcell,hrow⟩:=RowIs.at9 h (show((List.range n).map f)[k]? = some (f k)by simp [hk])
 have hrow:row=_:=hrow
 subst hrow
 have:=hcell 0 _ rfl
 rwa [Addr.add_zero']at this
theorem fine_sgn{q:Rat}(h:fineB q=true):0≤sgnR q:=by
 unfold fineB at h
 rw [Bool.and_eq_true]at h
 exact of_decide_eq_true h.2
set_option maxRecDepth 100000 in
set_option maxHeartbeats 8000000 in
theorem walkClasses_walk(w:World)(v0:Value)(len:Nat)(rv:Nat→Value)(m:Nat→Nat)(z:Nat→Nat→Int)(i0:Int)(h:ITabAt w v0 len rv m z)(hi : -9223372036854775808≤i0∧i0≤9223372036854775807)(hL:Laid w) :
  CallsIn Fence.wide 0 Tryz.prog 8 #[v0,.int .i64 i0] w fun e w'=>e = .returned (.bool true)∧Below w.heap.size w w':=by
 have HA:=Hid.intro h
 have HL:=Hid.intro hL
 obtain⟨n,hn⟩:∃n,tmN len=n:=⟨_,rfl⟩
 have hn1:1≤n:=by unfold tmN at hn;omega
 have hn5:n≤5:=by unfold tmN at hn;omega
 obtain⟨T,hT⟩:∃T,tmQ len m z n=T:=⟨_,rfl⟩
 have HN:=Hid.intro hn
 have HT:=Hid.intro hT
 have HG:Hid (firstBad (tabW n n T) n n=false):=Hid.intro (by rw [←hT];exact tmQ_good (by omega) hn5)
 have HQl:Hid (∀i j,i<n→j<n→RatLe (T i j) 1):=Hid.intro (fun i j hi hj=>by rw [←hT];exact tmQ_le (by omega) hn5 hj)
 have HQp:Hid (∀i j,i<n→j<n→0≤sgnR (T i j)):=Hid.intro (fun i j hi hj=>by rw [←hT];exact fine_sgn (tmQ_fine (by omega) hn5 hj))
 clear h hL hn hT
 refine callsIn_of_wp Tryz.func8 rfl trivial ?_ rfl
 simp only [Tryz.ntmps8,List.size_toArray,List.length_cons,List.length_nil,Nat.reduceAdd,Nat.reduceSub,Array.replicate_succ,Array.replicate_zero,List.push_toArray,List.append_toArray,List.nil_append,List.cons_append]
 gi_wp2_with (gi_at_call 20;refine stop ?_)
 unfold Stop
 refine(tame_calls w v0 len rv m z HA.out HL.out).mono ?_
 rintro e w1 ⟨va,vb,rfl,hq,hr,hB1⟩
 rw [HN.out,HT.out]at hq hr
 obtain⟨a1,c1,rfl⟩:=RowIs.some9 hq (by rw [tabW_len];omega)
 obtain⟨a2,c2,rfl⟩:=RowIs.some9 hr (by rw [tabW_len];omega)
 rw [tabW_len]at hq hr ⊢
 have HQ1:=Hid.intro hq
 have HR1:=Hid.intro hr
 have HB1:=Hid.intro hB1
 clear hq hr hB1
 gi_wp2_with (gi_at_call 46;refine stop ?_)
 unfold Stop
 refine(classes_calls w1 _ n T (mtC_of HR1.out) hn1 (by omega) HG.out (fun i j hi hj=>(HQl.out i j hi hj).mono (by omega)) (HL.out.below HB1.out).pow).mono ?_
 obtain⟨L,hLd⟩:∃L,ldW (edQ T) n=L:=⟨_,rfl⟩
 have HLd:=Hid.intro hLd
 rw [hLd]
 clear hLd
 rintro e w2 ⟨u1,u2,rfl,hu1,hu2,hB2⟩
 obtain⟨b1,d1,rfl⟩:=RowIs.some9 hu1 (by rw [List.length_map,List.length_range];omega)
 obtain⟨b2,d2,rfl⟩:=RowIs.some9 hu2 (by rw [List.length_map,List.length_range];omega)
 rw [List.length_map,List.length_range]at hu1 hu2 ⊢
 have HU1:=Hid.intro hu1
 have HU2:=Hid.intro hu2
 have HB2:=Hid.intro (HB1.out.trans (hB2.mono HB1.out.size))
 have HQ2:=Hid.intro (HQ1.out.below hB2 (IRowQ.below hB2))
 have HR2:=Hid.intro (HR1.out.below hB2 (IRowR.below hB2))
 clear hu1 hu2 hB2 HB1 HQ1 HR1
 gi_wp2_with (gi_at_call 21;refine stop ?_)
 unfold Stop
 refine(rclasses_calls w2 _ n T HQ2.out (by omega) (by omega) (fun i j hi hj=>(HQl.out i j hi hj).mono (by omega))).mono ?_
 rw [HLd.out]
 rintro e w3 ⟨u3,u4,rfl,hu3,hu4,hB3⟩
 obtain⟨b3,d3,rfl⟩:=RowIs.some9 hu3 (by rw [List.length_map,List.length_range];omega)
 obtain⟨b4,d4,rfl⟩:=RowIs.some9 hu4 (by rw [List.length_map,List.length_range];omega)
 rw [List.length_map,List.length_range]at hu3 hu4 ⊢
 have HU3:=Hid.intro hu3
 have HU4:=Hid.intro hu4
 have HV1:=Hid.intro (HU1.out.below hB3 (fun _ _ h=>h))
 have HV2:=Hid.intro (HU2.out.below hB3 (fun _ _ h=>h))
 have HB3:=Hid.intro (HB2.out.trans (hB3.mono HB2.out.size))
 have HQ3:=Hid.intro (HQ2.out.below hB3 (IRowQ.below hB3))
 have HR3:=Hid.intro (HR2.out.below hB3 (IRowR.below hB3))
 clear hu3 hu4 hB3 HB2 HQ2 HR2 HU1 HU2
 gi_wp2
 gi_loopw [12] (fun x12 wr=>∃k:Nat,x12 = .int .i64 (k:Int)∧k≤n∧Hid (Below w3.heap.size w3 wr)) (fun x _=>n-(intOf x).toNat)
 case atStart=>exact⟨0,rfl,by omega,Hid.intro (Below.refl _ _)⟩
 case round=>
  obtain⟨k,rfl,hk,HB⟩:=hrel
  by_cases hkn:k<n
  ·gi_wp2
   have HBd:=Hid.intro (HB.out.trans ((drew_below wr).mono HB.out.size))
   have y1:=rowIN_at (HV1.out.below HBd.out (fun _ _ h=>h)) hkn
   have y2:=rowIN_at (HU3.out.below HBd.out (fun _ _ h=>h)) hkn
   have y3:=rowIB_at (HV2.out.below HBd.out (fun _ _ h=>h)) hkn
   have y4:=rowIB_at (HU4.out.below HBd.out (fun _ _ h=>h)) hkn
   obtain⟨ls,hls⟩:∃ls,lstN L n k=ls:=⟨_,rfl⟩
   obtain⟨cs,hcs⟩:∃cs,cloB L k n=cs:=⟨_,rfl⟩
   rw [hls]at y1 y2
   rw [hcs]at y3 y4
   have HY1:=Hid.intro y1
   have HY2:=Hid.intro y2
   have HY3:=Hid.intro y3
   have HY4:=Hid.intro y4
   clear y1 y2 y3 y4 hls hcs HB
   refine wpIn_region_gs (ro:=none) [] [0,1,2,3,4,5,6,7,8,9,10,11,12,13,14,15,16,17,18,19] [0,0,3,7,0,0,48,112,255,511,1023,1023,4095,8191,1023,1023,50175,115711,262143,524287] follows rfl 129 rfl (by kernel_rfl) (by kernel_rfl) ?_
   refine GS.mv (v:=.slice (some b1) n d1) rfl rfl rfl rfl rfl ?_
   refine GS.mv (v:=.int .i64 (k:Int)) rfl rfl rfl rfl rfl ?_
   refine GS.ixS it45 (k:=k) (by omega) rfl rfl rfl rfl rfl rfl ?_
   refine GS.ld1 (p:=b1.add (k*1)) (v:=.int .i64 (ls:Int)) l3 HY1.out rfl rfl rfl rfl rfl rfl ?_
   refine GS.mv (v:=.slice (some b3) n d3) rfl rfl rfl rfl rfl ?_
   refine GS.mv (v:=.int .i64 (k:Int)) rfl rfl rfl rfl rfl ?_
   refine GS.ixS it45 (k:=k) (by omega) rfl rfl rfl rfl rfl rfl ?_
   refine GS.ld1 (p:=b3.add (k*1)) (v:=.int .i64 (ls:Int)) l3 HY2.out rfl rfl rfl rfl rfl rfl ?_
   refine GS.neq (p:=(ls:Int)) (q:=(ls:Int)) (b:=false) (by simp) rfl rfl rfl rfl rfl rfl ?_
   refine GS.mv (v:=.bool false) rfl rfl rfl rfl rfl ?_
   refine GS.mv (v:=.slice (some b2) n d2) rfl ⟨_,_,_,rfl,rfl,rfl,rfl⟩ rfl rfl rfl ?_
   refine GS.mv (v:=.int .i64 (k:Int)) rfl ⟨_,_,_,rfl,rfl,rfl,rfl⟩ rfl rfl rfl ?_
   refine GS.ixS it46 (k:=k) (by omega) rfl ⟨_,_,_,rfl,rfl,rfl,rfl⟩ rfl rfl rfl rfl ?_
   refine GS.ld1 (p:=b2.add (k*1)) (v:=.bool cs) l4 HY3.out rfl rfl ⟨_,_,_,rfl,rfl,rfl,rfl⟩ rfl rfl rfl ?_
   refine GS.mv (v:=.slice (some b4) n d4) rfl ⟨_,_,_,rfl,rfl,rfl,rfl⟩ rfl rfl rfl ?_
   refine GS.mv (v:=.int .i64 (k:Int)) rfl ⟨_,_,_,rfl,rfl,rfl,rfl⟩ rfl rfl rfl ?_
   refine GS.ixS it46 (k:=k) (by omega) rfl ⟨_,_,_,rfl,rfl,rfl,rfl⟩ rfl rfl rfl rfl ?_
   refine GS.ld1 (p:=b4.add (k*1)) (v:=.bool cs) l4 HY4.out rfl rfl ⟨_,_,_,rfl,rfl,rfl,rfl⟩ rfl rfl rfl ?_
   refine GS.neqB (p:=cs) rfl ⟨_,_,_,rfl,rfl,rfl,rfl⟩ rfl rfl rfl rfl ?_
   refine GS.pick (b:=false) (v:=.bool false) rfl rfl rfl rfl rfl rfl ?_
   refine GS.done ?_
   simp only [putAll,Go.Act.put,List.setIfInBounds_toArray,List.set_cons_succ,List.set_cons_zero]
   clear HY1 HY2 HY3 HY4
   gi_wp2
   exact⟨⟨k+1,by go_num,by omega,HBd⟩,by simp only [intOf];omega⟩
  ·have HBn:=HB
   gi_wp2
   clear HB
   gi_loopw [1,13] (fun x1 x13 wr=>∃(r:Nat) (i:Int),x13 = .int .i64 (r:Int)∧r≤2∧x1 = .int .i64 i∧(-9223372036854775808≤i∧i≤9223372036854775807)∧Hid (Below w3.heap.size w3 wr)) (fun _ x _=>2-(intOf x).toNat)
   case atStart=>exact⟨0,i0,rfl,by omega,rfl,hi,HBn⟩
   case round=>
    obtain⟨r,i,rfl,hr,rfl,hir,HB⟩:=hrel
    clear HBn hi
    have HBw:=Hid.intro (HB3.out.trans (HB.out.mono HB3.out.size))
    by_cases hr2:r<2
    ·gi_wp2_with (gi_at_call 47;refine stop ?_)
     unfold Stop
     refine(period_calls wr _ n T i (mtC_of (HR3.out.below HB.out (IRowR.below HB.out))) hn1 (by omega) HG.out (fun i j hi hj=>(HQl.out i j hi hj).mono (by omega)) HQp.out (HL.out.below HBw.out).pow).mono ?_
     rw [HLd.out]
     rintro e w4 ⟨p,rfl,hok,hno,hB4⟩
     have HB4:=Hid.intro (HB.out.trans (hB4.mono HB.out.size))
     clear hB4 HB
     unfold oaE at hok hno ⊢
     by_cases hin:0≤i∧i<(n:Int)
     ·obtain⟨k,rfl⟩:∃k:Nat,i=(k:Int):=⟨i.toNat,by omega⟩
      have hkn:k<n:=by omega
      rw [if_pos hin,Int.toNat_natCast]at hok hno ⊢
      have y4:w4.cell? (b4.add k)=some (.bool (cloB L k n)):=by
       have:=rowIB_at (HU4.out.below HB4.out (fun _ _ h=>h)) hkn
       rwa [Nat.mul_one]at this
      cases hc:cloB L k n with
      | true=>
       rw [hc]at y4
       rw [hc,if_pos rfl]at hok hno
       have hp:=hok rfl
       have HP:=Hid.intro hp
       rw [if_pos rfl]
       clear hok hno hc hin hp
       gi_wp2_with (gi_at_call 48;refine stop ?_)
       unfold Stop
       refine(rperiod_calls w4 _ n k T (HQ3.out.below HB4.out (IRowQ.below HB4.out)) (by omega) (by omega) hkn (fun i j hi hj=>(HQl.out i j hi hj).mono (by omega))).mono ?_
       rintro e w5 ⟨rfl,hB5⟩
       rw [←HP.out]
       have HB5:=Hid.intro (HB4.out.trans (hB5.mono HB4.out.size))
       clear hB5 y4 HB4
       gi_wp2
       exact⟨⟨r+1,_,by go_num,by omega,rfl,by unfold wrap64;omega,HB5⟩,by simp only [intOf];omega⟩
      | false=>
       rw [hc]at y4
       rw [hc,if_neg (by decide)]at hok hno
       have hp:=hno (by decide)
       subst hp
       rw [if_neg (by decide)]
       clear hok hno hc hin
       gi_wp2
       exact⟨⟨r+1,_,by go_num,by omega,rfl,by unfold wrap64;omega,HB4⟩,by simp only [intOf];omega⟩
     ·rw [if_neg hin]at hok hno ⊢
      have hp:=hno (by decide)
      subst hp
      clear hok hno
      by_cases hi0:i<0
      ·clear hin
       gi_wp2
       exact⟨⟨r+1,_,by go_num,by omega,rfl,by unfold wrap64;omega,HB4⟩,by simp only [intOf];omega⟩
      ·have hi1:(n:Int)≤i:=by omega
       clear hin
       gi_wp2
       exact⟨⟨r+1,_,by go_num,by omega,rfl,by unfold wrap64;omega,HB4⟩,by simp only [intOf];omega⟩
    ·gi_wp2_with (gi_at_call 19;refine stop ?_)
     unfold Stop
     refine(awake_laid (HL.out.below HBw.out) wr (Below.refl _ _)).mono ?_
     rintro e w9 ⟨rfl,hB9⟩
     have HB9:=Hid.intro (HBw.out.trans (hB9.mono HBw.out.size))
     clear hB9
     gi_wp2
     all_goals (first|go_returns|go_ret|go_end0)
     exact⟨rfl,HB9.out⟩
end Go.Num
