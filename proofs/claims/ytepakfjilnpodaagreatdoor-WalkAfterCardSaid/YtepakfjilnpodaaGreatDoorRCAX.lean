/-
  'Ruin' of the reference. 'Ruin', of arguments that are as they should be. 'Ruin', of arguments that are as they should be: the runs. 'Ruin',
  Conditions: see each statement.
-/
import Derived.Test.YtepakfjilnpodaaGreatDoorRCAW
import Derived.Test.YtepakfjilnpodaaGreatDoorRCAO
import Derived.Test.YtepakfjilnpodaaGreatDoorRCAQ
namespace Go.Num
open Go.Eng Go.Shelf Go.RowKit Go.Proofs Go.Proofs.YtepakfjilnpodaaGreatDoor
set_option maxRecDepth 100000 in
set_option maxHeartbeats 8000000 in
theorem sum_calls(w:World)(v:Value)(l:List Rat)(L:Nat)(h:RowC w v l)(hl:∀q∈l,RatLe q L)(hp:∀k,RatLe (sumL (l.take k)) L)(hk:∀k,Kept1 (sumL (l.take k))=true)(hL:L≤100000)(htab:Pow10 w) :
  CallsIn Fence.wide 0 Tryz.prog 65 #[v] w fun e w'=>∃v',e = .returned v'∧RatAt w' v' (sumL l)∧Below w.heap.size w w':=by
 have HR:=Hid.intro h
 have HL:=Hid.intro hl
 have HP:=Hid.intro hp
 have HK:=Hid.intro hk
 have HTab:=Hid.intro htab
 obtain⟨o,c,rfl,h9,_⟩:=h
 obtain⟨n,hn⟩:∃n,l.length=n:=⟨_,rfl⟩
 have HN:=Hid.intro hn
 rw [hn]at HR h9
 rw [hn]
 clear hl hp hk htab hn
 refine callsIn_of_wp Tryz.func65 rfl trivial ?_ rfl
 simp only [Tryz.ntmps65,List.size_toArray,List.length_cons,List.length_nil,Nat.reduceAdd,Nat.reduceSub,Array.replicate_succ,Array.replicate_zero,List.push_toArray,List.append_toArray,List.nil_append,List.cons_append]
 obtain⟨W1,hW1⟩:∃W,W=w.alloc (.cells #[.bool false,.slice none 0 0,.slice none 0 0] 27):=⟨_,rfl⟩
 have HBW:Hid (Below w.heap.size w W1):=Hid.intro (by rw [hW1];exact alloc_below _ _)
 have hA0:ArrAt W1 w.heap.size 3 fun i => [.bool false,.slice none 0 0,.slice none 0 0].getD i (.bool false):=by
  rw [hW1]
  refine ArrAt.new _ _ _ fun i hi => ?_
  match i,hi with
  | 0,_=>rfl
  | 1,_=>rfl
  | 2,_=>rfl
 have HE:Hid (Elem W1 w.heap.size 27):=Hid.intro (by rw [hW1];exact elem_new _ _ _)
 have hsz1:W1.heap.size=w.heap.size+1:=by rw [hW1];simp
 have HW1:=Hid.intro hW1
 clear hW1
 obtain⟨g,hg⟩:∃g,w.heap.size=g:=⟨_,rfl⟩
 have hgl:g<W1.heap.size:=by omega
 have hgw:w.heap.size≤g:=by omega
 have HG:=Hid.intro hg
 rw [hg]at hA0 HE
 have HA:=Hid.intro hA0
 have hz:=ratAt_zero W1
 have HR2:=Hid.intro hz
 clear hA0 hz
 have HG3:Hid (W1.heap.size=g+1):=Hid.intro (by omega)
 have HLT:Hid (g<g+1):=Hid.intro (by omega)
 have hle3:w.heap.size≤g+1:=by omega
 clear hsz1
 gi_wp2
 gi_loopw [8] (fun x8 wr=>∃i:Nat,x8 = .int .i64 (i:Int)∧i≤n∧Hid (BoxQ wr (g+1) (sumL (l.take i)))∧Hid (ArrAt wr g 3 fun i => [.bool false,.slice none 0 0,.slice none 0 0].getD i (.bool false))∧Hid (Elem wr g 27)∧Hid (Below w.heap.size w wr)) (fun x _=>n-(intOf x).toNat)
 case atStart=>
  rw [←HW1.out]
  refine⟨0,rfl,by omega,?_,?_,?_,?_⟩
  ·rw [←HG3.out];exact boxQ_new HR2.out
  ·exact HA.out.alloc hgl _
  ·exact HE.out.below (alloc_below _ _) hgl
  ·exact HBW.out.trans ((alloc_below _ _).mono HBW.out.size)
 case round=>
  obtain⟨i,rfl,hi,HQ,HA,HE,HB⟩:=hrel
  clear HR2 HBW
  by_cases hin:i<n
  ·obtain⟨q,hq⟩:∃q,l[i]? = some q:=⟨_,List.getElem?_eq_getElem (by rw [HN.out];exact hin)⟩
   obtain⟨a,rfl,hal,sg,o3,k3,c3,o4,k4,c4,x0,x1,x2,hra⟩:=(HR.out.below HB.out).item hq
   have HRA:=Hid.intro hra
   have HQq:=Hid.intro (HL.out q (List.mem_of_getElem? hq))
   have htk:sumL (l.take (i+1))=sumL (l.take i)+q:=by rw [List.take_add_one,hq];exact sumL_snoc _ _
   have HTK:=Hid.intro htk
   have hP1:=HP.out (i+1)
   have hK1:=HK.out (i+1)
   rw [htk]at hP1 hK1
   have HP1:=Hid.intro hP1
   have HK1:=Hid.intro hK1
   obtain⟨sp,o5,k5,c5,o6,k6,c6,hA3,hr3,hE3⟩:=HQ.out
   have HR3:=Hid.intro hr3
   have y0:wr.cell? ⟨g+1,0,none⟩=some (.bool sp):=(hA3 0 (by omega)).1
   have y1:wr.cell? ⟨g+1,1,none⟩=some (.slice o5 k5 c5):=(hA3 1 (by omega)).1
   have y2:wr.cell? ⟨g+1,2,none⟩=some (.slice o6 k6 c6):=(hA3 2 (by omega)).1
   have hl3:g+1<wr.heap.size:=hA3.lt (by omega)
   clear hq hra htk hP1 hK1 hA3 hr3 hE3
   gi_wp2_with (gi_at_call 17;refine stop ?_)
   unfold Stop
   obtain⟨W3,hW3⟩:∃W,wr.alloc (.cells #[.bool sg,.slice o3 k3 c3,.slice o4 k4 c4] 27)=W:=⟨_,rfl⟩
   have hb3:Below wr.heap.size wr W3:=by rw [←hW3];exact alloc_below _ _
   rw [hW3]
   clear hW3
   refine(addR_calls W3 _ _ _ q L (HR3.out.below hb3) (HRA.out.below hb3) (HP.out i) HQq.out (by omega) (HP1.out.mono hL) HK1.out (HTab.out.below (HB.out.trans (hb3.mono HB.out.size)))).mono ?_
   rintro e w4 ⟨v4,rfl,hr4,hB4⟩
   have HB4:=Hid.intro (hb3.trans (hB4.mono hb3.size))
   have HR4:=Hid.intro hr4
   obtain⟨o7,k7,c7,o8,k8,c8,rfl⟩:=hr4.form
   clear hr4 hB4 hb3 HRA y0 y1 y2 x0 x1 x2
   gi_wp2_with (gi_at_call 85;refine stop ?_)
   unfold Stop
   refine(must_calls w4 _ _ HR4.out).mono ?_
   rintro e w5 ⟨v5,rfl,hr5,hB5⟩
   replace HB4:=Hid.intro (HB4.out.trans (hB5.mono HB4.out.size))
   have HR5:=Hid.intro hr5
   obtain⟨o9,k9,c9,o10,k10,c10,rfl⟩:=hr5.form
   obtain⟨s9,hs9⟩:∃s,decide ((sumL (l.take i)+q).num<0)=s:=⟨_,rfl⟩
   rw [hs9]at HR5
   rw [hs9]
   clear hr5 hB5 HR4 hs9
   replace HQ:=Hid.intro (HQ.out.below HB4.out)
   replace HA:=Hid.intro (HA.out.below (HE.out.lt) HB4.out)
   replace HE:=Hid.intro (HE.out.below HB4.out HE.out.lt)
   replace HB:=Hid.intro (HB.out.trans (HB4.out.mono HB.out.size))
   obtain⟨s6,p1,n1,d1,p2,n2,d2,hA6,hr6,hE6⟩:=HQ.out
   have y0:w5.cell? ⟨g+1,0,none⟩=some (.bool s6):=(hA6 0 (by omega)).1
   have y1:w5.cell? ⟨g+1,1,none⟩=some (.slice p1 n1 d1):=(hA6 1 (by omega)).1
   have y2:w5.cell? ⟨g+1,2,none⟩=some (.slice p2 n2 d2):=(hA6 2 (by omega)).1
   have z0:=(hA6 0 (by omega)).2
   have z1:=(hA6 1 (by omega)).2
   have z2:=(hA6 2 (by omega)).2
   clear hA6 hr6 hE6 hl3
   gi_wp2
   refine⟨⟨i+1,by go_num,by omega,?_,?_,?_,?_⟩,by simp only [intOf];omega⟩
   ·rw [HTK.out];exact HQ.out.set HR5.out
   ·exact((HA.out.other (by have:=HLT.out;omega)).other (by have:=HLT.out;omega)).other (by have:=HLT.out;omega)
   ·exact((HE.out.setCell _ _).setCell _ _).setCell _ _
   ·exact((HB.out.setCell hle3 _).setCell hle3 _).setCell hle3 _
  ·have hin2:i=n:=by omega
   have HE2:Hid (sumL (l.take i)=sumL l):=Hid.intro (by rw [hin2,←HN.out,List.take_length])
   obtain⟨sp,o5,k5,c5,o6,k6,c6,hA3,hr3,hE3⟩:=HQ.out
   have HR3:=Hid.intro hr3
   have y0:wr.cell? ⟨g+1,0,none⟩=some (.bool sp):=(hA3 0 (by omega)).1
   have y1:wr.cell? ⟨g+1,1,none⟩=some (.slice o5 k5 c5):=(hA3 1 (by omega)).1
   have y2:wr.cell? ⟨g+1,2,none⟩=some (.slice o6 k6 c6):=(hA3 2 (by omega)).1
   have z0:wr.cell? ⟨g,0,none⟩=some (.bool false):=(HA.out 0 (by omega)).1
   have z1:wr.cell? ⟨g,1,none⟩=some (.slice none 0 0):=(HA.out 1 (by omega)).1
   have z2:wr.cell? ⟨g,2,none⟩=some (.slice none 0 0):=(HA.out 2 (by omega)).1
   have f0:=(HA.out 0 (by omega)).2
   have f1:=(HA.out 1 (by omega)).2
   have f2:=(HA.out 2 (by omega)).2
   clear hA3 hr3 hE3
   gi_wp2
   refine ret_rat3 rfl rfl g rfl z0 z1 z2 ?_
   refine⟨_,rfl,?_,((HB.out.setCell hgw _).setCell hgw _).setCell hgw _⟩
   rw [HE2.out]at HR3
   exact((HR3.out.setElem HE.out (by decide)).setElem (HE.out.setCell _ _) (by decide)).setElem ((HE.out.setCell _ _).setCell _ _) (by decide)
end Go.Num
namespace Go.Eng
open Go.RowKit
def plainG(o:Oper):Bool:=match o.op with | .defer _=>false | .select .. => false|_=>true
section
variable {P:Program} {ops:Array Oper} {p:Plan}
def ordCheckG(l:List Oper)(bars ord:List Nat)(nt:Nat):Bool:=
 match planOf l.toArray with
 | none=>false
 | some p=>ordOk p.bs bars ord && (List.range l.length).all (fun i=>ord.contains i) && ord.all (fun i=>Nat.blt i l.length) && l.all plainG && l.all (fun o=>match o.dst with|some d=>Nat.blt d nt|none=>true)
end
end Go.Eng
namespace Go.Num
open Go.Eng Go.Shelf Go.RowKit Go.Sort Go.Proofs Go.Proofs.YtepakfjilnpodaaGreatDoor
theorem lm27:LoadMany Tryz.prog 27 3:=loadMany_of (by kernel_rfl) (by kernel_rfl)
theorem kept_le{q:Rat}(h:RatLe q 2000):Kept1 q=true:=by
 unfold Kept1 SmallN
 have h1:=nDigits_pow (k:=2000) (by decide) h.1
 have h2:=nDigits_pow (k:=2000) (by decide) h.2
 rw [Bool.and_eq_true]
 refine⟨decide_eq_true (by omega),decide_eq_true ?_⟩
 split
 ·have:=nDigits_9 (show 0<1000000000 by decide);omega
 ·omega
theorem ratLe_one:RatLe (1:Rat) 1:=ratLe_int (z:=1) (L:=1) (by decide) (by decide)
end Go.Num
namespace Go.Num
open Go.Eng Go.Proofs Go.Proofs.YtepakfjilnpodaaGreatDoor
def fr(a b:Nat):Rat:=((a:Int):Rat)/((b:Int):Rat)
def frOK(a b:Nat):Bool:=Nat.blt (fr a b).num.natAbs 1000 && Nat.blt (fr a b).den 1000
theorem fr_all:((List.range 32).all fun a=>(List.range 32).all fun b=>frOK a b)=true:=by kernel_rfl
theorem fr_small{a b:Nat}(ha:a≤31)(hb:b≤31):(fr a b).num.natAbs<1000∧(fr a b).den<1000:=by
 have h:=List.all_eq_true.1 (List.all_eq_true.1 fr_all a (List.mem_range.2 (by omega))) b (List.mem_range.2 (by omega))
 unfold frOK at h
 rw [Bool.and_eq_true]at h
 exact⟨Nat.le_of_ble_eq_true h.1,Nat.le_of_ble_eq_true h.2⟩
theorem fr_le{a b:Nat}(ha:a≤31)(hb:b≤31):RatLe (fr a b) 1:=by
 have h:=fr_small ha hb
 have e:B^1=1000000000:=by decide
 exact⟨by omega,by omega⟩
theorem nat_pos{b:Nat}(h:0<b):(0:Rat)<((b:Int):Rat):=Rat.intCast_pos.2 (by omega)
theorem fr_pos{a b:Nat}(ha:0<a)(hb:0<b):0<fr a b:=by
 unfold fr
 rw [Rat.div_def]
 exact Rat.mul_pos (nat_pos ha) (Rat.inv_pos.2 (nat_pos hb))
end Go.Num
namespace Go.Num
open Go.Eng Go.Shelf Go.RowKit Go.Sort Go.Proofs Go.Proofs.YtepakfjilnpodaaGreatDoor
theorem seven_one:((1:Int):Rat)=1:=Rat.ext rfl rfl
end Go.Num
