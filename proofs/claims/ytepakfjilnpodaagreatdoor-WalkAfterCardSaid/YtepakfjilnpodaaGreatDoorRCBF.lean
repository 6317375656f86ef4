/-
  The law WalkAfter.
  Conditions: the library's variables lie in memory.
-/
import Derived.Test.YtepakfjilnpodaaGreatDoorRCBE
import Derived.Test.YtepakfjilnpodaaGreatDoorRCBA
import Derived.Test.YtepakfjilnpodaaGreatDoorRCAY
import Derived.Test.YtepakfjilnpodaaGreatDoorRCAR
namespace Go.Num
open Go.Eng Go.Shelf Go.RowKit Go.Sort Go.Proofs Go.Proofs.YtepakfjilnpodaaGreatDoor
theorem wrap_tri{n:Nat}(h:n=1∨n=2∨n=3∨n=4∨n=5):wrap64 ((n:Int)*((n:Int)+1))=((n*(n+1):Nat):Int):=by
 rcases h with rfl|rfl|rfl|rfl|rfl <;> (unfold wrap64;decide)
theorem stopNeq{F:Fence}{n:Nat}{P:Program}(d:Tmp){ops:Array Oper}{rest:List Oper}{t t2:TypeId}{x y:Operand}{ty:TypeId}{ps:String}{af:Array Edge}{a:CAct}{Q:Exit→CAct→World→Prop}{w:World}
  (h:Stop (wpListIn F n P ops Q ({op:=.binOp .neq t x y t2,dst:=some d,type:=ty,pos:=ps,after:=af,guard:=none} :: rest) a w)):wpListIn F n P ops Q ({op:=.binOp .neq t x y t2,dst:=some d,type:=ty,pos:=ps,after:=af,guard:=none} :: rest) a w:=h
set_option maxRecDepth 100000 in
set_option maxHeartbeats 8000000 in
theorem walkAfter_walk(w:World)(v0 v1:Value)(len:Nat)(rv:Nat→Value)(m:Nat→Nat)(z:Nat→Nat→Int)(ns:Nat)(s:Nat→ByteArray)(k0:Int)(h:ITabAt w v0 len rv m z)(hs:ReadAt w v1 ns fun i => .string (s i))(hlen:∀i,i<ns→(s i).size≤9223372036854775807)(hk : -9223372036854775808≤k0∧k0≤9223372036854775807)(hL:Laid w) :
  CallsIn Fence.wide 0 Tryz.prog 6 #[v0,v1,.int .i64 k0] w fun e w'=>e = .returned (.bool true)∧Below w.heap.size w w':=by
 have HA:=Hid.intro h
 have HS:=Hid.intro hs
 have HLn:=Hid.intro hlen
 have HL:=Hid.intro hL
 obtain⟨n,hn⟩:∃n,tmN len=n:=⟨_,rfl⟩
 have hn1:1≤n:=by unfold tmN at hn;omega
 have hn5:n≤5:=by unfold tmN at hn;omega
 obtain⟨T,hT⟩:∃T,tmQ len m z n=T:=⟨_,rfl⟩
 have HN:=Hid.intro hn
 have HT:=Hid.intro hT
 clear h hs hlen hL hn hT
 refine callsIn_of_wp Tryz.func6 rfl trivial ?_ rfl
 simp only [Tryz.ntmps6,List.size_toArray,List.length_cons,List.length_nil,Nat.reduceAdd,Nat.reduceSub,Array.replicate_succ,Array.replicate_zero,List.push_toArray,List.append_toArray,List.nil_append,List.cons_append]
 gi_wp2_with (gi_at_call 20;refine stop ?_)
 unfold Stop
 refine(tame_calls w v0 len rv m z HA.out HL.out).mono ?_
 rintro e w1 ⟨va,vb,rfl,hq,hr,hB1⟩
 rw [HN.out,HT.out]at hq hr
 obtain⟨a1,c1,rfl⟩:=RowIs.some9 hq (by rw [tabW_len];omega)
 obtain⟨a2,c2,rfl⟩:=RowIs.some9 hr (by rw [tabW_len];omega)
 rw [tabW_len]at hq hr ⊢
 have HQ1:=Hid.intro hq
 have HR1:=Hid.intro hr
 have HB1:=Hid.intro hB1
 clear hq hr hB1
 gi_wp2_with (gi_at_call 34;refine stop ?_)
 unfold Stop
 refine(readL_calls w1 v1 ns s 9 (HS.out.below HB1.out) HLn.out (by omega) (HL.out.below HB1.out)).mono ?_
 rintro e w2 ⟨vc,vd,rfl,hfq,hfr,hB2⟩
 obtain⟨F0,hF0⟩:∃F,rowOf s (min ns 9)=F:=⟨_,rfl⟩
 have hF9:F0.length≤9:=by rw [←hF0,rowOf_len];omega
 have hFK:∀i,i<F0.length→RatLe (F0.getD i 0) 4000:=fun i hi=>by
  rw [←hF0]at hi ⊢
  rw [rowOf_len]at hi
  have e:(rowOf s (min ns 9)).getD i 0=rq (s i).data.toList:=by
   unfold rowOf
   rw [List.getD_eq_getElem?_getD,List.getElem?_map,List.getElem?_range hi]
   rfl
  rw [e]
  exact(kept_le2 (rq_kept _)).mono (by omega)
 rw [hF0]at hfq hfr
 have HQ0:=Hid.intro hfq
 have HR0:=Hid.intro hfr
 have HF0:=Hid.intro hFK
 have HB0:=Hid.intro (HB1.out.trans (hB2.mono HB1.out.size))
 have HQ2:=Hid.intro (HQ1.out.below hB2 (IRowQ.below hB2))
 have HR2:=Hid.intro (HR1.out.below hB2 (IRowR.below hB2))
 clear hfq hfr hFK hF0 hB2 HB1 HQ1 HR1
 gi_wp2
 gi_loopw [2,9,10,11] (fun x2 x9 x10 x11 wr=>∃(r:Nat) (F:List Rat) (k:Int),x11 = .int .i64 (r:Int)∧r≤2∧x2 = .int .i64 k∧(-9223372036854775808≤k∧k≤9223372036854775807)∧Hid (RowQ wr x9 F)∧Hid (RowR wr x10 F)∧F.length≤9∧Hid (∀i,i<F.length→RatLe (F.getD i 0) 4000)∧Hid (Below w2.heap.size w2 wr)) (fun _ _ _ x _=>2-(intOf x).toNat)
 case atStart=>exact⟨0,F0,k0,rfl,by omega,rfl,hk,HQ0,HR0,hF9,HF0,Below.refl _ w2⟩
 case round=>
  obtain⟨r,F,k,rfl,hr,rfl,hkk,HQ,HR,hF9',HF,HB⟩:=hrel
  clear HQ0 HR0 HF0 hF9 hk
  obtain⟨o9,c9,h9⟩:=RowIs.form9 HQ.out
  obtain⟨o10,c10,h10⟩:=RowIs.form9 HR.out
  subst h9
  subst h10
  by_cases hr2:r<2
  ·gi_wp2_with (gi_at_call 41;refine stop ?_)
   unfold Stop
   have HBw:=Hid.intro (HB0.out.trans (HB.out.mono HB0.out.size))
   have HAf:Hid (∀k:Int,afE F n k=0→AftLe T (fun j=>F.getD j 0) n k.toNat 200∧F.length=n∧dsB F=true∧0≤k∧k≤50):=Hid.intro fun k hE=>by
    unfold afE at hE
    split at hE
    ·cases hE
    ·rename_i h1
     split at hE
     ·cases hE
     ·rename_i h2
      have h1:F.length=n:=by omega
      have hd:dsB F=true:=by cases hd:dsB F with
       | true=>rfl
       | false=>exact absurd (.inl hd) h2
      have hk0:¬k<0:=fun h=>h2 (.inr (.inl h))
      have hk1:¬50<k:=fun h=>h2 (.inr (.inr h))
      exact⟨by rw [←HT.out];exact tame_after (by omega) hn5 (by omega) h1 hd,h1,hd,by omega,by omega⟩
   refine(after_calls wr _ _ n T F k (mtC_of (HR2.out.below HB.out (IRowR.below HB.out))) (rowC_of HR.out) hn1 (by omega) hF9' (fun i hi=>(HF.out i hi).mono (by omega)) (by rw [←HT.out];exact tmQ_good (by omega) hn5)
    (fun i j hi hj=>by rw [←HT.out];exact(tmQ_le (by omega) hn5 hj).mono (by omega)) hkk (fun hE=>(HAf.out k hE).1.mono (by omega)) (HL.out.below HBw.out).pow).mono ?_
   rintro e w3 ⟨vr,rfl,hok,hno,hB3⟩
   have HOK:=Hid.intro hok
   have HNO:=Hid.intro hno
   have HB3:=Hid.intro (HB.out.trans (hB3.mono HB.out.size))
   have HQ3:=Hid.intro (HQ.out.below hB3 (IQ.below hB3))
   obtain⟨mm,hmm⟩:∃mm,F.length=mm:=⟨_,rfl⟩
   have HMM:=Hid.intro hmm
   obtain⟨E,hE⟩:∃E,afE F n k=E:=⟨_,rfl⟩
   have HE:=Hid.intro hE
   rw [hmm]at HQ3 hF9'
   rw [hE]at HOK HNO
   rw [hmm,hE]
   clear hok hno hB3 hmm hE HQ HR HB
   gi_wp2_with (with_reducible refine stopNeq 43 ?_)
   unfold Stop
   iterate 6 gi_step
   refine by_after (fun c0 e c' W=>e = .normal∧(∃z44 z45 z46 z47 z48 z49 z50 z51 z52 z53 z54,c'=putAll c0 [(14,.int .i64 E),(54,z54),(53,z53),(52,z52),(51,z51),(50,z50),(49,z49),(48,z48),(47,z47),(46,z46),(45,z45),(44,z44)])∧Hid (Below w3.heap.size w3 W)) ?want ?rest
   case want=>
    by_cases hmn:mm=n
    ·subst hmn
     have HFN:Hid (¬F.length≠mm):=Hid.intro (by rw [HMM.out];simp)
     gi_wp2_with (gi_at_call 42;refine stop ?_)
     unfold Stop
     refine(distrQ_calls w3 _ F mm HQ3.out HMM.out hF9' (fun i hi=>(HF.out i (by rw [HMM.out];exact hi)).mono (by omega))).mono ?_
     rintro e w4 ⟨rfl,hB4⟩
     have HB4:=Hid.intro hB4
     clear hB4
     have hE:=HE.out
     unfold afE at hE
     rw [if_neg HFN.out]at hE
     cases hd:dsB F with
     | false=>
      rw [hd,if_pos (.inl rfl)]at hE
      subst hE
      clear hd
      gi_wp2
      try refine⟨?_,HB4⟩
      simp only [putAll,Go.Act.put,List.setIfInBounds_toArray,List.set_cons_succ,List.set_cons_zero]
      exact⟨_,_,_,_,_,_,_,_,_,_,_,rfl⟩
     | true=>
     by_cases hk0:k<0
     ·rw [if_pos (.inr (.inl hk0))]at hE
      subst hE
      clear hd
      gi_wp2
      try refine⟨?_,HB4⟩
      simp only [putAll,Go.Act.put,List.setIfInBounds_toArray,List.set_cons_succ,List.set_cons_zero]
      exact⟨_,_,_,_,_,_,_,_,_,_,_,rfl⟩
     by_cases hk1:50<k
     ·rw [if_pos (.inr (.inr hk1))]at hE
      subst hE
      clear hd
      gi_wp2
      try refine⟨?_,HB4⟩
      simp only [putAll,Go.Act.put,List.setIfInBounds_toArray,List.set_cons_succ,List.set_cons_zero]
      exact⟨_,_,_,_,_,_,_,_,_,_,_,rfl⟩
     rw [hd,if_neg (by simp [hk0,hk1])]at hE
     subst hE
     clear hd
     gi_wp2
     try refine⟨?_,HB4⟩
     simp only [putAll,Go.Act.put,List.setIfInBounds_toArray,List.set_cons_succ,List.set_cons_zero]
     exact⟨_,_,_,_,_,_,_,_,_,_,_,rfl⟩
    ·have hfn2:((mm:Int)≠(n:Int)):=by omega
     have hE:=HE.out
     unfold afE at hE
     rw [if_pos (by rw [HMM.out];exact hmn)]at hE
     subst hE
     gi_wp2
     try refine⟨?_,Hid.intro (Below.refl _ _)⟩
     simp only [putAll,Go.Act.put,List.setIfInBounds_toArray,List.set_cons_succ,List.set_cons_zero]
     exact⟨_,_,_,_,_,_,_,_,_,_,_,rfl⟩
   case rest=>
    rintro e c' w4 ⟨rfl,⟨z44,z45,z46,z47,z48,z49,z50,z51,z52,z53,z54,rfl⟩,HB4⟩
    simp only [putAll,Go.Act.put,List.setIfInBounds_toArray,List.set_cons_succ,List.set_cons_zero]
    have HBA:=Hid.intro (HB3.out.trans (HB4.out.mono HB3.out.size))
    have HQ4:=Hid.intro (HQ3.out.below HB4.out (IQ.below HB4.out))
    have HOK4:Hid (E=0→RowR w4 vr (rowW (aft T n (fun j=>F.getD j 0) k.toNat) n)):=Hid.intro (fun h=>(HOK.out h).below HB4.out (IR.below HB4.out))
    clear HOK HB4 HB3 HQ3
    gi_wp2_with (with_reducible refine stopNeq 56 ?_)
    unfold Stop
    iterate 6 gi_step
    refine by_after (fun c0 e c' W=>e = .normal∧(∃z57 z58 z59 z60 z61 z62 z63 z64 z65 z66 z67 z68 z69 z70 z71 z72 z73 z74 z75,c'=putAll c0 [(75,z75),(74,z74),(73,z73),(72,z72),(71,z71),(70,z70),(69,z69),(68,z68),(67,z67),(66,z66),(65,z65),(64,z64),(63,z63),(62,z62),(61,z61),(60,z60),(59,z59),(58,z58),(57,z57)])∧Hid (Below w4.heap.size w4 W)) ?look ?rest2
    case look=>
     by_cases hE0:E=0
     ·obtain⟨ha1,ha2,ha3,ha4,ha5⟩:=HAf.out k (by rw [HE.out];exact hE0)
      have hr4:=HOK4.out hE0
      have hmn:mm=n:=by rw [←HMM.out];exact ha2
      obtain⟨kn,rfl⟩:∃kn:Nat,k=(kn:Int):=⟨k.toNat,by omega⟩
      rw [Int.toNat_natCast]at ha1 hr4
      have hlF:F=rowW (fun j=>F.getD j 0) n:=by
       have:=list_rowW F
       rwa [ha2]at this
      obtain⟨f,hf⟩:∃f:Nat→Rat,(fun j=>F.getD j 0)=f:=⟨_,rfl⟩
      rw [hf]at ha1 hr4 hlF
      have HQf:Hid (RowQ w4 (.slice o9 mm c9) (rowW f n)):=Hid.intro (by rw [←hlF];exact HQ4.out)
      have HA1:=Hid.intro ha1
      have HR4:=Hid.intro hr4
      subst hmn
      subst hE0
      clear ha1 ha2 ha3 hr4 hlF hf HOK4 HNO HQ4
      have hkn:kn≤1000:=by omega
      gi_wp2_with (gi_at_call 43;refine stop ?_)
      unfold Stop
      refine(afterQ_calls w4 _ _ mm kn T f (HQ2.out.below (HBA.out) (IRowQ.below HBA.out)) HQf.out (by omega) hF9' hkn (HA1.out.mono (by omega))).mono ?_
      rintro e w5 ⟨v5,rfl,hq5,hB5⟩
      have HQ5:=Hid.intro hq5
      have HB5:=Hid.intro hB5
      have HR5:=Hid.intro (HR4.out.below hB5 (IR.below hB5))
      clear hq5 hB5
      gi_wp2_with (gi_at_call 27;refine stop ?_)
      unfold Stop
      refine(listW_calls w5 _ _ (rowW (aft T mm f kn) mm) mm HR5.out HQ5.out (rowW_len _ _) (by omega) (fun i hi=>by rw [rowW_getD hi];exact(HA1.out.cf kn i (Nat.le_refl _) hi).mono (by omega)) (HL.out.below (HB0.out.trans ((HBA.out.trans (HB5.out.mono HBA.out.size)).mono HB0.out.size))).pow).mono ?_
      rintro e w6 ⟨rfl,hB6⟩
      have HB6:=Hid.intro (HB5.out.trans (hB6.mono HB5.out.size))
      clear hB6
      gi_wp2
      try refine⟨?_,HB6⟩
      simp only [putAll,Go.Act.put,List.setIfInBounds_toArray,List.set_cons_succ,List.set_cons_zero]
      exact⟨_,_,_,_,_,_,_,_,_,_,_,_,_,_,_,_,_,_,_,rfl⟩
     ·have hv:=HNO.out hE0
      subst hv
      clear HNO
      gi_wp2
      try refine⟨?_,Hid.intro (Below.refl _ _)⟩
      simp only [putAll,Go.Act.put,List.setIfInBounds_toArray,List.set_cons_succ,List.set_cons_zero]
      exact⟨_,_,_,_,_,_,_,_,_,_,_,_,_,_,_,_,_,_,_,rfl⟩
    case rest2=>
     rintro e c' w5 ⟨rfl,⟨z57,z58,z59,z60,z61,z62,z63,z64,z65,z66,z67,z68,z69,z70,z71,z72,z73,z74,z75,rfl⟩,HB5⟩
     simp only [putAll,Go.Act.put,List.setIfInBounds_toArray,List.set_cons_succ,List.set_cons_zero]
     have HB5:=Hid.intro (HBA.out.trans (HB5.out.mono HBA.out.size))
     clear HOK4 HNO HE HQ4 HBA HAf
     gi_wp2
     gi_loopw [9,10,16] (fun x9 x10 x16 wi=>∃q:Nat,x16 = .int .i64 (q:Int)∧q≤n∧Hid (OwnR wi w5.heap.size 62 4 IQ x9 (rowW (fun k=>fr (2*(k+1)) (n*(n+1))) q))∧Hid (OwnR wi w5.heap.size 27 3 IR x10 (rowW (fun k=>fr (2*(k+1)) (n*(n+1))) q))∧Hid (Below w5.heap.size w5 wi)) (fun _ _ x _=>n-(intOf x).toNat)
     case atStart=>exact⟨0,rfl,by omega,OwnR.nil _ _ _ _ _,OwnR.nil _ _ _ _ _,Below.refl _ w5⟩
     case round=>
      obtain⟨q,rfl,hq,HP,HRw,HBq⟩:=hrel
      obtain⟨op,cp,hpf⟩:=HP.out.form
      rw [rowW_len]at hpf
      subst hpf
      obtain⟨oq,cq,hqf⟩:=HRw.out.form
      rw [rowW_len]at hqf
      subst hqf
      by_cases hqn:q<n
      ·gi_wp2_with (gi_at_call 39;refine stop ?_)
       unfold Stop
       obtain⟨st,hst⟩:∃st,n*(n+1)=st:=⟨_,rfl⟩
       have hn':n=1∨n=2∨n=3∨n=4∨n=5:=by omega
       have hs2:wrap64 ((n:Int)*((n:Int)+1))=(st:Int):=by rw [←hst];exact wrap_tri hn'
       have hs3:1≤st∧st≤30:=by rw [←hst];rcases hn' with rfl|rfl|rfl|rfl|rfl <;> decide
       obtain⟨wt,hwt⟩:∃wt,2*(q+1)=wt:=⟨_,rfl⟩
       have hw2:2*((q:Int)+1)=(wt:Int):=by omega
       have hw3:wt≤10:=by omega
       have hGq:fr (2*(q+1)) (n*(n+1))=((wt:Int):Rat)/((st:Int):Rat):=by rw [hst,hwt];rfl
       obtain⟨G,hG⟩:∃G:Nat→Rat,(fun k=>fr (2*(k+1)) (n*(n+1)))=G:=⟨_,rfl⟩
       have hGq2:G q=((wt:Int):Rat)/((st:Int):Rat):=by rw [←hG];exact hGq
       have HGq:=Hid.intro hGq2
       have HG:=Hid.intro hG
       rw [hG]at HP HRw
       rw [hs2,hw2]
       clear hst hwt hs2 hw2 hGq hG hGq2 hn'
       refine(frac_calls wr (wt:Int) (st:Int) (by omega) (by omega) (by omega) (by omega) (by omega)).mono ?_
       rintro e w6 ⟨v4,rfl,hq4,hB4⟩
       rw [←HGq.out]at hq4
       obtain⟨s3,p3,l3,d3,p4,l4,d4,rfl⟩:=qform hq4
       have HK4:Hid (Kept1 (G q)=true):=Hid.intro (by
        rw [HGq.out]
        exact kept_le ((ratLe_rat (int_small (by omega) (by omega)) (int_small (by omega) (by omega))).mono (by decide)))
       obtain⟨W5,hW5⟩:∃W,W=w6.alloc (Obj.cells #[Value.bool s3,Value.slice p3 l3 d3,Value.bool false,Value.slice p4 l4 d4] 62):=⟨_,rfl⟩
       have hb5:Below w6.heap.size w6 W5:=by rw [hW5];exact alloc_below _ _
       have hc14:Cel W5 w6.heap.size 62 [Value.bool s3,Value.slice p3 l3 d3,Value.bool false,Value.slice p4 l4 d4]:=by rw [hW5];exact Cel.new _ _ _
       have hb45:=hB4.trans (hb5.mono hB4.size)
       have hne14:∀k,(Value.slice op q cp).ownBlock=some k→k≠w6.heap.size:=fun k hk e=>by
        have:=HP.out.lt hk
        have:=hB4.size
        omega
       have HP5:=Hid.intro (HP.out.below hb45 (IQ.below hb45))
       have HR5:=Hid.intro (HRw.out.below hb45 (IR.below hb45))
       have HB6:=Hid.intro (HBq.out.trans (hb45.mono HBq.out.size))
       have HQ5:=Hid.intro (hq4.below hb5)
       have HC14:=Hid.intro hc14
       have HN14:=Hid.intro hne14
       obtain⟨g14,hg14⟩:∃g,w6.heap.size=g:=⟨_,rfl⟩
       rw [hg14]at HC14 HN14
       have b0:=HC14.out.cell (j:=0) rfl
       have b1:=HC14.out.cell (j:=1) rfl
       have b2:=HC14.out.cell (j:=2) rfl
       have b3:=HC14.out.cell (j:=3) rfl
       rw [hW5]at b0 b1 b2 b3
       clear hq4 hB4 hb5 hc14 hb45 hne14 HP HRw HBq
       gi_wp2_with (gi_at_builtin;refine stop ?_)
       unfold Stop
       have hz5:g14+1=W5.heap.size:=by rw [hW5,←hg14];simp
       rw [←hW5]
       rw [hz5]
       clear b0 b1 b2 b3 hW5 hg14 hz5
       refine append_item (ty:=62) (sz:=4) (bytes:=64) w5 W5 rfl _ _ rfl Go.Num.u63 i34 i34z i34s i34b rfl (by decide) (by decide) (.slice op q cp) (rowW G q) rfl HP5.out (G q) [.bool s3,.slice p3 l3 d3,.bool false,.slice p4 l4 d4] _ rfl rfl (by simp [Value.oneCell']) HQ5.out (fun b r w1 w2 ht=>IQ.touch ht rfl b r) (by rw [rowW_len];omega) HB6.out ?_
       intro v6 w7 HP6 HB7 HT6 HO6'
       rw [←rowW_succ G q]at HP6
       have hk14:w7.heap[g14]? = W5.heap[g14]?:=HO6'.out g14 HC14.out.lt (fun e=>HN14.out g14 e.symm rfl)
       have HC14':=Hid.intro (HC14.out.eqB hk14)
       have HR6:=Hid.intro (HR5.out.touch HT6.out (by decide) (IR.touch HT6.out rfl))
       have HQ6:=Hid.intro (IQ.touch HT6.out rfl _ [.bool s3,.slice p3 l3 d3,.bool false,.slice p4 l4 d4] HQ5.out)
       have b0:=HC14'.out.cell (j:=0) rfl
       have b1:=HC14'.out.cell (j:=1) rfl
       have b2:=HC14'.out.cell (j:=2) rfl
       have b3:=HC14'.out.cell (j:=3) rfl
       clear hk14 HC14 HR5 HQ5 HP5 HN14 HO6' HB6
       gi_wp2_with (gi_at_call 40;refine stop ?_)
       unfold Stop
       refine(rat_calls w7 _ _ HQ6.out HK4.out (HL.out.below (HB0.out.trans ((HB5.out.trans (HB7.out.mono HB5.out.size)).mono HB0.out.size)))).mono ?_
       rintro e w8 ⟨v7,rfl,hr7,hB7⟩
       obtain⟨r3,p5,l5,d5,p6,l6,d6,rfl⟩:=RatAt.form9 hr7
       have HP7:=Hid.intro (HP6.out.below hB7 (IQ.below hB7))
       have HR7:=Hid.intro (HR6.out.below hB7 (IR.below hB7))
       have HB8:=Hid.intro (HB7.out.trans (hB7.mono HB7.out.size))
       have HV7:=Hid.intro hr7
       clear b0 b1 b2 b3 hr7 hB7 HC14' HR6 HQ6 HP6 HB7 HT6
       gi_wp2_with (gi_at_builtin;refine stop ?_)
       unfold Stop
       refine append_item (ty:=27) (sz:=3) (bytes:=56) w5 w8 rfl _ _ rfl Go.Num.u64 i25' i25z i25s i25b rfl (by decide) (by decide) (.slice oq q cq) (rowW G q) rfl HR7.out (G q) [.bool r3,.slice p5 l5 d5,.slice p6 l6 d6] _ rfl rfl (by simp [Value.oneCell']) HV7.out (fun b r w1 w2 ht=>IR.touch ht rfl b r) (by rw [rowW_len];omega) HB8.out ?_
       intro v8 w9 HR8 HB9 HT8 _
       rw [←rowW_succ G q]at HR8
       have HP8:=Hid.intro (HP7.out.touch HT8.out (by decide) (IQ.touch HT8.out rfl))
       rw [←HG.out]at HP8 HR8
       clear HP7 HR7 HB8 HV7 HT8
       gi_wp2
       exact⟨⟨q+1,by go_num,by omega,HP8,HR8,HB9⟩,by simp only [intOf];omega⟩
      ·obtain rfl:n=q:=by omega
       have HQn:=Hid.intro (HP.out.row (by rw [rowW_len];omega))
       have HRn:=Hid.intro (HRw.out.row (by rw [rowW_len];omega))
       have HBn:=Hid.intro (HB5.out.trans (HBq.out.mono HB5.out.size))
       have HFn:Hid (∀i,i<(rowW (fun k=>fr (2*(k+1)) (n*(n+1))) n).length→RatLe ((rowW (fun k=>fr (2*(k+1)) (n*(n+1))) n).getD i 0) 4000):=Hid.intro (fun i hi=>by
        rw [rowW_len]at hi
        rw [rowW_getD hi]
        have:n*(n+1)≤5*6:=Nat.mul_le_mul hn5 (by omega)
        exact(fr_le (by omega) (by omega)).mono (by omega))
       gi_wp2
       exact⟨⟨r+1,_,_,by go_num,by omega,rfl,by unfold wrap64;omega,HQn,HRn,by rw [rowW_len];omega,HFn,HBn⟩,by simp only [intOf];omega⟩
  ·have HBf:=Hid.intro (HB0.out.trans (HB.out.mono HB0.out.size))
   gi_wp2_with (gi_at_call 19;refine stop ?_)
   unfold Stop
   refine(awake_laid (HL.out.below HBf.out) wr (Below.refl _ _)).mono ?_
   rintro e w9 ⟨rfl,hB9⟩
   have HB9:=Hid.intro (HBf.out.trans (hB9.mono HBf.out.size))
   clear hB9
   gi_wp2
   all_goals (first|go_returns|go_ret|go_end0)
   exact⟨rfl,HB9.out⟩
end Go.Num
