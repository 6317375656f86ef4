/-
  'After' of the program, with its errors. 'After' of the program. How long the chances after steps of a tame chain are; its rows are chances.
  Conditions: see each statement.
-/
import Derived.Test.YtepakfjilnpodaaGreatDoorRCBC
import Derived.Test.YtepakfjilnpodaaGreatDoorRCBD
import Derived.Test.YtepakfjilnpodaaGreatDoorRCBB
import Derived.Test.YtepakfjilnpodaaGreatDoorRCAX
namespace Go.Num
open Go.Eng Go.Shelf Go.RowKit Go.Sort Go.Proofs Go.Proofs.YtepakfjilnpodaaGreatDoor
structure StLe(Q:Nat→Nat→Rat)(f:Nat→Rat)(n L:Nat):Prop where
 cm:∀i j,i<n→j<n→RatLe (Q i j) L
 cf:∀j,j<n→RatLe (f j) L
 cp:∀i j,i<n→j<n→RatLe (f i*Q i j) L
 cd:∀i j,i≤n→j<n→RatLe (sumQ (fun i=>f i*Q i j) i) L
def stpF(Q:Nat→Nat→Rat)(f:Nat→Rat)(n:Nat)(j:Nat):Rat:=sumQ (fun i=>f i*Q i j) n
theorem prod2_c{w:World}{a b c d e f:Value}{p q:Rat}(h:RatAt w (.agg #[a,b,c]) p)(k:RatAt w (.agg #[d,e,f]) q)(hp:RatLe p 2000)(hq:RatLe q 2000)(hpq:RatLe (p*q) 2000)(htab:Pow10 w) :
  CallsIn Fence.wide 0 Tryz.prog 68 #[.slice (some ⟨w.heap.size,0,none⟩) 2 2] (w.alloc (.cells #[a,b,c,d,e,f] 27)) fun en w'=>∃v,en = .returned v∧RatAt w' v (p*q)∧Below (w.alloc (.cells #[a,b,c,d,e,f] 27)).heap.size (w.alloc (.cells #[a,b,c,d,e,f] 27)) w':=by
 have hall:∀n,RatLe (prodL ([p,q].take n)) 2000:=fun n=>by
  rcases prodL_pair p q n with h|h|h <;> rw [h]
  ·exact ratLe_one.mono (by omega)
  ·exact hp
  ·exact hpq
 refine(product_calls _ _ [p,q] 2000 (rowC_two h k) (fun x hx => ?_) hall (fun n=>kept_le (hall n)) (by omega) (htab.below (alloc_below _ _))).mono ?_
 ·simp only [List.mem_cons,List.not_mem_nil,or_false]at hx
  rcases hx with rfl|rfl
  ·exact hp
  ·exact hq
 ·rintro e w' ⟨v,rfl,hv,hB⟩
  exact⟨v,rfl,by rw [←prodL_pq];exact hv,hB⟩
set_option maxRecDepth 100000 in
set_option maxHeartbeats 4000000 in
theorem stepped_calls(w:World)(g:Nat)(v u:Value)(n:Nat)(Q:Nat→Nat→Rat)(f:Nat→Rat)(hc:w.cell? ⟨g,0,none⟩=some v)(hm:MtC w v (tabW n n Q))(hu:RowC w u (rowW f n))(h0:0<n)(h9:n≤9)(hS:StLe Q f n 2000)(htab:Pow10 w) :
  CallsIn Fence.wide 0 Tryz.prog 107 #[.pointer (some ⟨g,0,none⟩),u] w fun e w'=>∃v',e = .returned v'∧RowR w' v' (rowW (stpF Q f n) n)∧Below w.heap.size w w':=by
 have HC:=Hid.intro hc
 have HGW:g<w.heap.size:=World.block_lt_of_cell? _ _ hc
 have HM:=Hid.intro hm
 have HU:=Hid.intro hu
 have HS:=Hid.intro hS
 have HT:=Hid.intro htab
 obtain⟨_,rv,⟨om,cm,rfl,hn9,htop⟩,hrow⟩:=hm
 rw [tabW_len]at hn9 htop hrow HM HC hc
 have HTop:=Hid.intro htop
 have HRow:=Hid.intro hrow
 obtain⟨ou,cu,rfl,_,hi⟩:=hu
 obtain⟨au,rfl,hau,_⟩:=hi 0 _ (rowW_at (a:=f) h0)
 obtain⟨am,rfl,ham,_⟩:=htop h0
 rw [rowW_len]at HU ⊢
 clear hS htab htop hrow hi
 refine callsIn_of_wp Tryz.func107 rfl trivial ?_ rfl
 simp only [Tryz.ntmps107,List.size_toArray,List.length_cons,List.length_nil,Nat.reduceAdd,Nat.reduceSub,Array.replicate_succ,Array.replicate_zero,List.push_toArray,List.append_toArray,List.nil_append,List.cons_append]
 gi_wp2
 gi_loopw [5,15] (fun x5 x15 wr=>∃j:Nat,x15 = .int .i64 (j:Int)∧j≤n∧Hid (OwnR wr w.heap.size 27 3 IR x5 (rowW (stpF Q f n) j))∧Hid (Below w.heap.size w wr)) (fun _ x _=>n-(intOf x).toNat)
 case atStart=>exact⟨0,rfl,by omega,OwnR.nil _ _ _ _ _,Below.refl _ w⟩
 case round=>
  obtain⟨ws,hws⟩:∃ws,ws=wr:=⟨_,rfl⟩
  subst hws
  obtain⟨j,rfl,hj,HO5,HB5⟩:=hrel
  obtain⟨o5,c5,h5f⟩:=HO5.out.form
  rw [rowW_len]at h5f
  subst h5f
  by_cases hjn:j<n
  ·gi_wp2
   gi_loopw [7,20] (fun x7 x20 wi=>∃i:Nat,x20 = .int .i64 (i:Int)∧i≤n∧Hid (OwnR wi ws.heap.size 27 3 IR x7 (rowW (fun i=>f i*Q i j) i))∧Hid (Below ws.heap.size ws wi)) (fun _ x _=>n-(intOf x).toNat)
   case atStart=>exact⟨0,rfl,by omega,OwnR.nil _ _ _ _ _,Below.refl _ ws⟩
   case round=>
    obtain⟨wi,hwi⟩:∃wi,wi=wr:=⟨_,rfl⟩
    subst hwi
    obtain⟨i,rfl,hi,HO7,HB7⟩:=hrel
    obtain⟨o7,c7,h7f⟩:=HO7.out.form
    rw [rowW_len]at h7f
    subst h7f
    have HBA:=Hid.intro (HB5.out.trans (HB7.out.mono HB5.out.size))
    by_cases hin:i<n
    ·have hui:=HU.out.below HBA.out
     obtain⟨a',e',hau',sf,of1,kf1,cf1,of2,kf2,cf2,y0,y1,y2,hrf⟩:=hui.item (rowW_at (a:=f) hin)
     injection e' with e'
     subst e'
     have HRF:=Hid.intro hrf
     clear hui hrf
     obtain⟨W7,hW7⟩:∃W,W=wi.alloc (Obj.cells #[Value.bool sf,Value.slice of1 kf1 cf1,Value.slice of2 kf2 cf2] 27):=⟨_,rfl⟩
     have hb7:Below wi.heap.size wi W7:=by rw [hW7];exact alloc_below _ _
     have hc8:Cel W7 wi.heap.size 27 [Value.bool sf,Value.slice of1 kf1 cf1,Value.slice of2 kf2 cf2]:=by rw [hW7];exact Cel.new _ _ _
     have hbd:Below wi.heap.size wi W7.drew:=hb7.trans ((drew_below W7).mono hb7.size)
     have HBD:=Hid.intro hbd
     have HC8:=Hid.intro (hc8.below (drew_below W7))
     have HRF7:=Hid.intro (HRF.out.below hbd)
     have HO8:=Hid.intro (HO7.out.below hbd (IR.below hbd))
     have hbA:=HBA.out.trans (hbd.mono HBA.out.size)
     have x0:W7.drew.cell? ((⟨g,0,none⟩:Addr).add 0)=some (.slice (some am) n cm):=(hbA.cell (p:=⟨g,0,none⟩) HGW).trans HC.out
     obtain⟨ai,ci,s1,o1,k1,c1,o2,k2,c2,x1,x2,hq1⟩:=mtC_at (HM.out.below hbA) hin hjn
     have x1:W7.drew.cell? (am.add (i*1))=some (.slice (some ai) n ci):=by rw [Nat.mul_one];exact x1
     have HX2:=Hid.intro x2
     have HQ1:=Hid.intro hq1
     clear hq1 x2 hb7 hc8 hbd hbA HO7 HRF
     gi_wp2
     rw [←hW7]
     obtain⟨g8,hg8⟩:∃g,wi.heap.size=g:=⟨_,rfl⟩
     rw [hg8]at HC8
     rw [hg8]
     clear y0 y1 y2 hW7 hg8
     refine wpIn_region_gs (ro:=none) [12,13,14,15] [0,1,2,3,4,5,6,7,8,9,10,11,12,13,14,15,16] [0,0,0,4,12,28,0,124,252,0,1020,2044,4094,8190,16382,32767,65535] follows rfl 49 rfl (by kernel_rfl) (by kernel_rfl) ?_
     refine GS.mv (v:=.slice o7 i c7) rfl rfl rfl rfl rfl ?_
     refine GS.ldn (p:=⟨g8,0,none⟩) [.bool sf,.slice of1 kf1 cf1,.slice of2 kf2 cf2] l27 HC8.out.box.at9 rfl rfl rfl rfl rfl rfl (by decide) rfl ?_
     refine GS.mv (v:=.pointer (some ⟨g,0,none⟩)) rfl rfl rfl rfl rfl ?_
     refine GS.nil rfl rfl rfl rfl rfl ?_
     refine GS.fld fld133a rfl rfl rfl rfl rfl ?_
     refine GS.ld1 (p:=(⟨g,0,none⟩:Addr).add 0) (v:=.slice (some am) n cm) l42 x0 rfl rfl rfl rfl rfl rfl ?_
     refine GS.mv (v:=.int .i64 (i:Int)) rfl rfl rfl rfl rfl ?_
     refine GS.ixS itR42 (k:=i) (by omega) rfl rfl rfl rfl rfl rfl ?_
     refine GS.ld1 (p:=am.add (i*1)) (v:=.slice (some ai) n ci) ld49 x1 rfl rfl rfl rfl rfl rfl ?_
     refine GS.mv (v:=.int .i64 (j:Int)) rfl rfl rfl rfl rfl ?_
     refine GS.ixS itR9 (k:=j) (by omega) rfl rfl rfl rfl rfl rfl ?_
     refine GS.ldn (p:=ai.add (j*3)) [.bool s1,.slice o1 k1 c1,.slice o2 k2 c2] l27 HX2.out rfl rfl rfl rfl rfl rfl (by decide) rfl ?_
     refine GS.put (vs:=[(0,.agg #[.bool sf,.slice of1 kf1 cf1,.slice of2 kf2 cf2]),(1,.agg #[.bool s1,.slice o1 k1 c1,.slice o2 k2 c2])]) (two64 _ _ _ _ _ _ _) (alloc_below _ _) rfl rfl rfl rfl rfl ?_
     refine GS.call [.slice (some ⟨W7.drew.heap.size,0,none⟩) 2 2] Tryz.func68 rfl namesOK rfl rfl rfl rfl rfl rfl (prod2_c HRF7.out HQ1.out (HS.out.cf i hin) (HS.out.cm i j hin hjn) (HS.out.cp i j hin hjn) (HT.out.below (HBA.out.trans (HBD.out.mono HBA.out.size)))) fun v9 w9 hv9 hB9 => ?_
     have hB9:Below W7.drew.heap.size W7.drew w9:=(alloc_below _ _).trans (hB9.mono (alloc_below _ _).size)
     obtain⟨s3,p3,l3,d3,p4,l4,d4,rfl⟩:=RatAt.form9 hv9
     have hbw9:=HBD.out.trans (hB9.mono HBD.out.size)
     obtain⟨v11,w11,hrun11,hO11,hB11,hT11,_⟩:=own_run (ty:=27) (sz:=3) (bytes:=56) (t:=49) (tx:=49) ws w9 Go.Num.u64 i25' i25z i25s i25b rfl (by decide) (by decide) (.slice o7 i c7) (rowW (fun i=>f i*Q i j) i) (HO8.out.below hB9 (IR.below hB9)) (f i*Q i j) [.bool s3,.slice p3 l3 d3,.slice p4 l4 d4] 27 rfl (by simp [Value.oneCell']) hv9 (fun b r w1 w2 ht=>IR.touch ht rfl b r) (by rw [rowW_len];omega) (HB7.out.trans (hbw9.mono HB7.out.size))
     rw [←rowW_succ (fun i=>f i*Q i j) i]at hO11
     refine GS.put (vs:=[(0,.agg #[.bool s3,.slice p3 l3 d3,.slice p4 l4 d4])]) (one64 _ _ _ _) (alloc_below _ _) rfl rfl rfl rfl rfl ?_
     refine GS.app trivial hrun11 rfl rfl rfl rfl rfl rfl rfl ?_
     refine GS.as (v:=v11) rfl rfl rfl rfl rfl ?_
     refine GS.done ?_
     have HO11:=Hid.intro hO11
     have HB11:=Hid.intro hB11
     simp only [putAll,Go.Act.put,List.setIfInBounds_toArray,List.set_cons_succ,List.set_cons_zero]
     clear x0 x1 HX2 HQ1 HC8 HRF7 HO8 hO11 hB11 hrun11 hT11 hv9 hB9 hbw9 HB7 HBA HBD
     gi_wp2
     exact⟨⟨i+1,by go_num,by omega,HO11,HB11⟩,by simp only [intOf];omega⟩
    ·obtain rfl:n=i:=by omega
     have hr7:=rowC_of (HO7.out.row (by rw [rowW_len];omega))
     have HR7:=Hid.intro hr7
     have HO6:=Hid.intro (HO5.out.below HB7.out (IR.below HB7.out))
     have hs:∀k,RatLe (sumL ((rowW (fun i=>f i*Q i j) n).take k)) 2000:=fun k=>by
      rw [rowW_take,sumL_rowW]
      exact HS.out.cd _ j (by omega) hjn
     have HSm:=Hid.intro hs
     have HE:Hid (sumL (rowW (fun i=>f i*Q i j) n)=stpF Q f n j):=Hid.intro (sumL_rowW _ n)
     clear hr7 hs HO5 HO7 hc
     gi_wp2_with (gi_at_call 65;refine stop ?_)
     unfold Stop
     refine(sum_calls wi _ (rowW (fun i=>f i*Q i j) n) 2000 HR7.out (fun x hx => ?_) HSm.out (fun k=>kept_le (HSm.out k)) (by omega) (HT.out.below HBA.out)).mono ?_
     ·obtain⟨i,hi,rfl⟩:=List.mem_map.1 hx
      exact HS.out.cp i j (List.mem_range.1 hi) hjn
     rintro e w2 ⟨v2,rfl,hv2,hB2⟩
     rw [HE.out]at hv2
     obtain⟨s3,p3,l3,d3,p4,l4,d4,rfl⟩:=RatAt.form9 hv2
     have HV2:=Hid.intro hv2
     have HO5:=Hid.intro (HO6.out.below hB2 (IR.below hB2))
     have HB2:=Hid.intro (HBA.out.trans (hB2.mono HBA.out.size))
     clear hv2 hB2 HO6 HR7
     gi_wp2_with (gi_at_builtin;refine stop ?_)
     unfold Stop
     refine append_item (ty:=27) (sz:=3) (bytes:=56) w w2 rfl _ _ rfl Go.Num.u64 i25' i25z i25s i25b rfl (by decide) (by decide) (.slice o5 j c5) (rowW (stpF Q f n) j) rfl HO5.out (stpF Q f n j) [.bool s3,.slice p3 l3 d3,.slice p4 l4 d4] _ rfl rfl (by simp [Value.oneCell']) HV2.out (fun b r w1 w2 ht=>IR.touch ht rfl b r) (by rw [rowW_len];omega) HB2.out ?_
     intro v3 w3 HO3 HB3 HT3 _
     rw [←rowW_succ (stpF Q f n) j]at HO3
     gi_wp2
     exact⟨⟨j+1,by go_num,by omega,HO3,HB3⟩,by simp only [intOf];omega⟩
  ·obtain rfl:j=n:=by omega
   gi_wp2
   all_goals (first|go_returns|go_ret|go_end0)
   exact⟨_,rfl,HO5.out.row (by rw [rowW_len];omega),HB5.out⟩
theorem stpF_aft(Q:Nat→Nat→Rat)(f:Nat→Rat)(n s:Nat):stpF Q (aft Q n f s) n=aft Q n f (s+1):=rfl
theorem stLe_of{Q:Nat→Nat→Rat}{f:Nat→Rat}{n k L s:Nat}(h:AftLe Q f n k L)(hs:s≤k):StLe Q (aft Q n f s) n L:=
 ⟨h.cm,fun j hj=>h.cf s j hs hj,fun i j hi hj=>h.cp s i j hs hi hj,fun i j hi hj=>h.cd s i j hs hi hj⟩
theorem rowR_c{w:World}{v:Value}{l:List Rat}(h:RowR w v l):RowC w v l:=rowC_of h
set_option maxRecDepth 100000 in
set_option maxHeartbeats 4000000 in
theorem after1_calls(w:World)(g g0 g1 g2:Nat)(v u:Value)(n k:Nat)(Q:Nat→Nat→Rat)(f:Nat→Rat)(hc:w.cell? ⟨g,0,none⟩=some v)(hc0:w.cell? ⟨g0,0,none⟩=some u)(hc1:w.cell? ⟨g1,0,none⟩=some (.int .i64 (k:Int)))(hc2:w.cell? ⟨g2,0,none⟩=some (.pointer (some ⟨g,0,none⟩)))
  (hm:MtC w v (tabW n n Q)) (hu:RowC w u (rowW f n)) (h0:0<n) (h9:n≤9) (hk:k≤1000) (hS:AftLe Q f n k 2000) (htab:Pow10 w) :
  CallsIn Fence.wide 0 Tryz.prog 105 #[.pointer (some ⟨g0,0,none⟩),.pointer (some ⟨g1,0,none⟩),.pointer (some ⟨g2,0,none⟩)] w fun e w'=>∃v',e = .returned v'∧RowR w' v' (rowW (aft Q n f k) n)∧Below w.heap.size w w':=by
 have HM:=Hid.intro hm
 have HU:=Hid.intro hu
 have HS:=Hid.intro hS
 have HT:=Hid.intro htab
 have HC:=Hid.intro hc
 have HC2:=Hid.intro hc2
 have HG:=Hid.intro (World.block_lt_of_cell? _ _ hc)
 have HG2:=Hid.intro (World.block_lt_of_cell? _ _ hc2)
 have HG1:=Hid.intro (World.block_lt_of_cell? _ _ hc1)
 clear hm hu hS htab hc
 refine callsIn_of_wp Tryz.func105 rfl trivial ?_ rfl
 simp only [Tryz.ntmps105,List.size_toArray,List.length_cons,List.length_nil,Nat.reduceAdd,Nat.reduceSub,Array.replicate_succ,Array.replicate_zero,List.push_toArray,List.append_toArray,List.nil_append,List.cons_append]
 gi_wp2_with (gi_at_call 106;refine stop ?_)
 unfold Stop
 refine(clone_calls w u (rowW f n) n HU.out (rowW_len f n) h0 (by omega)).mono ?_
 rintro e w1 ⟨v1,rfl,hr1,hB1⟩
 have HF0:=Hid.intro hr1
 have HB1:=Hid.intro hB1
 have HC1:Hid (w1.cell? ⟨g1,0,none⟩=some (.int .i64 (k:Int))):=Hid.intro ((hB1.cell (p:=⟨g1,0,none⟩) HG1.out).trans hc1)
 have y1:=HC1.out
 clear hr1 hB1 hc0 hc1 hc2
 gi_wp2
 gi_loopw [4,8] (fun x4 x8 wr=>∃s:Nat,x8 = .int .i64 (s:Int)∧s≤k∧Hid (RowR wr x4 (rowW (aft Q n f s) n))∧Hid (Below w1.heap.size w1 wr)) (fun _ x _=>k-(intOf x).toNat)
 case atStart=>exact⟨0,rfl,by omega,HF0,Below.refl _ w1⟩
 case round=>
  obtain⟨s,rfl,hs,HF,HBr⟩:=hrel
  clear HF0 y1
  have HBA:=Hid.intro (HB1.out.trans (HBr.out.mono HB1.out.size))
  by_cases hsk:s<k
  ·have y2:=(HBA.out.cell (p:=⟨g2,0,none⟩) HG2.out).trans HC2.out
   gi_wp2_with (gi_at_call 107;refine stop ?_)
   unfold Stop
   refine(stepped_calls wr g v _ n Q (aft Q n f s) ((HBA.out.cell (p:=⟨g,0,none⟩) HG.out).trans HC.out) (HM.out.below HBA.out) (rowR_c HF.out) h0 h9 (stLe_of HS.out hs) (HT.out.below HBA.out)).mono ?_
   rintro e w2 ⟨v2,rfl,hr2,hB2⟩
   rw [stpF_aft]at hr2
   have HR2:=Hid.intro hr2
   have HB2:=Hid.intro (HBr.out.trans (hB2.mono HBr.out.size))
   clear hr2 hB2 y2
   gi_wp2
   exact⟨⟨s+1,by go_num,by omega,HR2,HB2⟩,by simp only [intOf];omega⟩
  ·obtain rfl:s=k:=by omega
   gi_wp2
   all_goals (first|go_returns|go_ret|go_end0)
   exact⟨_,rfl,HF.out,HBA.out⟩
def afE(F:List Rat)(n:Nat)(k:Int):Int:=if F.length≠n then 7 else if dsB F=false∨k<0∨50<k then 1 else 0
theorem list_rowW(F:List Rat):F=rowW (fun j=>F.getD j 0) F.length:=by
 refine List.ext_getElem? fun i => ?_
 rcases Nat.lt_or_ge i F.length with h|h
 ·rw [rowW_at h,getD_at h]
 ·rw [List.getElem?_eq_none h,List.getElem?_eq_none (by rw [rowW_len];exact h)]
theorem ecB(f:Nat)(fn:Func)(hf:Tryz.prog.funcs[f]? = some fn)(hb:fn.body.isSome=true):∀args w,(callFunc f args).run Tryz.prog w = .ok (.enter f args) w:=by
 intro args w
 simp only [callFunc,run_program,hf,Sem.run_bind,Result.andThen_ok,namesOK f fn hf hb,Bool.false_eq_true,if_false]
 have:fn.body.isNone=false:=by cases hq:fn.body <;> simp_all
 simp [this]
theorem tabW_getD{n N:Nat}{Q:Nat→Nat→Rat}{i:Nat}(hi:i<n):(tabW n N Q).getD i []=rowW (Q i) N:=by
 rw [List.getD_eq_getElem?_getD,tabW_at hi];rfl
set_option maxRecDepth 100000 in
set_option maxHeartbeats 4000000 in
theorem after_calls(w:World)(v u:Value)(n:Nat)(Q:Nat→Nat→Rat)(F:List Rat)(k:Int)(hm:MtC w v (tabW n n Q))(hu:RowC w u F)(h1:1≤n)(h8:n≤8)(hF:F.length≤9)(hFL:∀i,i<F.length→RatLe (F.getD i 0) 100000)
  (hb:firstBad (tabW n n Q) n n=false) (hQ:∀i j,i<n→j<n→RatLe (Q i j) 2000) (hk : -9223372036854775808≤k∧k≤9223372036854775807) (hS:afE F n k=0→AftLe Q (fun j=>F.getD j 0) n k.toNat 2000) (htab:Pow10 w) :
  CallsIn Fence.wide 0 Tryz.prog 41 #[v,u,.int .i64 k] w fun e w'=>∃r,e = .returned (.tuple #[r,.int .i64 (afE F n k)])∧(afE F n k=0→RowR w' r (rowW (aft Q n (fun j=>F.getD j 0) k.toNat) n))∧(afE F n k≠0→r = .slice none 0 0)∧Below w.heap.size w w':=by
 have HM:=Hid.intro hm
 have HU:=Hid.intro hu
 have HS:=Hid.intro hS
 have HT:=Hid.intro htab
 have HQ:=Hid.intro hQ
 have HFB:=Hid.intro hb
 have HFL:=Hid.intro hFL
 obtain⟨_,rv,⟨om,cm,rfl,_,_⟩,_⟩:=hm
 obtain⟨ou,cu,rfl,_,_⟩:=hu
 rw [tabW_len]at HM ⊢
 obtain⟨m,hm⟩:∃m,F.length=m:=⟨_,rfl⟩
 have HFm:=Hid.intro hm
 rw [hm]at HU HFL hF ⊢
 clear hS htab hQ hb hFL hm
 obtain⟨E,hE⟩:∃E,afE F n k=E:=⟨_,rfl⟩
 rw [hE]at HS
 rw [hE]
 have HE:=Hid.intro hE
 clear hE
 refine callsIn_of_wp Tryz.func41 rfl trivial ?_ rfl
 simp only [Tryz.ntmps41,List.size_toArray,List.length_cons,List.length_nil,Nat.reduceAdd,Nat.reduceSub,Array.replicate_succ,Array.replicate_zero,List.push_toArray,List.append_toArray,List.nil_append,List.cons_append]
 gi_wp2_with (gi_at_call 103;refine stop ?_)
 unfold Stop
 obtain⟨W0,hW0⟩:∃W,W=w.alloc (Obj.cells #[Value.slice ou m cu] 49):=⟨_,rfl⟩
 have h0s:W0.heap.size=w.heap.size+1:=by rw [hW0];simp
 obtain⟨W1,hW1⟩:∃W,W=W0.alloc (Obj.cells #[Value.int .i64 k] 3):=⟨_,rfl⟩
 rw [←hW0,←hW1]
 have hb0:Below w.heap.size w W1:=by rw [hW1,hW0];exact(alloc_below _ _).alloc (by simp) _
 have hc0:W1.cell? ⟨w.heap.size,0,none⟩=some (.slice ou m cu):=by
  have h1:W0.cell? ⟨w.heap.size,0,none⟩=some (.slice ou m cu):=by rw [hW0];exact World.cell?_alloc_new _ _ _ _
  rw [hW1]
  exact((alloc_below W0 _).cell (World.block_lt_of_cell? _ _ h1)).trans h1
 have hc1:W1.cell? ⟨w.heap.size+1,0,none⟩=some (.int .i64 k):=by rw [hW1,←h0s];exact World.cell?_alloc_new _ _ _ _
 obtain⟨g0,hg0⟩:∃g,w.heap.size=g:=⟨_,rfl⟩
 rw [hg0]at hc0 hc1
 rw [hg0]
 have HC0:=Hid.intro hc0
 have HC1:=Hid.intro hc1
 have HB0:=Hid.intro hb0
 clear hW0 hW1 h0s hg0 hc0 hc1 hb0
 refine(open_calls W1 _ (tabW n n Q) n (HM.out.below HB0.out) (tabW_len n n Q) h1 h8 HFB.out (fun i hi j hj => ?_) (HT.out.below HB0.out)).mono ?_
 ·rw [tabW_getD hi]at hj ⊢
  rw [rowW_len]at hj
  rw [rowW_getD hj]
  exact(HQ.out i j hi hj).mono (by omega)
 rintro e w2 ⟨g,rfl,hg,hch,hB2⟩
 have HCH:=Hid.intro hch
 have HB2:=Hid.intro (HB0.out.trans (hB2.mono HB0.out.size))
 have HC02:=Hid.intro ((hB2.cell (World.block_lt_of_cell? _ _ HC0.out)).trans HC0.out)
 have HC12:=Hid.intro ((hB2.cell (World.block_lt_of_cell? _ _ HC1.out)).trans HC1.out)
 clear hch hB2 HC0 HC1 HB0 hg
 have y0:=HC02.out
 by_cases hmn:m=n
 ·subst hmn
  obtain⟨W3,hW3⟩:∃W,W=w2.alloc (Obj.cells #[Value.pointer (some ⟨g,0,none⟩)] 123):=⟨_,rfl⟩
  have hb3:Below w2.heap.size w2 W3:=by rw [hW3];exact alloc_below _ _
  have y1:(w2.alloc (Obj.cells #[Value.pointer (some ⟨g,0,none⟩)] 123)).cell? ⟨g0,0,none⟩=some (.slice ou m cu):=((alloc_below w2 _).cell (World.block_lt_of_cell? _ _ y0)).trans y0
  have hc8:W3.cell? ⟨w2.heap.size,0,none⟩=some (.pointer (some ⟨g,0,none⟩)):=by rw [hW3];exact World.cell?_alloc_new _ _ _ _
  have HCH3:=Hid.intro (HCH.out.below hb3)
  have HC03:=Hid.intro ((hb3.cell (World.block_lt_of_cell? _ _ HC02.out)).trans HC02.out)
  have HC13:=Hid.intro ((hb3.cell (World.block_lt_of_cell? _ _ HC12.out)).trans HC12.out)
  have HB3:=Hid.intro (HB2.out.trans (hb3.mono HB2.out.size))
  obtain⟨g8,hg8⟩:∃g,w2.heap.size=g:=⟨_,rfl⟩
  rw [hg8]at hc8
  have HC8:=Hid.intro hc8
  clear hb3 hc8 HCH HC02 HC12 HB2
  gi_wp2_with (gi_at_call 104;refine stop ?_)
  unfold Stop
  rw [←hW3]
  clear hW3 hg8 y0 y1
  refine(chances_calls W3 _ F m (HU.out.below HB3.out) HFm.out hF HFL.out (HT.out.below HB3.out)).mono ?_
  rintro e w4 ⟨rfl,hB4⟩
  have HB4:=Hid.intro (HB3.out.trans (hB4.mono HB3.out.size))
  have HCH4:=Hid.intro (HCH3.out.below hB4)
  have HC04:=Hid.intro ((hB4.cell (World.block_lt_of_cell? _ _ HC03.out)).trans HC03.out)
  have HC14:=Hid.intro ((hB4.cell (World.block_lt_of_cell? _ _ HC13.out)).trans HC13.out)
  have HC84:=Hid.intro ((hB4.cell (World.block_lt_of_cell? _ _ HC8.out)).trans HC8.out)
  have y0:=HC04.out
  have y1:=HC14.out
  clear hB4 HCH3 HC03 HC13 HC8 HB3
  have hne:¬F.length≠m:=by rw [HFm.out];simp
  cases hd:dsB F with
  | false=>
   have HV:Hid (E=1):=Hid.intro (by rw [←HE.out];unfold afE;rw [if_neg hne,hd,if_pos (.inl rfl)])
   clear hd hne
   gi_wp2
   all_goals (first|go_returns|go_ret|go_end0)
   rw [HV.out]
   exact⟨_,rfl,fun h=>absurd h (by decide),fun _=>rfl,HB4.out⟩
  | true=>
  by_cases hk0:k<0
  ·have HV:Hid (E=1):=Hid.intro (by rw [←HE.out];unfold afE;rw [if_neg hne,hd,if_pos (.inr (.inl hk0))])
   clear hd hne
   gi_wp2
   all_goals (first|go_returns|go_ret|go_end0)
   rw [HV.out]
   exact⟨_,rfl,fun h=>absurd h (by decide),fun _=>rfl,HB4.out⟩
  by_cases hk1:50<k
  ·have HV:Hid (E=1):=Hid.intro (by rw [←HE.out];unfold afE;rw [if_neg hne,hd,if_pos (.inr (.inr hk1))])
   clear hd hne
   gi_wp2
   all_goals (first|go_returns|go_ret|go_end0)
   rw [HV.out]
   exact⟨_,rfl,fun h=>absurd h (by decide),fun _=>rfl,HB4.out⟩
  have HV:Hid (E=0):=Hid.intro (by rw [←HE.out];unfold afE;rw [if_neg hne,hd,if_neg (by simp [hk0,hk1])])
  clear hd hne
  gi_wp2_with (gi_at_call 78;refine stop ?_)
  unfold Stop
  have HSt:=Hid.intro (HS.out HV.out)
  have hlF:rowW (fun j=>F.getD j 0) m=F:=by
   have:=list_rowW F
   rw [HFm.out]at this
   exact this.symm
  have HLF:=Hid.intro hlF
  clear y0 y1 hlF
  refine(attempt78_of w4 105 #[.pointer (some ⟨g0,0,none⟩),.pointer (some ⟨g0+1,0,none⟩),.pointer (some ⟨g8,0,none⟩)] (fun v W=>RowR W v (rowW (aft Q m (fun j=>F.getD j 0) k.toNat) m)) (ecB 105 _ Tryz.func105 rfl)
   (fun v W W' h hf=>RowR.frb h hf (fun b=>by decide) (fun b e he q=>by rcases q with rfl|rfl <;> cases he)) (fun W hW => ?_)).mono ?_
  ·refine(after1_calls W g g0 (g0+1) g8 (.slice om m cm) (.slice ou m cu) m k.toNat Q (fun j=>F.getD j 0) ((hW.cell (World.block_lt_of_cell? _ _ HCH4.out.top)).trans HCH4.out.top) ((hW.cell (World.block_lt_of_cell? _ _ HC04.out)).trans HC04.out) ?_ ((hW.cell (World.block_lt_of_cell? _ _ HC84.out)).trans HC84.out)
    (HM.out.below (HB4.out.trans (hW.mono HB4.out.size))) (by rw [HLF.out];exact HU.out.below (HB4.out.trans (hW.mono HB4.out.size))) (by omega) hF (by omega) HSt.out (HT.out.below (HB4.out.trans (hW.mono HB4.out.size)))).mono ?_
   ·have e:((k.toNat:Nat):Int)=k:=by omega
    rw [e]
    exact(hW.cell (World.block_lt_of_cell? _ _ HC14.out)).trans HC14.out
   ·rintro e w' ⟨v',rfl,hr,hB⟩
    exact⟨v',rfl,⟨by obtain⟨o,c,hf,_⟩:=RowIs.form hr;exact⟨o,_,c,hf⟩,hr⟩,hB⟩
  rintro e w5 ⟨v5,rfl,hr5,hB5⟩
  have HR5:=Hid.intro hr5
  have HB5:=Hid.intro (HB4.out.trans (hB5.mono HB4.out.size))
  clear hr5 hB5
  gi_wp2
  all_goals (first|go_returns|go_ret|go_end0)
  rw [HV.out]
  exact⟨_,rfl,fun _=>HR5.out,fun h=>absurd rfl h,HB5.out⟩
 ·have hmn2:¬((m:Int)=(n:Int)):=by omega
  have HV:Hid (E=7):=Hid.intro (by rw [←HE.out];unfold afE;rw [if_pos (by rw [HFm.out];exact hmn)])
  have y1:(w2.alloc (Obj.cells #[Value.pointer (some ⟨g,0,none⟩)] 123)).cell? ⟨g0,0,none⟩=some (.slice ou m cu):=((alloc_below w2 _).cell (World.block_lt_of_cell? _ _ y0)).trans y0
  gi_wp2
  all_goals (first|go_returns|go_ret|go_end0)
  rw [HV.out]
  exact⟨_,rfl,fun h=>absurd h (by decide),fun _=>rfl,HB2.out.trans ((alloc_below w2 _).mono HB2.out.size)⟩
theorem fine_fr{a b:Nat}(ha:a≤31)(hb0:0<b)(hb:b≤31):fineB (fr a b)=true:=by
 have h1:=(fr_small ha hb).1
 have h2:=(fr_small ha hb).2
 have e:(10:Nat)^(5+1)=1000000:=by decide
 unfold fineB SmallQ
 have h3:=nDigits_le 5 (fr a b).num.natAbs (by omega)
 have h4:=nDigits_le 5 (fr a b).den (by omega)
 rw [decide_eq_true (p:=_≤6) (by omega),decide_eq_true (p:=_≤6) (by omega)]
 have h5:0≤fr a b:=by
  rcases Nat.eq_zero_or_pos a with h|h
  ·subst h
   have:fr 0 b=0:=by unfold fr;simp [Rat.div_def]
   rw [this];exact Rat.le_refl
  ·exact Rat.le_of_lt (fr_pos h hb0)
 have h6:0≤sgnR (fr a b):=by
  have:=Rat.num_nonneg.2 h5
  unfold sgnR
  rw [if_neg (by omega)]
  split <;> decide
 simp [h6]
theorem sumT_rowW(f:Nat→Rat)(n:Nat):∀i,i≤n→sumT (rowW f n) i=sumQ f i
 | 0,_=>rfl
 | i+1,h=>by
  show sumT (rowW f n) i+(rowW f n).getD i 0=sumQ f i+f i
  rw [sumT_rowW f n i (by omega),rowW_getD (by omega)]
section
variable {len:Nat} {m:Nat→Nat} {z:Nat→Nat→Int} {n:Nat}
theorem tmQ_fine(h:0<n)(h5:n≤5){i k:Nat}(hk:k<n):fineB (tmQ len m z n i k)=true:=by
 have h1:=smF_pos (len:=len) (m:=m) (z:=z) (n:=n) i
 have h2:=smF_le (len:=len) (m:=m) (z:=z) h i
 have h3:=wtF_le (len:=len) (m:=m) (z:=z) h (i:=i) hk
 exact fine_fr (a:=wtF len m z n i k) (b:=smF len m z n i) (by omega) h1 (by omega)
theorem tmQ_ds(h:0<n)(h5:n≤5)(i:Nat):dsB (rowW (tmQ len m z n i) n)=true:=by
 unfold dsB
 rw [all_fine (fun j hj=>by rw [rowW_len]at hj;rw [rowW_getD hj];exact tmQ_fine h h5 hj),rowW_len,sumT_rowW _ n n (Nat.le_refl _),tmQ_sum h i,Rat.sub_self]
 rfl
theorem tmQ_good(h:0<n)(h5:n≤5):firstBad (tabW n n (tmQ len m z n)) n n=false:=by
 have key:∀k,k≤n→firstBad (tabW n n (tmQ len m z n)) n k=false:=by
  intro k
  induction k with
  | zero=>intro _;rfl
  | succ k ih=>
   intro hk
   show(firstBad _ n k || _)=false
   rw [ih (by omega),tabW_getD (by omega),rowW_len,tmQ_ds h h5]
   simp
 exact key n (Nat.le_refl n)
theorem tmQ_le(h:0<n)(h5:n≤5){i j:Nat}(hj:j<n):RatLe (tmQ len m z n i j) 1:=fine_le (tmQ_fine h h5 hj)
end
theorem fine_nums{q:Rat}(h:fineB q=true):0≤q∧q.den≤1000000∧q.num.natAbs≤1000000:=by
 unfold fineB SmallQ at h
 rw [Bool.and_eq_true,Bool.and_eq_true]at h
 obtain⟨⟨h1,h2⟩,h3⟩:=h
 have h1:=Nat.lt_of_lt_of_le (Lib.lt_pow_nDigits q.num.natAbs) (Nat.pow_le_pow_right (by decide) (of_decide_eq_true h1))
 have h2:=Nat.lt_of_lt_of_le (Lib.lt_pow_nDigits q.den) (Nat.pow_le_pow_right (by decide) (of_decide_eq_true h2))
 have h3:=of_decide_eq_true h3
 have e:(10:Nat)^6=1000000:=by decide
 refine⟨Rat.num_nonneg.1 ?_,by omega,by omega⟩
 unfold sgnR at h3
 split at h3
 ·exact absurd h3 (by decide)
 ·omega
theorem ds_fine{F:List Rat}(h:dsB F=true){i:Nat}(hi:i<F.length):fineB (F.getD i 0)=true:=by
 unfold dsB at h
 rw [Bool.and_eq_true,List.all_eq_true]at h
 exact h.1 _ (List.mem_of_getElem? (getD_at hi))
theorem big_num:1000000*5^51*(1000000^5*D30^51)<B^200:=by decide +kernel
theorem tame_after{len:Nat}{m:Nat→Nat}{z:Nat→Nat→Int}{n k:Nat}{F:List Rat}(h:0<n)(h5:n≤5)(hk:k≤50)(hF:F.length=n)(hd:dsB F=true):AftLe (tmQ len m z n) (fun j=>F.getD j 0) n k 200:=by
 obtain⟨D0,h0,h1,h2⟩:=common_den (d:=1000000) (c:=1000000) (by decide) (fun j=>F.getD j 0) n fun i hi=>fine_nums (ds_fine hd (by rw [hF];exact hi))
 have hD:0<D30:=by decide +kernel
 refine aft_le (D:=D30) (D0:=D0) (c0:=1000000) h2 (fun i j hi hj=>tmQ_fr h h5 hj) h0 hD h (by decide) (Nat.lt_of_le_of_lt ?_ big_num)
 have e1:n^(k+1)≤5^51:=Nat.le_trans (Nat.pow_le_pow_left h5 _) (Nat.pow_le_pow_right (by decide) (by omega))
 have e2:D30^(k+1)≤D30^51:=Nat.pow_le_pow_right hD (by omega)
 have e3:D0≤1000000^5:=Nat.le_trans h1 (Nat.pow_le_pow_right (by decide) h5)
 exact Nat.mul_le_mul (Nat.mul_le_mul_left _ e1) (Nat.mul_le_mul e3 e2)
theorem AftLe.mono{Q:Nat→Nat→Rat}{f:Nat→Rat}{n k L M:Nat}(h:AftLe Q f n k L)(hL:L≤M):AftLe Q f n k M:=
 ⟨fun i j a b=>(h.cm i j a b).mono hL,fun s j a b=>(h.cf s j a b).mono hL,fun s i j a b c=>(h.cp s i j a b c).mono hL,fun s i j a b c=>(h.cd s i j a b c).mono hL⟩
end Go.Num
