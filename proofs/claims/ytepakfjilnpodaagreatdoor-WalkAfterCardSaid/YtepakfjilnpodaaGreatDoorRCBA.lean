/-
  'After' of the reference. 'Distribution' of the reference. 'Turned' and 'After' of the reference. 'areChances'. The law's 'list'.
  Conditions: see each statement.
-/
import Derived.Test.YtepakfjilnpodaaGreatDoorRCAZ
import Derived.Test.YtepakfjilnpodaaGreatDoorRCAS
import Derived.Test.YtepakfjilnpodaaGreatDoorRCAX
import Derived.Test.YtepakfjilnpodaaGreatDoorRCAW
namespace Go.Num
open Go.Eng Go.Shelf Go.RowKit Go.Sort Go.Proofs Go.Proofs.YtepakfjilnpodaaGreatDoor
def sumT(a:List Rat):Nat→Rat
 | 0=>0
 | n+1=>sumT a n+a.getD n 0
theorem sumT_le{a:List Rat}:∀{i:Nat},(∀j,j<i→RatLe (a.getD j 0) 1)→RatLe (sumT a i) (2*i+1)
 | 0,_=>ratLe_zero (by decide)
 | i+1,h=>(ratLe_add (sumT_le fun j hj=>h j (by omega)) (h i (by omega))).mono (by omega)
def dsB(a:List Rat):Bool:=a.all fineB && decide (sgnR (sumT a a.length-1)=0)
theorem fine_le{q:Rat}(h:fineB q=true):RatLe q 1:=by
 unfold fineB at h
 rw [Bool.and_eq_true]at h
 exact small6_le h.1
theorem getD_at{a:List Rat}{i:Nat}(h:i<a.length):a[i]? = some (a.getD i 0):=by
 rw [List.getD_eq_getElem?_getD,List.getElem?_eq_getElem h];rfl
theorem all_fine{a:List Rat}(h:∀j,j<a.length→fineB (a.getD j 0)=true):a.all fineB=true:=by
 rw [List.all_eq_true]
 intro x hx
 obtain⟨i,hi⟩:=List.mem_iff_getElem?.1 hx
 have hl:=(List.getElem?_eq_some_iff.1 hi).1
 have:=h i hl
 rw [getD_at hl]at hi
 injection hi with hi
 rwa [hi]at this
theorem not_fine{a:List Rat}{i:Nat}(hi:i<a.length)(h:fineB (a.getD i 0)=false):a.all fineB=false:=by
 rw [List.all_eq_false]
 exact⟨_,List.mem_of_getElem? (getD_at hi),by rw [h];decide⟩
set_option maxRecDepth 100000 in
set_option maxHeartbeats 4000000 in
theorem distrQ_calls(w:World)(u:Value)(a:List Rat)(n:Nat)(hu:RowQ w u a)(ha:a.length=n)(hn:n≤9)(hA:∀i,i<n→RatLe (a.getD i 0) 4700) :
  CallsIn Fence.wide 0 Tryz.prog 42 #[u] w fun e w'=>e = .returned (.bool (dsB a))∧Below w.heap.size w w':=by
 have HU:=Hid.intro hu
 have HA:=Hid.intro hA
 obtain⟨ou,cu,rfl⟩:=RowIs.form9 hu
 rw [ha]at HU
 rw [ha]
 have HLA:=Hid.intro ha
 clear hu hA ha
 refine callsIn_of_wp Tryz.func42 rfl trivial ?_ rfl
 simp only [Tryz.ntmps42,List.size_toArray,List.length_cons,List.length_nil,Nat.reduceAdd,Nat.reduceSub,Array.replicate_succ,Array.replicate_zero,List.push_toArray,List.append_toArray,List.nil_append,List.cons_append]
 gi_wp2_with (gi_at_call 89;refine stop ?_)
 unfold Stop
 refine(zeroQ_calls _).mono ?_
 rintro e w2 ⟨v2,rfl,hz,hB2⟩
 obtain⟨s1,p1,l1,d1,p2,l2,d2,rfl⟩:=qform hz
 obtain⟨W3,hW3⟩:∃W,W=w2.alloc (Obj.cells #[Value.bool s1,Value.slice p1 l1 d1,Value.bool false,Value.slice p2 l2 d2] 62):=⟨_,rfl⟩
 have hb3:Below w2.heap.size w2 W3:=by rw [hW3];exact alloc_below _ _
 have hc3:Cel W3 w2.heap.size 62 [Value.bool s1,Value.slice p1 l1 d1,Value.bool false,Value.slice p2 l2 d2]:=by rw [hW3];exact Cel.new _ _ _
 have hw3:=hB2.trans (hb3.mono hB2.size)
 have hlt1:w.heap.size≤w2.heap.size:=hB2.size
 obtain⟨g5,hg5⟩:∃g,w2.heap.size=g:=⟨_,rfl⟩
 have HS0:Hid (∃x0 x1 x2 x3,Cel W3 g5 62 [x0,x1,x2,x3]∧QAt W3 (.agg #[x0,x1,x2,x3]) (sumT a 0)):=Hid.intro ⟨_,_,_,_,by rw [←hg5];exact hc3,hz.below hb3⟩
 have HW3:=Hid.intro hw3
 gi_wp2
 rw [←hW3]
 rw [hg5]at hlt1
 try simp only [hg5]
 clear hb3 hc3 hw3 hB2 hz hW3 hg5
 gi_loopw [4] (fun x4 wr=>∃i:Nat,x4 = .int .i64 (i:Int)∧i≤n∧Hid (∀j,j<i→fineB (a.getD j 0)=true)∧Hid (∃x0 x1 x2 x3,Cel wr g5 62 [x0,x1,x2,x3]∧QAt wr (.agg #[x0,x1,x2,x3]) (sumT a i))∧Hid (Below w.heap.size w wr)) (fun x _=>n-(intOf x).toNat)
 case atStart=>exact⟨0,rfl,by omega,Hid.intro (fun j hj=>by omega),HS0,HW3⟩
 case round=>
  obtain⟨i,rfl,hi,HFi,HSi,HBi⟩:=hrel
  clear HS0 HW3
  have HSL:Hid (RatLe (sumT a i) 100):=Hid.intro ((sumT_le fun j hj=>fine_le (HFi.out j hj)).mono (by omega))
  by_cases hin:i<n
  ·obtain⟨a0,c0,e0⟩:=HU.out.some9 (by rw [HLA.out];omega)
   injection e0 with e0 eL e1
   subst e0
   clear e1 eL
   have hra:=HU.out.below HBi.out (IQ.below HBi.out)
   have hai:=getD_at (a:=a) (i:=i) (by rw [HLA.out];exact hin)
   obtain⟨_,ra,hra1,hra2,hra3⟩:=hra.at9 hai
   obtain⟨s3,p3,l3,d3,p4,l4,d4,hfa⟩:=qform hra3
   have hrq:ra = [.bool s3,.slice p3 l3 d3,.bool false,.slice p4 l4 d4]:=by injection hfa with e;simpa using congrArg Array.toList e
   subst hrq
   have HRA2:=Hid.intro hra2
   have HRA3:=Hid.intro hra3
   have y0:wr.cell? (a0.add (i*4))=some (.bool s3):=by have:=hra2 0 _ rfl;rwa [Addr.add_zero']at this
   have y1:wr.cell? ⟨(a0.add (i*4)).block,(a0.add (i*4)).off+1,none⟩=some (.slice p3 l3 d3):=hra2 1 _ rfl
   have y2:wr.cell? ⟨(a0.add (i*4)).block,(a0.add (i*4)).off+2,none⟩=some (.bool false):=hra2 2 _ rfl
   have y3:wr.cell? ⟨(a0.add (i*4)).block,(a0.add (i*4)).off+3,none⟩=some (.slice p4 l4 d4):=hra2 3 _ rfl
   clear hra hai hra1 hra2 hra3 hfa
   gi_wp2_with (gi_at_call 108;refine stop ?_)
   unfold Stop
   refine(fineQ_calls wr _ (a.getD i 0) HRA3.out (HA.out i hin)).mono ?_
   rintro e w4 ⟨rfl,hB4⟩
   have HB4:=Hid.intro hB4
   clear hB4 y0 y1 y2 y3
   cases hfi:fineB (a.getD i 0)with
   | false=>
    have HRes:Hid (dsB a=false):=Hid.intro (by unfold dsB;rw [not_fine (by rw [HLA.out];exact hin) hfi];rfl)
    clear hfi
    gi_wp2
    all_goals (first|go_returns|go_ret|go_end0)
    rw [HRes.out]
    exact⟨rfl,HBi.out.trans (HB4.out.mono HBi.out.size)⟩
   | true=>
    have HF1:Hid (∀j,j<i+1→fineB (a.getD j 0)=true):=Hid.intro (fun j hj=>by
     rcases Nat.lt_or_ge j i with h|h
     ·exact HFi.out j h
     ·have:j=i:=by omega
      rw [this];exact hfi)
    have HL1:=Hid.intro (fine_le hfi)
    clear hfi
    gi_wp2
    have hbr:Below w4.heap.size w4 w4.drew:=drew_below w4
    have hbq:=HB4.out.trans (hbr.mono HB4.out.size)
    obtain⟨x0,x1,x2,x3,hcx,hqx⟩:=HSi.out
    have hcx':=hcx.below hbq
    have hqx':=hqx.below hbq
    have hra2:∀j x,[Value.bool s3,Value.slice p3 l3 d3,Value.bool false,Value.slice p4 l4 d4][j]? = some x→w4.drew.cell? ((a0.add (i*4)).add j)=some x:=fun j x hj=>
     (hbq.cell (World.block_lt_of_cell? _ _ (HRA2.out j x hj))).trans (HRA2.out j x hj)
    refine wpIn_region_ov (ro:=none) [5,6] [0,1,2,3,4,5,6] [0,0,0,6,14,31,63] follows rfl 28 rfl (by kernel_rfl) (by kernel_rfl) ?_
    refine OV.ldn _ lmQ hcx'.box.at9 rfl rfl rfl rfl rfl (by decide) rfl ?_
    refine OV.mv (v:=.slice (some a0) n cu) rfl rfl rfl rfl ?_
    refine OV.mv (v:=.int .i64 (i:Int)) rfl rfl rfl rfl ?_
    refine OV.idx itQ hin rfl rfl rfl rfl rfl ?_
    refine OV.ldn _ lmQ hra2 rfl rfl rfl rfl rfl (by decide) rfl ?_
    refine OV.call [.agg #[x0,x1,x2,x3],_] Tryz.func95 rfl namesOK rfl rfl rfl rfl rfl (plusQ_calls _ _ _ _ _ hqx' (IQ.below hbq _ _ HRA3.out) (HSL.out.mono (by omega)) (HL1.out.mono (by omega))) fun v2 w2' h2 hB2 => ?_
    obtain⟨s5,p5,l5,d5,p6,l6,d6,rfl⟩:=qform h2
    have hb12:=hbq.trans (hB2.mono hbq.size)
    obtain⟨w3',hrun,hc3,hT3,hB3,hO3⟩:=(hcx.below hb12).store4 (base:=w.heap.size) (x0:=.bool s5) (x1:=.slice p5 l5 d5) (x2:=.bool false) (x3:=.slice p6 l6 d6) (by kernel_rfl) hlt1 (by simp [Value.oneCell'])
    refine OV.st trivial hrun rfl rfl rfl rfl rfl ?_
    refine OV.done ?_
    have hq3:=IQ.touch hT3 rfl _ [.bool s5,.slice p5 l5 d5,.bool false,.slice p6 l6 d6] h2
    have HS3:Hid (∃x0 x1 x2 x3,Cel w3' g5 62 [x0,x1,x2,x3]∧QAt w3' (.agg #[x0,x1,x2,x3]) (sumT a (i+1))):=Hid.intro ⟨_,_,_,_,hc3,hq3⟩
    have HB3:=Hid.intro ((HBi.out.trans (hb12.mono HBi.out.size)).trans hB3)
    simp only [putAll,Go.Act.put,List.setIfInBounds_toArray,List.set_cons_succ,List.set_cons_zero]
    clear hrun hc3 hT3 hB3 hO3 hq3 hb12 h2 hB2 hqx hcx hra2 hbr hbq hcx' hqx'
    gi_wp2
    exact⟨⟨i+1,by go_num,by omega,HF1,HS3,HB3⟩,by simp only [intOf];omega⟩
  ·have hie:i=n:=by omega
   subst hie
   have HRes:Hid (dsB a=decide (sgnR (sumT a a.length-1)=0)):=Hid.intro (by unfold dsB;rw [all_fine (by rw [HLA.out];exact HFi.out)];rfl)
   gi_wp2
   have hbr:Below wr.heap.size wr wr.drew:=drew_below wr
   obtain⟨x0,x1,x2,x3,hcx,hqx⟩:=HSi.out
   refine wpIn_region_gs (ro:=none) [1,2] [0,1,2,3,4] [0,0,3,7,15] follows rfl 28 rfl (by kernel_rfl) (by kernel_rfl) ?_
   refine GS.ldn (p:=⟨g5,0,none⟩) [x0,x1,x2,x3] lmQ (hcx.below hbr).box.at9 rfl rfl rfl rfl rfl rfl (by decide) rfl ?_
   refine GS.call [] Tryz.func88 rfl namesOK rfl rfl rfl rfl rfl rfl (oneQ_calls _) fun v w2' h hB2 => ?_
   refine GS.call [.agg #[x0,x1,x2,x3],v] Tryz.func36 rfl namesOK rfl rfl rfl rfl rfl rfl (cmpQ_c ((hqx.below hbr).below hB2) h (HSL.out.mono (by omega)) one_le1) fun v w3' h3 hB3 => ?_
   subst h3
   refine GS.eql (b:=decide (sgnR (sumT a i-((1:Int):Rat))=0)) rfl rfl rfl rfl rfl rfl rfl ?_
   refine GS.asg (v:=.bool (decide (sgnR (sumT a i-((1:Int):Rat))=0))) rfl rfl rfl rfl rfl ?_
   refine GS.done ?_
   have HF:=Hid.intro ((HBi.out.trans (hbr.mono HBi.out.size)).trans ((hB2.trans (hB3.mono hB2.size)).mono (Nat.le_trans HBi.out.size hbr.size)))
   simp only [putAll,Go.Act.put,List.setIfInBounds_toArray,List.set_cons_succ,List.set_cons_zero]
   clear hbr hcx hqx h hB2 hB3
   gi_wp2
   all_goals (first|go_returns|go_ret|go_end0)
   rw [HRes.out,HLA.out,seven_one]
   exact⟨rfl,HF.out⟩
def tabW(m N:Nat)(A:Nat→Nat→Rat):List (List Rat):=(List.range m).map fun i=>rowW (A i) N
theorem tabW_at{m N:Nat}{A:Nat→Nat→Rat}{i:Nat}(h:i<m):(tabW m N A)[i]? = some (rowW (A i) N):=by simp [tabW,h]
theorem tabW_len(m N:Nat)(A:Nat→Nat→Rat):(tabW m N A).length=m:=by simp [tabW]
theorem tabW_snoc(m N:Nat)(A:Nat→Nat→Rat):tabW (m+1) N A=tabW m N A ++ [rowW (A m) N]:=by simp [tabW,List.range_succ]
theorem rowW_getD{a:Nat→Rat}{n i:Nat}(h:i<n):(rowW a n).getD i 0=a i:=by
 rw [List.getD_eq_getElem?_getD,rowW_at h];rfl
set_option maxRecDepth 100000 in
set_option maxHeartbeats 4000000 in
theorem turnedQ_calls(w:World)(v:Value)(n:Nat)(Q:Nat→Nat→Rat)(h:MatQ w v (tabW n n Q))(h0:0<n)(h9:n≤1000) :
  CallsIn Fence.wide 0 Tryz.prog 109 #[v] w fun e w'=>∃v',e = .returned v'∧MatQ w' v' (tabW n n fun i j=>Q j i)∧Below w.heap.size w w':=by
 obtain⟨a,c,rfl⟩:=RowIs.some9 h (by rw [tabW_len];exact h0)
 have HM:=Hid.intro h
 rw [tabW_len]at HM ⊢
 clear h
 refine callsIn_of_wp Tryz.func109 rfl trivial ?_ rfl
 simp only [Tryz.ntmps109,List.size_toArray,List.length_cons,List.length_nil,Nat.reduceAdd,Nat.reduceSub,Array.replicate_succ,Array.replicate_zero,List.push_toArray,List.append_toArray,List.nil_append,List.cons_append]
 obtain⟨_,row0,_,hcell0,u0,rfl,hu0⟩:=RowIs.at9 HM.out (tabW_at (A:=Q) h0)
 have z0:=hcell0 0 u0 rfl
 obtain⟨al0,cl0,rfl⟩:=RowIs.some9 hu0 (by rw [rowW_len];exact h0)
 rw [rowW_len]at z0
 rw [Nat.zero_mul,Addr.add_zero',Addr.add_zero']at z0
 have HZ0:=Hid.intro z0
 clear hcell0 hu0 z0
 gi_wp2
 gi_loopw [3,4] (fun x3 x4 wr=>∃i:Nat,x4 = .int .i64 (i:Int)∧i≤n∧Hid (OwnR wr w.heap.size 54 1 IRowQ x3 (tabW i n fun i j=>Q j i))∧Hid (Below w.heap.size w wr)) (fun _ x _=>n-(intOf x).toNat)
 case atStart=>exact⟨0,rfl,by omega,OwnR.nil _ _ _ _ _,Below.refl _ w⟩
 case round=>
  obtain⟨ws,hws⟩:∃ws,ws=wr:=⟨_,rfl⟩
  subst hws
  obtain⟨i,rfl,hi,HO,HBr⟩:=hrel
  obtain⟨oo,co,hof⟩:=HO.out.form
  rw [tabW_len]at hof
  subst hof
  have z0:ws.cell? a=some (.slice (some al0) n cl0):=(HBr.out.cell (World.block_lt_of_cell? _ _ HZ0.out)).trans HZ0.out
  by_cases hin:i<n
  ·gi_wp2
   clear z0
   gi_loopw [5,6] (fun x5 x6 wi=>∃j:Nat,x6 = .int .i64 (j:Int)∧j≤n∧Hid (OwnR wi ws.heap.size 62 4 IQ x5 (rowW (fun j=>Q j i) j))∧Hid (Below ws.heap.size ws wi)) (fun _ x _=>n-(intOf x).toNat)
   case atStart=>exact⟨0,rfl,by omega,OwnR.nil _ _ _ _ _,Below.refl _ ws⟩
   case round=>
    obtain⟨j,rfl,hj,HOi,HBi⟩:=hrel
    obtain⟨oi,ci,hif⟩:=HOi.out.form
    rw [rowW_len]at hif
    subst hif
    have HBw:=Hid.intro (HBr.out.trans (HBi.out.mono HBr.out.size))
    by_cases hjn:j<n
    ·obtain⟨_,row,_,hcell,u,rfl,hu⟩:=RowIs.at9 (RowIs.below HM.out HBw.out (IRowQ.below HBw.out)) (tabW_at (A:=Q) hjn)
     have x0:=hcell 0 u rfl
     rw [Addr.add_zero',Nat.mul_one]at x0
     obtain⟨al,cl,rfl⟩:=RowIs.some9 hu (by rw [rowW_len];omega)
     rw [rowW_len]at x0 hu
     obtain⟨_,rq,_,hcq,hq⟩:=RowIs.at9 hu (rowW_at (a:=Q j) hin)
     obtain⟨s3,p3,l3,d3,p4,l4,d4,hfa⟩:=qform hq
     have hrq:rq = [.bool s3,.slice p3 l3 d3,.bool false,.slice p4 l4 d4]:=by injection hfa with e;simpa using congrArg Array.toList e
     subst hrq
     have y0:wr.cell? (al.add (i*4))=some (.bool s3):=by have:=hcq 0 _ rfl;rwa [Addr.add_zero']at this
     have y1:wr.cell? ⟨(al.add (i*4)).block,(al.add (i*4)).off+1,none⟩=some (.slice p3 l3 d3):=hcq 1 _ rfl
     have y2:wr.cell? ⟨(al.add (i*4)).block,(al.add (i*4)).off+2,none⟩=some (.bool false):=hcq 2 _ rfl
     have y3:wr.cell? ⟨(al.add (i*4)).block,(al.add (i*4)).off+3,none⟩=some (.slice p4 l4 d4):=hcq 3 _ rfl
     have HRA:=Hid.intro hq
     clear hq hu hcell hcq hfa
     gi_wp2_with (gi_at_builtin;refine stop ?_)
     unfold Stop
     refine append_item (ty:=62) (sz:=4) (bytes:=64) ws wr rfl _ _ rfl Go.Num.u63 i34 i34z i34s i34b rfl (by decide) (by decide) (.slice oi j ci) (rowW (fun j=>Q j i) j) rfl HOi.out (Q j i) [.bool s3,.slice p3 l3 d3,.bool false,.slice p4 l4 d4] _ rfl rfl (by simp [Value.oneCell']) HRA.out (fun b r w1 w2 ht=>IQ.touch ht rfl b r) (by rw [rowW_len];omega) HBi.out ?_
     intro v5 w4 HO5 HB4 HT4 _
     rw [←rowW_succ (fun j=>Q j i) j]at HO5
     clear x0 y0 y1 y2 y3
     gi_wp2
     exact⟨⟨j+1,by go_num,by omega,HO5,HB4⟩,by simp only [intOf];omega⟩
    ·obtain rfl:j=n:=by omega
     have H3:=Hid.intro (HO.out.below HBi.out (IRowQ.below HBi.out))
     gi_wp2_with (gi_at_builtin;refine stop ?_)
     unfold Stop
     refine append_item (ty:=54) (sz:=1) (bytes:=24) w wr rfl _ _ rfl Go.Num.u54 i63 i63z i63s i63b rfl (by decide) (by decide) (.slice oo i co) (tabW i j fun i j=>Q j i) rfl H3.out (rowW (fun j=>Q j i) j) [.slice oi j ci] _ rfl rfl (by simp [Value.oneCell']) ⟨_,rfl,HOi.out.row (by rw [rowW_len];omega)⟩ (fun b r w1 w2 ht=>IRowQ.touch ht rfl (by decide) b r) (by rw [tabW_len];omega) HBw.out ?_
     intro v7 w5 HO7 HB5 HT5 _
     rw [←tabW_snoc i j fun i j=>Q j i]at HO7
     gi_wp2
     exact⟨⟨i+1,by go_num,by omega,HO7,HB5⟩,by simp only [intOf];omega⟩
  ·obtain rfl:i=n:=by omega
   gi_wp2
   all_goals (first|go_returns|go_ret|go_end0)
   exact⟨_,rfl,HO.out.row (by rw [tabW_len];omega),HBr.out⟩
theorem dotL_sum{a b:Nat→Rat}{n:Nat}:∀{i:Nat},i≤n→dotL (rowW a n) (rowW b n) i=sumQ (fun s=>a s*b s) i
 | 0,_=>rfl
 | i+1,h=>by
  show dotL (rowW a n) (rowW b n) i+(rowW a n).getD i 0*(rowW b n).getD i 0=sumQ (fun s=>a s*b s) i+a i*b i
  rw [dotL_sum (by omega),rowW_getD (by omega),rowW_getD (by omega)]
structure AftLe(Q:Nat→Nat→Rat)(f:Nat→Rat)(n k L:Nat):Prop where
 cm:∀i j,i<n→j<n→RatLe (Q i j) L
 cf:∀s j,s≤k→j<n→RatLe (aft Q n f s j) L
 cp:∀s i j,s≤k→i<n→j<n→RatLe (aft Q n f s i*Q i j) L
 cd:∀s i j,s≤k→i≤n→j<n→RatLe (sumQ (fun i=>aft Q n f s i*Q i j) i) L
set_option maxRecDepth 100000 in
set_option maxHeartbeats 4000000 in
theorem afterQ_calls(w:World)(v u:Value)(n k:Nat)(Q:Nat→Nat→Rat)(f:Nat→Rat)(h:MatQ w v (tabW n n Q))(hu:RowQ w u (rowW f n))(h0:0<n)(h9:n≤9)(hk:k≤1000)(hS:AftLe Q f n k 4700) :
  CallsIn Fence.wide 0 Tryz.prog 43 #[v,u,.int .i64 (k:Int)] w fun e w'=>∃v',e = .returned v'∧RowQ w' v' (rowW (aft Q n f k) n)∧Below w.heap.size w w':=by
 obtain⟨a,c,rfl⟩:=RowIs.some9 h (by rw [tabW_len];exact h0)
 have HM:=Hid.intro h
 have HU:=Hid.intro hu
 have HS:=Hid.intro hS
 rw [tabW_len]at HM ⊢
 obtain⟨ou,cu,rfl⟩:=RowIs.form9 hu
 rw [rowW_len]at HU ⊢
 clear h hu hS
 refine callsIn_of_wp Tryz.func43 rfl trivial ?_ rfl
 simp only [Tryz.ntmps43,List.size_toArray,List.length_cons,List.length_nil,Nat.reduceAdd,Nat.reduceSub,Array.replicate_succ,Array.replicate_zero,List.push_toArray,List.append_toArray,List.nil_append,List.cons_append]
 gi_wp2_with (gi_at_call 109;refine stop ?_)
 unfold Stop
 refine(turnedQ_calls w _ n Q HM.out h0 (by omega)).mono ?_
 rintro e w1 ⟨vt,rfl,ht,hB1⟩
 obtain⟨at',ct,rfl⟩:=RowIs.some9 ht (by rw [tabW_len];exact h0)
 have HT:=Hid.intro ht
 have HB1:=Hid.intro hB1
 rw [tabW_len]at HT ⊢
 have HF0:=Hid.intro (HU.out.below hB1 (IQ.below hB1))
 clear ht hB1 HU
 gi_wp2
 gi_loopw [1,8] (fun x1 x8 wr=>∃s:Nat,x8 = .int .i64 (s:Int)∧s≤k∧Hid (RowQ wr x1 (rowW (aft Q n f s) n))∧Hid (Below w1.heap.size w1 wr)) (fun _ x _=>k-(intOf x).toNat)
 case atStart=>exact⟨0,rfl,by omega,HF0,Below.refl _ w1⟩
 case round=>
  obtain⟨ws,hws⟩:∃ws,ws=wr:=⟨_,rfl⟩
  subst hws
  obtain⟨s,rfl,hs,HF,HBr⟩:=hrel
  clear HF0
  obtain⟨of,cf,hff⟩:=RowIs.form9 HF.out
  rw [rowW_len]at hff
  subst hff
  by_cases hsk:s<k
  ·gi_wp2
   gi_loopw [9,10] (fun x9 x10 wi=>∃j:Nat,x10 = .int .i64 (j:Int)∧j≤n∧Hid (OwnR wi ws.heap.size 62 4 IQ x9 (rowW (aft Q n f (s+1)) j))∧Hid (Below ws.heap.size ws wi)) (fun _ x _=>n-(intOf x).toNat)
   case atStart=>exact⟨0,rfl,by omega,OwnR.nil _ _ _ _ _,Below.refl _ ws⟩
   case round=>
    obtain⟨j,rfl,hj,HOi,HBi⟩:=hrel
    obtain⟨oi,ci,hif⟩:=HOi.out.form
    rw [rowW_len]at hif
    subst hif
    have HBw:=Hid.intro (HBr.out.trans (HBi.out.mono HBr.out.size))
    by_cases hjn:j<n
    ·obtain⟨_,row,_,hcell,u,rfl,hu⟩:=RowIs.at9 (RowIs.below HT.out HBw.out (IRowQ.below HBw.out)) (tabW_at (A:=fun i j=>Q j i) hjn)
     have x0:=hcell 0 u rfl
     rw [Addr.add_zero',Nat.mul_one]at x0
     obtain⟨al,cl,rfl⟩:=RowIs.some9 hu (by rw [rowW_len];omega)
     rw [rowW_len]at x0 hu
     have HR:=Hid.intro hu
     have HFw:=Hid.intro (RowIs.below HF.out HBi.out (IQ.below HBi.out))
     clear hu hcell
     gi_wp2_with (gi_at_call 110;refine stop ?_)
     unfold Stop
     clear x0
     refine(dotQ_calls wr _ _ (rowW (aft Q n f s) n) (rowW (fun i=>Q i j) n) n HFw.out HR.out (rowW_len _ _) (rowW_len _ _) (by omega) (fun i hi=>by rw [dotL_sum hi];exact HS.out.cd s i j (by omega) hi hjn) (fun i hi=>by
      rw [rowW_getD hi,rowW_getD hi]
      exact⟨HS.out.cf s i (by omega) hi,HS.out.cm i j hi hjn,HS.out.cp s i j (by omega) hi hjn⟩)).mono ?_
     rintro e w4 ⟨v4,rfl,hq4,hB4⟩
     rw [dotL_sum (Nat.le_refl n)]at hq4
     have hq4:QAt w4 v4 (aft Q n f (s+1) j):=hq4
     obtain⟨s3,p3,l3,d3,p4,l4,d4,rfl⟩:=qform hq4
     have HQ4:=Hid.intro hq4
     have HO4:=Hid.intro (HOi.out.below hB4 (IQ.below hB4))
     have HB4:=Hid.intro (HBi.out.trans (hB4.mono HBi.out.size))
     clear hq4 hB4
     gi_wp2_with (gi_at_builtin;refine stop ?_)
     unfold Stop
     refine append_item (ty:=62) (sz:=4) (bytes:=64) ws w4 rfl _ _ rfl Go.Num.u63 i34 i34z i34s i34b rfl (by decide) (by decide) (.slice oi j ci) (rowW (aft Q n f (s+1)) j) rfl HO4.out (aft Q n f (s+1) j) [.bool s3,.slice p3 l3 d3,.bool false,.slice p4 l4 d4] _ rfl rfl (by simp [Value.oneCell']) HQ4.out (fun b r w1 w2 ht=>IQ.touch ht rfl b r) (by rw [rowW_len];omega) HB4.out ?_
     intro v5 w5 HO5 HB5 HT5 _
     rw [←rowW_succ (aft Q n f (s+1)) j]at HO5
     gi_wp2
     exact⟨⟨j+1,by go_num,by omega,HO5,HB5⟩,by simp only [intOf];omega⟩
    ·obtain rfl:j=n:=by omega
     have HN:Hid (RowQ wr (.slice oi j ci) (rowW (aft Q j f (s+1)) j)):=Hid.intro (HOi.out.row (by rw [rowW_len];omega))
     gi_wp2
     exact⟨⟨s+1,by go_num,by omega,HN,HBw⟩,by simp only [intOf];omega⟩
  ·obtain rfl:s=k:=by omega
   gi_wp2
   all_goals (first|go_returns|go_ret|go_end0)
   exact⟨_,rfl,HF.out,HB1.out.trans (HBr.out.mono HB1.out.size)⟩
theorem aft_le{Q:Nat→Nat→Rat}{f:Nat→Rat}{n k D0 c0 D L:Nat}(hf:∀i,i<n→Fr D0 c0 (f i))(hm:∀i j,i<n→j<n→Fr D 1 (Q i j))(h0:0<D0)(hD:0<D)(hn:0<n)(hc:0<c0)(hL:c0*n^(k+1)*(D0*D^(k+1))<B^L):AftLe Q f n k L:=by
 have key:∀(s c M:Nat) (x:Rat),s≤k+1→Fr M c x→c≤c0*n^(k+1)→M≤D0*D^(k+1)→0<c0*n^(k+1)→RatLe x L:=fun s c M x hs hx h1 h2 h3=>by
  refine hx.le (Nat.lt_of_le_of_lt (Nat.mul_le_mul h1 h2) hL) (Nat.lt_of_le_of_lt ?_ hL)
  exact Nat.le_trans h2 (Nat.le_mul_of_pos_left _ h3)
 have hpos:0<c0*n^(k+1):=Nat.mul_pos hc (Nat.pow_pos hn)
 have hDs:∀s,s≤k+1→D0*D^s≤D0*D^(k+1):=fun s hs=>Nat.mul_le_mul_left _ (Nat.pow_le_pow_right hD hs)
 have hNs:∀s,s≤k+1→c0*n^s≤c0*n^(k+1):=fun s hs=>Nat.mul_le_mul_left _ (Nat.pow_le_pow_right hn hs)
 have hA:=fun s j hj=>aft_fr (k:=s) (j:=j) hf hm h0 hD hj
 have hP:∀s i j,i<n→j<n→Fr (D0*D^(s+1)) (c0*n^s) (aft Q n f s i*Q i j):=fun s i j hi hj=>by
  have:=(hA s i hi).mul (hm i j hi hj)
  rw [Nat.mul_one,Nat.mul_assoc,←Nat.pow_succ]at this
  exact this
 refine⟨fun i j hi hj=>key 0 1 D _ (by omega) (hm i j hi hj) (Nat.succ_le_of_lt hpos) ?_ hpos,fun s j hs hj=>key s _ _ _ (by omega) (hA s j hj) (hNs s (by omega)) (hDs s (by omega)) hpos,fun s i j hs hi hj=>key s _ _ _ (by omega) (hP s i j hi hj) (hNs s (by omega)) (hDs (s+1) (by omega)) hpos,fun s i j hs hi hj => ?_⟩
 ·calc D=D^1:=(Nat.pow_one D).symm
   _≤D^(k+1):=Nat.pow_le_pow_right hD (by omega)
   _≤D0*D^(k+1):=Nat.le_mul_of_pos_left _ h0
 ·refine key s (c0*n^(s+1)) (D0*D^(s+1)) _ (by omega) (Fr.sum (a:=c0*n^s) (Nat.mul_pos h0 (Nat.pow_pos hD)) (fun t ht=>hP s t j (by omega) hj) ?_) (hNs (s+1) (by omega)) (hDs (s+1) (by omega)) hpos
  rw [Nat.pow_succ,Nat.mul_left_comm,Nat.mul_comm i]
  exact Nat.mul_le_mul_left _ (Nat.mul_le_mul_left _ hi)
end Go.Num
namespace Go.Eng
open Go.RowKit Go.Num Go.Proofs Go.Proofs.YtepakfjilnpodaaGreatDoor
theorem GS.idx{K:World→Prop}{ks:List Nat}{P:Program}{nt:Nat}{ops:Array Oper}{bs bars r:List Nat}{i:Nat}{a:CAct}{ov:List (Tmp × Value)}{w:World}{Q:CAct→World→Prop}{gd:Option (Nat × Bool)}{t:TypeId}{x y:Operand}{p:Addr}{len cap k sz:Nat}{d:Tmp}{ty:TypeId}{ps:String}{af:Array Edge}(hI:ItemAt P t sz)(hk:k<len)(ho:ops[i]? = some {op:=.indexAddr t x y,dst:=some d,type:=ty,pos:=ps,after:=af,guard:=gd})(hg:GSt ops a ov true gd)(hb:bars.contains i=false)(hd:Nat.blt d nt=true)
  (hx:Go.Eng.look a ov x = .slice (some p) len cap) (hy:Go.Eng.look a ov y = .int .i64 (k:Int)) (h:GS K ks P nt ops bs bars Q r a ((d,.pointer (some (p.add (k*sz)))) :: ov) w):GS K ks P nt ops bs bars Q (i :: r) a ov w:=
 GS.read _ ho hg rfl hb hd (fun w' _=>by simp [execOp,hx,hy,hI p len cap k w' hk]) h
end Go.Eng
namespace Go.Num
open Go.Eng Go.Shelf Go.RowKit Go.Sort Go.Proofs Go.Proofs.YtepakfjilnpodaaGreatDoor
theorem itR9:ItemAt Tryz.prog 49 3:=itemAt_of Go.Num.u64 i25' i25s
theorem is_c{w:World}{u v:Value}{q:Rat}(hu:RatAt w u q)(hv:QAt w v q)(hq:RatLe q 20000)(htab:Pow10 w):CallsIn Fence.wide 0 Tryz.prog 28 #[u,v] w fun e w'=>∃v,e = .returned v∧v = .bool true∧Below w.heap.size w w':=
 (is_calls w u v q hu hv hq htab).mono (by rintro e w' ⟨rfl,hb⟩;exact⟨_,rfl,rfl,hb⟩)
set_option maxRecDepth 100000 in
set_option maxHeartbeats 4000000 in
theorem listW_calls(w:World)(u v:Value)(a:List Rat)(n:Nat)(hu:RowR w u a)(hv:RowQ w v a)(ha:a.length=n)(hn:n≤1000)(hA:∀i,i<n→RatLe (a.getD i 0) 20000)(htab:Pow10 w) :
  CallsIn Fence.wide 0 Tryz.prog 27 #[u,v] w fun e w'=>e = .returned (.bool true)∧Below w.heap.size w w':=by
 have HU:=Hid.intro hu
 have HV:=Hid.intro hv
 have HA:=Hid.intro hA
 have HT:=Hid.intro htab
 obtain⟨ou,cu,rfl⟩:=RowIs.form9 hu
 obtain⟨ov,cv,rfl⟩:=RowIs.form9 hv
 rw [ha]at HU HV ⊢
 have HLA:=Hid.intro ha
 clear hu hv hA htab ha
 refine callsIn_of_wp Tryz.func27 rfl trivial ?_ rfl
 simp only [Tryz.ntmps27,List.size_toArray,List.length_cons,List.length_nil,Nat.reduceAdd,Nat.reduceSub,Array.replicate_succ,Array.replicate_zero,List.push_toArray,List.append_toArray,List.nil_append,List.cons_append]
 gi_wp2
 gi_loopw [5] (fun x5 wr=>∃i:Nat,x5 = .int .i64 (i:Int)∧i≤n∧Hid (Below w.heap.size w wr)) (fun x _=>n-(intOf x).toNat)
 case atStart=>exact⟨0,rfl,by omega,Below.refl _ w⟩
 case round=>
  obtain⟨i,rfl,hi,HB⟩:=hrel
  by_cases hin:i<n
  ·obtain⟨a0,c0,e0⟩:=HU.out.some9 (by rw [HLA.out];omega)
   injection e0 with e0 eL e1
   subst e0
   obtain⟨b0,c0',e0⟩:=HV.out.some9 (by rw [HLA.out];omega)
   injection e0 with e0 eL2 e2
   subst e0
   clear e1 e2 eL eL2
   gi_wp2
   have hbr:Below wr.heap.size wr wr.drew:=drew_below wr
   have hbw:=HB.out.trans (hbr.mono HB.out.size)
   have hai:=getD_at (a:=a) (i:=i) (by rw [HLA.out];exact hin)
   obtain⟨_,ra,hra1,hra2,hra3⟩:=(RowIs.below HU.out hbw (IR.below hbw)).at9 hai
   obtain⟨_,rb,hrb1,hrb2,hrb3⟩:=(RowIs.below HV.out hbw (IQ.below hbw)).at9 hai
   refine wpIn_region_gs (ro:=none) [8] [0,1,2,3,4,5,6,7,8,9] [0,0,3,7,0,0,48,112,255,511] follows rfl 27 rfl (by kernel_rfl) (by kernel_rfl) ?_
   refine GS.mv (v:=.slice (some a0) n cu) rfl rfl rfl rfl rfl ?_
   refine GS.mv (v:=.int .i64 (i:Int)) rfl rfl rfl rfl rfl ?_
   refine GS.idx itR9 hin rfl rfl rfl rfl rfl rfl ?_
   refine GS.ldn ra lm27 hra2 rfl rfl rfl rfl rfl hra1 (by decide) rfl ?_
   refine GS.mv (v:=.slice (some b0) n cv) rfl rfl rfl rfl rfl ?_
   refine GS.mv (v:=.int .i64 (i:Int)) rfl rfl rfl rfl rfl ?_
   refine GS.idx itQ hin rfl rfl rfl rfl rfl rfl ?_
   refine GS.ldn rb lmQ hrb2 rfl rfl rfl rfl rfl hrb1 (by decide) rfl ?_
   refine GS.call [.agg ra.toArray,.agg rb.toArray] Tryz.func28 rfl namesOK rfl rfl rfl rfl rfl rfl (is_c hra3 hrb3 (HA.out i hin) (HT.out.below hbw)) fun v w2' h hB2 => ?_
   subst h
   refine GS.not (b:=true) rfl rfl rfl rfl rfl ?_
   refine GS.done ?_
   have HB3:=Hid.intro (hbw.trans (hB2.mono hbw.size))
   simp only [putAll,Go.Act.put,List.setIfInBounds_toArray,List.set_cons_succ,List.set_cons_zero]
   clear hbr hbw hai hra1 hra2 hra3 hrb1 hrb2 hrb3 hB2 HB
   gi_wp2
   exact⟨⟨i+1,by go_num,by omega,HB3⟩,by simp only [intOf];omega⟩
  ·gi_wp2
   all_goals (first|go_returns|go_ret|go_end0)
   exact⟨rfl,HB.out⟩
end Go.Num
namespace Go.Num
open Go.Eng Go.Shelf Go.RowKit Go.Sort Go.Proofs Go.Proofs.YtepakfjilnpodaaGreatDoor
theorem RatAt.form9{w:World}{v:Value}{q:Rat}(h:RatAt w v q):∃s o k c o2 k2 c2,v = .agg #[.bool s,.slice o k c,.slice o2 k2 c2]:=by
 obtain⟨o,k,c,o2,k2,c2,e⟩:=h.form
 exact⟨_,o,k,c,o2,k2,c2,e⟩
set_option maxRecDepth 100000 in
set_option maxHeartbeats 2000000 in
theorem long_calls(w:World)(v:Value)(q:Rat)(h:RatAt w v q)(hL:RatLe q 100000)(htab:Pow10 w) :
  CallsIn Fence.wide 0 Tryz.prog 172 #[v] w fun e w'=>e = .returned (.bool (!shortB q))∧Below w.heap.size w w':=by
 obtain⟨s1,o1,k1,c1,o2,k2,c2,rfl⟩:=RatAt.form9 h
 have HQ:=Hid.intro h
 have HL:=Hid.intro hL
 have HT:=Hid.intro htab
 obtain⟨sb,hsb⟩:∃b,shortB q=b:=⟨_,rfl⟩
 rw [hsb]
 have HSB:=Hid.intro hsb
 clear h hL htab hsb
 refine callsIn_of_wp Tryz.func172 rfl trivial ?_ rfl
 simp only [Tryz.ntmps172,List.size_toArray,List.length_cons,List.length_nil,Nat.reduceAdd,Nat.reduceSub,Array.replicate_succ,Array.replicate_zero,List.push_toArray,List.append_toArray,List.nil_append,List.cons_append]
 have hb:=alloc_below w (Obj.cells #[Value.bool s1,Value.slice o1 k1 c1,Value.slice o2 k2 c2] 27)
 have HB:=Hid.intro hb
 clear hb
 gi_wp2_with (gi_at_call 62;refine stop ?_)
 unfold Stop
 refine(isShort_calls _ _ q (HQ.out.below HB.out) HL.out (HT.out.below HB.out)).mono ?_
 rintro e w2 ⟨rfl,hB2⟩
 rw [HSB.out]
 have HB2:=Hid.intro (HB.out.trans (hB2.mono HB.out.size))
 clear hB2
 gi_wp2
 all_goals (first|go_returns|go_ret|go_end0)
 exact⟨rfl,HB2.out⟩
def firstLong(l:List Rat):Nat→Bool
 | 0=>false
 | n+1=>firstLong l n || !shortB (l.getD n 0)
set_option maxRecDepth 100000 in
set_option maxHeartbeats 4000000 in
theorem indexLong_calls(w:World)(v:Value)(l:List Rat)(n:Nat)(h:RowC w v l)(hn:l.length=n)(h9:n≤1000)(hL:∀i,i<n→RatLe (l.getD i 0) 100000)(htab:Pow10 w) :
  CallsIn Fence.wide 0 Tryz.prog 207 #[v,.func (.func 172) #[] #[]] w fun e w'=>∃z:Int,e = .returned (.int .i64 z)∧(0≤z↔firstLong l n=true)∧Below w.heap.size w w':=by
 have HR:=Hid.intro h
 have HL:=Hid.intro hL
 have HT:=Hid.intro htab
 have HN:=Hid.intro hn
 obtain⟨o,c,rfl,_,_⟩:=h
 rw [hn]at HR ⊢
 clear hL htab hn
 refine callsIn_of_wp Tryz.func207 rfl trivial ?_ rfl
 simp only [Tryz.ntmps207,List.size_toArray,List.length_cons,List.length_nil,Nat.reduceAdd,Nat.reduceSub,Array.replicate_succ,Array.replicate_zero,List.push_toArray,List.append_toArray,List.nil_append,List.cons_append]
 gi_wp2
 gi_loopw [8] (fun x8 wr=>∃i:Nat,x8 = .int .i64 (i:Int)∧i≤n∧Hid (firstLong l i=false)∧Hid (Below w.heap.size w wr)) (fun x _=>n-(intOf x).toNat)
 case atStart=>exact⟨0,rfl,by omega,Hid.intro rfl,Below.refl _ w⟩
 case round=>
  obtain⟨i,rfl,hi,HF,HB⟩:=hrel
  by_cases hin:i<n
  ·have hq:=getD_at (a:=l) (i:=i) (by rw [HN.out];exact hin)
   obtain⟨a,rfl,ha,sg,o3,k3,c3,o4,k4,c4,x0,x1,x2,hr⟩:=(HR.out.below HB.out).item hq
   have HRq:=Hid.intro hr
   clear hr hq ha
   gi_wp2_with (gi_at_call 172;refine stop ?_)
   unfold Stop
   refine(long_calls wr _ (l.getD i 0) HRq.out (HL.out i hin) (HT.out.below HB.out)).mono ?_
   rintro e w2 ⟨rfl,hB2⟩
   have HB2:=Hid.intro (HB.out.trans (hB2.mono HB.out.size))
   clear hB2 x0 x1 x2
   cases hs:shortB (l.getD i 0)with
   | false=>
    have HF1:Hid (firstLong l n=true):=Hid.intro (by
     have key:∀k,i<k→firstLong l k=true:=by
      intro k
      induction k with
      | zero=>intro h;omega
      | succ k ih=>
       intro h
       show(firstLong l k || !shortB (l.getD k 0))=true
       rcases Nat.lt_or_ge i k with q|q
       ·rw [ih q];rfl
       ·have:k=i:=by omega
        rw [this,hs];simp
     exact key n hin)
    clear hs
    gi_wp2
    all_goals (first|go_returns|go_ret|go_end0)
    exact⟨_,rfl,by rw [HF1.out];simp,HB2.out⟩
   | true=>
    have HF1:Hid (firstLong l (i+1)=false):=Hid.intro (by
     show(firstLong l i || !shortB (l.getD i 0))=false
     rw [HF.out,hs];rfl)
    clear hs
    gi_wp2
    exact⟨⟨i+1,by go_num,by omega,HF1,HB2⟩,by simp only [intOf];omega⟩
  ·obtain rfl:i=n:=by omega
   gi_wp2
   all_goals (first|go_returns|go_ret|go_end0)
   exact⟨_,rfl,by rw [HF.out];simp,HB.out⟩
end Go.Num
