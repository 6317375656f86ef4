/-
  The law's 'tame'.
  Conditions: the tables lie in memory.
-/
import Derived.Test.YtepakfjilnpodaaGreatDoorRDAR
import Derived.Test.YtepakfjilnpodaaGreatDoorRDAW
namespace Go.Num
open Go.Eng Go.Shelf Go.RowKit Go.Sort Go.Proofs Go.Proofs.YtepakfjilnpodaaGreatDoor
structure ITabAt(w:World)(v:Value)(n:Nat)(rv:Nat→Value)(m:Nat→Nat)(z:Nat→Nat→Int):Prop where
 top:ReadAt w v n rv
 row:∀i,i<n→ReadAt w (rv i) (m i) fun j => .int .i64 (z i j)
def wRow(f:Nat→Nat)(n:Nat):List Value:=(List.range n).map fun k=>Value.int .i64 (f k:Int)
theorem wRow_at{f:Nat→Nat}{n k:Nat}(h:k<n):(wRow f n)[k]? = some (.int .i64 (f k:Int)):=by simp [wRow,h]
theorem u41w:Tryz.prog.underlying 41=some (.slice 54):=by kernel_rfl
theorem u120:Tryz.prog.underlying 120=some (.slice 2):=by kernel_rfl
theorem i2i:Tryz.prog.info? 2=some Tryz.t2:=by kernel_rfl
theorem i2z:Tryz.t2.zero=some (.int .i64 0):=by kernel_rfl
theorem i2s:Tryz.t2.size=1:=by kernel_rfl
theorem i2b:Tryz.t2.bytes=8:=by kernel_rfl
def tmN(len:Nat):Nat:=max 1 (min len 5)
theorem made_w{w:World}{base g n:Nat}(h:w.ownsRow base 2 1 (.slice (some ⟨g,0,none⟩) n n) n (madeCells (Value.int .i64 0).cells (n*1)).toList)(_h1:1≤n)(_h5:n≤5):Cel w g 2 (wRow (fun _=>0) n):=by
 rcases h.2 with⟨e,_⟩|⟨g',cap,cur,e,_,hh,_,_,hs,ht⟩
 ·cases e
 ·injection e with e _ ec
  injection e with e
  injection e with e
  subst e
  subst ec
  rw [Nat.mul_one]at hs ht
  rw [List.take_of_length_le (by rw [Array.length_toList,hs];exact Nat.le_refl _)]at ht
  have e2:(madeCells (Value.int .i64 0).cells (n*1)).toList=wRow (fun _=>0) n:=by
   rw [Nat.mul_one,show(Value.int .i64 0).cells=#[Value.int .i64 0]from rfl]
   unfold madeCells wRow
   rw [Array.toList_map,Array.toList_range]
   exact List.map_congr_left fun k _=>by simp [Nat.mod_one]
  unfold Cel
  rw [hh,←e2,Nat.mul_one,←ht]
theorem w14_run(z:Int):max 0 (wrap64 (wrap64 ((IntKind.u64.wrap z).tmod 14)-7))=(w14 z:Int):=by
 have:=u64_mod14 z
 rw [←w14_max]
 obtain⟨x,hx⟩:∃x,(IntKind.u64.wrap z).tmod 14=x:=⟨_,rfl⟩
 rw [hx]at this ⊢
 have e1:wrap64 x=x:=by unfold wrap64;omega
 have e2:wrap64 (x-7)=x-7:=by unfold wrap64;omega
 rw [e1,e2]
theorem wRow_set{f g:Nat→Nat}{n k v:Nat}(h:∀j,j<n→g j=if j=k then v else f j):(wRow f n).set k (.int .i64 (v:Int))=wRow g n:=by
 refine List.ext_getElem? fun j => ?_
 rw [List.getElem?_set]
 have hlen:(wRow f n).length=n:=by simp [wRow]
 rcases Nat.lt_or_ge j n with hj|hj
 ·rw [wRow_at (f:=f) hj,wRow_at (f:=g) hj,h j hj]
  by_cases hk:k=j
  ·subst hk
   rw [if_pos rfl,if_pos (by rw [hlen];exact hj),if_pos rfl]
  ·rw [if_neg hk,if_neg (fun e=>hk e.symm)]
 ·have e1:(wRow f n)[j]? = none:=List.getElem?_eq_none (by rw [hlen];exact hj)
  have e2:(wRow g n)[j]? = none:=List.getElem?_eq_none (by simp [wRow];exact hj)
  rw [e1,e2,hlen]
  by_cases hk:k=j
  ·rw [if_pos hk,if_neg (by omega)]
  ·rw [if_neg hk]
theorem Cel.put1{w:World}{g n k v:Nat}{ty:TypeId}{f f':Nat→Nat}(h:Cel w g ty (wRow f n))(hf:∀j,j<n→f' j=if j=k then v else f j):Cel (w.setCell ⟨g,k,none⟩ (.int .i64 (v:Int))) g ty (wRow f' n):=by
 have:=cel_set (o:=k) (.int .i64 (v:Int)) h
 unfold Cel
 rw [this,←wRow_set hf]
 simp
theorem wRow_congr{f g:Nat→Nat}{n:Nat}(h:∀j,j<n→f j=g j):wRow f n=wRow g n:=by
 unfold wRow
 exact List.map_congr_left fun k hk=>by rw [h k (List.mem_range.1 hk)]
set_option maxRecDepth 100000 in
set_option maxHeartbeats 4000000 in
theorem tame_calls(w:World)(v:Value)(len:Nat)(rv:Nat→Value)(m:Nat→Nat)(z:Nat→Nat→Int)(h:ITabAt w v len rv m z)(hL:Laid w) :
  CallsIn Fence.wide 0 Tryz.prog 20 #[v] w fun e w'=>∃v1 v2,e = .returned (.tuple #[v1,v2])∧MatQ w' v1 (tabW (tmN len) (tmN len) (tmQ len m z (tmN len)))∧MatR w' v2 (tabW (tmN len) (tmN len) (tmQ len m z (tmN len)))∧Below w.heap.size w w':=by
 have HT:=Hid.intro h
 have HL:=Hid.intro hL
 obtain⟨o,c,rfl,hlen,_⟩:=h.top
 clear h hL
 obtain⟨n,hn⟩:∃n,tmN len=n:=⟨_,rfl⟩
 have hn1:1≤n:=by unfold tmN at hn;omega
 have hn5:n≤5:=by unfold tmN at hn;omega
 have hmin:min (len:Int) 5=((min len 5:Nat):Int):=by omega
 have hmax:max 1 (min (len:Int) 5)=(n:Int):=by unfold tmN at hn;omega
 rw [hn]
 have HMX:=Hid.intro hmax
 clear hmin hmax
 refine callsIn_of_wp Tryz.func20 rfl trivial ?_ rfl
 simp only [Tryz.ntmps20,List.size_toArray,List.length_cons,List.length_nil,Nat.reduceAdd,Nat.reduceSub,Array.replicate_succ,Array.replicate_zero,List.push_toArray,List.append_toArray,List.nil_append,List.cons_append]
 obtain⟨T,hT⟩:∃T,tmQ len m z n=T:=⟨_,rfl⟩
 rw [hT]
 have HTQ:=Hid.intro hT
 clear hT
 gi_wp2
 rw [HMX.out]
 gi_loopw [5,6,7] (fun x5 x6 x7 wr=>∃i:Nat,x7 = .int .i64 (i:Int)∧i≤n∧Hid (OwnR wr w.heap.size 54 1 IRowQ x5 (tabW i n T))∧Hid (OwnR wr w.heap.size 49 1 IRowR x6 (tabW i n T))∧Hid (Below w.heap.size w wr)) (fun _ _ x _=>n-(intOf x).toNat)
 case atStart=>exact⟨0,rfl,by omega,OwnR.nil _ _ _ _ _,OwnR.nil _ _ _ _ _,Below.refl _ w⟩
 case round=>
  obtain⟨ws,hws⟩:∃ws,ws=wr:=⟨_,rfl⟩
  subst hws
  obtain⟨i,rfl,hi,HO5,HO6,HBr⟩:=hrel
  obtain⟨o5,c5,h5f⟩:=HO5.out.form
  rw [tabW_len]at h5f
  subst h5f
  obtain⟨o6,c6,h6f⟩:=HO6.out.form
  rw [tabW_len]at h6f
  subst h6f
  by_cases hin:i<n
  ·gi_wp2_with (gi_at_make;refine stop ?_)
   unfold Stop
   refine wpListIn_make_full _ rfl _ _ _ rfl ws.heap.size 2 Tryz.t2 _ 1 u120 i2i i2z i2s _ _ _ _ n rfl rfl rfl rfl (by rw [i2b];omega) (by unfold maxLen;omega) (Nat.le_refl _) ?_
   intro W4 hown hgrow
   have hc8:Cel W4 ws.heap.size 2 (wRow (fun _=>0) n):=made_w hown hn1 hn5
   have hb4:Below ws.heap.size ws W4:=⟨hgrow.os,hgrow.tape,hgrow.output,hgrow.size,fun k hk=>hgrow.block k hk (by simp)⟩
   obtain⟨g8,hg8⟩:∃g,ws.heap.size=g:=⟨_,rfl⟩
   have hg8le:ws.heap.size≤g8:=by omega
   rw [hg8]at hc8
   have HC8:=Hid.intro hc8
   have HB4:=Hid.intro hb4
   rw [hg8]
   clear hown hgrow hc8 hb4 hg8
   gi_wp2
   gi_loopw [9,10] (fun x9 x10 wi=>∃k:Nat,x10 = .int .i64 (k:Int)∧k≤n∧x9 = .int .i64 ((sumN (wt0 len m z i) k:Nat):Int)∧Hid (Cel wi g8 2 (wRow (fun k'=>if k'<k then wt0 len m z i k' else 0) n))∧Hid (Below ws.heap.size ws wi)) (fun _ x _=>n-(intOf x).toNat)
   case atStart=>exact⟨0,rfl,by omega,rfl,Hid.intro (by simpa using HC8.out),HB4⟩
   case round=>
    obtain⟨k,rfl,hk,rfl,HCk,HBk⟩:=hrel
    gi_step
    gi_step
    obtain⟨go,hgo⟩:∃b,decide (k<n∧i<len∧k<m i)=b:=⟨_,rfl⟩
    refine by_after (fun c0 e c' W=>W=wr∧(∃z26 z27 z28 z29 z30 z31 z32 z33 z34 z35 z36 z37 z38 z39 z40 z41 z42,c'=putAll c0 [(43,.bool go),(42,z42),(41,z41),(40,z40),(39,z39),(38,z38),(37,z37),(36,z36),(35,z35),(34,z34),(33,z33),(32,z32),(31,z31),(30,z30),(29,z29),(28,z28),(27,z27),(26,z26)])∧(go=true→e = .normal)∧(go=false→e = .exit 2)) ?cnd ?rest
    case cnd=>
     by_cases hkn:k<n
     ·by_cases hil:i<len
      ·obtain⟨o',c',e',_,htop⟩:=HT.out.top
       injection e' with e1 _ _
       subst e1
       obtain⟨a,rfl,ha,hca⟩:=htop (by omega)
       obtain⟨or',cr,er,hm9,_⟩:=HT.out.row i hil
       have hb:=(HBr.out.trans (HBk.out.mono HBr.out.size))
       have y0:wr.cell? (a.add i)=some (.slice or' (m i) cr):=by
        rw [←er]
        exact(hb.cell (p:=a.add i) (by rw [add_block];exact ha)).trans (hca i hil)
       clear er hca htop hb ha
       by_cases hkm:k<m i
       ·have e3:go=true:=by rw [←hgo];simp [hkn,hil,hkm]
        subst e3
        clear hgo
        gi_wp2
        simp only [putAll,Go.Act.put,List.setIfInBounds_toArray,List.set_cons_succ,List.set_cons_zero]
        exact⟨_,_,_,_,_,_,_,_,_,_,_,_,_,_,_,_,_,rfl⟩
       ·have e3:go=false:=by rw [←hgo];simp [hkn,hil,hkm]
        subst e3
        clear hgo
        gi_wp2
        simp only [putAll,Go.Act.put,List.setIfInBounds_toArray,List.set_cons_succ,List.set_cons_zero]
        exact⟨_,_,_,_,_,_,_,_,_,_,_,_,_,_,_,_,_,rfl⟩
      ·have e3:go=false:=by rw [←hgo];simp [hkn,hil]
       subst e3
       clear hgo
       gi_wp2
       simp only [putAll,Go.Act.put,List.setIfInBounds_toArray,List.set_cons_succ,List.set_cons_zero]
       exact⟨_,_,_,_,_,_,_,_,_,_,_,_,_,_,_,_,_,rfl⟩
     ·have e3:go=false:=by rw [←hgo];simp [hkn]
      subst e3
      clear hgo
      gi_wp2
      simp only [putAll,Go.Act.put,List.setIfInBounds_toArray,List.set_cons_succ,List.set_cons_zero]
      exact⟨_,_,_,_,_,_,_,_,_,_,_,_,_,_,_,_,_,rfl⟩
    case rest=>
     rintro e c' W ⟨rfl,⟨z26,z27,z28,z29,z30,z31,z32,z33,z34,z35,z36,z37,z38,z39,z40,z41,z42,rfl⟩,h1,h2⟩
     simp only [putAll,Go.Act.put,List.setIfInBounds_toArray,List.set_cons_succ,List.set_cons_zero]
     cases go with
     | true=>
      have hall:=of_decide_eq_true hgo
      obtain⟨hkn,hil,hkm⟩:=hall
      have h1:=h1 rfl
      subst h1
      clear h2 hgo
      obtain⟨o',c',e',_,htop⟩:=HT.out.top
      injection e' with e1 _ _
      subst e1
      obtain⟨a,rfl,ha,hca⟩:=htop (by omega)
      obtain⟨or',cr,er,hm9,hrow⟩:=HT.out.row i hil
      obtain⟨ar,rfl,har,hcr⟩:=hrow (by omega)
      have hb:=(HBr.out.trans (HBk.out.mono HBr.out.size))
      have y0:W.cell? (a.add i)=some (.slice (some ar) (m i) cr):=by
       rw [←er]
       exact(hb.cell (p:=a.add i) (by rw [add_block];exact ha)).trans (hca i hil)
      have y1:W.cell? (ar.add k)=some (.int .i64 (z i k)):=(hb.cell (p:=ar.add k) (by rw [add_block];exact har)).trans (hcr k hkm)
      have y2:=HCk.out.cell (wRow_at (f:=fun k'=>if k'<k then wt0 len m z i k' else 0) hkn)
      have y3:=HCk.out.frozen k
      clear er hca htop hb ha hrow har hcr
      gi_wp2
      rw [w14_run]
      have ew:w14 (z i k)=wt0 len m z i k:=by unfold wt0;rw [if_pos ⟨hil,hkm⟩]
      have hs1:sumN (wt0 len m z i) (k+1)=sumN (wt0 len m z i) k+wt0 len m z i k:=rfl
      have hs2:=sumN_le (f:=wt0 len m z i) (fun j=>wt0_le i j) (k+1)
      have hs3:wrap64 (((sumN (wt0 len m z i) k:Nat):Int)+(w14 (z i k):Int))=((sumN (wt0 len m z i) (k+1):Nat):Int):=by
       rw [hs1,ew]
       unfold wrap64
       omega
      refine⟨⟨k+1,by go_num,by omega,by rw [hs3],Hid.intro (HCk.out.put1 fun j _ => ?_),Hid.intro (HBk.out.setCell hg8le _)⟩,by simp only [intOf];omega⟩
      rw [ew]
      by_cases hj:j=k
      ·subst hj
       rw [if_pos (by omega),if_pos rfl]
      ·rw [if_neg hj]
       by_cases hjk:j<k
       ·rw [if_pos (by omega),if_pos hjk]
       ·rw [if_neg (by omega),if_neg hjk]
     | false=>
      have h2:=h2 rfl
      subst h2
      clear h1
      have hno:=of_decide_eq_false hgo
      have hz:∀j,k≤j→j<n→wt0 len m z i j=0:=fun j h1 h2=>by
       unfold wt0
       rw [if_neg (fun h=>hno ⟨by omega,h.1,by omega⟩)]
      have hsum:sumN (wt0 len m z i) k=sm0 len m z n i:=by
       have key:∀d,k+d≤n→sumN (wt0 len m z i) (k+d)=sumN (wt0 len m z i) k:=by
        intro d
        induction d with
        | zero=>intro _;rfl
        | succ d ih=>intro h;show sumN _ (k+d)+wt0 len m z i (k+d)=_;rw [ih (by omega),hz (k+d) (by omega) (by omega)];rfl
       have:=key (n-k) (by omega)
       rw [show k+(n-k)=n by omega]at this
       exact this.symm
      have hrow:wRow (fun k'=>if k'<k then wt0 len m z i k' else 0) n=wRow (wt0 len m z i) n:=wRow_congr fun j hj=>by
       by_cases hjk:j<k
       ·rw [if_pos hjk]
       ·rw [if_neg hjk,hz j (by omega) hj]
      rw [hsum]
      have HC9:Hid (Cel W g8 2 (wRow (wt0 len m z i) n)):=Hid.intro (by rw [←hrow];exact HCk.out)
      clear HCk hz hsum hrow hno hgo
      gi_step
      gi_step
      gi_step
      gi_step
      gi_step
      refine by_after (fun c0 e c' W'=>e = .normal∧(∃z67 z68 z69 z70 z71 z72 z73 z74,c'=putAll c0 [(9,.int .i64 ((smF len m z n i:Nat):Int)),(74,z74),(73,z73),(72,z72),(71,z71),(70,z70),(69,z69),(68,z68),(67,z67)])∧Hid (Cel W' g8 2 (wRow (wtF len m z n i) n))∧Hid (Below ws.heap.size ws W')) ?wts ?rest2
      case wts=>
       by_cases hs0:sm0 len m z n i=0
       ·have hk2:(i+1)%n<n:=Nat.mod_lt _ (by omega)
        have y2:=HC9.out.cell (wRow_at (f:=wt0 len m z i) hk2)
        have y3:=HC9.out.frozen ((i+1)%n)
        have hsm:smF len m z n i=1:=by unfold smF;rw [if_pos hs0]
        have hb1:((i:Int)+1)%(n:Int)<(n:Int):=Int.emod_lt_of_pos _ (by omega)
        have hb0:0≤((i:Int)+1)%(n:Int):=Int.emod_nonneg _ (by omega)
        have HS0:=Hid.intro hs0
        rw [hs0,hsm]
        clear hsm hs0
        gi_wp2
        refine⟨?_,Hid.intro ?_,Hid.intro (HBk.out.setCell hg8le _)⟩
        ·simp only [putAll,Go.Act.put,List.setIfInBounds_toArray,List.set_cons_succ,List.set_cons_zero]
         exact⟨_,_,_,_,_,_,_,_,rfl⟩
        ·refine HC9.out.put1 (v:=1) fun j hj => ?_
         unfold wtF
         rw [if_pos HS0.out]
         by_cases hjk:j=(i+1)%n
         ·rw [if_pos hjk,if_pos hjk]
         ·rw [if_neg hjk,if_neg hjk]
          have:=sumN_ge (f:=wt0 len m z i) hj
          have h0:sumN (wt0 len m z i) n=0:=HS0.out
          omega
       ·have HF:Hid (Cel W g8 2 (wRow (wtF len m z n i) n)):=Hid.intro (by
         rw [wRow_congr (g:=wt0 len m z i) fun j _=>by unfold wtF;rw [if_neg hs0]]
         exact HC9.out)
        have hsm:smF len m z n i=sm0 len m z n i:=by unfold smF;rw [if_neg hs0]
        rw [hsm]
        clear hsm
        gi_wp2
        simp only [putAll,Go.Act.put,List.setIfInBounds_toArray,List.set_cons_succ,List.set_cons_zero]
        exact⟨_,_,_,_,_,_,_,_,rfl⟩
      case rest2=>
       rintro e c' W2 ⟨rfl,⟨z67,z68,z69,z70,z71,z72,z73,z74,rfl⟩,HCw,HBw⟩
       simp only [putAll,Go.Act.put,List.setIfInBounds_toArray,List.set_cons_succ,List.set_cons_zero]
       have HS1:Hid (1≤smF len m z n i∧smF len m z n i≤30):=Hid.intro ⟨smF_pos i,Nat.le_trans (smF_le (by omega) i) (by omega)⟩
       clear HC9 HBk HC8 HB4
       gi_wp2
       gi_loopw [11,12,13] (fun x11 x12 x13 wi=>∃q:Nat,x13 = .int .i64 (q:Int)∧q≤n∧Hid (OwnR wi ws.heap.size 62 4 IQ x11 (rowW (T i) q))∧Hid (OwnR wi ws.heap.size 27 3 IR x12 (rowW (T i) q))∧Hid (Cel wi g8 2 (wRow (wtF len m z n i) n))∧Hid (Below ws.heap.size ws wi)) (fun _ _ x _=>n-(intOf x).toNat)
       case atStart=>exact⟨0,rfl,by omega,OwnR.nil _ _ _ _ _,OwnR.nil _ _ _ _ _,HCw,HBw⟩
       case round=>
        obtain⟨q,rfl,hq,HP,HR,HCw,HBq⟩:=hrel
        obtain⟨op,cp,hpf⟩:=HP.out.form
        rw [rowW_len]at hpf
        subst hpf
        obtain⟨oq,cq,hqf⟩:=HR.out.form
        rw [rowW_len]at hqf
        subst hqf
        by_cases hqn:q<n
        ·have y2:=HCw.out.cell (wRow_at (f:=wtF len m z n i) hqn)
         have hs:=HS1.out
         have hw5:=wtF_le (len:=len) (m:=m) (z:=z) (n:=n) (by omega) (i:=i) hqn
         obtain⟨st,hst⟩:∃s,smF len m z n i=s:=⟨_,rfl⟩
         obtain⟨wt,hwt⟩:∃s,wtF len m z n i q=s:=⟨_,rfl⟩
         rw [hst]at hs hw5
         rw [hwt]at hw5 y2
         have hTq:T i q=((wt:Int):Rat)/((st:Int):Rat):=by rw [←HTQ.out];unfold tmQ;rw [hst,hwt]
         have HTq:=Hid.intro hTq
         rw [hst]
         clear hTq hst hwt
         gi_wp2_with (gi_at_call 39;refine stop ?_)
         unfold Stop
         refine(frac_calls wr (wt:Int) (st:Int) (by omega) (by omega) (by omega) (by omega) (by omega)).mono ?_
         rintro e w4 ⟨v4,rfl,hq4,hB4⟩
         rw [←HTq.out]at hq4
         obtain⟨s3,p3,l3,d3,p4,l4,d4,rfl⟩:=qform hq4
         have HK4:Hid (Kept1 (T i q)=true):=Hid.intro (by
          rw [HTq.out]
          exact kept_le ((ratLe_rat (int_small (by omega) (by omega)) (int_small (by omega) (by omega))).mono (by decide)))
         obtain⟨W5,hW5⟩:∃W,W=w4.alloc (Obj.cells #[Value.bool s3,Value.slice p3 l3 d3,Value.bool false,Value.slice p4 l4 d4] 62):=⟨_,rfl⟩
         have hb5:Below w4.heap.size w4 W5:=by rw [hW5];exact alloc_below _ _
         have hc14:Cel W5 w4.heap.size 62 [Value.bool s3,Value.slice p3 l3 d3,Value.bool false,Value.slice p4 l4 d4]:=by rw [hW5];exact Cel.new _ _ _
         have hb45:=hB4.trans (hb5.mono hB4.size)
         have hne14:∀k,(Value.slice op q cp).ownBlock=some k→k≠w4.heap.size:=fun k hk e=>by
          have:=HP.out.lt hk
          have:=hB4.size
          omega
         have HP5:=Hid.intro (HP.out.below hb45 (IQ.below hb45))
         have HR5:=Hid.intro (HR.out.below hb45 (IR.below hb45))
         have HC5:=Hid.intro (HCw.out.below hb45)
         have HB5:=Hid.intro (HBq.out.trans (hb45.mono HBq.out.size))
         have HQ5:=Hid.intro (hq4.below hb5)
         have HC14:=Hid.intro hc14
         have HN14:=Hid.intro hne14
         obtain⟨g14,hg14⟩:∃g,w4.heap.size=g:=⟨_,rfl⟩
         rw [hg14]at HC14 HN14
         have b0:=HC14.out.cell (j:=0) rfl
         have b1:=HC14.out.cell (j:=1) rfl
         have b2:=HC14.out.cell (j:=2) rfl
         have b3:=HC14.out.cell (j:=3) rfl
         rw [hW5]at b0 b1 b2 b3
         clear hq4 hB4 hb5 hc14 hb45 hne14 y2 HP HR HCw HBq
         gi_wp2_with (gi_at_builtin;refine stop ?_)
         unfold Stop
         have hz5:g14+1=W5.heap.size:=by rw [hW5,←hg14];simp
         rw [←hW5]
         rw [hz5]
         clear b0 b1 b2 b3 hW5 hg14 hz5
         refine append_item (ty:=62) (sz:=4) (bytes:=64) ws W5 rfl _ _ rfl Go.Num.u63 i34 i34z i34s i34b rfl (by decide) (by decide) (.slice op q cp) (rowW (T i) q) rfl HP5.out (T i q) [.bool s3,.slice p3 l3 d3,.bool false,.slice p4 l4 d4] _ rfl rfl (by simp [Value.oneCell']) HQ5.out (fun b r w1 w2 ht=>IQ.touch ht rfl b r) (by rw [rowW_len];omega) HB5.out ?_
         intro v6 w6 HP6 HB6 HT6 HO6'
         rw [←rowW_succ (T i) q]at HP6
         have hk14:w6.heap[g14]? = W5.heap[g14]?:=HO6'.out g14 HC14.out.lt (fun e=>HN14.out g14 e.symm rfl)
         have HC14':=Hid.intro (HC14.out.eqB hk14)
         have HR6:=Hid.intro (HR5.out.touch HT6.out (by decide) (IR.touch HT6.out rfl))
         have HC6:Hid (Cel w6 g8 2 (wRow (wtF len m z n i) n)):=Hid.intro (HT6.out.2 g8 _ 2 _ HC5.out (by decide))
         have HQ6:=Hid.intro (IQ.touch HT6.out rfl _ [.bool s3,.slice p3 l3 d3,.bool false,.slice p4 l4 d4] HQ5.out)
         have b0:=HC14'.out.cell (j:=0) rfl
         have b1:=HC14'.out.cell (j:=1) rfl
         have b2:=HC14'.out.cell (j:=2) rfl
         have b3:=HC14'.out.cell (j:=3) rfl
         clear hk14 HC14 HR5 HC5 HQ5 HP5 HN14 HO6' HB5
         gi_wp2_with (gi_at_call 40;refine stop ?_)
         unfold Stop
         refine(rat_calls w6 _ _ HQ6.out HK4.out (HL.out.below (HBr.out.trans (HB6.out.mono HBr.out.size)))).mono ?_
         rintro e w7 ⟨v7,rfl,hr7,hB7⟩
         obtain⟨r3,p5,l5,d5,p6,l6,d6,rfl⟩:=RatAt.form9 hr7
         have HP7:=Hid.intro (HP6.out.below hB7 (IQ.below hB7))
         have HR7:=Hid.intro (HR6.out.below hB7 (IR.below hB7))
         have HC7:=Hid.intro (HC6.out.below hB7)
         have HB7:=Hid.intro (HB6.out.trans (hB7.mono HB6.out.size))
         have HV7:=Hid.intro hr7
         clear b0 b1 b2 b3 hr7 hB7 HC14' HR6 HC6 HQ6 HP6 HB6 HT6
         gi_wp2_with (gi_at_builtin;refine stop ?_)
         unfold Stop
         refine append_item (ty:=27) (sz:=3) (bytes:=56) ws w7 rfl _ _ rfl Go.Num.u64 i25' i25z i25s i25b rfl (by decide) (by decide) (.slice oq q cq) (rowW (T i) q) rfl HR7.out (T i q) [.bool r3,.slice p5 l5 d5,.slice p6 l6 d6] _ rfl rfl (by simp [Value.oneCell']) HV7.out (fun b r w1 w2 ht=>IR.touch ht rfl b r) (by rw [rowW_len];omega) HB7.out ?_
         intro v8 w8 HR8 HB8 HT8 _
         rw [←rowW_succ (T i) q]at HR8
         have HP8:=Hid.intro (HP7.out.touch HT8.out (by decide) (IQ.touch HT8.out rfl))
         have HC8':Hid (Cel w8 g8 2 (wRow (wtF len m z n i) n)):=Hid.intro (HT8.out.2 g8 _ 2 _ HC7.out (by decide))
         clear HP7 HR7 HC7 HB7 HV7 HT8
         gi_wp2
         exact⟨⟨q+1,by go_num,by omega,HP8,HR8,HC8',HB8⟩,by simp only [intOf];omega⟩
        ·obtain rfl:q=n:=by omega
         have H5:=Hid.intro (HO5.out.below HBq.out (IRowQ.below HBq.out))
         have H6:=Hid.intro (HO6.out.below HBq.out (IRowR.below HBq.out))
         have HB9:=Hid.intro (HBr.out.trans (HBq.out.mono HBr.out.size))
         gi_wp2_with (gi_at_builtin;refine stop ?_)
         unfold Stop
         refine append_item (ty:=54) (sz:=1) (bytes:=24) w wr rfl _ _ rfl u41w i63 i63z i63s i63b rfl (by decide) (by decide) (.slice o5 i c5) (tabW i q T) rfl H5.out (rowW (T i) q) [.slice op q cp] _ rfl rfl (by simp [Value.oneCell']) ⟨_,rfl,HP.out.row (by rw [rowW_len];omega)⟩ (fun b r w1 w2 ht=>IRowQ.touch ht rfl (by decide) b r) (by rw [tabW_len];omega) HB9.out ?_
         intro v9 w9 HO9 HB9' HT9 _
         rw [←tabW_snoc i q T]at HO9
         have H6':=Hid.intro (H6.out.touch HT9.out (by decide) (IRowR.touch HT9.out rfl (by decide)))
         have HRr:Hid (RowR w9 (.slice oq q cq) (rowW (T i) q)):=Hid.intro ((HR.out.row (by rw [rowW_len];omega)).touch HT9.out (by decide) (IR.touch HT9.out rfl))
         gi_wp2_with (gi_at_builtin;refine stop ?_)
         unfold Stop
         refine append_item (ty:=49) (sz:=1) (bytes:=24) w w9 rfl _ _ rfl Go.Num.u55 i64i i64z i64s i64b rfl (by decide) (by decide) (.slice o6 i c6) (tabW i q T) rfl H6'.out (rowW (T i) q) [.slice oq q cq] _ rfl rfl (by simp [Value.oneCell']) ⟨_,rfl,HRr.out⟩ (fun b r w1 w2 ht=>IRowR.touch ht rfl (by decide) b r) (by rw [tabW_len];omega) HB9'.out ?_
         intro v10 w10 HO10 HB10 HT10 _
         rw [←tabW_snoc i q T]at HO10
         have HO9':=Hid.intro (HO9.out.touch HT10.out (by decide) (IRowQ.touch HT10.out rfl (by decide)))
         gi_wp2
         exact⟨⟨i+1,by go_num,by omega,HO9',HO10,HB10⟩,by simp only [intOf];omega⟩
  ·obtain rfl:i=n:=by omega
   gi_wp2
   all_goals (first|go_returns|go_ret|go_end0)
   exact⟨_,_,rfl,HO5.out.row (by rw [tabW_len];omega),HO6.out.row (by rw [tabW_len];omega),HBr.out⟩
end Go.Num
