/-
  'Period' of the reference. How long the chances after steps of a tame chain are; its rows are chances.
  Conditions: see each statement.
-/
import Derived.Test.YtepakfjilnpodaaGreatDoorRDBC
import Derived.Test.YtepakfjilnpodaaGreatDoorRDBD
import Derived.Test.YtepakfjilnpodaaGreatDoorRDAX
import Derived.Test.YtepakfjilnpodaaGreatDoorRDAV
namespace Go.Num
open Go.Eng Go.Shelf Go.RowKit Go.Sort Go.Proofs Go.Proofs.YtepakfjilnpodaaGreatDoor
def nxR(E:Nat→Nat→Bool)(W:Nat→Bool)(a b y:Nat):Bool:=((List.range a).any fun x=>W x && E x y) || (decide (y<b) && (W a && E a y))
section
variable {E:Nat→Nat→Bool} {W:Nat→Bool}
theorem nxR_zero(y:Nat):nxR E W 0 0 y=false:=by unfold nxR;simp
theorem nxR_turn{a n y:Nat}(h:y<n):nxR E W a n y=nxR E W (a+1) 0 y:=by
 unfold nxR
 rw [List.range_succ,List.any_append,decide_eq_true h,decide_eq_false (Nat.not_lt_zero y)]
 simp
theorem nxR_pass{a y:Nat}(h:W a=false):nxR E W a 0 y=nxR E W (a+1) 0 y:=by
 unfold nxR
 rw [List.range_succ,List.any_append,decide_eq_false (Nat.not_lt_zero y)]
 simp [h]
theorem nxR_next{a b y:Nat}(h:W a=true):nxR E W a (b+1) y=if y=b then(nxR E W a b b || E a b)else nxR E W a b y:=by
 unfold nxR
 by_cases e:y=b
 ·subst e
  rw [if_pos rfl,decide_eq_true (Nat.lt_succ_self y),decide_eq_false (Nat.lt_irrefl y)]
  simp [h]
 ·rw [if_neg e]
  by_cases e2:y<b
  ·rw [decide_eq_true e2,decide_eq_true (by omega)]
  ·rw [decide_eq_false e2,decide_eq_false (by omega)]
end
theorem nxR_wv{E:Nat→Nat→Bool}{n i s y:Nat}:nxR E (wv E n i s) n 0 y=wv E n i (s+1) y:=by
 unfold nxR
 rw [decide_eq_false (Nat.not_lt_zero y)]
 show _=(List.range n).any fun x=>wv E n i s x && E x y
 simp
theorem rp_le{E:Nat→Nat→Bool}{n i:Nat}:∀s,rp E n i s≤s
 | 0=>Nat.le_refl 0
 | s+1=>by
  have ih:=rp_le (E:=E) (n:=n) (i:=i) s
  show(bif wv E n i (s+1) i then Nat.gcd (rp E n i s) (s+1)else rp E n i s)≤s+1
  cases wv E n i (s+1) i
  ·exact Nat.le_succ_of_le ih
  ·exact Nat.le_of_dvd (by omega) (Nat.gcd_dvd_right _ _)
set_option maxRecDepth 100000 in
set_option maxHeartbeats 8000000 in
theorem rperiod_calls(w:World)(v:Value)(n i:Nat)(Q:Nat→Nat→Rat)(h:MatQ w v (tabW n n Q))(h0:0<n)(h9:n≤9)(hi:i<n)(hS:∀i j,i<n→j<n→RatLe (Q i j) 4700) :
  CallsIn Fence.wide 0 Tryz.prog 48 #[v,.int .i64 (i:Int)] w fun e w'=>e = .returned (.int .i64 ((rp (edP Q) n i (2*n*n):Nat):Int))∧Below w.heap.size w w':=by
 obtain⟨a,c,rfl⟩:=RowIs.some9 h (by rw [tabW_len];exact h0)
 have HM:=Hid.intro h
 rw [tabW_len]at HM ⊢
 have HS:=Hid.intro hS
 clear h hS
 obtain⟨K,hK⟩:∃K,2*n*n=K:=⟨_,rfl⟩
 have hKn:n=1∨n=2∨n=3∨n=4∨n=5∨n=6∨n=7∨n=8∨n=9:=by omega
 have hK9:K≤162:=by rw [←hK];rcases hKn with rfl|rfl|rfl|rfl|rfl|rfl|rfl|rfl|rfl <;> decide
 have hKi:wrap64 (2*(n:Int)*(n:Int))=(K:Int):=by rw [←hK];rcases hKn with rfl|rfl|rfl|rfl|rfl|rfl|rfl|rfl|rfl <;> (unfold wrap64;decide)
 rw [hK]
 have HK:=Hid.intro hK
 have HKi:=Hid.intro hKi
 clear hKn hK hKi
 refine callsIn_of_wp Tryz.func48 rfl trivial ?_ rfl
 simp only [Tryz.ntmps48,List.size_toArray,List.length_cons,List.length_nil,Nat.reduceAdd,Nat.reduceSub,Array.replicate_succ,Array.replicate_zero,List.push_toArray,List.append_toArray,List.nil_append,List.cons_append]
 gi_wp2_with (gi_at_make;refine stop ?_)
 unfold Stop
 refine wpListIn_make_full _ rfl _ _ _ rfl w.heap.size 4 Tryz.t4 _ 1 ul46 i4i i4z i4s _ _ _ _ n rfl rfl rfl rfl (by rw [i4b];omega) (by unfold maxLen;omega) (Nat.le_refl _) ?_
 intro W4 hown hgrow
 have hc8:Cel W4 w.heap.size 4 (bRow (fun _=>false) n):=made_b hown h0
 have hb4:Below w.heap.size w W4:=⟨hgrow.os,hgrow.tape,hgrow.output,hgrow.size,fun k hk=>hgrow.block k hk (by simp)⟩
 have z1:=hc8.cell (bRow_at (S:=fun _=>false) hi)
 have z2:=hc8.frozen i
 have hc9:Cel (W4.setCell ⟨w.heap.size,i,none⟩ (.bool true)) w.heap.size 4 (bRow (wv (edP Q) n i 0) n):=hc8.putB fun j _=>by
  show decide (j=i)=_
  by_cases e:j=i <;> simp [e]
 have hb9:Below w.heap.size w (W4.setCell ⟨w.heap.size,i,none⟩ (.bool true)):=hb4.setCell (Nat.le_refl _) _
 clear hown hgrow
 gi_wp2
 generalize W4.setCell ⟨w.heap.size,i,none⟩ (.bool true)=W5 at hc9 hb9 ⊢
 obtain⟨g6,hg6⟩:∃g,w.heap.size=g:=⟨_,rfl⟩
 rw [hg6]at hc9
 rw [hg6]
 have HC0:=Hid.intro hc9
 have HB0:=Hid.intro hb9
 have hgle:w.heap.size≤g6:=by omega
 clear hc8 hb4 z1 z2 hc9 hb9 hg6
 gi_loopw [6,7,8] (fun x6 x7 x8 wr=>∃(s ga:Nat),x8 = .int .i64 ((s:Int)+1)∧s≤K∧x6 = .slice (some ⟨ga,0,none⟩) n n∧x7 = .int .i64 ((rp (edP Q) n i s:Nat):Int)∧Hid (Cel wr ga 4 (bRow (wv (edP Q) n i s) n))∧Hid (Below w.heap.size w wr)) (fun _ _ x _=>K+1-(intOf x).toNat)
 case atStart=>exact⟨0,g6,rfl,by omega,rfl,rfl,HC0,HB0⟩
 case round=>
  obtain⟨ws,hws⟩:∃ws,ws=wr:=⟨_,rfl⟩
  subst hws
  obtain⟨s,ga,rfl,hs,rfl,rfl,HC,HB⟩:=hrel
  clear HC0 HB0
  have hrl:=rp_le (E:=edP Q) (n:=n) (i:=i) s
  obtain⟨rs,hrs⟩:∃rs,rp (edP Q) n i s=rs:=⟨_,rfl⟩
  rw [hrs]at hrl ⊢
  have HRs:=Hid.intro hrs
  clear hrs
  by_cases hsK:s<K
  ·have hcmp:(s:Int)+1≤wrap64 (2*(n:Int)*(n:Int)):=by rw [HKi.out];omega
   gi_wp2_with (gi_at_make;refine stop ?_)
   unfold Stop
   refine wpListIn_make_full _ rfl _ _ _ rfl ws.heap.size 4 Tryz.t4 _ 1 ul46 i4i i4z i4s _ _ _ _ n rfl rfl rfl rfl (by rw [i4b];omega) (by unfold maxLen;omega) (Nat.le_refl _) ?_
   intro W6 hown hgrow
   have hcn:Cel W6 ws.heap.size 4 (bRow (nxR (edP Q) (wv (edP Q) n i s) 0 0) n):=by
    rw [bRow_congr (g:=fun _=>false) fun j _=>nxR_zero j]
    exact made_b hown h0
   have hb6:Below ws.heap.size ws W6:=⟨hgrow.os,hgrow.tape,hgrow.output,hgrow.size,fun k hk=>hgrow.block k hk (by simp)⟩
   have HCa:=Hid.intro (HC.out.below hb6)
   obtain⟨gn,hgn⟩:∃g,ws.heap.size=g:=⟨_,rfl⟩
   have hga:ga≠gn:=by have:=HC.out.lt;omega
   have hgnle:ws.heap.size≤gn:=by omega
   have hgw:w.heap.size≤gn:=by have:=HB.out.size;omega
   rw [hgn]at hcn
   have HCN:=Hid.intro hcn
   have HB6:=Hid.intro (HB.out.trans (hb6.mono HB.out.size))
   rw [hgn]
   obtain⟨WV,hWV⟩:∃WV,wv (edP Q) n i s=WV:=⟨_,rfl⟩
   rw [hWV]at HCa HCN
   have HWV:=Hid.intro hWV
   clear hown hgrow hcn hb6 hgn hcmp HC HB hWV
   gi_wp2
   gi_loopw [10] (fun x10 wi=>∃ar:Nat,x10 = .int .i64 (ar:Int)∧ar≤n∧Hid (Cel wi ga 4 (bRow WV n))∧Hid (Cel wi gn 4 (bRow (nxR (edP Q) WV ar 0) n))∧Hid (Below w.heap.size w wi)) (fun x _=>n-(intOf x).toNat)
   case atStart=>exact⟨0,rfl,by omega,HCa,HCN,HB6⟩
   case round=>
    obtain⟨ar,rfl,har,HC1,HC2,HB⟩:=hrel
    clear HCa HCN HB6
    by_cases harn:ar<n
    ·gi_wp2
     gi_loopw [11] (fun x11 wi=>∃br:Nat,x11 = .int .i64 (br:Int)∧br≤n∧Hid (WV ar=false→br=0)∧Hid (Cel wi ga 4 (bRow WV n))∧Hid (Cel wi gn 4 (bRow (nxR (edP Q) WV ar br) n))∧Hid (Below w.heap.size w wi)) (fun x _=>n-(intOf x).toNat)
     case atStart=>exact⟨0,rfl,by omega,Hid.intro (fun _=>rfl),HC1,HC2,HB⟩
     case round=>
      obtain⟨br,rfl,hbr,HZ,HD1,HD2,HB'⟩:=hrel
      clear HC1 HC2 HB
      by_cases hbn:br<n
      ·have y1:=HD1.out.cell (bRow_at (S:=WV) harn)
       cases hw:WV ar with
       | false=>
        rw [hw]at y1
        have hb0:=HZ.out hw
        subst hb0
        have HDn:Hid (Cel wr gn 4 (bRow (nxR (edP Q) WV (ar+1) 0) n)):=Hid.intro (by
         rw [←bRow_congr fun y _=>nxR_pass (E:=edP Q) (y:=y) hw]
         exact HD2.out)
        clear hw
        gi_wp2
        exact⟨⟨ar+1,by go_num,by omega,HD1,HDn,HB'⟩,by simp only [intOf];omega⟩
       | true=>
        rw [hw]at y1
        have y2:=HD2.out.cell (bRow_at (S:=nxR (edP Q) WV ar br) hbn)
        have y3:=HD2.out.frozen br
        have key:∀(W:World) (z:Bool),Cel W gn 4 (bRow (nxR (edP Q) WV ar br) n)→(nxR (edP Q) WV ar br br || edP Q ar br)=z→Cel (W.setCell ⟨gn,br,none⟩ (.bool z)) gn 4 (bRow (nxR (edP Q) WV ar (br+1)) n):=fun W z hc hz=>hc.putB fun y _=>by
         rw [nxR_next hw,hz]
        have HKey:=Hid.intro key
        have hZ2:∀b:Nat,WV ar=false→b+1=0:=fun b e=>by rw [hw]at e;cases e
        have HZ2:=Hid.intro hZ2
        have y1b:=y1
        clear key hw hZ2
        cases h1:nxR (edP Q) WV ar br br with
        | true=>
         rw [h1]at y2
         have HN:=Hid.intro (HKey.out wr true HD2.out (by rw [h1];rfl))
         have HN1:=Hid.intro (HD1.out.eqB (w':=wr.setCell ⟨gn,br,none⟩ (.bool true)) (heap_setCell_other _ _ _ _ hga))
         clear h1
         gi_wp2
         exact⟨⟨br+1,by go_num,by omega,Hid.intro (fun e=>by cases e),HN1,HN,Hid.intro (HB'.out.setCell hgw _)⟩,by simp only [intOf];omega⟩
        | false=>
         rw [h1]at y2
         obtain⟨al,cl,s3,p3,l3,d3,p4,l4,d4,x0,u0,u1,u2,u3,hq⟩:=matQ_at (RowIs.below HM.out HB'.out (IRowQ.below HB'.out)) harn hbn
         have HQ:=Hid.intro hq
         have H1:=Hid.intro h1
         clear hq h1
         gi_wp2_with (gi_at_call 35;refine stop ?_)
         unfold Stop
         refine(sgnQ_c HQ.out (HS.out ar br harn hbn)).mono ?_
         rintro e w2 ⟨v2,rfl,rfl,hB2⟩
         have HE1:=Hid.intro (HD1.out.below hB2)
         have HE2:=Hid.intro (HD2.out.below hB2)
         have HB2:=Hid.intro (HB'.out.trans (hB2.mono HB'.out.size))
         have y5:=HE2.out.cell (bRow_at (S:=nxR (edP Q) WV ar br) hbn)
         have y6:=HE2.out.frozen br
         have HEd:Hid (edP Q ar br=decide (0<sgnR (Q ar br))):=Hid.intro rfl
         obtain⟨sg,hsg⟩:∃z,sgnR (Q ar br)=z:=⟨_,rfl⟩
         rw [hsg]at HEd ⊢
         have HN:=Hid.intro (HKey.out w2 (decide (0<sg)) HE2.out (by rw [H1.out,HEd.out];rfl))
         have HN1:=Hid.intro (HE1.out.eqB (w':=w2.setCell ⟨gn,br,none⟩ (.bool (decide (0<sg)))) (heap_setCell_other _ _ _ _ hga))
         clear hB2 HD1 HD2 HB' x0 u0 u1 u2 u3 hsg y1 y2 y3 y1b
         gi_wp2
         exact⟨⟨br+1,by go_num,by omega,Hid.intro (fun e=>by cases e),HN1,HN,Hid.intro (HB2.out.setCell hgw _)⟩,by simp only [intOf];omega⟩
      ·obtain rfl:n=br:=by omega
       have HDn:Hid (Cel wr gn 4 (bRow (nxR (edP Q) WV (ar+1) 0) n)):=Hid.intro (by
        rw [←bRow_congr fun y hy=>nxR_turn (E:=edP Q) (W:=WV) (a:=ar) hy]
        exact HD2.out)
       gi_wp2
       exact⟨⟨ar+1,by go_num,by omega,HD1,HDn,HB'⟩,by simp only [intOf];omega⟩
    ·obtain rfl:n=ar:=by omega
     have HCn:Hid (Cel wr gn 4 (bRow (wv (edP Q) n i (s+1)) n)):=Hid.intro (by
      rw [←bRow_congr (f:=nxR (edP Q) WV n 0) fun y _=>by rw [←HWV.out];exact nxR_wv]
      exact HC2.out)
     have y1:=HCn.out.cell (bRow_at (S:=wv (edP Q) n i (s+1)) hi)
     have HRe:Hid (rp (edP Q) n i (s+1)=bif wv (edP Q) n i (s+1) i then Nat.gcd rs (s+1)else rs):=Hid.intro (by rw [←HRs.out];rfl)
     cases hw:wv (edP Q) n i (s+1) i with
     | false=>
      rw [hw]at y1 HRe
      clear hw
      gi_wp2
      exact⟨⟨s+1,gn,by go_num,by omega,rfl,by rw [HRe.out];rfl,HCn,HB⟩,by simp only [intOf];omega⟩
     | true=>
      rw [hw]at y1 HRe
      clear hw
      gi_wp2_with (gi_at_call 114;refine stop ?_)
      unfold Stop
      have es:(s:Int)+1=((s+1:Nat):Int):=by omega
      rw [es]
      refine(gcd6_calls wr rs (s+1) (by omega) (by omega)).mono ?_
      rintro e w2 ⟨rfl,hB2⟩
      have HCm:=Hid.intro (HCn.out.below hB2)
      have HBm:=Hid.intro (HB.out.trans (hB2.mono HB.out.size))
      obtain⟨gd,hgd⟩:∃gd,Nat.gcd rs (s+1)=gd:=⟨_,rfl⟩
      rw [hgd]at HRe ⊢
      rw [←es]
      clear hB2 hgd es y1
      gi_wp2
      exact⟨⟨s+1,gn,by go_num,by omega,rfl,by rw [HRe.out];rfl,HCm,HBm⟩,by simp only [intOf];omega⟩
  ·have hcmp:¬((s:Int)+1≤wrap64 (2*(n:Int)*(n:Int))):=by rw [HKi.out];omega
   have HF:Hid (rp (edP Q) n i K=rs):=Hid.intro (by rw [←HRs.out,show s=K by omega])
   gi_wp2
   all_goals (first|go_returns|go_ret|go_end0)
   rw [HF.out]
   exact⟨rfl,HB.out⟩
theorem fine_fr{a b:Nat}(ha:a≤31)(hb0:0<b)(hb:b≤31):fineB (fr a b)=true:=by
 have h1:=(fr_small ha hb).1
 have h2:=(fr_small ha hb).2
 have e:(10:Nat)^(5+1)=1000000:=by decide
 unfold fineB SmallQ
 have h3:=nDigits_le 5 (fr a b).num.natAbs (by omega)
 have h4:=nDigits_le 5 (fr a b).den (by omega)
 rw [decide_eq_true (p:=_≤6) (by omega),decide_eq_true (p:=_≤6) (by omega)]
 have h5:0≤fr a b:=by
  rcases Nat.eq_zero_or_pos a with h|h
  ·subst h
   have:fr 0 b=0:=by unfold fr;simp [Rat.div_def]
   rw [this];exact Rat.le_refl
  ·exact Rat.le_of_lt (fr_pos h hb0)
 have h6:0≤sgnR (fr a b):=by
  have:=Rat.num_nonneg.2 h5
  unfold sgnR
  rw [if_neg (by omega)]
  split <;> decide
 simp [h6]
theorem sumT_rowW(f:Nat→Rat)(n:Nat):∀i,i≤n→sumT (rowW f n) i=sumQ f i
 | 0,_=>rfl
 | i+1,h=>by
  show sumT (rowW f n) i+(rowW f n).getD i 0=sumQ f i+f i
  rw [sumT_rowW f n i (by omega),rowW_getD (by omega)]
section
variable {len:Nat} {m:Nat→Nat} {z:Nat→Nat→Int} {n:Nat}
theorem tmQ_fine(h:0<n)(h5:n≤5){i k:Nat}(hk:k<n):fineB (tmQ len m z n i k)=true:=by
 have h1:=smF_pos (len:=len) (m:=m) (z:=z) (n:=n) i
 have h2:=smF_le (len:=len) (m:=m) (z:=z) h i
 have h3:=wtF_le (len:=len) (m:=m) (z:=z) h (i:=i) hk
 exact fine_fr (a:=wtF len m z n i k) (b:=smF len m z n i) (by omega) h1 (by omega)
theorem tmQ_ds(h:0<n)(h5:n≤5)(i:Nat):dsB (rowW (tmQ len m z n i) n)=true:=by
 unfold dsB
 rw [all_fine (fun j hj=>by rw [rowW_len]at hj;rw [rowW_getD hj];exact tmQ_fine h h5 hj),rowW_len,sumT_rowW _ n n (Nat.le_refl _),tmQ_sum h i,Rat.sub_self]
 rfl
theorem tmQ_good(h:0<n)(h5:n≤5):firstBad (tabW n n (tmQ len m z n)) n n=false:=by
 have key:∀k,k≤n→firstBad (tabW n n (tmQ len m z n)) n k=false:=by
  intro k
  induction k with
  | zero=>intro _;rfl
  | succ k ih=>
   intro hk
   show(firstBad _ n k || _)=false
   rw [ih (by omega),tabW_getD (by omega),rowW_len,tmQ_ds h h5]
   simp
 exact key n (Nat.le_refl n)
theorem tmQ_le(h:0<n)(h5:n≤5){i j:Nat}(hj:j<n):RatLe (tmQ len m z n i j) 1:=fine_le (tmQ_fine h h5 hj)
end
end Go.Num
