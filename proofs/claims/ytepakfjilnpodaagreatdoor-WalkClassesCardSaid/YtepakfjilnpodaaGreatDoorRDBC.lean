/-
  'After' of the program, with its errors. 'After' of the program. 'Classes' of the program and of the reference. 'Classes' of the reference. 
  Conditions: see each statement.
-/
import Derived.Test.YtepakfjilnpodaaGreatDoorRDAP
import Derived.Test.YtepakfjilnpodaaGreatDoorRDAV
import Derived.Test.YtepakfjilnpodaaGreatDoorRDAO
import Derived.Test.YtepakfjilnpodaaGreatDoorRDAY
import Derived.Test.YtepakfjilnpodaaGreatDoorRDAW
import Derived.Test.YtepakfjilnpodaaGreatDoorRDAZ
import Derived.Test.YtepakfjilnpodaaGreatDoorRDBB
import Derived.Test.YtepakfjilnpodaaGreatDoorRDAD
import Derived.Test.YtepakfjilnpodaaGreatDoorRDBA
namespace Go.Num
open Go.Eng Go.Shelf Go.RowKit Go.Sort Go.Proofs Go.Proofs.YtepakfjilnpodaaGreatDoor
end Go.Num
namespace Go.Num
open Go.Eng Go.Shelf Go.RowKit Go.Sort Go.Proofs Go.Proofs.YtepakfjilnpodaaGreatDoor
theorem three_at{w:World}{p:Addr}{a b c:Value}(h0:w.cell? p=some a)(h1:w.cell? ⟨p.block,p.off+1,none⟩=some b)(h2:w.cell? ⟨p.block,p.off+2,none⟩=some c):∀k v,[a,b,c][k]? = some v→w.cell? (p.add k)=some v
 | 0,v,h=>by injection h with h;rw [←h];exact h0
 | 1,v,h=>by injection h with h;rw [←h];exact h1
 | 2,v,h=>by injection h with h;rw [←h];exact h2
 | k+3,v,h=>by cases h
theorem mtC_at{w:World}{am:Addr}{n cm:Nat}{Q:Nat→Nat→Rat}(h:MtC w (.slice (some am) n cm) (tabW n n Q)){i j:Nat}(hi:i<n)(hj:j<n):∃ai ci s o1 k1 c1 o2 k2 c2,w.cell? (am.add i)=some (.slice (some ai) n ci)∧(∀k v,[Value.bool s,.slice o1 k1 c1,.slice o2 k2 c2][k]? = some v→w.cell? ((ai.add (j*3)).add k)=some v)∧RatAt w (.agg #[.bool s,.slice o1 k1 c1,.slice o2 k2 c2]) (Q i j):=by
 obtain⟨_,rv,⟨o,c,e,_,htop⟩,hrow⟩:=h
 injection e with e _ _
 subst e
 rw [tabW_len]at htop hrow
 obtain⟨a,e,_,hcell⟩:=htop (by omega)
 injection e with e
 subst e
 have hr:=hrow i hi
 rw [List.getD_eq_getElem?_getD,tabW_at hi]at hr
 obtain⟨oi,ci,e,_⟩:=id hr
 have e:rv i = .slice oi (rowW (Q i) n).length ci:=e
 rw [rowW_len]at e
 have hr:RowC w (rv i) (rowW (Q i) n):=hr
 rw [e]at hr
 obtain⟨ai,rfl,_,s,o1,k1,c1,o2,k2,c2,h0,h1,h2,hq⟩:=hr.item (rowW_at (a:=Q i) hj)
 exact⟨ai,ci,s,o1,k1,c1,o2,k2,c2,by rw [←e];exact hcell i hi,three_at h0 h1 h2,hq⟩
end Go.Num
namespace Go.Num
open Go.Eng Go.Shelf Go.RowKit Go.Sort Go.Proofs Go.Proofs.YtepakfjilnpodaaGreatDoor
end Go.Num
namespace Go.Num
open Go.Eng Go.Shelf Go.RowKit Go.Sort Go.Proofs Go.Proofs.YtepakfjilnpodaaGreatDoor
end Go.Num
namespace Go.Num
open Go.Eng Go.Shelf Go.RowKit Go.Sort Go.Proofs Go.Proofs.YtepakfjilnpodaaGreatDoor
theorem tabW_getD{n N:Nat}{Q:Nat→Nat→Rat}{i:Nat}(hi:i<n):(tabW n N Q).getD i []=rowW (Q i) N:=by
 rw [List.getD_eq_getElem?_getD,tabW_at hi];rfl
def lstN(L:Nat→Nat→Bool)(n i:Nat):Nat:=((List.range n).find? fun k=>L i k && L k i).getD 0
theorem clsL_filter(L:Nat→Nat→Bool)(i:Nat):∀n,clsL L i n=(List.range n).filter fun k=>L i k && L k i
 | 0=>rfl
 | n+1=>by
  rw [List.range_succ,List.filter_append,←clsL_filter L i n]
  show(bif L i n && L n i then clsL L i n ++ [n]else clsL L i n)=_
  cases h:(L i n && L n i) <;> simp [h]
theorem clsL_first{L:Nat→Nat→Bool}{n i:Nat}(hi:i<n)(hr:L i i=true):(clsL L i n)[0]? = some (lstN L n i):=by
 rw [clsL_filter,←List.head?_eq_getElem?,List.head?_filter]
 unfold lstN
 cases h:(List.range n).find? fun k=>L i k && L k i with
 | none=>
  have:=List.find?_eq_none.1 h i (List.mem_range.2 hi)
  simp [hr]at this
 | some k=>rfl
theorem lstN_is{L:Nat→Nat→Bool}{n i k:Nat}(hk:k<n)(h1:(L i k && L k i)=true)(h2:∀j,j<k→(L i j && L j i)=false):lstN L n i=k:=by
 unfold lstN
 have:(List.range n).find? (fun k=>L i k && L k i)=some k:=by
  rw [List.find?_range_eq_some]
  exact⟨h1,List.mem_range.2 hk,fun j hj=>by rw [h2 j hj];rfl⟩
 rw [this];rfl
theorem ldW_congr{E E':Nat→Nat→Bool}{n:Nat}(h:∀a b,a<n→b<n→E a b=E' a b):∀k,k≤n→∀a b,a<n→b<n→ldW E k a b=ldW E' k a b
 | 0,_,a,b,ha,hb=>h a b ha hb
 | k+1,hk,a,b,ha,hb=>by
  rw [ldW_step,ldW_step,ldW_congr h k (by omega) a b ha hb,ldW_congr h k (by omega) a k ha (by omega),ldW_congr h k (by omega) k b (by omega) hb]
theorem ldW_refl{E:Nat→Nat→Bool}{i:Nat}(h:E i i=true)(k:Nat):ldW E k i i=true:=ldW_mono h k
theorem edQ_refl(Q:Nat→Nat→Rat)(i:Nat):edQ Q i i=true:=by unfold edQ;simp
theorem edM_tab{n:Nat}{Q:Nat→Nat→Rat}{i j:Nat}(hi:i<n)(hj:j<n):edM (tabW n n Q) i j=edQ Q i j:=by
 unfold edM edQ
 rw [tabW_getD hi,rowW_getD hj]
theorem ChP.edq{w:World}{g n:Nat}{v:Value}{Q:Nat→Nat→Rat}(h:ChP w g v (fun a b=>a<n∧b<n) (ldW (edM (tabW n n Q)) n)):ChP w g v (fun a b=>a<n∧b<n) (ldW (edQ Q) n):=
 h.mono fun a b hd=>⟨hd,ldW_congr (fun _a _b ha hb=>edM_tab ha hb) n (Nat.le_refl n) a b hd.1 hd.2⟩
theorem openQ_calls(w:World)(v:Value)(n:Nat)(Q:Nat→Nat→Rat)(hm:MtC w v (tabW n n Q))(h1:1≤n)(h8:n≤8)(hb:firstBad (tabW n n Q) n n=false)(hQ:∀i j,i<n→j<n→RatLe (Q i j) 2000)(htab:Pow10 w) :
  CallsIn Fence.wide 0 Tryz.prog 103 #[v] w fun e w'=>∃g,e = .returned (.tuple #[.pointer (some ⟨g,0,none⟩),.int .i64 0])∧w.heap.size≤g∧ChP w' g v (fun a b=>a<n∧b<n) (ldW (edQ Q) n)∧Below w.heap.size w w':=by
 refine(open_calls w v (tabW n n Q) n hm (tabW_len n n Q) h1 h8 hb (fun i hi j hj => ?_) htab).mono ?_
 ·rw [tabW_getD hi]at hj ⊢
  rw [rowW_len]at hj
  rw [rowW_getD hj]
  exact(hQ i j hi hj).mono (by omega)
 ·rintro e w' ⟨g,rfl,hg,hc,hB⟩
  exact⟨g,rfl,hg,hc.edq,hB⟩
set_option maxRecDepth 100000 in
set_option maxHeartbeats 4000000 in
theorem classes_calls(w:World)(v:Value)(n:Nat)(Q:Nat→Nat→Rat)(hm:MtC w v (tabW n n Q))(h1:1≤n)(h8:n≤8)(hb:firstBad (tabW n n Q) n n=false)(hQ:∀i j,i<n→j<n→RatLe (Q i j) 2000)(htab:Pow10 w) :
  CallsIn Fence.wide 0 Tryz.prog 46 #[v] w fun e w'=>∃v1 v2,e = .returned (.tuple #[v1,v2,.int .i64 0])∧RowIs w' 3 1 IN v1 ((List.range n).map (lstN (ldW (edQ Q) n) n))∧RowIs w' 4 1 IB v2 ((List.range n).map fun i=>cloB (ldW (edQ Q) n) i n)∧Below w.heap.size w w':=by
 have HM:=Hid.intro hm
 have HT:=Hid.intro htab
 have HQ:=Hid.intro hQ
 have HFB:=Hid.intro hb
 obtain⟨_,rv,⟨om,cm,rfl,_,_⟩,_⟩:=hm
 rw [tabW_len]at HM ⊢
 clear htab hQ hb
 refine callsIn_of_wp Tryz.func46 rfl trivial ?_ rfl
 simp only [Tryz.ntmps46,List.size_toArray,List.length_cons,List.length_nil,Nat.reduceAdd,Nat.reduceSub,Array.replicate_succ,Array.replicate_zero,List.push_toArray,List.append_toArray,List.nil_append,List.cons_append]
 gi_wp2_with (gi_at_call 103;refine stop ?_)
 unfold Stop
 refine(openQ_calls w _ n Q HM.out h1 h8 HFB.out HQ.out HT.out).mono ?_
 rintro e w1 ⟨g,rfl,hg,hch,hB1⟩
 have HCH:=Hid.intro hch
 have HB1:=Hid.intro hB1
 clear hch hB1 hg
 obtain⟨L,hL⟩:∃L,ldW (edQ Q) n=L:=⟨_,rfl⟩
 rw [hL]at HCH
 have HL:=Hid.intro hL
 have hrf:∀i,i<n→L i i=true:=fun i _=>by rw [←hL];exact ldW_refl (edQ_refl Q i) n
 have HRF:=Hid.intro hrf
 clear hL hrf
 gi_wp2
 gi_loopw [7,8,20] (fun x7 x8 x20 wr=>∃i:Nat,x20 = .int .i64 (i:Int)∧i≤n∧Hid (OwnR wr w1.heap.size 3 1 IN x7 ((List.range i).map (lstN L n)))∧Hid (OwnR wr w1.heap.size 4 1 IB x8 ((List.range i).map fun i=>cloB L i n))∧Hid (Below w1.heap.size w1 wr)) (fun _ _ x _=>n-(intOf x).toNat)
 case atStart=>exact⟨0,rfl,by omega,OwnR.nil _ _ _ _ _,OwnR.nil _ _ _ _ _,Below.refl _ w1⟩
 case round=>
  obtain⟨i,rfl,hi,HO7,HO8,HB⟩:=hrel
  obtain⟨o7,c7,h7f⟩:=HO7.out.form
  rw [List.length_map,List.length_range]at h7f
  subst h7f
  obtain⟨o8,c8,h8f⟩:=HO8.out.form
  rw [List.length_map,List.length_range]at h8f
  subst h8f
  by_cases hin:i<n
  ·have HCr:=Hid.intro (HCH.out.below HB.out)
   gi_wp2_with (gi_at_call 112;refine stop ?_)
   unfold Stop
   refine(class_calls wr g n i om cm L HCr.out h8 hin).mono ?_
   rintro e w2 ⟨v2,rfl,hr2,hB2⟩
   have hf:=clsL_first hin (HRF.out i hin)
   have hpos:0<(clsL L i n).length:=(List.getElem?_eq_some_iff.1 hf).1
   obtain⟨a2,c2,rfl⟩:=RowIs.some9 hr2 hpos
   obtain⟨_,row,_,hcell,hrow⟩:=RowIs.at9 hr2 hf
   have hrow:row=_:=hrow
   subst hrow
   have y0:=hcell 0 _ rfl
   rw [Addr.add_zero',Nat.mul_one,Addr.add_zero']at y0
   have HO7':=Hid.intro (HO7.out.below hB2 (fun _ _ h=>h))
   have HO8':=Hid.intro (HO8.out.below hB2 (fun _ _ h=>h))
   have HC2:=Hid.intro (HCr.out.below hB2)
   have HB2:=Hid.intro (HB.out.trans (hB2.mono HB.out.size))
   have HPos:Hid (0<(clsL L i n).length):=Hid.intro hpos
   obtain⟨ln,hln⟩:∃ln,(clsL L i n).length=ln:=⟨_,rfl⟩
   rw [hln]at hpos ⊢
   clear hr2 hB2 hcell hf HO7 HO8 HCr hln
   gi_wp2_with (gi_at_builtin;refine stop ?_)
   unfold Stop
   refine append_item (ty:=3) (sz:=1) (bytes:=8) w1 w2 rfl _ _ rfl ul45 i3i i3z i3s i3b rfl (by decide) (by decide) (.slice o7 i c7) ((List.range i).map (lstN L n)) rfl HO7'.out (lstN L n i) [.int .i64 (lstN L n i:Int)] _ rfl rfl (by simp [Value.oneCell']) rfl (fun b r w1 w2 _ h=>h) (by rw [List.length_map,List.length_range];omega) HB2.out ?_
   intro v9 w9 HO9 HB9 HT9 _
   have HO9:Hid (OwnR w9 w1.heap.size 3 1 IN v9 ((List.range (i+1)).map (lstN L n))):=Hid.intro (by rw [List.range_succ,List.map_append];exact HO9.out)
   have HO8'':=Hid.intro (HO8'.out.touch HT9.out (by decide) (fun _ _ h=>h))
   have HC9:Hid (ChP w9 g (.slice om n cm) (fun a b=>a<n∧b<n) L):=Hid.intro (HC2.out.elim fun S h=>⟨S,HT9.out.2 g _ 133 _ h.1 (by decide),h.2⟩)
   clear HT9 HO7' HO8' HC2 y0
   gi_wp2_with (gi_at_call 113;refine stop ?_)
   unfold Stop
   refine(closed_calls w9 g n i om cm L HC9.out h8 hin).mono ?_
   rintro e w10 ⟨rfl,hB10⟩
   have HO9':=Hid.intro (HO9.out.below hB10 (fun _ _ h=>h))
   have HO10:=Hid.intro (HO8''.out.below hB10 (fun _ _ h=>h))
   have HB10:=Hid.intro (HB9.out.trans (hB10.mono HB9.out.size))
   clear hB10 HO9 HO8'' HC9 HB9
   gi_wp2_with (gi_at_builtin;refine stop ?_)
   unfold Stop
   refine append_item (ty:=4) (sz:=1) (bytes:=1) w1 w10 rfl _ _ rfl ul46 i4i i4z i4s i4b rfl (by decide) (by decide) (.slice o8 i c8) ((List.range i).map fun i=>cloB L i n) rfl HO10.out (cloB L i n) [.bool (cloB L i n)] _ rfl rfl (by simp [Value.oneCell']) rfl (fun b r w1 w2 _ h=>h) (by rw [List.length_map,List.length_range];omega) HB10.out ?_
   intro v11 w11 HO11 HB11 HT11 _
   have HO11:Hid (OwnR w11 w1.heap.size 4 1 IB v11 ((List.range (i+1)).map fun i=>cloB L i n)):=Hid.intro (by rw [List.range_succ,List.map_append];exact HO11.out)
   have HO12:=Hid.intro (HO9'.out.touch HT11.out (by decide) (fun _ _ h=>h))
   clear HT11 HO9' HO10
   gi_wp2
   exact⟨⟨i+1,by go_num,by omega,HO12,HO11,HB11⟩,by simp only [intOf];omega⟩
  ·obtain rfl:n=i:=by omega
   gi_wp2
   all_goals (first|go_returns|go_ret|go_end0)
   rw [HL.out]
   exact⟨_,_,rfl,HO7.out.row (by rw [List.length_map,List.length_range];omega),HO8.out.row (by rw [List.length_map,List.length_range];omega),HB1.out.trans (HB.out.mono HB1.out.size)⟩
theorem cloB_step(L:Nat→Nat→Bool)(i k:Nat):cloB L i (k+1)=(cloB L i k && (!L i k || L k i)):=by
 show(cloB L i k && !(L i k && !L k i))=_
 cases L i k <;> cases L k i <;> simp
set_option maxRecDepth 100000 in
set_option maxHeartbeats 4000000 in
theorem rclasses_calls(w:World)(v:Value)(n:Nat)(Q:Nat→Nat→Rat)(h:MatQ w v (tabW n n Q))(h0:0<n)(h9:n≤9)(hS:∀i j,i<n→j<n→RatLe (Q i j) 4700) :
  CallsIn Fence.wide 0 Tryz.prog 21 #[v] w fun e w'=>∃v1 v2,e = .returned (.tuple #[v1,v2])∧RowIs w' 3 1 IN v1 ((List.range n).map (lstN (ldW (edQ Q) n) n))∧RowIs w' 4 1 IB v2 ((List.range n).map fun i=>cloB (ldW (edQ Q) n) i n)∧Below w.heap.size w w':=by
 obtain⟨a,c,rfl⟩:=RowIs.some9 h (by rw [tabW_len];exact h0)
 have HM:=Hid.intro h
 rw [tabW_len]at HM ⊢
 have HS:=Hid.intro hS
 clear h hS
 refine callsIn_of_wp Tryz.func21 rfl trivial ?_ rfl
 simp only [Tryz.ntmps21,List.size_toArray,List.length_cons,List.length_nil,Nat.reduceAdd,Nat.reduceSub,Array.replicate_succ,Array.replicate_zero,List.push_toArray,List.append_toArray,List.nil_append,List.cons_append]
 gi_wp2_with (gi_at_call 76;refine stop ?_)
 unfold Stop
 refine(leads_calls w _ n Q HM.out h0 h9 HS.out).mono ?_
 rintro e w1 ⟨v1,rfl,ht,hB1⟩
 obtain⟨L,hL⟩:∃L,ldW (edQ Q) n=L:=⟨_,rfl⟩
 rw [hL]at ht
 obtain⟨al,cl,rfl,hal,hrows⟩:=ht
 have HLr:Hid (∀W,Below w1.heap.size w1 W→∀i,i<n→∃ai ci,W.cell? (al.add i)=some (.slice (some ai) n ci)∧∀j,j<n→W.cell? (ai.add j)=some (.bool (L i j))):=Hid.intro fun W hW i hi=>by
  obtain⟨ai,ci,h1,h2,h3⟩:=hrows i hi
  exact⟨ai,ci,(hW.cell (p:=al.add i) (by rw [add_block];exact hal)).trans h1,fun j hj=>(hW.cell (p:=ai.add j) (by rw [add_block];exact h2)).trans (h3 j hj)⟩
 have HB1:=Hid.intro hB1
 have HL:=Hid.intro hL
 have hrf:∀i,i<n→L i i=true:=fun i _=>by rw [←hL];exact ldW_refl (edQ_refl Q i) n
 have HRF:=Hid.intro hrf
 clear hL hrf hB1 hrows
 gi_wp2
 gi_loopw [6,7,8] (fun x6 x7 x8 wr=>∃i:Nat,x8 = .int .i64 (i:Int)∧i≤n∧Hid (OwnR wr w1.heap.size 3 1 IN x6 ((List.range i).map (lstN L n)))∧Hid (OwnR wr w1.heap.size 4 1 IB x7 ((List.range i).map fun i=>cloB L i n))∧Hid (Below w1.heap.size w1 wr)) (fun _ _ x _=>n-(intOf x).toNat)
 case atStart=>exact⟨0,rfl,by omega,OwnR.nil _ _ _ _ _,OwnR.nil _ _ _ _ _,Below.refl _ w1⟩
 case round=>
  obtain⟨ws,hws⟩:∃ws,ws=wr:=⟨_,rfl⟩
  subst hws
  obtain⟨i,rfl,hi,HO6,HO7,HB⟩:=hrel
  obtain⟨o6,c6,h6f⟩:=HO6.out.form
  rw [List.length_map,List.length_range]at h6f
  subst h6f
  obtain⟨o7,c7,h7f⟩:=HO7.out.form
  rw [List.length_map,List.length_range]at h7f
  subst h7f
  by_cases hin:i<n
  ·gi_wp2
   gi_loopw [9] (fun x9 wi=>∃k:Nat,x9 = .int .i64 (k:Int)∧k≤i∧Hid (∀j,j<k→(L i j && L j i)=false)∧Hid (wi=ws)) (fun x _=>i-(intOf x).toNat)
   case atStart=>exact⟨0,rfl,by omega,Hid.intro (fun j hj=>by omega),Hid.intro rfl⟩
   case round=>
    obtain⟨k,rfl,hk,HN,HW⟩:=hrel
    have HWo:=HW.out
    subst HWo
    obtain⟨ai,ci,y0,u1⟩:=HLr.out _ HB.out i hin
    obtain⟨ak,ck,y2,u3⟩:=HLr.out _ HB.out k (by omega)
    have y1:=u1 k (by omega)
    have y3:=u3 i hin
    clear u1 u3
    have key:(L i k && L k i)=false→Hid (∀j,j<k+1→(L i j && L j i)=false)∧k+1≤i:=fun h=>by
     refine⟨Hid.intro fun j hj => ?_,?_⟩
     ·rcases Nat.lt_or_ge j k with q|q
      ·exact HN.out j q
      ·have:j=k:=by omega
       rw [this];exact h
     ·rcases Nat.lt_or_ge k i with q|q
      ·omega
      ·have:k=i:=by omega
       subst this
       rw [HRF.out k hin]at h
       cases h
    have HKey:=Hid.intro key
    clear key
    cases h1:L i k with
    | false=>
     rw [h1]at y1
     obtain⟨K1,K2⟩:=HKey.out (by rw [h1];rfl)
     clear h1
     gi_wp2
     exact⟨⟨k+1,by go_num,K2,K1,Hid.intro trivial⟩,by simp only [intOf];omega⟩
    | true=>
     rw [h1]at y1
     cases h2:L k i with
     | false=>
      rw [h2]at y3
      obtain⟨K1,K2⟩:=HKey.out (by rw [h1,h2];rfl)
      clear h1 h2
      gi_wp2
      exact⟨⟨k+1,by go_num,K2,K1,Hid.intro trivial⟩,by simp only [intOf];omega⟩
     | true=>
      rw [h2]at y3
      have HLk:Hid (lstN L n i=k):=Hid.intro (lstN_is (by omega) (by rw [h1,h2];rfl) HN.out)
      clear h1 h2 HKey
      gi_wp2_with (gi_at_builtin;refine stop ?_)
      unfold Stop
      refine append_item (ty:=3) (sz:=1) (bytes:=8) w1 wr rfl _ _ rfl ul45 i3i i3z i3s i3b rfl (by decide) (by decide) (.slice o6 i c6) ((List.range i).map (lstN L n)) rfl HO6.out k [.int .i64 (k:Int)] _ rfl rfl (by simp [Value.oneCell']) rfl (fun b r w1 w2 _ h=>h) (by rw [List.length_map,List.length_range];omega) HB.out ?_
      intro v9 w9 HO9 HB9 HT9 _
      have HO9:Hid (OwnR w9 w1.heap.size 3 1 IN v9 ((List.range (i+1)).map (lstN L n))):=Hid.intro (by rw [List.range_succ,List.map_append,List.map_cons,List.map_nil,HLk.out];exact HO9.out)
      have HO7':=Hid.intro (HO7.out.touch HT9.out (by decide) (fun _ _ h=>h))
      clear HT9 HLk y0 y1 y2 y3
      gi_wp2
      gi_loopw [10,11] (fun x10 x11 wi=>∃j:Nat,x11 = .int .i64 (j:Int)∧j≤n∧x10 = .bool (cloB L i j)∧Hid (wi=w9)) (fun _ x _=>n-(intOf x).toNat)
      case atStart=>exact⟨0,rfl,by omega,rfl,Hid.intro rfl⟩
      case round=>
       obtain⟨j,rfl,hj,rfl,HW⟩:=hrel
       have HWo:=HW.out
       subst HWo
       by_cases hjn:j<n
       ·obtain⟨ai,ci,y0,u1⟩:=HLr.out _ HB9.out i hin
        obtain⟨aj,cj,y2,u3⟩:=HLr.out _ HB9.out j hjn
        have y1:=u1 j hjn
        have y3:=u3 i hin
        clear u1 u3
        have HE:Hid (cloB L i (j+1)=(cloB L i j && (!L i j || L j i))):=Hid.intro (cloB_step L i j)
        obtain⟨cb,hcb⟩:∃cb,cloB L i j=cb:=⟨_,rfl⟩
        rw [hcb]at HE ⊢
        cases cb with
        | false=>
         clear hcb
         gi_wp2
         exact⟨⟨j+1,by go_num,by omega,by rw [HE.out];rfl,Hid.intro trivial⟩,by simp only [intOf];omega⟩
        | true=>
         cases h1:L i j with
         | false=>
          rw [h1]at y1 HE
          clear hcb h1
          gi_wp2
          exact⟨⟨j+1,by go_num,by omega,by rw [HE.out];rfl,Hid.intro trivial⟩,by simp only [intOf];omega⟩
         | true=>
          rw [h1]at y1 HE
          obtain⟨x,hx⟩:∃x,L j i=x:=⟨_,rfl⟩
          rw [hx]at y3 HE
          clear hcb h1 hx
          gi_wp2
          exact⟨⟨j+1,by go_num,by omega,by rw [HE.out];simp,Hid.intro trivial⟩,by simp only [intOf];omega⟩
       ·obtain rfl:n=j:=by omega
        gi_wp2_with (gi_at_builtin;refine stop ?_)
        unfold Stop
        refine append_item (ty:=4) (sz:=1) (bytes:=1) w1 wr rfl _ _ rfl ul46 i4i i4z i4s i4b rfl (by decide) (by decide) (.slice o7 i c7) ((List.range i).map fun i=>cloB L i n) rfl HO7'.out (cloB L i n) [.bool (cloB L i n)] _ rfl rfl (by simp [Value.oneCell']) rfl (fun b r w1 w2 _ h=>h) (by rw [List.length_map,List.length_range];omega) HB9.out ?_
        intro v11 w11 HO11 HB11 HT11 _
        have HO11:Hid (OwnR w11 w1.heap.size 4 1 IB v11 ((List.range (i+1)).map fun i=>cloB L i n)):=Hid.intro (by rw [List.range_succ,List.map_append];exact HO11.out)
        have HO12:=Hid.intro (HO9.out.touch HT11.out (by decide) (fun _ _ h=>h))
        clear HT11
        gi_wp2
        exact⟨⟨i+1,by go_num,by omega,HO12,HO11,HB11⟩,by simp only [intOf];omega⟩
  ·obtain rfl:n=i:=by omega
   gi_wp2
   all_goals (first|go_returns|go_ret|go_end0)
   rw [HL.out]
   exact⟨_,_,rfl,HO6.out.row (by rw [List.length_map,List.length_range];omega),HO7.out.row (by rw [List.length_map,List.length_range];omega),HB1.out.trans (HB.out.mono HB1.out.size)⟩
set_option maxRecDepth 100000 in
set_option maxHeartbeats 2000000 in
theorem isElem_calls(w:World)(g n:Nat)(o:Option Addr)(c:Nat)(i:Int)(h:w.cell? ⟨g,0,none⟩=some (.slice o n c)) :
  CallsIn Fence.wide 0 Tryz.prog 142 #[.pointer (some ⟨g,0,none⟩),.int .i64 i] w fun e w'=>e = .returned (.bool (decide (0≤i∧i<n)))∧w'=w:=by
 refine callsIn_of_wp Tryz.func142 rfl trivial ?_ rfl
 simp only [Tryz.ntmps142,List.size_toArray,List.length_cons,List.length_nil,Nat.reduceAdd,Nat.reduceSub,Array.replicate_succ,Array.replicate_zero,List.push_toArray,List.append_toArray,List.nil_append,List.cons_append]
 obtain⟨b,hb⟩:∃b,decide (0≤i∧i<(n:Int))=b:=⟨_,rfl⟩
 rw [hb]
 have HB:=Hid.intro hb
 clear hb
 by_cases h0:0≤i
 ·by_cases hn:i<(n:Int)
  ·have HV:Hid (b=true):=Hid.intro (by rw [←HB.out];exact decide_eq_true ⟨h0,hn⟩)
   gi_wp2
   all_goals (first|go_returns|go_ret|go_end0)
   exact⟨by rw [HV.out];rfl,rfl⟩
  ·have HV:Hid (b=false):=Hid.intro (by rw [←HB.out];exact decide_eq_false (fun h=>hn h.2))
   gi_wp2
   all_goals (first|go_returns|go_ret|go_end0)
   exact⟨by rw [HV.out];rfl,rfl⟩
 ·have HV:Hid (b=false):=Hid.intro (by rw [←HB.out];exact decide_eq_false (fun h=>h0 h.1))
  gi_wp2
  all_goals (first|go_returns|go_ret|go_end0)
  exact⟨by rw [HV.out];rfl,rfl⟩
def oaE(L:Nat→Nat→Bool)(n:Nat)(i:Int):Int:=if 0≤i∧i<n then(if cloB L i.toNat n=true then 0 else 61)else 1
set_option maxRecDepth 100000 in
set_option maxHeartbeats 4000000 in
theorem openAt_calls(w:World)(v:Value)(n:Nat)(Q:Nat→Nat→Rat)(i:Int)(hm:MtC w v (tabW n n Q))(h1:1≤n)(h8:n≤8)(hb:firstBad (tabW n n Q) n n=false)(hQ:∀i j,i<n→j<n→RatLe (Q i j) 2000)(htab:Pow10 w) :
  CallsIn Fence.wide 0 Tryz.prog 77 #[v,.int .i64 i] w fun e w'=>∃r,e = .returned (.tuple #[r,.int .i64 (oaE (ldW (edQ Q) n) n i)])∧(oaE (ldW (edQ Q) n) n i=0→∃g,r = .pointer (some ⟨g,0,none⟩)∧w.heap.size≤g∧ChP w' g v (fun a b=>a<n∧b<n) (ldW (edQ Q) n))∧Below w.heap.size w w':=by
 have HM:=Hid.intro hm
 have HT:=Hid.intro htab
 have HQ:=Hid.intro hQ
 have HFB:=Hid.intro hb
 obtain⟨_,rv,⟨om,cm,rfl,_,_⟩,_⟩:=hm
 rw [tabW_len]at HM ⊢
 clear htab hQ hb
 obtain⟨L,hL⟩:∃L,ldW (edQ Q) n=L:=⟨_,rfl⟩
 rw [hL]
 have HL:=Hid.intro hL
 obtain⟨E,hE⟩:∃E,oaE L n i=E:=⟨_,rfl⟩
 rw [hE]
 have HE:=Hid.intro hE
 clear hL hE
 refine callsIn_of_wp Tryz.func77 rfl trivial ?_ rfl
 simp only [Tryz.ntmps77,List.size_toArray,List.length_cons,List.length_nil,Nat.reduceAdd,Nat.reduceSub,Array.replicate_succ,Array.replicate_zero,List.push_toArray,List.append_toArray,List.nil_append,List.cons_append]
 gi_wp2_with (gi_at_call 103;refine stop ?_)
 unfold Stop
 refine(openQ_calls w _ n Q HM.out h1 h8 HFB.out HQ.out HT.out).mono ?_
 rintro e w1 ⟨g,rfl,hg,hch,hB1⟩
 rw [HL.out]at hch
 have HCH:=Hid.intro hch
 have HB1:=Hid.intro hB1
 have HG:=Hid.intro hg
 clear hch hB1 hg
 gi_wp2_with (gi_at_call 142;refine stop ?_)
 unfold Stop
 refine(isElem_calls w1 g n om cm i HCH.out.top).mono ?_
 rintro e w2 ⟨rfl,rfl⟩
 have hE:=HE.out
 unfold oaE at hE
 by_cases hi:0≤i∧i<(n:Int)
 ·rw [if_pos hi]at hE
  rw [decide_eq_true hi]
  obtain⟨k,rfl⟩:∃k:Nat,i=(k:Int):=⟨i.toNat,by omega⟩
  have hk:k<n:=by omega
  rw [Int.toNat_natCast]at hE
  have HE':=Hid.intro hE
  clear hE hi
  gi_wp2_with (gi_at_call 113;refine stop ?_)
  unfold Stop
  refine(closed_calls w2 g n k om cm L HCH.out h8 hk).mono ?_
  rintro e w3 ⟨rfl,hB3⟩
  have HC3:=Hid.intro (HCH.out.below hB3)
  have HB3:=Hid.intro (HB1.out.trans (hB3.mono HB1.out.size))
  clear hB3
  cases hc:cloB L k n with
  | true=>
   have HV:Hid (E=0):=Hid.intro (by rw [←HE'.out,hc];rfl)
   clear hc
   gi_wp2
   all_goals (first|go_returns|go_ret|go_end0)
   rw [HV.out]
   exact⟨_,rfl,fun _=>⟨g,rfl,HG.out,HC3.out⟩,HB3.out⟩
  | false=>
   have HV:Hid (E=61):=Hid.intro (by rw [←HE'.out,hc];rfl)
   clear hc
   gi_wp2
   all_goals (first|go_returns|go_ret|go_end0)
   rw [HV.out]
   exact⟨_,rfl,fun h=>absurd h (by decide),HB3.out⟩
 ·rw [if_neg hi]at hE
  rw [decide_eq_false hi]
  have HV:Hid (E=1):=Hid.intro hE.symm
  clear hE hi
  gi_wp2
  all_goals (first|go_returns|go_ret|go_end0)
  rw [HV.out]
  exact⟨_,rfl,fun h=>absurd h (by decide),HB1.out⟩
set_option maxRecDepth 100000 in
set_option maxHeartbeats 2000000 in
theorem gcd6_calls(w:World)(a b:Nat)(ha:a≤1000000)(hb:b≤1000000) :
  CallsIn Fence.wide 0 Tryz.prog 114 #[.int .i64 (a:Int),.int .i64 (b:Int)] w fun e w'=>e = .returned (.int .i64 ((Nat.gcd a b:Nat):Int))∧Below w.heap.size w w':=by
 obtain⟨d,hd⟩:∃d,Nat.gcd a b=d:=⟨_,rfl⟩
 rw [hd]
 have HD:=Hid.intro hd
 clear hd
 refine callsIn_of_wp Tryz.func114 rfl trivial ?_ rfl
 simp only [Tryz.ntmps114,List.size_toArray,List.length_cons,List.length_nil,Nat.reduceAdd,Nat.reduceSub,Array.replicate_succ,Array.replicate_zero,List.push_toArray,List.append_toArray,List.nil_append,List.cons_append]
 gi_wp2
 gi_loopw [0,1] (fun x0 x1 wr=>∃a b:Nat,x0 = .int .i64 (a:Int)∧x1 = .int .i64 (b:Int)∧a≤1000000∧b≤1000000∧Hid (Nat.gcd a b=d)∧Hid (Below w.heap.size w wr)) (fun _ x _=>(intOf x).toNat)
 case atStart=>exact⟨a,b,rfl,rfl,ha,hb,HD,Below.refl _ w⟩
 case round=>
  obtain⟨a,b,rfl,rfl,ha,hb,HG,HB⟩:=hrel
  by_cases h0:0<b
  ·have h0':(0:Int)<(b:Int):=by omega
   gi_wp2
   gi_region
   have HG2:Hid (Nat.gcd b (a%b)=d):=Hid.intro (by rw [←HG.out,Nat.gcd_comm a b,Nat.gcd_rec b a,Nat.gcd_comm])
   have hlt:=Nat.mod_lt a h0
   have hm:(a:Int)%(b:Int)=((a%b:Nat):Int):=(Int.natCast_emod a b).symm
   have HB2:=Hid.intro (HB.out.trans ((drew_below wr).mono HB.out.size))
   rw [hm]
   clear hm
   gi_wp2
   exact⟨⟨b,a%b,rfl,rfl,hb,by omega,HG2,HB2⟩,by simp only [intOf];omega⟩
  ·obtain rfl:b=0:=by omega
   have HA:Hid (a=d):=Hid.intro (by rw [←HG.out,Nat.gcd_zero_right])
   gi_wp2
   all_goals (first|go_returns|go_ret|go_end0)
   exact⟨by rw [HA.out];rfl,HB.out⟩
end Go.Num
namespace Go.Num
theorem nodup_len:∀(n:Nat) (l:List Nat),l.Nodup→(∀x∈l,x<n)→l.length≤n
 | 0,l,_,h=>by
  cases l with
  | nil=>exact Nat.le_refl 0
  | cons x r=>exact absurd (h x (by simp)) (by omega)
 | n+1,l,hd,h=>by
  have h1:=nodup_len n (l.erase n) (hd.erase n) fun x hx=>by
   have h2:=(hd.mem_erase_iff).1 hx
   have h3:=h x h2.2
   have:=h2.1
   omega
  rw [List.length_erase]at h1
  split at h1 <;> omega
theorem Way.nodes{E:Nat→Nat→Prop}{x z k:Nat}(h:Way E x z k):∃f:Nat→Nat,∀t,t≤k→Way E x (f t) t∧Way E (f t) z (k-t):=by
 induction h with
 | nil=>exact⟨fun _=>x,fun t ht=>by
   have:t=0:=by omega
   subst this
   exact⟨.nil x,.nil x⟩⟩
 | @snoc y z k h e ih=>
  obtain⟨f,hf⟩:=ih
  refine⟨fun t=>if t≤k then f t else z,fun t ht => ?_⟩
  show Way E x (if t≤k then f t else z) t∧Way E (if t≤k then f t else z) z (k+1-t)
  by_cases hk:t≤k
  ·rw [if_pos hk,show k+1-t=(k-t)+1 by omega]
   exact⟨(hf t hk).1,.snoc (hf t hk).2 e⟩
  ·have:t=k+1:=by omega
   subst this
   rw [if_neg hk,Nat.sub_self]
   exact⟨.snoc h e,.nil z⟩
theorem Way.lt{E:Nat→Nat→Bool}{n x z k:Nat}(h:Way (EdN E n) x z k)(hx:x<n):z<n:=by
 cases h with
 | nil=>exact hx
 | snoc _ e=>exact e.2.1
theorem Way.short{E:Nat→Nat→Bool}{n x z:Nat}(hx:x<n):∀k,Way (EdN E n) x z k→∃m,m<n∧Way (EdN E n) x z m:=by
 intro k
 induction k using Nat.strongRecOn with
 | _ k ih=>
  intro h
  rcases Nat.lt_or_ge k n with hk|hk
  ·exact⟨k,hk,h⟩
  ·obtain⟨f,hf⟩:=h.nodes
   have hnot:¬((List.range (k+1)).map f).Nodup:=fun hd=>by
    have:=nodup_len n _ hd fun y hy=>by
     obtain⟨t,ht,rfl⟩:=List.mem_map.1 hy
     exact(hf t (by have:=List.mem_range.1 ht;omega)).1.lt hx
    rw [List.length_map,List.length_range]at this
    omega
   obtain⟨s,t,hst,htk,hft⟩:∃s t,s<t∧t≤k∧f s=f t:=Classical.byContradiction fun hno=>by
    refine hnot (List.pairwise_iff_getElem.2 fun s t hs ht hst => ?_)
    rw [List.length_map,List.length_range]at hs ht
    simp only [List.getElem_map,List.getElem_range]
    exact fun e=>hno ⟨s,t,hst,by omega,e⟩
   have h1:=(hf s (by omega)).1.app (hft ▸ (hf t htk).2)
   exact ih (s+(k-t)) (by omega) h1
def dif(a b:Nat):Nat:=(a+1-b)+(b-a-1)
theorem dif_int(a b:Nat){d:Nat}:d∣dif a b↔(d:Int)∣(a:Int)+1-b:=by
 unfold dif
 rcases Nat.le_total b (a+1)with h|h
 ·have:((a+1-b+(b-a-1):Nat):Int)=(a:Int)+1-b:=by omega
  rw [←this,Int.natCast_dvd_natCast]
 ·have:((a+1-b+(b-a-1):Nat):Int) = -((a:Int)+1-b):=by omega
  rw [←Int.dvd_neg,←this,Int.natCast_dvd_natCast]
def lookI:List (Nat × Nat)→Nat→Option Nat
 | [],_=>none
 | p :: r,z=>if z=p.1 then some p.2 else lookI r z
theorem lookI_none{es:List (Nat × Nat)}{z:Nat}:lookI es z=none↔z∉es.map Prod.fst:=by
 induction es with
 | nil=>simp [lookI]
 | cons p r ih=>
  simp only [lookI,List.map_cons,List.mem_cons,not_or]
  by_cases h:z=p.1
  ·simp [h]
  ·simp [h,ih]
theorem lookI_app{es:List (Nat × Nat)}{y d z:Nat}:lookI (es ++ [(y,d)]) z=(lookI es z).or (if z=y then some d else none):=by
 induction es with
 | nil=>simp [lookI]
 | cons p r ih=>
  simp only [List.cons_append,lookI]
  by_cases h:z=p.1
  ·simp [h]
  ·simp [h,ih]
theorem lookI_mem{es:List (Nat × Nat)}{z d:Nat}(h:lookI es z=some d):(z,d)∈es:=by
 induction es with
 | nil=>simp [lookI]at h
 | cons p r ih=>
  simp only [lookI]at h
  by_cases hz:z=p.1
  ·rw [if_pos hz]at h
   injection h with h
   rw [hz,←h]
   simp
  ·rw [if_neg hz]at h
   simp [ih h]
structure PerI(E:Nat→Nat→Bool)(n i:Nat)(es:List (Nat × Nat))(pr q:List Nat)(D:Nat→Nat→Prop)(per:Nat):Prop where
 keys:es.map Prod.fst=pr ++ q
 nodup:(pr ++ q).Nodup
 lt:∀x∈pr ++ q,x<n
 root:lookI es i=some 0
 way:∀x d,lookI es x=some d→Way (EdN E n) i x d
 small:∀x d,lookI es x=some d→d<es.length
 dn:∀x y,D x y→EdN E n x y→∃dx dy,lookI es x=some dx∧lookI es y=some dy∧per∣dif dx dy
 only:∀c,(∀x y dx dy,lookI es x=some dx→lookI es y=some dy→EdN E n x y→c∣dif dx dy)→c∣per
section
variable {E:Nat→Nat→Bool} {n i:Nat} {es:List (Nat × Nat)} {pr q:List Nat} {D D':Nat→Nat→Prop} {per:Nat}
theorem PerI.start(hi:i<n):PerI E n i [(i,0)] [] [i] (fun _ _=>False) 0 where
 keys:=rfl
 nodup:=by simp
 lt:=by simpa using hi
 root:=by simp [lookI]
 way:=fun x d h=>by
  simp only [lookI]at h
  split at h
  ·rename_i e
   injection h with h
   rw [e,←h]
   exact .nil i
  ·cases h
 small:=fun x d h=>by
  simp only [lookI]at h
  split at h
  ·injection h with h
   rw [←h]
   exact Nat.zero_lt_one
  ·cases h
 dn:=fun _ _ h=>h.elim
 only:=fun c _=>Nat.dvd_zero c
theorem PerI.len(h:PerI E n i es pr q D per):es.length≤n:=by
 have:=nodup_len n _ h.nodup h.lt
 rwa [←h.keys,List.length_map]at this
theorem PerI.mono(h:PerI E n i es pr q D per)(k:∀x y,D' x y→EdN E n x y→D x y):PerI E n i es pr q D' per:=
 ⟨h.keys,h.nodup,h.lt,h.root,h.way,h.small,fun x y hd he=>h.dn x y (k x y hd he) he,h.only⟩
theorem PerI.next{x:Nat}(h:PerI E n i es pr (x :: q) D per):PerI E n i es (pr ++ [x]) q D per:=by
 have e:pr ++ x :: q=pr ++ [x] ++ q:=by simp
 exact⟨by rw [h.keys,e],by rw [←e];exact h.nodup,by rw [←e];exact h.lt,h.root,h.way,h.small,h.dn,h.only⟩
theorem PerI.new{x y dx:Nat}(h:PerI E n i es pr q D per)(hx:lookI es x=some dx)(hy:lookI es y=none)(he:EdN E n x y):PerI E n i (es ++ [(y,dx+1)]) pr (q ++ [y]) D per:=by
 have hyn:y∉pr ++ q:=by rw [←h.keys];exact lookI_none.1 hy
 have old:∀z d,lookI es z=some d→lookI (es ++ [(y,dx+1)]) z=some d:=fun z d hz=>by rw [lookI_app,hz];rfl
 have back:∀z d,lookI (es ++ [(y,dx+1)]) z=some d→lookI es z=some d∨(z=y∧d=dx+1):=fun z d hz=>by
  rw [lookI_app]at hz
  cases hq:lookI es z with
  | some d'=>rw [hq]at hz;exact .inl hz
  | none=>
   rw [hq]at hz
   by_cases e:z=y
   ·rw [if_pos e]at hz
    injection hz with hz
    exact .inr ⟨e,hz.symm⟩
   ·rw [if_neg e]at hz
    cases hz
 refine⟨by rw [List.map_append,h.keys,List.append_assoc];rfl,?_,?_,old _ _ h.root,fun z d hz => ?_,fun z d hz => ?_,fun a b hd hab => ?_,fun c hc=>h.only c fun a b da db ha hb hab=>hc a b da db (old _ _ ha) (old _ _ hb) hab⟩
 ·rw [←List.append_assoc,List.nodup_append]
  exact⟨h.nodup,by simp,fun a ha b hb e=>hyn (by rw [List.mem_singleton.1 hb]at e;rw [←e];exact ha)⟩
 ·intro z hz
  rw [←List.append_assoc]at hz
  rcases List.mem_append.1 hz with hz|hz
  ·exact h.lt z hz
  ·rw [List.mem_singleton.1 hz];exact he.2.1
 ·rcases back z d hz with hz|⟨rfl,rfl⟩
  ·exact h.way z d hz
  ·exact .snoc (h.way x dx hx) he
 ·rw [List.length_append]
  rcases back z d hz with hz|⟨rfl,rfl⟩
  ·have:=h.small z d hz
   show d<_+1
   omega
  ·have:=h.small x dx hx
   show dx+1<_+1
   omega
 ·obtain⟨da,db,h1,h2,h3⟩:=h.dn a b hd hab
  exact⟨da,db,old _ _ h1,old _ _ h2,h3⟩
theorem PerI.edge{x y dx dy:Nat}(h:PerI E n i es pr q D per)(hx:lookI es x=some dx)(hy:lookI es y=some dy)(he:EdN E n x y)(hD:∀a b,D' a b→EdN E n a b→D a b∨(a=x∧b=y)):PerI E n i es pr q D' (Nat.gcd per (dif dx dy)):=by
 refine⟨h.keys,h.nodup,h.lt,h.root,h.way,h.small,fun a b hd hab => ?_,fun c hc=>Nat.dvd_gcd (h.only c hc) (hc x y dx dy hx hy he)⟩
 rcases hD a b hd hab with hd|⟨rfl,rfl⟩
 ·obtain⟨da,db,h1,h2,h3⟩:=h.dn a b hd hab
  exact⟨da,db,h1,h2,Nat.dvd_trans (Nat.gcd_dvd_left _ _) h3⟩
 ·exact⟨dx,dy,hx,hy,Nat.gcd_dvd_right _ _⟩
end
def wv(E:Nat→Nat→Bool)(n i:Nat):Nat→Nat→Bool
 | 0=>fun x=>decide (x=i)
 | s+1=>fun y=>(List.range n).any fun x=>wv E n i s x && E x y
theorem wv_way{E:Nat→Nat→Bool}{n i:Nat}(hi:i<n):∀s x,x<n→(wv E n i s x=true↔Way (EdN E n) i x s)
 | 0,x,hx=>by
  show decide (x=i)=true↔_
  rw [decide_eq_true_iff]
  exact⟨fun e=>by subst e;exact .nil _,fun h=>by cases h;rfl⟩
 | s+1,y,hy=>by
  show((List.range n).any fun x=>wv E n i s x && E x y)=true↔_
  rw [List.any_eq_true]
  constructor
  ·rintro⟨x,hx,h⟩
   rw [Bool.and_eq_true]at h
   have hx:=List.mem_range.1 hx
   exact .snoc ((wv_way hi s x hx).1 h.1) ⟨hx,hy,h.2⟩
  ·intro h
   cases h with
   | @snoc x _ _ h e=>exact⟨x,List.mem_range.2 e.1,by rw [(wv_way hi s x e.1).2 h,e.2.2];rfl⟩
def rp(E:Nat→Nat→Bool)(n i:Nat):Nat→Nat
 | 0=>0
 | s+1=>bif wv E n i (s+1) i then Nat.gcd (rp E n i s) (s+1)else rp E n i s
theorem rp_dvd{E:Nat→Nat→Bool}{n i k:Nat}(hk:0<k)(hw:wv E n i k i=true):∀K,k≤K→rp E n i K∣k
 | 0,h=>by omega
 | K+1,h=>by
  show(bif wv E n i (K+1) i then Nat.gcd (rp E n i K) (K+1)else rp E n i K)∣k
  rcases Nat.lt_or_ge k (K+1)with q|q
  ·have ih:=rp_dvd hk hw K (by omega)
   cases wv E n i (K+1) i
   ·exact ih
   ·exact Nat.dvd_trans (Nat.gcd_dvd_left _ _) ih
  ·have:k=K+1:=by omega
   subst this
   rw [hw]
   exact Nat.gcd_dvd_right _ _
theorem dvd_rp{E:Nat→Nat→Bool}{n i d:Nat}(h:∀k,0<k→wv E n i k i=true→d∣k):∀K,d∣rp E n i K
 | 0=>Nat.dvd_zero d
 | K+1=>by
  show d∣(bif wv E n i (K+1) i then Nat.gcd (rp E n i K) (K+1)else rp E n i K)
  cases hw:wv E n i (K+1) i
  ·exact dvd_rp h K
  ·exact Nat.dvd_gcd (dvd_rp h K) (h (K+1) (by omega) hw)
theorem PerI.period{E:Nat→Nat→Bool}{n i K:Nat}{es:List (Nat × Nat)}{pr:List Nat}{per:Nat}(h:PerI E n i es pr [] (fun x _=>x∈pr) per)(hi:i<n)(hK:2*n≤K)
  (hback:∀x m,Way (EdN E n) i x m→∃m',Way (EdN E n) x i m'):per=rp E n i K:=by
 have hkey:∀x d,lookI es x=some d→x∈pr:=fun x d hx=>by
  have:=lookI_mem hx
  have h2:x∈es.map Prod.fst:=List.mem_map.2 ⟨(x,d),this,rfl⟩
  rwa [h.keys,List.append_nil]at h2
 have hall:∀x m,Way (EdN E n) i x m→∃d,lookI es x=some d:=by
  intro x m hw
  induction hw with
  | nil=>exact⟨0,h.root⟩
  | snoc _ e ih=>
   obtain⟨d,hd⟩:=ih
   obtain⟨_,dy,_,h2,_⟩:=h.dn _ _ (hkey _ _ hd) e
   exact⟨dy,h2⟩
 obtain⟨at',hat⟩:∃at':Nat→Nat,∀x d,lookI es x=some d→at' x=d:=⟨fun x=>(lookI es x).getD 0,fun x d hx=>by show(lookI es x).getD 0=d;rw [hx];rfl⟩
 have hln:=h.len
 refine Nat.dvd_antisymm (dvd_rp (fun k hk hw => ?_) K) (h.only _ fun x y dx dy hx hy hxy => ?_)
 ·have hw:=(wv_way hi k i hi).1 hw
  have:=back_div (at':=at') (d:=(per:Int)) (fun x y m hxm hxy => ?_) hw
  ·exact Int.natCast_dvd_natCast.1 this
  ·obtain⟨d,hd⟩:=hall x m hxm
   obtain⟨dx,dy,h1,h2,h3⟩:=h.dn x y (hkey x d hd) hxy
   rw [hat x dx h1,hat y dy h2]
   exact(dif_int dx dy).1 h3
 ·have hbk:∀x,∃b,b<n+1∧∀m,Way (EdN E n) i x m→Way (EdN E n) x i b:=fun x=>by
   by_cases hx:∃m,Way (EdN E n) i x m
   ·obtain⟨m,hm⟩:=hx
    obtain⟨m',hm'⟩:=hback x m hm
    obtain⟨b,hb,hw⟩:=hm'.short (hm.lt hi)
    exact⟨b,by omega,fun _ _=>hw⟩
   ·exact⟨0,by omega,fun m hm=>absurd ⟨m,hm⟩ hx⟩
  have hbc:=fun x=>Classical.choose_spec (hbk x)
  have hsm:∀x m,Way (EdN E n) i x m→at' x<n:=fun x m hm=>by
   obtain⟨d,hd⟩:=hall x m hm
   rw [hat x d hd]
   have:=h.small x d hd
   omega
  have:=edge_div (E:=EdN E n) (i:=i) (K:=K) (at':=at') (back:=fun x=>Classical.choose (hbk x)) (g:=(rp E n i K:Int))
   (fun k hk hkK hw=>Int.natCast_dvd_natCast.2 (rp_dvd hk ((wv_way hi k i hi).2 hw) K hkK))
   (fun x m hm=>by
    obtain⟨d,hd⟩:=hall x m hm
    rw [hat x d hd]
    exact h.way x d hd)
   (fun x m hm=>(hbc x).2 m hm)
   (fun x y m hm he=>by
    have h1:=hsm x m hm
    have h2:=hsm y (m+1) (.snoc hm he)
    have h3:=(hbc y).1
    omega) (h.way x dx hx) hxy
  rw [hat x dx hx,hat y dy hy]at this
  exact(dif_int dx dy).2 this
end Go.Num
namespace Go.Eng
open Go.RowKit Go.Num Go.Proofs Go.Proofs.YtepakfjilnpodaaGreatDoor
theorem under3m:Tryz.prog.underlying 3=some (.int .i64):=by kernel_rfl
theorem under159:Tryz.prog.underlying 159=some (.map 3 3):=by kernel_rfl
theorem zero3m:(Tryz.prog.info? 3).bind (·.zero)=some (.int .i64 0):=by kernel_rfl
def entI(e:MapEntry):Value × Value:=(e.key,e.val)
def entP(p:Nat × Nat):Value × Value:=(.int .i64 (p.1:Int),.int .i64 (p.2:Int))
def MapI(w:World)(m:Nat)(es:List (Nat × Nat)):Prop:=∃en clock,w.heap[m]? = some (.map en clock)∧en.toList.map entI=es.map entP
theorem now_iv{y:Nat}:∀(l:List MapEntry) (es:List (Nat × Nat)) (i:Nat),l.map entI=es.map entP →
  ∃res,Instr.findNow (.int .i64) (.int .i64 (y:Int)) l i=some res∧(match lookI es y with|none=>res=none|some k=>∃j,res=some (j,.int .i64 (k:Int)))
 | [],[],i,_=>⟨none,rfl,rfl⟩
 | [],_ :: _,_,h=>by simp at h
 | _ :: _,[],_,h=>by simp at h
 | e :: r,k :: ks,i,h=>by
  simp only [List.map_cons,List.cons.injEq]at h
  obtain⟨h1,h2⟩:=h
  simp only [entI,entP,Prod.mk.injEq]at h1
  obtain⟨hk,hv⟩:=h1
  simp only [lookI]
  by_cases hs:y=k.1
  ·rw [if_pos hs]
   refine⟨some (i,e.val),?_,⟨i,by rw [hv]⟩⟩
   have:Instr.sameNow (.int .i64) (.int .i64 (y:Int)) e.key=some true:=by
    rw [hk,hs]
    simp [Instr.sameNow]
   simp [Instr.findNow,this]
  ·rw [if_neg hs]
   obtain⟨res,h3,h4⟩:=now_iv (y:=y) r ks (i+1) h2
   refine⟨res,?_,h4⟩
   have:Instr.sameNow (.int .i64) (.int .i64 (y:Int)) e.key=some false:=by
    rw [hk]
    have:((y:Int) == (k.1:Int))=false:=by simp;omega
    simp [Instr.sameNow,this]
   simp [Instr.findNow,this,h3]
theorem find_iv{y:Nat}(w:World){l:List MapEntry}{es:List (Nat × Nat)}(h:l.map entI=es.map entP) :
  ∃res,(Instr.findKey 3 (.int .i64 (y:Int)) l).run Tryz.prog w = .ok res w∧(match lookI es y with|none=>res=none|some k=>∃j,res=some (j,.int .i64 (k:Int))):=by
 obtain⟨res,h1,h2⟩:=now_iv (y:=y) l es 0 h
 refine⟨res,?_,h2⟩
 simp only [Instr.findKey,Sem.run_bind,run_underlying under3m,Result.andThen_ok,h1]
 rfl
theorem check_iv(z:Nat)(em:Bool)(w:World):(Instr.checkKey em 10000 3 (.int .i64 (z:Int))).run Tryz.prog w = .ok () w:=Go.MapKept.run_checkKey under3m (by simp [Go.MapKept.IsKey]) em 9999
theorem look_iv{w:World}{m:Nat}{es:List (Nat × Nat)}(h:MapI w m es){y k:Nat}(hk:lookI es y=some k)(c:Bool) :
  (Instr.lookup 159 (.map (some m)) (.int .i64 (y:Int)) c).run Tryz.prog w = .ok (bif c then .tuple #[.int .i64 (k:Int),.bool true]else .int .i64 (k:Int)) w:=by
 obtain⟨en,cl,hb,he⟩:=h
 obtain⟨res,h1,h2⟩:=find_iv (y:=y) w he
 rw [hk]at h2
 obtain⟨j,rfl⟩:=h2
 simp only [Instr.lookup,Sem.run_bind,run_underlying under159,Result.andThen_ok,Go.MapKept.run_getObj_map hb,Sem.run_pure,check_iv,h1]
 cases c <;> rfl
theorem look_iv_not{w:World}{m:Nat}{es:List (Nat × Nat)}(h:MapI w m es){y:Nat}(hk:lookI es y=none)(c:Bool) :
  (Instr.lookup 159 (.map (some m)) (.int .i64 (y:Int)) c).run Tryz.prog w = .ok (bif c then .tuple #[.int .i64 0,.bool false]else .int .i64 0) w:=by
 obtain⟨en,cl,hb,he⟩:=h
 obtain⟨res,h1,h2⟩:=find_iv (y:=y) w he
 rw [hk]at h2
 subst h2
 have hz:(zeroValue 3).run Tryz.prog w = .ok (.int .i64 0) w:=by
  cases hi:Tryz.prog.info? 3 with
  | none=>have:=zero3m;rw [hi]at this;cases this
  | some i=>
   have:=zero3m
   rw [hi]at this
   simp only [Option.bind_some]at this
   simp [zeroValue,typeInfo,hi,this]
 simp only [Instr.lookup,Sem.run_bind,run_underlying under159,Result.andThen_ok,Go.MapKept.run_getObj_map hb,Sem.run_pure,check_iv,h1,hz]
 cases c <;> rfl
theorem update_iv{w:World}{m:Nat}{es:List (Nat × Nat)}(h:MapI w m es){y d:Nat}(hk:lookI es y=none) :
  ∃w',(Instr.mapUpdate 159 (.map (some m)) (.int .i64 (y:Int)) (.int .i64 (d:Int))).run Tryz.prog w = .ok () w'∧MapI w' m (es ++ [(y,d)])∧w.grownBy w' (some m):=by
 obtain⟨en,cl,hb,he⟩:=h
 obtain⟨res,h1,h2⟩:=find_iv (y:=y) w he
 rw [hk]at h2
 subst h2
 refine⟨{w with heap:=w.heap.setIfInBounds m (.map (en.push {key:=.int .i64 (y:Int),val:=.int .i64 (d:Int),born:=cl}) (cl+1))},?_,⟨_,_,(Go.MapKept.heap_set hb).1,?_⟩,⟨rfl,rfl,rfl,by simp,fun k _ hk=>(Go.MapKept.heap_set hb).2 k (fun e=>hk (by rw [e]))⟩⟩
 ·simp only [Instr.mapUpdate,Sem.run_bind,run_underlying under159,Result.andThen_ok,Go.MapKept.run_getObj_map hb,check_iv,h1,Go.MapKept.run_setObj_map _ hb]
 ·simp [he,entI,entP]
theorem MapI.kept{w w':World}{m:Nat}{es:List (Nat × Nat)}(h:MapI w m es)(hb:w'.heap[m]? = w.heap[m]?):MapI w' m es:=by
 obtain⟨en,cl,h1,h2⟩:=h
 exact⟨en,cl,hb.trans h1,h2⟩
theorem MapI.lt{w:World}{m:Nat}{es:List (Nat × Nat)}(h:MapI w m es):m<w.heap.size:=by
 obtain⟨en,cl,h1,h2⟩:=h
 exact(Array.getElem?_eq_some_iff.1 h1).1
end Go.Eng
namespace Go.Num
open Go.Eng Go.Shelf Go.RowKit Go.Sort Go.Proofs Go.Proofs.YtepakfjilnpodaaGreatDoor
def QuI(w:World)(base:Nat)(v:Value)(zs:List Nat):Prop:=∃g off cap,v = .slice (some ⟨g,off,none⟩) zs.length cap∧base≤g∧zs.length≤cap∧∃cur:Array Value,w.heap[g]? = some (.cells cur 3 (0,0))∧off+cap≤cur.size∧∀(j z:Nat),zs[j]? = some z→cur[off+j]? = some (.int .i64 (z:Int))
theorem QuI.eqB{w w':World}{base:Nat}{v:Value}{zs:List Nat}(h:QuI w base v zs)(e:∀k,some k=v.ownBlock→w'.heap[k]? = w.heap[k]?):QuI w' base v zs:=by
 obtain⟨g,off,cap,rfl,h1,h2,cur,h3,h4⟩:=h
 exact⟨g,off,cap,rfl,h1,h2,cur,(e g rfl).trans h3,h4⟩
theorem QuI.lt{w:World}{base:Nat}{v:Value}{zs:List Nat}(h:QuI w base v zs){k:Nat}(hk:some k=v.ownBlock):k<w.heap.size:=by
 obtain⟨g,off,cap,rfl,h1,h2,cur,h3,h4⟩:=h
 have:k=g:=by simpa [Value.ownBlock]using hk
 subst this
 exact(Array.getElem?_eq_some_iff.1 h3).1
theorem QuI.below{w w':World}{base:Nat}{v:Value}{zs:List Nat}(h:QuI w base v zs)(hb:Below w.heap.size w w'):QuI w' base v zs:=
 h.eqB fun k hk=>hb.block k (h.lt hk)
theorem cell_in{w:World}{g o:Nat}{cur:Array Value}{e:TypeId}{v:Value}(h:w.heap[g]? = some (.cells cur e (0,0)))(hc:cur[o]? = some v):w.cell? ⟨g,o,none⟩=some v:=by
 simp [World.cell?,h,hc]
theorem QuI.head{w:World}{base x:Nat}{v:Value}{zs:List Nat}(h:QuI w base v (x :: zs)):∃g off cap,v = .slice (some ⟨g,off,none⟩) (zs.length+1) cap∧zs.length+1≤cap∧w.cell? ⟨g,off,none⟩=some (.int .i64 (x:Int)) ∧
  QuI w base (.slice (some ⟨g,off+1,none⟩) zs.length (cap-1)) zs∧(cap=1→QuI w base (.slice (some ⟨g,off,none⟩) zs.length 0) zs):=by
 obtain⟨g,off,cap,rfl,h1,h2,cur,h3,h4,h5⟩:=h
 rw [List.length_cons]at h2
 refine⟨g,off,cap,rfl,h2,cell_in h3 (h5 0 x rfl),⟨g,off+1,cap-1,rfl,h1,by omega,cur,h3,by omega,fun j z hz => ?_⟩,fun hc=>⟨g,off,0,rfl,h1,by omega,cur,h3,by omega,fun j z hz => ?_⟩⟩
 ·have:=h5 (j+1) z hz
  rwa [show off+(j+1)=off+1+j by omega]at this
 ·have:zs.length=0:=by omega
  have:=(List.getElem?_eq_some_iff.1 hz).1
  omega
theorem QuI.one(w:World)(base:Nat)(h:base≤w.heap.size)(x:Nat):QuI (w.alloc (.cells #[.int .i64 (x:Int)] 3)) base (.slice (some ⟨w.heap.size,0,none⟩) 1 1) [x]:=by
 refine⟨w.heap.size,0,1,rfl,h,Nat.le_refl _,_,heap_alloc_new w _,Nat.le_refl _,fun j z hz => ?_⟩
 match j,hz with
 | 0,hz=>injection hz with hz;rw [←hz];rfl
 | j+1,hz=>cases hz
theorem run_append_q{w:World}{base:Nat}{v:Value}{zs:List Nat}(h:QuI w base v zs)(hb:base≤w.heap.size)(hl:zs.length<100)(y:Nat)(src:Addr)(c:Nat)(hsrc:w.cell? src=some (.int .i64 (y:Int))) :
  ∃v' w',(Builtin.append_ #[45,45] 45 #[v,.slice (some src) 1 c]).run Tryz.prog w = .ok v' w'∧QuI w' base v' (zs ++ [y])∧Below base w w'∧(∀k,k<w.heap.size→some k≠v.ownBlock→w'.heap[k]? = w.heap[k]?)∧(v'.ownBlock=v.ownBlock∨v'.ownBlock=some w.heap.size):=by
 obtain⟨g,off,cap,rfl,h1,h2,cur,h3,h4,h5⟩:=h
 have hsz:w.heap.size≥g+1:=(Array.getElem?_eq_some_iff.1 h3).1
 have hnews:∀j u,[Value.int .i64 (y:Int)][j]? = some u→w.cell? (src.add j)=some u:=fun j u hu=>by
  match j,hu with
  | 0,hu=>injection hu with hu;rw [←hu,Addr.add_zero'];exact hsrc
  | j+1,hu=>cases hu
 by_cases hroom:zs.length+1≤cap
 ·have hlt:off+zs.length<cur.size:=by omega
  have hf:=run_firstCells_some (P:=Tryz.prog) w 1 1 src 1 c [Value.int .i64 (y:Int)] rfl hnews
  have hcell:w.cell? ⟨g,off+zs.length,none⟩=some cur[off+zs.length]:=cell_in h3 (Array.getElem?_eq_getElem hlt)
  have hfr:w.frozen? ⟨g,off+zs.length,none⟩=false:=by simp [World.frozen?,h3]
  have hst:=run_storeCells_cells (P:=Tryz.prog) g (off+zs.length) [Value.int .i64 (y:Int)] 0 w (fun j hj=>by
   have:j=0:=by simpa using hj
   subst this
   simp [hcell]) (fun j hj=>by
   have:j=0:=by simpa using hj
   subst this
   simpa using hfr) (fun u hu=>by rw [List.mem_singleton.1 hu];rfl)
  simp only [Nat.add_zero]at hst
  have hadd:(⟨g,off,none⟩:Addr).add (zs.length*1)=⟨g,off+zs.length,none⟩:=by
   unfold Addr.add;split <;> simp_all
  have hadd':(⟨g,off,none⟩:Addr).add zs.length=⟨g,off+zs.length,none⟩:=by
   rw [←hadd,Nat.mul_one]
  refine⟨.slice (some ⟨g,off,none⟩) (zs.length+1) cap,w.setCell ⟨g,off+zs.length,none⟩ (.int .i64 (y:Int)),?_,⟨g,off,cap,by rw [List.length_append];rfl,h1,by rw [List.length_append];exact hroom,cur.setIfInBounds (off+zs.length) (.int .i64 (y:Int)),heap_setCell_same w g _ cur 3 _ h3,by simpa using h4,fun j z hz => ?_⟩,(Below.refl _ w).setCell h1 _,fun k _ hk=>heap_setCell_other _ _ _ _ (fun e=>hk (by rw [e];rfl)),.inl rfl⟩
  ·simp [Builtin.append_,run_underlying ul45,sizeOf,typeInfo,i3i,i3s,Builtin.lenOf,hroom,hf,hadd',hst,World.setCells]
  ·rw [Array.getElem?_setIfInBounds]
   rcases Nat.lt_or_ge j zs.length with hj|hj
   ·rw [if_neg (by omega)]
    rw [List.getElem?_append_left hj]at hz
    exact h5 j z hz
   ·rw [List.getElem?_append_right hj]at hz
    have:j-zs.length=0:=by
     have:=(List.getElem?_eq_some_iff.1 hz).1
     simpa using this
    have hj2:j=zs.length:=by omega
    subst hj2
    rw [Nat.sub_self]at hz
    injection hz with hz
    rw [if_pos rfl,if_pos hlt,hz]
 ·have hr:=run_append_grow (P:=Tryz.prog) w 45 45 3 Tryz.t3 (.int .i64 0) ul45 i3i i3z ⟨g,off,none⟩ zs.length cap (zs.map fun z:Nat=>Value.int .i64 (z:Int)) (by rw [i3s,List.length_map,Nat.mul_one]) (fun j u hu=>by
      rw [List.getElem?_map]at hu
      obtain⟨z,hz,rfl⟩:=Option.map_eq_some_iff.1 hu
      have:=cell_in h3 (h5 j z hz)
      have hadd:(⟨g,off,none⟩:Addr).add j=⟨g,off+j,none⟩:=by unfold Addr.add;split <;> simp_all
      rw [hadd]
      exact this) src 1 c [.int .i64 (y:Int)] (by rw [i3s];rfl) hnews (by omega) (by omega) (by
      have:=nextslicecap_le (need:=zs.length+1) (old:=cap) (by omega)
      rw [i3b]
      omega)
  have hge:=grownCap_ge w (zs.length+1) cap 3
  refine⟨_,_,hr,⟨w.heap.size,0,_,by rw [List.length_append];rfl,hb,by rw [List.length_append];exact hge,_,heap_alloc_new w.drew _,?_,fun j z hz => ?_⟩,?_,fun k hk _=>Below.heap_alloc w.drew _ _ hk,.inr rfl⟩
  ·rw [Nat.zero_add]
   simp only [Array.size_append,List.size_toArray,List.length_map,size_zeroCells]
   show _≤zs.length+1+_*1
   omega
  ·rw [Nat.zero_add]
   have hz':((zs.map fun z:Nat=>Value.int .i64 (z:Int)) ++ [Value.int .i64 (y:Int)])[j]? = some (.int .i64 (z:Int)):=by
    have:(zs.map fun z:Nat=>Value.int .i64 (z:Int)) ++ [Value.int .i64 (y:Int)]=(zs ++ [y]).map fun z:Nat=>Value.int .i64 (z:Int):=by simp
    rw [this,List.getElem?_map,hz]
    rfl
   have hjl:=(List.getElem?_eq_some_iff.1 hz').1
   rw [Array.getElem?_append_left (by simpa using hjl)]
   simpa using hz'
  ·exact((drew_below w).mono hb).trans ((alloc_below w.drew _).mono hb)
end Go.Num
