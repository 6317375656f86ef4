/-
  'Leads' of the reference; items of matrices.
  Conditions: a square matrix of at most nine rows.
-/
import Derived.Test.YtepakfjilnpodaaGreatDoorRDBA
import Derived.Test.YtepakfjilnpodaaGreatDoorRDAW
import Derived.Test.YtepakfjilnpodaaGreatDoorRDAX
namespace Go.Num
open Go.Eng Go.Shelf Go.RowKit Go.Sort Go.Proofs Go.Proofs.YtepakfjilnpodaaGreatDoor
theorem matQ_at{w:World}{a:Addr}{n c:Nat}{Q:Nat→Nat→Rat}(h:MatQ w (.slice (some a) n c) (tabW n n Q)){i j:Nat}(hi:i<n)(hj:j<n):∃al cl s3 p3 l3 d3 p4 l4 d4,w.cell? (a.add i)=some (.slice (some al) n cl)∧w.cell? (al.add (j*4))=some (.bool s3) ∧
  w.cell? ⟨(al.add (j*4)).block,(al.add (j*4)).off+1,none⟩=some (.slice p3 l3 d3)∧w.cell? ⟨(al.add (j*4)).block,(al.add (j*4)).off+2,none⟩=some (.bool false)∧w.cell? ⟨(al.add (j*4)).block,(al.add (j*4)).off+3,none⟩=some (.slice p4 l4 d4) ∧
  QAt w (.agg #[.bool s3,.slice p3 l3 d3,.bool false,.slice p4 l4 d4]) (Q i j):=by
 obtain⟨_,row,_,hcell,u,rfl,hu⟩:=RowIs.at9 h (tabW_at (A:=Q) hi)
 have x0:=hcell 0 u rfl
 rw [Addr.add_zero',Nat.mul_one]at x0
 obtain⟨al,cl,rfl⟩:=RowIs.some9 hu (by rw [rowW_len];omega)
 rw [rowW_len]at x0 hu
 obtain⟨_,rq,_,hcq,hq⟩:=RowIs.at9 hu (rowW_at (a:=Q i) hj)
 obtain⟨s3,p3,l3,d3,p4,l4,d4,hfa⟩:=qform hq
 have hrq:rq = [.bool s3,.slice p3 l3 d3,.bool false,.slice p4 l4 d4]:=by injection hfa with e;simpa using congrArg Array.toList e
 subst hrq
 exact⟨al,cl,s3,p3,l3,d3,p4,l4,d4,x0,by have:=hcq 0 _ rfl;rwa [Addr.add_zero']at this,hcq 1 _ rfl,hcq 2 _ rfl,hcq 3 _ rfl,hq⟩
def bRow(S:Nat→Bool)(n:Nat):List Value:=(List.range n).map fun k=>Value.bool (S k)
theorem bRow_at{S:Nat→Bool}{n k:Nat}(h:k<n):(bRow S n)[k]? = some (.bool (S k)):=by simp [bRow,h]
theorem bRow_set{f g:Nat→Bool}{n k:Nat}{v:Bool}(h:∀j,j<n→g j=if j=k then v else f j):(bRow f n).set k (.bool v)=bRow g n:=by
 refine List.ext_getElem? fun j => ?_
 rw [List.getElem?_set]
 have hlen:(bRow f n).length=n:=by simp [bRow]
 rcases Nat.lt_or_ge j n with hj|hj
 ·rw [bRow_at (S:=f) hj,bRow_at (S:=g) hj,h j hj]
  by_cases hk:k=j
  ·subst hk
   rw [if_pos rfl,if_pos (by rw [hlen];exact hj),if_pos rfl]
  ·rw [if_neg hk,if_neg (fun e=>hk e.symm)]
 ·have e1:(bRow f n)[j]? = none:=List.getElem?_eq_none (by rw [hlen];exact hj)
  have e2:(bRow g n)[j]? = none:=List.getElem?_eq_none (by simp [bRow];exact hj)
  rw [e1,e2,hlen]
  by_cases hk:k=j
  ·rw [if_pos hk,if_neg (by omega)]
  ·rw [if_neg hk]
theorem bRow_congr{f g:Nat→Bool}{n:Nat}(h:∀j,j<n→f j=g j):bRow f n=bRow g n:=List.map_congr_left fun k hk=>by rw [h k (List.mem_range.1 hk)]
theorem Cel.putB{w:World}{g n k:Nat}{v:Bool}{ty:TypeId}{f f':Nat→Bool}(h:Cel w g ty (bRow f n))(hf:∀j,j<n→f' j=if j=k then v else f j):Cel (w.setCell ⟨g,k,none⟩ (.bool v)) g ty (bRow f' n):=by
 have:=cel_set (o:=k) (.bool v) h
 unfold Cel
 rw [this,←bRow_set hf]
 simp
theorem made_b{w:World}{base g n:Nat}(h:w.ownsRow base 4 1 (.slice (some ⟨g,0,none⟩) n n) n (madeCells (Value.bool false).cells (n*1)).toList)(_h1:1≤n):Cel w g 4 (bRow (fun _=>false) n):=by
 rcases h.2 with⟨e,_⟩|⟨g',cap,cur,e,_,hh,_,_,hs,ht⟩
 ·cases e
 ·injection e with e _ ec
  injection e with e
  injection e with e
  subst e
  subst ec
  rw [Nat.mul_one]at hs ht
  rw [List.take_of_length_le (by rw [Array.length_toList,hs];exact Nat.le_refl _)]at ht
  have e2:(madeCells (Value.bool false).cells (n*1)).toList=bRow (fun _=>false) n:=by
   rw [Nat.mul_one,show(Value.bool false).cells=#[Value.bool false]from rfl]
   unfold madeCells bRow
   rw [Array.toList_map,Array.toList_range]
   exact List.map_congr_left fun k _=>by simp [Nat.mod_one]
  unfold Cel
  rw [hh,←e2,Nat.mul_one,←ht]
structure TabB(w:World)(base m n:Nat)(gs:Nat→Nat)(S:Nat→Nat→Bool):Prop where
 row:∀a,a<m→base≤gs a∧Cel w (gs a) 4 (bRow (S a) n)
 inj:∀a b,a<m→b<m→gs a=gs b→a=b
def IG(n k:Nat)(r:List Value)(_:World):Prop:=r = [.slice (some ⟨k,0,none⟩) n n]
theorem TabB.touch{w w':World}{base m n:Nat}{gs:Nat→Nat}{S:Nat→Nat→Bool}{ty:TypeId}(h:TabB w base m n gs S)(ht:Touch ty w w')(hne:4≠ty):TabB w' base m n gs S:=
 ⟨fun a ha=>⟨(h.row a ha).1,ht.2 _ _ 4 _ (h.row a ha).2 hne⟩,h.inj⟩
theorem TabB.below{w w':World}{base m n:Nat}{gs:Nat→Nat}{S:Nat→Nat→Bool}(h:TabB w base m n gs S)(hb:Below w.heap.size w w'):TabB w' base m n gs S:=
 ⟨fun a ha=>⟨(h.row a ha).1,(h.row a ha).2.below hb⟩,h.inj⟩
theorem TabB.put{w:World}{base m n:Nat}{gs:Nat→Nat}{S S':Nat→Nat→Bool}(h:TabB w base m n gs S){a b:Nat}(ha:a<m){v:Bool}(hS:∀a' b',a'<m→b'<n→S' a' b'=if a'=a∧b'=b then v else S a' b'):TabB (w.setCell ⟨gs a,b,none⟩ (.bool v)) base m n gs S':=by
 refine⟨fun a' ha'=>⟨(h.row a' ha').1,?_⟩,h.inj⟩
 by_cases e:a'=a
 ·subst e
  exact(h.row a' ha').2.putB fun j hj=>by rw [hS a' j ha' hj];by_cases e:j=b <;> simp [e]
 ·have:=(h.row a' ha').2
  rw [bRow_congr (g:=S a') fun j hj=>by rw [hS a' j ha' hj,if_neg (fun q=>e q.1)]]
  exact this.eqB (heap_setCell_other _ _ _ _ (fun q=>e (h.inj _ _ ha' ha q)))
def BTab(w:World)(v:Value)(n:Nat)(S:Nat→Nat→Bool):Prop:=∃a c,v = .slice (some a) n c∧a.block<w.heap.size∧∀i,i<n→∃ai ci,w.cell? (a.add i)=some (.slice (some ai) n ci)∧ai.block<w.heap.size∧∀j,j<n→w.cell? (ai.add j)=some (.bool (S i j))
theorem ul121:Tryz.prog.underlying 121=some (.slice 46):=by kernel_rfl
theorem i46:Tryz.prog.info? 46=some Tryz.t46:=by kernel_rfl
theorem i46z:Tryz.t46.zero=some (.slice none 0 0):=by kernel_rfl
theorem i46s:Tryz.t46.size=1:=by kernel_rfl
theorem i46b:Tryz.t46.bytes=24:=by kernel_rfl
theorem touch_setCell{w:World}{g o:Nat}{ty:TypeId}{xs:List Value}{v:Value}(h:Cel w g ty xs):Touch ty w (w.setCell ⟨g,o,none⟩ v):=
 h.touch (fun k _ hne=>heap_setCell_other _ _ _ _ hne) (by rw [World.size_setCell];exact Nat.le_refl _)
def LdS(w:World)(base n:Nat)(gs:Nat→Nat)(a4:Addr)(c4:Nat)(S:Nat→Nat→Bool):Prop:=TabB w base n n gs S∧RowIs w 46 1 (IG n) (.slice (some a4) n c4) ((List.range n).map gs)
section
variable {w:World} {base n c4:Nat} {gs:Nat→Nat} {a4:Addr} {S S':Nat→Nat→Bool}
theorem LdS.congr(h:LdS w base n gs a4 c4 S)(e:∀a b,a<n→b<n→S a b=S' a b):LdS w base n gs a4 c4 S':=
 ⟨⟨fun a ha=>⟨(h.1.row a ha).1,by rw [←bRow_congr fun b hb=>e a b ha hb];exact(h.1.row a ha).2⟩,h.1.inj⟩,h.2⟩
theorem LdS.top(h:LdS w base n gs a4 c4 S){i:Nat}(hi:i<n):w.cell? (a4.add i)=some (.slice (some ⟨gs i,0,none⟩) n n):=by
 obtain⟨_,row,_,hcell,hrow⟩:=RowIs.at9 h.2 (show((List.range n).map gs)[i]? = some (gs i)by simp [hi])
 have hrow:row=_:=hrow
 subst hrow
 have:=hcell 0 _ rfl
 rwa [Addr.add_zero',Nat.mul_one]at this
theorem LdS.cell(h:LdS w base n gs a4 c4 S){i j:Nat}(hi:i<n)(hj:j<n):w.cell? ⟨gs i,j,none⟩=some (.bool (S i j)):=(h.1.row i hi).2.cell (bRow_at hj)
theorem LdS.frozen(h:LdS w base n gs a4 c4 S){i:Nat}(hi:i<n)(j:Nat):w.frozen? ⟨gs i,j,none⟩=false:=(h.1.row i hi).2.frozen j
theorem LdS.put(h:LdS w base n gs a4 c4 S){i j:Nat}(hi:i<n){v:Bool}(hS:∀a' b',a'<n→b'<n→S' a' b'=if a'=i∧b'=j then v else S a' b'):LdS (w.setCell ⟨gs i,j,none⟩ (.bool v)) base n gs a4 c4 S':=
 ⟨h.1.put hi hS,h.2.touch (touch_setCell (h.1.row i hi).2) (by decide) (fun _ _ q=>q)⟩
theorem LdS.bTab(h:LdS w base n gs a4 c4 S)(h0:0<n):BTab w (.slice (some a4) n c4) n S:=
 ⟨a4,c4,rfl,by have:=World.block_lt_of_cell? _ _ (h.top h0);rwa [add_block]at this,fun i hi=>⟨⟨gs i,0,none⟩,n,h.top hi,(h.1.row i hi).2.lt,fun j hj=>by
  have:(⟨gs i,0,none⟩:Addr).add j=⟨gs i,j,none⟩:=by unfold Addr.add;split <;> simp_all
  rw [this];exact h.cell hi hj⟩⟩
end
def edQ(Q:Nat→Nat→Rat)(i j:Nat):Bool:=decide (i=j) || decide (0<sgnR (Q i j))
set_option maxRecDepth 100000 in
set_option maxHeartbeats 4000000 in
theorem leads_calls(w:World)(v:Value)(n:Nat)(Q:Nat→Nat→Rat)(h:MatQ w v (tabW n n Q))(h0:0<n)(h9:n≤9)(hS:∀i j,i<n→j<n→RatLe (Q i j) 4700) :
  CallsIn Fence.wide 0 Tryz.prog 76 #[v] w fun e w'=>∃v',e = .returned v'∧BTab w' v' n (ldW (edQ Q) n)∧Below w.heap.size w w':=by
 obtain⟨a,c,rfl⟩:=RowIs.some9 h (by rw [tabW_len];exact h0)
 have HM:=Hid.intro h
 rw [tabW_len]at HM ⊢
 have HS:=Hid.intro hS
 clear h hS
 refine callsIn_of_wp Tryz.func76 rfl trivial ?_ rfl
 simp only [Tryz.ntmps76,List.size_toArray,List.length_cons,List.length_nil,Nat.reduceAdd,Nat.reduceSub,Array.replicate_succ,Array.replicate_zero,List.push_toArray,List.append_toArray,List.nil_append,List.cons_append]
 gi_wp2
 gi_loopw [4,5] (fun x4 x5 wr=>∃i:Nat,x5 = .int .i64 (i:Int)∧i≤n∧Hid (∃gs,OwnR wr w.heap.size 46 1 (IG n) x4 ((List.range i).map gs)∧TabB wr w.heap.size i n gs (edQ Q))∧Hid (Below w.heap.size w wr)) (fun _ x _=>n-(intOf x).toNat)
 case atStart=>exact⟨0,rfl,by omega,Hid.intro ⟨fun _=>0,OwnR.nil _ _ _ _ _,⟨fun a ha=>by omega,fun a b ha=>by omega⟩⟩,Below.refl _ w⟩
 case round=>
  obtain⟨ws,hws⟩:∃ws,ws=wr:=⟨_,rfl⟩
  subst hws
  obtain⟨i,rfl,hi,HO4,HB⟩:=hrel
  obtain⟨gs,hO4,hT4⟩:=HO4.out
  obtain⟨o4,c4,h4f⟩:=hO4.form
  rw [List.length_map,List.length_range]at h4f
  subst h4f
  have HO:=Hid.intro hO4
  have HTB:=Hid.intro hT4
  clear hO4 hT4 HO4
  by_cases hin:i<n
  ·gi_wp2_with (gi_at_make;refine stop ?_)
   unfold Stop
   refine wpListIn_make_full _ rfl _ _ _ rfl ws.heap.size 4 Tryz.t4 _ 1 ul46 i4i i4z i4s _ _ _ _ n rfl rfl rfl rfl (by rw [i4b];omega) (by unfold maxLen;omega) (Nat.le_refl _) ?_
   intro W4 hown hgrow
   have hc8:Cel W4 ws.heap.size 4 (bRow (fun _=>false) n):=made_b hown h0
   have hb4:Below ws.heap.size ws W4:=⟨hgrow.os,hgrow.tape,hgrow.output,hgrow.size,fun k hk=>hgrow.block k hk (by simp)⟩
   obtain⟨g8,hg8⟩:∃g,ws.heap.size=g:=⟨_,rfl⟩
   have hg8le:ws.heap.size≤g8:=by omega
   rw [hg8]at hc8
   have HG8:=Hid.intro hg8
   have HC8:=Hid.intro hc8
   have HB4:=Hid.intro hb4
   rw [hg8]
   clear hown hgrow hc8 hb4 hg8
   gi_wp2
   gi_loopw [7] (fun x7 wi=>∃k:Nat,x7 = .int .i64 (k:Int)∧k≤n∧Hid (Cel wi g8 4 (bRow (fun k'=>if k'<k then edQ Q i k' else false) n))∧Hid (Below ws.heap.size ws wi)) (fun x _=>n-(intOf x).toNat)
   case atStart=>exact⟨0,rfl,by omega,Hid.intro (by simpa using HC8.out),HB4⟩
   case round=>
    obtain⟨k,rfl,hk,HCk,HBk⟩:=hrel
    by_cases hkn:k<n
    ·by_cases hik:i=k
     ·subst hik
      have y1:=HCk.out.cell (bRow_at (S:=fun k'=>if k'<i then edQ Q i k' else false) hkn)
      have y2:=HCk.out.frozen i
      gi_wp2
      refine⟨⟨i+1,by go_num,by omega,Hid.intro (HCk.out.putB fun j hj => ?_),Hid.intro (HBk.out.setCell hg8le _)⟩,by simp only [intOf];omega⟩
      by_cases e:j=i
      ·subst e
       rw [if_pos (by omega),if_pos rfl]
       unfold edQ
       simp
      ·rw [if_neg e]
       by_cases e2:j<i
       ·rw [if_pos e2,if_pos (by omega)]
       ·rw [if_neg e2,if_neg (by omega)]
     ·have hbw:=HB.out.trans (HBk.out.mono HB.out.size)
      obtain⟨al,cl,s3,p3,l3,d3,p4,l4,d4,x0,y0,y1,y2,y3,hq⟩:=matQ_at (RowIs.below HM.out hbw (IRowQ.below hbw)) hin hkn
      have HQ:=Hid.intro hq
      have hij:¬((i:Int)=(k:Int)):=by omega
      clear hbw hq
      gi_wp2_with (gi_at_call 35;refine stop ?_)
      unfold Stop
      refine(sgnQ_c HQ.out (HS.out i k hin hkn)).mono ?_
      rintro e w2 ⟨v2,rfl,rfl,hB2⟩
      have HC2:=Hid.intro (HCk.out.below hB2)
      have HB2:=Hid.intro (HBk.out.trans (hB2.mono HBk.out.size))
      have z1:=HC2.out.cell (bRow_at (S:=fun k'=>if k'<k then edQ Q i k' else false) hkn)
      have z2:=HC2.out.frozen k
      have HE:Hid (edQ Q i k=decide (0<sgnR (Q i k))):=Hid.intro (by unfold edQ;rw [decide_eq_false hik];rfl)
      obtain⟨sg,hsg⟩:∃z,sgnR (Q i k)=z:=⟨_,rfl⟩
      rw [hsg]at HE ⊢
      clear hB2 HCk HBk x0 y0 y1 y2 y3 hsg
      gi_wp2
      refine⟨⟨k+1,by go_num,by omega,Hid.intro (HC2.out.putB fun j hj => ?_),Hid.intro (HB2.out.setCell hg8le _)⟩,by simp only [intOf];omega⟩
      by_cases e:j=k
      ·subst e
       rw [if_pos (by omega),if_pos rfl,HE.out,show((i:Int) == (j:Int))=false from by simp;omega]
       rfl
      ·rw [if_neg e]
       by_cases e2:j<k
       ·rw [if_pos e2,if_pos (by omega)]
       ·rw [if_neg e2,if_neg (by omega)]
    ·obtain rfl:k=n:=by omega
     have HCr:Hid (Cel wr g8 4 (bRow (edQ Q i) k)):=Hid.intro (by
      rw [←bRow_congr (f:=fun k'=>if k'<k then edQ Q i k' else false) fun j hj=>by rw [if_pos hj]]
      exact HCk.out)
     have H4:=Hid.intro (HO.out.below HBk.out (fun b r h=>h))
     have HBA:=Hid.intro (HB.out.trans (HBk.out.mono HB.out.size))
     gi_wp2_with (gi_at_builtin;refine stop ?_)
     unfold Stop
     refine append_item (ty:=46) (sz:=1) (bytes:=24) w wr rfl _ _ rfl ul121 i46 i46z i46s i46b rfl (by decide) (by decide) (.slice o4 i c4) ((List.range i).map gs) rfl H4.out g8 [.slice (some ⟨g8,0,none⟩) k k] _ rfl rfl (by simp [Value.oneCell']) rfl (fun b r w1 w2 _ h=>h) (by rw [List.length_map,List.length_range];omega) HBA.out ?_
     intro v9 w9 HO9 HB9 HT9 _
     have HN9:Hid (∃gs,OwnR w9 w.heap.size 46 1 (IG k) v9 ((List.range (i+1)).map gs)∧TabB w9 w.heap.size (i+1) k gs (edQ Q)):=Hid.intro (by
      refine⟨fun a=>if a=i then g8 else gs a,?_,?_⟩
      ·rw [List.range_succ,List.map_append,List.map_cons,List.map_nil,if_pos rfl,List.map_congr_left (g:=gs) fun a ha=>by rw [if_neg (by have:=List.mem_range.1 ha;omega)]]
       exact HO9.out
      ·have hb:=(HTB.out.below HBk.out).touch HT9.out (by decide)
       refine⟨fun a ha => ?_,fun a b ha hb e => ?_⟩
       ·by_cases e:a=i
        ·subst e
         rw [if_pos rfl]
         exact⟨by have:=HB.out.size;omega,HT9.out.2 _ _ 4 _ HCr.out (by decide)⟩
        ·rw [if_neg e]
         exact hb.row a (by omega)
       ·have hlt:∀a,a<i→gs a≠g8:=fun a ha e=>by
         have:=(HTB.out.row a ha).2.lt
         have:=HG8.out
         omega
        by_cases e1:a=i <;> by_cases e2:b=i
        ·rw [e1,e2]
        ·rw [if_pos e1,if_neg e2]at e
         exact absurd e.symm (hlt b (by omega))
        ·rw [if_neg e1,if_pos e2]at e
         exact absurd e (hlt a (by omega))
        ·rw [if_neg e1,if_neg e2]at e
         exact HTB.out.inj a b (by omega) (by omega) e)
     clear HO9 HT9
     gi_wp2
     exact⟨⟨i+1,by go_num,by omega,HN9,HB9⟩,by simp only [intOf];omega⟩
  ·obtain rfl:n=i:=by omega
   have hR:=HO.out.row (by rw [List.length_map,List.length_range];omega)
   obtain⟨a4,c4',e4⟩:=RowIs.some9 hR (by rw [List.length_map,List.length_range];exact h0)
   rw [List.length_map,List.length_range]at e4
   injection e4 with e4 _ e6
   subst e4
   subst e6
   have HD0:Hid (LdS ws w.heap.size n gs a4 c4 (ldW (edQ Q) 0)):=Hid.intro ⟨HTB.out,hR⟩
   have HB0:=HB
   clear hR HO HTB HB
   gi_wp2
   gi_loopw [8] (fun x8 wr=>∃k:Nat,x8 = .int .i64 (k:Int)∧k≤n∧Hid (LdS wr w.heap.size n gs a4 c4 (ldW (edQ Q) k))∧Hid (Below w.heap.size w wr)) (fun x _=>n-(intOf x).toNat)
   case atStart=>exact⟨0,rfl,by omega,HD0,HB0⟩
   case round=>
    obtain⟨k,rfl,hk,HDk,HBk⟩:=hrel
    clear HD0 HB0
    by_cases hkn:k<n
    ·gi_wp2
     have HD1:Hid (LdS wr w.heap.size n gs a4 c4 (ldM (edQ Q) k 0 0)):=Hid.intro (HDk.out.congr fun a b _ _=>(ldM_zero k a b).symm)
     gi_loopw [9] (fun x9 wi=>∃i:Nat,x9 = .int .i64 (i:Int)∧i≤n∧Hid (LdS wi w.heap.size n gs a4 c4 (ldM (edQ Q) k i 0))∧Hid (Below w.heap.size w wi)) (fun x _=>n-(intOf x).toNat)
     case atStart=>exact⟨0,rfl,by omega,HD1,HBk⟩
     case round=>
      obtain⟨i,rfl,hi,HDi,HBi⟩:=hrel
      clear HD1 HDk HBk
      by_cases hin:i<n
      ·have y0:=HDi.out.top hin
       gi_wp2
       clear y0
       gi_loopw [11] (fun x11 wi=>∃j:Nat,x11 = .int .i64 (j:Int)∧j≤n∧Hid (ldW (edQ Q) k i k=false→j=0)∧Hid (LdS wi w.heap.size n gs a4 c4 (ldM (edQ Q) k i j))∧Hid (Below w.heap.size w wi)) (fun x _=>n-(intOf x).toNat)
       case atStart=>exact⟨0,rfl,by omega,Hid.intro (fun _=>rfl),HDi,HBi⟩
       case round=>
        obtain⟨j,rfl,hj,HZ,HDj,HBj⟩:=hrel
        clear HDi HBi
        by_cases hjn:j<n
        ·have y1:=HDj.out.cell hin hkn
         rw [ldM_row]at y1
         cases h2:ldW (edQ Q) k i k with
         | false=>
          rw [h2]at y1
          have hj0:=HZ.out h2
          have HDn:Hid (LdS wr w.heap.size n gs a4 c4 (ldM (edQ Q) k (i+1) 0)):=Hid.intro (HDj.out.congr fun a b _ _=>by
           rw [hj0]
           unfold ldM
           by_cases e:a=i
           ·rw [if_neg (by omega),if_pos (by omega),ldW_step,e,h2,Bool.false_and,Bool.or_false]
           ·by_cases e2:a<i
            ·rw [if_pos (by omega),if_pos (by omega)]
            ·rw [if_neg (by omega),if_neg (by omega)])
          clear h2
          gi_wp2
          exact⟨⟨i+1,by go_num,by omega,HDn,HBj⟩,by simp only [intOf];omega⟩
         | true=>
          rw [h2]at y1
          have y2:=HDj.out.cell hin hjn
          have y3:=HDj.out.cell hkn hjn
          have y4:=HDj.out.top hkn
          have y5:=HDj.out.frozen hin j
          rw [ldM_cur]at y2
          rw [ldM_col]at y3
          have HEQ:Hid (ldW (edQ Q) (k+1) i j=(ldW (edQ Q) k i j || (ldW (edQ Q) k i k && ldW (edQ Q) k k j))):=Hid.intro rfl
          have key:∀z:Bool,ldW (edQ Q) (k+1) i j=z→LdS (wr.setCell ⟨gs i,j,none⟩ (.bool z)) w.heap.size n gs a4 c4 (ldM (edQ Q) k i (j+1)):=fun z hz=>HDj.out.put hin fun a b _ _=>by
           rw [ldM_next]
           by_cases e:a=i∧b=j
           ·rw [if_pos e,if_pos e,hz]
           ·rw [if_neg e,if_neg e]
          have HKey:=Hid.intro key
          have HGi:=Hid.intro (HDj.out.1.row i hin).1
          clear key HZ
          cases h1:ldW (edQ Q) k i j with
          | true=>
           rw [h1]at y2
           have HC9:=Hid.intro (HKey.out true (by rw [HEQ.out,h1];rfl))
           clear h1 h2
           gi_wp2
           exact⟨⟨j+1,by go_num,by omega,Hid.intro (fun e=>by cases e),HC9,Hid.intro (HBj.out.setCell HGi.out _)⟩,by simp only [intOf];omega⟩
          | false=>
           rw [h1]at y2
           obtain⟨x,hx⟩:∃x,ldW (edQ Q) k k j=x:=⟨_,rfl⟩
           rw [hx]at y3 HEQ
           have HC9:=Hid.intro (HKey.out x (by rw [HEQ.out,h1,h2];rfl))
           clear h1 h2 hx
           gi_wp2
           exact⟨⟨j+1,by go_num,by omega,Hid.intro (fun e=>by cases e),HC9,Hid.intro (HBj.out.setCell HGi.out _)⟩,by simp only [intOf];omega⟩
        ·obtain rfl:n=j:=by omega
         gi_wp2
         exact⟨⟨i+1,by go_num,by omega,Hid.intro (HDj.out.congr fun a b _ h=>ldM_turn k i a h),HBj⟩,by simp only [intOf];omega⟩
      ·obtain rfl:n=i:=by omega
       gi_wp2
       exact⟨⟨k+1,by go_num,by omega,Hid.intro (HDi.out.congr fun a b h _=>by rw [ldM_round k b h,ldM_zero]),HBi⟩,by simp only [intOf];omega⟩
    ·obtain rfl:n=k:=by omega
     gi_wp2
     all_goals (first|go_returns|go_ret|go_end0)
     exact⟨_,rfl,HDk.out.bTab h0,HBk.out⟩
end Go.Num
