/-
  'areChances', whole. 'isLong', 'anyLong', 'Check' of the program. A row of strings that is handed in: what lies in memory. More steps of the
  Conditions: see each statement.
-/
import Derived.ChangeSlices
import Derived.Test.YtepakfjilnpodaaGreatDoorRDAX
import Derived.SliceStrings
import Derived.Test.YtepakfjilnpodaaGreatDoorRDAW
import Derived.Test.YtepakfjilnpodaaGreatDoorRDAP
import Derived.Test.YtepakfjilnpodaaGreatDoorRDAV
import Derived.Test.YtepakfjilnpodaaGreatDoorRDAR
namespace Go.Num
open Go.ChangeShapes Go.WideShapes Go.Eng Go.RowKit Go.Proofs Go.Proofs.YtepakfjilnpodaaGreatDoor
section
variable {H:Type} {enc:TypeId × Value→H} {w:World} {base:Nat} {spare:Nat→Bool} {held:Bool}
theorem irow_of{fuel:Nat}{v:Value}{x:DataW H × List MemPlace}(h:DataW.trod enc Tryz.prog w base spare held fuel 45 [v]=some x):∃(n:Nat) (s:Nat→Int),ReadAt w v n (fun j => .int .i64 (s j)):=by
 rcases open_ints (e:=3) (k:=.i64) (by kernel_rfl) (by kernel_rfl) (by kernel_rfl) h with⟨hcs,_⟩|⟨a,len,cap,zs,hcs,_,hl,hm,hz,_,hcell,_⟩
 ·injection hcs with hv _
  exact⟨0,fun _=>0,⟨none,0,hv,by omega,fun h=>absurd h (by omega)⟩⟩
 ·injection hcs with hv _
  have hlen:len≤zs.length:=by rw [hz];split <;> omega
  have hm':cap≤9223372036854775807:=hm
  refine⟨len,fun j=>zs.getD j 0,⟨some a,cap,hv,by omega,fun h0=>⟨a,rfl,?_,fun i hi=>hcell i (by omega)⟩⟩⟩
  have:=World.block_lt_of_cell? _ _ (hcell 0 (by omega))
  rwa [add_block]at this
theorem itab_of{v:Value}{d:DataW H}{ps:List MemPlace}(hs:∃a len cap,v = .slice a len cap)(h:DataW.Trod enc Tryz.prog w base spare held 39 v d ps):∃(n:Nat) (rv:Nat→Value) (m:Nat→Nat) (s:Nat→Nat→Int),ITabAt w v n rv m s:=by
 obtain⟨a,len,cap,rfl⟩:=hs
 obtain⟨fuel,h⟩:=h
 have h:DataW.trod enc Tryz.prog w base spare held fuel 39 [.slice a len cap]=some (d,ps):=h
 rcases DataW.trod_slice (e:=45) (by kernel_rfl) h with⟨hcs,_⟩|⟨a,len,cap,elems,rest,n,_,hcs,_,_,hl,hm,hlen,hel,_,_⟩
 ·injection hcs with hv _
  exact⟨0,fun _ => .nilFunc,fun _=>0,fun _ _=>0,⟨none,0,hv,by omega,fun h=>absurd h (by omega)⟩,fun i hi=>absurd hi (by omega)⟩
 ·injection hcs with hv _
  have hm':cap≤9223372036854775807:=hm
  have each:∀i,∃t:Value × Nat × (Nat→Int),i<len→w.cell? (a.add i)=some t.1∧ReadAt w t.1 t.2.1 (fun j => .int .i64 (t.2.2 j)):=by
   intro i
   by_cases hi:i<len
   ·have he:=hel i hi
    rw [show Tryz.prog.cellsOf 45=1 by kernel_rfl,Nat.mul_one,List.getElem?_eq_getElem (by omega),Option.bind_eq_some_iff]at he
    obtain⟨cs,hcs,hy⟩:=he
    obtain⟨x,rfl⟩:∃x,cs = [x]:=by
     rcases DataW.trod_slice (e:=3) (by kernel_rfl) hy with⟨rfl,_⟩|⟨_,_,_,_,_,_,_,rfl,_⟩
     ·exact⟨_,rfl⟩
     ·exact⟨_,rfl⟩
    obtain⟨k,s,h1⟩:=irow_of hy
    exact⟨(x,k,s),fun _=>⟨cell_of_cells?_one hcs,h1⟩⟩
   ·exact⟨(.nilFunc,0,fun _=>0),fun h=>absurd h hi⟩
  have hall:=fun i=>Classical.choose_spec (each i)
  refine⟨len,fun i=>(Classical.choose (each i)).1,fun i=>(Classical.choose (each i)).2.1,fun i=>(Classical.choose (each i)).2.2,⟨some a,cap,hv,by omega,fun h0=>⟨a,rfl,?_,fun i hi=>(hall i hi).1⟩⟩,fun i hi=>(hall i hi).2⟩
  have:=World.block_lt_of_cell? _ _ (hall 0 h0).1
  rwa [add_block]at this
end
end Go.Num
namespace Go.Num
open Go.Eng Go.Shelf Go.RowKit Go.Sort Go.Proofs Go.Proofs.YtepakfjilnpodaaGreatDoor
set_option maxRecDepth 100000 in
set_option maxHeartbeats 2000000 in
theorem containsLong_calls(w:World)(v:Value)(l:List Rat)(n:Nat)(h:RowC w v l)(hn:l.length=n)(h9:n≤1000)(hL:∀i,i<n→RatLe (l.getD i 0) 100000)(htab:Pow10 w) :
  CallsIn Fence.wide 0 Tryz.prog 171 #[v,.func (.func 172) #[] #[]] w fun e w'=>e = .returned (.bool (firstLong l n))∧Below w.heap.size w w':=by
 have HR:=Hid.intro h
 have HL:=Hid.intro hL
 have HT:=Hid.intro htab
 have HN:=Hid.intro hn
 obtain⟨fb,hfb⟩:∃b,firstLong l n=b:=⟨_,rfl⟩
 rw [hfb]
 have HFB:=Hid.intro hfb
 clear h hL htab hn hfb
 refine callsIn_of_wp Tryz.func171 rfl trivial ?_ rfl
 simp only [Tryz.ntmps171,List.size_toArray,List.length_cons,List.length_nil,Nat.reduceAdd,Nat.reduceSub,Array.replicate_succ,Array.replicate_zero,List.push_toArray,List.append_toArray,List.nil_append,List.cons_append]
 gi_wp2_with (gi_at_call 207;refine stop ?_)
 unfold Stop
 refine(indexLong_calls w _ l n HR.out HN.out h9 HL.out HT.out).mono ?_
 rintro e w2 ⟨z,rfl,hz,hB2⟩
 rw [HFB.out]at hz
 have HZ:Hid (decide (0≤z)=fb):=Hid.intro (by cases fb <;> simp_all)
 have HB2:=Hid.intro hB2
 clear hz hB2
 gi_wp2
 all_goals (first|go_returns|go_ret|go_end0)
 exact⟨by rw [←HZ.out];rfl,HB2.out⟩
theorem firstLong_fine(l:List Rat):∀n,n≤l.length→(firstLong l n=false↔∀j,j<n→fineB (l.getD j 0)=true)
 | 0,_=>⟨fun _ j hj=>by omega,fun _=>rfl⟩
 | n+1,h=>by
  have ih:=firstLong_fine l n (by omega)
  have e:shortB (l.getD n 0)=fineB (l.getD n 0):=by
   unfold shortB fineB
   obtain⟨q,hq⟩:∃q,l.getD n 0=q:=⟨_,rfl⟩
   rw [hq]
   have:decide (0≤q.num)=decide (0≤sgnR q):=by
    unfold sgnR
    split
    ·rename_i h;simp [show ¬0≤q.num by omega]
    ·split
     ·rename_i h;simp [h]
     ·rename_i h1 h2;simp [show 0≤q.num by omega]
   rw [this,Bool.and_comm]
  show(firstLong l n || !shortB (l.getD n 0))=false↔_
  rw [e,Bool.or_eq_false_iff,ih]
  constructor
  ·rintro⟨h1,h2⟩ j hj
   rcases Nat.lt_or_ge j n with q|q
   ·exact h1 j q
   ·have:j=n:=by omega
    rw [this];simpa using h2
  ·intro h1
   exact⟨fun j hj=>h1 j (by omega),by rw [h1 n (by omega)];rfl⟩
theorem sumT_take(l:List Rat):∀k,k≤l.length→sumL (l.take k)=sumT l k
 | 0,_=>rfl
 | k+1,h=>by
  rw [List.take_add_one,getD_at (a:=l) (i:=k) (by omega)]
  show sumL (l.take k ++ [l.getD k 0])=sumT l k+l.getD k 0
  rw [sumL_snoc,sumT_take l k (by omega)]
set_option maxRecDepth 100000 in
set_option maxHeartbeats 2000000 in
theorem chances_calls(w:World)(v:Value)(l:List Rat)(n:Nat)(h:RowC w v l)(hn:l.length=n)(h9:n≤9)(hL:∀i,i<n→RatLe (l.getD i 0) 100000)(htab:Pow10 w) :
  CallsIn Fence.wide 0 Tryz.prog 104 #[v] w fun e w'=>e = .returned (.bool (dsB l))∧Below w.heap.size w w':=by
 have HR:=Hid.intro h
 have HL:=Hid.intro hL
 have HT:=Hid.intro htab
 have HN:=Hid.intro hn
 obtain⟨db,hdb⟩:∃b,dsB l=b:=⟨_,rfl⟩
 rw [hdb]
 have HDB:=Hid.intro hdb
 clear h hL htab hn hdb
 refine callsIn_of_wp Tryz.func104 rfl trivial ?_ rfl
 simp only [Tryz.ntmps104,List.size_toArray,List.length_cons,List.length_nil,Nat.reduceAdd,Nat.reduceSub,Array.replicate_succ,Array.replicate_zero,List.push_toArray,List.append_toArray,List.nil_append,List.cons_append]
 gi_wp2_with (gi_at_call 171;refine stop ?_)
 unfold Stop
 refine(containsLong_calls w _ l n HR.out HN.out (by omega) HL.out HT.out).mono ?_
 rintro e w2 ⟨rfl,hB2⟩
 have HB2:=Hid.intro hB2
 clear hB2
 cases hf:firstLong l n with
 | true=>
  have HD:Hid (db=false):=Hid.intro (by
   rw [←HDB.out]
   unfold dsB
   have:l.all fineB≠true:=fun ha=>by
    rw [List.all_eq_true]at ha
    have:=(firstLong_fine l n (by rw [HN.out];exact Nat.le_refl _)).2 fun j hj=>ha _ (List.mem_of_getElem? (getD_at (by rw [HN.out];exact hj)))
    rw [hf]at this;cases this
   cases hb:l.all fineB with
   | true=>exact absurd hb this
   | false=>rfl)
  clear hf
  gi_wp2
  all_goals (first|go_returns|go_ret|go_end0)
  exact⟨by rw [HD.out];rfl,HB2.out⟩
 | false=>
  have hfine:=(firstLong_fine l n (by rw [HN.out];exact Nat.le_refl _)).1 hf
  have HFn:=Hid.intro hfine
  have hle:∀k,RatLe (sumL (l.take k)) 100:=fun k=>by
   rcases Nat.lt_or_ge n k with q|q
   ·rw [List.take_of_length_le (by rw [HN.out];omega),←List.take_of_length_le (i:=n) (l:=l) (by rw [HN.out];exact Nat.le_refl _),sumT_take l n (by rw [HN.out];exact Nat.le_refl _)]
    exact(sumT_le fun j hj=>fine_le (hfine j hj)).mono (by omega)
   ·rw [sumT_take l k (by rw [HN.out];exact q)]
    exact(sumT_le fun j hj=>fine_le (hfine j (by omega))).mono (by omega)
  have HLe:=Hid.intro hle
  have hlq:∀q∈l,RatLe q 100:=fun q hq=>by
   obtain⟨i,hi⟩:=List.mem_iff_getElem?.1 hq
   have hl:=(List.getElem?_eq_some_iff.1 hi).1
   rw [getD_at hl]at hi
   injection hi with hi
   rw [←hi]
   exact(fine_le (hfine i (by rw [←HN.out];exact hl))).mono (by omega)
  have HLq:=Hid.intro hlq
  clear hf hfine hle hlq
  gi_wp2_with (gi_at_call 65;refine stop ?_)
  unfold Stop
  refine(sum_calls w2 _ l 100 (HR.out.below HB2.out) HLq.out HLe.out (fun k=>kept_le ((HLe.out k).mono (by omega))) (by omega) (HT.out.below HB2.out)).mono ?_
  rintro e w3 ⟨v3,rfl,hr3,hB3⟩
  have HR3:=Hid.intro hr3
  have HB3:=Hid.intro (HB2.out.trans (hB3.mono HB2.out.size))
  clear hr3 hB3
  gi_wp2_with (gi_at_call 16;refine stop ?_)
  unfold Stop
  refine(ofN_calls w3 1 (by decide) (by decide)).mono ?_
  rintro e w4 ⟨v4,rfl,hr4,hB4⟩
  have HR3':=Hid.intro (HR3.out.below hB4)
  have HR4:=Hid.intro hr4
  have HB4:=Hid.intro (HB3.out.trans (hB4.mono HB3.out.size))
  clear hr4 hB4
  gi_wp2_with (gi_at_call 15;refine stop ?_)
  unfold Stop
  refine(cmpR_calls w4 _ _ (sumL l) ((1:Int):Rat) 100 HR3'.out HR4.out (by have:=HLe.out n;rwa [List.take_of_length_le (by rw [HN.out];exact Nat.le_refl _)]at this) ((ratLe_int (z:=1) (L:=1) (by decide) (by decide)).mono (by omega)) (by omega)).mono ?_
  rintro e w5 ⟨rfl,hB5⟩
  have HB5:=Hid.intro (HB4.out.trans (hB5.mono HB4.out.size))
  have HD:Hid (decide (sgnR (sumL l-((1:Int):Rat))=0)=db):=Hid.intro (by
   rw [←HDB.out]
   unfold dsB
   rw [all_fine (by rw [HN.out];exact HFn.out),seven_one,←sumT_take l l.length (Nat.le_refl _),List.take_length]
   rfl)
  obtain⟨sg,hsg⟩:∃z,sgnR (sumL l-((1:Int):Rat))=z:=⟨_,rfl⟩
  rw [hsg]at HD
  rw [hsg]
  clear hB5 hsg
  gi_wp2
  all_goals (first|go_returns|go_ret|go_end0)
  exact⟨by rw [←HD.out];rfl,HB5.out⟩
set_option maxRecDepth 100000 in
set_option maxHeartbeats 2000000 in
theorem badRow_calls(w:World)(v:Value)(l:List Rat)(n g:Nat)(h:RowC w v l)(h9:l.length≤9)(hL:∀i,i<l.length→RatLe (l.getD i 0) 100000)(hc:w.cell? ⟨g,0,none⟩=some (.int .i64 (n:Int)))(htab:Pow10 w) :
  CallsIn Fence.wide 0 Tryz.prog 170 #[v,.pointer (some ⟨g,0,none⟩)] w fun e w'=>e = .returned (.bool (decide (l.length≠n) || !dsB l))∧Below w.heap.size w w':=by
 have HR:=Hid.intro h
 have HL:=Hid.intro hL
 have HT:=Hid.intro htab
 obtain⟨o,c,rfl,_,_⟩:=h
 obtain⟨k,hk⟩:∃k,l.length=k:=⟨_,rfl⟩
 rw [hk]at HR h9 ⊢
 have HK:=Hid.intro hk
 obtain⟨db,hdb⟩:∃b,dsB l=b:=⟨_,rfl⟩
 rw [hdb]
 have HDB:=Hid.intro hdb
 clear hL htab hk hdb
 refine callsIn_of_wp Tryz.func170 rfl trivial ?_ rfl
 simp only [Tryz.ntmps170,List.size_toArray,List.length_cons,List.length_nil,Nat.reduceAdd,Nat.reduceSub,Array.replicate_succ,Array.replicate_zero,List.push_toArray,List.append_toArray,List.nil_append,List.cons_append]
 by_cases hkn:k=n
 ·subst hkn
  gi_wp2_with (gi_at_call 104;refine stop ?_)
  unfold Stop
  refine(chances_calls w _ l k HR.out HK.out h9 (by rw [←HK.out];exact HL.out) HT.out).mono ?_
  rintro e w2 ⟨rfl,hB2⟩
  rw [HDB.out]
  have HB2:=Hid.intro hB2
  clear hB2 hc
  gi_wp2
  all_goals (first|go_returns|go_ret|go_end0)
  exact⟨by simp,HB2.out⟩
 ·have hd:decide (k≠n)=true:=by simp [hkn]
  rw [hd]
  clear hd
  gi_wp2
  all_goals (first|go_returns|go_ret|go_end0)
  exact⟨by simp,Below.refl _ _⟩
theorem RowIs.view{β:Type}{w:World}{ty:Nat}{J:World→Value→β→Prop}{v:Value}{m:List β}(h:RowIs w ty 1 (fun b r w=>∃v,r = [v]∧J w v b) v m) :
  ∃o c,v = .slice o m.length c∧m.length≤1000000000∧∃rv:Nat→Value,(0<m.length→∃a:Addr,o=some a∧a.block<w.heap.size∧∀i,i<m.length→w.cell? (a.add i)=some (rv i))∧∀i b,m[i]? = some b→J w (rv i) b:=by
 rcases h with⟨rfl,o,c,rfl⟩|⟨a,cap,xs,rfl,h2,h3,h4,h5,h6,h7,h8⟩
 ·exact⟨o,c,rfl,by simp,fun _ => .nilFunc,fun h=>absurd h (by simp),fun i b hb=>by simp at hb⟩
 ·refine⟨some a,cap,rfl,h3.2,fun i=>(xs.getD i []).getD 0 .nilFunc,fun _=>⟨a,rfl,h4.lt,fun i hi => ?_⟩,fun i b hb => ?_⟩
  ·obtain⟨row,hr⟩:∃row,xs[i]? = some row:=⟨_,List.getElem?_eq_getElem (by omega)⟩
   have hl:=h6 row (List.mem_of_getElem? hr)
   obtain⟨x,rfl⟩:∃x,row = [x]:=by
    match row,hl with
    | [x],_=>exact⟨x,rfl⟩
   have:=h7 i _ hr 0 x rfl
   rw [Nat.mul_one,Nat.add_zero]at this
   rw [this]
   show some x=some ((xs.getD i []).getD 0 .nilFunc)
   rw [List.getD_eq_getElem?_getD (l:=xs),hr]
   rfl
  ·have hi:i<m.length:=(List.getElem?_eq_some_iff.1 hb).1
   obtain⟨row,hr⟩:∃row,xs[i]? = some row:=⟨_,List.getElem?_eq_getElem (by omega)⟩
   obtain⟨x,rfl,hJ⟩:=h8 i row b hr hb
   show J w ((xs.getD i []).getD 0 .nilFunc) b
   rw [List.getD_eq_getElem?_getD (l:=xs),hr]
   exact hJ
theorem RowIs.form{β:Type}{w:World}{ty sz:Nat}{I:β→List Value→World→Prop}{v:Value}{bs:List β}(h:RowIs w ty sz I v bs):∃o c,v = .slice o bs.length c∧bs.length≤1000000000:=by
 rcases h with⟨rfl,o,c,rfl⟩|⟨a,cap,xs,rfl,_,h3,_⟩
 ·exact⟨o,c,rfl,by simp⟩
 ·exact⟨_,_,rfl,h3.2⟩
theorem add_add_k(a:Addr)(i k:Nat)(hk:0<k):(⟨(a.add i).block,(a.add i).off+k,none⟩:Addr)=a.add (i+k):=by
 unfold Addr.add
 split <;> simp_all <;> omega
theorem RowIs.item{w:World}{a:Addr}{n c:Nat}{qs:List Rat}(h:RowR w (.slice (some a) n c) qs){i:Nat}{q:Rat}(hq:qs[i]? = some q) :
  a.block<w.heap.size∧∃sg o1 k1 c1 o2 k2 c2,w.cell? (a.add (i*3))=some (.bool sg)∧w.cell? ⟨(a.add (i*3)).block,(a.add (i*3)).off+1,none⟩=some (.slice o1 k1 c1)∧w.cell? ⟨(a.add (i*3)).block,(a.add (i*3)).off+2,none⟩=some (.slice o2 k2 c2)∧RatAt w (.agg #[.bool sg,.slice o1 k1 c1,.slice o2 k2 c2]) q:=by
 rcases h with⟨rfl,_⟩|⟨a',cap,xs,e,h2,h3,h4,h5,h6,h7,h8⟩
 ·simp at hq
 ·injection e with e _ _
  injection e with e
  subst e
  have hi:i<qs.length:=(List.getElem?_eq_some_iff.1 hq).1
  obtain⟨row,hr⟩:∃row,xs[i]? = some row:=⟨_,List.getElem?_eq_getElem (by omega)⟩
  have hR:RatAt w (.agg row.toArray) q:=h8 i row q hr hq
  obtain⟨o1,k1,c1,o2,k2,c2,hf⟩:=hR.form
  have hrow:row = [.bool (decide (q.num<0)),.slice o1 k1 c1,.slice o2 k2 c2]:=by
   injection hf with hf
   have:=congrArg Array.toList hf
   simpa using this
  subst hrow
  exact⟨h4.lt,_,o1,k1,c1,o2,k2,c2,h7 i _ hr 0 _ rfl,by rw [add_add_k _ _ _ (by decide)];exact h7 i _ hr 1 _ rfl,by rw [add_add_k _ _ _ (by decide)];exact h7 i _ hr 2 _ rfl,hR⟩
def MtC(w:World)(v:Value)(M:List (List Rat)):Prop:=M.length≤1000000000∧∃rv,ReadAt w v M.length rv∧∀i,i<M.length→RowC w (rv i) (M.getD i [])
theorem MtC.below{w w':World}{v:Value}{M:List (List Rat)}(h:MtC w v M)(hb:Below w.heap.size w w'):MtC w' v M:=by
 obtain⟨h9,rv,ht,hr⟩:=h
 exact⟨h9,rv,ht.below hb,fun i hi=>(hr i hi).below hb⟩
theorem rowC_of{w:World}{v:Value}{l:List Rat}(h:RowR w v l):RowC w v l:=by
 obtain⟨o,c,rfl,h9⟩:=RowIs.form h
 refine⟨o,c,rfl,h9,fun i q hq => ?_⟩
 have hi:i<l.length:=(List.getElem?_eq_some_iff.1 hq).1
 obtain⟨a,c',e⟩:=RowIs.some9 h (by omega)
 injection e with e _ _
 subst e
 obtain⟨ha,sg,o1,k1,c1,o2,k2,c2,h0,h1,h2,hr⟩:=RowIs.item h hq
 exact⟨a,rfl,ha,_,_,_,h0,h1,h2,hr⟩
theorem mtC_of{w:World}{v:Value}{M:List (List Rat)}(h:MatR w v M):MtC w v M:=by
 obtain⟨o,c,rfl,h9,rv,h1,h2⟩:=RowIs.view h
 refine⟨h9,rv,⟨o,c,rfl,by omega,h1⟩,fun i hi=>rowC_of (h2 i _ ?_)⟩
 rw [List.getElem?_eq_getElem hi,List.getD_eq_getElem?_getD,List.getElem?_eq_getElem hi]
 rfl
def firstBad(M:List (List Rat))(n:Nat):Nat→Bool
 | 0=>false
 | k+1=>firstBad M n k || (decide ((M.getD k []).length≠n) || !dsB (M.getD k []))
theorem firstBad_of{M:List (List Rat)}{n i:Nat}(h:(decide ((M.getD i []).length≠n) || !dsB (M.getD i []))=true):∀k,i<k→firstBad M n k=true
 | 0,q=>absurd q (by omega)
 | k+1,q=>by
  show(firstBad M n k || (decide ((M.getD k []).length≠n) || !dsB (M.getD k [])))=true
  rcases Nat.lt_or_ge i k with q'|q'
  ·rw [firstBad_of h k q'];rfl
  ·have:k=i:=by omega
   rw [this,h,Bool.or_true]
set_option maxRecDepth 100000 in
set_option maxHeartbeats 4000000 in
theorem indexBad_calls(w:World)(v:Value)(M:List (List Rat))(n g k:Nat)(h:MtC w v M)(hk:M.length=k)(h9:∀i,i<k→(M.getD i []).length≤9)(hL:∀i,i<k→∀j,j<(M.getD i []).length→RatLe ((M.getD i []).getD j 0) 100000)(hc:w.cell? ⟨g,0,none⟩=some (.int .i64 (n:Int)))(htab:Pow10 w) :
  CallsIn Fence.wide 0 Tryz.prog 206 #[v,.func (.func 170) #[] #[.pointer (some ⟨g,0,none⟩)]] w fun e w'=>∃z:Int,e = .returned (.int .i64 z)∧(0≤z↔firstBad M n k=true)∧Below w.heap.size w w':=by
 have HR:=Hid.intro h
 have HL:=Hid.intro hL
 have HT:=Hid.intro htab
 have HN:=Hid.intro hk
 have H9:=Hid.intro h9
 have HC:=Hid.intro hc
 have HGW:g<w.heap.size:=World.block_lt_of_cell? _ _ hc
 obtain⟨hk9,rv,⟨o,c,rfl,hn9,htop⟩,hrow⟩:=h
 rw [hk]at hk9 hn9 htop hrow ⊢
 have HTop:=Hid.intro htop
 have HRow:=Hid.intro hrow
 clear hL htab hk h9 hc htop hrow
 refine callsIn_of_wp Tryz.func206 rfl trivial ?_ rfl
 simp only [Tryz.ntmps206,List.size_toArray,List.length_cons,List.length_nil,Nat.reduceAdd,Nat.reduceSub,Array.replicate_succ,Array.replicate_zero,List.push_toArray,List.append_toArray,List.nil_append,List.cons_append]
 gi_wp2
 gi_loopw [8] (fun x8 wr=>∃i:Nat,x8 = .int .i64 (i:Int)∧i≤k∧Hid (firstBad M n i=false)∧Hid (Below w.heap.size w wr)) (fun x _=>k-(intOf x).toNat)
 case atStart=>exact⟨0,rfl,by omega,Hid.intro rfl,Below.refl _ w⟩
 case round=>
  obtain⟨i,rfl,hi,HF,HB⟩:=hrel
  by_cases hin:i<k
  ·obtain⟨a,rfl,ha,hcs⟩:=HTop.out (by omega)
   have hci:wr.cell? (a.add i)=some (rv i):=(HB.out.cell (p:=a.add i) (by rw [add_block];exact ha)).trans (hcs i hin)
   have HRi:=Hid.intro ((HRow.out i hin).below HB.out)
   have hcn:wr.cell? ⟨g,0,none⟩=some (.int .i64 (n:Int)):=(HB.out.cell (p:=⟨g,0,none⟩) HGW).trans HC.out
   have HCN:=Hid.intro hcn
   clear hcs ha hcn
   gi_wp2_with (gi_at_call 170;refine stop ?_)
   unfold Stop
   refine(badRow_calls wr _ (M.getD i []) n g HRi.out (H9.out i hin) (HL.out i hin) HCN.out (HT.out.below HB.out)).mono ?_
   rintro e w2 ⟨rfl,hB2⟩
   have HB2:=Hid.intro (HB.out.trans (hB2.mono HB.out.size))
   clear hB2
   cases hs:(decide ((M.getD i []).length≠n) || !dsB (M.getD i []))with
   | true=>
    have HF1:Hid (firstBad M n k=true):=Hid.intro (firstBad_of hs k hin)
    clear hs
    gi_wp2
    all_goals (first|go_returns|go_ret|go_end0)
    exact⟨_,rfl,by rw [HF1.out];simp,HB2.out⟩
   | false=>
    have HF1:Hid (firstBad M n (i+1)=false):=Hid.intro (by
     show(firstBad M n i || (decide ((M.getD i []).length≠n) || !dsB (M.getD i [])))=false
     rw [HF.out,hs];rfl)
    clear hs
    gi_wp2
    exact⟨⟨i+1,by go_num,by omega,HF1,HB2⟩,by simp only [intOf];omega⟩
  ·obtain rfl:i=k:=by omega
   gi_wp2
   all_goals (first|go_returns|go_ret|go_end0)
   exact⟨_,rfl,by rw [HF.out];simp,HB.out⟩
set_option maxRecDepth 100000 in
set_option maxHeartbeats 2000000 in
theorem containsBad_calls(w:World)(v:Value)(M:List (List Rat))(n g k:Nat)(h:MtC w v M)(hk:M.length=k)(h9:∀i,i<k→(M.getD i []).length≤9)(hL:∀i,i<k→∀j,j<(M.getD i []).length→RatLe ((M.getD i []).getD j 0) 100000)(hc:w.cell? ⟨g,0,none⟩=some (.int .i64 (n:Int)))(htab:Pow10 w) :
  CallsIn Fence.wide 0 Tryz.prog 169 #[v,.func (.func 170) #[] #[.pointer (some ⟨g,0,none⟩)]] w fun e w'=>e = .returned (.bool (firstBad M n k))∧Below w.heap.size w w':=by
 have HR:=Hid.intro h
 have HL:=Hid.intro hL
 have HT:=Hid.intro htab
 have HN:=Hid.intro hk
 have H9:=Hid.intro h9
 have HC:=Hid.intro hc
 obtain⟨fb,hfb⟩:∃b,firstBad M n k=b:=⟨_,rfl⟩
 rw [hfb]
 have HFB:=Hid.intro hfb
 clear h hL htab hk h9 hc hfb
 refine callsIn_of_wp Tryz.func169 rfl trivial ?_ rfl
 simp only [Tryz.ntmps169,List.size_toArray,List.length_cons,List.length_nil,Nat.reduceAdd,Nat.reduceSub,Array.replicate_succ,Array.replicate_zero,List.push_toArray,List.append_toArray,List.nil_append,List.cons_append]
 gi_wp2_with (gi_at_call 206;refine stop ?_)
 unfold Stop
 refine(indexBad_calls w _ M n g k HR.out HN.out H9.out HL.out HC.out HT.out).mono ?_
 rintro e w2 ⟨z,rfl,hz,hB2⟩
 rw [HFB.out]at hz
 have HZ:Hid (decide (0≤z)=fb):=Hid.intro (by cases fb <;> simp_all)
 have HB2:=Hid.intro hB2
 clear hz hB2
 gi_wp2
 all_goals (first|go_returns|go_ret|go_end0)
 exact⟨by rw [←HZ.out];rfl,HB2.out⟩
end Go.Num
namespace Go.Num
def ldW(E:Nat→Nat→Bool):Nat→Nat→Nat→Bool
 | 0=>E
 | k+1=>fun i j=>ldW E k i j || (ldW E k i k && ldW E k k j)
section
variable {E:Nat→Nat→Bool}
theorem ldW_step(k i j:Nat):ldW E (k+1) i j=(ldW E k i j || (ldW E k i k && ldW E k k j)):=rfl
theorem ldW_row(k i:Nat):ldW E (k+1) i k=ldW E k i k:=by
 rw [ldW_step];cases ldW E k i k <;> simp
theorem ldW_col(k j:Nat):ldW E (k+1) k j=ldW E k k j:=by
 rw [ldW_step];cases ldW E k k j <;> simp
def ldM(E:Nat→Nat→Bool)(k i j a b:Nat):Bool:=if a<i∨(a=i∧b<j)then ldW E (k+1) a b else ldW E k a b
theorem ldM_row(k i j:Nat):ldM E k i j i k=ldW E k i k:=by
 unfold ldM;split
 ·exact ldW_row k i
 ·rfl
theorem ldM_col(k i j b:Nat):ldM E k i j k b=ldW E k k b:=by
 unfold ldM;split
 ·exact ldW_col k b
 ·rfl
theorem ldM_cur(k i j:Nat):ldM E k i j i j=ldW E k i j:=by
 unfold ldM;rw [if_neg (by omega)]
theorem ldM_next(k i j a b:Nat):ldM E k i (j+1) a b=if a=i∧b=j then ldW E (k+1) i j else ldM E k i j a b:=by
 unfold ldM
 by_cases h:a=i∧b=j
 ·obtain⟨rfl,rfl⟩:=h
  rw [if_pos (by omega),if_pos ⟨rfl,rfl⟩]
 ·rw [if_neg h]
  by_cases h1:a<i∨(a=i∧b<j)
  ·rw [if_pos h1,if_pos (by omega)]
  ·rw [if_neg h1,if_neg (by omega)]
theorem ldM_turn{n:Nat}(k i a:Nat){b:Nat}(h:b<n):ldM E k i n a b=ldM E k (i+1) 0 a b:=by
 unfold ldM
 by_cases h1:a<i∨(a=i∧b<n)
 ·rw [if_pos h1,if_pos (by omega)]
 ·rw [if_neg h1,if_neg (by omega)]
theorem ldM_round{n:Nat}(k b:Nat){a:Nat}(h:a<n):ldM E k n 0 a b=ldM E (k+1) 0 0 a b:=by
 unfold ldM
 rw [if_pos (by omega),if_neg (by omega)]
theorem ldM_zero(k a b:Nat):ldM E k 0 0 a b=ldW E k a b:=by
 unfold ldM;rw [if_neg (by omega)]
theorem ldW_mono1{k i j:Nat}(h:ldW E k i j=true):ldW E (k+1) i j=true:=by rw [ldW_step,h];rfl
theorem ldW_mono{i j:Nat}(h:E i j=true):∀k,ldW E k i j=true
 | 0=>h
 | k+1=>ldW_mono1 (ldW_mono h k)
theorem ldW_trans:∀k {i m j:Nat},m<k→ldW E k i m=true→ldW E k m j=true→ldW E k i j=true
 | 0,_,_,_,h,_,_=>by omega
 | k+1,i,m,j,h,h1,h2=>by
  rw [ldW_step]at h1 h2 ⊢
  rw [Bool.or_eq_true,Bool.and_eq_true]at *
  rcases Nat.lt_or_ge m k with hm|hm
  ·rcases h1 with h1|⟨h1,h3⟩
   ·rcases h2 with h2|⟨h2,h4⟩
    ·exact .inl (ldW_trans k hm h1 h2)
    ·exact .inr ⟨ldW_trans k hm h1 h2,h4⟩
   ·rcases h2 with h2|⟨h2,h4⟩
    ·exact .inr ⟨h1,ldW_trans k hm h3 h2⟩
    ·exact .inr ⟨h1,h4⟩
  ·have:m=k:=by omega
   subst this
   refine .inr ⟨?_,?_⟩
   ·rcases h1 with h1|⟨h1,_⟩ <;> exact h1
   ·rcases h2 with h2|⟨_,h2⟩ <;> exact h2
def EdN(E:Nat→Nat→Bool)(n x y:Nat):Prop:=x<n∧y<n∧E x y=true
theorem ldW_sound{n:Nat}:∀k,k≤n→∀i j,i<n→j<n→ldW E k i j=true→∃m,Way (EdN E n) i j m
 | 0,_,i,j,hi,hj,h=>⟨1,.snoc (.nil i) ⟨hi,hj,h⟩⟩
 | k+1,hk,i,j,hi,hj,h=>by
  rw [ldW_step,Bool.or_eq_true,Bool.and_eq_true]at h
  rcases h with h|⟨h1,h2⟩
  ·exact ldW_sound k (by omega) i j hi hj h
  ·obtain⟨a,ha⟩:=ldW_sound k (by omega) i k hi (by omega) h1
   obtain⟨b,hb⟩:=ldW_sound k (by omega) k j (by omega) hj h2
   exact⟨a+b,ha.app hb⟩
theorem ldW_full{n:Nat}(hr:∀i,i<n→E i i=true){i j m:Nat}(hi:i<n)(h:Way (EdN E n) i j m):ldW E n i j=true∧j<n:=by
 induction h with
 | nil=>exact⟨ldW_mono (hr i hi) n,hi⟩
 | snoc _ e ih=>exact⟨ldW_trans n e.1 ih.1 (ldW_mono e.2.2 n),e.2.1⟩
theorem ldW_way{n:Nat}(hr:∀i,i<n→E i i=true){i j:Nat}(hi:i<n)(hj:j<n):ldW E n i j=true↔∃m,Way (EdN E n) i j m:=
 ⟨ldW_sound n (Nat.le_refl _) i j hi hj,fun⟨_,h⟩=>(ldW_full hr hi h).1⟩
end
end Go.Num
namespace Go.Eng
open Go.RowKit Go.Num Go.Proofs Go.Proofs.YtepakfjilnpodaaGreatDoor
def ItemArr(P:Program)(t:TypeId)(len sz:Nat):Prop:=∀(p:Addr) (k:Nat) (w:World),k<len→(Instr.indexAt t (.pointer (some p)) (.int .i64 (k:Int))).run P w = .ok (.pointer (some (p.add (k*sz)))) w
theorem itemArr_of{P:Program}{t e:TypeId}{inf:TypeInfo}{len sz:Nat}(hu:P.underlying t=some (.array len e))(hi:P.info? e=some inf)(hs:inf.size=sz):ItemArr P t len sz:=by
 intro p k w hk
 have hk':(k:Int)<(len:Int):=by omega
 subst hs
 simp [Instr.indexAt,asIntOf,hu,hk,Instr.sureAddr,underlying,sizeOf,typeInfo,hi,Sem.run_bind,Sem.run_pure,Result.andThen,go_sem]
section
variable {K:World→Prop} {ks:List Nat} {P:Program} {nt:Nat} {ops:Array Oper} {bs bars r:List Nat} {i:Nat} {a:CAct} {ov:List (Tmp × Value)} {w:World} {Q:CAct→World→Prop} {gd:Option (Nat × Bool)}
theorem GS.nil{x:Operand}{p:Addr}{d:Tmp}{ty:TypeId}{ps:String}{af:Array Edge}(ho:ops[i]? = some {op:=.nilCheck x,dst:=some d,type:=ty,pos:=ps,after:=af,guard:=gd})(hg:GSt ops a ov true gd)(hb:bars.contains i=false)(hd:Nat.blt d nt=true)
  (hx:look a ov x = .pointer (some p)) (h:GS K ks P nt ops bs bars Q r a ((d,.pointer (some p)) :: ov) w):GS K ks P nt ops bs bars Q (i :: r) a ov w:=
 GS.read _ ho hg rfl hb hd (fun w' _=>by simp [execOp,hx,Sem.run_pure]) h
theorem GS.fld{s:TypeId}{x:Operand}{f off:Nat}{p:Addr}{d:Tmp}{ty:TypeId}{ps:String}{af:Array Edge}(hF:FieldIn P s f off)(ho:ops[i]? = some {op:=.fieldAddr s x f,dst:=some d,type:=ty,pos:=ps,after:=af,guard:=gd})(hg:GSt ops a ov true gd)(hb:bars.contains i=false)(hd:Nat.blt d nt=true)
  (hx:look a ov x = .pointer (some p)) (h:GS K ks P nt ops bs bars Q r a ((d,.pointer (some (p.add off))) :: ov) w):GS K ks P nt ops bs bars Q (i :: r) a ov w:=
 GS.read _ ho hg rfl hb hd (fun w' _=>by simp [execOp,hx,hF p w']) h
theorem GS.ixA{t:TypeId}{x y:Operand}{p:Addr}{len k sz:Nat}{d:Tmp}{ty:TypeId}{ps:String}{af:Array Edge}(hI:ItemArr P t len sz)(hk:k<len)(ho:ops[i]? = some {op:=.indexAddr t x y,dst:=some d,type:=ty,pos:=ps,after:=af,guard:=gd})(hg:GSt ops a ov true gd)(hb:bars.contains i=false)(hd:Nat.blt d nt=true)
  (hx:look a ov x = .pointer (some p)) (hy:look a ov y = .int .i64 (k:Int)) (h:GS K ks P nt ops bs bars Q r a ((d,.pointer (some (p.add (k*sz)))) :: ov) w):GS K ks P nt ops bs bars Q (i :: r) a ov w:=
 GS.read _ ho hg rfl hb hd (fun w' _=>by simp [execOp,hx,hy,hI p k w' hk]) h
theorem GS.ixS{t:TypeId}{x y:Operand}{p:Addr}{len cap k sz:Nat}{d:Tmp}{ty:TypeId}{ps:String}{af:Array Edge}(hI:ItemAt P t sz)(hk:k<len)(ho:ops[i]? = some {op:=.indexAddr t x y,dst:=some d,type:=ty,pos:=ps,after:=af,guard:=gd})(hg:GSt ops a ov true gd)(hb:bars.contains i=false)(hd:Nat.blt d nt=true)
  (hx:look a ov x = .slice (some p) len cap) (hy:look a ov y = .int .i64 (k:Int)) (h:GS K ks P nt ops bs bars Q r a ((d,.pointer (some (p.add (k*sz)))) :: ov) w):GS K ks P nt ops bs bars Q (i :: r) a ov w:=
 GS.read _ ho hg rfl hb hd (fun w' _=>by simp [execOp,hx,hy,hI p len cap k w' hk]) h
theorem GS.st{t:TypeId}{x y:Operand}{p v:Value}{w':World}{ty:TypeId}{ps:String}{af:Array Edge}(hKw:K w')(hrun:(Instr.storeAt t p v).run P w = .ok () w')(ho:ops[i]? = some {op:=.store t x y,dst:=none,type:=ty,pos:=ps,after:=af,guard:=gd})(hg:GSt ops a ov true gd)(hb:bars.contains i=true)(hl:lastK bs ks ops.size i=true)
  (hx:look a ov x=p) (hy:look a ov y=v) (h:GS K ks P nt ops bs bars Q r a ov w'):GS K ks P nt ops bs bars Q (i :: r) a ov w:=by
 intro hn hk
 have e:=putAll_eval a ov (by rw [hn];exact hk)
 exact⟨_,ho,.inr ⟨gat_of (by rw [hn];exact hk) hg,.inl ⟨hb,.inr ⟨w',undef,.inr ⟨by simp [execOp,e,hx,hy,hrun],rfl⟩,.inl ⟨hl,hKw⟩,h hn hk⟩⟩⟩⟩
end
end Go.Eng
