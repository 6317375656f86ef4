/-
  'areChances', whole. 'attempt' of a closure that does not panic: four instances. Printed by mkAtt6.py. 'isLong', 'anyLong', 'Check' of the p
  Conditions: see each statement.
-/
import Derived.ChangeSlices
import Derived.Test.YtepakfjilnpodaaGreatDoorRCBB
import Derived.SliceStrings
import Derived.Test.YtepakfjilnpodaaGreatDoorRCAZ
import Derived.Test.YtepakfjilnpodaaGreatDoorRCBA
import Derived.Test.YtepakfjilnpodaaGreatDoorRCAP
import Derived.Test.YtepakfjilnpodaaGreatDoorRCAW
import Derived.Test.YtepakfjilnpodaaGreatDoorRCAO
import Derived.Test.YtepakfjilnpodaaGreatDoorRCAS
namespace Go.Num
open Go.ChangeShapes Go.WideShapes Go.Eng Go.RowKit Go.Proofs Go.Proofs.YtepakfjilnpodaaGreatDoor
section
variable {H:Type} {enc:TypeId × Value→H} {w:World} {base:Nat} {spare:Nat→Bool} {held:Bool}
theorem irow_of{fuel:Nat}{v:Value}{x:DataW H × List MemPlace}(h:DataW.trod enc Tryz.prog w base spare held fuel 45 [v]=some x):∃(n:Nat) (s:Nat→Int),ReadAt w v n (fun j => .int .i64 (s j)):=by
 rcases open_ints (e:=3) (k:=.i64) (by kernel_rfl) (by kernel_rfl) (by kernel_rfl) h with⟨hcs,_⟩|⟨a,len,cap,zs,hcs,_,hl,hm,hz,_,hcell,_⟩
 ·injection hcs with hv _
  exact⟨0,fun _=>0,⟨none,0,hv,by omega,fun h=>absurd h (by omega)⟩⟩
 ·injection hcs with hv _
  have hlen:len≤zs.length:=by rw [hz];split <;> omega
  have hm':cap≤9223372036854775807:=hm
  refine⟨len,fun j=>zs.getD j 0,⟨some a,cap,hv,by omega,fun h0=>⟨a,rfl,?_,fun i hi=>hcell i (by omega)⟩⟩⟩
  have:=World.block_lt_of_cell? _ _ (hcell 0 (by omega))
  rwa [add_block]at this
theorem itab_of{v:Value}{d:DataW H}{ps:List MemPlace}(hs:∃a len cap,v = .slice a len cap)(h:DataW.Trod enc Tryz.prog w base spare held 39 v d ps):∃(n:Nat) (rv:Nat→Value) (m:Nat→Nat) (s:Nat→Nat→Int),ITabAt w v n rv m s:=by
 obtain⟨a,len,cap,rfl⟩:=hs
 obtain⟨fuel,h⟩:=h
 have h:DataW.trod enc Tryz.prog w base spare held fuel 39 [.slice a len cap]=some (d,ps):=h
 rcases DataW.trod_slice (e:=45) (by kernel_rfl) h with⟨hcs,_⟩|⟨a,len,cap,elems,rest,n,_,hcs,_,_,hl,hm,hlen,hel,_,_⟩
 ·injection hcs with hv _
  exact⟨0,fun _ => .nilFunc,fun _=>0,fun _ _=>0,⟨none,0,hv,by omega,fun h=>absurd h (by omega)⟩,fun i hi=>absurd hi (by omega)⟩
 ·injection hcs with hv _
  have hm':cap≤9223372036854775807:=hm
  have each:∀i,∃t:Value × Nat × (Nat→Int),i<len→w.cell? (a.add i)=some t.1∧ReadAt w t.1 t.2.1 (fun j => .int .i64 (t.2.2 j)):=by
   intro i
   by_cases hi:i<len
   ·have he:=hel i hi
    rw [show Tryz.prog.cellsOf 45=1 by kernel_rfl,Nat.mul_one,List.getElem?_eq_getElem (by omega),Option.bind_eq_some_iff]at he
    obtain⟨cs,hcs,hy⟩:=he
    obtain⟨x,rfl⟩:∃x,cs = [x]:=by
     rcases DataW.trod_slice (e:=3) (by kernel_rfl) hy with⟨rfl,_⟩|⟨_,_,_,_,_,_,_,rfl,_⟩
     ·exact⟨_,rfl⟩
     ·exact⟨_,rfl⟩
    obtain⟨k,s,h1⟩:=irow_of hy
    exact⟨(x,k,s),fun _=>⟨cell_of_cells?_one hcs,h1⟩⟩
   ·exact⟨(.nilFunc,0,fun _=>0),fun h=>absurd h hi⟩
  have hall:=fun i=>Classical.choose_spec (each i)
  refine⟨len,fun i=>(Classical.choose (each i)).1,fun i=>(Classical.choose (each i)).2.1,fun i=>(Classical.choose (each i)).2.2,⟨some a,cap,hv,by omega,fun h0=>⟨a,rfl,?_,fun i hi=>(hall i hi).1⟩⟩,fun i hi=>(hall i hi).2⟩
  have:=World.block_lt_of_cell? _ _ (hall 0 h0).1
  rwa [add_block]at this
end
section
variable {H:Type} {enc:TypeId × Value→H} {w:World} {base:Nat} {spare:Nat→Bool} {held:Bool}
theorem srow_of{fuel:Nat}{v:Value}{x:DataW H × List MemPlace}(h:DataW.trod enc Tryz.prog w base spare held fuel 71 [v]=some x):∃(n:Nat) (s:Nat→ByteArray),ReadAt w v n (fun j => .string (s j))∧∀j,j<n→(s j).size≤9223372036854775807:=by
 rcases open_strings (e:=9) (by kernel_rfl) (by kernel_rfl) (by kernel_rfl) h with⟨hcs,_⟩|⟨a,len,cap,ss,hcs,_,hl,hm,hz,_,hcell,hsz⟩
 ·injection hcs with hv _
  exact⟨0,fun _=>ByteArray.empty,⟨none,0,hv,by omega,fun h=>absurd h (by omega)⟩,fun j hj=>absurd hj (by omega)⟩
 ·injection hcs with hv _
  have hlen:len≤ss.length:=by rw [hz];split <;> omega
  have hm':cap≤9223372036854775807:=hm
  refine⟨len,fun j=>ss.getD j ByteArray.empty,⟨some a,cap,hv,by omega,fun h0=>⟨a,rfl,?_,fun i hi=>hcell i (by omega)⟩⟩,fun j hj => ?_⟩
  ·have:=World.block_lt_of_cell? _ _ (hcell 0 (by omega))
   rwa [add_block]at this
  ·have hmem:ss.getD j ByteArray.empty∈ss:=by
    rw [List.getD_eq_getElem?_getD,List.getElem?_eq_getElem (by omega)]
    exact List.getElem_mem _
   exact hsz _ hmem
end
end Go.Num
namespace Go.Eng
open Go.RowKit Go.Num Go.Proofs Go.Proofs.YtepakfjilnpodaaGreatDoor
def ItemArr(P:Program)(t:TypeId)(len sz:Nat):Prop:=∀(p:Addr) (k:Nat) (w:World),k<len→(Instr.indexAt t (.pointer (some p)) (.int .i64 (k:Int))).run P w = .ok (.pointer (some (p.add (k*sz)))) w
theorem itemArr_of{P:Program}{t e:TypeId}{inf:TypeInfo}{len sz:Nat}(hu:P.underlying t=some (.array len e))(hi:P.info? e=some inf)(hs:inf.size=sz):ItemArr P t len sz:=by
 intro p k w hk
 have hk':(k:Int)<(len:Int):=by omega
 subst hs
 simp [Instr.indexAt,asIntOf,hu,hk,Instr.sureAddr,underlying,sizeOf,typeInfo,hi,Sem.run_bind,Sem.run_pure,Result.andThen,go_sem]
section
variable {K:World→Prop} {ks:List Nat} {P:Program} {nt:Nat} {ops:Array Oper} {bs bars r:List Nat} {i:Nat} {a:CAct} {ov:List (Tmp × Value)} {w:World} {Q:CAct→World→Prop} {gd:Option (Nat × Bool)}
theorem GS.nil{x:Operand}{p:Addr}{d:Tmp}{ty:TypeId}{ps:String}{af:Array Edge}(ho:ops[i]? = some {op:=.nilCheck x,dst:=some d,type:=ty,pos:=ps,after:=af,guard:=gd})(hg:GSt ops a ov true gd)(hb:bars.contains i=false)(hd:Nat.blt d nt=true)
  (hx:look a ov x = .pointer (some p)) (h:GS K ks P nt ops bs bars Q r a ((d,.pointer (some p)) :: ov) w):GS K ks P nt ops bs bars Q (i :: r) a ov w:=
 GS.read _ ho hg rfl hb hd (fun w' _=>by simp [execOp,hx,Sem.run_pure]) h
theorem GS.fld{s:TypeId}{x:Operand}{f off:Nat}{p:Addr}{d:Tmp}{ty:TypeId}{ps:String}{af:Array Edge}(hF:FieldIn P s f off)(ho:ops[i]? = some {op:=.fieldAddr s x f,dst:=some d,type:=ty,pos:=ps,after:=af,guard:=gd})(hg:GSt ops a ov true gd)(hb:bars.contains i=false)(hd:Nat.blt d nt=true)
  (hx:look a ov x = .pointer (some p)) (h:GS K ks P nt ops bs bars Q r a ((d,.pointer (some (p.add off))) :: ov) w):GS K ks P nt ops bs bars Q (i :: r) a ov w:=
 GS.read _ ho hg rfl hb hd (fun w' _=>by simp [execOp,hx,hF p w']) h
theorem GS.ixA{t:TypeId}{x y:Operand}{p:Addr}{len k sz:Nat}{d:Tmp}{ty:TypeId}{ps:String}{af:Array Edge}(hI:ItemArr P t len sz)(hk:k<len)(ho:ops[i]? = some {op:=.indexAddr t x y,dst:=some d,type:=ty,pos:=ps,after:=af,guard:=gd})(hg:GSt ops a ov true gd)(hb:bars.contains i=false)(hd:Nat.blt d nt=true)
  (hx:look a ov x = .pointer (some p)) (hy:look a ov y = .int .i64 (k:Int)) (h:GS K ks P nt ops bs bars Q r a ((d,.pointer (some (p.add (k*sz)))) :: ov) w):GS K ks P nt ops bs bars Q (i :: r) a ov w:=
 GS.read _ ho hg rfl hb hd (fun w' _=>by simp [execOp,hx,hy,hI p k w' hk]) h
theorem GS.ixS{t:TypeId}{x y:Operand}{p:Addr}{len cap k sz:Nat}{d:Tmp}{ty:TypeId}{ps:String}{af:Array Edge}(hI:ItemAt P t sz)(hk:k<len)(ho:ops[i]? = some {op:=.indexAddr t x y,dst:=some d,type:=ty,pos:=ps,after:=af,guard:=gd})(hg:GSt ops a ov true gd)(hb:bars.contains i=false)(hd:Nat.blt d nt=true)
  (hx:look a ov x = .slice (some p) len cap) (hy:look a ov y = .int .i64 (k:Int)) (h:GS K ks P nt ops bs bars Q r a ((d,.pointer (some (p.add (k*sz)))) :: ov) w):GS K ks P nt ops bs bars Q (i :: r) a ov w:=
 GS.read _ ho hg rfl hb hd (fun w' _=>by simp [execOp,hx,hy,hI p len cap k w' hk]) h
theorem GS.st{t:TypeId}{x y:Operand}{p v:Value}{w':World}{ty:TypeId}{ps:String}{af:Array Edge}(hKw:K w')(hrun:(Instr.storeAt t p v).run P w = .ok () w')(ho:ops[i]? = some {op:=.store t x y,dst:=none,type:=ty,pos:=ps,after:=af,guard:=gd})(hg:GSt ops a ov true gd)(hb:bars.contains i=true)(hl:lastK bs ks ops.size i=true)
  (hx:look a ov x=p) (hy:look a ov y=v) (h:GS K ks P nt ops bs bars Q r a ov w'):GS K ks P nt ops bs bars Q (i :: r) a ov w:=by
 intro hn hk
 have e:=putAll_eval a ov (by rw [hn];exact hk)
 exact⟨_,ho,.inr ⟨gat_of (by rw [hn];exact hk) hg,.inl ⟨hb,.inr ⟨w',undef,.inr ⟨by simp [execOp,e,hx,hy,hrun],rfl⟩,.inl ⟨hl,hKw⟩,h hn hk⟩⟩⟩⟩
theorem GS.put{t:TypeId}{n:Nat}{xs:Array (Nat × Operand)}{vs:List (Nat × Value)}{v:Value}{w':World}{d:Tmp}{ty:TypeId}{ps:String}{af:Array Edge}(hrun:(Instr.buildSlice t n vs.toArray).run P w = .ok v w')(hB:Below w.heap.size w w')(ho:ops[i]? = some {op:=.buildSlice t n xs,dst:=some d,type:=ty,pos:=ps,after:=af,guard:=gd})(hg:GSt ops a ov true gd)(hb:bars.contains i=true)(hd:Nat.blt d nt=true)
  (hx:xs.toList.map (fun p=>(p.1,look a ov p.2))=vs) (h:GS K ks P nt ops bs bars Q r a ((d,v) :: ov) w'):GS K ks P nt ops bs bars Q (i :: r) a ov w:=by
 intro hn hk
 have e:=putAll_eval a ov (by rw [hn];exact hk)
 have hv:(xs.map fun p=>(p.1,(putAll a ov).eval p.2))=vs.toArray:=by
  rw [e];subst hx;apply Array.ext';rw [Array.toList_map]
 exact⟨_,ho,.inr ⟨gat_of (by rw [hn];exact hk) hg,.inl ⟨hb,.inr ⟨w',v,.inl (by
  unfold execOp
  have:(xs.map fun (i,x)=>(i,(putAll a ov).eval x))=vs.toArray:=hv
  simp [this,hrun]),.inr hB,h hn (hk.cons hd)⟩⟩⟩⟩
theorem GS.app{t:TypeId}{s x:Operand}{v y v':Value}{w':World}{d:Tmp}{ty:TypeId}{ps:String}{af:Array Edge}(hKw:K w')(hrun:(Builtin.append_ #[t,t] ty #[v,y]).run P w = .ok v' w')(ho:ops[i]? = some {op:=.call {callee:=Callee.builtin Builtin.append,args:=#[s,x],argTypes:=#[t,t]},dst:=some d,type:=ty,pos:=ps,after:=af,guard:=gd})(hg:GSt ops a ov true gd)(hb:bars.contains i=true)(hd:Nat.blt d nt=true)
  (hl:lastK bs ks ops.size i=true) (hs:look a ov s=v) (hx:look a ov x=y) (h:GS K ks P nt ops bs bars Q r a ((d,v') :: ov) w'):GS K ks P nt ops bs bars Q (i :: r) a ov w:=by
 intro hn hk
 have e:=putAll_eval a ov (by rw [hn];exact hk)
 exact⟨_,ho,.inr ⟨gat_of (by rw [hn];exact hk) hg,.inl ⟨hb,.inr ⟨w',v',.inl (by simp [execOp,resolve,invoke,builtin,e,hs,hx,hrun,Result.andThen]),.inl ⟨hl,hKw⟩,h hn (hk.cons hd)⟩⟩⟩⟩
theorem GS.as{x:Operand}{v:Value}{d:Tmp}{ty:TypeId}{ps:String}{af:Array Edge}(ho:ops[i]? = some {op:=.assign x,dst:=some d,type:=ty,pos:=ps,after:=af,guard:=gd})(hg:GSt ops a ov true gd)(hb:bars.contains i=false)(hd:Nat.blt d nt=true)
  (hx:look a ov x=v) (h:GS K ks P nt ops bs bars Q r a ((d,v) :: ov) w):GS K ks P nt ops bs bars Q (i :: r) a ov w:=
 GS.read v ho hg rfl hb hd (fun w' _=>by subst hx;rfl) h
end
end Go.Eng
namespace Go.Num
open Go.Eng Go.Shelf Go.RowKit Go.Sort Go.Proofs Go.Proofs.YtepakfjilnpodaaGreatDoor
set_option maxRecDepth 100000 in
set_option maxHeartbeats 2000000 in
theorem containsLong_calls(w:World)(v:Value)(l:List Rat)(n:Nat)(h:RowC w v l)(hn:l.length=n)(h9:n≤1000)(hL:∀i,i<n→RatLe (l.getD i 0) 100000)(htab:Pow10 w) :
  CallsIn Fence.wide 0 Tryz.prog 171 #[v,.func (.func 172) #[] #[]] w fun e w'=>e = .returned (.bool (firstLong l n))∧Below w.heap.size w w':=by
 have HR:=Hid.intro h
 have HL:=Hid.intro hL
 have HT:=Hid.intro htab
 have HN:=Hid.intro hn
 obtain⟨fb,hfb⟩:∃b,firstLong l n=b:=⟨_,rfl⟩
 rw [hfb]
 have HFB:=Hid.intro hfb
 clear h hL htab hn hfb
 refine callsIn_of_wp Tryz.func171 rfl trivial ?_ rfl
 simp only [Tryz.ntmps171,List.size_toArray,List.length_cons,List.length_nil,Nat.reduceAdd,Nat.reduceSub,Array.replicate_succ,Array.replicate_zero,List.push_toArray,List.append_toArray,List.nil_append,List.cons_append]
 gi_wp2_with (gi_at_call 207;refine stop ?_)
 unfold Stop
 refine(indexLong_calls w _ l n HR.out HN.out h9 HL.out HT.out).mono ?_
 rintro e w2 ⟨z,rfl,hz,hB2⟩
 rw [HFB.out]at hz
 have HZ:Hid (decide (0≤z)=fb):=Hid.intro (by cases fb <;> simp_all)
 have HB2:=Hid.intro hB2
 clear hz hB2
 gi_wp2
 all_goals (first|go_returns|go_ret|go_end0)
 exact⟨by rw [←HZ.out];rfl,HB2.out⟩
theorem firstLong_fine(l:List Rat):∀n,n≤l.length→(firstLong l n=false↔∀j,j<n→fineB (l.getD j 0)=true)
 | 0,_=>⟨fun _ j hj=>by omega,fun _=>rfl⟩
 | n+1,h=>by
  have ih:=firstLong_fine l n (by omega)
  have e:shortB (l.getD n 0)=fineB (l.getD n 0):=by
   unfold shortB fineB
   obtain⟨q,hq⟩:∃q,l.getD n 0=q:=⟨_,rfl⟩
   rw [hq]
   have:decide (0≤q.num)=decide (0≤sgnR q):=by
    unfold sgnR
    split
    ·rename_i h;simp [show ¬0≤q.num by omega]
    ·split
     ·rename_i h;simp [h]
     ·rename_i h1 h2;simp [show 0≤q.num by omega]
   rw [this,Bool.and_comm]
  show(firstLong l n || !shortB (l.getD n 0))=false↔_
  rw [e,Bool.or_eq_false_iff,ih]
  constructor
  ·rintro⟨h1,h2⟩ j hj
   rcases Nat.lt_or_ge j n with q|q
   ·exact h1 j q
   ·have:j=n:=by omega
    rw [this];simpa using h2
  ·intro h1
   exact⟨fun j hj=>h1 j (by omega),by rw [h1 n (by omega)];rfl⟩
theorem sumT_take(l:List Rat):∀k,k≤l.length→sumL (l.take k)=sumT l k
 | 0,_=>rfl
 | k+1,h=>by
  rw [List.take_add_one,getD_at (a:=l) (i:=k) (by omega)]
  show sumL (l.take k ++ [l.getD k 0])=sumT l k+l.getD k 0
  rw [sumL_snoc,sumT_take l k (by omega)]
set_option maxRecDepth 100000 in
set_option maxHeartbeats 2000000 in
theorem chances_calls(w:World)(v:Value)(l:List Rat)(n:Nat)(h:RowC w v l)(hn:l.length=n)(h9:n≤9)(hL:∀i,i<n→RatLe (l.getD i 0) 100000)(htab:Pow10 w) :
  CallsIn Fence.wide 0 Tryz.prog 104 #[v] w fun e w'=>e = .returned (.bool (dsB l))∧Below w.heap.size w w':=by
 have HR:=Hid.intro h
 have HL:=Hid.intro hL
 have HT:=Hid.intro htab
 have HN:=Hid.intro hn
 obtain⟨db,hdb⟩:∃b,dsB l=b:=⟨_,rfl⟩
 rw [hdb]
 have HDB:=Hid.intro hdb
 clear h hL htab hn hdb
 refine callsIn_of_wp Tryz.func104 rfl trivial ?_ rfl
 simp only [Tryz.ntmps104,List.size_toArray,List.length_cons,List.length_nil,Nat.reduceAdd,Nat.reduceSub,Array.replicate_succ,Array.replicate_zero,List.push_toArray,List.append_toArray,List.nil_append,List.cons_append]
 gi_wp2_with (gi_at_call 171;refine stop ?_)
 unfold Stop
 refine(containsLong_calls w _ l n HR.out HN.out (by omega) HL.out HT.out).mono ?_
 rintro e w2 ⟨rfl,hB2⟩
 have HB2:=Hid.intro hB2
 clear hB2
 cases hf:firstLong l n with
 | true=>
  have HD:Hid (db=false):=Hid.intro (by
   rw [←HDB.out]
   unfold dsB
   have:l.all fineB≠true:=fun ha=>by
    rw [List.all_eq_true]at ha
    have:=(firstLong_fine l n (by rw [HN.out];exact Nat.le_refl _)).2 fun j hj=>ha _ (List.mem_of_getElem? (getD_at (by rw [HN.out];exact hj)))
    rw [hf]at this;cases this
   cases hb:l.all fineB with
   | true=>exact absurd hb this
   | false=>rfl)
  clear hf
  gi_wp2
  all_goals (first|go_returns|go_ret|go_end0)
  exact⟨by rw [HD.out];rfl,HB2.out⟩
 | false=>
  have hfine:=(firstLong_fine l n (by rw [HN.out];exact Nat.le_refl _)).1 hf
  have HFn:=Hid.intro hfine
  have hle:∀k,RatLe (sumL (l.take k)) 100:=fun k=>by
   rcases Nat.lt_or_ge n k with q|q
   ·rw [List.take_of_length_le (by rw [HN.out];omega),←List.take_of_length_le (i:=n) (l:=l) (by rw [HN.out];exact Nat.le_refl _),sumT_take l n (by rw [HN.out];exact Nat.le_refl _)]
    exact(sumT_le fun j hj=>fine_le (hfine j hj)).mono (by omega)
   ·rw [sumT_take l k (by rw [HN.out];exact q)]
    exact(sumT_le fun j hj=>fine_le (hfine j (by omega))).mono (by omega)
  have HLe:=Hid.intro hle
  have hlq:∀q∈l,RatLe q 100:=fun q hq=>by
   obtain⟨i,hi⟩:=List.mem_iff_getElem?.1 hq
   have hl:=(List.getElem?_eq_some_iff.1 hi).1
   rw [getD_at hl]at hi
   injection hi with hi
   rw [←hi]
   exact(fine_le (hfine i (by rw [←HN.out];exact hl))).mono (by omega)
  have HLq:=Hid.intro hlq
  clear hf hfine hle hlq
  gi_wp2_with (gi_at_call 65;refine stop ?_)
  unfold Stop
  refine(sum_calls w2 _ l 100 (HR.out.below HB2.out) HLq.out HLe.out (fun k=>kept_le ((HLe.out k).mono (by omega))) (by omega) (HT.out.below HB2.out)).mono ?_
  rintro e w3 ⟨v3,rfl,hr3,hB3⟩
  have HR3:=Hid.intro hr3
  have HB3:=Hid.intro (HB2.out.trans (hB3.mono HB2.out.size))
  clear hr3 hB3
  gi_wp2_with (gi_at_call 16;refine stop ?_)
  unfold Stop
  refine(ofN_calls w3 1 (by decide) (by decide)).mono ?_
  rintro e w4 ⟨v4,rfl,hr4,hB4⟩
  have HR3':=Hid.intro (HR3.out.below hB4)
  have HR4:=Hid.intro hr4
  have HB4:=Hid.intro (HB3.out.trans (hB4.mono HB3.out.size))
  clear hr4 hB4
  gi_wp2_with (gi_at_call 15;refine stop ?_)
  unfold Stop
  refine(cmpR_calls w4 _ _ (sumL l) ((1:Int):Rat) 100 HR3'.out HR4.out (by have:=HLe.out n;rwa [List.take_of_length_le (by rw [HN.out];exact Nat.le_refl _)]at this) ((ratLe_int (z:=1) (L:=1) (by decide) (by decide)).mono (by omega)) (by omega)).mono ?_
  rintro e w5 ⟨rfl,hB5⟩
  have HB5:=Hid.intro (HB4.out.trans (hB5.mono HB4.out.size))
  have HD:Hid (decide (sgnR (sumL l-((1:Int):Rat))=0)=db):=Hid.intro (by
   rw [←HDB.out]
   unfold dsB
   rw [all_fine (by rw [HN.out];exact HFn.out),seven_one,←sumT_take l l.length (Nat.le_refl _),List.take_length]
   rfl)
  obtain⟨sg,hsg⟩:∃z,sgnR (sumL l-((1:Int):Rat))=z:=⟨_,rfl⟩
  rw [hsg]at HD
  rw [hsg]
  clear hB5 hsg
  gi_wp2
  all_goals (first|go_returns|go_ret|go_end0)
  exact⟨by rw [←HD.out];rfl,HB5.out⟩
set_option maxRecDepth 100000 in
set_option maxHeartbeats 2000000 in
theorem badRow_calls(w:World)(v:Value)(l:List Rat)(n g:Nat)(h:RowC w v l)(h9:l.length≤9)(hL:∀i,i<l.length→RatLe (l.getD i 0) 100000)(hc:w.cell? ⟨g,0,none⟩=some (.int .i64 (n:Int)))(htab:Pow10 w) :
  CallsIn Fence.wide 0 Tryz.prog 170 #[v,.pointer (some ⟨g,0,none⟩)] w fun e w'=>e = .returned (.bool (decide (l.length≠n) || !dsB l))∧Below w.heap.size w w':=by
 have HR:=Hid.intro h
 have HL:=Hid.intro hL
 have HT:=Hid.intro htab
 obtain⟨o,c,rfl,_,_⟩:=h
 obtain⟨k,hk⟩:∃k,l.length=k:=⟨_,rfl⟩
 rw [hk]at HR h9 ⊢
 have HK:=Hid.intro hk
 obtain⟨db,hdb⟩:∃b,dsB l=b:=⟨_,rfl⟩
 rw [hdb]
 have HDB:=Hid.intro hdb
 clear hL htab hk hdb
 refine callsIn_of_wp Tryz.func170 rfl trivial ?_ rfl
 simp only [Tryz.ntmps170,List.size_toArray,List.length_cons,List.length_nil,Nat.reduceAdd,Nat.reduceSub,Array.replicate_succ,Array.replicate_zero,List.push_toArray,List.append_toArray,List.nil_append,List.cons_append]
 by_cases hkn:k=n
 ·subst hkn
  gi_wp2_with (gi_at_call 104;refine stop ?_)
  unfold Stop
  refine(chances_calls w _ l k HR.out HK.out h9 (by rw [←HK.out];exact HL.out) HT.out).mono ?_
  rintro e w2 ⟨rfl,hB2⟩
  rw [HDB.out]
  have HB2:=Hid.intro hB2
  clear hB2 hc
  gi_wp2
  all_goals (first|go_returns|go_ret|go_end0)
  exact⟨by simp,HB2.out⟩
 ·have hd:decide (k≠n)=true:=by simp [hkn]
  rw [hd]
  clear hd
  gi_wp2
  all_goals (first|go_returns|go_ret|go_end0)
  exact⟨by simp,Below.refl _ _⟩
theorem RowIs.view{β:Type}{w:World}{ty:Nat}{J:World→Value→β→Prop}{v:Value}{m:List β}(h:RowIs w ty 1 (fun b r w=>∃v,r = [v]∧J w v b) v m) :
  ∃o c,v = .slice o m.length c∧m.length≤1000000000∧∃rv:Nat→Value,(0<m.length→∃a:Addr,o=some a∧a.block<w.heap.size∧∀i,i<m.length→w.cell? (a.add i)=some (rv i))∧∀i b,m[i]? = some b→J w (rv i) b:=by
 rcases h with⟨rfl,o,c,rfl⟩|⟨a,cap,xs,rfl,h2,h3,h4,h5,h6,h7,h8⟩
 ·exact⟨o,c,rfl,by simp,fun _ => .nilFunc,fun h=>absurd h (by simp),fun i b hb=>by simp at hb⟩
 ·refine⟨some a,cap,rfl,h3.2,fun i=>(xs.getD i []).getD 0 .nilFunc,fun _=>⟨a,rfl,h4.lt,fun i hi => ?_⟩,fun i b hb => ?_⟩
  ·obtain⟨row,hr⟩:∃row,xs[i]? = some row:=⟨_,List.getElem?_eq_getElem (by omega)⟩
   have hl:=h6 row (List.mem_of_getElem? hr)
   obtain⟨x,rfl⟩:∃x,row = [x]:=by
    match row,hl with
    | [x],_=>exact⟨x,rfl⟩
   have:=h7 i _ hr 0 x rfl
   rw [Nat.mul_one,Nat.add_zero]at this
   rw [this]
   show some x=some ((xs.getD i []).getD 0 .nilFunc)
   rw [List.getD_eq_getElem?_getD (l:=xs),hr]
   rfl
  ·have hi:i<m.length:=(List.getElem?_eq_some_iff.1 hb).1
   obtain⟨row,hr⟩:∃row,xs[i]? = some row:=⟨_,List.getElem?_eq_getElem (by omega)⟩
   obtain⟨x,rfl,hJ⟩:=h8 i row b hr hb
   show J w ((xs.getD i []).getD 0 .nilFunc) b
   rw [List.getD_eq_getElem?_getD (l:=xs),hr]
   exact hJ
theorem RowIs.form{β:Type}{w:World}{ty sz:Nat}{I:β→List Value→World→Prop}{v:Value}{bs:List β}(h:RowIs w ty sz I v bs):∃o c,v = .slice o bs.length c∧bs.length≤1000000000:=by
 rcases h with⟨rfl,o,c,rfl⟩|⟨a,cap,xs,rfl,_,h3,_⟩
 ·exact⟨o,c,rfl,by simp⟩
 ·exact⟨_,_,rfl,h3.2⟩
theorem add_add_k(a:Addr)(i k:Nat)(hk:0<k):(⟨(a.add i).block,(a.add i).off+k,none⟩:Addr)=a.add (i+k):=by
 unfold Addr.add
 split <;> simp_all <;> omega
theorem RowIs.item{w:World}{a:Addr}{n c:Nat}{qs:List Rat}(h:RowR w (.slice (some a) n c) qs){i:Nat}{q:Rat}(hq:qs[i]? = some q) :
  a.block<w.heap.size∧∃sg o1 k1 c1 o2 k2 c2,w.cell? (a.add (i*3))=some (.bool sg)∧w.cell? ⟨(a.add (i*3)).block,(a.add (i*3)).off+1,none⟩=some (.slice o1 k1 c1)∧w.cell? ⟨(a.add (i*3)).block,(a.add (i*3)).off+2,none⟩=some (.slice o2 k2 c2)∧RatAt w (.agg #[.bool sg,.slice o1 k1 c1,.slice o2 k2 c2]) q:=by
 rcases h with⟨rfl,_⟩|⟨a',cap,xs,e,h2,h3,h4,h5,h6,h7,h8⟩
 ·simp at hq
 ·injection e with e _ _
  injection e with e
  subst e
  have hi:i<qs.length:=(List.getElem?_eq_some_iff.1 hq).1
  obtain⟨row,hr⟩:∃row,xs[i]? = some row:=⟨_,List.getElem?_eq_getElem (by omega)⟩
  have hR:RatAt w (.agg row.toArray) q:=h8 i row q hr hq
  obtain⟨o1,k1,c1,o2,k2,c2,hf⟩:=hR.form
  have hrow:row = [.bool (decide (q.num<0)),.slice o1 k1 c1,.slice o2 k2 c2]:=by
   injection hf with hf
   have:=congrArg Array.toList hf
   simpa using this
  subst hrow
  exact⟨h4.lt,_,o1,k1,c1,o2,k2,c2,h7 i _ hr 0 _ rfl,by rw [add_add_k _ _ _ (by decide)];exact h7 i _ hr 1 _ rfl,by rw [add_add_k _ _ _ (by decide)];exact h7 i _ hr 2 _ rfl,hR⟩
def MtC(w:World)(v:Value)(M:List (List Rat)):Prop:=M.length≤1000000000∧∃rv,ReadAt w v M.length rv∧∀i,i<M.length→RowC w (rv i) (M.getD i [])
theorem MtC.below{w w':World}{v:Value}{M:List (List Rat)}(h:MtC w v M)(hb:Below w.heap.size w w'):MtC w' v M:=by
 obtain⟨h9,rv,ht,hr⟩:=h
 exact⟨h9,rv,ht.below hb,fun i hi=>(hr i hi).below hb⟩
theorem rowC_of{w:World}{v:Value}{l:List Rat}(h:RowR w v l):RowC w v l:=by
 obtain⟨o,c,rfl,h9⟩:=RowIs.form h
 refine⟨o,c,rfl,h9,fun i q hq => ?_⟩
 have hi:i<l.length:=(List.getElem?_eq_some_iff.1 hq).1
 obtain⟨a,c',e⟩:=RowIs.some9 h (by omega)
 injection e with e _ _
 subst e
 obtain⟨ha,sg,o1,k1,c1,o2,k2,c2,h0,h1,h2,hr⟩:=RowIs.item h hq
 exact⟨a,rfl,ha,_,_,_,h0,h1,h2,hr⟩
theorem mtC_of{w:World}{v:Value}{M:List (List Rat)}(h:MatR w v M):MtC w v M:=by
 obtain⟨o,c,rfl,h9,rv,h1,h2⟩:=RowIs.view h
 refine⟨h9,rv,⟨o,c,rfl,by omega,h1⟩,fun i hi=>rowC_of (h2 i _ ?_)⟩
 rw [List.getElem?_eq_getElem hi,List.getD_eq_getElem?_getD,List.getElem?_eq_getElem hi]
 rfl
def firstBad(M:List (List Rat))(n:Nat):Nat→Bool
 | 0=>false
 | k+1=>firstBad M n k || (decide ((M.getD k []).length≠n) || !dsB (M.getD k []))
theorem firstBad_of{M:List (List Rat)}{n i:Nat}(h:(decide ((M.getD i []).length≠n) || !dsB (M.getD i []))=true):∀k,i<k→firstBad M n k=true
 | 0,q=>absurd q (by omega)
 | k+1,q=>by
  show(firstBad M n k || (decide ((M.getD k []).length≠n) || !dsB (M.getD k [])))=true
  rcases Nat.lt_or_ge i k with q'|q'
  ·rw [firstBad_of h k q'];rfl
  ·have:k=i:=by omega
   rw [this,h,Bool.or_true]
set_option maxRecDepth 100000 in
set_option maxHeartbeats 4000000 in
theorem indexBad_calls(w:World)(v:Value)(M:List (List Rat))(n g k:Nat)(h:MtC w v M)(hk:M.length=k)(h9:∀i,i<k→(M.getD i []).length≤9)(hL:∀i,i<k→∀j,j<(M.getD i []).length→RatLe ((M.getD i []).getD j 0) 100000)(hc:w.cell? ⟨g,0,none⟩=some (.int .i64 (n:Int)))(htab:Pow10 w) :
  CallsIn Fence.wide 0 Tryz.prog 206 #[v,.func (.func 170) #[] #[.pointer (some ⟨g,0,none⟩)]] w fun e w'=>∃z:Int,e = .returned (.int .i64 z)∧(0≤z↔firstBad M n k=true)∧Below w.heap.size w w':=by
 have HR:=Hid.intro h
 have HL:=Hid.intro hL
 have HT:=Hid.intro htab
 have HN:=Hid.intro hk
 have H9:=Hid.intro h9
 have HC:=Hid.intro hc
 have HGW:g<w.heap.size:=World.block_lt_of_cell? _ _ hc
 obtain⟨hk9,rv,⟨o,c,rfl,hn9,htop⟩,hrow⟩:=h
 rw [hk]at hk9 hn9 htop hrow ⊢
 have HTop:=Hid.intro htop
 have HRow:=Hid.intro hrow
 clear hL htab hk h9 hc htop hrow
 refine callsIn_of_wp Tryz.func206 rfl trivial ?_ rfl
 simp only [Tryz.ntmps206,List.size_toArray,List.length_cons,List.length_nil,Nat.reduceAdd,Nat.reduceSub,Array.replicate_succ,Array.replicate_zero,List.push_toArray,List.append_toArray,List.nil_append,List.cons_append]
 gi_wp2
 gi_loopw [8] (fun x8 wr=>∃i:Nat,x8 = .int .i64 (i:Int)∧i≤k∧Hid (firstBad M n i=false)∧Hid (Below w.heap.size w wr)) (fun x _=>k-(intOf x).toNat)
 case atStart=>exact⟨0,rfl,by omega,Hid.intro rfl,Below.refl _ w⟩
 case round=>
  obtain⟨i,rfl,hi,HF,HB⟩:=hrel
  by_cases hin:i<k
  ·obtain⟨a,rfl,ha,hcs⟩:=HTop.out (by omega)
   have hci:wr.cell? (a.add i)=some (rv i):=(HB.out.cell (p:=a.add i) (by rw [add_block];exact ha)).trans (hcs i hin)
   have HRi:=Hid.intro ((HRow.out i hin).below HB.out)
   have hcn:wr.cell? ⟨g,0,none⟩=some (.int .i64 (n:Int)):=(HB.out.cell (p:=⟨g,0,none⟩) HGW).trans HC.out
   have HCN:=Hid.intro hcn
   clear hcs ha hcn
   gi_wp2_with (gi_at_call 170;refine stop ?_)
   unfold Stop
   refine(badRow_calls wr _ (M.getD i []) n g HRi.out (H9.out i hin) (HL.out i hin) HCN.out (HT.out.below HB.out)).mono ?_
   rintro e w2 ⟨rfl,hB2⟩
   have HB2:=Hid.intro (HB.out.trans (hB2.mono HB.out.size))
   clear hB2
   cases hs:(decide ((M.getD i []).length≠n) || !dsB (M.getD i []))with
   | true=>
    have HF1:Hid (firstBad M n k=true):=Hid.intro (firstBad_of hs k hin)
    clear hs
    gi_wp2
    all_goals (first|go_returns|go_ret|go_end0)
    exact⟨_,rfl,by rw [HF1.out];simp,HB2.out⟩
   | false=>
    have HF1:Hid (firstBad M n (i+1)=false):=Hid.intro (by
     show(firstBad M n i || (decide ((M.getD i []).length≠n) || !dsB (M.getD i [])))=false
     rw [HF.out,hs];rfl)
    clear hs
    gi_wp2
    exact⟨⟨i+1,by go_num,by omega,HF1,HB2⟩,by simp only [intOf];omega⟩
  ·obtain rfl:i=k:=by omega
   gi_wp2
   all_goals (first|go_returns|go_ret|go_end0)
   exact⟨_,rfl,by rw [HF.out];simp,HB.out⟩
set_option maxRecDepth 100000 in
set_option maxHeartbeats 2000000 in
theorem containsBad_calls(w:World)(v:Value)(M:List (List Rat))(n g k:Nat)(h:MtC w v M)(hk:M.length=k)(h9:∀i,i<k→(M.getD i []).length≤9)(hL:∀i,i<k→∀j,j<(M.getD i []).length→RatLe ((M.getD i []).getD j 0) 100000)(hc:w.cell? ⟨g,0,none⟩=some (.int .i64 (n:Int)))(htab:Pow10 w) :
  CallsIn Fence.wide 0 Tryz.prog 169 #[v,.func (.func 170) #[] #[.pointer (some ⟨g,0,none⟩)]] w fun e w'=>e = .returned (.bool (firstBad M n k))∧Below w.heap.size w w':=by
 have HR:=Hid.intro h
 have HL:=Hid.intro hL
 have HT:=Hid.intro htab
 have HN:=Hid.intro hk
 have H9:=Hid.intro h9
 have HC:=Hid.intro hc
 obtain⟨fb,hfb⟩:∃b,firstBad M n k=b:=⟨_,rfl⟩
 rw [hfb]
 have HFB:=Hid.intro hfb
 clear h hL htab hk h9 hc hfb
 refine callsIn_of_wp Tryz.func169 rfl trivial ?_ rfl
 simp only [Tryz.ntmps169,List.size_toArray,List.length_cons,List.length_nil,Nat.reduceAdd,Nat.reduceSub,Array.replicate_succ,Array.replicate_zero,List.push_toArray,List.append_toArray,List.nil_append,List.cons_append]
 gi_wp2_with (gi_at_call 206;refine stop ?_)
 unfold Stop
 refine(indexBad_calls w _ M n g k HR.out HN.out H9.out HL.out HC.out HT.out).mono ?_
 rintro e w2 ⟨z,rfl,hz,hB2⟩
 rw [HFB.out]at hz
 have HZ:Hid (decide (0≤z)=fb):=Hid.intro (by cases fb <;> simp_all)
 have HB2:=Hid.intro hB2
 clear hz hB2
 gi_wp2
 all_goals (first|go_returns|go_ret|go_end0)
 exact⟨by rw [←HZ.out];rfl,HB2.out⟩
theorem stopCB{F:Fence}{n:Nat}{P:Program}{f:FuncId}{args:Array Value}{w:World}{R:Ending→World→Prop}(h:Stop (CallsIn F n P f args w R)):CallsIn F n P f args w R:=h
def FrB(X:Nat→TypeId→Prop)(w w':World):Prop:=w.heap.size≤w'.heap.size∧∀(b:Nat) (cs:Array Value) (e:TypeId) (fz:Nat × Nat),w.heap[b]? = some (.cells cs e fz)→¬X b e→w'.heap[b]? = some (.cells cs e fz)
theorem FrB.trans{X:Nat→TypeId→Prop}{w w' w'':World}(h:FrB X w w')(k:FrB X w' w''):FrB X w w'':=⟨Nat.le_trans h.1 k.1,fun b cs e fz hb hx=>k.2 b cs e fz (h.2 b cs e fz hb hx) hx⟩
theorem FrB.of_below{X:Nat→TypeId→Prop}{w w':World}(h:Below w.heap.size w w'):FrB X w w':=⟨h.size,fun b _cs _e _fz hb _=>(h.block b (Array.getElem?_eq_some_iff.1 hb).1).trans hb⟩
theorem frb_set{w:World}{g i:Nat}{e:TypeId}{v:Value}{X:Nat→TypeId→Prop}(hE:Elem w g e)(hx:X g e):FrB X w (w.setCell ⟨g,i,none⟩ v):=by
 refine⟨by rw [World.size_setCell];exact Nat.le_refl _,fun b cs e' fz hb hx' => ?_⟩
 obtain⟨_,_,hE⟩:=hE
 rw [heap_setCell_other _ _ _ _ (show b≠g from fun q=>by subst q;rw [hE]at hb;cases hb;exact hx' hx)];exact hb
theorem ld49:LoadOne Tryz.prog 49:=loadOne_of (by kernel_rfl)
set_option maxRecDepth 100000 in
set_option maxHeartbeats 8000000 in
theorem attempt78_of(w:World)(f:FuncId)(cap:Array Value)(R:Value→World→Prop)(hce:∀args w,(callFunc f args).run Tryz.prog w = .ok (.enter f args) w)
  (hRs:∀v W W',R v W→FrB (fun _ e=>e=49∨e=28) W W'→R v W')
  (hc:∀W,Below w.heap.size w W→CallsIn Fence.wide 0 Tryz.prog f cap W fun e w'=>∃v',e = .returned v'∧((∃(p:Option Addr) (l:Nat) (d:Nat),v' = .slice p l d)∧R v' w')∧Below W.heap.size W w') :
  CallsIn Fence.wide 0 Tryz.prog 78 #[.func (.func f) #[] cap] w fun e w'=>∃v',e = .returned (.tuple #[v',.int .i64 0])∧R v' w'∧Below w.heap.size w w':=by
 have hmf:∀(fn:Fn) (first cap:Array Value) (w:World),(Instr.makeFunc fn first cap).run Tryz.prog w = .ok (.func fn first cap) w:=fun _ _ _ _=>rfl
 have HC:=Hid.intro hc
 have HRS:=Hid.intro hRs
 clear hc hRs
 gi_enter_defers Tryz.func78,Tryz.ntmps78
 gi_wp2_with (with_reducible refine stopCB (f:=f) ?_)
 unfold Stop
 obtain⟨W0,hW0⟩:∃W,W=w.alloc (.cells #[.slice none 0 0] 49):=⟨_,rfl⟩
 have h0s:W0.heap.size=w.heap.size+1:=by rw [hW0];simp
 obtain⟨W1,hW1⟩:∃W,W=W0.alloc (.cells #[.int .i64 0] 28):=⟨_,rfl⟩
 rw [←hW0,←hW1]
 have HA:Hid (∃f,ArrAt W1 w.heap.size 1 f):=Hid.intro ⟨fun i => [.slice none 0 0].getD i (.bool false),by
  rw [hW1]
  refine ArrAt.alloc ?_ (by omega) _
  rw [hW0]
  refine ArrAt.new _ _ _ fun i hi => ?_
  have:i=0:=by omega
  rw [this];rfl⟩
 have HA2:Hid (∃f,ArrAt W1 (w.heap.size+1) 1 f):=Hid.intro ⟨fun i => .int .i64 0,by
  rw [hW1,←h0s]
  exact ArrAt.new _ _ _ fun i hi=>by
   have:i=0:=by omega
   rw [this];rfl⟩
 have HE:Hid (Elem W1 w.heap.size 49):=Hid.intro ((by rw [hW0];exact elem_new _ _ _:Elem W0 w.heap.size 49).below (by rw [hW1];exact alloc_below _ _) (by omega))
 have HE2:Hid (Elem W1 (w.heap.size+1) 28):=Hid.intro (by rw [hW1,←h0s];exact elem_new _ _ _)
 have HBW:Hid (Below w.heap.size w W1):=Hid.intro (by rw [hW1,hW0];exact(alloc_below _ _).alloc (by simp) _)
 have hl:w.heap.size+1<W1.heap.size:=by rw [hW1];simp;omega
 obtain⟨g,hg⟩:∃g,w.heap.size=g:=⟨_,rfl⟩
 rw [hg]at HA HA2 HE HE2 hl
 rw [hg]
 have hgw:w.heap.size≤g:=by omega
 clear hW0 hW1 h0s hg
 refine(HC.out W1 HBW.out).mono ?_
 rintro e w2 ⟨v2,rfl,⟨⟨p,l,d,rfl⟩,hr2⟩,hB⟩
 have HR2:=Hid.intro hr2
 replace HBW:=Hid.intro (HBW.out.trans (hB.mono HBW.out.size))
 replace HE:=Hid.intro (HE.out.below hB (by omega))
 replace HE2:=Hid.intro (HE2.out.below hB (by omega))
 obtain⟨f1,hf⟩:=HA.out
 obtain⟨f2,hf2⟩:=HA2.out
 have ha:=hf.below (by omega) hB
 have ha2:=hf2.below (by omega) hB
 have z0:=(ha 0 (by omega)).1
 have y0:=(ha 0 (by omega)).2
 have x0:=(ha2 0 (by omega)).1
 have x1:=(ha2 0 (by omega)).2
 have HA9:=Hid.intro ha
 have HA8:=Hid.intro ha2
 clear hr2 hB ha ha2 hf hf2 HA HA2
 gi_wp2
 have hB3:Below w.heap.size w ((w2.setCell ⟨g,0,none⟩ (.slice p l d)).setCell ⟨g+1,0,none⟩ (.int .i64 0)):=
  (HBW.out.setCell hgw _).setCell (by show w.heap.size≤g+1;omega) _
 refine leavesIn_cons (f:=143) (args:=#[.pointer (some ⟨g,0,none⟩),.pointer (some ⟨g+1,0,none⟩)]) (by simp) (by simp) (by simp [go_sem]) (by simp [Target.leads]) ?_
 refine(still_143.2 _ _).mono ?_
 rintro e u' w'' ⟨⟨v3,rfl⟩,rfl,hh,hb⟩
 refine⟨.tuple #[.slice p l d,.int .i64 0],?_,_,rfl,?_,?_⟩
 ·have h3:=(HA9.out.set (i:=0) (by omega) (.slice p l d))
  have n3:∀j:Nat,(⟨g,j,none⟩:Addr)≠⟨g+1,0,none⟩:=fun j e=>by injection e with e _ _;omega
  have n4:∀j:Nat,(⟨g+1,0,none⟩:Addr)≠⟨g,j,none⟩:=fun j e=>by injection e with e _ _;omega
  have b3:BoxL ((w2.setCell ⟨g,0,none⟩ (.slice p l d)).setCell ⟨g+1,0,none⟩ (.int .i64 0)) g [.slice p l d]:=⟨by have:=HE.out.lt;simpa using this,fun j v hj=>by
   rw [World.cell?_setCell_other _ _ _ _ (n4 j)]
   match j,hj with
   | 0,hj=>rw [←hj];exact(h3 0 (by omega)).1
   | n+1,hj=>simp at hj⟩
  have c3:((w2.setCell ⟨g,0,none⟩ (.slice p l d)).setCell ⟨g+1,0,none⟩ (.int .i64 0)).cell? ⟨g+1,0,none⟩=some (.int .i64 0):=
   World.cell?_setCell_same _ _ _ (by rw [World.cell?_setCell_other _ _ _ _ (n3 0)];exact x0)
  have e1:=ld49 ⟨g,0,none⟩ _ w'' ((hb.cell (p:=⟨g,0,none⟩) b3.1).trans (b3.2 0 _ rfl))
  have e2:=l26 ⟨g+1,0,none⟩ _ w'' ((hb.cell (World.block_lt_of_cell? _ _ c3)).trans c3)
  simp only [Instr.loadAt,Instr.sureAddr,Sem.run_bind,Sem.run_pure,Result.andThen_ok]at e1 e2
  simp [results,asAddr,e1,e2]
 ·exact HRS.out _ _ _ HR2.out (((frb_set (i:=0) (v:=.slice p l d) HE.out (.inl rfl)).trans (frb_set (i:=0) (v:=.int .i64 0) (HE2.out.setCell _ _) (.inr rfl))).trans (FrB.of_below hb))
 ·exact hB3.trans (hb.mono hB3.size)
theorem RowIs.frb{β:Type}{w w':World}{ty sz:Nat}{I:β→List Value→World→Prop}{v:Value}{bs:List β}{X:Nat→TypeId→Prop}(h:RowIs w ty sz I v bs)(hf:FrB X w w')(hx:∀b,¬X b ty)(hI:∀b r,I b r w→I b r w'):RowIs w' ty sz I v bs:=by
 rcases h with h|⟨a,cap,xs,h1,h2,h3,⟨cs,fz,h4⟩,h5,h6,h7,h8⟩
 ·exact .inl h
 ·have hb:=hf.2 _ _ _ _ h4 (hx _)
  exact .inr ⟨a,cap,xs,h1,h2,h3,⟨cs,fz,hb⟩,h5,h6,fun i row hr j x hx=>(World.cell?_of_block (by rw [add_block,hb,h4])).trans (h7 i row hr j x hx),fun i row b hr hb'=>hI _ _ (h8 i row b hr hb')⟩
theorem RatAt.frb{w w':World}{v:Value}{q:Rat}{X:Nat→TypeId→Prop}(h:RatAt w v q)(hf:FrB X w w')(h3:∀b e,rs3.contains e=true→¬X b e):RatAt w' v q:=RatAt.kept h (fun b cs e fz hb hc=>hf.2 b cs e fz hb (h3 b e hc))
theorem RowR.frb{w w':World}{v:Value}{l:List Rat}{X:Nat→TypeId→Prop}(h:RowR w v l)(hf:FrB X w w')(h2:∀b,¬X b 27)(h3:∀b e,rs3.contains e=true→¬X b e):RowR w' v l:=
 RowIs.frb h hf h2 (fun _ _ q=>RatAt.frb q hf h3)
theorem l42:LoadOne Tryz.prog 42:=loadOne_of (by kernel_rfl)
theorem itR42:ItemAt Tryz.prog 42 1:=itemAt_of Go.Num.u55 i64i i64s
theorem two64(w:World)(a b c d e f:Value):(Instr.buildSlice 49 2 #[(0,.agg #[a,b,c]),(1,.agg #[d,e,f])]).run Tryz.prog w = .ok (.slice (some ⟨w.heap.size,0,none⟩) 2 2) (w.alloc (.cells #[a,b,c,d,e,f] 27)):=by
 simp [Instr.buildSlice,underlying,sizeOf,typeInfo,i25',i25s,i25z,Sem.run_bind,Result.andThen,go_sem,zeroValue,Value.cells]
theorem rowC_two{w:World}{a b c d e f:Value}{p q:Rat}(h:RatAt w (.agg #[a,b,c]) p)(k:RatAt w (.agg #[d,e,f]) q):RowC (w.alloc (.cells #[a,b,c,d,e,f] 27)) (.slice (some ⟨w.heap.size,0,none⟩) 2 2) [p,q]:=by
 refine⟨_,2,rfl,by simp,fun i x hx=>⟨_,rfl,by simp,?_⟩⟩
 match i,hx with
 | 0,hx=>
  injection hx with hx
  subst hx
  exact⟨a,b,c,World.cell?_alloc_new _ _ _ _,World.cell?_alloc_new _ _ _ _,World.cell?_alloc_new _ _ _ _,h.below (alloc_below _ _)⟩
 | 1,hx=>
  injection hx with hx
  subst hx
  exact⟨d,e,f,World.cell?_alloc_new _ _ _ _,World.cell?_alloc_new _ _ _ _,World.cell?_alloc_new _ _ _ _,k.below (alloc_below _ _)⟩
 | n+2,hx=>cases hx
theorem prodL_pair(p q:Rat)(k:Nat):prodL ([p,q].take k)=1∨prodL ([p,q].take k)=p∨prodL ([p,q].take k)=p*q:=by
 match k with
 | 0=>exact .inl rfl
 | 1=>exact .inr (.inl (Rat.one_mul p))
 | k+2=>exact .inr (.inr (by
   have:[p,q].take (k+2) = [p,q]:=List.take_of_length_le (by simp)
   rw [this]
   show 1*p*q=p*q
   rw [Rat.one_mul]))
theorem prodL_pq(p q:Rat):prodL [p,q]=p*q:=by
 show 1*p*q=p*q
 rw [Rat.one_mul]
theorem sumL_rowW(f:Nat→Rat):∀n,sumL (rowW f n)=sumQ f n
 | 0=>rfl
 | n+1=>by rw [rowW_succ,sumL_snoc,sumL_rowW f n];rfl
theorem rowW_take(f:Nat→Rat)(n k:Nat):(rowW f n).take k=rowW f (min k n):=by
 unfold rowW
 rw [←List.map_take,List.take_range]
theorem flatten_len{sz:Nat}:∀{xs:List (List Value)},(∀r∈xs,r.length=sz)→xs.flatten.length=xs.length*sz
 | [],_=>by simp
 | r :: t,h=>by
  rw [List.flatten_cons,List.length_append,flatten_len (fun r hr=>h r (by simp [hr])),h r (by simp),List.length_cons,Nat.add_mul]
  omega
theorem add_next(a:Addr)(k j:Nat)(hj:0<j):a.add (k+j)=⟨(a.add k).block,(a.add k).off+j,none⟩:=by
 unfold Addr.add
 by_cases hk:k=0
 ·subst hk
  rw [if_neg (by omega),if_pos rfl,Nat.zero_add]
 ·rw [if_neg (by omega),if_neg hk,Nat.add_assoc]
theorem eql_nil49(w:World)(a:Addr)(n c:Nat):(binOp BinOp.eql 49 (.slice (some a) n c) (.slice none 0 0)).run Tryz.prog w = .ok (.bool false) w:=by
 have hu:Tryz.prog.underlying 49=some (.slice 27):=Go.Num.u64
 have h1:(Op.equal 49 (.slice (some a) n c) (.slice none 0 0)).run Tryz.prog w = .ok false w:=by
  unfold Op.equal Op.maxDepth
  rw [Op.equalIn]
  rw [Sem.run_bind,run_underlying hu]
  rfl
 simp [binOp,h1,Result.andThen,go_sem]
set_option maxRecDepth 100000 in
set_option maxHeartbeats 2000000 in
theorem clone_calls(w:World)(v:Value)(l:List Rat)(n:Nat)(h:RowC w v l)(hn:l.length=n)(h0:0<n)(h9:n≤1000) :
  CallsIn Fence.wide 0 Tryz.prog 106 #[v] w fun e w'=>∃v',e = .returned v'∧RowR w' v' l∧Below w.heap.size w w':=by
 have HR:=Hid.intro h
 have HN:=Hid.intro hn
 obtain⟨o,c,rfl,_,hi⟩:=h
 obtain⟨a,rfl,_⟩:=hi 0 _ (getD_at (by omega))
 rw [hn]at HR ⊢
 clear hn hi
 refine callsIn_of_wp Tryz.func106 rfl trivial ?_ rfl
 simp only [Tryz.ntmps106,List.size_toArray,List.length_cons,List.length_nil,Nat.reduceAdd,Nat.reduceSub,Array.replicate_succ,Array.replicate_zero,List.push_toArray,List.append_toArray,List.nil_append,List.cons_append]
 have heq:=eql_nil49 w a n c
 gi_wp2_with (gi_at_builtin;refine stop ?_)
 unfold Stop
 have hrow:=HR.out
 obtain⟨rs,hrs⟩:∃rs:Nat→List Value,∀i,rs i = [(w.cell? (a.add (i*3))).getD undef,(w.cell? ⟨(a.add (i*3)).block,(a.add (i*3)).off+1,none⟩).getD undef,(w.cell? ⟨(a.add (i*3)).block,(a.add (i*3)).off+2,none⟩).getD undef]:=⟨_,fun _=>rfl⟩
 have item:∀i,i<n→∃x0 x1 x2,rs i = [x0,x1,x2]∧w.cell? (a.add (i*3))=some x0∧w.cell? ⟨(a.add (i*3)).block,(a.add (i*3)).off+1,none⟩=some x1∧w.cell? ⟨(a.add (i*3)).block,(a.add (i*3)).off+2,none⟩=some x2∧RatAt w (.agg #[x0,x1,x2]) (l.getD i 0):=fun i hi=>by
  obtain⟨a',e',_,sg,o1,k1,c1,o2,k2,c2,h0,h1,h2,hr⟩:=hrow.item (getD_at (a:=l) (i:=i) (by rw [HN.out];exact hi))
  injection e' with e'
  subst e'
  exact⟨_,_,_,by rw [hrs,h0,h1,h2];rfl,h0,h1,h2,hr⟩
 have hlen:∀r∈(List.range n).map rs,r.length=3:=fun r hr=>by
  obtain⟨i,_,rfl⟩:=List.mem_map.1 hr
  rw [hrs];rfl
 have hfl:((List.range n).map rs).flatten.length=n*3:=by
  rw [flatten_len hlen,List.length_map,List.length_range]
 refine wpListIn_append_own _ rfl _ _ _ rfl w.heap.size 27 Tryz.t27 _ 3 56 Go.Num.u64 i25' i25z i25s i25b rfl (by decide) (.slice (some ⟨w.heap.size,0,none⟩) 0 0) 0 [] rfl ⟨rfl,.inr ⟨w.heap.size,0,#[],rfl,Nat.le_refl _,heap_alloc_new w _,Nat.le_refl _,by decide,rfl,rfl⟩⟩ a n c ((List.range n).map rs).flatten rfl hfl ?cells ?one (by unfold maxLen;omega) (by omega) (by simp) ?rest
 case cells=>
  intro j u hu
  have hjl:=(List.getElem?_eq_some_iff.1 hu).1
  rw [hfl]at hjl
  obtain⟨i,k,hi,hk,rfl⟩:∃i k,i<n∧k<3∧j=i*3+k:=⟨j/3,j%3,by omega,by omega,by omega⟩
  obtain⟨x0,x1,x2,e,h0,h1,h2,_⟩:=item i hi
  have hrow:((List.range n).map rs)[i]? = some [x0,x1,x2]:=by simp [hi,e]
  have hbl:a.block<w.heap.size:=by have:=World.block_lt_of_cell? _ _ h0;rwa [add_block]at this
  have key:w.cell? (a.add (i*3+k))=some u:=by
   match k,hk with
   | 0,_=>
    have:=flatten_at hlen hrow (j:=0) rfl
    rw [this]at hu
    injection hu with hu
    rw [←hu];exact h0
   | 1,_=>
    have:=flatten_at hlen hrow (j:=1) rfl
    rw [this]at hu
    injection hu with hu
    rw [←hu,add_next a (i*3) 1 (by omega)];exact h1
   | 2,_=>
    have:=flatten_at hlen hrow (j:=2) rfl
    rw [this]at hu
    injection hu with hu
    rw [←hu,add_next a (i*3) 2 (by omega)];exact h2
  exact((alloc_below w _).cell (by rw [add_block];exact hbl)).trans key
 case one=>
  intro u hu
  obtain⟨r,hr,hur⟩:=List.mem_flatten.1 hu
  obtain⟨i,hi,rfl⟩:=List.mem_map.1 hr
  obtain⟨x0,x1,x2,e,_,_,_,hq⟩:=item i (List.mem_range.1 hi)
  obtain⟨s,o,k,c',o2,k2,c2,hf⟩:=hq.form9
  injection hf with hf
  have hf:=congrArg Array.toList hf
  rw [e]at hur
  have hur:u∈#[x0,x1,x2].toList:=hur
  rw [hf]at hur
  simp only [List.mem_cons,List.not_mem_nil,or_false]at hur
  rcases hur with rfl|rfl|rfl <;> rfl
 case rest=>
  intro v' w' g1 g2 _
  have hB:Below w.heap.size w w':=(Below.refl w.heap.size w).alloc (Nat.le_refl _) _ |>.grown g2 (by simp) fun k hk=>by
   have:k=w.heap.size:=by simpa [Value.ownBlock]using hk.symm
   omega
  have hO:OwnR w' w.heap.size 27 3 IR v' l:=by
   refine⟨(List.range n).map rs,?_,by simp [HN.out],hlen,fun i r q hr hq => ?_⟩
   ·rw [HN.out]
    simpa using g1
   ·have hi:i<n:=by have:=(List.getElem?_eq_some_iff.1 hr).1;simpa using this
    obtain⟨x0,x1,x2,e,_,_,_,hrq⟩:=item i hi
    have hr:r = [x0,x1,x2]:=by simp [hi]at hr;rw [←hr,e]
    have hq:q=l.getD i 0:=by rw [getD_at (by rw [HN.out];exact hi)]at hq;injection hq with hq;exact hq.symm
    subst hr
    subst hq
    exact hrq.below hB
  have HO:=Hid.intro hO
  have HB:=Hid.intro hB
  clear item hlen hfl hrs g1 g2 hO hB hrow
  gi_wp2
  all_goals (first|go_returns|go_ret|go_end0)
  exact⟨_,rfl,HO.out.row (by rw [HN.out];omega),HB.out⟩
theorem three_at{w:World}{p:Addr}{a b c:Value}(h0:w.cell? p=some a)(h1:w.cell? ⟨p.block,p.off+1,none⟩=some b)(h2:w.cell? ⟨p.block,p.off+2,none⟩=some c):∀k v,[a,b,c][k]? = some v→w.cell? (p.add k)=some v
 | 0,v,h=>by injection h with h;rw [←h];exact h0
 | 1,v,h=>by injection h with h;rw [←h];exact h1
 | 2,v,h=>by injection h with h;rw [←h];exact h2
 | k+3,v,h=>by cases h
theorem mtC_at{w:World}{am:Addr}{n cm:Nat}{Q:Nat→Nat→Rat}(h:MtC w (.slice (some am) n cm) (tabW n n Q)){i j:Nat}(hi:i<n)(hj:j<n):∃ai ci s o1 k1 c1 o2 k2 c2,w.cell? (am.add i)=some (.slice (some ai) n ci)∧(∀k v,[Value.bool s,.slice o1 k1 c1,.slice o2 k2 c2][k]? = some v→w.cell? ((ai.add (j*3)).add k)=some v)∧RatAt w (.agg #[.bool s,.slice o1 k1 c1,.slice o2 k2 c2]) (Q i j):=by
 obtain⟨_,rv,⟨o,c,e,_,htop⟩,hrow⟩:=h
 injection e with e _ _
 subst e
 rw [tabW_len]at htop hrow
 obtain⟨a,e,_,hcell⟩:=htop (by omega)
 injection e with e
 subst e
 have hr:=hrow i hi
 rw [List.getD_eq_getElem?_getD,tabW_at hi]at hr
 obtain⟨oi,ci,e,_⟩:=id hr
 have e:rv i = .slice oi (rowW (Q i) n).length ci:=e
 rw [rowW_len]at e
 have hr:RowC w (rv i) (rowW (Q i) n):=hr
 rw [e]at hr
 obtain⟨ai,rfl,_,s,o1,k1,c1,o2,k2,c2,h0,h1,h2,hq⟩:=hr.item (rowW_at (a:=Q i) hj)
 exact⟨ai,ci,s,o1,k1,c1,o2,k2,c2,by rw [←e];exact hcell i hi,three_at h0 h1 h2,hq⟩
end Go.Num
namespace Go.Num
def ldW(E:Nat→Nat→Bool):Nat→Nat→Nat→Bool
 | 0=>E
 | k+1=>fun i j=>ldW E k i j || (ldW E k i k && ldW E k k j)
section
variable {E:Nat→Nat→Bool}
theorem ldW_step(k i j:Nat):ldW E (k+1) i j=(ldW E k i j || (ldW E k i k && ldW E k k j)):=rfl
theorem ldW_row(k i:Nat):ldW E (k+1) i k=ldW E k i k:=by
 rw [ldW_step];cases ldW E k i k <;> simp
theorem ldW_col(k j:Nat):ldW E (k+1) k j=ldW E k k j:=by
 rw [ldW_step];cases ldW E k k j <;> simp
def ldM(E:Nat→Nat→Bool)(k i j a b:Nat):Bool:=if a<i∨(a=i∧b<j)then ldW E (k+1) a b else ldW E k a b
theorem ldM_row(k i j:Nat):ldM E k i j i k=ldW E k i k:=by
 unfold ldM;split
 ·exact ldW_row k i
 ·rfl
theorem ldM_col(k i j b:Nat):ldM E k i j k b=ldW E k k b:=by
 unfold ldM;split
 ·exact ldW_col k b
 ·rfl
theorem ldM_cur(k i j:Nat):ldM E k i j i j=ldW E k i j:=by
 unfold ldM;rw [if_neg (by omega)]
theorem ldM_next(k i j a b:Nat):ldM E k i (j+1) a b=if a=i∧b=j then ldW E (k+1) i j else ldM E k i j a b:=by
 unfold ldM
 by_cases h:a=i∧b=j
 ·obtain⟨rfl,rfl⟩:=h
  rw [if_pos (by omega),if_pos ⟨rfl,rfl⟩]
 ·rw [if_neg h]
  by_cases h1:a<i∨(a=i∧b<j)
  ·rw [if_pos h1,if_pos (by omega)]
  ·rw [if_neg h1,if_neg (by omega)]
theorem ldM_turn{n:Nat}(k i a:Nat){b:Nat}(h:b<n):ldM E k i n a b=ldM E k (i+1) 0 a b:=by
 unfold ldM
 by_cases h1:a<i∨(a=i∧b<n)
 ·rw [if_pos h1,if_pos (by omega)]
 ·rw [if_neg h1,if_neg (by omega)]
theorem ldM_round{n:Nat}(k b:Nat){a:Nat}(h:a<n):ldM E k n 0 a b=ldM E (k+1) 0 0 a b:=by
 unfold ldM
 rw [if_pos (by omega),if_neg (by omega)]
theorem ldM_zero(k a b:Nat):ldM E k 0 0 a b=ldW E k a b:=by
 unfold ldM;rw [if_neg (by omega)]
end
end Go.Num
