/-
  'Parse' of the reference: the integer of a text.
  Conditions: the size is bounded.
-/
import Derived.Test.YtepakfjilnpodaaGreatDoorRCAT
namespace Go.Num
open Go.Eng Go.Shelf Go.RowKit Go.Sort Go.Proofs Go.Proofs.YtepakfjilnpodaaGreatDoor
theorem dig_byte{b:UInt8}(h:isDig b=true):48≤b.toNat∧b.toNat≤57:=of_decide_eq_true h
theorem byte_at(o:ByteArray){p:Nat}(h:p<o.size):o.data.toList[p]? = some o[p]:=by
 obtain⟨⟨l⟩⟩:=o
 exact List.getElem?_eq_getElem h
theorem formZ_own{l:List UInt8}{o:List UInt8}{ng:Bool}(ho:ownOf l=o)(hn:isNeg l=ng)(h1:o ≠ [])(h2:o.head? = some 48→o = [48]∧ng=false):formZ l=if o.all isDig=true then some (sgn ng (decVal o))else none:=by
 unfold formZ
 rw [ho,hn]
 have hc:(canon o && !(ng && o == [48]))=o.all isDig:=by
  cases o with
  | nil=>exact absurd rfl h1
  | cons b r=>
   by_cases hb:b.toNat=48
   ·have hb':b=48:=UInt8.toNat_inj.1 hb
    subst hb'
    obtain⟨h3,h4⟩:=h2 rfl
    rw [h4,h3];rfl
   ·rw [canon_other hb]
    have:(b :: r == [48])=false:=by
     apply beq_false_of_ne
     intro e
     injection e with e _
     subst e
     exact hb rfl
    rw [this];simp
 rw [hc]
theorem formZ_no{l:List UInt8}{o:List UInt8}{ng:Bool}(ho:ownOf l=o)(hn:isNeg l=ng)(h:o = []∨o.head? = some 48∧(1<o.length∨ng=true)):formZ l=none:=by
 unfold formZ
 rw [ho,hn,if_neg]
 rcases h with rfl|⟨h1,h2⟩
 ·simp [canon]
 ·cases o with
  | nil=>simp at h1
  | cons b r=>
   have hb:b=48:=by simpa using h1
   subst hb
   rcases h2 with h2|h2
   ·have hr:r ≠ []:=by rintro rfl;simp at h2
    rw [canon_zero rfl (by intro e;injection e with _ e;exact hr e)]
    simp
   ·rw [h2]
    by_cases hr:r = []
    ·subst hr;simp
    ·rw [canon_zero rfl (by intro e;injection e with _ e;exact hr e)]
     simp
structure TwoKept(w W:World)(g:Nat):Prop where
 res:∃f,ArrAt W g 2 f
 el:Elem W g 60
 below:Below w.heap.size w W
 le:w.heap.size≤g
theorem TwoKept.step{w W W':World}{g:Nat}(h:TwoKept w W g)(hb:Below W.heap.size W W'):TwoKept w W' g:=by
 obtain⟨f,hf⟩:=h.res
 exact⟨⟨f,hf.below h.el.lt hb⟩,h.el.below hb h.el.lt,h.below.trans (hb.mono h.below.size),h.le⟩
theorem twoKept_new(w:World)(x y:Value):TwoKept w (w.alloc (.cells #[x,y] 60)) w.heap.size:=
 ⟨⟨fun i=>if i=0 then x else y,ArrAt.new _ _ _ fun i hi=>by
  match i,hi with
  | 0,_=>rfl
  | 1,_=>rfl⟩,elem_new _ _ _,alloc_below _ _,Nat.le_refl _⟩
def ParsedZ(w:World)(l:List UInt8)(e:Ending)(w':World):Prop:=
 ∃v',e = .returned (.tuple #[v',.bool (formZ l).isSome])∧(∃sg m,v' = .agg #[.bool sg,m]∧∃o k c,m = .slice o k c)∧(∀z,formZ l=some z→ZAt w' v' z)∧Below w.heap.size w w'
theorem ret_two_tmp{fn:Func}{p t:Tmp}{R:Ending→World→Prop}{a:Act}{w:World}{x y u x0 x1:Value}(h:fn.results=#[.cell p 60,.tmp t])(hd:a.defers = [])(g:Nat)(hp:a.tmps.getD p undef = .pointer (some ⟨g,0,none⟩))(ht:a.tmps.getD t undef=u)
  (h0:w.cell? ⟨g,0,none⟩=some x0) (h1:w.cell? ⟨g,1,none⟩=some x1) (hR:R (.returned (.tuple #[.agg #[x,y],u])) ((w.setCell ⟨g,0,none⟩ x).setCell ⟨g,1,none⟩ y)) :
  bodyPost Tryz.prog fn R .ret a ((w.setCell ⟨g,0,none⟩ x).setCell ⟨g,1,none⟩ y):=by
 have n01:(⟨g,0,none⟩:Addr)≠⟨g,1,none⟩:=by intro e;injection e with _ e;omega
 have c0:((w.setCell ⟨g,0,none⟩ x).setCell ⟨g,1,none⟩ y).cell? ⟨g,0,none⟩=some x:=by
  rw [World.cell?_setCell_other _ _ _ _ n01.symm,World.cell?_setCell_same _ _ _ h0]
 have c1:((w.setCell ⟨g,0,none⟩ x).setCell ⟨g,1,none⟩ y).cell? ⟨g,1,none⟩=some y:=by
  rw [World.cell?_setCell_same _ _ _ (by rw [World.cell?_setCell_other _ _ _ _ n01];exact h1)]
 refine⟨hd,.tuple #[.agg #[x,y],u],?_,hR⟩
 have e1:=l32 g [x,y] _ rfl (fun j v hj=>by
  match j,hj with
  | 0,hj=>rw [←hj];exact c0
  | 1,hj=>rw [←hj];exact c1
  | k+2,hj=>simp at hj)
 simp only [Instr.loadAt,Instr.sureAddr,Sem.run_bind,Sem.run_pure,Result.andThen_ok]at e1
 have hp2:a.tmps[p]?.getD undef = .pointer (some ⟨g,0,none⟩):=by rw [←Array.getD_eq_getD_getElem?];exact hp
 have ht2:a.tmps[t]?.getD undef=u:=by rw [←Array.getD_eq_getD_getElem?];exact ht
 simp [results,h,hp2,ht2,asAddr,e1]
theorem ret_two_box{fn:Func}{p t:Tmp}{R:Ending→World→Prop}{a:Act}{w:World}{x y u:Value}(h:fn.results=#[.cell p 60,.tmp t])(hd:a.defers = [])(hp:a.tmps.getD p undef = .pointer (some ⟨w.heap.size,0,none⟩))(ht:a.tmps.getD t undef=u)
  (hR:R (.returned (.tuple #[.agg #[x,y],u])) (w.alloc (.cells #[x,y] 60))):bodyPost Tryz.prog fn R .ret a (w.alloc (.cells #[x,y] 60)):=by
 refine⟨hd,.tuple #[.agg #[x,y],u],?_,hR⟩
 have e1:=l32 w.heap.size [x,y] (w.alloc (.cells #[x,y] 60)) rfl (fun j v hj=>by
  match j,hj with
  | 0,hj=>rw [←hj,World.cell?_alloc_new];rfl
  | 1,hj=>rw [←hj,World.cell?_alloc_new];rfl
  | k+2,hj=>simp at hj)
 simp only [Instr.loadAt,Instr.sureAddr,Sem.run_bind,Sem.run_pure,Result.andThen_ok]at e1
 have hp2:a.tmps[p]?.getD undef = .pointer (some ⟨w.heap.size,0,none⟩):=by rw [←Array.getD_eq_getD_getElem?];exact hp
 have ht2:a.tmps[t]?.getD undef=u:=by rw [←Array.getD_eq_getD_getElem?];exact ht
 simp [results,h,hp2,ht2,asAddr,e1]
theorem parsed_no{w w':World}{l:List UInt8}(hf:formZ l=none)(hB:Below w.heap.size w w'):ParsedZ w l (.returned (.tuple #[.agg #[.bool false,.slice none 0 0],.bool false])) w':=
 ⟨_,by rw [hf];rfl,⟨_,_,rfl,_,_,_,rfl⟩,fun z hz=>(by rw [hf]at hz;cases hz),hB⟩
theorem btu{b T U:Nat}(h:b<U)(h2:T≤U*9):b+T<10*U:=by omega
theorem tle{T U:Nat}(h:T≤U*9)(h2:U≤100000000):T≤900000000:=by omega
theorem w64n{x:Nat}(h:x≤9223372036854775807):wrap64 (x:Int)=(x:Int):=by unfold wrap64;omega
theorem pred_int{q j k:Nat}(h:q+1+j=k):(q:Int)-1=(k:Int)-1-((j+1:Nat):Int):=by omega
theorem zero_at(o:ByteArray)(h:0<o.size)(hh:o.data.toList.head? = some 48):(o[0].toNat:Int)=48:=by
 rw [head_of o h]at hh
 have:o[0]=48:=by simpa using hh
 rw [this];rfl
theorem nonzero_at(o:ByteArray)(h:0<o.size)(hh:¬o.data.toList.head? = some 48):¬(o[0].toNat:Int)=48:=by
 intro e
 apply hh
 have:o[0]=48:=UInt8.toNat_inj.1 (by have:(48:UInt8).toNat=48:=rfl;omega)
 rw [head_of o h,this];rfl
theorem neg_at(s:ByteArray)(h:0<s.size):(((s[0].toNat:Int) == 45))=isNeg s.data.toList:=by
 rw [head_of s h,isNeg_cons,Bool.eq_iff_iff]
 simp only [beq_iff_eq]
 constructor
 ·intro e;exact UInt8.toNat_inj.1 (by have:(45:UInt8).toNat=45:=rfl;omega)
 ·intro e;rw [e];rfl
set_option maxRecDepth 100000 in
set_option maxHeartbeats 8000000 in
theorem parseZ_calls(w:World)(s:ByteArray)(l:List UInt8)(hl:s.data.toList=l)(hn:l.length≤100000) :
  CallsIn Fence.wide 0 Tryz.prog 162 #[.string s] w (ParsedZ w l):=by
 have hsz:s.size=l.length:=by rw [Lib.size_eq,hl]
 have HSL:=Hid.intro hl
 obtain⟨n,hnl⟩:∃n,l.length=n:=⟨_,rfl⟩
 rw [hnl]at hsz hn
 have HN:=Hid.intro hnl
 refine callsIn_of_wp Tryz.func162 rfl trivial ?_ rfl
 simp only [Tryz.ntmps162,List.size_toArray,List.length_cons,List.length_nil,Nat.reduceAdd,Nat.reduceSub,Array.replicate_succ,Array.replicate_zero,List.push_toArray,List.append_toArray,List.nil_append,List.cons_append]
 by_cases hn0:n=0
 ·subst hn0
  have hl0:l = []:=List.eq_nil_of_length_eq_zero hnl
  have hse:s.toList = []:=by rw [Lib.toList_data,hl];exact hl0
  have HF:Hid (formZ l=none):=Hid.intro (by rw [hl0];rfl)
  clear hl hnl hl0
  gi_wp2_with (exfalso;exact undef_no (by assumption))
  all_goals
   refine ret_two_box rfl rfl rfl rfl ?_
   exact parsed_no HF.out (alloc_below _ _)
 ·have hn0':0<n:=by omega
  have hs0:0<s.size:=by omega
  have hneg:=neg_at s hs0
  rw [HSL.out]at hneg
  clear hl hnl
  cases hng:isNeg l with
  | true=>
   rw [hng]at hneg
   obtain⟨o,ho⟩:∃o,s.extract 1 n=o:=⟨_,rfl⟩
   obtain⟨k,hk⟩:∃k,n-1=k:=⟨_,rfl⟩
   have hod:o.data.toList=ownOf l:=by
    obtain⟨r,hr⟩:=neg_form hng
    rw [←ho,Lib.extract_eq]
    show List.take (n-1) (List.drop 1 s.data.toList)=_
    rw [HSL.out,hr,ownOf_neg,List.drop_one,List.tail_cons]
    apply List.take_of_length_le
    have:=HN.out
    rw [hr,List.length_cons]at this
    omega
   have hko:o.size=k:=by
    rw [←ho,←hk,Lib.size_eq,Lib.extract_eq]
    show(List.take (n-1) (List.drop 1 s.data.toList)).length=_
    rw [List.length_take,List.length_drop,←Lib.size_eq,hsz]
    omega
   have HO:=Hid.intro hod.symm
   have HNG:=Hid.intro hng
   have hkn:k≤100000:=by omega
   clear hod hng
   by_cases hk0:k=0
   ·subst hk0
    have hoe:o.toList = []:=by rw [Lib.toList_data];exact List.eq_nil_of_length_eq_zero (by rw [←Lib.size_eq];exact hko)
    have HF:=Hid.intro (formZ_no HO.out HNG.out (.inl (by rw [←Lib.toList_data];exact hoe)))
    gi_wp2_with (exfalso;exact undef_no (by assumption))
    all_goals
     refine ret_two_box rfl rfl rfl rfl ?_
     exact parsed_no HF.out (alloc_below _ _)
   ·have hkp:0<k:=by omega
    have hop:0<o.size:=by omega
    have hoe:¬o.toList = []:=by
     rw [Lib.toList_data]
     intro e
     have:o.size=0:=by rw [Lib.size_eq,e];rfl
     omega
    have hoe':o.toList.isEmpty=false:=by cases hc:o.toList with|nil=>exact absurd hc hoe|cons _ _=>rfl
    by_cases h48:o.data.toList.head? = some 48
    ·have h48':=zero_at o hop h48
     by_cases hk1:k=1
     ·have hk1':decide ((k:Int)>1)=false:=decide_eq_false (by omega)
      have HF:=Hid.intro (formZ_no HO.out HNG.out (.inr ⟨h48,.inr rfl⟩))
      gi_wp2_with (exfalso;exact undef_no (by assumption))
      all_goals
       refine ret_two_box rfl rfl rfl rfl ?_
       exact parsed_no HF.out (alloc_below _ _)
     ·have hk1':decide ((k:Int)>1)=true:=decide_eq_true (by omega)
      have HF:=Hid.intro (formZ_no HO.out HNG.out (.inr ⟨h48,.inr rfl⟩))
      gi_wp2_with (exfalso;exact undef_no (by assumption))
      all_goals
       refine ret_two_box rfl rfl rfl rfl ?_
       exact parsed_no HF.out (alloc_below _ _)
    ·have h48':=nonzero_at o hop h48
     have HFZ:=Hid.intro (formZ_own HO.out HNG.out (by rw [←Lib.toList_data];exact hoe) (fun h=>absurd h h48))
     obtain⟨K,hK,hKd,hKb⟩:=suffix_dig o.data.toList
     obtain⟨V,hV⟩:∃V,decVal (o.data.toList.drop K)=V:=⟨_,rfl⟩
     have HKd:=Hid.intro hKd
     have HKb:=Hid.intro hKb
     have HV:=Hid.intro hV
     have hKk:K≤k:=by rw [←Lib.size_eq,hko]at hK;exact hK
     have hdl:Hid ((o.data.toList.drop K).length=k-K):=Hid.intro (by rw [List.length_drop,←Lib.size_eq,hko])
     clear hK hKd hKb hV
     gi_wp2_with (exfalso;exact undef_no (by assumption))
     obtain⟨W,hW⟩:∃W,W=w.alloc (.cells #[.bool false,.slice none 0 0] 60):=⟨_,rfl⟩
     rw [←hW]
     have HTK:Hid (TwoKept w W w.heap.size):=Hid.intro (by rw [hW];exact twoKept_new _ _ _)
     obtain⟨g,hg⟩:∃g,w.heap.size=g:=⟨_,rfl⟩
     rw [hg]at HTK
     rw [hg]
     clear hW hg
     have HO4:Hid (W.ownsRow W.heap.size 3 1 (.slice none 0 0) 0 (firstI V 0)):=World.ownsRow_nil _ _ _ _
     have HB4:Hid (Below W.heap.size W W):=Below.refl _ W
     gi_loopw [5,6,7,8] (fun x5 x6 x7 x8 wr=>∃(j b U:Nat),x6 = .int .i64 (b:Int)∧x7 = .int .i64 (U:Int)∧x8 = .int .i64 ((k:Int)-1-(j:Int))∧j≤k∧j+K≤k∧Hid (part V j=b)∧Hid (10^(j%9)=U)∧b<U∧U≤100000000∧Hid (wr.ownsRow W.heap.size 3 1 x5 (j/9) (firstI V (j/9)))∧Hid (Below W.heap.size W wr)) (fun _ _ _ v _=>(intOf v+1).toNat)
     case atStart=>exact⟨0,0,1,rfl,rfl,by go_num,by omega,by omega,Hid.intro (by unfold part;simp [Nat.mod_one]),Hid.intro (by decide),by omega,by omega,HO4.out,HB4.out⟩
     case round=>
      obtain⟨j,b,U,rfl,rfl,rfl,hjk,hjK,HP,HU,hbU,hU,HOr,HBr⟩:=hrel
      clear HO4 HB4
      by_cases hjk1:j<k
      ·obtain⟨q,hq⟩:∃q,q+1+j=k:=⟨k-1-j,by omega⟩
       have hqi:(k:Int)-1-(j:Int)=(q:Int):=by omega
       have hqk:q<o.size:=by omega
       rw [hqi]
       by_cases hjd:j+K<k
       ·have HD:Hid (isDig o[q]=true∧o[q].toNat-48=V/10^j%10):=Hid.intro (by
         have hb:=byte_at o hqk
         have hb2:(o.data.toList.drop K)[(o.data.toList.drop K).length-1-j]? = some o[q]:=by
          rw [hdl.out,List.getElem?_drop,←hb]
          congr 1;omega
         have h1:=digit_at HKd.out (j:=j) (by rw [hdl.out];omega) _ hb2
         rw [HV.out]at h1
         exact⟨List.all_eq_true.1 HKd.out _ (List.mem_of_getElem? hb2),h1⟩)
        obtain⟨c,hc⟩:∃c,o[q].toNat=c:=⟨_,rfl⟩
        have hcr:48≤c∧c≤57:=by rw [←hc];exact dig_byte HD.out.1
        have HDV:Hid (c-48=V/10^j%10):=Hid.intro (by rw [←hc];exact HD.out.2)
        have hc1:((c:Int)-48)%256=((c-48:Nat):Int):=by omega
        clear HD
        obtain⟨d,hd⟩:∃d,c-48=d:=⟨_,rfl⟩
        have hd9:d≤9:=by omega
        rw [hd]at HDV hc1
        have hUd:U*d≤U*9:=Nat.mul_le_mul_left U hd9
        obtain⟨T,hT⟩:∃T,U*d=T:=⟨_,rfl⟩
        rw [hT]at hUd
        have hcd:(c:Int)-48=(d:Int):=by omega
        have hT':(U:Int)*(d:Int)=(T:Int):=by rw [←hT];go_num
        have HT:=Hid.intro hT
        have hT9:T≤900000000:=tle hUd hU
        have hw1:wrap64 (T:Int)=(T:Int):=w64n (Nat.le_trans hT9 (by decide))
        have hw2:wrap64 ((b:Int)+(T:Int))=((b+T:Nat):Int):=by rw [←Int.natCast_add];exact w64n (Nat.le_trans (Nat.add_le_add (Nat.le_of_lt (Nat.lt_of_lt_of_le hbU hU)) hT9) (by decide))
        have hm9:j%9<9:=Nat.mod_lt _ (by decide)
        have hqj:(q:Int)-1=(k:Int)-1-((j+1:Nat):Int):=pred_int hq
        have HQJ:=Hid.intro hqj
        have HT9:=Hid.intro hT9
        have HBT:Hid (b+T<10*U):=Hid.intro (btu hbU hUd)
        have HM9:=Hid.intro hm9
        clear hT hd hqj hT9 hUd hm9 hd9
        by_cases hj8:j%9=8
        ·have HPF:=Hid.intro (part_full (V:=V) hj8)
         have hU8:((10*(U:Int)) == 1000000000)=true:=by rw [←HU.out,hj8];decide
         have HJ8:=Hid.intro hj8
         clear hj8
         gi_wp2_with (gi_at_builtin;refine stop ?_)
         unfold Stop
         refine appendI_limb W wr rfl _ _ rfl u5 (j/9) V rfl HOr _ _ rfl ?_ (by omega) HBr ?_
         ·have:=HPF.out.1
          rw [HP.out,HU.out,←HDV.out,HT.out]at this
          rw [this]
          exact(Int.natCast_add b T).symm
         ·intro v2 w2 HO2 HB2
          gi_wp2
          refine⟨⟨j+1,0,1,rfl,rfl,by rw [HQJ.out],by omega,by omega,HPF.out.2,Hid.intro (by rw [show(j+1)%9=0 by have:=HJ8.out;omega]),by omega,by omega,?_,HB2⟩,by simp only [intOf];omega⟩
          rw [show(j+1)/9=j/9+1 by have:=HJ8.out;omega]
          exact HO2
        ·have HPN:=Hid.intro (part_next (V:=V) hj8)
         have hU7:U≤10000000:=by
          rw [←HU.out]
          exact Nat.le_trans (Nat.pow_le_pow_right (by decide) (show j%9≤7 by omega)) (by decide)
         have hU8:((10*(U:Int)) == 1000000000)=false:=by
          apply beq_false_of_ne
          omega
         have HJ8:=Hid.intro hj8
         clear hj8
         gi_wp2
         refine⟨⟨j+1,b+T,10*U,by go_num,by go_num,by rw [HQJ.out],by omega,by omega,?_,?_,HBT.out,by omega,?_,HBr⟩,by simp only [intOf];omega⟩
         ·have:=HPN.out
          rw [HP.out,HU.out,←HDV.out,HT.out]at this
          exact this
         ·exact Hid.intro (by rw [show(j+1)%9=j%9+1 by have:=HJ8.out;have:=HM9.out;omega,Nat.pow_succ,HU.out,Nat.mul_comm])
         ·rw [show(j+1)/9=j/9 by have:=HJ8.out;omega]
          exact HOr
       ·have HBAD:Hid (isDig o[q]=false):=Hid.intro (by
         obtain⟨b0,h1,h2⟩:=HKb.out (by omega)
         rw [show K-1=q by omega,byte_at o hqk]at h1
         rw [Option.some.inj h1];exact h2)
        have HF:Hid (formZ l=none):=Hid.intro (by
         rw [HFZ.out,if_neg]
         intro h
         have:=List.all_eq_true.1 h o[q] (List.mem_of_getElem? (byte_at o hqk))
         rw [HBAD.out]at this
         cases this)
        obtain⟨c,hc⟩:∃c,o[q].toNat=c:=⟨_,rfl⟩
        have hcr:¬(48≤c∧c≤57):=by rw [←hc];exact of_decide_eq_false HBAD.out
        clear HBAD
        have HTK2:=Hid.intro (HTK.out.step HBr.out)
        obtain⟨f,hf⟩:=HTK2.out.res
        have z0:=(hf 0 (by omega)).1
        have z1:=(hf 1 (by omega)).1
        have y0:=(hf 0 (by omega)).2
        have y1:=(hf 1 (by omega)).2
        have hle:=HTK2.out.le
        clear hf
        by_cases hc48:c<48
        ·gi_wp2_with (exfalso;exact undef_no (by assumption))
         refine ret_two_tmp rfl rfl g rfl rfl z0 z1 ?_
         exact parsed_no HF.out ((HTK2.out.below.setCell hle _).setCell hle _)
        ·have hc57:57<c:=by omega
         gi_wp2_with (exfalso;exact undef_no (by assumption))
         refine ret_two_tmp rfl rfl g rfl rfl z0 z1 ?_
         exact parsed_no HF.out ((HTK2.out.below.setCell hle _).setCell hle _)
      ·have hjk2:j=k:=by omega
       subst hjk2
       have hK0:K=0:=by omega
       subst hK0
       have HALL:Hid (o.data.toList.all isDig=true):=Hid.intro (by have:=HKd.out;rw [List.drop_zero]at this;exact this)
       have HVV:Hid (decVal o.data.toList=V):=Hid.intro (by have:=HV.out;rw [List.drop_zero]at this;exact this)
       have HV10:Hid (V<10^j):=Hid.intro (by
        have:=decVal_lt HALL.out
        rw [HVV.out,←Lib.size_eq,hko]at this
        exact this)
       have HF:Hid (formZ l=some (sgn true V)):=Hid.intro (by rw [HFZ.out,if_pos HALL.out,HVV.out])
       have hneg1:(j:Int)-1-(j:Int) = -1:=by omega
       rw [hneg1]
       by_cases hb0:0<b
       ·gi_wp2_with (gi_at_builtin;refine stop ?_)
        unfold Stop
        refine appendI_limb W wr rfl _ _ rfl u5 (j/9) V rfl HOr _ _ rfl ?_ (by omega) HBr ?_
        ·rw [(end_limb HV10.out).1,HP.out]
        ·intro v2 w2 HO2 HB2
         have HLI:Hid (LimbsI w2 v2 V (j/9+1)):=Hid.intro (rowI_limbs HO2.out (by omega))
         have HVB:=Hid.intro (end_limb HV10.out).2
         gi_wp2_with (gi_at_call 198;refine stop ?_)
         unfold Stop
         refine(rtrim_calls _ _ V _ HLI.out HVB.out).mono ?_
         rintro e w3 ⟨v3,rfl,⟨hv3,_⟩,hB3⟩
         have HB3:=Hid.intro (HB2.out.trans (hB3.mono HB2.out.size))
         have HV3:=Hid.intro hv3
         clear hv3 hB3
         gi_wp2_with (gi_at_call 94;refine stop ?_)
         unfold Stop
         refine(int_calls w3 _ v3 V HV3.out).mono ?_
         rintro e w4 ⟨v4,rfl,⟨m4,rfl,hm4⟩,hB4⟩
         have HB4:=Hid.intro (HB3.out.trans (hB4.mono HB3.out.size))
         obtain⟨o5,k5,c5,rfl,_,_⟩:=natI_len hm4
         have HM4:=Hid.intro hm4
         have HTK2:=Hid.intro (HTK.out.step HB4.out)
         obtain⟨f,hf⟩:=HTK2.out.res
         have z0:=(hf 0 (by omega)).1
         have z1:=(hf 1 (by omega)).1
         have y0:=(hf 0 (by omega)).2
         have y1:=(hf 1 (by omega)).2
         have hle:=HTK2.out.le
         have HE:=Hid.intro HTK2.out.el
         clear hf hm4 hB4
         obtain⟨sg,hsg⟩:∃sg,decide (sgn true V<0)=sg:=⟨_,rfl⟩
         rw [hsg]
         have HSG:=Hid.intro hsg
         clear hsg
         gi_wp2
         refine ret_two_tmp rfl rfl g rfl rfl z0 z1 ?_
         refine⟨.agg #[.bool sg,.slice o5 k5 c5],by rw [HF.out];rfl,⟨_,_,rfl,_,_,_,rfl⟩,?_,(HTK2.out.below.setCell hle _).setCell hle _⟩
         intro z hz
         rw [HF.out]at hz
         cases hz
         exact⟨_,by rw [HSG.out],(HM4.out.setElem HE.out (by decide)).setElem (HE.out.setCell _ _) (by decide)⟩
       ·have hb00:b=0:=by omega
        subst hb00
        have HLI:Hid (LimbsI wr u5 V (j/9)):=Hid.intro (rowI_limbs HOr.out (by omega))
        have HVB:=Hid.intro (end_zero HV10.out HP.out)
        gi_wp2_with (gi_at_call 198;refine stop ?_)
        unfold Stop
        refine(rtrim_calls _ _ V _ HLI.out HVB.out).mono ?_
        rintro e w3 ⟨v3,rfl,⟨hv3,_⟩,hB3⟩
        have HB3:=Hid.intro (HBr.out.trans (hB3.mono HBr.out.size))
        have HV3:=Hid.intro hv3
        clear hv3 hB3
        gi_wp2_with (gi_at_call 94;refine stop ?_)
        unfold Stop
        refine(int_calls w3 _ v3 V HV3.out).mono ?_
        rintro e w4 ⟨v4,rfl,⟨m4,rfl,hm4⟩,hB4⟩
        have HB4:=Hid.intro (HB3.out.trans (hB4.mono HB3.out.size))
        obtain⟨o5,k5,c5,rfl,_,_⟩:=natI_len hm4
        have HM4:=Hid.intro hm4
        have HTK2:=Hid.intro (HTK.out.step HB4.out)
        obtain⟨f,hf⟩:=HTK2.out.res
        have z0:=(hf 0 (by omega)).1
        have z1:=(hf 1 (by omega)).1
        have y0:=(hf 0 (by omega)).2
        have y1:=(hf 1 (by omega)).2
        have hle:=HTK2.out.le
        have HE:=Hid.intro HTK2.out.el
        clear hf hm4 hB4
        obtain⟨sg,hsg⟩:∃sg,decide (sgn true V<0)=sg:=⟨_,rfl⟩
        rw [hsg]
        have HSG:=Hid.intro hsg
        clear hsg
        gi_wp2
        refine ret_two_tmp rfl rfl g rfl rfl z0 z1 ?_
        refine⟨.agg #[.bool sg,.slice o5 k5 c5],by rw [HF.out];rfl,⟨_,_,rfl,_,_,_,rfl⟩,?_,(HTK2.out.below.setCell hle _).setCell hle _⟩
        intro z hz
        rw [HF.out]at hz
        cases hz
        exact⟨_,by rw [HSG.out],(HM4.out.setElem HE.out (by decide)).setElem (HE.out.setCell _ _) (by decide)⟩
  | false=>
   rw [hng]at hneg
   have hod:s.data.toList=ownOf l:=by rw [ownOf_pos hng,HSL.out]
   obtain⟨o,ho⟩:∃o,o=s:=⟨_,rfl⟩
   obtain⟨k,hk⟩:∃k,k=n:=⟨_,rfl⟩
   subst ho
   subst hk
   have HO:=Hid.intro hod.symm
   have HNG:=Hid.intro hng
   have hko:o.size=k:=hsz
   have hkn:k≤100000:=hn
   have hkp:0<k:=hn0'
   have hop:0<o.size:=hs0
   clear hod hng hsz hn
   have hoe:¬o.toList = []:=by
    rw [Lib.toList_data]
    intro e
    have:o.size=0:=by rw [Lib.size_eq,e];rfl
    omega
   have hoe':o.toList.isEmpty=false:=by cases hc:o.toList with|nil=>exact absurd hc hoe|cons _ _=>rfl
   by_cases hbad:o.data.toList.head? = some 48∧k≠1
   ·have h48':=zero_at o hop hbad.1
    have hk1':decide ((k:Int)>1)=true:=decide_eq_true (by omega)
    have HF:=Hid.intro (formZ_no HO.out HNG.out (.inr ⟨hbad.1,.inl (by rw [←Lib.size_eq];omega)⟩))
    clear hbad
    gi_wp2_with (exfalso;exact undef_no (by assumption))
    all_goals
     refine ret_two_box rfl rfl rfl rfl ?_
     exact parsed_no HF.out (alloc_below _ _)
   ·have HFZ:=Hid.intro (formZ_own HO.out HNG.out (by rw [←Lib.toList_data];exact hoe) (fun h=>by
     have hk1:k=1:=Classical.byContradiction fun hne=>hbad ⟨h,hne⟩
     refine⟨?_,rfl⟩
     have hl1:o.data.toList.length=1:=by rw [←Lib.size_eq];omega
     match hm:o.data.toList,hl1 with
     | [b],_=>rw [hm]at h;simpa using h))
    by_cases h48:o.data.toList.head? = some 48
    case' pos=>
     have h48':=zero_at o hop h48
     have hk1:k=1:=Classical.byContradiction fun hne=>hbad ⟨h48,hne⟩
     have hk1':decide ((k:Int)>1)=false:=decide_eq_false (by omega)
     clear hk1 hbad
    case' neg=>
     have h48':=nonzero_at o hop h48
     clear hbad
    all_goals
     obtain⟨K,hK,hKd,hKb⟩:=suffix_dig o.data.toList
     obtain⟨V,hV⟩:∃V,decVal (o.data.toList.drop K)=V:=⟨_,rfl⟩
     have HKd:=Hid.intro hKd
     have HKb:=Hid.intro hKb
     have HV:=Hid.intro hV
     have hKk:K≤k:=by rw [←Lib.size_eq,hko]at hK;exact hK
     have hdl:Hid ((o.data.toList.drop K).length=k-K):=Hid.intro (by rw [List.length_drop,←Lib.size_eq,hko])
     clear hK hKd hKb hV
     gi_wp2_with (exfalso;exact undef_no (by assumption))
     obtain⟨W,hW⟩:∃W,W=w.alloc (.cells #[.bool false,.slice none 0 0] 60):=⟨_,rfl⟩
     rw [←hW]
     have HTK:Hid (TwoKept w W w.heap.size):=Hid.intro (by rw [hW];exact twoKept_new _ _ _)
     obtain⟨g,hg⟩:∃g,w.heap.size=g:=⟨_,rfl⟩
     rw [hg]at HTK
     rw [hg]
     clear hW hg
     have HO4:Hid (W.ownsRow W.heap.size 3 1 (.slice none 0 0) 0 (firstI V 0)):=World.ownsRow_nil _ _ _ _
     have HB4:Hid (Below W.heap.size W W):=Below.refl _ W
     gi_loopw [5,6,7,8] (fun x5 x6 x7 x8 wr=>∃(j b U:Nat),x6 = .int .i64 (b:Int)∧x7 = .int .i64 (U:Int)∧x8 = .int .i64 ((k:Int)-1-(j:Int))∧j≤k∧j+K≤k∧Hid (part V j=b)∧Hid (10^(j%9)=U)∧b<U∧U≤100000000∧Hid (wr.ownsRow W.heap.size 3 1 x5 (j/9) (firstI V (j/9)))∧Hid (Below W.heap.size W wr)) (fun _ _ _ v _=>(intOf v+1).toNat)
     case atStart=>exact⟨0,0,1,rfl,rfl,by go_num,by omega,by omega,Hid.intro (by unfold part;simp [Nat.mod_one]),Hid.intro (by decide),by omega,by omega,HO4.out,HB4.out⟩
     case round=>
      obtain⟨j,b,U,rfl,rfl,rfl,hjk,hjK,HP,HU,hbU,hU,HOr,HBr⟩:=hrel
      clear HO4 HB4
      by_cases hjk1:j<k
      ·obtain⟨q,hq⟩:∃q,q+1+j=k:=⟨k-1-j,by omega⟩
       have hqi:(k:Int)-1-(j:Int)=(q:Int):=by omega
       have hqk:q<o.size:=by omega
       rw [hqi]
       by_cases hjd:j+K<k
       ·have HD:Hid (isDig o[q]=true∧o[q].toNat-48=V/10^j%10):=Hid.intro (by
         have hb:=byte_at o hqk
         have hb2:(o.data.toList.drop K)[(o.data.toList.drop K).length-1-j]? = some o[q]:=by
          rw [hdl.out,List.getElem?_drop,←hb]
          congr 1;omega
         have h1:=digit_at HKd.out (j:=j) (by rw [hdl.out];omega) _ hb2
         rw [HV.out]at h1
         exact⟨List.all_eq_true.1 HKd.out _ (List.mem_of_getElem? hb2),h1⟩)
        obtain⟨c,hc⟩:∃c,o[q].toNat=c:=⟨_,rfl⟩
        have hcr:48≤c∧c≤57:=by rw [←hc];exact dig_byte HD.out.1
        have HDV:Hid (c-48=V/10^j%10):=Hid.intro (by rw [←hc];exact HD.out.2)
        have hc1:((c:Int)-48)%256=((c-48:Nat):Int):=by omega
        clear HD
        obtain⟨d,hd⟩:∃d,c-48=d:=⟨_,rfl⟩
        have hd9:d≤9:=by omega
        rw [hd]at HDV hc1
        have hUd:U*d≤U*9:=Nat.mul_le_mul_left U hd9
        obtain⟨T,hT⟩:∃T,U*d=T:=⟨_,rfl⟩
        rw [hT]at hUd
        have hcd:(c:Int)-48=(d:Int):=by omega
        have hT':(U:Int)*(d:Int)=(T:Int):=by rw [←hT];go_num
        have HT:=Hid.intro hT
        have hT9:T≤900000000:=tle hUd hU
        have hw1:wrap64 (T:Int)=(T:Int):=w64n (Nat.le_trans hT9 (by decide))
        have hw2:wrap64 ((b:Int)+(T:Int))=((b+T:Nat):Int):=by rw [←Int.natCast_add];exact w64n (Nat.le_trans (Nat.add_le_add (Nat.le_of_lt (Nat.lt_of_lt_of_le hbU hU)) hT9) (by decide))
        have hm9:j%9<9:=Nat.mod_lt _ (by decide)
        have hqj:(q:Int)-1=(k:Int)-1-((j+1:Nat):Int):=pred_int hq
        have HQJ:=Hid.intro hqj
        have HT9:=Hid.intro hT9
        have HBT:Hid (b+T<10*U):=Hid.intro (btu hbU hUd)
        have HM9:=Hid.intro hm9
        clear hT hd hqj hT9 hUd hm9 hd9
        by_cases hj8:j%9=8
        ·have HPF:=Hid.intro (part_full (V:=V) hj8)
         have hU8:((10*(U:Int)) == 1000000000)=true:=by rw [←HU.out,hj8];decide
         have HJ8:=Hid.intro hj8
         clear hj8
         gi_wp2_with (gi_at_builtin;refine stop ?_)
         unfold Stop
         refine appendI_limb W wr rfl _ _ rfl u5 (j/9) V rfl HOr _ _ rfl ?_ (by omega) HBr ?_
         ·have:=HPF.out.1
          rw [HP.out,HU.out,←HDV.out,HT.out]at this
          rw [this]
          exact(Int.natCast_add b T).symm
         ·intro v2 w2 HO2 HB2
          gi_wp2
          refine⟨⟨j+1,0,1,rfl,rfl,by rw [HQJ.out],by omega,by omega,HPF.out.2,Hid.intro (by rw [show(j+1)%9=0 by have:=HJ8.out;omega]),by omega,by omega,?_,HB2⟩,by simp only [intOf];omega⟩
          rw [show(j+1)/9=j/9+1 by have:=HJ8.out;omega]
          exact HO2
        ·have HPN:=Hid.intro (part_next (V:=V) hj8)
         have hU7:U≤10000000:=by
          rw [←HU.out]
          exact Nat.le_trans (Nat.pow_le_pow_right (by decide) (show j%9≤7 by omega)) (by decide)
         have hU8:((10*(U:Int)) == 1000000000)=false:=by
          apply beq_false_of_ne
          omega
         have HJ8:=Hid.intro hj8
         clear hj8
         gi_wp2
         refine⟨⟨j+1,b+T,10*U,by go_num,by go_num,by rw [HQJ.out],by omega,by omega,?_,?_,HBT.out,by omega,?_,HBr⟩,by simp only [intOf];omega⟩
         ·have:=HPN.out
          rw [HP.out,HU.out,←HDV.out,HT.out]at this
          exact this
         ·exact Hid.intro (by rw [show(j+1)%9=j%9+1 by have:=HJ8.out;have:=HM9.out;omega,Nat.pow_succ,HU.out,Nat.mul_comm])
         ·rw [show(j+1)/9=j/9 by have:=HJ8.out;omega]
          exact HOr
       ·have HBAD:Hid (isDig o[q]=false):=Hid.intro (by
         obtain⟨b0,h1,h2⟩:=HKb.out (by omega)
         rw [show K-1=q by omega,byte_at o hqk]at h1
         rw [Option.some.inj h1];exact h2)
        have HF:Hid (formZ l=none):=Hid.intro (by
         rw [HFZ.out,if_neg]
         intro h
         have:=List.all_eq_true.1 h o[q] (List.mem_of_getElem? (byte_at o hqk))
         rw [HBAD.out]at this
         cases this)
        obtain⟨c,hc⟩:∃c,o[q].toNat=c:=⟨_,rfl⟩
        have hcr:¬(48≤c∧c≤57):=by rw [←hc];exact of_decide_eq_false HBAD.out
        clear HBAD
        have HTK2:=Hid.intro (HTK.out.step HBr.out)
        obtain⟨f,hf⟩:=HTK2.out.res
        have z0:=(hf 0 (by omega)).1
        have z1:=(hf 1 (by omega)).1
        have y0:=(hf 0 (by omega)).2
        have y1:=(hf 1 (by omega)).2
        have hle:=HTK2.out.le
        clear hf
        by_cases hc48:c<48
        ·gi_wp2_with (exfalso;exact undef_no (by assumption))
         refine ret_two_tmp rfl rfl g rfl rfl z0 z1 ?_
         exact parsed_no HF.out ((HTK2.out.below.setCell hle _).setCell hle _)
        ·have hc57:57<c:=by omega
         gi_wp2_with (exfalso;exact undef_no (by assumption))
         refine ret_two_tmp rfl rfl g rfl rfl z0 z1 ?_
         exact parsed_no HF.out ((HTK2.out.below.setCell hle _).setCell hle _)
      ·have hjk2:j=k:=by omega
       subst hjk2
       have hK0:K=0:=by omega
       subst hK0
       have HALL:Hid (o.data.toList.all isDig=true):=Hid.intro (by have:=HKd.out;rw [List.drop_zero]at this;exact this)
       have HVV:Hid (decVal o.data.toList=V):=Hid.intro (by have:=HV.out;rw [List.drop_zero]at this;exact this)
       have HV10:Hid (V<10^j):=Hid.intro (by
        have:=decVal_lt HALL.out
        rw [HVV.out,←Lib.size_eq,hko]at this
        exact this)
       have HF:Hid (formZ l=some (sgn false V)):=Hid.intro (by rw [HFZ.out,if_pos HALL.out,HVV.out])
       have hneg1:(j:Int)-1-(j:Int) = -1:=by omega
       rw [hneg1]
       by_cases hb0:0<b
       ·gi_wp2_with (gi_at_builtin;refine stop ?_)
        unfold Stop
        refine appendI_limb W wr rfl _ _ rfl u5 (j/9) V rfl HOr _ _ rfl ?_ (by omega) HBr ?_
        ·rw [(end_limb HV10.out).1,HP.out]
        ·intro v2 w2 HO2 HB2
         have HLI:Hid (LimbsI w2 v2 V (j/9+1)):=Hid.intro (rowI_limbs HO2.out (by omega))
         have HVB:=Hid.intro (end_limb HV10.out).2
         gi_wp2_with (gi_at_call 198;refine stop ?_)
         unfold Stop
         refine(rtrim_calls _ _ V _ HLI.out HVB.out).mono ?_
         rintro e w3 ⟨v3,rfl,⟨hv3,_⟩,hB3⟩
         have HB3:=Hid.intro (HB2.out.trans (hB3.mono HB2.out.size))
         have HV3:=Hid.intro hv3
         clear hv3 hB3
         gi_wp2_with (gi_at_call 94;refine stop ?_)
         unfold Stop
         refine(int_calls w3 _ v3 V HV3.out).mono ?_
         rintro e w4 ⟨v4,rfl,⟨m4,rfl,hm4⟩,hB4⟩
         have HB4:=Hid.intro (HB3.out.trans (hB4.mono HB3.out.size))
         obtain⟨o5,k5,c5,rfl,_,_⟩:=natI_len hm4
         have HM4:=Hid.intro hm4
         have HTK2:=Hid.intro (HTK.out.step HB4.out)
         obtain⟨f,hf⟩:=HTK2.out.res
         have z0:=(hf 0 (by omega)).1
         have z1:=(hf 1 (by omega)).1
         have y0:=(hf 0 (by omega)).2
         have y1:=(hf 1 (by omega)).2
         have hle:=HTK2.out.le
         have HE:=Hid.intro HTK2.out.el
         clear hf hm4 hB4
         obtain⟨sg,hsg⟩:∃sg,decide (sgn false V<0)=sg:=⟨_,rfl⟩
         rw [hsg]
         have HSG:=Hid.intro hsg
         clear hsg
         gi_wp2
         refine ret_two_tmp rfl rfl g rfl rfl z0 z1 ?_
         refine⟨.agg #[.bool sg,.slice o5 k5 c5],by rw [HF.out];rfl,⟨_,_,rfl,_,_,_,rfl⟩,?_,(HTK2.out.below.setCell hle _).setCell hle _⟩
         intro z hz
         rw [HF.out]at hz
         cases hz
         exact⟨_,by rw [HSG.out],(HM4.out.setElem HE.out (by decide)).setElem (HE.out.setCell _ _) (by decide)⟩
       ·have hb00:b=0:=by omega
        subst hb00
        have HLI:Hid (LimbsI wr u5 V (j/9)):=Hid.intro (rowI_limbs HOr.out (by omega))
        have HVB:=Hid.intro (end_zero HV10.out HP.out)
        gi_wp2_with (gi_at_call 198;refine stop ?_)
        unfold Stop
        refine(rtrim_calls _ _ V _ HLI.out HVB.out).mono ?_
        rintro e w3 ⟨v3,rfl,⟨hv3,_⟩,hB3⟩
        have HB3:=Hid.intro (HBr.out.trans (hB3.mono HBr.out.size))
        have HV3:=Hid.intro hv3
        clear hv3 hB3
        gi_wp2_with (gi_at_call 94;refine stop ?_)
        unfold Stop
        refine(int_calls w3 _ v3 V HV3.out).mono ?_
        rintro e w4 ⟨v4,rfl,⟨m4,rfl,hm4⟩,hB4⟩
        have HB4:=Hid.intro (HB3.out.trans (hB4.mono HB3.out.size))
        obtain⟨o5,k5,c5,rfl,_,_⟩:=natI_len hm4
        have HM4:=Hid.intro hm4
        have HTK2:=Hid.intro (HTK.out.step HB4.out)
        obtain⟨f,hf⟩:=HTK2.out.res
        have z0:=(hf 0 (by omega)).1
        have z1:=(hf 1 (by omega)).1
        have y0:=(hf 0 (by omega)).2
        have y1:=(hf 1 (by omega)).2
        have hle:=HTK2.out.le
        have HE:=Hid.intro HTK2.out.el
        clear hf hm4 hB4
        obtain⟨sg,hsg⟩:∃sg,decide (sgn false V<0)=sg:=⟨_,rfl⟩
        rw [hsg]
        have HSG:=Hid.intro hsg
        clear hsg
        gi_wp2
        refine ret_two_tmp rfl rfl g rfl rfl z0 z1 ?_
        refine⟨.agg #[.bool sg,.slice o5 k5 c5],by rw [HF.out];rfl,⟨_,_,rfl,_,_,_,rfl⟩,?_,(HTK2.out.below.setCell hle _).setCell hle _⟩
        intro z hz
        rw [HF.out]at hz
        cases hz
        exact⟨_,by rw [HSG.out],(HM4.out.setElem HE.out (by decide)).setElem (HE.out.setCell _ _) (by decide)⟩
end Go.Num
