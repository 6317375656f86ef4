/-
  'ParseQ' of the reference: the fraction of a text.
  Conditions: none.
-/
import Derived.Test.YtepakfjilnpodaaGreatDoorRCAU
namespace Go.Num
open Go.Eng Go.Shelf Go.RowKit Go.Sort Go.Proofs Go.Proofs.YtepakfjilnpodaaGreatDoor
def refE(l:List UInt8):Int:=if 41000<l.length then 2 else match formQ l with|none=>10|some q=>if SmallQ q 20000 then 0 else 11
def ParsedQ(w:World)(l:List UInt8)(e:Ending)(w':World):Prop:=
 ∃v',e = .returned (.tuple #[v',.int .i64 (refE l)])∧(∃s1 o1 k1 c1 s2 o2 k2 c2,v' = .agg #[.bool s1,.slice o1 k1 c1,.bool s2,.slice o2 k2 c2])∧(refE l=0→∃q,formQ l=some q∧QAt w' v' q)∧Below w.heap.size w w'
structure FourKept(w W:World)(g:Nat):Prop where
 res:∃f,ArrAt W g 4 f
 el:Elem W g 62
 below:Below w.heap.size w W
 le:w.heap.size≤g
theorem FourKept.step{w W W':World}{g:Nat}(h:FourKept w W g)(hb:Below W.heap.size W W'):FourKept w W' g:=by
 obtain⟨f,hf⟩:=h.res
 exact⟨⟨f,hf.below h.el.lt hb⟩,h.el.below hb h.el.lt,h.below.trans (hb.mono h.below.size),h.le⟩
theorem fourKept_new(w:World)(x y z u:Value):FourKept w (w.alloc (.cells #[x,y,z,u] 62)) w.heap.size:=
 ⟨⟨fun i => [x,y,z,u].getD i x,ArrAt.new _ _ _ fun i hi=>by
  match i,hi with
  | 0,_=>rfl
  | 1,_=>rfl
  | 2,_=>rfl
  | 3,_=>rfl⟩,elem_new _ _ _,alloc_below _ _,Nat.le_refl _⟩
theorem refE_long{l:List UInt8}(h:41000<l.length):refE l=2:=if_pos h
theorem refE_none{l:List UInt8}(h:¬41000<l.length)(hf:formQ l=none):refE l=10:=by unfold refE;rw [if_neg h,hf]
theorem refE_some{l:List UInt8}(h:¬41000<l.length){q:Rat}(hf:formQ l=some q):refE l=if SmallQ q 20000 then 0 else 11:=by unfold refE;rw [if_neg h,hf]
theorem ret_four{fn:Func}{p t:Tmp}{R:Ending→World→Prop}{a:Act}{w:World}{x y z u v:Value}(h:fn.results=#[.cell p 62,.tmp t])(hd:a.defers = [])(g:Nat)(hp:a.tmps.getD p undef = .pointer (some ⟨g,0,none⟩))(ht:a.tmps.getD t undef=v)
  (hc:Box4 w g x y z u) (hR:R (.returned (.tuple #[.agg #[x,y,z,u],v])) w):bodyPost Tryz.prog fn R .ret a w:=by
 refine⟨hd,.tuple #[.agg #[x,y,z,u],v],?_,hR⟩
 have e1:=l34 g [x,y,z,u] w rfl hc
 simp only [Instr.loadAt,Instr.sureAddr,Sem.run_bind,Sem.run_pure,Result.andThen_ok]at e1
 have hp2:a.tmps[p]?.getD undef = .pointer (some ⟨g,0,none⟩):=by rw [←Array.getD_eq_getD_getElem?];exact hp
 have ht2:a.tmps[t]?.getD undef=v:=by rw [←Array.getD_eq_getD_getElem?];exact ht
 simp [results,h,hp2,ht2,asAddr,e1]
theorem ret_four_box{fn:Func}{p t:Tmp}{R:Ending→World→Prop}{a:Act}{w:World}{x y z u v:Value}(h:fn.results=#[.cell p 62,.tmp t])(hd:a.defers = [])(hp:a.tmps.getD p undef = .pointer (some ⟨w.heap.size,0,none⟩))(ht:a.tmps.getD t undef=v)
  (hR:R (.returned (.tuple #[.agg #[x,y,z,u],v])) (w.alloc (.cells #[x,y,z,u] 62))):bodyPost Tryz.prog fn R .ret a (w.alloc (.cells #[x,y,z,u] 62)):=by
 refine ret_four h hd w.heap.size hp ht (fun j v' hj => ?_) hR
 match j,hj with
 | 0,hj=>rw [←hj,World.cell?_alloc_new];rfl
 | 1,hj=>rw [←hj,World.cell?_alloc_new];rfl
 | 2,hj=>rw [←hj,World.cell?_alloc_new];rfl
 | 3,hj=>rw [←hj,World.cell?_alloc_new];rfl
 | k+4,hj=>simp at hj
theorem ret_four_set{fn:Func}{p t:Tmp}{R:Ending→World→Prop}{a:Act}{w:World}{x y z u v:Value}(h:fn.results=#[.cell p 62,.tmp t])(hd:a.defers = [])(g:Nat)(hp:a.tmps.getD p undef = .pointer (some ⟨g,0,none⟩))(ht:a.tmps.getD t undef=v)
  {f:Nat→Value} (hA:ArrAt w g 4 f) (hR:R (.returned (.tuple #[.agg #[x,y,z,u],v])) ((((w.setCell ⟨g,0,none⟩ x).setCell ⟨g,1,none⟩ y).setCell ⟨g,2,none⟩ z).setCell ⟨g,3,none⟩ u)) :
  bodyPost Tryz.prog fn R .ret a ((((w.setCell ⟨g,0,none⟩ x).setCell ⟨g,1,none⟩ y).setCell ⟨g,2,none⟩ z).setCell ⟨g,3,none⟩ u):=by
 have h4:=(((hA.set (i:=0) (by omega) x).set (i:=1) (by omega) y).set (i:=2) (by omega) z).set (i:=3) (by omega) u
 refine ret_four h hd g hp ht (fun j v' hj => ?_) hR
 match j,hj with
 | 0,hj=>rw [←hj];exact(h4 0 (by omega)).1
 | 1,hj=>rw [←hj];exact(h4 1 (by omega)).1
 | 2,hj=>rw [←hj];exact(h4 2 (by omega)).1
 | 3,hj=>rw [←hj];exact(h4 3 (by omega)).1
 | k+4,hj=>simp at hj
theorem parsedQ_bad{w w':World}{l:List UInt8}{c:Int}(h:refE l=c)(hc:c≠0)(hB:Below w.heap.size w w'):ParsedQ w l (.returned (.tuple #[.agg #[.bool false,.slice none 0 0,.bool false,.slice none 0 0],.int .i64 c])) w':=
 ⟨_,by rw [h],⟨_,_,_,_,_,_,_,_,rfl⟩,fun e=>absurd (h ▸ e) hc,hB⟩
def BoxL(w:World)(g:Nat)(xs:List Value):Prop:=g<w.heap.size∧∀j v,xs[j]? = some v→w.cell? ⟨g,j,none⟩=some v
theorem BoxL.below{w w':World}{g:Nat}{xs:List Value}(h:BoxL w g xs)(hb:Below w.heap.size w w'):BoxL w' g xs:=⟨Nat.lt_of_lt_of_le h.1 hb.size,fun j v hj=>(hb.cell (p:=⟨g,j,none⟩) h.1).trans (h.2 j v hj)⟩
theorem boxL_new(w:World)(xs:List Value)(t:TypeId):BoxL (w.alloc (.cells xs.toArray t)) w.heap.size xs:=⟨by simp,fun j v hj=>by
 rw [World.cell?_alloc_new,←hj];simp⟩
theorem formQ_bad{l:List UInt8}(h:formZ (topOf l)=none):formQ l=none:=by
 unfold formQ
 unfold topOf at h
 split
 ·rename_i hs
  rw [if_pos hs]at h
  rw [h]
 ·rename_i hs
  rw [if_neg hs]at h
  rw [h]
theorem formQ_whole{l:List UInt8}{z:Int}(h:formZ (topOf l)=some z)(hs:¬slashAt l<l.length):formQ l=some (z:Rat):=by
 unfold formQ
 unfold topOf at h
 rw [if_neg hs]at h ⊢
 rw [h]
theorem canon_no_neg{b:List UInt8}(h:canon b=true):isNeg b=false:=by
 cases b with
 | nil=>rfl
 | cons c r=>
  have:=canon_dig h
  simp only [List.all_cons,Bool.and_eq_true]at this
  have h1:=of_decide_eq_true this.1
  rw [isNeg_cons,beq_eq_false_iff_ne]
  rintro rfl
  have:(45:UInt8).toNat=45:=rfl
  omega
theorem formZ_canon{b:List UInt8}(h:canon b=true):formZ b=some (decVal b:Int):=by
 unfold formZ
 rw [canon_no_neg h,ownOf_pos (canon_no_neg h),h]
 rfl
theorem formZ_two{b:List UInt8}{z:Int}(h:formZ b=some z)(h2:2≤z):canon b=true∧(decVal b:Int)=z:=by
 have hz:isNeg b=false:=by
  cases hn:isNeg b with
  | false=>rfl
  | true=>
   unfold formZ at h
   split at h
   ·cases h
    rw [hn]at h2
    have:(-(decVal (ownOf b):Int))=sgn true (decVal (ownOf b)):=rfl
    omega
   ·cases h
 unfold formZ at h
 rw [hz,ownOf_pos hz]at h
 split at h
 ·rename_i hc
  cases h
  simp only [Bool.false_and,Bool.not_false,Bool.and_true]at hc
  exact⟨hc,rfl⟩
 ·cases h
theorem formQ_slash{l:List UInt8}{z:Int}(h:formZ (topOf l)=some z)(hs:slashAt l<l.length) :
  (∀d:Int,formZ (botOf l)=some d→2≤d→Nat.gcd z.natAbs d.natAbs=1→∃q,formQ l=some q∧q.num=z∧(q.den:Int)=d)∧(formZ (botOf l)=none→formQ l=none)∧(∀d:Int,formZ (botOf l)=some d→¬(2≤d∧Nat.gcd z.natAbs d.natAbs=1)→formQ l=none):=by
 have e:formQ l=if(canon (botOf l) && decide (2≤decVal (botOf l)) && decide (Nat.gcd z.natAbs (decVal (botOf l))=1))=true then some ((z:Rat)/(decVal (botOf l):Rat))else none:=by
  unfold formQ
  have ht:l.take (slashAt l)=topOf l:=by unfold topOf;rw [if_pos hs]
  have hb:l.drop (slashAt l+1)=botOf l:=by unfold botOf;rw [if_pos hs]
  rw [if_pos hs,ht,hb,h]
 refine⟨fun d hd h2 hg => ?_,fun hb => ?_,fun d hd hno => ?_⟩
 ·obtain⟨hc,rfl⟩:=formZ_two hd h2
  rw [Int.natAbs_natCast]at hg
  have h2':2≤decVal (botOf l):=by omega
  rw [hc,decide_eq_true h2',Bool.true_and,Bool.true_and,if_pos (decide_eq_true hg)]at e
  have hp:=quot_partsT (z:=z) (d:=decVal (botOf l)) (by omega) hg
  exact⟨_,e,hp.1,by rw [hp.2]⟩
 ·rw [e,if_neg]
  intro hh
  simp only [Bool.and_eq_true]at hh
  rw [formZ_canon hh.1.1]at hb
  cases hb
 ·rw [e,if_neg]
  intro hh
  simp only [Bool.and_eq_true]at hh
  have hc:=formZ_canon hh.1.1
  rw [hd]at hc
  cases hc
  refine hno ⟨?_,?_⟩
  ·have:=of_decide_eq_true hh.1.2
   omega
  ·rw [Int.natAbs_natCast];exact of_decide_eq_true hh.2
theorem sign_ge{d:Int}(h:2≤d):decide ((d-2).sign<0)=false:=by
 apply decide_eq_false
 rcases Int.lt_or_eq_of_le h with h|h
 ·rw [Int.sign_eq_one_of_pos (by omega)];decide
 ·rw [show d-2=0 by omega];decide
theorem zform_lt{b:List UInt8}{z:Int}(h:formZ b=some z)(hb:b.length≤41000):z.natAbs<B^5000:=by
 unfold formZ at h
 split at h
 ·rename_i hc
  cases h
  rw [sgn_abs]
  simp only [Bool.and_eq_true]at hc
  refine lt_lift 5000 (val_limbs (k:=4556) (canon_dig hc.1) ?_) (by decide)
  have:(ownOf b).length≤b.length:=by
   unfold ownOf Lib.trimPrefix
   split
   ·rw [List.length_drop];omega
   ·exact Nat.le_refl _
  omega
 ·cases h
theorem frame_split{a':Act}{T:List Value}{lo hi:Nat}(hlh:lo≤hi)(h0:a'.defers = [])(h1:a'.tmps.toList.take lo=T.take lo)(h2:a'.tmps.toList.drop hi=T.drop hi)(hs:hi≤a'.tmps.size) :
  ∃ys:List Value,ys.length=hi-lo∧a'={tmps:=(T.take lo ++ ys ++ T.drop hi).toArray,defers:=[]}:=by
 refine⟨(a'.tmps.toList.drop lo).take (hi-lo),by rw [List.length_take,List.length_drop,Array.length_toList];omega,?_⟩
 obtain⟨tm,df⟩:=a'
 simp only at *
 rw [h0]
 congr 1
 apply Array.toList_inj.1
 show tm.toList=T.take lo ++ (tm.toList.drop lo).take (hi-lo) ++ T.drop hi
 have e1:tm.toList=tm.toList.take lo ++ tm.toList.drop lo:=(List.take_append_drop _ _).symm
 have e2:tm.toList.drop lo=(tm.toList.drop lo).take (hi-lo) ++ (tm.toList.drop lo).drop (hi-lo):=(List.take_append_drop _ _).symm
 have e3:(tm.toList.drop lo).drop (hi-lo)=T.drop hi:=by rw [List.drop_drop,show lo+(hi-lo)=hi by omega,h2]
 rw [e3]at e2
 rw [←h1,List.append_assoc,←e2,←e1]
theorem list16{l:List Value}(h:l.length=16):∃a b c d e f g i j k m n o p q r:Value,l = [a,b,c,d,e,f,g,i,j,k,m,n,o,p,q,r]:=by
 match l,h with
 | [a,b,c,d,e,f,g,i,j,k,m,n,o,p,q,r],_=>exact⟨a,b,c,d,e,f,g,i,j,k,m,n,o,p,q,r,rfl⟩
def Held(T:List Value)(lo hi:Nat)(R:Value→World→Prop)(at':Nat)(a':Act)(w':World):Prop:=
 a'.defers = []∧a'.tmps.toList.take lo=T.take lo∧a'.tmps.toList.drop hi=T.drop hi∧hi≤a'.tmps.size∧R (a'.tmps.getD at' undef) w'
theorem region_held{F:Fence}{n:Nat}{P:Program}{c:Code}{Q:Exit→Act→World→Prop}{T:List Value}{w:World}(lo hi at':Nat)(R:Value→World→Prop)(hlh:lo≤hi)
  (reg:c.wpIn F n P (AtRel (Held T lo hi R at')) {tmps:=T.toArray,defers:=[]} w)
  (rest:∀ys w',ys.length=hi-lo→R ((T.take lo ++ ys ++ T.drop hi).toArray.getD at' undef) w'→Q .normal {tmps:=(T.take lo ++ ys ++ T.drop hi).toArray,defers:=[]} w') :
  c.wpIn F n P Q {tmps:=T.toArray,defers:=[]} w:=
 region_to _ (fun a' w' ⟨h0,h1,h2,h3,h4⟩=>by
  obtain⟨ys,hy,e⟩:=frame_split hlh h0 h1 h2 h3
  rw [e]at h4 ⊢
  exact rest ys w' hy h4) reg
theorem two_lt:(2:Int).natAbs<B^50000:=lt_lift 50000 (show 2<B^1 by decide) (by decide)
theorem one_lt:(1:Int).natAbs<B^50000:=lt_lift 50000 (show 1<B^1 by decide) (by decide)
theorem FourKept.set{w W:World}{g g6:Nat}(h:FourKept w W g)(hne:g<g6){i:Nat}{u:Value}:FourKept w (W.setCell ⟨g6,i,none⟩ u) g:=by
 obtain⟨f,hf⟩:=h.res
 exact⟨⟨f,fun j hj=>⟨(World.cell?_setCell_other _ _ _ _ (by intro e;injection e with e _ _;omega)).trans (hf j hj).1,by rw [World.frozen?_setCell];exact(hf j hj).2⟩⟩,h.el.setCell _ _,h.below.setCell (by have:=h.le;show _≤g6;omega) _,h.le⟩
theorem NatI.set4{w:World}{v:Value}{n g:Nat}{x y z u:Value}(h:NatI w v n)(hE:Elem w g 62):NatI ((((w.setCell ⟨g,0,none⟩ x).setCell ⟨g,1,none⟩ y).setCell ⟨g,2,none⟩ z).setCell ⟨g,3,none⟩ u) v n:=
 (((h.setElem hE (by decide)).setElem (hE.setCell _ _) (by decide)).setElem ((hE.setCell _ _).setCell _ _) (by decide)).setElem (((hE.setCell _ _).setCell _ _).setCell _ _) (by decide)
theorem quot_at{w:World}{g:Nat}{z d:Int}{q:Rat}{s1 s3:Bool}{v1 v3:Value}{x0 x1 x2 x3:Value}(hz:ZAt w (.agg #[.bool s1,v1]) z)(hd:ZAt w (.agg #[.bool s3,v3]) d)(hE:Elem w g 62)(hn:q.num=z)(hqd:(q.den:Int)=d)(h2:2≤d) :
  QAt ((((w.setCell ⟨g,0,none⟩ x0).setCell ⟨g,1,none⟩ x1).setCell ⟨g,2,none⟩ x2).setCell ⟨g,3,none⟩ x3) (.agg #[.bool s1,v1,.bool s3,v3]) q:=by
 obtain⟨m1,hm1,hn1⟩:=hz
 obtain⟨m2,hm2,hn2⟩:=hd
 have a1:s1=decide (z<0)∧v1=m1:=by simpa using hm1
 have a2:s3=decide (d<0)∧v3=m2:=by simpa using hm2
 have hs3:decide (d<0)=false:=decide_eq_false (by omega)
 refine⟨m1,m2,by rw [a1.1,a1.2,a2.1,a2.2,hs3,hn],by rw [hn];exact hn1.set4 hE,?_⟩
 have e:q.den=d.natAbs:=by omega
 rw [e];exact hn2.set4 hE
def slashInt:Value→Nat
 | .int _ n=>n.toNat
 | _=>0
set_option maxRecDepth 100000 in
set_option maxHeartbeats 8000000 in
theorem parseQ_calls(w:World)(s:ByteArray)(l:List UInt8)(hl:s.data.toList=l) :
  CallsIn Fence.wide 0 Tryz.prog 97 #[.string s] w (ParsedQ w l):=by
 have hsz:s.size=l.length:=by rw [Lib.size_eq,hl]
 have HSL:=Hid.intro hl
 obtain⟨n,hnl⟩:∃n,l.length=n:=⟨_,rfl⟩
 rw [hnl]at hsz
 have HN:=Hid.intro hnl
 refine callsIn_of_wp Tryz.func97 rfl trivial ?_ rfl
 simp only [Tryz.ntmps97,List.size_toArray,List.length_cons,List.length_nil,Nat.reduceAdd,Nat.reduceSub,Array.replicate_succ,Array.replicate_zero,List.push_toArray,List.append_toArray,List.nil_append,List.cons_append]
 clear hl hnl
 by_cases hlong:41000<n
 ·have hlong':decide ((n:Int)>41000)=true:=decide_eq_true (by omega)
  have HE:=Hid.intro (refE_long (l:=l) (by rw [HN.out];exact hlong))
  gi_wp2
  refine ret_four_box rfl rfl rfl rfl ?_
  exact parsedQ_bad HE.out (by decide) (alloc_below _ _)
 ·have hlong':decide ((n:Int)>41000)=false:=decide_eq_false (by omega)
  have HNL:Hid (¬41000<l.length):=Hid.intro (by rw [HN.out];exact hlong)
  obtain⟨a,hal⟩:∃a,slashAt l=a:=⟨_,rfl⟩
  have HAL:=Hid.intro hal
  have han:a≤n:=by have:=slash_le l;rw [hal,HN.out]at this;exact this
  clear hal
  gi_wp2
  obtain⟨W,hW⟩:∃W,W=w.alloc (.cells #[.bool false,.slice none 0 0,.bool false,.slice none 0 0] 62):=⟨_,rfl⟩
  rw [←hW]
  have HFK:Hid (FourKept w W w.heap.size):=Hid.intro (by rw [hW];exact fourKept_new _ _ _ _ _)
  obtain⟨g,hg⟩:∃g,w.heap.size=g:=⟨_,rfl⟩
  rw [hg]at HFK
  rw [hg]
  clear hW hg
  gi_loopw [4,5] (fun x4 x5 wr=>∃(i t:Nat),x4 = .int .i64 (t:Int)∧x5 = .int .i64 (i:Int)∧i≤n∧t≤n∧Hid (t=if a<i then a else n)∧wr=W) (fun _ v _=>n-slashInt v)
  case atStart=>exact⟨0,n,rfl,rfl,by omega,by omega,Hid.intro (by rw [if_neg (by omega)]),rfl⟩
  case round=>
   obtain⟨i,t,rfl,rfl,hi,ht,HT,rfl⟩:=hrel
   by_cases hin:i<n
   ·have his:i<s.size:=by omega
    obtain⟨c,hc⟩:∃c,s[i].toNat=c:=⟨_,rfl⟩
    by_cases hia:i=a
    ·have hc47:c=47:=by
      have h1:=slash_is l (by rw [HAL.out,HN.out];omega)
      rw [HAL.out,←hia,←HSL.out,byte_at s his]at h1
      have:s[i]=47:=Option.some.inj h1
      rw [←hc,this];rfl
     have htn:t=n:=by rw [HT.out,if_neg (by omega)]
     subst htn
     have HIA:=Hid.intro hia
     clear hia
     gi_wp2_with (exfalso;exact undef_no (by assumption))
     refine⟨⟨i+1,i,rfl,by go_num,by omega,by omega,Hid.intro (by have:=HIA.out;rw [if_pos (by omega)];exact this),trivial⟩,by simp only [slashInt];omega⟩
    ·by_cases hla:i<a
     ·have hc47:((c:Int) == 47)=false:=by
       apply beq_false_of_ne
       intro e
       have h1:=slash_before l (i:=i) (by rw [HAL.out];exact hla)
       rw [←HSL.out,byte_at s his]at h1
       exact h1 (by rw [show s[i]=47 from UInt8.toNat_inj.1 (by rw [hc];have:(47:UInt8).toNat=47:=rfl;omega)])
      have HLA:=Hid.intro hla
      clear hia hla
      gi_wp2_with (exfalso;exact undef_no (by assumption))
      refine⟨⟨i+1,t,rfl,by go_num,by omega,ht,Hid.intro (by have:=HLA.out;have:=HT.out;rw [if_neg (by omega)]at this ⊢;exact this),trivial⟩,by simp only [slashInt];omega⟩
     ·have htn:((t:Int) == (n:Int))=false:=by
       apply beq_false_of_ne
       have:=HT.out
       rw [if_pos (by omega)]at this
       omega
      have HLA:Hid (a<i):=Hid.intro (by omega)
      clear hia hla
      by_cases hc47:c=47
      ·gi_wp2_with (exfalso;exact undef_no (by assumption))
       refine⟨⟨i+1,t,rfl,by go_num,by omega,ht,Hid.intro (by have:=HLA.out;have:=HT.out;rw [if_pos (by omega)]at this ⊢;exact this),trivial⟩,by simp only [slashInt];omega⟩
      ·have hc47':((c:Int) == 47)=false:=by
        apply beq_false_of_ne
        omega
       gi_wp2_with (exfalso;exact undef_no (by assumption))
       refine⟨⟨i+1,t,rfl,by go_num,by omega,ht,Hid.intro (by have:=HLA.out;have:=HT.out;rw [if_pos (by omega)]at this ⊢;exact this),trivial⟩,by simp only [slashInt];omega⟩
   ·have hin2:i=n:=by omega
    subst hin2
    have hta:t=a:=by have:=HT.out;split at this <;> omega
    subst hta
    gi_wp2_with (gi_at_call 162;refine stop ?_)
    unfold Stop
    have hx:(s.extract 0 t).data.toList=topOf l:=by
     rw [ext_take (l:=l) (m:=i) (by rw [HSL.out,←HN.out,List.take_length]) (by omega)]
     unfold topOf
     rw [HAL.out,HN.out]
     split
     ·rfl
     ·rw [List.take_of_length_le (by rw [HN.out];omega)]
    refine(parseZ_calls wr (s.extract 0 t) (topOf l) hx (by have:=own_len l;rw [HN.out]at this;omega)).mono ?_
    rintro e w2 ⟨v2,rfl,⟨s1,m1,rfl,o1,k1,c1,rfl⟩,hz,hB⟩
    replace HFK:=Hid.intro (HFK.out.step hB)
    obtain⟨f,hf⟩:=HFK.out.res
    have HAr:=Hid.intro (hf.alloc HFK.out.el.lt (Obj.cells #[.bool s1,.slice o1 k1 c1] 60))
    have hle:=HFK.out.le
    clear hf hB hx
    cases hfz:formZ (topOf l)with
    | none=>
     have HE:=Hid.intro (refE_none HNL.out (formQ_bad hfz))
     simp only [Option.isSome_none]
     have z0:=(HAr.out 0 (by omega)).1
     have z1:=(HAr.out 1 (by omega)).1
     have z2:=(HAr.out 2 (by omega)).1
     have z3:=(HAr.out 3 (by omega)).1
     have y0:=(HAr.out 0 (by omega)).2
     have y1:=(HAr.out 1 (by omega)).2
     have y2:=(HAr.out 2 (by omega)).2
     have y3:=(HAr.out 3 (by omega)).2
     clear hz hfz
     gi_wp2
     refine ret_four_set rfl rfl g rfl rfl HAr.out ?_
     have hsz2:=HFK.out.below.size
     exact parsedQ_bad HE.out (by decide) (((((HFK.out.below.alloc hsz2 _).setCell hle _).setCell hle _).setCell hle _).setCell hle _)
    | some z=>
     have HZ:=Hid.intro (hz z hfz)
     have HFZ:=Hid.intro hfz
     simp only [Option.isSome_some]
     clear hz hfz HAr
     gi_wp2_with (gi_at_call 30;refine stop ?_)
     unfold Stop
     obtain⟨W3,hW3⟩:∃W,W=w2.alloc (Obj.cells #[.bool s1,.slice o1 k1 c1] 60):=⟨_,rfl⟩
     rw [←hW3]
     have hB3:Below w2.heap.size w2 W3:=by rw [hW3];exact alloc_below _ _
     have HBX:Hid (BoxL W3 w2.heap.size [.bool s1,.slice o1 k1 c1]):=Hid.intro (by rw [hW3];exact boxL_new _ _ _)
     replace HFK:=Hid.intro (HFK.out.step hB3)
     replace HZ:=Hid.intro (HZ.out.below hB3)
     obtain⟨g6,hg6⟩:∃g6,w2.heap.size=g6:=⟨_,rfl⟩
     rw [hg6]at HBX
     rw [hg6]
     clear hW3 hB3 hg6
     refine(whole_calls W3 _ z HZ.out).mono ?_
     rintro e w4 ⟨v4,rfl,hq4,hB⟩
     replace HFK:=Hid.intro (HFK.out.step hB)
     replace HZ:=Hid.intro (HZ.out.below hB)
     replace HBX:=Hid.intro (HBX.out.below hB)
     have HQQ:=Hid.intro hq4
     obtain⟨m1,m2,rfl,hm1,hm2⟩:=hq4
     obtain⟨o2,k2,c2,rfl,_,_⟩:=natI_len hm1
     obtain⟨o3,k3,c3,rfl,_,_⟩:=natI_len hm2
     obtain⟨s2,hs2⟩:∃s2,decide (((z:Int):Rat).num<0)=s2:=⟨_,rfl⟩
     rw [hs2]at HQQ
     rw [hs2]
     clear hm1 hm2 hB hs2
     obtain⟨W5,hW5⟩:∃W,W=w4.alloc (Obj.cells #[.bool s2,.slice o2 k2 c2,.bool false,.slice o3 k3 c3] 62):=⟨_,rfl⟩
     have hB5:Below w4.heap.size w4 W5:=by rw [hW5];exact alloc_below _ _
     have HQB:Hid (BoxL W5 w4.heap.size [.bool s2,.slice o2 k2 c2,.bool false,.slice o3 k3 c3]):=Hid.intro (by rw [hW5];exact boxL_new _ _ _)
     have HQA:Hid (∃f,ArrAt W5 w4.heap.size 4 f):=Hid.intro (by rw [hW5];exact(fourKept_new _ _ _ _ _).res)
     have HQE:Hid (Elem W5 w4.heap.size 62):=Hid.intro (by rw [hW5];exact elem_new _ _ _)
     have hlt4:=HFK.out.el.lt
     replace HFK:=Hid.intro (HFK.out.step hB5)
     replace HZ:=Hid.intro (HZ.out.below hB5)
     replace HBX:=Hid.intro (HBX.out.below hB5)
     replace HQQ:=Hid.intro (HQQ.out.below hB5)
     by_cases hti:t<i
     ·have HSLS:Hid (slashAt l<l.length):=Hid.intro (by rw [HAL.out,HN.out];exact hti)
      have HFS:=Hid.intro (formQ_slash HFZ.out HSLS.out)
      gi_wp2_with (gi_at_call 162;refine stop ?_)
      unfold Stop
      rw [←hW5]
      obtain⟨g8,hg8⟩:∃g8,w4.heap.size=g8:=⟨_,rfl⟩
      rw [hg8]at HQB HQA HQE hlt4
      rw [hg8]
      clear hW5 hB5 hg8
      have hx2:(s.extract (t+1) i).data.toList=botOf l:=by
       rw [ext_drop (l:=l) (m:=i) (by rw [HSL.out,←HN.out,List.take_length]) hsz,←HN.out,List.take_length]
       unfold botOf
       rw [HAL.out,HN.out,if_pos hti]
      refine(parseZ_calls W5 (s.extract (t+1) i) (botOf l) hx2 (by have:=own_len l;rw [HN.out]at this;omega)).mono ?_
      rintro e w6 ⟨v6,rfl,⟨s3,m3,rfl,o4,k4,c4,rfl⟩,hz6,hB⟩
      replace HFK:=Hid.intro (HFK.out.step hB)
      replace HZ:=Hid.intro (HZ.out.below hB)
      replace HBX:=Hid.intro (HBX.out.below hB)
      replace HQQ:=Hid.intro (HQQ.out.below hB)
      replace HQB:=Hid.intro (HQB.out.below hB)
      replace HQA:Hid (∃f,ArrAt w6 g8 4 f):=Hid.intro (HQA.out.elim fun f hf=>⟨f,hf.below HQE.out.lt hB⟩)
      replace HQE:=Hid.intro (HQE.out.below hB HQE.out.lt)
      clear hB hx2
      obtain⟨W7,hW7⟩:∃W,W=w6.alloc (Obj.cells #[.bool s3,.slice o4 k4 c4] 60):=⟨_,rfl⟩
      have hB7:Below w6.heap.size w6 W7:=by rw [hW7];exact alloc_below _ _
      have HBY:Hid (BoxL W7 w6.heap.size [.bool s3,.slice o4 k4 c4]):=Hid.intro (by rw [hW7];exact boxL_new _ _ _)
      replace HFK:=Hid.intro (HFK.out.step hB7)
      replace HZ:=Hid.intro (HZ.out.below hB7)
      replace HBX:=Hid.intro (HBX.out.below hB7)
      replace HQQ:=Hid.intro (HQQ.out.below hB7)
      replace HQB:=Hid.intro (HQB.out.below hB7)
      replace HQA:Hid (∃f,ArrAt W7 g8 4 f):=Hid.intro (HQA.out.elim fun f hf=>⟨f,hf.below HQE.out.lt hB7⟩)
      replace HQE:=Hid.intro (HQE.out.below hB7 HQE.out.lt)
      cases hf6:formZ (botOf l)with
      | none=>
       simp only [Option.isSome_none]
       have HFQ:=Hid.intro (HFS.out.2.1 hf6)
       have HE:=Hid.intro (refE_none HNL.out HFQ.out)
       clear hz6 hf6
       gi_wp2
       rw [←hW7]
       clear hW7 hB7
       have d0:=HBX.out.2 0 _ rfl
       have d1:=HBX.out.2 1 _ rfl
       have e0:=HBY.out.2 0 _ rfl
       have e1:=HBY.out.2 1 _ rfl
       obtain⟨g9,hg9⟩:∃g9,w6.heap.size=g9:=⟨_,rfl⟩
       rw [hg9]at HBY e0 e1
       rw [hg9]
       clear hg9
       refine region_held 58 74 73 (fun v w'=>v = .bool true∧Below W7.heap.size W7 w') (by decide) ?reg ?rest
       case reg=>
        gi_region_with (exfalso;exact undef_no (by assumption))
        all_goals exact⟨rfl,rfl,rfl,Nat.le_of_ble_eq_true rfl,rfl,drew_below _⟩
       case rest=>
        intro ys w' hy hR
        obtain⟨a0,a1,a2,a3,a4,a5,a6,a7,a8,a9,b0,b1,b2,b3,b4,b5,rfl⟩:=list16 hy
        obtain⟨hb5,hB⟩:=hR
        have hb5:b5 = .bool true:=hb5
        subst hb5
        clear hy
        simp only [List.take_succ_cons,List.take_zero,List.drop_succ_cons,List.drop_zero,List.cons_append,List.nil_append]
        have HBr:=Hid.intro hB
        replace HFK:=Hid.intro (HFK.out.step HBr.out)
        obtain⟨fr,hfr⟩:=HFK.out.res
        have HAr:=Hid.intro hfr
        have z0:=(HAr.out 0 (by omega)).1
        have z1:=(HAr.out 1 (by omega)).1
        have z2:=(HAr.out 2 (by omega)).1
        have z3:=(HAr.out 3 (by omega)).1
        have y0:=(HAr.out 0 (by omega)).2
        have y1:=(HAr.out 1 (by omega)).2
        have y2:=(HAr.out 2 (by omega)).2
        have y3:=(HAr.out 3 (by omega)).2
        clear hfr hB d0 d1 e0 e1
        gi_wp2
        refine ret_four_set rfl rfl g rfl rfl HAr.out ?_
        exact parsedQ_bad HE.out (by decide) ((((HFK.out.below.setCell hle _).setCell hle _).setCell hle _).setCell hle _)
      | some d=>
       simp only [Option.isSome_some]
       have HD:=Hid.intro ((hz6 d hf6).below hB7)
       have HF6:=Hid.intro hf6
       clear hz6 hf6
       gi_wp2
       rw [←hW7]
       clear hW7 hB7
       have d0:=HBX.out.2 0 _ rfl
       have d1:=HBX.out.2 1 _ rfl
       have e0:=HBY.out.2 0 _ rfl
       have e1:=HBY.out.2 1 _ rfl
       obtain⟨g9,hg9⟩:∃g9,w6.heap.size=g9:=⟨_,rfl⟩
       rw [hg9]at HBY e0 e1
       rw [hg9]
       clear hg9
       have HLX:Hid (g6<W7.heap.size):=Hid.intro HBX.out.1
       have HLY:Hid (g9<W7.heap.size):=Hid.intro HBY.out.1
       have HZL:Hid (z.natAbs<B^5000):=Hid.intro (zform_lt HFZ.out (by have:=own_len l;rw [HN.out]at this;omega))
       have HDL5:Hid (d.natAbs<B^5000):=Hid.intro (zform_lt HF6.out (by have:=own_len l;rw [HN.out]at this;omega))
       have HDL:Hid (d.natAbs<B^50000):=Hid.intro (lt_lift 50000 HDL5.out (by decide))
       have HGL:Hid (((Nat.gcd z.natAbs d.natAbs:Nat):Int).natAbs<B^50000):=Hid.intro (by
        rw [Int.natAbs_natCast]
        rcases Nat.eq_zero_or_pos d.natAbs with h|h
        ·rw [h,Nat.gcd_zero_right];exact lt_lift 50000 HZL.out (by decide)
        ·exact Nat.lt_of_le_of_lt (Nat.le_of_dvd h (Nat.gcd_dvd_right _ _)) HDL.out)
       by_cases hd2:2≤d
       ·by_cases hg1:Nat.gcd z.natAbs d.natAbs=1
        ·obtain⟨sg,hsg,hsg0⟩:∃sg,(d-2).sign=sg∧(decide (sg<0))=false:=⟨_,rfl,sign_ge hd2⟩
         have hsg2:(((Nat.gcd z.natAbs d.natAbs:Nat):Int)-1).sign=0:=by rw [hg1];decide
         have HQ:=Hid.intro (HFS.out.1 d HF6.out hd2 hg1)
         clear hg1
         refine region_held 58 74 73 (fun v w'=>v = .bool false∧Below W7.heap.size W7 w') (by decide) ?reg ?rest
         case reg=>
          gi_region_with (first
                | (exfalso;exact undef_no (by assumption))
                | (gi_at_call 31;(with_reducible refine(rOf_calls W7.drew 2 (by decide) (by decide)).mono ?_);rintro e x1 ⟨va,rfl,hva,hB⟩;have HVA:=Hid.intro hva;have HBk:=Hid.intro ((drew_below W7).trans (hB.mono (drew_below W7).size));have e0:=(HBY.out.below HBk.out).2 0 _ rfl;have e1:=(HBY.out.below HBk.out).2 1 _ rfl;have d0:=(HBX.out.below HBk.out).2 0 _ rfl;have d1:=(HBX.out.below HBk.out).2 1 _ rfl;clear hva hB)
                | (gi_at_call 99;(with_reducible refine(zcmp_calls x1 _ va d 2 (HD.out.below HBk.out) HVA.out HDL.out two_lt).mono ?_);rintro e x2 ⟨rfl,hB⟩;have HBk:=Hid.intro (HBk.out.trans (hB.mono HBk.out.size));have e0:=(HBY.out.below HBk.out).2 0 _ rfl;have e1:=(HBY.out.below HBk.out).2 1 _ rfl;have d0:=(HBX.out.below HBk.out).2 0 _ rfl;have d1:=(HBX.out.below HBk.out).2 1 _ rfl;rw [hsg];clear hB)
                | (gi_at_call 156;(with_reducible refine(zgcd_calls x2 _ _ z d (HZ.out.below HBk.out) (HD.out.below HBk.out) (lt_lift 100000 HZL.out (by decide)) (lt_lift 100000 HDL.out (by decide))).mono ?_);rintro e x3 ⟨vg,rfl,hvg,hB⟩;have HVG:=Hid.intro hvg;have HBk:=Hid.intro (HBk.out.trans (hB.mono HBk.out.size));have e0:=(HBY.out.below HBk.out).2 0 _ rfl;have e1:=(HBY.out.below HBk.out).2 1 _ rfl;have d0:=(HBX.out.below HBk.out).2 0 _ rfl;have d1:=(HBX.out.below HBk.out).2 1 _ rfl;clear hvg hB)
                | (gi_at_call 31;(with_reducible refine(rOf_calls x3 1 (by decide) (by decide)).mono ?_);rintro e x4 ⟨vo,rfl,hvo,hB⟩;have HVO:=Hid.intro hvo;have HVG:=Hid.intro (HVG.out.below hB);have HBk:=Hid.intro (HBk.out.trans (hB.mono HBk.out.size));have e0:=(HBY.out.below HBk.out).2 0 _ rfl;have e1:=(HBY.out.below HBk.out).2 1 _ rfl;have d0:=(HBX.out.below HBk.out).2 0 _ rfl;have d1:=(HBX.out.below HBk.out).2 1 _ rfl;clear hvo hB)
                | (gi_at_call 99;(with_reducible refine(zcmp_calls x4 vg vo _ 1 HVG.out HVO.out HGL.out one_lt).mono ?_);rintro e x5 ⟨rfl,hB⟩;have HBk:=Hid.intro (HBk.out.trans (hB.mono HBk.out.size));have e0:=(HBY.out.below HBk.out).2 0 _ rfl;have e1:=(HBY.out.below HBk.out).2 1 _ rfl;have d0:=(HBX.out.below HBk.out).2 0 _ rfl;have d1:=(HBX.out.below HBk.out).2 1 _ rfl;rw [hsg2];clear hB))
          all_goals exact⟨rfl,rfl,rfl,Nat.le_of_ble_eq_true rfl,rfl,HBk.out⟩
         case rest=>
          intro ys w' hy hR
          obtain⟨a0,a1,a2,a3,a4,a5,a6,a7,a8,a9,b0,b1,b2,b3,b4,b5,rfl⟩:=list16 hy
          obtain⟨hb5,hB⟩:=hR
          have hb5:b5 = .bool false:=hb5
          subst hb5
          clear hy
          simp only [List.take_succ_cons,List.take_zero,List.drop_succ_cons,List.drop_zero,List.cons_append,List.nil_append]
          have HBr:=Hid.intro hB
          replace HFK:=Hid.intro (HFK.out.step HBr.out)
          replace HZ:=Hid.intro (HZ.out.below HBr.out)
          replace HD:=Hid.intro (HD.out.below HBr.out)
          replace HBX:=Hid.intro (HBX.out.below HBr.out)
          replace HBY:=Hid.intro (HBY.out.below HBr.out)
          replace HQA:Hid (∃f,ArrAt w' g8 4 f):=Hid.intro (HQA.out.elim fun f hf=>⟨f,hf.below HQE.out.lt HBr.out⟩)
          replace HQE:=Hid.intro (HQE.out.below HBr.out HQE.out.lt)
          obtain⟨q,hq,hqn,hqd⟩:=HQ.out
          have HFQ:=Hid.intro hq
          obtain⟨f8,hf8⟩:=HQA.out
          have HF8:=Hid.intro hf8
          have u0:=(hf8 0 (by omega)).1
          have u1:=(hf8 1 (by omega)).1
          have u2:=(hf8 2 (by omega)).1
          have u3:=(hf8 3 (by omega)).1
          have t0:=(hf8 0 (by omega)).2
          have t1:=(hf8 1 (by omega)).2
          have t2:=(hf8 2 (by omega)).2
          have t3:=(hf8 3 (by omega)).2
          replace d0:=HBX.out.2 0 _ rfl
          replace d1:=HBX.out.2 1 _ rfl
          replace e0:=HBY.out.2 0 _ rfl
          replace e1:=HBY.out.2 1 _ rfl
          have HQN:=Hid.intro hqn
          have HQD:=Hid.intro hqd
          have HD2:=Hid.intro hd2
          clear hq hqn hqd hf8 hB hsg hsg0 hsg2 hd2
          gi_wp2_with (gi_at_call 37;refine stop ?_)
          unfold Stop
          obtain⟨W8,hW8⟩:∃W,W=(((w'.setCell ⟨g8,0,none⟩ (.bool s1)).setCell ⟨g8,1,none⟩ (.slice o1 k1 c1)).setCell ⟨g8,2,none⟩ (.bool s3)).setCell ⟨g8,3,none⟩ (.slice o4 k4 c4):=⟨_,rfl⟩
          rw [←hW8]
          have hA8:=(((HF8.out.set (i:=0) (by omega) (.bool s1)).set (i:=1) (by omega) (.slice o1 k1 c1)).set (i:=2) (by omega) (.bool s3)).set (i:=3) (by omega) (.slice o4 k4 c4)
          rw [←hW8]at hA8
          replace HQB:Hid (BoxL W8 g8 [.bool s1,.slice o1 k1 c1,.bool s3,.slice o4 k4 c4]):=Hid.intro ⟨World.block_lt_of_cell? _ _ (hA8 0 (by omega)).1,fun j v hj=>by
           match j,hj with
           | 0,hj=>rw [←hj];exact(hA8 0 (by omega)).1
           | 1,hj=>rw [←hj];exact(hA8 1 (by omega)).1
           | 2,hj=>rw [←hj];exact(hA8 2 (by omega)).1
           | 3,hj=>rw [←hj];exact(hA8 3 (by omega)).1
           | k+4,hj=>simp at hj⟩
          replace HFK:Hid (FourKept w W8 g):=Hid.intro (by rw [hW8];exact(((HFK.out.set hlt4).set hlt4).set hlt4).set hlt4)
          replace HQQ:Hid (QAt W8 (.agg #[.bool s1,.slice o1 k1 c1,.bool s3,.slice o4 k4 c4]) q):=Hid.intro (by
           rw [hW8]
           exact quot_at HZ.out HD.out HQE.out HQN.out HQD.out HD2.out)
          clear hW8 hA8
          refine(smallQ_calls W8 _ q 20000 HQQ.out).mono ?_
          rintro e w9 ⟨rfl,hB⟩
          replace HFK:=Hid.intro (HFK.out.step hB)
          replace HQQ:=Hid.intro (HQQ.out.below hB)
          replace HQB:=Hid.intro (HQB.out.below hB)
          clear hB d0 d1 e0 e1 u0 u1 u2 u3 t0 t1 t2 t3
          obtain⟨f9,hf9⟩:=HFK.out.res
          have HAr:=Hid.intro hf9
          clear hf9
          cases hsm:SmallQ q 20000 with
          | false=>
           have HE:=Hid.intro (refE_some HNL.out HFQ.out)
           rw [hsm]at HE
           have z0:=(HAr.out 0 (by omega)).1
           have z1:=(HAr.out 1 (by omega)).1
           have z2:=(HAr.out 2 (by omega)).1
           have z3:=(HAr.out 3 (by omega)).1
           have y0:=(HAr.out 0 (by omega)).2
           have y1:=(HAr.out 1 (by omega)).2
           have y2:=(HAr.out 2 (by omega)).2
           have y3:=(HAr.out 3 (by omega)).2
           clear hsm
           gi_wp2
           refine ret_four_set rfl rfl g rfl rfl HAr.out ?_
           exact parsedQ_bad HE.out (by decide) ((((HFK.out.below.setCell hle _).setCell hle _).setCell hle _).setCell hle _)
          | true=>
           have HE:=Hid.intro (refE_some HNL.out HFQ.out)
           rw [hsm]at HE
           have z0:=(HAr.out 0 (by omega)).1
           have z1:=(HAr.out 1 (by omega)).1
           have z2:=(HAr.out 2 (by omega)).1
           have z3:=(HAr.out 3 (by omega)).1
           have y0:=(HAr.out 0 (by omega)).2
           have y1:=(HAr.out 1 (by omega)).2
           have y2:=(HAr.out 2 (by omega)).2
           have y3:=(HAr.out 3 (by omega)).2
           have d0:=HQB.out.2 0 _ rfl
           have d1:=HQB.out.2 1 _ rfl
           have d2:=HQB.out.2 2 _ rfl
           have d3:=HQB.out.2 3 _ rfl
           have HEl:=Hid.intro HFK.out.el
           clear hsm
           gi_wp2
           refine ret_four_set rfl rfl g rfl rfl HAr.out ?_
           refine⟨_,by rw [HE.out];rfl,⟨_,_,_,_,_,_,_,_,rfl⟩,fun _=>⟨q,HFQ.out,?_⟩,(((HFK.out.below.setCell hle _).setCell hle _).setCell hle _).setCell hle _⟩
           obtain⟨m1,m2,e,h1,h2⟩:=HQQ.out
           exact⟨m1,m2,e,(((h1.setElem HEl.out (by decide)).setElem (HEl.out.setCell _ _) (by decide)).setElem ((HEl.out.setCell _ _).setCell _ _) (by decide)).setElem (((HEl.out.setCell _ _).setCell _ _).setCell _ _) (by decide),(((h2.setElem HEl.out (by decide)).setElem (HEl.out.setCell _ _) (by decide)).setElem ((HEl.out.setCell _ _).setCell _ _) (by decide)).setElem (((HEl.out.setCell _ _).setCell _ _).setCell _ _) (by decide)⟩
        ·obtain⟨sg,hsg,hsg0⟩:∃sg,(d-2).sign=sg∧(decide (sg<0))=false:=⟨_,rfl,sign_ge hd2⟩
         obtain⟨sq,hsg2,hsq⟩:∃sq,(((Nat.gcd z.natAbs d.natAbs:Nat):Int)-1).sign=sq∧(sq != 0)=true:=⟨_,rfl,by
          rw [bne_iff_ne]
          intro e
          have:=Int.sign_eq_zero_iff_zero.1 e
          omega⟩
         have HFQ:=Hid.intro (HFS.out.2.2 d HF6.out (fun h=>hg1 h.2))
         have HE:=Hid.intro (refE_none HNL.out HFQ.out)
         clear hd2 hg1
         refine region_held 58 74 73 (fun v w'=>v = .bool true∧Below W7.heap.size W7 w') (by decide) ?reg ?rest
         case reg=>
          gi_region_with (first
                | (exfalso;exact undef_no (by assumption))
                | (gi_at_call 31;(with_reducible refine(rOf_calls W7.drew 2 (by decide) (by decide)).mono ?_);rintro e x1 ⟨va,rfl,hva,hB⟩;have HVA:=Hid.intro hva;have HBk:=Hid.intro ((drew_below W7).trans (hB.mono (drew_below W7).size));have e0:=(HBY.out.below HBk.out).2 0 _ rfl;have e1:=(HBY.out.below HBk.out).2 1 _ rfl;have d0:=(HBX.out.below HBk.out).2 0 _ rfl;have d1:=(HBX.out.below HBk.out).2 1 _ rfl;clear hva hB)
                | (gi_at_call 99;(with_reducible refine(zcmp_calls x1 _ va d 2 (HD.out.below HBk.out) HVA.out HDL.out two_lt).mono ?_);rintro e x2 ⟨rfl,hB⟩;have HBk:=Hid.intro (HBk.out.trans (hB.mono HBk.out.size));have e0:=(HBY.out.below HBk.out).2 0 _ rfl;have e1:=(HBY.out.below HBk.out).2 1 _ rfl;have d0:=(HBX.out.below HBk.out).2 0 _ rfl;have d1:=(HBX.out.below HBk.out).2 1 _ rfl;rw [hsg];clear hB)
                | (gi_at_call 156;(with_reducible refine(zgcd_calls x2 _ _ z d (HZ.out.below HBk.out) (HD.out.below HBk.out) (lt_lift 100000 HZL.out (by decide)) (lt_lift 100000 HDL.out (by decide))).mono ?_);rintro e x3 ⟨vg,rfl,hvg,hB⟩;have HVG:=Hid.intro hvg;have HBk:=Hid.intro (HBk.out.trans (hB.mono HBk.out.size));have e0:=(HBY.out.below HBk.out).2 0 _ rfl;have e1:=(HBY.out.below HBk.out).2 1 _ rfl;have d0:=(HBX.out.below HBk.out).2 0 _ rfl;have d1:=(HBX.out.below HBk.out).2 1 _ rfl;clear hvg hB)
                | (gi_at_call 31;(with_reducible refine(rOf_calls x3 1 (by decide) (by decide)).mono ?_);rintro e x4 ⟨vo,rfl,hvo,hB⟩;have HVO:=Hid.intro hvo;have HVG:=Hid.intro (HVG.out.below hB);have HBk:=Hid.intro (HBk.out.trans (hB.mono HBk.out.size));have e0:=(HBY.out.below HBk.out).2 0 _ rfl;have e1:=(HBY.out.below HBk.out).2 1 _ rfl;have d0:=(HBX.out.below HBk.out).2 0 _ rfl;have d1:=(HBX.out.below HBk.out).2 1 _ rfl;clear hvo hB)
                | (gi_at_call 99;(with_reducible refine(zcmp_calls x4 vg vo _ 1 HVG.out HVO.out HGL.out one_lt).mono ?_);rintro e x5 ⟨rfl,hB⟩;have HBk:=Hid.intro (HBk.out.trans (hB.mono HBk.out.size));have e0:=(HBY.out.below HBk.out).2 0 _ rfl;have e1:=(HBY.out.below HBk.out).2 1 _ rfl;have d0:=(HBX.out.below HBk.out).2 0 _ rfl;have d1:=(HBX.out.below HBk.out).2 1 _ rfl;rw [hsg2];clear hB))
          all_goals exact⟨rfl,rfl,rfl,Nat.le_of_ble_eq_true rfl,rfl,HBk.out⟩
         case rest=>
          intro ys w' hy hR
          obtain⟨a0,a1,a2,a3,a4,a5,a6,a7,a8,a9,b0,b1,b2,b3,b4,b5,rfl⟩:=list16 hy
          obtain⟨hb5,hB⟩:=hR
          have hb5:b5 = .bool true:=hb5
          subst hb5
          clear hy
          simp only [List.take_succ_cons,List.take_zero,List.drop_succ_cons,List.drop_zero,List.cons_append,List.nil_append]
          have HBr:=Hid.intro hB
          replace HFK:=Hid.intro (HFK.out.step HBr.out)
          obtain⟨fr,hfr⟩:=HFK.out.res
          have HAr:=Hid.intro hfr
          have z0:=(HAr.out 0 (by omega)).1
          have z1:=(HAr.out 1 (by omega)).1
          have z2:=(HAr.out 2 (by omega)).1
          have z3:=(HAr.out 3 (by omega)).1
          have y0:=(HAr.out 0 (by omega)).2
          have y1:=(HAr.out 1 (by omega)).2
          have y2:=(HAr.out 2 (by omega)).2
          have y3:=(HAr.out 3 (by omega)).2
          clear hfr hB d0 d1 e0 e1
          gi_wp2
          refine ret_four_set rfl rfl g rfl rfl HAr.out ?_
          exact parsedQ_bad HE.out (by decide) ((((HFK.out.below.setCell hle _).setCell hle _).setCell hle _).setCell hle _)
       ·have hsg:(d-2).sign = -1:=Int.sign_eq_neg_one_of_neg (by omega)
        have HFQ:=Hid.intro (HFS.out.2.2 d HF6.out (fun h=>hd2 h.1))
        have HE:=Hid.intro (refE_none HNL.out HFQ.out)
        clear hd2
        refine region_held 58 74 73 (fun v w'=>v = .bool true∧Below W7.heap.size W7 w') (by decide) ?reg ?rest
        case reg=>
         gi_region_with (first
               | (exfalso;exact undef_no (by assumption))
               | (gi_at_call 31;(with_reducible refine(rOf_calls W7.drew 2 (by decide) (by decide)).mono ?_);rintro e x1 ⟨va,rfl,hva,hB⟩;have HVA:=Hid.intro hva;have HBk:=Hid.intro ((drew_below W7).trans (hB.mono (drew_below W7).size));have e0:=(HBY.out.below HBk.out).2 0 _ rfl;have e1:=(HBY.out.below HBk.out).2 1 _ rfl;have d0:=(HBX.out.below HBk.out).2 0 _ rfl;have d1:=(HBX.out.below HBk.out).2 1 _ rfl;clear hva hB)
               | (gi_at_call 99;(with_reducible refine(zcmp_calls x1 _ va d 2 (HD.out.below HBk.out) HVA.out HDL.out two_lt).mono ?_);rintro e x2 ⟨rfl,hB⟩;have HBk:=Hid.intro (HBk.out.trans (hB.mono HBk.out.size));have e0:=(HBY.out.below HBk.out).2 0 _ rfl;have e1:=(HBY.out.below HBk.out).2 1 _ rfl;have d0:=(HBX.out.below HBk.out).2 0 _ rfl;have d1:=(HBX.out.below HBk.out).2 1 _ rfl;rw [hsg];clear hB))
         all_goals exact⟨rfl,rfl,rfl,Nat.le_of_ble_eq_true rfl,rfl,HBk.out⟩
        case rest=>
         intro ys w' hy hR
         obtain⟨a0,a1,a2,a3,a4,a5,a6,a7,a8,a9,b0,b1,b2,b3,b4,b5,rfl⟩:=list16 hy
         obtain⟨hb5,hB⟩:=hR
         have hb5:b5 = .bool true:=hb5
         subst hb5
         clear hy
         simp only [List.take_succ_cons,List.take_zero,List.drop_succ_cons,List.drop_zero,List.cons_append,List.nil_append]
         have HBr:=Hid.intro hB
         replace HFK:=Hid.intro (HFK.out.step HBr.out)
         obtain⟨fr,hfr⟩:=HFK.out.res
         have HAr:=Hid.intro hfr
         have z0:=(HAr.out 0 (by omega)).1
         have z1:=(HAr.out 1 (by omega)).1
         have z2:=(HAr.out 2 (by omega)).1
         have z3:=(HAr.out 3 (by omega)).1
         have y0:=(HAr.out 0 (by omega)).2
         have y1:=(HAr.out 1 (by omega)).2
         have y2:=(HAr.out 2 (by omega)).2
         have y3:=(HAr.out 3 (by omega)).2
         clear hfr hB d0 d1 e0 e1
         gi_wp2
         refine ret_four_set rfl rfl g rfl rfl HAr.out ?_
         exact parsedQ_bad HE.out (by decide) ((((HFK.out.below.setCell hle _).setCell hle _).setCell hle _).setCell hle _)
     ·have HFQ:=Hid.intro (formQ_whole HFZ.out (by rw [HAL.out,HN.out];exact hti))
      gi_wp2_with (gi_at_call 37;refine stop ?_)
      unfold Stop
      rw [←hW5]
      obtain⟨g8,hg8⟩:∃g8,w4.heap.size=g8:=⟨_,rfl⟩
      rw [hg8]at HQB HQA HQE hlt4
      rw [hg8]
      clear hW5 hB5 hg8
      obtain⟨q,hqz⟩:∃q:Rat,((z:Int):Rat)=q:=⟨_,rfl⟩
      rw [hqz]at HQQ HFQ
      refine(smallQ_calls W5 _ q 20000 HQQ.out).mono ?_
      rintro e w9 ⟨rfl,hB⟩
      replace HFK:=Hid.intro (HFK.out.step hB)
      replace HQQ:=Hid.intro (HQQ.out.below hB)
      replace HQB:=Hid.intro (HQB.out.below hB)
      clear hB
      obtain⟨f9,hf9⟩:=HFK.out.res
      have HAr:=Hid.intro hf9
      clear hf9
      cases hsm:SmallQ q 20000 with
      | false=>
       have HE:=Hid.intro (refE_some HNL.out HFQ.out)
       rw [hsm]at HE
       have z0:=(HAr.out 0 (by omega)).1
       have z1:=(HAr.out 1 (by omega)).1
       have z2:=(HAr.out 2 (by omega)).1
       have z3:=(HAr.out 3 (by omega)).1
       have y0:=(HAr.out 0 (by omega)).2
       have y1:=(HAr.out 1 (by omega)).2
       have y2:=(HAr.out 2 (by omega)).2
       have y3:=(HAr.out 3 (by omega)).2
       clear hsm
       gi_wp2
       refine ret_four_set rfl rfl g rfl rfl HAr.out ?_
       exact parsedQ_bad HE.out (by decide) ((((HFK.out.below.setCell hle _).setCell hle _).setCell hle _).setCell hle _)
      | true=>
       have HE:=Hid.intro (refE_some HNL.out HFQ.out)
       rw [hsm]at HE
       have z0:=(HAr.out 0 (by omega)).1
       have z1:=(HAr.out 1 (by omega)).1
       have z2:=(HAr.out 2 (by omega)).1
       have z3:=(HAr.out 3 (by omega)).1
       have y0:=(HAr.out 0 (by omega)).2
       have y1:=(HAr.out 1 (by omega)).2
       have y2:=(HAr.out 2 (by omega)).2
       have y3:=(HAr.out 3 (by omega)).2
       have d0:=HQB.out.2 0 _ rfl
       have d1:=HQB.out.2 1 _ rfl
       have d2:=HQB.out.2 2 _ rfl
       have d3:=HQB.out.2 3 _ rfl
       have HEl:=Hid.intro HFK.out.el
       clear hsm
       gi_wp2
       refine ret_four_set rfl rfl g rfl rfl HAr.out ?_
       refine⟨_,by rw [HE.out];rfl,⟨_,_,_,_,_,_,_,_,rfl⟩,fun _=>⟨q,HFQ.out,?_⟩,(((HFK.out.below.setCell hle _).setCell hle _).setCell hle _).setCell hle _⟩
       obtain⟨m1,m2,e,h1,h2⟩:=HQQ.out
       exact⟨m1,m2,e,(((h1.setElem HEl.out (by decide)).setElem (HEl.out.setCell _ _) (by decide)).setElem ((HEl.out.setCell _ _).setCell _ _) (by decide)).setElem (((HEl.out.setCell _ _).setCell _ _).setCell _ _) (by decide),(((h2.setElem HEl.out (by decide)).setElem (HEl.out.setCell _ _) (by decide)).setElem ((HEl.out.setCell _ _).setCell _ _) (by decide)).setElem (((HEl.out.setCell _ _).setCell _ _).setCell _ _) (by decide)⟩
end Go.Num
