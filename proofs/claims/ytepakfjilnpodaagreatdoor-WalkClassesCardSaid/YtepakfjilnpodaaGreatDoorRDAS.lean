/-
  'Parse' of the program: the fraction of a text. How many digits a natural of the reference has: 'Len', 'Small'.
  Conditions: see each statement.
-/
import Derived.Test.YtepakfjilnpodaaGreatDoorRDAR
import Derived.Test.YtepakfjilnpodaaGreatDoorRDAP
import Derived.BigFrameIn
namespace Go.Num
open Go.Eng Go.Shelf Go.RowKit Go.Sort Go.Proofs Go.Proofs.YtepakfjilnpodaaGreatDoor
def topOf(l:List UInt8):List UInt8:=if slashAt l<l.length then l.take (slashAt l)else l
def botOf(l:List UInt8):List UInt8:=if slashAt l<l.length then l.drop (slashAt l+1)else []
def hasSlash(l:List UInt8):Bool:=decide (slashAt l<l.length)
theorem cut_calls(w:World)(s:ByteArray)(hs:s.size≤100000)(hL:Laid w) :
  CallsIn Fence.wide 0 Tryz.prog 163 #[.string s,.string ⟨#[47]⟩] w fun e w'=>∃t b:ByteArray,e = .returned (.tuple #[.string t,.string b,.bool (hasSlash s.data.toList)])∧t.data.toList=topOf s.data.toList∧b.data.toList=botOf s.data.toList∧Below w.heap.size w w':=by
 obtain⟨m,hm⟩:=hL.len
 refine callsIn_wide.2 ((Tryz.strings_Cut s ⟨#[47]⟩ m w (by omega) hm).mono ?_)
 rintro e w' ⟨rfl,n,rfl⟩
 have hc:Lib.cut s.data.toList (⟨#[47]⟩:ByteArray).data.toList=(topOf s.data.toList,botOf s.data.toList,hasSlash s.data.toList):=by
  show Lib.cut s.data.toList [47]=_
  rw [cut_slash]
  unfold topOf botOf hasSlash
  by_cases h:slashAt s.data.toList<s.data.toList.length
  ·rw [if_pos h,if_pos h,if_pos h,decide_eq_true h]
  ·rw [if_neg h,if_neg h,if_neg h,decide_eq_false h]
 rw [hc]
 exact⟨_,_,rfl,rfl,rfl,drewN_below _ _⟩
theorem pre_calls(w:World)(t:ByteArray) :
  CallsIn Fence.wide 0 Tryz.prog 164 #[.string t,.string ⟨#[45]⟩] w fun e w'=>∃o:ByteArray,e = .returned (.tuple #[.string o,.bool (isNeg t.data.toList)])∧o.data.toList=ownOf t.data.toList∧Below w.heap.size w w':=by
 refine callsIn_wide.2 ((Tryz.strings_CutPrefix t ⟨#[45]⟩ w).mono ?_)
 rintro e w' ⟨rfl,rfl⟩
 exact⟨_,rfl,rfl,Below.refl _ _⟩
set_option maxRecDepth 100000 in
set_option maxHeartbeats 8000000 in
theorem bottom_raw(w:World)(sg:Bool)(vn vd:Value)(d:Nat)(hd:MagAt w vd d) :
  CallsIn Fence.wide 0 Tryz.prog 132 #[.agg #[.bool sg,vn,vd]] w fun e w'=>∃v',e = .returned v'∧MagAt w' v' (if d=0 then 1 else d)∧Below w.heap.size w w':=by
 by_cases h1:d=0
 ·rw [if_pos h1]
  subst h1
  obtain⟨o,k,c,rfl,hk,hk9⟩:=mag_len hd
  have hk0:k=0:=hk.2 rfl
  subst hk0
  clear hk hd
  refine callsIn_of_wp Tryz.func132 rfl trivial ?_ rfl
  simp only [Tryz.ntmps132,List.size_toArray,List.length_cons,List.length_nil,Nat.reduceAdd,Nat.reduceSub,Array.replicate_succ,Array.replicate_zero,List.push_toArray,List.append_toArray,List.nil_append,List.cons_append]
  gi_wp2
  all_goals (first|go_returns|go_ret|go_end0)
  have h:=magAt_one (w.alloc (.cells #[.bool sg,vn,.slice o 0 c] 27))
  rw [show(w.alloc (.cells #[.bool sg,vn,.slice o 0 c] 27)).heap.size=w.heap.size+1 by simp]at h
  refine⟨_,rfl,h,?_⟩
  exact((alloc_below w _).alloc (by simp) _)
 ·rw [if_neg h1]
  have HD:=Hid.intro hd
  obtain⟨o,k,c,rfl,hk,hk9⟩:=mag_len hd
  have hk0:¬(k:Int)=0:=by
   intro h
   exact h1 (hk.1 (by omega))
  clear hk hd
  refine callsIn_of_wp Tryz.func132 rfl trivial ?_ rfl
  simp only [Tryz.ntmps132,List.size_toArray,List.length_cons,List.length_nil,Nat.reduceAdd,Nat.reduceSub,Array.replicate_succ,Array.replicate_zero,List.push_toArray,List.append_toArray,List.nil_append,List.cons_append]
  gi_wp2
  all_goals (first|go_returns|go_ret|go_end0)
  exact⟨_,rfl,HD.out.below (alloc_below w _),alloc_below w _⟩
def parseE(l:List UInt8):Int:=if 41000<l.length then 2 else match formQ l with|none=>10|some q=>keptE q
def parseV(l:List UInt8):Rat:=if 41000<l.length then 0 else match formQ l with|none=>0|some q=>keptQ q
theorem parse_long{l:List UInt8}(h:41000<l.length):parseE l=2∧parseV l=0:=⟨if_pos h,if_pos h⟩
theorem parse_none{l:List UInt8}(h:¬41000<l.length)(hf:formQ l=none):parseE l=10∧parseV l=0:=by
 unfold parseE parseV
 rw [if_neg h,if_neg h,hf]
 exact⟨rfl,rfl⟩
theorem parse_some{l:List UInt8}(h:¬41000<l.length){q:Rat}(hf:formQ l=some q):parseE l=keptE q∧parseV l=keptQ q:=by
 unfold parseE parseV
 rw [if_neg h,if_neg h,hf]
 exact⟨rfl,rfl⟩
theorem bad_top{l:List UInt8}(h:canon (ownOf (topOf l))=false∨isNeg (topOf l)=true∧ownOf (topOf l) = [48]):formQ l=none:=by
 have hz:formZ (topOf l)=none:=by
  unfold formZ
  rw [if_neg]
  rcases h with h|⟨h1,h2⟩
  ·rw [h];simp
  ·rw [h1,h2];simp
 unfold formQ
 unfold topOf at hz
 split
 ·rename_i hs
  rw [if_pos hs]at hz
  rw [hz]
 ·rename_i hs
  rw [if_neg hs]at hz
  rw [hz]
theorem small_val{b:List UInt8}(hc:canon b=true):2≤decVal b↔b ≠ [48]∧b ≠ [49]:=by
 constructor
 ·intro h
  constructor
  ·rintro rfl;simp [decVal_one]at h
  ·rintro rfl;simp [decVal_one]at h
 ·rintro⟨h0,h1⟩
  apply Classical.byContradiction
  intro hno
  have e:=dec_canon hc
  have:decVal b=0∨decVal b=1:=by omega
  rcases this with h|h
  ·rw [h,Lib.decDigits]at e
   exact h0 e.symm
  ·rw [h,Lib.decDigits]at e
   exact h1 e.symm
theorem bad_bot{l:List UInt8}(hs:hasSlash l=true)(h:canon (botOf l)=false∨botOf l = [48]∨botOf l = [49]):formQ l=none:=by
 have hs':slashAt l<l.length:=of_decide_eq_true hs
 unfold formQ
 unfold botOf at h
 rw [if_pos hs']at h ⊢
 split
 ·rfl
 ·rw [if_neg]
  rcases h with h|h|h
  ·rw [h];simp
  ·rw [h];simp [decVal_one]
  ·rw [h];simp [decVal_one]
def denOf(l:List UInt8):Nat:=if hasSlash l=true then decVal (botOf l)else 1
theorem neg_pos{o:List UInt8}(hc:canon o=true)(h:o ≠ [48]):0<decVal o:=by
 apply Classical.byContradiction
 intro hno
 have e:=dec_canon hc
 rw [show decVal o=0 by omega,Lib.decDigits]at e
 exact h e.symm
theorem good{l:List UInt8}(h1:canon (ownOf (topOf l))=true)(h2:isNeg (topOf l)=true→ownOf (topOf l) ≠ [48])(h3:hasSlash l=true→canon (botOf l)=true∧botOf l ≠ [48]∧botOf l ≠ [49]) :
  (Nat.gcd (denOf l) (decVal (ownOf (topOf l)))=1→∃q,formQ l=some q∧q.num.natAbs=decVal (ownOf (topOf l))∧q.den=denOf l∧decide (q.num<0)=isNeg (topOf l))∧(Nat.gcd (denOf l) (decVal (ownOf (topOf l)))≠1→formQ l=none):=by
 have hz:formZ (topOf l)=some (sgn (isNeg (topOf l)) (decVal (ownOf (topOf l)))):=by
  unfold formZ
  rw [if_pos]
  rw [h1]
  cases hn:isNeg (topOf l)with
  | false=>rfl
  | true=>
   have:=h2 hn
   simp [this]
 have hsg:decide (sgn (isNeg (topOf l)) (decVal (ownOf (topOf l)))<0)=isNeg (topOf l):=by
  cases hn:isNeg (topOf l)with
  | false=>exact decide_eq_false (by show ¬((decVal (ownOf (topOf l)):Nat):Int)<0;omega)
  | true=>
   have:=neg_pos h1 (h2 hn)
   exact decide_eq_true (by show(-((decVal (ownOf (topOf l)):Nat):Int))<0;omega)
 cases hs:hasSlash l with
 | false=>
  have hs':¬slashAt l<l.length:=of_decide_eq_false hs
  have hd:denOf l=1:=by unfold denOf;rw [hs];rfl
  rw [hd]
  refine⟨fun _ => ?_,fun h=>absurd (Nat.gcd_one_left _) h⟩
  have ht:topOf l=l:=by unfold topOf;rw [if_neg hs']
  refine⟨((sgn (isNeg (topOf l)) (decVal (ownOf (topOf l))):Int):Rat),?_,?_,Rat.den_intCast _,?_⟩
  ·unfold formQ
   rw [if_neg hs']
   rw [ht]at hz ⊢
   rw [hz]
  ·rw [Rat.num_intCast,sgn_abs]
  ·rw [Rat.num_intCast];exact hsg
 | true=>
  have hs':slashAt l<l.length:=of_decide_eq_true hs
  have hd:denOf l=decVal (botOf l):=by unfold denOf;rw [hs];rfl
  obtain⟨c1,c2,c3⟩:=h3 hs
  have h2':=(small_val c1).2 ⟨c2,c3⟩
  rw [hd]
  have e:formQ l=if(canon (botOf l) && decide (2≤decVal (botOf l)) && decide (Nat.gcd (sgn (isNeg (topOf l)) (decVal (ownOf (topOf l)))).natAbs (decVal (botOf l))=1))=true then some ((sgn (isNeg (topOf l)) (decVal (ownOf (topOf l))):Rat)/(decVal (botOf l):Rat))else none:=by
   unfold formQ
   rw [if_pos hs']
   have ht:l.take (slashAt l)=topOf l:=by unfold topOf;rw [if_pos hs']
   have hb:l.drop (slashAt l+1)=botOf l:=by unfold botOf;rw [if_pos hs']
   rw [ht,hb,hz]
  rw [c1,decide_eq_true h2',Bool.true_and,Bool.true_and,sgn_abs]at e
  refine⟨fun hg => ?_,fun hg => ?_⟩
  ·rw [Nat.gcd_comm]at hg
   rw [if_pos (decide_eq_true hg)]at e
   have hp:=quot_partsT (z:=sgn (isNeg (topOf l)) (decVal (ownOf (topOf l)))) (d:=decVal (botOf l)) (by omega) (by rw [sgn_abs];exact hg)
   refine⟨_,e,?_,hp.2,?_⟩
   ·rw [hp.1,sgn_abs]
   ·rw [hp.1];exact hsg
  ·rw [Nat.gcd_comm]at hg
   rw [if_neg (by simpa using hg)]at e
   exact e
theorem own_len(l:List UInt8):(ownOf (topOf l)).length≤l.length∧(botOf l).length≤l.length∧(topOf l).length≤l.length:=by
 have h1:(topOf l).length≤l.length:=by
  unfold topOf;split
  ·rw [List.length_take];omega
  ·exact Nat.le_refl _
 refine⟨?_,?_,h1⟩
 ·refine Nat.le_trans ?_ h1
  unfold ownOf Lib.trimPrefix
  split
  ·rw [List.length_drop];omega
  ·exact Nat.le_refl _
 ·unfold botOf;split
  ·rw [List.length_drop];omega
  ·simp
structure ResKept(w W:World)(g:Nat):Prop where
 res:∃f,ArrAt W g 3 f
 el:Elem W g 27
 below:Below w.heap.size w W
 le:w.heap.size≤g
theorem ResKept.lt{w W:World}{g:Nat}(h:ResKept w W g):g<W.heap.size:=h.el.lt
theorem ResKept.step{w W W':World}{g:Nat}(h:ResKept w W g)(hb:Below W.heap.size W W'):ResKept w W' g:=by
 obtain⟨f,hf⟩:=h.res
 exact⟨⟨f,hf.below h.lt hb⟩,h.el.below hb h.lt,h.below.trans (hb.mono h.below.size),h.le⟩
theorem resKept_new(w:World)(x y z:Value):ResKept w (w.alloc (.cells #[x,y,z] 27)) w.heap.size:=by
 have h:=own3_new w x y z 27
 exact⟨h.1,elem_new _ _ _,h.2.2,Nat.le_refl _⟩
theorem ResKept.set{w W:World}{g g6:Nat}(h:ResKept w W g)(_h6:g6<W.heap.size)(hne:g<g6){i:Nat}{u:Value}:ResKept w (W.setCell ⟨g6,i,none⟩ u) g:=by
 obtain⟨f,hf⟩:=h.res
 exact⟨⟨f,fun j hj=>⟨(World.cell?_setCell_other _ _ _ _ (by intro e;injection e with e _ _;omega)).trans (hf j hj).1,by rw [World.frozen?_setCell];exact(hf j hj).2⟩⟩,h.el.setCell _ _,h.below.setCell (by have:=h.le;show _≤g6;omega) _,h.le⟩
theorem own_lt{l:List UInt8}(h:l.length≤41000)(hc:canon (ownOf (topOf l))=true):decVal (ownOf (topOf l))<B^100000:=
 lt_lift 100000 (val_limbs (k:=4556) (canon_dig hc) (by have:=own_len l;omega)) (by decide)
theorem den_lt{l:List UInt8}(h:l.length≤41000)(hb:hasSlash l=true→canon (botOf l)=true∧botOf l ≠ [48]∧botOf l ≠ [49]):denOf l<B^100000:=by
 unfold denOf
 split
 ·rename_i hs
  exact lt_lift 100000 (val_limbs (k:=4556) (canon_dig (hb hs).1) (by have:=own_len l;omega)) (by decide)
 ·exact lt_lift 100000 (show 1<B^1 by decide) (by decide)
theorem Box3.set2{w:World}{g:Nat}{x y z u v:Value}(h:Box3 w g x y z)(hc:w.cell? ⟨g,2,none⟩=some v):Box3 (w.setCell ⟨g,2,none⟩ u) g x y u:=by
 have n (j:Nat) (hj:j≠2):(⟨g,2,none⟩:Addr)≠⟨g,j,none⟩:=by intro e;injection e with _ e;omega
 intro j x' hj
 match j,hj with
 | 0,hj=>rw [World.cell?_setCell_other _ _ _ _ (n 0 (by omega)),←hj];exact h.c0
 | 1,hj=>rw [World.cell?_setCell_other _ _ _ _ (n 1 (by omega)),←hj];exact h.c1
 | 2,hj=>rw [World.cell?_setCell_same _ _ _ hc,←hj];rfl
 | k+3,hj=>simp at hj
theorem ret_box_two{fn:Func}{p t:Tmp}{R:Ending→World→Prop}{a:Act}{w:World}{x y z u:Value}(h:fn.results=#[.cell p 27,.tmp t])(hd:a.defers = [])(g:Nat)(hp:a.tmps.getD p undef = .pointer (some ⟨g,0,none⟩))(ht:a.tmps.getD t undef=u)
  (hc:Box3 w g x y z) (hR:R (.returned (.tuple #[.agg #[x,y,z],u])) w):bodyPost Tryz.prog fn R .ret a w:=by
 refine⟨hd,.tuple #[.agg #[x,y,z],u],?_,hR⟩
 have e1:=l25 g [x,y,z] w rfl hc
 simp only [Instr.loadAt,Instr.sureAddr,Sem.run_bind,Sem.run_pure,Result.andThen_ok]at e1
 have hp2:a.tmps[p]?.getD undef = .pointer (some ⟨g,0,none⟩):=by rw [←Array.getD_eq_getD_getElem?];exact hp
 have ht2:a.tmps[t]?.getD undef=u:=by rw [←Array.getD_eq_getD_getElem?];exact ht
 simp [results,h,hp2,ht2,asAddr,e1]
theorem undef_no{b:Bool}(h:some undef=some (Value.bool b)):False:=by
 injection h with h
 cases h
theorem list_beq{l m:List UInt8}(h:¬l=m):(l == m)=false:=beq_false_of_ne h
set_option maxRecDepth 100000 in
set_option maxHeartbeats 8000000 in
theorem parseR_calls(w:World)(s:ByteArray)(l:List UInt8)(hl:s.data.toList=l)(hL:Laid w) :
  CallsIn Fence.wide 0 Tryz.prog 102 #[.string s] w fun e w'=>∃v',e = .returned (.tuple #[v',.int .i64 (parseE l)])∧RatAt w' v' (parseV l)∧Below w.heap.size w w':=by
 have hsz:s.size=l.length:=by rw [Lib.size_eq,hl]
 have HSL:=Hid.intro hl
 have HL:=Hid.intro hL
 obtain⟨n,hn⟩:∃n,l.length=n:=⟨_,rfl⟩
 have HN:=Hid.intro hn
 rw [hn]at hsz
 clear hl hL hn
 have hmf:∀(fn:Fn) (first cap:Array Value) (w:World),(Instr.makeFunc fn first cap).run Tryz.prog w = .ok (.func fn first cap) w:=fun _ _ _ _=>rfl
 refine callsIn_of_wp Tryz.func102 rfl trivial ?_ rfl
 simp only [Tryz.ntmps102,List.size_toArray,List.length_cons,List.length_nil,Nat.reduceAdd,Nat.reduceSub,Array.replicate_succ,Array.replicate_zero,List.push_toArray,List.append_toArray,List.nil_append,List.cons_append]
 by_cases hlong:41000<n
 ·have hlong':decide ((n:Int)>41000)=true:=decide_eq_true (by omega)
  have hP:=parse_long (l:=l) (by rw [HN.out];exact hlong)
  gi_wp2
  refine ret_box_two rfl rfl w.heap.size rfl rfl (box3_new w (.bool false) (.slice none 0 0) (.slice none 0 0) 27) ?_
  rw [hP.1,hP.2]
  exact⟨_,rfl,ratAt_zero _,alloc_below _ _⟩
 ·have hlong':decide ((n:Int)>41000)=false:=decide_eq_false (by omega)
  have HNL:Hid (¬41000<l.length):=Hid.intro (by rw [HN.out];exact hlong)
  gi_wp2_with (gi_at_call 163;refine stop ?_)
  unfold Stop
  obtain⟨W,hW⟩:∃W,W=w.alloc (Obj.cells #[Value.bool false,Value.slice none 0 0,Value.slice none 0 0] 27):=⟨_,rfl⟩
  rw [←hW]
  have HK:Hid (ResKept w W w.heap.size):=Hid.intro (by rw [hW];exact resKept_new _ _ _ _)
  obtain⟨g,hg⟩:∃g,w.heap.size=g:=⟨_,rfl⟩
  rw [hg]at HK
  rw [hg]
  clear hW hg
  refine(cut_calls W s (by omega) (HL.out.below HK.out.below)).mono ?_
  rintro e w2 ⟨t,b,rfl,ht,hb,hB⟩
  rw [HSL.out]at ht hb ⊢
  replace HK:=Hid.intro (HK.out.step hB)
  have HT:=Hid.intro ht
  have HBt:=Hid.intro hb
  clear ht hb hB
  gi_wp2_with (gi_at_call 164;refine stop ?_)
  unfold Stop
  refine(pre_calls w2 t).mono ?_
  rintro e w3 ⟨o,rfl,ho,hB⟩
  rw [HT.out]at ho ⊢
  replace HK:=Hid.intro (HK.out.step hB)
  have HOw:=Hid.intro ho
  have hos:o.size≤100000:=by
   have:=own_len l
   rw [HN.out]at this
   rw [Lib.size_eq,ho];omega
  have hbs:b.size≤100000:=by
   have:=own_len l
   rw [HN.out]at this
   rw [Lib.size_eq,HBt.out];omega
  clear ho hB
  gi_wp2_with (gi_at_call 165;refine stop ?_)
  unfold Stop
  refine(isDigits_calls w3 o hos).mono ?_
  rintro e w4 ⟨rfl,hB⟩
  rw [HOw.out]
  replace HK:=Hid.intro (HK.out.step hB)
  clear hB
  obtain⟨f,hf⟩:=HK.out.res
  have z0:=(hf 0 (by omega)).1
  have z1:=(hf 1 (by omega)).1
  have z2:=(hf 2 (by omega)).1
  have y0:=(hf 0 (by omega)).2
  have y1:=(hf 1 (by omega)).2
  have y2:=(hf 2 (by omega)).2
  have hle:=HK.out.le
  clear hf
  cases hc:canon (ownOf (topOf l))with
  | false=>
   have HP:=Hid.intro (parse_none HNL.out (bad_top (.inl hc)))
   gi_wp2_with (exfalso;exact undef_no (by assumption))
   refine ret_rat_two rfl rfl g rfl rfl z0 z1 z2 ?_
   rw [HP.out.1,HP.out.2]
   exact⟨_,rfl,ratAt_zero _,((HK.out.below.setCell hle _).setCell hle _).setCell hle _⟩
  | true=>
   have HCO:=Hid.intro hc
   clear hc
   cases hn:isNeg (topOf l)with
   | true=>
    have HNG:=Hid.intro hn
    clear hn
    by_cases h48:o.toList = [48]
    ·have h48':(o.toList == [48])=true:=by rw [h48];rfl
     have hb48:=bad_top (l:=l) (.inr ⟨HNG.out,by rw [←HOw.out,←Lib.toList_data];exact h48⟩)
     have HP:=Hid.intro (parse_none HNL.out (hb48))
     gi_wp2_with (exfalso;exact undef_no (by assumption))
     refine ret_rat_two rfl rfl g rfl rfl z0 z1 z2 ?_
     rw [HP.out.1,HP.out.2]
     exact⟨_,rfl,ratAt_zero _,((HK.out.below.setCell hle _).setCell hle _).setCell hle _⟩
    ·have h48':(o.toList == [48])=false:=list_beq h48
     have HN48:Hid (isNeg (topOf l)=true→ownOf (topOf l) ≠ [48]):=Hid.intro (fun _=>by rw [←HOw.out,←Lib.toList_data];exact h48)
     cases hs:hasSlash l with
     | false=>
      have HHS:=Hid.intro hs
      have HBOT:Hid (hasSlash l=true→canon (botOf l)=true∧botOf l ≠ [48]∧botOf l ≠ [49]):=Hid.intro (fun h=>by rw [hs]at h;cases h)
      clear hs
      have HG:=Hid.intro (good (l:=l) HCO.out HN48.out HBOT.out)
      clear z0 z1 z2 y0 y1 y2
      gi_wp2_with (first|(exfalso;exact undef_no (by assumption))|(gi_at_call 166;refine stop ?_))
      unfold Stop
      refine(parse_calls w4 o (ownOf (topOf l)) HOw.out (canon_dig HCO.out) (by have:=own_len l;rw [HN.out]at this;omega)).mono ?_
      rintro e w6 ⟨vn,rfl,hvn,hB⟩
      replace HK:=Hid.intro (HK.out.step hB)
      obtain⟨o1,k1,c1,rfl,_,_⟩:=mag_len hvn
      have HVN:=Hid.intro hvn
      clear hvn hB
      gi_wp2_with (exfalso;exact undef_no (by assumption))
      obtain⟨W6,hW6⟩:∃W,W=w6.alloc (Obj.cells #[Value.bool true,.slice o1 k1 c1,.slice none 0 0] 27):=⟨_,rfl⟩
      rw [←hW6]
      have HBx:Hid (Box3 W6 w6.heap.size (.bool true) (.slice o1 k1 c1) (.slice none 0 0)):=Hid.intro (by rw [hW6];exact box3_new _ _ _ _ _)
      have hBW:Below w6.heap.size w6 W6:=by rw [hW6];exact alloc_below _ _
      replace HK:=Hid.intro (HK.out.step hBW)
      replace HVN:=Hid.intro (HVN.out.below hBW)
      have HVD:Hid (MagAt W6 (.slice none 0 0) 0):=Hid.intro ⟨0,lenIs_zero,.inl ⟨rfl,none,0,rfl⟩⟩
      obtain⟨o2,k2,c2,hv2⟩:∃o2 k2 c2,(Value.slice none 0 0) = .slice o2 k2 c2:=⟨_,_,_,rfl⟩
      rw [hv2]at HBx HVD
      have hDen:(if(0:Nat)=0 then 1 else 0)=denOf l:=by unfold denOf;rw [HHS.out];rfl
      clear hW6 hBW hv2
      refine wpIn_region_ow (ro:=none) [1,4,5] [0,2,3,1,4,5,6] [0,1,0,4,15,31,63] follows 73 rfl (by kernel_rfl) (by kernel_rfl) ?_
      replace HBx:=Hid.intro (HBx.out.below (drew_below _))
      replace HVN:=Hid.intro (HVN.out.below (drew_below _))
      replace HVD:=Hid.intro (HVD.out.below (drew_below _))
      replace HK:=Hid.intro (HK.out.step (drew_below _))
      refine OW.loadAll rfl rfl l25 (cs:=[.bool true,.slice o1 k1 c1,.slice o2 k2 c2]) rfl (by decide) HBx.out rfl ?_
      simp only [Go.Act.put,List.setIfInBounds_toArray,List.set_cons_succ,List.set_cons_zero]
      refine OW.fieldAddr rfl rfl f25_1 rfl ?_
      simp only [Go.Act.put,List.setIfInBounds_toArray,List.set_cons_succ,List.set_cons_zero]
      refine OW.load rfl rfl l23 HBx.out.c1 rfl ?_
      simp only [Go.Act.put,List.setIfInBounds_toArray,List.set_cons_succ,List.set_cons_zero]
      refine OW.call rfl rfl Tryz.func132 rfl namesOK (args:=[.agg #[.bool true,.slice o1 k1 c1,.slice o2 k2 c2]]) rfl ?_
      refine(bottom_raw W6.drew true (.slice o1 k1 c1) (.slice o2 k2 c2) 0 HVD.out).mono ?_
      rintro e wa ⟨va,rfl,hva,hB⟩
      rw [hDen]at hva
      refine⟨va,rfl,hB,?_⟩
      simp only [Go.Act.put,List.setIfInBounds_toArray,List.set_cons_succ,List.set_cons_zero]
      replace HBx:=Hid.intro (HBx.out.below hB)
      replace HVN:=Hid.intro (HVN.out.below hB)
      replace HVD:=Hid.intro (HVD.out.below hB)
      replace HK:=Hid.intro (HK.out.step hB)
      have HVA:=Hid.intro hva
      clear hva hB
      refine OW.call rfl rfl Tryz.func167 rfl namesOK (args:=[va,.slice o1 k1 c1]) rfl ?_
      refine(gcd_calls wa va _ (denOf l) (decVal (ownOf (topOf l))) 100000 HVA.out HVN.out (den_lt (by rw [HN.out];omega) HBOT.out) (own_lt (by rw [HN.out];omega) HCO.out) (by omega)).mono ?_
      rintro e wb ⟨vb,rfl,hvb,hB⟩
      refine⟨vb,rfl,hB,?_⟩
      simp only [Go.Act.put,List.setIfInBounds_toArray,List.set_cons_succ,List.set_cons_zero]
      replace HBx:=Hid.intro (HBx.out.below hB)
      replace HVN:=Hid.intro (HVN.out.below hB)
      replace HVD:=Hid.intro (HVD.out.below hB)
      replace HK:=Hid.intro (HK.out.step hB)
      have HVB:=Hid.intro hvb
      clear hvb hB HVA
      refine OW.call rfl rfl Tryz.func168 rfl namesOK (args:=[vb]) rfl ?_
      refine(isOne_calls wb vb _ HVB.out).mono ?_
      rintro e wc ⟨rfl,hB⟩
      refine⟨_,rfl,hB,?_⟩
      simp only [Go.Act.put,List.setIfInBounds_toArray,List.set_cons_succ,List.set_cons_zero]
      replace HBx:=Hid.intro (HBx.out.below hB)
      replace HVN:=Hid.intro (HVN.out.below hB)
      replace HVD:=Hid.intro (HVD.out.below hB)
      replace HK:=Hid.intro (HK.out.step hB)
      clear hB HVB
      refine OW.read rfl rfl (.bool (!decide (Nat.gcd (denOf l) (decVal (ownOf (topOf l)))=1))) (fun w' _=>rfl) ?_
      simp only [Go.Act.put,List.setIfInBounds_toArray]
      refine OW.done ?_
      obtain⟨f,hf⟩:=HK.out.res
      have z0:=(hf 0 (by omega)).1
      have z1:=(hf 1 (by omega)).1
      have z2:=(hf 2 (by omega)).1
      have y0:=(hf 0 (by omega)).2
      have y1:=(hf 1 (by omega)).2
      have y2:=(hf 2 (by omega)).2
      clear hf
      by_cases hg1:Nat.gcd (denOf l) (decVal (ownOf (topOf l)))=1
      ·rw [decide_eq_true hg1]
       obtain⟨q,hq,hnum,hden,hsg⟩:=HG.out.1 hg1
       have hP:=parse_some HNL.out hq
       rw [HNG.out]at hsg
       have HRA:Hid (RatAt wc (.agg #[.bool true,.slice o1 k1 c1,.slice o2 k2 c2]) q):=Hid.intro ⟨_,_,by rw [hsg],by rw [hnum];exact HVN.out,by
        rw [hden,←hDen]
        exact HVD.out⟩
       have HRL:Hid (RatLe q 100000):=Hid.intro ⟨by rw [hnum];exact own_lt (by rw [HN.out];omega) HCO.out,by rw [hden];exact den_lt (by rw [HN.out];omega) HBOT.out⟩
       have HP:=Hid.intro hP
       have d0:=HBx.out.c0
       have d1:=HBx.out.c1
       have d2:=HBx.out.c2
       clear hg1 hq hnum hden hsg hP z0 z1 z2 y0 y1 y2
       gi_wp2_with (gi_at_call 73;refine stop ?_)
       unfold Stop
       refine(attempt_any wc _ q HRA.out HRL.out (HL.out.pow.below HK.out.below)).mono ?_
       rintro e wd ⟨vr,rfl,hr,hB⟩
       replace HK:=Hid.intro (HK.out.step hB)
       obtain⟨o5,k5,c5,o6,k6,c6,rfl⟩:=hr.form
       have HR3:=Hid.intro hr
       obtain⟨sg',hsg'⟩:∃sg',decide ((keptQ q).num<0)=sg':=⟨_,rfl⟩
       rw [hsg']at HR3
       rw [hsg']
       obtain⟨f,hf⟩:=HK.out.res
       have z0:=(hf 0 (by omega)).1
       have z1:=(hf 1 (by omega)).1
       have z2:=(hf 2 (by omega)).1
       have y0:=(hf 0 (by omega)).2
       have y1:=(hf 1 (by omega)).2
       have y2:=(hf 2 (by omega)).2
       have HE:=Hid.intro HK.out.el
       clear hf hr hB
       gi_wp2
       refine ret_rat_two rfl rfl g rfl rfl z0 z1 z2 ?_
       rw [HP.out.1,HP.out.2]
       refine⟨_,rfl,?_,((HK.out.below.setCell hle _).setCell hle _).setCell hle _⟩
       exact((HR3.out.setElem HE.out (by decide)).setElem (HE.out.setCell _ _) (by decide)).setElem ((HE.out.setCell _ _).setCell _ _) (by decide)
      ·rw [decide_eq_false hg1]
       have HP:=Hid.intro (parse_none HNL.out (HG.out.2 hg1))
       clear hg1
       gi_wp2
       refine ret_rat_two rfl rfl g rfl rfl z0 z1 z2 ?_
       rw [HP.out.1,HP.out.2]
       exact⟨_,rfl,ratAt_zero _,((HK.out.below.setCell hle _).setCell hle _).setCell hle _⟩
     | true=>
      have HHS:=Hid.intro hs
      clear hs
      gi_wp2_with (first|(exfalso;exact undef_no (by assumption))|(gi_at_call 165;refine stop ?_))
      unfold Stop
      refine(isDigits_calls w4 b hbs).mono ?_
      rintro e w5 ⟨rfl,hB⟩
      rw [HBt.out]
      replace z0:=(hB.cell HK.out.lt).trans z0
      replace z1:=(hB.cell HK.out.lt).trans z1
      replace z2:=(hB.cell HK.out.lt).trans z2
      replace y0:=(hB.frozen (p:=⟨g,0,none⟩) HK.out.lt).trans y0
      replace y1:=(hB.frozen (p:=⟨g,1,none⟩) HK.out.lt).trans y1
      replace y2:=(hB.frozen (p:=⟨g,2,none⟩) HK.out.lt).trans y2
      replace HK:=Hid.intro (HK.out.step hB)
      clear hB
      cases hb:canon (botOf l)with
      | false=>
       have HBB:=bad_bot HHS.out (.inl hb)
       clear hb
       have HP:=Hid.intro (parse_none HNL.out (HBB))
       gi_wp2_with (exfalso;exact undef_no (by assumption))
       refine ret_rat_two rfl rfl g rfl rfl z0 z1 z2 ?_
       rw [HP.out.1,HP.out.2]
       exact⟨_,rfl,ratAt_zero _,((HK.out.below.setCell hle _).setCell hle _).setCell hle _⟩
      | true=>
       have HCB:=Hid.intro hb
       clear hb
       by_cases b48:b.toList = [48]
       ·have b48':(b.toList == [48])=true:=by rw [b48];rfl
        have HBB:=bad_bot (l:=l) HHS.out (.inr (.inl (by rw [←HBt.out,←Lib.toList_data];exact b48)))
        have HP:=Hid.intro (parse_none HNL.out (HBB))
        gi_wp2_with (exfalso;exact undef_no (by assumption))
        refine ret_rat_two rfl rfl g rfl rfl z0 z1 z2 ?_
        rw [HP.out.1,HP.out.2]
        exact⟨_,rfl,ratAt_zero _,((HK.out.below.setCell hle _).setCell hle _).setCell hle _⟩
       ·have b48':(b.toList == [48])=false:=list_beq b48
        by_cases b49:b.toList = [49]
        ·have b49':(b.toList == [49])=true:=by rw [b49];rfl
         have HBB:=bad_bot (l:=l) HHS.out (.inr (.inr (by rw [←HBt.out,←Lib.toList_data];exact b49)))
         have HP:=Hid.intro (parse_none HNL.out (HBB))
         gi_wp2_with (exfalso;exact undef_no (by assumption))
         refine ret_rat_two rfl rfl g rfl rfl z0 z1 z2 ?_
         rw [HP.out.1,HP.out.2]
         exact⟨_,rfl,ratAt_zero _,((HK.out.below.setCell hle _).setCell hle _).setCell hle _⟩
        ·have b49':(b.toList == [49])=false:=list_beq b49
         have HBOT:Hid (hasSlash l=true→canon (botOf l)=true∧botOf l ≠ [48]∧botOf l ≠ [49]):=Hid.intro (fun _=>⟨HCB.out,by rw [←HBt.out,←Lib.toList_data];exact b48,by rw [←HBt.out,←Lib.toList_data];exact b49⟩)
         have HG:=Hid.intro (good (l:=l) HCO.out HN48.out HBOT.out)
         clear z0 z1 z2 y0 y1 y2
         gi_wp2_with (first|(exfalso;exact undef_no (by assumption))|(gi_at_call 166;refine stop ?_))
         unfold Stop
         refine(parse_calls w5 o (ownOf (topOf l)) HOw.out (canon_dig HCO.out) (by have:=own_len l;rw [HN.out]at this;omega)).mono ?_
         rintro e w6 ⟨vn,rfl,hvn,hB⟩
         replace HK:=Hid.intro (HK.out.step hB)
         obtain⟨o1,k1,c1,rfl,_,_⟩:=mag_len hvn
         have HVN:=Hid.intro hvn
         clear hvn hB
         gi_wp2_with (first|(exfalso;exact undef_no (by assumption))|(gi_at_call 166;refine stop ?_))
         unfold Stop
         have hglt:=HK.out.lt
         obtain⟨W6,hW6⟩:∃W,W=w6.alloc (Obj.cells #[Value.bool true,.slice o1 k1 c1,.slice none 0 0] 27):=⟨_,rfl⟩
         rw [←hW6]
         have HBx:Hid (Box3 W6 w6.heap.size (.bool true) (.slice o1 k1 c1) (.slice none 0 0)):=Hid.intro (by rw [hW6];exact box3_new _ _ _ _ _)
         have HX:Hid (∃f,ArrAt W6 w6.heap.size 3 f):=Hid.intro (by rw [hW6];exact(own3_new _ _ _ _ _).1)
         have HE6:Hid (Elem W6 w6.heap.size 27):=Hid.intro (by rw [hW6];exact elem_new _ _ _)
         have hBW:Below w6.heap.size w6 W6:=by rw [hW6];exact alloc_below _ _
         replace HK:=Hid.intro (HK.out.step hBW)
         replace HVN:=Hid.intro (HVN.out.below hBW)
         have hgg:=hglt
         obtain⟨g6,hg6⟩:∃g6,w6.heap.size=g6:=⟨_,rfl⟩
         rw [hg6]at HBx HX HE6 hgg
         rw [hg6]
         clear hW6 hBW
         refine(parse_calls W6 b (botOf l) HBt.out (canon_dig (HBOT.out HHS.out).1) (by have:=own_len l;rw [HN.out]at this;omega)).mono ?_
         rintro e w7 ⟨vd,rfl,hvd,hB⟩
         replace HK:=Hid.intro (HK.out.step hB)
         replace HVN:=Hid.intro (HVN.out.below hB)
         replace HBx:=Hid.intro (HBx.out.below hB)
         replace HX:Hid (∃f,ArrAt w7 g6 3 f):=Hid.intro (HX.out.elim fun f hf=>⟨f,hf.below HE6.out.lt hB⟩)
         replace HE6:=Hid.intro (HE6.out.below hB HE6.out.lt)
         obtain⟨o2,k2,c2,rfl,_,_⟩:=mag_len hvd
         have HVD:=Hid.intro hvd
         obtain⟨f6,hf6⟩:=HX.out
         have x2:=(hf6 2 (by omega)).1
         have x3:=(hf6 2 (by omega)).2
         clear hvd hB HX
         gi_wp2_with (exfalso;exact undef_no (by assumption))
         obtain⟨W8,hW8⟩:∃W,W=w7.setCell ⟨g6,2,none⟩ (.slice o2 k2 c2):=⟨_,rfl⟩
         rw [←hW8]
         replace HBx:Hid (Box3 W8 g6 (.bool true) (.slice o1 k1 c1) (.slice o2 k2 c2)):=Hid.intro (by rw [hW8];exact HBx.out.set2 x2)
         replace HVN:Hid (MagAt W8 (.slice o1 k1 c1) (decVal (ownOf (topOf l)))):=Hid.intro (by rw [hW8];exact HVN.out.setElem HE6.out (by decide))
         replace HVD:Hid (MagAt W8 (.slice o2 k2 c2) (decVal (botOf l))):=Hid.intro (by rw [hW8];exact HVD.out.setElem HE6.out (by decide))
         replace HK:Hid (ResKept w W8 g):=Hid.intro (by rw [hW8];exact HK.out.set HE6.out.lt (by omega))
         have hDen:(if decVal (botOf l)=0 then 1 else decVal (botOf l))=denOf l:=by
          unfold denOf
          rw [HHS.out,if_neg]
          ·rfl
          ·have:=(small_val (HBOT.out HHS.out).1).2 (HBOT.out HHS.out).2
           omega
         clear hW8 hf6 x2 x3
         refine wpIn_region_ow (ro:=none) [1,4,5] [0,2,3,1,4,5,6] [0,1,0,4,15,31,63] follows 73 rfl (by kernel_rfl) (by kernel_rfl) ?_
         replace HBx:=Hid.intro (HBx.out.below (drew_below _))
         replace HVN:=Hid.intro (HVN.out.below (drew_below _))
         replace HVD:=Hid.intro (HVD.out.below (drew_below _))
         replace HK:=Hid.intro (HK.out.step (drew_below _))
         refine OW.loadAll rfl rfl l25 (cs:=[.bool true,.slice o1 k1 c1,.slice o2 k2 c2]) rfl (by decide) HBx.out rfl ?_
         simp only [Go.Act.put,List.setIfInBounds_toArray,List.set_cons_succ,List.set_cons_zero]
         refine OW.fieldAddr rfl rfl f25_1 rfl ?_
         simp only [Go.Act.put,List.setIfInBounds_toArray,List.set_cons_succ,List.set_cons_zero]
         refine OW.load rfl rfl l23 HBx.out.c1 rfl ?_
         simp only [Go.Act.put,List.setIfInBounds_toArray,List.set_cons_succ,List.set_cons_zero]
         refine OW.call rfl rfl Tryz.func132 rfl namesOK (args:=[.agg #[.bool true,.slice o1 k1 c1,.slice o2 k2 c2]]) rfl ?_
         refine(bottom_raw W8.drew true (.slice o1 k1 c1) (.slice o2 k2 c2) (decVal (botOf l)) HVD.out).mono ?_
         rintro e wa ⟨va,rfl,hva,hB⟩
         rw [hDen]at hva
         refine⟨va,rfl,hB,?_⟩
         simp only [Go.Act.put,List.setIfInBounds_toArray,List.set_cons_succ,List.set_cons_zero]
         replace HBx:=Hid.intro (HBx.out.below hB)
         replace HVN:=Hid.intro (HVN.out.below hB)
         replace HVD:=Hid.intro (HVD.out.below hB)
         replace HK:=Hid.intro (HK.out.step hB)
         have HVA:=Hid.intro hva
         clear hva hB
         refine OW.call rfl rfl Tryz.func167 rfl namesOK (args:=[va,.slice o1 k1 c1]) rfl ?_
         refine(gcd_calls wa va _ (denOf l) (decVal (ownOf (topOf l))) 100000 HVA.out HVN.out (den_lt (by rw [HN.out];omega) HBOT.out) (own_lt (by rw [HN.out];omega) HCO.out) (by omega)).mono ?_
         rintro e wb ⟨vb,rfl,hvb,hB⟩
         refine⟨vb,rfl,hB,?_⟩
         simp only [Go.Act.put,List.setIfInBounds_toArray,List.set_cons_succ,List.set_cons_zero]
         replace HBx:=Hid.intro (HBx.out.below hB)
         replace HVN:=Hid.intro (HVN.out.below hB)
         replace HVD:=Hid.intro (HVD.out.below hB)
         replace HK:=Hid.intro (HK.out.step hB)
         have HVB:=Hid.intro hvb
         clear hvb hB HVA
         refine OW.call rfl rfl Tryz.func168 rfl namesOK (args:=[vb]) rfl ?_
         refine(isOne_calls wb vb _ HVB.out).mono ?_
         rintro e wc ⟨rfl,hB⟩
         refine⟨_,rfl,hB,?_⟩
         simp only [Go.Act.put,List.setIfInBounds_toArray,List.set_cons_succ,List.set_cons_zero]
         replace HBx:=Hid.intro (HBx.out.below hB)
         replace HVN:=Hid.intro (HVN.out.below hB)
         replace HVD:=Hid.intro (HVD.out.below hB)
         replace HK:=Hid.intro (HK.out.step hB)
         clear hB HVB
         refine OW.read rfl rfl (.bool (!decide (Nat.gcd (denOf l) (decVal (ownOf (topOf l)))=1))) (fun w' _=>rfl) ?_
         simp only [Go.Act.put,List.setIfInBounds_toArray]
         refine OW.done ?_
         obtain⟨f,hf⟩:=HK.out.res
         have z0:=(hf 0 (by omega)).1
         have z1:=(hf 1 (by omega)).1
         have z2:=(hf 2 (by omega)).1
         have y0:=(hf 0 (by omega)).2
         have y1:=(hf 1 (by omega)).2
         have y2:=(hf 2 (by omega)).2
         clear hf
         by_cases hg1:Nat.gcd (denOf l) (decVal (ownOf (topOf l)))=1
         ·rw [decide_eq_true hg1]
          obtain⟨q,hq,hnum,hden,hsg⟩:=HG.out.1 hg1
          have hP:=parse_some HNL.out hq
          rw [HNG.out]at hsg
          have HRA:Hid (RatAt wc (.agg #[.bool true,.slice o1 k1 c1,.slice o2 k2 c2]) q):=Hid.intro ⟨_,_,by rw [hsg],by rw [hnum];exact HVN.out,by
           rw [hden,←hDen]
           have h2:=(small_val (HBOT.out HHS.out).1).2 (HBOT.out HHS.out).2;rw [if_neg (show ¬decVal (botOf l)=0 by omega),if_neg (show ¬decVal (botOf l)=1 by omega)];exact HVD.out⟩
          have HRL:Hid (RatLe q 100000):=Hid.intro ⟨by rw [hnum];exact own_lt (by rw [HN.out];omega) HCO.out,by rw [hden];exact den_lt (by rw [HN.out];omega) HBOT.out⟩
          have HP:=Hid.intro hP
          have d0:=HBx.out.c0
          have d1:=HBx.out.c1
          have d2:=HBx.out.c2
          clear hg1 hq hnum hden hsg hP z0 z1 z2 y0 y1 y2
          gi_wp2_with (gi_at_call 73;refine stop ?_)
          unfold Stop
          refine(attempt_any wc _ q HRA.out HRL.out (HL.out.pow.below HK.out.below)).mono ?_
          rintro e wd ⟨vr,rfl,hr,hB⟩
          replace HK:=Hid.intro (HK.out.step hB)
          obtain⟨o5,k5,c5,o6,k6,c6,rfl⟩:=hr.form
          have HR3:=Hid.intro hr
          obtain⟨sg',hsg'⟩:∃sg',decide ((keptQ q).num<0)=sg':=⟨_,rfl⟩
          rw [hsg']at HR3
          rw [hsg']
          obtain⟨f,hf⟩:=HK.out.res
          have z0:=(hf 0 (by omega)).1
          have z1:=(hf 1 (by omega)).1
          have z2:=(hf 2 (by omega)).1
          have y0:=(hf 0 (by omega)).2
          have y1:=(hf 1 (by omega)).2
          have y2:=(hf 2 (by omega)).2
          have HE:=Hid.intro HK.out.el
          clear hf hr hB
          gi_wp2
          refine ret_rat_two rfl rfl g rfl rfl z0 z1 z2 ?_
          rw [HP.out.1,HP.out.2]
          refine⟨_,rfl,?_,((HK.out.below.setCell hle _).setCell hle _).setCell hle _⟩
          exact((HR3.out.setElem HE.out (by decide)).setElem (HE.out.setCell _ _) (by decide)).setElem ((HE.out.setCell _ _).setCell _ _) (by decide)
         ·rw [decide_eq_false hg1]
          have HP:=Hid.intro (parse_none HNL.out (HG.out.2 hg1))
          clear hg1
          gi_wp2
          refine ret_rat_two rfl rfl g rfl rfl z0 z1 z2 ?_
          rw [HP.out.1,HP.out.2]
          exact⟨_,rfl,ratAt_zero _,((HK.out.below.setCell hle _).setCell hle _).setCell hle _⟩
   | false=>
    have HNG:=Hid.intro hn
    clear hn
    have HN48:Hid (isNeg (topOf l)=true→ownOf (topOf l) ≠ [48]):=Hid.intro (fun h=>by rw [HNG.out]at h;cases h)
    cases hs:hasSlash l with
    | false=>
     have HHS:=Hid.intro hs
     have HBOT:Hid (hasSlash l=true→canon (botOf l)=true∧botOf l ≠ [48]∧botOf l ≠ [49]):=Hid.intro (fun h=>by rw [hs]at h;cases h)
     clear hs
     have HG:=Hid.intro (good (l:=l) HCO.out HN48.out HBOT.out)
     clear z0 z1 z2 y0 y1 y2
     gi_wp2_with (first|(exfalso;exact undef_no (by assumption))|(gi_at_call 166;refine stop ?_))
     unfold Stop
     refine(parse_calls w4 o (ownOf (topOf l)) HOw.out (canon_dig HCO.out) (by have:=own_len l;rw [HN.out]at this;omega)).mono ?_
     rintro e w6 ⟨vn,rfl,hvn,hB⟩
     replace HK:=Hid.intro (HK.out.step hB)
     obtain⟨o1,k1,c1,rfl,_,_⟩:=mag_len hvn
     have HVN:=Hid.intro hvn
     clear hvn hB
     gi_wp2_with (exfalso;exact undef_no (by assumption))
     obtain⟨W6,hW6⟩:∃W,W=w6.alloc (Obj.cells #[Value.bool false,.slice o1 k1 c1,.slice none 0 0] 27):=⟨_,rfl⟩
     rw [←hW6]
     have HBx:Hid (Box3 W6 w6.heap.size (.bool false) (.slice o1 k1 c1) (.slice none 0 0)):=Hid.intro (by rw [hW6];exact box3_new _ _ _ _ _)
     have hBW:Below w6.heap.size w6 W6:=by rw [hW6];exact alloc_below _ _
     replace HK:=Hid.intro (HK.out.step hBW)
     replace HVN:=Hid.intro (HVN.out.below hBW)
     have HVD:Hid (MagAt W6 (.slice none 0 0) 0):=Hid.intro ⟨0,lenIs_zero,.inl ⟨rfl,none,0,rfl⟩⟩
     obtain⟨o2,k2,c2,hv2⟩:∃o2 k2 c2,(Value.slice none 0 0) = .slice o2 k2 c2:=⟨_,_,_,rfl⟩
     rw [hv2]at HBx HVD
     have hDen:(if(0:Nat)=0 then 1 else 0)=denOf l:=by unfold denOf;rw [HHS.out];rfl
     clear hW6 hBW hv2
     refine wpIn_region_ow (ro:=none) [1,4,5] [0,2,3,1,4,5,6] [0,1,0,4,15,31,63] follows 73 rfl (by kernel_rfl) (by kernel_rfl) ?_
     replace HBx:=Hid.intro (HBx.out.below (drew_below _))
     replace HVN:=Hid.intro (HVN.out.below (drew_below _))
     replace HVD:=Hid.intro (HVD.out.below (drew_below _))
     replace HK:=Hid.intro (HK.out.step (drew_below _))
     refine OW.loadAll rfl rfl l25 (cs:=[.bool false,.slice o1 k1 c1,.slice o2 k2 c2]) rfl (by decide) HBx.out rfl ?_
     simp only [Go.Act.put,List.setIfInBounds_toArray,List.set_cons_succ,List.set_cons_zero]
     refine OW.fieldAddr rfl rfl f25_1 rfl ?_
     simp only [Go.Act.put,List.setIfInBounds_toArray,List.set_cons_succ,List.set_cons_zero]
     refine OW.load rfl rfl l23 HBx.out.c1 rfl ?_
     simp only [Go.Act.put,List.setIfInBounds_toArray,List.set_cons_succ,List.set_cons_zero]
     refine OW.call rfl rfl Tryz.func132 rfl namesOK (args:=[.agg #[.bool false,.slice o1 k1 c1,.slice o2 k2 c2]]) rfl ?_
     refine(bottom_raw W6.drew false (.slice o1 k1 c1) (.slice o2 k2 c2) 0 HVD.out).mono ?_
     rintro e wa ⟨va,rfl,hva,hB⟩
     rw [hDen]at hva
     refine⟨va,rfl,hB,?_⟩
     simp only [Go.Act.put,List.setIfInBounds_toArray,List.set_cons_succ,List.set_cons_zero]
     replace HBx:=Hid.intro (HBx.out.below hB)
     replace HVN:=Hid.intro (HVN.out.below hB)
     replace HVD:=Hid.intro (HVD.out.below hB)
     replace HK:=Hid.intro (HK.out.step hB)
     have HVA:=Hid.intro hva
     clear hva hB
     refine OW.call rfl rfl Tryz.func167 rfl namesOK (args:=[va,.slice o1 k1 c1]) rfl ?_
     refine(gcd_calls wa va _ (denOf l) (decVal (ownOf (topOf l))) 100000 HVA.out HVN.out (den_lt (by rw [HN.out];omega) HBOT.out) (own_lt (by rw [HN.out];omega) HCO.out) (by omega)).mono ?_
     rintro e wb ⟨vb,rfl,hvb,hB⟩
     refine⟨vb,rfl,hB,?_⟩
     simp only [Go.Act.put,List.setIfInBounds_toArray,List.set_cons_succ,List.set_cons_zero]
     replace HBx:=Hid.intro (HBx.out.below hB)
     replace HVN:=Hid.intro (HVN.out.below hB)
     replace HVD:=Hid.intro (HVD.out.below hB)
     replace HK:=Hid.intro (HK.out.step hB)
     have HVB:=Hid.intro hvb
     clear hvb hB HVA
     refine OW.call rfl rfl Tryz.func168 rfl namesOK (args:=[vb]) rfl ?_
     refine(isOne_calls wb vb _ HVB.out).mono ?_
     rintro e wc ⟨rfl,hB⟩
     refine⟨_,rfl,hB,?_⟩
     simp only [Go.Act.put,List.setIfInBounds_toArray,List.set_cons_succ,List.set_cons_zero]
     replace HBx:=Hid.intro (HBx.out.below hB)
     replace HVN:=Hid.intro (HVN.out.below hB)
     replace HVD:=Hid.intro (HVD.out.below hB)
     replace HK:=Hid.intro (HK.out.step hB)
     clear hB HVB
     refine OW.read rfl rfl (.bool (!decide (Nat.gcd (denOf l) (decVal (ownOf (topOf l)))=1))) (fun w' _=>rfl) ?_
     simp only [Go.Act.put,List.setIfInBounds_toArray]
     refine OW.done ?_
     obtain⟨f,hf⟩:=HK.out.res
     have z0:=(hf 0 (by omega)).1
     have z1:=(hf 1 (by omega)).1
     have z2:=(hf 2 (by omega)).1
     have y0:=(hf 0 (by omega)).2
     have y1:=(hf 1 (by omega)).2
     have y2:=(hf 2 (by omega)).2
     clear hf
     by_cases hg1:Nat.gcd (denOf l) (decVal (ownOf (topOf l)))=1
     ·rw [decide_eq_true hg1]
      obtain⟨q,hq,hnum,hden,hsg⟩:=HG.out.1 hg1
      have hP:=parse_some HNL.out hq
      rw [HNG.out]at hsg
      have HRA:Hid (RatAt wc (.agg #[.bool false,.slice o1 k1 c1,.slice o2 k2 c2]) q):=Hid.intro ⟨_,_,by rw [hsg],by rw [hnum];exact HVN.out,by
       rw [hden,←hDen]
       exact HVD.out⟩
      have HRL:Hid (RatLe q 100000):=Hid.intro ⟨by rw [hnum];exact own_lt (by rw [HN.out];omega) HCO.out,by rw [hden];exact den_lt (by rw [HN.out];omega) HBOT.out⟩
      have HP:=Hid.intro hP
      have d0:=HBx.out.c0
      have d1:=HBx.out.c1
      have d2:=HBx.out.c2
      clear hg1 hq hnum hden hsg hP z0 z1 z2 y0 y1 y2
      gi_wp2_with (gi_at_call 73;refine stop ?_)
      unfold Stop
      refine(attempt_any wc _ q HRA.out HRL.out (HL.out.pow.below HK.out.below)).mono ?_
      rintro e wd ⟨vr,rfl,hr,hB⟩
      replace HK:=Hid.intro (HK.out.step hB)
      obtain⟨o5,k5,c5,o6,k6,c6,rfl⟩:=hr.form
      have HR3:=Hid.intro hr
      obtain⟨sg',hsg'⟩:∃sg',decide ((keptQ q).num<0)=sg':=⟨_,rfl⟩
      rw [hsg']at HR3
      rw [hsg']
      obtain⟨f,hf⟩:=HK.out.res
      have z0:=(hf 0 (by omega)).1
      have z1:=(hf 1 (by omega)).1
      have z2:=(hf 2 (by omega)).1
      have y0:=(hf 0 (by omega)).2
      have y1:=(hf 1 (by omega)).2
      have y2:=(hf 2 (by omega)).2
      have HE:=Hid.intro HK.out.el
      clear hf hr hB
      gi_wp2
      refine ret_rat_two rfl rfl g rfl rfl z0 z1 z2 ?_
      rw [HP.out.1,HP.out.2]
      refine⟨_,rfl,?_,((HK.out.below.setCell hle _).setCell hle _).setCell hle _⟩
      exact((HR3.out.setElem HE.out (by decide)).setElem (HE.out.setCell _ _) (by decide)).setElem ((HE.out.setCell _ _).setCell _ _) (by decide)
     ·rw [decide_eq_false hg1]
      have HP:=Hid.intro (parse_none HNL.out (HG.out.2 hg1))
      clear hg1
      gi_wp2
      refine ret_rat_two rfl rfl g rfl rfl z0 z1 z2 ?_
      rw [HP.out.1,HP.out.2]
      exact⟨_,rfl,ratAt_zero _,((HK.out.below.setCell hle _).setCell hle _).setCell hle _⟩
    | true=>
     have HHS:=Hid.intro hs
     clear hs
     gi_wp2_with (first|(exfalso;exact undef_no (by assumption))|(gi_at_call 165;refine stop ?_))
     unfold Stop
     refine(isDigits_calls w4 b hbs).mono ?_
     rintro e w5 ⟨rfl,hB⟩
     rw [HBt.out]
     replace z0:=(hB.cell HK.out.lt).trans z0
     replace z1:=(hB.cell HK.out.lt).trans z1
     replace z2:=(hB.cell HK.out.lt).trans z2
     replace y0:=(hB.frozen (p:=⟨g,0,none⟩) HK.out.lt).trans y0
     replace y1:=(hB.frozen (p:=⟨g,1,none⟩) HK.out.lt).trans y1
     replace y2:=(hB.frozen (p:=⟨g,2,none⟩) HK.out.lt).trans y2
     replace HK:=Hid.intro (HK.out.step hB)
     clear hB
     cases hb:canon (botOf l)with
     | false=>
      have HBB:=bad_bot HHS.out (.inl hb)
      clear hb
      have HP:=Hid.intro (parse_none HNL.out (HBB))
      gi_wp2_with (exfalso;exact undef_no (by assumption))
      refine ret_rat_two rfl rfl g rfl rfl z0 z1 z2 ?_
      rw [HP.out.1,HP.out.2]
      exact⟨_,rfl,ratAt_zero _,((HK.out.below.setCell hle _).setCell hle _).setCell hle _⟩
     | true=>
      have HCB:=Hid.intro hb
      clear hb
      by_cases b48:b.toList = [48]
      ·have b48':(b.toList == [48])=true:=by rw [b48];rfl
       have HBB:=bad_bot (l:=l) HHS.out (.inr (.inl (by rw [←HBt.out,←Lib.toList_data];exact b48)))
       have HP:=Hid.intro (parse_none HNL.out (HBB))
       gi_wp2_with (exfalso;exact undef_no (by assumption))
       refine ret_rat_two rfl rfl g rfl rfl z0 z1 z2 ?_
       rw [HP.out.1,HP.out.2]
       exact⟨_,rfl,ratAt_zero _,((HK.out.below.setCell hle _).setCell hle _).setCell hle _⟩
      ·have b48':(b.toList == [48])=false:=list_beq b48
       by_cases b49:b.toList = [49]
       ·have b49':(b.toList == [49])=true:=by rw [b49];rfl
        have HBB:=bad_bot (l:=l) HHS.out (.inr (.inr (by rw [←HBt.out,←Lib.toList_data];exact b49)))
        have HP:=Hid.intro (parse_none HNL.out (HBB))
        gi_wp2_with (exfalso;exact undef_no (by assumption))
        refine ret_rat_two rfl rfl g rfl rfl z0 z1 z2 ?_
        rw [HP.out.1,HP.out.2]
        exact⟨_,rfl,ratAt_zero _,((HK.out.below.setCell hle _).setCell hle _).setCell hle _⟩
       ·have b49':(b.toList == [49])=false:=list_beq b49
        have HBOT:Hid (hasSlash l=true→canon (botOf l)=true∧botOf l ≠ [48]∧botOf l ≠ [49]):=Hid.intro (fun _=>⟨HCB.out,by rw [←HBt.out,←Lib.toList_data];exact b48,by rw [←HBt.out,←Lib.toList_data];exact b49⟩)
        have HG:=Hid.intro (good (l:=l) HCO.out HN48.out HBOT.out)
        clear z0 z1 z2 y0 y1 y2
        gi_wp2_with (first|(exfalso;exact undef_no (by assumption))|(gi_at_call 166;refine stop ?_))
        unfold Stop
        refine(parse_calls w5 o (ownOf (topOf l)) HOw.out (canon_dig HCO.out) (by have:=own_len l;rw [HN.out]at this;omega)).mono ?_
        rintro e w6 ⟨vn,rfl,hvn,hB⟩
        replace HK:=Hid.intro (HK.out.step hB)
        obtain⟨o1,k1,c1,rfl,_,_⟩:=mag_len hvn
        have HVN:=Hid.intro hvn
        clear hvn hB
        gi_wp2_with (first|(exfalso;exact undef_no (by assumption))|(gi_at_call 166;refine stop ?_))
        unfold Stop
        have hglt:=HK.out.lt
        obtain⟨W6,hW6⟩:∃W,W=w6.alloc (Obj.cells #[Value.bool false,.slice o1 k1 c1,.slice none 0 0] 27):=⟨_,rfl⟩
        rw [←hW6]
        have HBx:Hid (Box3 W6 w6.heap.size (.bool false) (.slice o1 k1 c1) (.slice none 0 0)):=Hid.intro (by rw [hW6];exact box3_new _ _ _ _ _)
        have HX:Hid (∃f,ArrAt W6 w6.heap.size 3 f):=Hid.intro (by rw [hW6];exact(own3_new _ _ _ _ _).1)
        have HE6:Hid (Elem W6 w6.heap.size 27):=Hid.intro (by rw [hW6];exact elem_new _ _ _)
        have hBW:Below w6.heap.size w6 W6:=by rw [hW6];exact alloc_below _ _
        replace HK:=Hid.intro (HK.out.step hBW)
        replace HVN:=Hid.intro (HVN.out.below hBW)
        have hgg:=hglt
        obtain⟨g6,hg6⟩:∃g6,w6.heap.size=g6:=⟨_,rfl⟩
        rw [hg6]at HBx HX HE6 hgg
        rw [hg6]
        clear hW6 hBW
        refine(parse_calls W6 b (botOf l) HBt.out (canon_dig (HBOT.out HHS.out).1) (by have:=own_len l;rw [HN.out]at this;omega)).mono ?_
        rintro e w7 ⟨vd,rfl,hvd,hB⟩
        replace HK:=Hid.intro (HK.out.step hB)
        replace HVN:=Hid.intro (HVN.out.below hB)
        replace HBx:=Hid.intro (HBx.out.below hB)
        replace HX:Hid (∃f,ArrAt w7 g6 3 f):=Hid.intro (HX.out.elim fun f hf=>⟨f,hf.below HE6.out.lt hB⟩)
        replace HE6:=Hid.intro (HE6.out.below hB HE6.out.lt)
        obtain⟨o2,k2,c2,rfl,_,_⟩:=mag_len hvd
        have HVD:=Hid.intro hvd
        obtain⟨f6,hf6⟩:=HX.out
        have x2:=(hf6 2 (by omega)).1
        have x3:=(hf6 2 (by omega)).2
        clear hvd hB HX
        gi_wp2_with (exfalso;exact undef_no (by assumption))
        obtain⟨W8,hW8⟩:∃W,W=w7.setCell ⟨g6,2,none⟩ (.slice o2 k2 c2):=⟨_,rfl⟩
        rw [←hW8]
        replace HBx:Hid (Box3 W8 g6 (.bool false) (.slice o1 k1 c1) (.slice o2 k2 c2)):=Hid.intro (by rw [hW8];exact HBx.out.set2 x2)
        replace HVN:Hid (MagAt W8 (.slice o1 k1 c1) (decVal (ownOf (topOf l)))):=Hid.intro (by rw [hW8];exact HVN.out.setElem HE6.out (by decide))
        replace HVD:Hid (MagAt W8 (.slice o2 k2 c2) (decVal (botOf l))):=Hid.intro (by rw [hW8];exact HVD.out.setElem HE6.out (by decide))
        replace HK:Hid (ResKept w W8 g):=Hid.intro (by rw [hW8];exact HK.out.set HE6.out.lt (by omega))
        have hDen:(if decVal (botOf l)=0 then 1 else decVal (botOf l))=denOf l:=by
         unfold denOf
         rw [HHS.out,if_neg]
         ·rfl
         ·have:=(small_val (HBOT.out HHS.out).1).2 (HBOT.out HHS.out).2
          omega
        clear hW8 hf6 x2 x3
        refine wpIn_region_ow (ro:=none) [1,4,5] [0,2,3,1,4,5,6] [0,1,0,4,15,31,63] follows 73 rfl (by kernel_rfl) (by kernel_rfl) ?_
        replace HBx:=Hid.intro (HBx.out.below (drew_below _))
        replace HVN:=Hid.intro (HVN.out.below (drew_below _))
        replace HVD:=Hid.intro (HVD.out.below (drew_below _))
        replace HK:=Hid.intro (HK.out.step (drew_below _))
        refine OW.loadAll rfl rfl l25 (cs:=[.bool false,.slice o1 k1 c1,.slice o2 k2 c2]) rfl (by decide) HBx.out rfl ?_
        simp only [Go.Act.put,List.setIfInBounds_toArray,List.set_cons_succ,List.set_cons_zero]
        refine OW.fieldAddr rfl rfl f25_1 rfl ?_
        simp only [Go.Act.put,List.setIfInBounds_toArray,List.set_cons_succ,List.set_cons_zero]
        refine OW.load rfl rfl l23 HBx.out.c1 rfl ?_
        simp only [Go.Act.put,List.setIfInBounds_toArray,List.set_cons_succ,List.set_cons_zero]
        refine OW.call rfl rfl Tryz.func132 rfl namesOK (args:=[.agg #[.bool false,.slice o1 k1 c1,.slice o2 k2 c2]]) rfl ?_
        refine(bottom_raw W8.drew false (.slice o1 k1 c1) (.slice o2 k2 c2) (decVal (botOf l)) HVD.out).mono ?_
        rintro e wa ⟨va,rfl,hva,hB⟩
        rw [hDen]at hva
        refine⟨va,rfl,hB,?_⟩
        simp only [Go.Act.put,List.setIfInBounds_toArray,List.set_cons_succ,List.set_cons_zero]
        replace HBx:=Hid.intro (HBx.out.below hB)
        replace HVN:=Hid.intro (HVN.out.below hB)
        replace HVD:=Hid.intro (HVD.out.below hB)
        replace HK:=Hid.intro (HK.out.step hB)
        have HVA:=Hid.intro hva
        clear hva hB
        refine OW.call rfl rfl Tryz.func167 rfl namesOK (args:=[va,.slice o1 k1 c1]) rfl ?_
        refine(gcd_calls wa va _ (denOf l) (decVal (ownOf (topOf l))) 100000 HVA.out HVN.out (den_lt (by rw [HN.out];omega) HBOT.out) (own_lt (by rw [HN.out];omega) HCO.out) (by omega)).mono ?_
        rintro e wb ⟨vb,rfl,hvb,hB⟩
        refine⟨vb,rfl,hB,?_⟩
        simp only [Go.Act.put,List.setIfInBounds_toArray,List.set_cons_succ,List.set_cons_zero]
        replace HBx:=Hid.intro (HBx.out.below hB)
        replace HVN:=Hid.intro (HVN.out.below hB)
        replace HVD:=Hid.intro (HVD.out.below hB)
        replace HK:=Hid.intro (HK.out.step hB)
        have HVB:=Hid.intro hvb
        clear hvb hB HVA
        refine OW.call rfl rfl Tryz.func168 rfl namesOK (args:=[vb]) rfl ?_
        refine(isOne_calls wb vb _ HVB.out).mono ?_
        rintro e wc ⟨rfl,hB⟩
        refine⟨_,rfl,hB,?_⟩
        simp only [Go.Act.put,List.setIfInBounds_toArray,List.set_cons_succ,List.set_cons_zero]
        replace HBx:=Hid.intro (HBx.out.below hB)
        replace HVN:=Hid.intro (HVN.out.below hB)
        replace HVD:=Hid.intro (HVD.out.below hB)
        replace HK:=Hid.intro (HK.out.step hB)
        clear hB HVB
        refine OW.read rfl rfl (.bool (!decide (Nat.gcd (denOf l) (decVal (ownOf (topOf l)))=1))) (fun w' _=>rfl) ?_
        simp only [Go.Act.put,List.setIfInBounds_toArray]
        refine OW.done ?_
        obtain⟨f,hf⟩:=HK.out.res
        have z0:=(hf 0 (by omega)).1
        have z1:=(hf 1 (by omega)).1
        have z2:=(hf 2 (by omega)).1
        have y0:=(hf 0 (by omega)).2
        have y1:=(hf 1 (by omega)).2
        have y2:=(hf 2 (by omega)).2
        clear hf
        by_cases hg1:Nat.gcd (denOf l) (decVal (ownOf (topOf l)))=1
        ·rw [decide_eq_true hg1]
         obtain⟨q,hq,hnum,hden,hsg⟩:=HG.out.1 hg1
         have hP:=parse_some HNL.out hq
         rw [HNG.out]at hsg
         have HRA:Hid (RatAt wc (.agg #[.bool false,.slice o1 k1 c1,.slice o2 k2 c2]) q):=Hid.intro ⟨_,_,by rw [hsg],by rw [hnum];exact HVN.out,by
          rw [hden,←hDen]
          have h2:=(small_val (HBOT.out HHS.out).1).2 (HBOT.out HHS.out).2;rw [if_neg (show ¬decVal (botOf l)=0 by omega),if_neg (show ¬decVal (botOf l)=1 by omega)];exact HVD.out⟩
         have HRL:Hid (RatLe q 100000):=Hid.intro ⟨by rw [hnum];exact own_lt (by rw [HN.out];omega) HCO.out,by rw [hden];exact den_lt (by rw [HN.out];omega) HBOT.out⟩
         have HP:=Hid.intro hP
         have d0:=HBx.out.c0
         have d1:=HBx.out.c1
         have d2:=HBx.out.c2
         clear hg1 hq hnum hden hsg hP z0 z1 z2 y0 y1 y2
         gi_wp2_with (gi_at_call 73;refine stop ?_)
         unfold Stop
         refine(attempt_any wc _ q HRA.out HRL.out (HL.out.pow.below HK.out.below)).mono ?_
         rintro e wd ⟨vr,rfl,hr,hB⟩
         replace HK:=Hid.intro (HK.out.step hB)
         obtain⟨o5,k5,c5,o6,k6,c6,rfl⟩:=hr.form
         have HR3:=Hid.intro hr
         obtain⟨sg',hsg'⟩:∃sg',decide ((keptQ q).num<0)=sg':=⟨_,rfl⟩
         rw [hsg']at HR3
         rw [hsg']
         obtain⟨f,hf⟩:=HK.out.res
         have z0:=(hf 0 (by omega)).1
         have z1:=(hf 1 (by omega)).1
         have z2:=(hf 2 (by omega)).1
         have y0:=(hf 0 (by omega)).2
         have y1:=(hf 1 (by omega)).2
         have y2:=(hf 2 (by omega)).2
         have HE:=Hid.intro HK.out.el
         clear hf hr hB
         gi_wp2
         refine ret_rat_two rfl rfl g rfl rfl z0 z1 z2 ?_
         rw [HP.out.1,HP.out.2]
         refine⟨_,rfl,?_,((HK.out.below.setCell hle _).setCell hle _).setCell hle _⟩
         exact((HR3.out.setElem HE.out (by decide)).setElem (HE.out.setCell _ _) (by decide)).setElem ((HE.out.setCell _ _).setCell _ _) (by decide)
        ·rw [decide_eq_false hg1]
         have HP:=Hid.intro (parse_none HNL.out (HG.out.2 hg1))
         clear hg1
         gi_wp2
         refine ret_rat_two rfl rfl g rfl rfl z0 z1 z2 ?_
         rw [HP.out.1,HP.out.2]
         exact⟨_,rfl,ratAt_zero _,((HK.out.below.setCell hle _).setCell hle _).setCell hle _⟩
end Go.Num
namespace Go.Num
open Go.Eng Go.Shelf Go.RowKit Go.Sort Go.Proofs Go.Proofs.YtepakfjilnpodaaGreatDoor
end Go.Num
