/-
  'ParseQ' of the reference: the fraction of a text. 'matrix' of the laws: rows of strings as rows of fractions, for both sides. 'rat' of the 
  Conditions: see each statement.
-/
import Derived.Test.YtepakfjilnpodaaGreatDoorRBAA
import Derived.Test.YtepakfjilnpodaaGreatDoorRBAS
import Derived.Test.YtepakfjilnpodaaGreatDoorRBAN
import Derived.Test.YtepakfjilnpodaaGreatDoorRBAO
import Derived.BigFrameIn
set_option maxRecDepth 100000
set_option maxHeartbeats 8000000
namespace Go.Num
open Go.Eng Go.Shelf Go.RowKit Go.Sort Go.Proofs Go.Proofs.YtepakfjilnpodaaGreatDoor
def refE(l:List UInt8):Int:=if 41000<l.length then 2 else match zck l with|none=>10|some q=>if zaU q 20000 then 0 else 11
def zpO(w:World)(l:List UInt8)(e:Ending)(w':World):Prop:=
 ∃v',e = .returned (.tuple #[v',.int .i64 (refE l)])∧(∃s1 o1 k1 c1 s2 o2 k2 c2,v' = .agg #[.bool s1,.slice o1 k1 c1,.bool s2,.slice o2 k2 c2])∧(refE l=0→∃q,zck l=some q∧QAt w' v' q)∧Below w.heap.size w w'
structure zdq(w W:World)(g:Nat):Prop where
 res:∃f,zag W g 4 f
 el:Elem W g 62
 below:Below w.heap.size w W
 le:w.heap.size≤g
theorem zdq.step{w W W':World}{g:Nat}(h:zdq w W g)(hb:Below W.heap.size W W'):zdq w W' g:=by
 obtain⟨f,hf⟩:=h.res;exact⟨⟨f,hf.below h.el.lt hb⟩,h.el.below hb h.el.lt,h.below.trans (hb.mono h.below.size),h.le⟩
theorem zg6(w:World)(x y z u:Value):zdq w (w.alloc (.cells #[x,y,z,u] 62)) w.heap.size:=
 ⟨⟨fun i => [x,y,z,u].getD i x,zag.new _ _ _ fun i hi=>by
  match i,hi with
  | 0,_=>rfl
  | 1,_=>rfl
  | 2,_=>rfl
  | 3,_=>rfl⟩,zaO _ _ _,zaa _ _,Nat.le_refl _⟩
theorem zoT{l:List UInt8}(h:41000<l.length):refE l=2:=if_pos h
theorem zgf{l:List UInt8}(h:¬41000<l.length)(hf:zck l=none):refE l=10:=by unfold refE;rw [if_neg h,hf]
theorem zge{l:List UInt8}(h:¬41000<l.length){q:Rat}(hf:zck l=some q):refE l=if zaU q 20000 then 0 else 11:=by unfold refE;rw [if_neg h,hf]
theorem zmQ{fn:Func}{p t:Tmp}{R:Ending→World→Prop}{a:Act}{w:World}{x y z u v:Value}(h:fn.results=#[.cell p 62,.tmp t])(hd:a.defers = [])(g:Nat)(hp:a.tmps.getD p undef = .pointer (some ⟨g,0,none⟩))(ht:a.tmps.getD t undef=v)
  (hc:Box4 w g x y z u) (hR:R (.returned (.tuple #[.agg #[x,y,z,u],v])) w):bodyPost Tryz.prog fn R .ret a w:=by
 refine⟨hd,.tuple #[.agg #[x,y,z,u],v],?_,hR⟩;have e1:=l34 g [x,y,z,u] w rfl hc;simp only [Instr.loadAt,Instr.sureAddr,Sem.run_bind,Sem.run_pure,Result.andThen_ok]at e1;have hp2:a.tmps[p]?.getD undef = .pointer (some ⟨g,0,none⟩):=by rw [←Array.getD_eq_getD_getElem?];exact hp
 have ht2:a.tmps[t]?.getD undef=v:=by rw [←Array.getD_eq_getD_getElem?];exact ht
 simp [results,h,hp2,ht2,asAddr,e1]
theorem zkR{fn:Func}{p t:Tmp}{R:Ending→World→Prop}{a:Act}{w:World}{x y z u v:Value}(h:fn.results=#[.cell p 62,.tmp t])(hd:a.defers = [])(hp:a.tmps.getD p undef = .pointer (some ⟨w.heap.size,0,none⟩))(ht:a.tmps.getD t undef=v)
  (hR:R (.returned (.tuple #[.agg #[x,y,z,u],v])) (w.alloc (.cells #[x,y,z,u] 62))):bodyPost Tryz.prog fn R .ret a (w.alloc (.cells #[x,y,z,u] 62)):=by
 refine zmQ h hd w.heap.size hp ht (fun j v' hj => ?_) hR;match j,hj with
 | 0,hj=>rw [←hj,World.cell?_alloc_new];rfl
 | 1,hj=>rw [←hj,World.cell?_alloc_new];rfl
 | 2,hj=>rw [←hj,World.cell?_alloc_new];rfl
 | 3,hj=>rw [←hj,World.cell?_alloc_new];rfl
 | k+4,hj=>simp at hj
theorem zby{fn:Func}{p t:Tmp}{R:Ending→World→Prop}{a:Act}{w:World}{x y z u v:Value}(h:fn.results=#[.cell p 62,.tmp t])(hd:a.defers = [])(g:Nat)(hp:a.tmps.getD p undef = .pointer (some ⟨g,0,none⟩))(ht:a.tmps.getD t undef=v)
  {f:Nat→Value} (hA:zag w g 4 f) (hR:R (.returned (.tuple #[.agg #[x,y,z,u],v])) ((((w.setCell ⟨g,0,none⟩ x).setCell ⟨g,1,none⟩ y).setCell ⟨g,2,none⟩ z).setCell ⟨g,3,none⟩ u)) :
  bodyPost Tryz.prog fn R .ret a ((((w.setCell ⟨g,0,none⟩ x).setCell ⟨g,1,none⟩ y).setCell ⟨g,2,none⟩ z).setCell ⟨g,3,none⟩ u):=by
 have h4:=(((hA.set (i:=0) (by omega) x).set (i:=1) (by omega) y).set (i:=2) (by omega) z).set (i:=3) (by omega) u;refine zmQ h hd g hp ht (fun j v' hj => ?_) hR;match j,hj with
 | 0,hj=>rw [←hj];exact(h4 0 (by omega)).1
 | 1,hj=>rw [←hj];exact(h4 1 (by omega)).1
 | 2,hj=>rw [←hj];exact(h4 2 (by omega)).1
 | 3,hj=>rw [←hj];exact(h4 3 (by omega)).1
 | k+4,hj=>simp at hj
theorem zcs{w w':World}{l:List UInt8}{c:Int}(h:refE l=c)(hc:c≠0)(hB:Below w.heap.size w w'):zpO w l (.returned (.tuple #[.agg #[.bool false,.slice none 0 0,.bool false,.slice none 0 0],.int .i64 c])) w':=
 ⟨_,by rw [h],⟨_,_,_,_,_,_,_,_,rfl⟩,fun e=>absurd (h ▸ e) hc,hB⟩
def BoxL(w:World)(g:Nat)(xs:List Value):Prop:=g<w.heap.size∧∀j v,xs[j]? = some v→w.cell? ⟨g,j,none⟩=some v
theorem BoxL.below{w w':World}{g:Nat}{xs:List Value}(h:BoxL w g xs)(hb:Below w.heap.size w w'):BoxL w' g xs:=⟨Nat.lt_of_lt_of_le h.1 hb.size,fun j v hj=>(hb.cell (p:=⟨g,j,none⟩) h.1).trans (h.2 j v hj)⟩
theorem zdK(w:World)(xs:List Value)(t:TypeId):BoxL (w.alloc (.cells xs.toArray t)) w.heap.size xs:=⟨by simp,fun j v hj=>by
 rw [World.cell?_alloc_new,←hj];simp⟩
theorem zpp{l:List UInt8}(h:zbQ (zaz l)=none):zck l=none:=by
 unfold zck;unfold zaz at h;split
 ·rename_i hs;rw [if_pos hs]at h;rw [h]
 ·rename_i hs;rw [if_neg hs]at h;rw [h]
theorem zme{l:List UInt8}{z:Int}(h:zbQ (zaz l)=some z)(hs:¬zas l<l.length):zck l=some (z:Rat):=by
 unfold zck;unfold zaz at h;rw [if_neg hs]at h ⊢;rw [h]
theorem zha{b:List UInt8}(h:zbv b=true):zci b=false:=by
 cases b with
 | nil=>rfl
 | cons c r=>
  have:=zbY h;simp only [List.all_cons,Bool.and_eq_true]at this;have h1:=of_decide_eq_true this.1;rw [zd4,beq_eq_false_iff_ne];rintro rfl;have:(45:UInt8).toNat=45:=rfl;omega
theorem zh8{b:List UInt8}(h:zbv b=true):zbQ b=some (zae b:Int):=by
 unfold zbQ;rw [zha h,zgi (zha h),h];rfl
theorem zpo{b:List UInt8}{z:Int}(h:zbQ b=some z)(h2:2≤z):zbv b=true∧(zae b:Int)=z:=by
 have hz:zci b=false:=by
  cases hn:zci b with
  | false=>rfl
  | true=>
   unfold zbQ at h;split at h
   ·cases h
    rw [hn]at h2;have:(-(zae (zaN b):Int))=sgn true (zae (zaN b)):=rfl;omega
   ·cases h
 unfold zbQ at h;rw [hz,zgi hz]at h;split at h
 ·rename_i hc
  cases h
  simp only [Bool.false_and,Bool.not_false,Bool.and_true]at hc;exact⟨hc,rfl⟩
 ·cases h
theorem zmf{l:List UInt8}{z:Int}(h:zbQ (zaz l)=some z)(hs:zas l<l.length) :
  (∀d:Int,zbQ (zaF l)=some d→2≤d→Nat.gcd z.natAbs d.natAbs=1→∃q,zck l=some q∧q.num=z∧(q.den:Int)=d)∧(zbQ (zaF l)=none→zck l=none)∧(∀d:Int,zbQ (zaF l)=some d→¬(2≤d∧Nat.gcd z.natAbs d.natAbs=1)→zck l=none):=by
 have e:zck l=if(zbv (zaF l) && decide (2≤zae (zaF l)) && decide (Nat.gcd z.natAbs (zae (zaF l))=1))=true then some ((z:Rat)/(zae (zaF l):Rat))else none:=by
  unfold zck;have ht:l.take (zas l)=zaz l:=by unfold zaz;rw [if_pos hs]
  have hb:l.drop (zas l+1)=zaF l:=by unfold zaF;rw [if_pos hs]
  rw [if_pos hs,ht,hb,h]
 refine⟨fun d hd h2 hg => ?_,fun hb => ?_,fun d hd hno => ?_⟩
 ·obtain⟨hc,rfl⟩:=zpo hd h2;rw [Int.natAbs_natCast]at hg;have h2':2≤zae (zaF l):=by omega
  rw [hc,decide_eq_true h2',Bool.true_and,Bool.true_and,if_pos (decide_eq_true hg)]at e;have hp:=zfC (z:=z) (d:=zae (zaF l)) (by omega) hg;exact⟨_,e,hp.1,by rw [hp.2]⟩
 ·rw [e,if_neg];intro hh;simp only [Bool.and_eq_true]at hh;rw [zh8 hh.1.1]at hb
  cases hb
 ·rw [e,if_neg];intro hh;simp only [Bool.and_eq_true]at hh;have hc:=zh8 hh.1.1;rw [hd]at hc
  cases hc
  refine hno ⟨?_,?_⟩
  ·have:=of_decide_eq_true hh.1.2;omega
  ·rw [Int.natAbs_natCast];exact of_decide_eq_true hh.2
theorem zoB{d:Int}(h:2≤d):decide ((d-2).sign<0)=false:=by
 apply decide_eq_false
 rcases Int.lt_or_eq_of_le h with h|h
 ·rw [Int.sign_eq_one_of_pos (by omega)];decide
 ·rw [show d-2=0 by omega];decide
theorem zmD{b:List UInt8}{z:Int}(h:zbQ b=some z)(hb:b.length≤41000):z.natAbs<B^5000:=by
 unfold zbQ at h;split at h
 ·rename_i hc
  cases h
  rw [zbw];simp only [Bool.and_eq_true]at hc;refine zaY 5000 (zf3 (k:=4556) (zbY hc.1) ?_) (by decide);have:(zaN b).length≤b.length:=by
   unfold zaN Lib.trimPrefix;split
   ·rw [List.length_drop];omega
   ·exact Nat.le_refl _
  omega
 ·cases h
theorem zmd{a':Act}{T:List Value}{lo hi:Nat}(hlh:lo≤hi)(h0:a'.defers = [])(h1:a'.tmps.toList.take lo=T.take lo)(h2:a'.tmps.toList.drop hi=T.drop hi)(hs:hi≤a'.tmps.size) :
  ∃ys:List Value,ys.length=hi-lo∧a'={tmps:=(T.take lo ++ ys ++ T.drop hi).toArray,defers:=[]}:=by
 refine⟨(a'.tmps.toList.drop lo).take (hi-lo),by rw [List.length_take,List.length_drop,Array.length_toList];omega,?_⟩;obtain⟨tm,df⟩:=a';simp only at *;rw [h0];congr 1
 apply Array.toList_inj.1
 show tm.toList=T.take lo ++ (tm.toList.drop lo).take (hi-lo) ++ T.drop hi
 have e1:tm.toList=tm.toList.take lo ++ tm.toList.drop lo:=(List.take_append_drop _ _).symm;have e2:tm.toList.drop lo=(tm.toList.drop lo).take (hi-lo) ++ (tm.toList.drop lo).drop (hi-lo):=(List.take_append_drop _ _).symm;have e3:(tm.toList.drop lo).drop (hi-lo)=T.drop hi:=by rw [List.drop_drop,show lo+(hi-lo)=hi by omega,h2]
 rw [e3]at e2;rw [←h1,List.append_assoc,←e2,←e1]
theorem zm4{l:List Value}(h:l.length=16):∃a b c d e f g i j k m n o p q r:Value,l = [a,b,c,d,e,f,g,i,j,k,m,n,o,p,q,r]:=by
 match l,h with
 | [a,b,c,d,e,f,g,i,j,k,m,n,o,p,q,r],_=>exact⟨a,b,c,d,e,f,g,i,j,k,m,n,o,p,q,r,rfl⟩
def Held(T:List Value)(lo hi:Nat)(R:Value→World→Prop)(at':Nat)(a':Act)(w':World):Prop:=
 a'.defers = []∧a'.tmps.toList.take lo=T.take lo∧a'.tmps.toList.drop hi=T.drop hi∧hi≤a'.tmps.size∧R (a'.tmps.getD at' undef) w'
theorem zeh{F:Fence}{n:Nat}{P:Program}{c:Code}{Q:Exit→Act→World→Prop}{T:List Value}{w:World}(lo hi at':Nat)(R:Value→World→Prop)(hlh:lo≤hi)
  (reg:c.wpIn F n P (zr5 (Held T lo hi R at')) {tmps:=T.toArray,defers:=[]} w)
  (rest:∀ys w',ys.length=hi-lo→R ((T.take lo ++ ys ++ T.drop hi).toArray.getD at' undef) w'→Q .normal {tmps:=(T.take lo ++ ys ++ T.drop hi).toArray,defers:=[]} w') :
  c.wpIn F n P Q {tmps:=T.toArray,defers:=[]} w:=
 zdY _ (fun a' w' ⟨h0,h1,h2,h3,h4⟩=>by
  obtain⟨ys,hy,e⟩:=zmd hlh h0 h1 h2 h3;rw [e]at h4 ⊢;exact rest ys w' hy h4) reg
theorem zob:(2:Int).natAbs<B^50000:=zaY 50000 (show 2<B^1 by decide) (by decide)
theorem zqK:(1:Int).natAbs<B^50000:=zaY 50000 (show 1<B^1 by decide) (by decide)
theorem zdq.set{w W:World}{g g6:Nat}(h:zdq w W g)(hne:g<g6){i:Nat}{u:Value}:zdq w (W.setCell ⟨g6,i,none⟩ u) g:=by
 obtain⟨f,hf⟩:=h.res;exact⟨⟨f,fun j hj=>⟨(World.cell?_setCell_other _ _ _ _ (by intro e;injection e with e _ _;omega)).trans (hf j hj).1,by rw [World.frozen?_setCell];exact(hf j hj).2⟩⟩,h.el.setCell _ _,h.below.setCell (by have:=h.le;show _≤g6;omega) _,h.le⟩
theorem NatI.set4{w:World}{v:Value}{n g:Nat}{x y z u:Value}(h:NatI w v n)(hE:Elem w g 62):NatI ((((w.setCell ⟨g,0,none⟩ x).setCell ⟨g,1,none⟩ y).setCell ⟨g,2,none⟩ z).setCell ⟨g,3,none⟩ u) v n:=
 (((h.setElem hE (by decide)).setElem (hE.setCell _ _) (by decide)).setElem ((hE.setCell _ _).setCell _ _) (by decide)).setElem (((hE.setCell _ _).setCell _ _).setCell _ _) (by decide)
theorem zq2{w:World}{g:Nat}{z d:Int}{q:Rat}{s1 s3:Bool}{v1 v3:Value}{x0 x1 x2 x3:Value}(hz:ZAt w (.agg #[.bool s1,v1]) z)(hd:ZAt w (.agg #[.bool s3,v3]) d)(hE:Elem w g 62)(hn:q.num=z)(hqd:(q.den:Int)=d)(h2:2≤d) :
  QAt ((((w.setCell ⟨g,0,none⟩ x0).setCell ⟨g,1,none⟩ x1).setCell ⟨g,2,none⟩ x2).setCell ⟨g,3,none⟩ x3) (.agg #[.bool s1,v1,.bool s3,v3]) q:=by
 obtain⟨m1,hm1,hn1⟩:=hz;obtain⟨m2,hm2,hn2⟩:=hd;have a1:s1=decide (z<0)∧v1=m1:=by simpa using hm1
 have a2:s3=decide (d<0)∧v3=m2:=by simpa using hm2
 have hs3:decide (d<0)=false:=decide_eq_false (by omega);refine⟨m1,m2,by rw [a1.1,a1.2,a2.1,a2.2,hs3,hn],by rw [hn];exact hn1.set4 hE,?_⟩;have e:q.den=d.natAbs:=by omega
 rw [e];exact hn2.set4 hE
def zf9:Value→Nat
 | .int _ n=>n.toNat
 | _=>0
theorem zg1(w:World)(s:ByteArray)(l:List UInt8)(hl:s.data.toList=l) :
  CallsIn Fence.wide 0 Tryz.prog 97 #[.string s] w (zpO w l):=by
 have hsz:s.size=l.length:=by rw [Lib.size_eq,hl]
 have HSL:=zHi hl;obtain⟨n,hnl⟩:∃n,l.length=n:=⟨_,rfl⟩;rw [hnl]at hsz;have HN:=zHi hnl;refine callsIn_of_wp Tryz.func97 rfl trivial ?_ rfl;simp only [Tryz.ntmps97,zsj,zsk,zsl,Nat.reduceAdd,Nat.reduceSub,zsm,zsn,zso,zsp,zsq,zsr];clear hl hnl;by_cases hlong:41000<n
 ·have hlong':decide ((n:Int)>41000)=true:=decide_eq_true (by omega);have HE:=zHi (zoT (l:=l) (by rw [HN.out];exact hlong));gi_wp2;refine zkR rfl rfl rfl rfl ?_;exact zcs HE.out (by decide) (zaa _ _)
 ·have hlong':decide ((n:Int)>41000)=false:=decide_eq_false (by omega);have HNL:Hid (¬41000<l.length):=zHi (by rw [HN.out];exact hlong);obtain⟨a,hal⟩:∃a,zas l=a:=⟨_,rfl⟩;have HAL:=zHi hal;have han:a≤n:=by have:=zmK l;rw [hal,HN.out]at this;exact this
  clear hal;gi_wp2;obtain⟨W,hW⟩:∃W,W=w.alloc (.cells #[.bool false,.slice none 0 0,.bool false,.slice none 0 0] 62):=⟨_,rfl⟩;rw [←hW];have HFK:Hid (zdq w W w.heap.size):=zHi (by rw [hW];exact zg6 _ _ _ _ _);obtain⟨g,hg⟩:∃g,w.heap.size=g:=⟨_,rfl⟩;rw [hg]at HFK;rw [hg];clear hW hg;gi_loopw [4,5] (fun x4 x5 wr=>∃(i t:Nat),x4 = .int .i64 (t:Int)∧x5 = .int .i64 (i:Int)∧i≤n∧t≤n∧Hid (t=if a<i then a else n)∧wr=W) (fun _ v _=>n-zf9 v)
  case atStart=>exact⟨0,n,rfl,rfl,by omega,by omega,zHi (by rw [if_neg (by omega)]),rfl⟩
  case round=>
   obtain⟨i,t,rfl,rfl,hi,ht,HT,rfl⟩:=hrel;by_cases hin:i<n
   ·have his:i<s.size:=by omega
    obtain⟨c,hc⟩:∃c,s[i].toNat=c:=⟨_,rfl⟩;by_cases hia:i=a
    ·have hc47:c=47:=by
      have h1:=zjP l (by rw [HAL.out,HN.out];omega);rw [HAL.out,←hia,←HSL.out,byte_at s his]at h1;have:s[i]=47:=Option.some.inj h1;rw [←hc,this];rfl
     have htn:t=n:=by rw [HT.out,if_neg (by omega)]
     subst htn;have HIA:=zHi hia;clear hia;gi_wp2_with (exfalso;exact zam (by assumption))
     refine⟨⟨i+1,i,rfl,by go_num,by omega,by omega,zHi (by have:=HIA.out;rw [if_pos (by omega)];exact this),trivial⟩,by simp only [zf9];omega⟩
    ·by_cases hla:i<a
     ·have hc47:((c:Int) == 47)=false:=by
       apply beq_false_of_ne
       intro e;have h1:=zgX l (i:=i) (by rw [HAL.out];exact hla);rw [←HSL.out,byte_at s his]at h1;exact h1 (by rw [show s[i]=47 from UInt8.toNat_inj.1 (by rw [hc];have:(47:UInt8).toNat=47:=rfl;omega)])
      have HLA:=zHi hla;clear hia hla;gi_wp2_with (exfalso;exact zam (by assumption))
      refine⟨⟨i+1,t,rfl,by go_num,by omega,ht,zHi (by have:=HLA.out;have:=HT.out;rw [if_neg (by omega)]at this ⊢;exact this),trivial⟩,by simp only [zf9];omega⟩
     ·have htn:((t:Int) == (n:Int))=false:=by
       apply beq_false_of_ne
       have:=HT.out;rw [if_pos (by omega)]at this;omega
      have HLA:Hid (a<i):=zHi (by omega);clear hia hla;by_cases hc47:c=47
      ·gi_wp2_with (exfalso;exact zam (by assumption))
       refine⟨⟨i+1,t,rfl,by go_num,by omega,ht,zHi (by have:=HLA.out;have:=HT.out;rw [if_pos (by omega)]at this ⊢;exact this),trivial⟩,by simp only [zf9];omega⟩
      ·have hc47':((c:Int) == 47)=false:=by
        apply beq_false_of_ne
        omega
       gi_wp2_with (exfalso;exact zam (by assumption))
       refine⟨⟨i+1,t,rfl,by go_num,by omega,ht,zHi (by have:=HLA.out;have:=HT.out;rw [if_pos (by omega)]at this ⊢;exact this),trivial⟩,by simp only [zf9];omega⟩
   ·have hin2:i=n:=by omega
    subst hin2;have hta:t=a:=by have:=HT.out;split at this <;> omega
    subst hta;gi_wp2_with (gi_at_call 162;refine stop ?_)
    unfold Stop;have hx:(s.extract 0 t).data.toList=zaz l:=by
     rw [zkh (l:=l) (m:=i) (by rw [HSL.out,←HN.out,List.take_length]) (by omega)];unfold zaz;rw [HAL.out,HN.out];split
     ·rfl
     ·rw [List.take_of_length_le (by rw [HN.out];omega)]
    refine(zg0 wr (s.extract 0 t) (zaz l) hx (by have:=zcC l;rw [HN.out]at this;omega)).mono ?_;rintro e w2 ⟨v2,rfl,⟨s1,m1,rfl,o1,k1,c1,rfl⟩,hz,hB⟩;replace HFK:=zHi (HFK.out.step hB);obtain⟨f,hf⟩:=HFK.out.res;have HAr:=zHi (hf.alloc HFK.out.el.lt (Obj.cells #[.bool s1,.slice o1 k1 c1] 60));have hle:=HFK.out.le;clear hf hB hx
    cases hfz:zbQ (zaz l)with
    | none=>
     have HE:=zHi (zgf HNL.out (zpp hfz));simp only [Option.isSome_none];have z0:=(HAr.out 0 (by omega)).1;have z1:=(HAr.out 1 (by omega)).1;have z2:=(HAr.out 2 (by omega)).1;have z3:=(HAr.out 3 (by omega)).1;have y0:=(HAr.out 0 (by omega)).2;have y1:=(HAr.out 1 (by omega)).2;have y2:=(HAr.out 2 (by omega)).2;have y3:=(HAr.out 3 (by omega)).2;clear hz hfz;gi_wp2;refine zby rfl rfl g rfl rfl HAr.out ?_;have hsz2:=HFK.out.below.size;exact zcs HE.out (by decide) (((((HFK.out.below.alloc hsz2 _).setCell hle _).setCell hle _).setCell hle _).setCell hle _)
    | some z=>
     have HZ:=zHi (hz z hfz);have HFZ:=zHi hfz;simp only [Option.isSome_some];clear hz hfz HAr;gi_wp2_with (gi_at_call 30;refine stop ?_)
     unfold Stop;obtain⟨W3,hW3⟩:∃W,W=w2.alloc (Obj.cells #[.bool s1,.slice o1 k1 c1] 60):=⟨_,rfl⟩;rw [←hW3];have hB3:Below w2.heap.size w2 W3:=by rw [hW3];exact zaa _ _
     have HBX:Hid (BoxL W3 w2.heap.size [.bool s1,.slice o1 k1 c1]):=zHi (by rw [hW3];exact zdK _ _ _);replace HFK:=zHi (HFK.out.step hB3);replace HZ:=zHi (HZ.out.below hB3);obtain⟨g6,hg6⟩:∃g6,w2.heap.size=g6:=⟨_,rfl⟩;rw [hg6]at HBX;rw [hg6];clear hW3 hB3 hg6;refine(zbr W3 _ z HZ.out).mono ?_;rintro e w4 ⟨v4,rfl,hq4,hB⟩;replace HFK:=zHi (HFK.out.step hB);replace HZ:=zHi (HZ.out.below hB);replace HBX:=zHi (HBX.out.below hB);have HQQ:=zHi hq4;obtain⟨m1,m2,rfl,hm1,hm2⟩:=hq4;obtain⟨o2,k2,c2,rfl,_,_⟩:=zbf hm1;obtain⟨o3,k3,c3,rfl,_,_⟩:=zbf hm2;obtain⟨s2,hs2⟩:∃s2,decide (((z:Int):Rat).num<0)=s2:=⟨_,rfl⟩;rw [hs2]at HQQ;rw [hs2];clear hm1 hm2 hB hs2;obtain⟨W5,hW5⟩:∃W,W=w4.alloc (Obj.cells #[.bool s2,.slice o2 k2 c2,.bool false,.slice o3 k3 c3] 62):=⟨_,rfl⟩;have hB5:Below w4.heap.size w4 W5:=by rw [hW5];exact zaa _ _
     have HQB:Hid (BoxL W5 w4.heap.size [.bool s2,.slice o2 k2 c2,.bool false,.slice o3 k3 c3]):=zHi (by rw [hW5];exact zdK _ _ _);have HQA:Hid (∃f,zag W5 w4.heap.size 4 f):=zHi (by rw [hW5];exact(zg6 _ _ _ _ _).res);have HQE:Hid (Elem W5 w4.heap.size 62):=zHi (by rw [hW5];exact zaO _ _ _);have hlt4:=HFK.out.el.lt;replace HFK:=zHi (HFK.out.step hB5);replace HZ:=zHi (HZ.out.below hB5);replace HBX:=zHi (HBX.out.below hB5);replace HQQ:=zHi (HQQ.out.below hB5);by_cases hti:t<i
     ·have HSLS:Hid (zas l<l.length):=zHi (by rw [HAL.out,HN.out];exact hti);have HFS:=zHi (zmf HFZ.out HSLS.out);gi_wp2_with (gi_at_call 162;refine stop ?_)
      unfold Stop;rw [←hW5];obtain⟨g8,hg8⟩:∃g8,w4.heap.size=g8:=⟨_,rfl⟩;rw [hg8]at HQB HQA HQE hlt4;rw [hg8];clear hW5 hB5 hg8;have hx2:(s.extract (t+1) i).data.toList=zaF l:=by
       rw [znd (l:=l) (m:=i) (by rw [HSL.out,←HN.out,List.take_length]) hsz,←HN.out,List.take_length];unfold zaF;rw [HAL.out,HN.out,if_pos hti]
      refine(zg0 W5 (s.extract (t+1) i) (zaF l) hx2 (by have:=zcC l;rw [HN.out]at this;omega)).mono ?_;rintro e w6 ⟨v6,rfl,⟨s3,m3,rfl,o4,k4,c4,rfl⟩,hz6,hB⟩;replace HFK:=zHi (HFK.out.step hB);replace HZ:=zHi (HZ.out.below hB);replace HBX:=zHi (HBX.out.below hB);replace HQQ:=zHi (HQQ.out.below hB);replace HQB:=zHi (HQB.out.below hB);replace HQA:Hid (∃f,zag w6 g8 4 f):=zHi (HQA.out.elim fun f hf=>⟨f,hf.below HQE.out.lt hB⟩);replace HQE:=zHi (HQE.out.below hB HQE.out.lt);clear hB hx2;obtain⟨W7,hW7⟩:∃W,W=w6.alloc (Obj.cells #[.bool s3,.slice o4 k4 c4] 60):=⟨_,rfl⟩;have hB7:Below w6.heap.size w6 W7:=by rw [hW7];exact zaa _ _
      have HBY:Hid (BoxL W7 w6.heap.size [.bool s3,.slice o4 k4 c4]):=zHi (by rw [hW7];exact zdK _ _ _);replace HFK:=zHi (HFK.out.step hB7);replace HZ:=zHi (HZ.out.below hB7);replace HBX:=zHi (HBX.out.below hB7);replace HQQ:=zHi (HQQ.out.below hB7);replace HQB:=zHi (HQB.out.below hB7);replace HQA:Hid (∃f,zag W7 g8 4 f):=zHi (HQA.out.elim fun f hf=>⟨f,hf.below HQE.out.lt hB7⟩);replace HQE:=zHi (HQE.out.below hB7 HQE.out.lt)
      cases hf6:zbQ (zaF l)with
      | none=>
       simp only [Option.isSome_none];have HFQ:=zHi (HFS.out.2.1 hf6);have HE:=zHi (zgf HNL.out HFQ.out);clear hz6 hf6;gi_wp2;rw [←hW7];clear hW7 hB7;have d0:=HBX.out.2 0 _ rfl;have d1:=HBX.out.2 1 _ rfl;have e0:=HBY.out.2 0 _ rfl;have e1:=HBY.out.2 1 _ rfl;obtain⟨g9,hg9⟩:∃g9,w6.heap.size=g9:=⟨_,rfl⟩;rw [hg9]at HBY e0 e1;rw [hg9];clear hg9;refine zeh 58 74 73 (fun v w'=>v = .bool true∧Below W7.heap.size W7 w') (by decide) ?reg ?rest
       case reg=>
        gi_region_with (exfalso;exact zam (by assumption))
        all_goals exact⟨rfl,rfl,rfl,Nat.le_of_ble_eq_true rfl,rfl,zab _⟩
       case rest=>
        intro ys w' hy hR;obtain⟨a0,a1,a2,a3,a4,a5,a6,a7,a8,a9,b0,b1,b2,b3,b4,b5,rfl⟩:=zm4 hy;obtain⟨hb5,hB⟩:=hR;have hb5:b5 = .bool true:=hb5;subst hb5;clear hy;simp only [List.take_succ_cons,List.take_zero,List.drop_succ_cons,List.drop_zero,zsr,zsq];have HBr:=zHi hB;replace HFK:=zHi (HFK.out.step HBr.out);obtain⟨fr,hfr⟩:=HFK.out.res;have HAr:=zHi hfr;have z0:=(HAr.out 0 (by omega)).1;have z1:=(HAr.out 1 (by omega)).1;have z2:=(HAr.out 2 (by omega)).1;have z3:=(HAr.out 3 (by omega)).1;have y0:=(HAr.out 0 (by omega)).2;have y1:=(HAr.out 1 (by omega)).2;have y2:=(HAr.out 2 (by omega)).2;have y3:=(HAr.out 3 (by omega)).2;clear hfr hB d0 d1 e0 e1;gi_wp2;refine zby rfl rfl g rfl rfl HAr.out ?_;exact zcs HE.out (by decide) ((((HFK.out.below.setCell hle _).setCell hle _).setCell hle _).setCell hle _)
      | some d=>
       simp only [Option.isSome_some];have HD:=zHi ((hz6 d hf6).below hB7);have HF6:=zHi hf6;clear hz6 hf6;gi_wp2;rw [←hW7];clear hW7 hB7;have d0:=HBX.out.2 0 _ rfl;have d1:=HBX.out.2 1 _ rfl;have e0:=HBY.out.2 0 _ rfl;have e1:=HBY.out.2 1 _ rfl;obtain⟨g9,hg9⟩:∃g9,w6.heap.size=g9:=⟨_,rfl⟩;rw [hg9]at HBY e0 e1;rw [hg9];clear hg9;have HLX:Hid (g6<W7.heap.size):=zHi HBX.out.1;have HLY:Hid (g9<W7.heap.size):=zHi HBY.out.1;have HZL:Hid (z.natAbs<B^5000):=zHi (zmD HFZ.out (by have:=zcC l;rw [HN.out]at this;omega));have HDL5:Hid (d.natAbs<B^5000):=zHi (zmD HF6.out (by have:=zcC l;rw [HN.out]at this;omega));have HDL:Hid (d.natAbs<B^50000):=zHi (zaY 50000 HDL5.out (by decide));have HGL:Hid (((Nat.gcd z.natAbs d.natAbs:Nat):Int).natAbs<B^50000):=zHi (by
        rw [Int.natAbs_natCast];rcases Nat.eq_zero_or_pos d.natAbs with h|h
        ·rw [h,Nat.gcd_zero_right];exact zaY 50000 HZL.out (by decide)
        ·exact Nat.lt_of_le_of_lt (Nat.le_of_dvd h (Nat.gcd_dvd_right _ _)) HDL.out)
       by_cases hd2:2≤d
       ·by_cases hg1:Nat.gcd z.natAbs d.natAbs=1
        ·obtain⟨sg,hsg,hsg0⟩:∃sg,(d-2).sign=sg∧(decide (sg<0))=false:=⟨_,rfl,zoB hd2⟩;have hsg2:(((Nat.gcd z.natAbs d.natAbs:Nat):Int)-1).sign=0:=by rw [hg1];decide
         have HQ:=zHi (HFS.out.1 d HF6.out hd2 hg1);clear hg1;refine zeh 58 74 73 (fun v w'=>v = .bool false∧Below W7.heap.size W7 w') (by decide) ?reg ?rest
         case reg=>
          gi_region_with (first
                | (exfalso;exact zam (by assumption))
                | (gi_at_call 31;(with_reducible refine(zaM W7.drew 2 (by decide) (by decide)).mono ?_);rintro e x1 ⟨va,rfl,hva,hB⟩;have HVA:=zHi hva;have HBk:=zHi ((zab W7).trans (hB.mono (zab W7).size));have e0:=(HBY.out.below HBk.out).2 0 _ rfl;have e1:=(HBY.out.below HBk.out).2 1 _ rfl;have d0:=(HBX.out.below HBk.out).2 0 _ rfl;have d1:=(HBX.out.below HBk.out).2 1 _ rfl;clear hva hB)
                | (gi_at_call 99;(with_reducible refine(zcI x1 _ va d 2 (HD.out.below HBk.out) HVA.out HDL.out zob).mono ?_);rintro e x2 ⟨rfl,hB⟩;have HBk:=zHi (HBk.out.trans (hB.mono HBk.out.size));have e0:=(HBY.out.below HBk.out).2 0 _ rfl;have e1:=(HBY.out.below HBk.out).2 1 _ rfl;have d0:=(HBX.out.below HBk.out).2 0 _ rfl;have d1:=(HBX.out.below HBk.out).2 1 _ rfl;rw [hsg];clear hB)
                | (gi_at_call 156;(with_reducible refine(zgv x2 _ _ z d (HZ.out.below HBk.out) (HD.out.below HBk.out) (zaY 100000 HZL.out (by decide)) (zaY 100000 HDL.out (by decide))).mono ?_);rintro e x3 ⟨vg,rfl,hvg,hB⟩;have HVG:=zHi hvg;have HBk:=zHi (HBk.out.trans (hB.mono HBk.out.size));have e0:=(HBY.out.below HBk.out).2 0 _ rfl;have e1:=(HBY.out.below HBk.out).2 1 _ rfl;have d0:=(HBX.out.below HBk.out).2 0 _ rfl;have d1:=(HBX.out.below HBk.out).2 1 _ rfl;clear hvg hB)
                | (gi_at_call 31;(with_reducible refine(zaM x3 1 (by decide) (by decide)).mono ?_);rintro e x4 ⟨vo,rfl,hvo,hB⟩;have HVO:=zHi hvo;have HVG:=zHi (HVG.out.below hB);have HBk:=zHi (HBk.out.trans (hB.mono HBk.out.size));have e0:=(HBY.out.below HBk.out).2 0 _ rfl;have e1:=(HBY.out.below HBk.out).2 1 _ rfl;have d0:=(HBX.out.below HBk.out).2 0 _ rfl;have d1:=(HBX.out.below HBk.out).2 1 _ rfl;clear hvo hB)
                | (gi_at_call 99;(with_reducible refine(zcI x4 vg vo _ 1 HVG.out HVO.out HGL.out zqK).mono ?_);rintro e x5 ⟨rfl,hB⟩;have HBk:=zHi (HBk.out.trans (hB.mono HBk.out.size));have e0:=(HBY.out.below HBk.out).2 0 _ rfl;have e1:=(HBY.out.below HBk.out).2 1 _ rfl;have d0:=(HBX.out.below HBk.out).2 0 _ rfl;have d1:=(HBX.out.below HBk.out).2 1 _ rfl;rw [hsg2];clear hB))
          all_goals exact⟨rfl,rfl,rfl,Nat.le_of_ble_eq_true rfl,rfl,HBk.out⟩
         case rest=>
          intro ys w' hy hR;obtain⟨a0,a1,a2,a3,a4,a5,a6,a7,a8,a9,b0,b1,b2,b3,b4,b5,rfl⟩:=zm4 hy;obtain⟨hb5,hB⟩:=hR;have hb5:b5 = .bool false:=hb5;subst hb5;clear hy;simp only [List.take_succ_cons,List.take_zero,List.drop_succ_cons,List.drop_zero,zsr,zsq];have HBr:=zHi hB;replace HFK:=zHi (HFK.out.step HBr.out);replace HZ:=zHi (HZ.out.below HBr.out);replace HD:=zHi (HD.out.below HBr.out);replace HBX:=zHi (HBX.out.below HBr.out);replace HBY:=zHi (HBY.out.below HBr.out);replace HQA:Hid (∃f,zag w' g8 4 f):=zHi (HQA.out.elim fun f hf=>⟨f,hf.below HQE.out.lt HBr.out⟩);replace HQE:=zHi (HQE.out.below HBr.out HQE.out.lt);obtain⟨q,hq,hqn,hqd⟩:=HQ.out;have HFQ:=zHi hq;obtain⟨f8,hf8⟩:=HQA.out;have HF8:=zHi hf8;have u0:=(hf8 0 (by omega)).1;have u1:=(hf8 1 (by omega)).1;have u2:=(hf8 2 (by omega)).1;have u3:=(hf8 3 (by omega)).1;have t0:=(hf8 0 (by omega)).2;have t1:=(hf8 1 (by omega)).2;have t2:=(hf8 2 (by omega)).2;have t3:=(hf8 3 (by omega)).2;replace d0:=HBX.out.2 0 _ rfl;replace d1:=HBX.out.2 1 _ rfl;replace e0:=HBY.out.2 0 _ rfl;replace e1:=HBY.out.2 1 _ rfl;have HQN:=zHi hqn;have HQD:=zHi hqd;have HD2:=zHi hd2;clear hq hqn hqd hf8 hB hsg hsg0 hsg2 hd2;gi_wp2_with (gi_at_call 37;refine stop ?_)
          unfold Stop;obtain⟨W8,hW8⟩:∃W,W=(((w'.setCell ⟨g8,0,none⟩ (.bool s1)).setCell ⟨g8,1,none⟩ (.slice o1 k1 c1)).setCell ⟨g8,2,none⟩ (.bool s3)).setCell ⟨g8,3,none⟩ (.slice o4 k4 c4):=⟨_,rfl⟩;rw [←hW8];have hA8:=(((HF8.out.set (i:=0) (by omega) (.bool s1)).set (i:=1) (by omega) (.slice o1 k1 c1)).set (i:=2) (by omega) (.bool s3)).set (i:=3) (by omega) (.slice o4 k4 c4);rw [←hW8]at hA8;replace HQB:Hid (BoxL W8 g8 [.bool s1,.slice o1 k1 c1,.bool s3,.slice o4 k4 c4]):=zHi ⟨World.block_lt_of_cell? _ _ (hA8 0 (by omega)).1,fun j v hj=>by
           match j,hj with
           | 0,hj=>rw [←hj];exact(hA8 0 (by omega)).1
           | 1,hj=>rw [←hj];exact(hA8 1 (by omega)).1
           | 2,hj=>rw [←hj];exact(hA8 2 (by omega)).1
           | 3,hj=>rw [←hj];exact(hA8 3 (by omega)).1
           | k+4,hj=>simp at hj⟩
          replace HFK:Hid (zdq w W8 g):=zHi (by rw [hW8];exact(((HFK.out.set hlt4).set hlt4).set hlt4).set hlt4);replace HQQ:Hid (QAt W8 (.agg #[.bool s1,.slice o1 k1 c1,.bool s3,.slice o4 k4 c4]) q):=zHi (by
           rw [hW8];exact zq2 HZ.out HD.out HQE.out HQN.out HQD.out HD2.out)
          clear hW8 hA8;refine(zeL W8 _ q 20000 HQQ.out).mono ?_;rintro e w9 ⟨rfl,hB⟩;replace HFK:=zHi (HFK.out.step hB);replace HQQ:=zHi (HQQ.out.below hB);replace HQB:=zHi (HQB.out.below hB);clear hB d0 d1 e0 e1 u0 u1 u2 u3 t0 t1 t2 t3;obtain⟨f9,hf9⟩:=HFK.out.res;have HAr:=zHi hf9;clear hf9
          cases hsm:zaU q 20000 with
          | false=>
           have HE:=zHi (zge HNL.out HFQ.out);rw [hsm]at HE;have z0:=(HAr.out 0 (by omega)).1;have z1:=(HAr.out 1 (by omega)).1;have z2:=(HAr.out 2 (by omega)).1;have z3:=(HAr.out 3 (by omega)).1;have y0:=(HAr.out 0 (by omega)).2;have y1:=(HAr.out 1 (by omega)).2;have y2:=(HAr.out 2 (by omega)).2;have y3:=(HAr.out 3 (by omega)).2;clear hsm;gi_wp2;refine zby rfl rfl g rfl rfl HAr.out ?_;exact zcs HE.out (by decide) ((((HFK.out.below.setCell hle _).setCell hle _).setCell hle _).setCell hle _)
          | true=>
           have HE:=zHi (zge HNL.out HFQ.out);rw [hsm]at HE;have z0:=(HAr.out 0 (by omega)).1;have z1:=(HAr.out 1 (by omega)).1;have z2:=(HAr.out 2 (by omega)).1;have z3:=(HAr.out 3 (by omega)).1;have y0:=(HAr.out 0 (by omega)).2;have y1:=(HAr.out 1 (by omega)).2;have y2:=(HAr.out 2 (by omega)).2;have y3:=(HAr.out 3 (by omega)).2;have d0:=HQB.out.2 0 _ rfl;have d1:=HQB.out.2 1 _ rfl;have d2:=HQB.out.2 2 _ rfl;have d3:=HQB.out.2 3 _ rfl;have HEl:=zHi HFK.out.el;clear hsm;gi_wp2;refine zby rfl rfl g rfl rfl HAr.out ?_;refine⟨_,by rw [HE.out];rfl,⟨_,_,_,_,_,_,_,_,rfl⟩,fun _=>⟨q,HFQ.out,?_⟩,(((HFK.out.below.setCell hle _).setCell hle _).setCell hle _).setCell hle _⟩;obtain⟨m1,m2,e,h1,h2⟩:=HQQ.out;exact⟨m1,m2,e,(((h1.setElem HEl.out (by decide)).setElem (HEl.out.setCell _ _) (by decide)).setElem ((HEl.out.setCell _ _).setCell _ _) (by decide)).setElem (((HEl.out.setCell _ _).setCell _ _).setCell _ _) (by decide),(((h2.setElem HEl.out (by decide)).setElem (HEl.out.setCell _ _) (by decide)).setElem ((HEl.out.setCell _ _).setCell _ _) (by decide)).setElem (((HEl.out.setCell _ _).setCell _ _).setCell _ _) (by decide)⟩
        ·obtain⟨sg,hsg,hsg0⟩:∃sg,(d-2).sign=sg∧(decide (sg<0))=false:=⟨_,rfl,zoB hd2⟩;obtain⟨sq,hsg2,hsq⟩:∃sq,(((Nat.gcd z.natAbs d.natAbs:Nat):Int)-1).sign=sq∧(sq != 0)=true:=⟨_,rfl,by
          rw [bne_iff_ne];intro e;have:=Int.sign_eq_zero_iff_zero.1 e;omega⟩
         have HFQ:=zHi (HFS.out.2.2 d HF6.out (fun h=>hg1 h.2));have HE:=zHi (zgf HNL.out HFQ.out);clear hd2 hg1;refine zeh 58 74 73 (fun v w'=>v = .bool true∧Below W7.heap.size W7 w') (by decide) ?reg ?rest
         case reg=>
          gi_region_with (first
                | (exfalso;exact zam (by assumption))
                | (gi_at_call 31;(with_reducible refine(zaM W7.drew 2 (by decide) (by decide)).mono ?_);rintro e x1 ⟨va,rfl,hva,hB⟩;have HVA:=zHi hva;have HBk:=zHi ((zab W7).trans (hB.mono (zab W7).size));have e0:=(HBY.out.below HBk.out).2 0 _ rfl;have e1:=(HBY.out.below HBk.out).2 1 _ rfl;have d0:=(HBX.out.below HBk.out).2 0 _ rfl;have d1:=(HBX.out.below HBk.out).2 1 _ rfl;clear hva hB)
                | (gi_at_call 99;(with_reducible refine(zcI x1 _ va d 2 (HD.out.below HBk.out) HVA.out HDL.out zob).mono ?_);rintro e x2 ⟨rfl,hB⟩;have HBk:=zHi (HBk.out.trans (hB.mono HBk.out.size));have e0:=(HBY.out.below HBk.out).2 0 _ rfl;have e1:=(HBY.out.below HBk.out).2 1 _ rfl;have d0:=(HBX.out.below HBk.out).2 0 _ rfl;have d1:=(HBX.out.below HBk.out).2 1 _ rfl;rw [hsg];clear hB)
                | (gi_at_call 156;(with_reducible refine(zgv x2 _ _ z d (HZ.out.below HBk.out) (HD.out.below HBk.out) (zaY 100000 HZL.out (by decide)) (zaY 100000 HDL.out (by decide))).mono ?_);rintro e x3 ⟨vg,rfl,hvg,hB⟩;have HVG:=zHi hvg;have HBk:=zHi (HBk.out.trans (hB.mono HBk.out.size));have e0:=(HBY.out.below HBk.out).2 0 _ rfl;have e1:=(HBY.out.below HBk.out).2 1 _ rfl;have d0:=(HBX.out.below HBk.out).2 0 _ rfl;have d1:=(HBX.out.below HBk.out).2 1 _ rfl;clear hvg hB)
                | (gi_at_call 31;(with_reducible refine(zaM x3 1 (by decide) (by decide)).mono ?_);rintro e x4 ⟨vo,rfl,hvo,hB⟩;have HVO:=zHi hvo;have HVG:=zHi (HVG.out.below hB);have HBk:=zHi (HBk.out.trans (hB.mono HBk.out.size));have e0:=(HBY.out.below HBk.out).2 0 _ rfl;have e1:=(HBY.out.below HBk.out).2 1 _ rfl;have d0:=(HBX.out.below HBk.out).2 0 _ rfl;have d1:=(HBX.out.below HBk.out).2 1 _ rfl;clear hvo hB)
                | (gi_at_call 99;(with_reducible refine(zcI x4 vg vo _ 1 HVG.out HVO.out HGL.out zqK).mono ?_);rintro e x5 ⟨rfl,hB⟩;have HBk:=zHi (HBk.out.trans (hB.mono HBk.out.size));have e0:=(HBY.out.below HBk.out).2 0 _ rfl;have e1:=(HBY.out.below HBk.out).2 1 _ rfl;have d0:=(HBX.out.below HBk.out).2 0 _ rfl;have d1:=(HBX.out.below HBk.out).2 1 _ rfl;rw [hsg2];clear hB))
          all_goals exact⟨rfl,rfl,rfl,Nat.le_of_ble_eq_true rfl,rfl,HBk.out⟩
         case rest=>
          intro ys w' hy hR;obtain⟨a0,a1,a2,a3,a4,a5,a6,a7,a8,a9,b0,b1,b2,b3,b4,b5,rfl⟩:=zm4 hy;obtain⟨hb5,hB⟩:=hR;have hb5:b5 = .bool true:=hb5;subst hb5;clear hy;simp only [List.take_succ_cons,List.take_zero,List.drop_succ_cons,List.drop_zero,zsr,zsq];have HBr:=zHi hB;replace HFK:=zHi (HFK.out.step HBr.out);obtain⟨fr,hfr⟩:=HFK.out.res;have HAr:=zHi hfr;have z0:=(HAr.out 0 (by omega)).1;have z1:=(HAr.out 1 (by omega)).1;have z2:=(HAr.out 2 (by omega)).1;have z3:=(HAr.out 3 (by omega)).1;have y0:=(HAr.out 0 (by omega)).2;have y1:=(HAr.out 1 (by omega)).2;have y2:=(HAr.out 2 (by omega)).2;have y3:=(HAr.out 3 (by omega)).2;clear hfr hB d0 d1 e0 e1;gi_wp2;refine zby rfl rfl g rfl rfl HAr.out ?_;exact zcs HE.out (by decide) ((((HFK.out.below.setCell hle _).setCell hle _).setCell hle _).setCell hle _)
       ·have hsg:(d-2).sign = -1:=Int.sign_eq_neg_one_of_neg (by omega);have HFQ:=zHi (HFS.out.2.2 d HF6.out (fun h=>hd2 h.1));have HE:=zHi (zgf HNL.out HFQ.out);clear hd2;refine zeh 58 74 73 (fun v w'=>v = .bool true∧Below W7.heap.size W7 w') (by decide) ?reg ?rest
        case reg=>
         gi_region_with (first
               | (exfalso;exact zam (by assumption))
               | (gi_at_call 31;(with_reducible refine(zaM W7.drew 2 (by decide) (by decide)).mono ?_);rintro e x1 ⟨va,rfl,hva,hB⟩;have HVA:=zHi hva;have HBk:=zHi ((zab W7).trans (hB.mono (zab W7).size));have e0:=(HBY.out.below HBk.out).2 0 _ rfl;have e1:=(HBY.out.below HBk.out).2 1 _ rfl;have d0:=(HBX.out.below HBk.out).2 0 _ rfl;have d1:=(HBX.out.below HBk.out).2 1 _ rfl;clear hva hB)
               | (gi_at_call 99;(with_reducible refine(zcI x1 _ va d 2 (HD.out.below HBk.out) HVA.out HDL.out zob).mono ?_);rintro e x2 ⟨rfl,hB⟩;have HBk:=zHi (HBk.out.trans (hB.mono HBk.out.size));have e0:=(HBY.out.below HBk.out).2 0 _ rfl;have e1:=(HBY.out.below HBk.out).2 1 _ rfl;have d0:=(HBX.out.below HBk.out).2 0 _ rfl;have d1:=(HBX.out.below HBk.out).2 1 _ rfl;rw [hsg];clear hB))
         all_goals exact⟨rfl,rfl,rfl,Nat.le_of_ble_eq_true rfl,rfl,HBk.out⟩
        case rest=>
         intro ys w' hy hR;obtain⟨a0,a1,a2,a3,a4,a5,a6,a7,a8,a9,b0,b1,b2,b3,b4,b5,rfl⟩:=zm4 hy;obtain⟨hb5,hB⟩:=hR;have hb5:b5 = .bool true:=hb5;subst hb5;clear hy;simp only [List.take_succ_cons,List.take_zero,List.drop_succ_cons,List.drop_zero,zsr,zsq];have HBr:=zHi hB;replace HFK:=zHi (HFK.out.step HBr.out);obtain⟨fr,hfr⟩:=HFK.out.res;have HAr:=zHi hfr;have z0:=(HAr.out 0 (by omega)).1;have z1:=(HAr.out 1 (by omega)).1;have z2:=(HAr.out 2 (by omega)).1;have z3:=(HAr.out 3 (by omega)).1;have y0:=(HAr.out 0 (by omega)).2;have y1:=(HAr.out 1 (by omega)).2;have y2:=(HAr.out 2 (by omega)).2;have y3:=(HAr.out 3 (by omega)).2;clear hfr hB d0 d1 e0 e1;gi_wp2;refine zby rfl rfl g rfl rfl HAr.out ?_;exact zcs HE.out (by decide) ((((HFK.out.below.setCell hle _).setCell hle _).setCell hle _).setCell hle _)
     ·have HFQ:=zHi (zme HFZ.out (by rw [HAL.out,HN.out];exact hti));gi_wp2_with (gi_at_call 37;refine stop ?_)
      unfold Stop;rw [←hW5];obtain⟨g8,hg8⟩:∃g8,w4.heap.size=g8:=⟨_,rfl⟩;rw [hg8]at HQB HQA HQE hlt4;rw [hg8];clear hW5 hB5 hg8;obtain⟨q,hqz⟩:∃q:Rat,((z:Int):Rat)=q:=⟨_,rfl⟩;rw [hqz]at HQQ HFQ;refine(zeL W5 _ q 20000 HQQ.out).mono ?_;rintro e w9 ⟨rfl,hB⟩;replace HFK:=zHi (HFK.out.step hB);replace HQQ:=zHi (HQQ.out.below hB);replace HQB:=zHi (HQB.out.below hB);clear hB;obtain⟨f9,hf9⟩:=HFK.out.res;have HAr:=zHi hf9;clear hf9
      cases hsm:zaU q 20000 with
      | false=>
       have HE:=zHi (zge HNL.out HFQ.out);rw [hsm]at HE;have z0:=(HAr.out 0 (by omega)).1;have z1:=(HAr.out 1 (by omega)).1;have z2:=(HAr.out 2 (by omega)).1;have z3:=(HAr.out 3 (by omega)).1;have y0:=(HAr.out 0 (by omega)).2;have y1:=(HAr.out 1 (by omega)).2;have y2:=(HAr.out 2 (by omega)).2;have y3:=(HAr.out 3 (by omega)).2;clear hsm;gi_wp2;refine zby rfl rfl g rfl rfl HAr.out ?_;exact zcs HE.out (by decide) ((((HFK.out.below.setCell hle _).setCell hle _).setCell hle _).setCell hle _)
      | true=>
       have HE:=zHi (zge HNL.out HFQ.out);rw [hsm]at HE;have z0:=(HAr.out 0 (by omega)).1;have z1:=(HAr.out 1 (by omega)).1;have z2:=(HAr.out 2 (by omega)).1;have z3:=(HAr.out 3 (by omega)).1;have y0:=(HAr.out 0 (by omega)).2;have y1:=(HAr.out 1 (by omega)).2;have y2:=(HAr.out 2 (by omega)).2;have y3:=(HAr.out 3 (by omega)).2;have d0:=HQB.out.2 0 _ rfl;have d1:=HQB.out.2 1 _ rfl;have d2:=HQB.out.2 2 _ rfl;have d3:=HQB.out.2 3 _ rfl;have HEl:=zHi HFK.out.el;clear hsm;gi_wp2;refine zby rfl rfl g rfl rfl HAr.out ?_;refine⟨_,by rw [HE.out];rfl,⟨_,_,_,_,_,_,_,_,rfl⟩,fun _=>⟨q,HFQ.out,?_⟩,(((HFK.out.below.setCell hle _).setCell hle _).setCell hle _).setCell hle _⟩;obtain⟨m1,m2,e,h1,h2⟩:=HQQ.out;exact⟨m1,m2,e,(((h1.setElem HEl.out (by decide)).setElem (HEl.out.setCell _ _) (by decide)).setElem ((HEl.out.setCell _ _).setCell _ _) (by decide)).setElem (((HEl.out.setCell _ _).setCell _ _).setCell _ _) (by decide),(((h2.setElem HEl.out (by decide)).setElem (HEl.out.setCell _ _) (by decide)).setElem ((HEl.out.setCell _ _).setCell _ _) (by decide)).setElem (((HEl.out.setCell _ _).setCell _ _).setCell _ _) (by decide)⟩
theorem zgz(q:Rat):zaU q 20000=zbR q:=by
 unfold zaU zbR zdN;congr 1
 split
 ·rename_i h;rw [h,Lib.nDigits_small (by decide),Lib.nDigits_small (by decide)]
 ·rfl
theorem zj8{n:Nat}(k:Nat)(h:Lib.nDigits n≤9*k):n<B^k:=by
 rw [zmA];exact Nat.lt_of_lt_of_le (Lib.lt_pow_nDigits n) (Nat.pow_le_pow_right (by decide) h)
theorem zkb{q:Rat}(h:zbR q=true):zad q 2223:=by
 rw [←zgz]at h;unfold zaU at h;rw [Bool.and_eq_true]at h;have h1:=of_decide_eq_true h.1;have h2:=of_decide_eq_true h.2;exact⟨zj8 2223 (by omega),zj8 2223 (by omega)⟩
theorem zlL(q:Rat):zf5 q=⟨(ziL q).toArray⟩:=by
 unfold zf5 ziL zdg;split <;> rfl
theorem zoj{q:Rat}(h:zbR q=true):(ziL q).length≤41000:=by
 rw [←zgz]at h;unfold zaU at h;rw [Bool.and_eq_true]at h;have h1:=of_decide_eq_true h.1;have h2:=of_decide_eq_true h.2;have hi:(Lib.itoa q.num).length≤20001:=by
  unfold Lib.itoa;split
  ·rw [List.length_cons,Lib.decDigits_length];omega
  ·rename_i hn;rw [Lib.decDigits_length];rw [show q.num.natAbs=q.num.toNat by omega]at h1;omega
 unfold ziL;split
 ·omega
 ·rw [List.length_append,List.length_cons,Lib.decDigits_length];omega
theorem zji{q:Rat}(h:zbR q=true):zhP (ziL q)=0∧zhO (ziL q)=q:=by
 have hp:=zdZ (l:=ziL q) (by have:=zoj h;omega) (znA q);rw [hp.1,hp.2];unfold zpd zkc;rw [if_pos h,if_pos h];exact⟨rfl,rfl⟩
theorem zhJ(w:World)(v:Value)(q:Rat)(h:QAt w v q)(hk:zbR q=true)(hL:Laid w) :
  CallsIn Fence.wide 0 Tryz.prog 40 #[v] w fun e w'=>∃v',e = .returned v'∧zaj w' v' q∧Below w.heap.size w w':=by
 have hT:TI w [zq9 q,zsb (zf5 q),zlb q] [(91,A1 (tg 0),A1 (tg 1)),(102,A1 (tg 1),A2 (tg 2) (vi 0))]:=by
  refine zed ⟨_,Tryz.func91,rfl⟩ (fun w1 v hw hv => ?_) <| zed ⟨_,Tryz.func102,rfl⟩ (fun w1 v hw hv => ?_) zdI
  ·refine(zjt w1 v q hv ((zkb hk).mono (by decide))).mono ?_;rintro e w' ⟨rfl,h2⟩;exact⟨_,rfl,rfl,h2⟩
  ·have hv:v = .string (zf5 q):=hv;subst hv;refine(zkY w1 (zf5 q) (ziL q) (by rw [zlL]) (hL.below hw)).mono ?_;rintro e w' ⟨v',rfl,h1,h2⟩;rw [(zji hk).1];rw [(zji hk).2]at h1;exact⟨_,rfl,pk2 h1 rfl,h2⟩
 refine(zdX zak zac (S:=[shQ,.str,shR]) rfl hT (n:=50) (ts:=A1 (tg 0)) (rs:=A1 (tg 2)) (by kernel_rfl) (xs:=#[v]) (ps1 h)).mono ?_;rintro e w' ⟨x,rfl,hx,hB⟩;exact⟨x,rfl,hx,hB⟩
theorem u63:Tryz.prog.underlying 54=some (.slice 62):=by kernel_rfl
theorem u64:Tryz.prog.underlying 49=some (.slice 27):=by kernel_rfl
theorem i34:Tryz.prog.info? 62=some Tryz.t62:=by kernel_rfl
theorem i34z:Tryz.t62.zero=some (.agg #[.bool false,.slice none 0 0,.bool false,.slice none 0 0]):=by kernel_rfl
theorem i34s:Tryz.t62.size=4:=by kernel_rfl
theorem i34b:Tryz.t62.bytes=64:=by kernel_rfl
theorem i25':Tryz.prog.info? 27=some Tryz.t27:=by kernel_rfl
theorem i25z:Tryz.t27.zero=some (.agg #[.bool false,.slice none 0 0,.slice none 0 0]):=by kernel_rfl
theorem i25s:Tryz.t27.size=3:=by kernel_rfl
theorem i25b:Tryz.t27.bytes=56:=by kernel_rfl
def Touch(ty:TypeId)(w w':World):Prop:=w.heap.size≤w'.heap.size∧∀(b:Nat) (cs:Array Value) (e:TypeId) (fz:Nat × Nat),w.heap[b]? = some (Obj.cells cs e fz)→e≠ty→w'.heap[b]? = some (Obj.cells cs e fz)
theorem Touch.of_below{ty:TypeId}{w w':World}(h:Below w.heap.size w w'):Touch ty w w':=⟨h.size,fun b cs e fz q _=>by
 rw [h.block b (Array.getElem?_eq_some_iff.1 q).1];exact q⟩
theorem Touch.kept{ty:TypeId}{w w':World}(h:Touch ty w w')(hty:rs3.contains ty=false):Go.Eng.Kept rs3 w w':=fun b cs e fz q hc=>h.2 b cs e fz q (fun he=>by rw [he,hty]at hc;cases hc)
def zmx{β:Type}(w:World)(ty sz:Nat)(I:β→List Value→World→Prop)(v:Value)(bs:List β):Prop:=
 (bs = []∧∃o c,v = .slice o 0 c)∨∃(a:Addr) (cap:Nat) (xs:List (List Value)),v = .slice (some a) bs.length cap∧0<bs.length∧(bs.length≤cap∧bs.length≤1000000000)∧Elem w a.block ty∧xs.length=bs.length∧(∀r∈xs,r.length=sz) ∧
  (∀(i:Nat) (row:List Value),xs[i]? = some row→∀(j:Nat) (x:Value),row[j]? = some x→w.cell? (a.add (i*sz+j))=some x)∧(∀(i:Nat) (row:List Value) (b:β),xs[i]? = some row→bs[i]? = some b→I b row w)
def OwnR{β:Type}(w:World)(base:Nat)(ty sz:Nat)(I:β→List Value→World→Prop)(v:Value)(bs:List β):Prop:=
 ∃xs:List (List Value),w.ownsRow base ty sz v bs.length xs.flatten∧xs.length=bs.length∧(∀r∈xs,r.length=sz)∧(∀(i:Nat) (row:List Value) (b:β),xs[i]? = some row→bs[i]? = some b→I b row w)
theorem zgL{sz:Nat}:∀{xs:List (List Value)} (_:∀r∈xs,r.length=sz) {i:Nat} {row:List Value} {j:Nat} {x:Value},xs[i]? = some row→row[j]? = some x→xs.flatten[i*sz+j]? = some x
 | [],_,i,_,_,_,h,_=>by simp at h
 | r :: t,hr,0,row,j,x,h,hx=>by
  have h:r=row:=by simpa using h
  subst h;have hj:j<r.length:=(List.getElem?_eq_some_iff.1 hx).1;rw [Nat.zero_mul,Nat.zero_add,List.flatten_cons,List.getElem?_append_left hj];exact hx
 | r :: t,hr,i+1,row,j,x,h,hx=>by
  have h:t[i]? = some row:=by simpa using h
  have hl:=hr r (by simp);rw [List.flatten_cons,List.getElem?_append_right (by rw [hl,Nat.add_mul];omega),hl,show(i+1)*sz+j-sz=i*sz+j by rw [Nat.add_mul];omega];exact zgL (fun q hq=>hr q (by simp [hq])) h hx
theorem OwnR.nil{β:Type}(w:World)(base ty sz:Nat)(I:β→List Value→World→Prop):OwnR w base ty sz I (.slice none 0 0) []:=
 ⟨[],World.ownsRow_nil _ _ _ _,rfl,fun r h=>by simp at h,fun i row b h=>by simp at h⟩
theorem OwnR.row{β:Type}{w:World}{base ty sz:Nat}{I:β→List Value→World→Prop}{v:Value}{bs:List β}(h:OwnR w base ty sz I v bs)(hn:bs.length≤1000000000):zmx w ty sz I v bs:=by
 obtain⟨xs,h1,h2,h3,h4⟩:=h;rcases Nat.eq_zero_or_pos bs.length with h0|h0
 ·left;have hb:bs = []:=List.eq_nil_of_length_eq_zero h0;refine⟨hb,?_⟩;rcases h1.2 with⟨rfl,_⟩|⟨g,cap,cur,rfl,_⟩
  ·exact⟨none,0,rfl⟩
  ·rw [h0];exact⟨_,_,rfl⟩
 ·right;rcases h1.2 with⟨_,e⟩|⟨g,cap,cur,rfl,g1,g2,g3,g4,_⟩
  ·omega
  ·refine⟨⟨g,0,none⟩,cap,xs,rfl,h0,⟨g3,hn⟩,⟨cur,(0,0),g2⟩,h2,h3,fun i row hr j x hx => ?_,h4⟩;exact h1.cells rfl _ _ (zgL h3 hr hx)
theorem OwnR.touch{β:Type}{w w':World}{base ty ty' sz:Nat}{I:β→List Value→World→Prop}{v:Value}{bs:List β}(h:OwnR w base ty sz I v bs)(ht:Touch ty' w w')(hne:ty≠ty')(hI:∀b r,I b r w→I b r w'):OwnR w' base ty sz I v bs:=by
 obtain⟨xs,h1,h2,h3,h4⟩:=h;refine⟨xs,⟨h1.1,?_⟩,h2,h3,fun i row b hr hb=>hI _ _ (h4 i row b hr hb)⟩;rcases h1.2 with e|⟨g,cap,cur,e,g1,g2,g3⟩
 ·exact .inl e
 ·exact .inr ⟨g,cap,cur,e,g1,ht.2 _ _ _ _ g2 hne,g3⟩
theorem OwnR.below{β:Type}{w w':World}{base ty sz:Nat}{I:β→List Value→World→Prop}{v:Value}{bs:List β}(h:OwnR w base ty sz I v bs)(hb:Below w.heap.size w w')(hI:∀b r,I b r w→I b r w'):OwnR w' base ty sz I v bs:=
 h.touch (ty':=ty+1) (.of_below hb) (by omega) hI
theorem OwnR.form{β:Type}{w:World}{base ty sz:Nat}{I:β→List Value→World→Prop}{v:Value}{bs:List β}(h:OwnR w base ty sz I v bs):∃o c,v = .slice o bs.length c:=by
 obtain⟨xs,h1,_⟩:=h;rcases h1.2 with⟨e,h0⟩|⟨g,cap,cur,e,_⟩
 ·exact⟨none,0,by rw [e,h0]⟩
 ·exact⟨_,_,e⟩
theorem zev{β:Type}{F:Fence}{n:Nat}(w wr:World){ops:Array Oper}{rest:List Oper}{o:Oper}{a:CAct}{Q:Exit→CAct→World→Prop}{ty sz t bytes:Nat}{inf:TypeInfo}{z:Value}{I:β→List Value→World→Prop}
  (hg:o.guard=none) (s x:Operand) (hop:o.op=Op.call {callee:=Callee.builtin Builtin.append,args:=#[s,x],argTypes:=#[t,t]})
  (e1:Tryz.prog.underlying t=some (.slice ty)) (e2:Tryz.prog.info? ty=some inf) (e3:inf.zero=some z) (e4:inf.size=sz) (e5:inf.bytes=bytes) (e6:z.cells.size=sz) (e7:0<sz) (e8:bytes≤100)
  (v:Value) (bs:List β) (hs:a.eval s=v) (HO:OwnR wr w.heap.size ty sz I v bs) (b:β) (row:List Value) (tt:TypeId) (hx:a.eval x = .slice (some ⟨wr.heap.size,0,none⟩) 1 1) (hrow:row.length=sz) (h1c:∀u∈row,u.oneCell'=true) (hIb:I b row wr) (hI:∀b r w1 w2,Touch ty w1 w2→I b r w1→I b r w2) (hn:bs.length<500000000)
  (HB:Below w.heap.size w wr)
  (hK:∀v' w',Hid (OwnR w' w.heap.size ty sz I v' (bs ++ [b]))→Hid (Below w.heap.size w w')→Hid (Touch ty wr w')→Hid (∀k,k<wr.heap.size→some k≠v.ownBlock→w'.heap[k]? = wr.heap[k]?)→wpListIn F n Tryz.prog ops Q rest (a.put o.dst v') w') :
  wpListIn F n Tryz.prog ops Q (o :: rest) a (wr.alloc (.cells row.toArray tt)):=by
 have hsz:=HB.size;obtain⟨xs,h1,h2,h3,h4⟩:=HO;refine wpListIn_append_own _ hg s x t hop w.heap.size ty inf z sz bytes e1 e2 e3 e4 e5 e6 e7 v bs.length xs.flatten hs (World.ownsRow.alloc h1 _) ⟨wr.heap.size,0,none⟩ 1 1 row hx (by rw [hrow];omega) (fun j u hu=>by rw [Addr.add_lit,Nat.zero_add,World.cell?_alloc_new];simpa using hu) h1c (by unfold maxLen;omega) (by
  have:(bs.length+1)*bytes≤500000000*100:=Nat.mul_le_mul (by omega) e8;omega) (by simp;omega) ?_
 intro v' w' g1 g2 _;have hT:Touch ty wr w':=by
  refine⟨Nat.le_trans (by simp) g2.size,fun k cs e fz hk hne => ?_⟩;have hlt:k<wr.heap.size:=(Array.getElem?_eq_some_iff.1 hk).1;have hal:(wr.alloc (.cells row.toArray tt)).heap[k]? = wr.heap[k]?:=(zaa wr _).block k hlt;rw [g2.block k (by simp;omega) (fun hk' => ?_),hal]
  ·exact hk
  ·rcases h1.2 with⟨rfl,_⟩|⟨g,cap,cur,rfl,q1,q2,_⟩
   ·cases hk'
   ·have:k=g:=by simpa [Value.ownBlock]using hk'
    subst this;rw [q2]at hk;injection hk with hk;injection hk with _ hk _;exact hne hk.symm
 refine hK v' w' ⟨xs ++ [row],?_,by simp [h2],fun r hr => ?_,fun i r b' hr hb' => ?_⟩ ?_ hT ?_
 ·rw [List.flatten_append,List.length_append];simpa using g1
 ·rcases List.mem_append.1 hr with h|h
  ·exact h3 r h
  ·rw [List.mem_singleton.1 h,hrow]
 ·rcases Nat.lt_or_ge i bs.length with hi|hi
  ·rw [List.getElem?_append_left (by omega)]at hr hb';exact hI _ _ _ _ hT (h4 i r b' hr hb')
  ·rw [List.getElem?_append_right (by omega)]at hr hb';rw [h2]at hr;rcases Nat.eq_zero_or_pos (i-bs.length)with h0|h0
   ·rw [h0]at hr hb';have hr:row=r:=by simpa using hr
    have hb':b=b':=by simpa using hb'
    rw [←hr,←hb'];exact hI _ _ _ _ hT hIb
   ·rw [List.getElem?_eq_none (by simp;omega)]at hr
    cases hr
 ·exact(HB.alloc hsz _).grown g2 (by simp;omega) fun k hk=>zcp h1 hk
 ·intro k hk hne;rw [g2.block k (by simp;omega) hne,(zaa wr _).block k hk]
theorem OwnR.lt{β:Type}{w:World}{base ty sz:Nat}{I:β→List Value→World→Prop}{v:Value}{bs:List β}(h:OwnR w base ty sz I v bs){k:Nat}(hk:v.ownBlock=some k):k<w.heap.size:=by
 obtain⟨xs,h1,_⟩:=h;exact(h1.lt k hk).2
def IQ(q:Rat)(r:List Value)(w:World):Prop:=QAt w (.agg r.toArray) q
def IR(q:Rat)(r:List Value)(w:World):Prop:=zaj w (.agg r.toArray) q
theorem IQ.touch{ty:TypeId}{w w':World}(ht:Touch ty w w')(hty:rs3.contains ty=false):∀q r,IQ q r w→IQ q r w':=fun _ _ h=>QAt.kept h (ht.kept hty)
theorem IR.touch{ty:TypeId}{w w':World}(ht:Touch ty w w')(hty:rs3.contains ty=false):∀q r,IR q r w→IR q r w':=fun _ _ h=>zaj.kept h (ht.kept hty)
theorem IQ.below{w w':World}(h:Below w.heap.size w w'):∀q r,IQ q r w→IQ q r w':=fun _ _ k=>QAt.below k h
theorem IR.below{w w':World}(h:Below w.heap.size w w'):∀q r,IR q r w→IR q r w':=fun _ _ k=>zaj.below k h
abbrev RowQ(w:World)(v:Value)(qs:List Rat):Prop:=zmx w 62 4 IQ v qs
abbrev RowR(w:World)(v:Value)(qs:List Rat):Prop:=zmx w 27 3 IR v qs
def zqR(w:World)(v:Value)(n:Nat)(f:Nat→Value):Prop:=∃o c,v = .slice o n c∧n≤9223372036854775807∧(0<n→∃a:Addr,o=some a∧a.block<w.heap.size∧∀i,i<n→w.cell? (a.add i)=some (f i))
def rq(l:List UInt8):Rat:=if refE (l.take 30)=0 then(zck (l.take 30)).getD 0 else 0
def zc1(s:Nat→ByteArray)(k:Nat):List Rat:=(List.range k).map fun j=>rq (s j).data.toList
theorem zfd(s:Nat→ByteArray)(k:Nat):zc1 s (k+1)=zc1 s k ++ [rq (s k).data.toList]:=by simp [zc1,List.range_succ]
theorem zbT(s:Nat→ByteArray)(k:Nat):(zc1 s k).length=k:=by simp [zc1]
theorem zoM(l:List UInt8):zbR (rq l)=true:=by
 unfold rq;split
 ·rename_i h;unfold refE at h;split at h
  ·cases h
  ·split at h
   ·cases h
   ·rename_i q hq;rw [hq];show zbR q=true
    rw [←zgz]
    cases hs:zaU q 20000 with
    | true=>rfl
    | false=>rw [hs]at h;cases h
 ·unfold zbR zdN;rw [Bool.and_eq_true];exact⟨decide_eq_true (by rw [show(0:Rat).num.natAbs=0 from rfl,Lib.nDigits_small (by decide)];decide),decide_eq_true (by rw [if_pos (show(0:Rat).den=1 from rfl),Lib.nDigits_small (by decide)];decide)⟩
end Go.Num
namespace Go.Eng
open Go.RowKit Go.Num Go.Proofs Go.Proofs.YtepakfjilnpodaaGreatDoor
section
variable {P:Program} {ops:Array Oper} {bs bars r:List Nat} {i:Nat} {a:CAct} {w:World} {Q:CAct→World→Prop} {o:Oper}
end
section
variable {ops:Array Oper} {bs bars r:List Nat} {i:Nat} {a:CAct} {w:World} {Q:CAct→World→Prop} {o:Oper}
end
end Go.Eng
namespace Go.Num
open Go.Eng Go.Shelf Go.RowKit Go.Sort Go.Proofs Go.Proofs.YtepakfjilnpodaaGreatDoor
end Go.Num
namespace Go.Eng
open Go.RowKit
section
variable {P:Program}
end
end Go.Eng
