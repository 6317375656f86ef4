/-
  'Parse' of the program: the fraction of a text. How many digits a natural of the reference has: 'Len', 'Small'.
  Conditions: see each statement.
-/
import Derived.Test.YtepakfjilnpodaaGreatDoorRBAA
import Derived.Test.YtepakfjilnpodaaGreatDoorRBAQ
import Derived.Test.YtepakfjilnpodaaGreatDoorRBAO
import Derived.BigFrameIn
set_option maxRecDepth 100000
set_option maxHeartbeats 8000000
namespace Go.Num
open Go.Eng Go.Shelf Go.RowKit Go.Sort Go.Proofs Go.Proofs.YtepakfjilnpodaaGreatDoor
def zaz(l:List UInt8):List UInt8:=if zas l<l.length then l.take (zas l)else l
def zaF(l:List UInt8):List UInt8:=if zas l<l.length then l.drop (zas l+1)else []
def zbN(l:List UInt8):Bool:=decide (zas l<l.length)
theorem zpw(w:World)(s:ByteArray)(hs:s.size≤100000)(hL:Laid w) :
  CallsIn Fence.wide 0 Tryz.prog 163 #[.string s,.string ⟨#[47]⟩] w fun e w'=>∃t b:ByteArray,e = .returned (.tuple #[.string t,.string b,.bool (zbN s.data.toList)])∧t.data.toList=zaz s.data.toList∧b.data.toList=zaF s.data.toList∧Below w.heap.size w w':=by
 obtain⟨m,hm⟩:=hL.len;refine callsIn_wide.2 ((Tryz.strings_Cut s ⟨#[47]⟩ m w (by omega) hm).mono ?_);rintro e w' ⟨rfl,n,rfl⟩;have hc:Lib.cut s.data.toList (⟨#[47]⟩:ByteArray).data.toList=(zaz s.data.toList,zaF s.data.toList,zbN s.data.toList):=by
  show Lib.cut s.data.toList [47]=_
  rw [zpv];unfold zaz zaF zbN;by_cases h:zas s.data.toList<s.data.toList.length
  ·rw [if_pos h,if_pos h,if_pos h,decide_eq_true h]
  ·rw [if_neg h,if_neg h,if_neg h,decide_eq_false h]
 rw [hc];exact⟨_,_,rfl,rfl,rfl,zbC _ _⟩
theorem zoY(w:World)(t:ByteArray) :
  CallsIn Fence.wide 0 Tryz.prog 164 #[.string t,.string ⟨#[45]⟩] w fun e w'=>∃o:ByteArray,e = .returned (.tuple #[.string o,.bool (zci t.data.toList)])∧o.data.toList=zaN t.data.toList∧Below w.heap.size w w':=by
 refine callsIn_wide.2 ((Tryz.strings_CutPrefix t ⟨#[45]⟩ w).mono ?_);rintro e w' ⟨rfl,rfl⟩;exact⟨_,rfl,rfl,Below.refl _ _⟩
theorem zfr(w:World)(sg:Bool)(vn vd:Value)(d:Nat)(hd:zaq w vd d) :
  CallsIn Fence.wide 0 Tryz.prog 132 #[.agg #[.bool sg,vn,vd]] w fun e w'=>∃v',e = .returned v'∧zaq w' v' (if d=0 then 1 else d)∧Below w.heap.size w w':=by
 by_cases h1:d=0
 ·rw [if_pos h1];subst h1;obtain⟨o,k,c,rfl,hk,hk9⟩:=zaG hd;have hk0:k=0:=hk.2 rfl;subst hk0;clear hk hd;refine callsIn_of_wp Tryz.func132 rfl trivial ?_ rfl;simp only [Tryz.ntmps132,zsj,zsk,zsl,Nat.reduceAdd,Nat.reduceSub,zsm,zsn,zso,zsp,zsq,zsr];gi_wp2;all_goals (first|go_returns|go_ret|go_end0)
  have h:=zk4 (w.alloc (.cells #[.bool sg,vn,.slice o 0 c] 27));rw [show(w.alloc (.cells #[.bool sg,vn,.slice o 0 c] 27)).heap.size=w.heap.size+1 by simp]at h;refine⟨_,rfl,h,?_⟩;exact((zaa w _).alloc (by simp) _)
 ·rw [if_neg h1];have HD:=zHi hd;obtain⟨o,k,c,rfl,hk,hk9⟩:=zaG hd;have hk0:¬(k:Int)=0:=by
   intro h;exact h1 (hk.1 (by omega))
  clear hk hd;refine callsIn_of_wp Tryz.func132 rfl trivial ?_ rfl;simp only [Tryz.ntmps132,zsj,zsk,zsl,Nat.reduceAdd,Nat.reduceSub,zsm,zsn,zso,zsp,zsq,zsr];gi_wp2;all_goals (first|go_returns|go_ret|go_end0)
  exact⟨_,rfl,HD.out.below (zaa w _),zaa w _⟩
def zhP(l:List UInt8):Int:=if 41000<l.length then 2 else match zck l with|none=>10|some q=>zpd q
def zhO(l:List UInt8):Rat:=if 41000<l.length then 0 else match zck l with|none=>0|some q=>zkc q
theorem znM{l:List UInt8}(h:41000<l.length):zhP l=2∧zhO l=0:=⟨if_pos h,if_pos h⟩
theorem zbj{l:List UInt8}(h:¬41000<l.length)(hf:zck l=none):zhP l=10∧zhO l=0:=by
 unfold zhP zhO;rw [if_neg h,if_neg h,hf];exact⟨rfl,rfl⟩
theorem zdZ{l:List UInt8}(h:¬41000<l.length){q:Rat}(hf:zck l=some q):zhP l=zpd q∧zhO l=zkc q:=by
 unfold zhP zhO;rw [if_neg h,if_neg h,hf];exact⟨rfl,rfl⟩
theorem zpI{l:List UInt8}(h:zbv (zaN (zaz l))=false∨zci (zaz l)=true∧zaN (zaz l) = [48]):zck l=none:=by
 have hz:zbQ (zaz l)=none:=by
  unfold zbQ;rw [if_neg];rcases h with h|⟨h1,h2⟩
  ·rw [h];simp
  ·rw [h1,h2];simp
 unfold zck;unfold zaz at hz;split
 ·rename_i hs;rw [if_pos hs]at hz;rw [hz]
 ·rename_i hs;rw [if_neg hs]at hz;rw [hz]
theorem zeK{b:List UInt8}(hc:zbv b=true):2≤zae b↔b ≠ [48]∧b ≠ [49]:=by
 constructor
 ·intro h;constructor
  ·rintro rfl;simp [zcg]at h
  ·rintro rfl;simp [zcg]at h
 ·rintro⟨h0,h1⟩;apply Classical.byContradiction
  intro hno;have e:=zlp hc;have:zae b=0∨zae b=1:=by omega
  rcases this with h|h
  ·rw [h,Lib.decDigits]at e;exact h0 e.symm
  ·rw [h,Lib.decDigits]at e;exact h1 e.symm
theorem zgT{l:List UInt8}(hs:zbN l=true)(h:zbv (zaF l)=false∨zaF l = [48]∨zaF l = [49]):zck l=none:=by
 have hs':zas l<l.length:=of_decide_eq_true hs;unfold zck;unfold zaF at h;rw [if_pos hs']at h ⊢;split
 ·rfl
 ·rw [if_neg];rcases h with h|h|h
  ·rw [h];simp
  ·rw [h];simp [zcg]
  ·rw [h];simp [zcg]
def zcE(l:List UInt8):Nat:=if zbN l=true then zae (zaF l)else 1
theorem neg_pos{o:List UInt8}(hc:zbv o=true)(h:o ≠ [48]):0<zae o:=by
 apply Classical.byContradiction
 intro hno;have e:=zlp hc;rw [show zae o=0 by omega,Lib.decDigits]at e;exact h e.symm
theorem good{l:List UInt8}(h1:zbv (zaN (zaz l))=true)(h2:zci (zaz l)=true→zaN (zaz l) ≠ [48])(h3:zbN l=true→zbv (zaF l)=true∧zaF l ≠ [48]∧zaF l ≠ [49]) :
  (Nat.gcd (zcE l) (zae (zaN (zaz l)))=1→∃q,zck l=some q∧q.num.natAbs=zae (zaN (zaz l))∧q.den=zcE l∧decide (q.num<0)=zci (zaz l))∧(Nat.gcd (zcE l) (zae (zaN (zaz l)))≠1→zck l=none):=by
 have hz:zbQ (zaz l)=some (sgn (zci (zaz l)) (zae (zaN (zaz l)))):=by
  unfold zbQ;rw [if_pos];rw [h1]
  cases hn:zci (zaz l)with
  | false=>rfl
  | true=>
   have:=h2 hn;simp [this]
 have hsg:decide (sgn (zci (zaz l)) (zae (zaN (zaz l)))<0)=zci (zaz l):=by
  cases hn:zci (zaz l)with
  | false=>exact decide_eq_false (by show ¬((zae (zaN (zaz l)):Nat):Int)<0;omega)
  | true=>
   have:=neg_pos h1 (h2 hn);exact decide_eq_true (by show(-((zae (zaN (zaz l)):Nat):Int))<0;omega)
 cases hs:zbN l with
 | false=>
  have hs':¬zas l<l.length:=of_decide_eq_false hs;have hd:zcE l=1:=by unfold zcE;rw [hs];rfl
  rw [hd];refine⟨fun _ => ?_,fun h=>absurd (Nat.gcd_one_left _) h⟩;have ht:zaz l=l:=by unfold zaz;rw [if_neg hs']
  refine⟨((sgn (zci (zaz l)) (zae (zaN (zaz l))):Int):Rat),?_,?_,Rat.den_intCast _,?_⟩
  ·unfold zck;rw [if_neg hs'];rw [ht]at hz ⊢;rw [hz]
  ·rw [Rat.num_intCast,zbw]
  ·rw [Rat.num_intCast];exact hsg
 | true=>
  have hs':zas l<l.length:=of_decide_eq_true hs;have hd:zcE l=zae (zaF l):=by unfold zcE;rw [hs];rfl
  obtain⟨c1,c2,c3⟩:=h3 hs;have h2':=(zeK c1).2 ⟨c2,c3⟩;rw [hd];have e:zck l=if(zbv (zaF l) && decide (2≤zae (zaF l)) && decide (Nat.gcd (sgn (zci (zaz l)) (zae (zaN (zaz l)))).natAbs (zae (zaF l))=1))=true then some ((sgn (zci (zaz l)) (zae (zaN (zaz l))):Rat)/(zae (zaF l):Rat))else none:=by
   unfold zck;rw [if_pos hs'];have ht:l.take (zas l)=zaz l:=by unfold zaz;rw [if_pos hs']
   have hb:l.drop (zas l+1)=zaF l:=by unfold zaF;rw [if_pos hs']
   rw [ht,hb,hz]
  rw [c1,decide_eq_true h2',Bool.true_and,Bool.true_and,zbw]at e;refine⟨fun hg => ?_,fun hg => ?_⟩
  ·rw [Nat.gcd_comm]at hg;rw [if_pos (decide_eq_true hg)]at e;have hp:=zfC (z:=sgn (zci (zaz l)) (zae (zaN (zaz l)))) (d:=zae (zaF l)) (by omega) (by rw [zbw];exact hg);refine⟨_,e,?_,hp.2,?_⟩
   ·rw [hp.1,zbw]
   ·rw [hp.1];exact hsg
  ·rw [Nat.gcd_comm]at hg;rw [if_neg (by simpa using hg)]at e;exact e
theorem zcC(l:List UInt8):(zaN (zaz l)).length≤l.length∧(zaF l).length≤l.length∧(zaz l).length≤l.length:=by
 have h1:(zaz l).length≤l.length:=by
  unfold zaz;split
  ·rw [List.length_take];omega
  ·exact Nat.le_refl _
 refine⟨?_,?_,h1⟩
 ·refine Nat.le_trans ?_ h1;unfold zaN Lib.trimPrefix;split
  ·rw [List.length_drop];omega
  ·exact Nat.le_refl _
 ·unfold zaF;split
  ·rw [List.length_drop];omega
  ·simp
structure zdd(w W:World)(g:Nat):Prop where
 res:∃f,zag W g 3 f
 el:Elem W g 27
 below:Below w.heap.size w W
 le:w.heap.size≤g
theorem zdd.lt{w W:World}{g:Nat}(h:zdd w W g):g<W.heap.size:=h.el.lt
theorem zdd.step{w W W':World}{g:Nat}(h:zdd w W g)(hb:Below W.heap.size W W'):zdd w W' g:=by
 obtain⟨f,hf⟩:=h.res;exact⟨⟨f,hf.below h.lt hb⟩,h.el.below hb h.lt,h.below.trans (hb.mono h.below.size),h.le⟩
theorem zlY(w:World)(x y z:Value):zdd w (w.alloc (.cells #[x,y,z] 27)) w.heap.size:=by
 have h:=zel w x y z 27;exact⟨h.1,zaO _ _ _,h.2.2,Nat.le_refl _⟩
theorem zdd.set{w W:World}{g g6:Nat}(h:zdd w W g)(_h6:g6<W.heap.size)(hne:g<g6){i:Nat}{u:Value}:zdd w (W.setCell ⟨g6,i,none⟩ u) g:=by
 obtain⟨f,hf⟩:=h.res;exact⟨⟨f,fun j hj=>⟨(World.cell?_setCell_other _ _ _ _ (by intro e;injection e with e _ _;omega)).trans (hf j hj).1,by rw [World.frozen?_setCell];exact(hf j hj).2⟩⟩,h.el.setCell _ _,h.below.setCell (by have:=h.le;show _≤g6;omega) _,h.le⟩
theorem zg2{l:List UInt8}(h:l.length≤41000)(hc:zbv (zaN (zaz l))=true):zae (zaN (zaz l))<B^100000:=
 zaY 100000 (zf3 (k:=4556) (zbY hc) (by have:=zcC l;omega)) (by decide)
theorem zg9{l:List UInt8}(h:l.length≤41000)(hb:zbN l=true→zbv (zaF l)=true∧zaF l ≠ [48]∧zaF l ≠ [49]):zcE l<B^100000:=by
 unfold zcE;split
 ·rename_i hs;exact zaY 100000 (zf3 (k:=4556) (zbY (hb hs).1) (by have:=zcC l;omega)) (by decide)
 ·exact zaY 100000 (show 1<B^1 by decide) (by decide)
theorem Box3.set2{w:World}{g:Nat}{x y z u v:Value}(h:Box3 w g x y z)(hc:w.cell? ⟨g,2,none⟩=some v):Box3 (w.setCell ⟨g,2,none⟩ u) g x y u:=by
 have n (j:Nat) (hj:j≠2):(⟨g,2,none⟩:Addr)≠⟨g,j,none⟩:=by intro e;injection e with _ e;omega
 intro j x' hj;match j,hj with
 | 0,hj=>rw [World.cell?_setCell_other _ _ _ _ (n 0 (by omega)),←hj];exact h.c0
 | 1,hj=>rw [World.cell?_setCell_other _ _ _ _ (n 1 (by omega)),←hj];exact h.c1
 | 2,hj=>rw [World.cell?_setCell_same _ _ _ hc,←hj];rfl
 | k+3,hj=>simp at hj
theorem zlX{fn:Func}{p t:Tmp}{R:Ending→World→Prop}{a:Act}{w:World}{x y z u:Value}(h:fn.results=#[.cell p 27,.tmp t])(hd:a.defers = [])(g:Nat)(hp:a.tmps.getD p undef = .pointer (some ⟨g,0,none⟩))(ht:a.tmps.getD t undef=u)
  (hc:Box3 w g x y z) (hR:R (.returned (.tuple #[.agg #[x,y,z],u])) w):bodyPost Tryz.prog fn R .ret a w:=by
 refine⟨hd,.tuple #[.agg #[x,y,z],u],?_,hR⟩;have e1:=l25 g [x,y,z] w rfl hc;simp only [Instr.loadAt,Instr.sureAddr,Sem.run_bind,Sem.run_pure,Result.andThen_ok]at e1;have hp2:a.tmps[p]?.getD undef = .pointer (some ⟨g,0,none⟩):=by rw [←Array.getD_eq_getD_getElem?];exact hp
 have ht2:a.tmps[t]?.getD undef=u:=by rw [←Array.getD_eq_getD_getElem?];exact ht
 simp [results,h,hp2,ht2,asAddr,e1]
theorem zam{b:Bool}(h:some undef=some (Value.bool b)):False:=by
 injection h with h
 cases h
theorem zgn{l m:List UInt8}(h:¬l=m):(l == m)=false:=beq_false_of_ne h
theorem zkY(w:World)(s:ByteArray)(l:List UInt8)(hl:s.data.toList=l)(hL:Laid w) :
  CallsIn Fence.wide 0 Tryz.prog 102 #[.string s] w fun e w'=>∃v',e = .returned (.tuple #[v',.int .i64 (zhP l)])∧zaj w' v' (zhO l)∧Below w.heap.size w w':=by
 have hsz:s.size=l.length:=by rw [Lib.size_eq,hl]
 have HSL:=zHi hl;have HL:=zHi hL;obtain⟨n,hn⟩:∃n,l.length=n:=⟨_,rfl⟩;have HN:=zHi hn;rw [hn]at hsz;clear hl hL hn;have hmf:∀(fn:Fn) (first cap:Array Value) (w:World),(Instr.makeFunc fn first cap).run Tryz.prog w = .ok (.func fn first cap) w:=fun _ _ _ _=>rfl
 refine callsIn_of_wp Tryz.func102 rfl trivial ?_ rfl;simp only [Tryz.ntmps102,zsj,zsk,zsl,Nat.reduceAdd,Nat.reduceSub,zsm,zsn,zso,zsp,zsq,zsr];by_cases hlong:41000<n
 ·have hlong':decide ((n:Int)>41000)=true:=decide_eq_true (by omega);have hP:=znM (l:=l) (by rw [HN.out];exact hlong);gi_wp2;refine zlX rfl rfl w.heap.size rfl rfl (zaK w (.bool false) (.slice none 0 0) (.slice none 0 0) 27) ?_;rw [hP.1,hP.2];exact⟨_,rfl,zao _,zaa _ _⟩
 ·have hlong':decide ((n:Int)>41000)=false:=decide_eq_false (by omega);have HNL:Hid (¬41000<l.length):=zHi (by rw [HN.out];exact hlong);gi_wp2_with (gi_at_call 163;refine stop ?_)
  unfold Stop;obtain⟨W,hW⟩:∃W,W=w.alloc (Obj.cells #[Value.bool false,Value.slice none 0 0,Value.slice none 0 0] 27):=⟨_,rfl⟩;rw [←hW];have HK:Hid (zdd w W w.heap.size):=zHi (by rw [hW];exact zlY _ _ _ _);obtain⟨g,hg⟩:∃g,w.heap.size=g:=⟨_,rfl⟩;rw [hg]at HK;rw [hg];clear hW hg;refine(zpw W s (by omega) (HL.out.below HK.out.below)).mono ?_;rintro e w2 ⟨t,b,rfl,ht,hb,hB⟩;rw [HSL.out]at ht hb ⊢;replace HK:=zHi (HK.out.step hB);have HT:=zHi ht;have HBt:=zHi hb;clear ht hb hB;gi_wp2_with (gi_at_call 164;refine stop ?_)
  unfold Stop;refine(zoY w2 t).mono ?_;rintro e w3 ⟨o,rfl,ho,hB⟩;rw [HT.out]at ho ⊢;replace HK:=zHi (HK.out.step hB);have HOw:=zHi ho;have hos:o.size≤100000:=by
   have:=zcC l;rw [HN.out]at this;rw [Lib.size_eq,ho];omega
  have hbs:b.size≤100000:=by
   have:=zcC l;rw [HN.out]at this;rw [Lib.size_eq,HBt.out];omega
  clear ho hB;gi_wp2_with (gi_at_call 165;refine stop ?_)
  unfold Stop;refine(zdR w3 o hos).mono ?_;rintro e w4 ⟨rfl,hB⟩;rw [HOw.out];replace HK:=zHi (HK.out.step hB);clear hB;obtain⟨f,hf⟩:=HK.out.res;have z0:=(hf 0 (by omega)).1;have z1:=(hf 1 (by omega)).1;have z2:=(hf 2 (by omega)).1;have y0:=(hf 0 (by omega)).2;have y1:=(hf 1 (by omega)).2;have y2:=(hf 2 (by omega)).2;have hle:=HK.out.le;clear hf
  cases hc:zbv (zaN (zaz l))with
  | false=>
   have HP:=zHi (zbj HNL.out (zpI (.inl hc)));gi_wp2_with (exfalso;exact zam (by assumption))
   refine zav rfl rfl g rfl rfl z0 z1 z2 ?_;rw [HP.out.1,HP.out.2];exact⟨_,rfl,zao _,((HK.out.below.setCell hle _).setCell hle _).setCell hle _⟩
  | true=>
   have HCO:=zHi hc;clear hc
   cases hn:zci (zaz l)with
   | true=>
    have HNG:=zHi hn;clear hn;by_cases h48:o.toList = [48]
    ·have h48':(o.toList == [48])=true:=by rw [h48];rfl
     have hb48:=zpI (l:=l) (.inr ⟨HNG.out,by rw [←HOw.out,←Lib.toList_data];exact h48⟩);have HP:=zHi (zbj HNL.out (hb48));gi_wp2_with (exfalso;exact zam (by assumption))
     refine zav rfl rfl g rfl rfl z0 z1 z2 ?_;rw [HP.out.1,HP.out.2];exact⟨_,rfl,zao _,((HK.out.below.setCell hle _).setCell hle _).setCell hle _⟩
    ·have h48':(o.toList == [48])=false:=zgn h48;have HN48:Hid (zci (zaz l)=true→zaN (zaz l) ≠ [48]):=zHi (fun _=>by rw [←HOw.out,←Lib.toList_data];exact h48)
     cases hs:zbN l with
     | false=>
      have HHS:=zHi hs;have HBOT:Hid (zbN l=true→zbv (zaF l)=true∧zaF l ≠ [48]∧zaF l ≠ [49]):=zHi (fun h=>by rw [hs]at h;cases h);clear hs;have HG:=zHi (good (l:=l) HCO.out HN48.out HBOT.out);clear z0 z1 z2 y0 y1 y2;gi_wp2_with (first|(exfalso;exact zam (by assumption))|(gi_at_call 166;refine stop ?_))
      unfold Stop;refine(zcP w4 o (zaN (zaz l)) HOw.out (zbY HCO.out) (by have:=zcC l;rw [HN.out]at this;omega)).mono ?_;rintro e w6 ⟨vn,rfl,hvn,hB⟩;replace HK:=zHi (HK.out.step hB);obtain⟨o1,k1,c1,rfl,_,_⟩:=zaG hvn;have HVN:=zHi hvn;clear hvn hB;gi_wp2_with (exfalso;exact zam (by assumption))
      obtain⟨W6,hW6⟩:∃W,W=w6.alloc (Obj.cells #[Value.bool true,.slice o1 k1 c1,.slice none 0 0] 27):=⟨_,rfl⟩;rw [←hW6];have HBx:Hid (Box3 W6 w6.heap.size (.bool true) (.slice o1 k1 c1) (.slice none 0 0)):=zHi (by rw [hW6];exact zaK _ _ _ _ _);have hBW:Below w6.heap.size w6 W6:=by rw [hW6];exact zaa _ _
      replace HK:=zHi (HK.out.step hBW);replace HVN:=zHi (HVN.out.below hBW);have HVD:Hid (zaq W6 (.slice none 0 0) 0):=zHi ⟨0,zcf,.inl ⟨rfl,none,0,rfl⟩⟩;obtain⟨o2,k2,c2,hv2⟩:∃o2 k2 c2,(Value.slice none 0 0) = .slice o2 k2 c2:=⟨_,_,_,rfl⟩;rw [hv2]at HBx HVD;have hDen:(if(0:Nat)=0 then 1 else 0)=zcE l:=by unfold zcE;rw [HHS.out];rfl
      clear hW6 hBW hv2;refine zan (ro:=none) [1,4,5] [0,2,3,1,4,5,6] [0,1,0,4,15,31,63] zak 73 rfl (by kernel_rfl) (by kernel_rfl) ?_;replace HBx:=zHi (HBx.out.below (zab _));replace HVN:=zHi (HVN.out.below (zab _));replace HVD:=zHi (HVD.out.below (zab _));replace HK:=zHi (HK.out.step (zab _));refine OW.loadAll rfl rfl l25 (cs:=[.bool true,.slice o1 k1 c1,.slice o2 k2 c2]) rfl (by decide) HBx.out rfl ?_;simp only [Go.Act.put,zss,zst,zsu];refine OW.fieldAddr rfl rfl ziR rfl ?_;simp only [Go.Act.put,zss,zst,zsu];refine OW.load rfl rfl l23 HBx.out.c1 rfl ?_;simp only [Go.Act.put,zss,zst,zsu];refine OW.call rfl rfl Tryz.func132 rfl zac (args:=[.agg #[.bool true,.slice o1 k1 c1,.slice o2 k2 c2]]) rfl ?_;refine(zfr W6.drew true (.slice o1 k1 c1) (.slice o2 k2 c2) 0 HVD.out).mono ?_;rintro e wa ⟨va,rfl,hva,hB⟩;rw [hDen]at hva;refine⟨va,rfl,hB,?_⟩;simp only [Go.Act.put,zss,zst,zsu];replace HBx:=zHi (HBx.out.below hB);replace HVN:=zHi (HVN.out.below hB);replace HVD:=zHi (HVD.out.below hB);replace HK:=zHi (HK.out.step hB);have HVA:=zHi hva;clear hva hB;refine OW.call rfl rfl Tryz.func167 rfl zac (args:=[va,.slice o1 k1 c1]) rfl ?_;refine(ze0 wa va _ (zcE l) (zae (zaN (zaz l))) 100000 HVA.out HVN.out (zg9 (by rw [HN.out];omega) HBOT.out) (zg2 (by rw [HN.out];omega) HCO.out) (by omega)).mono ?_;rintro e wb ⟨vb,rfl,hvb,hB⟩;refine⟨vb,rfl,hB,?_⟩;simp only [Go.Act.put,zss,zst,zsu];replace HBx:=zHi (HBx.out.below hB);replace HVN:=zHi (HVN.out.below hB);replace HVD:=zHi (HVD.out.below hB);replace HK:=zHi (HK.out.step hB);have HVB:=zHi hvb;clear hvb hB HVA;refine OW.call rfl rfl Tryz.func168 rfl zac (args:=[vb]) rfl ?_;refine(zcQ wb vb _ HVB.out).mono ?_;rintro e wc ⟨rfl,hB⟩;refine⟨_,rfl,hB,?_⟩;simp only [Go.Act.put,zss,zst,zsu];replace HBx:=zHi (HBx.out.below hB);replace HVN:=zHi (HVN.out.below hB);replace HVD:=zHi (HVD.out.below hB);replace HK:=zHi (HK.out.step hB);clear hB HVB;refine OW.read rfl rfl (.bool (!decide (Nat.gcd (zcE l) (zae (zaN (zaz l)))=1))) (fun w' _=>rfl) ?_;simp only [Go.Act.put,zss];refine OW.done ?_;obtain⟨f,hf⟩:=HK.out.res;have z0:=(hf 0 (by omega)).1;have z1:=(hf 1 (by omega)).1;have z2:=(hf 2 (by omega)).1;have y0:=(hf 0 (by omega)).2;have y1:=(hf 1 (by omega)).2;have y2:=(hf 2 (by omega)).2;clear hf;by_cases hg1:Nat.gcd (zcE l) (zae (zaN (zaz l)))=1
      ·rw [decide_eq_true hg1];obtain⟨q,hq,hnum,hden,hsg⟩:=HG.out.1 hg1;have hP:=zdZ HNL.out hq;rw [HNG.out]at hsg;have HRA:Hid (zaj wc (.agg #[.bool true,.slice o1 k1 c1,.slice o2 k2 c2]) q):=zHi ⟨_,_,by rw [hsg],by rw [hnum];exact HVN.out,by
        rw [hden,←hDen];exact HVD.out⟩
       have HRL:Hid (zad q 100000):=zHi ⟨by rw [hnum];exact zg2 (by rw [HN.out];omega) HCO.out,by rw [hden];exact zg9 (by rw [HN.out];omega) HBOT.out⟩;have HP:=zHi hP;have d0:=HBx.out.c0;have d1:=HBx.out.c1;have d2:=HBx.out.c2;clear hg1 hq hnum hden hsg hP z0 z1 z2 y0 y1 y2;gi_wp2_with (gi_at_call 73;refine stop ?_)
       unfold Stop;refine(zeu wc _ q HRA.out HRL.out (HL.out.pow.below HK.out.below)).mono ?_;rintro e wd ⟨vr,rfl,hr,hB⟩;replace HK:=zHi (HK.out.step hB);obtain⟨o5,k5,c5,o6,k6,c6,rfl⟩:=hr.form;have HR3:=zHi hr;obtain⟨sg',hsg'⟩:∃sg',decide ((zkc q).num<0)=sg':=⟨_,rfl⟩;rw [hsg']at HR3;rw [hsg'];obtain⟨f,hf⟩:=HK.out.res;have z0:=(hf 0 (by omega)).1;have z1:=(hf 1 (by omega)).1;have z2:=(hf 2 (by omega)).1;have y0:=(hf 0 (by omega)).2;have y1:=(hf 1 (by omega)).2;have y2:=(hf 2 (by omega)).2;have HE:=zHi HK.out.el;clear hf hr hB;gi_wp2;refine zav rfl rfl g rfl rfl z0 z1 z2 ?_;rw [HP.out.1,HP.out.2];refine⟨_,rfl,?_,((HK.out.below.setCell hle _).setCell hle _).setCell hle _⟩;exact((HR3.out.setElem HE.out (by decide)).setElem (HE.out.setCell _ _) (by decide)).setElem ((HE.out.setCell _ _).setCell _ _) (by decide)
      ·rw [decide_eq_false hg1];have HP:=zHi (zbj HNL.out (HG.out.2 hg1));clear hg1;gi_wp2;refine zav rfl rfl g rfl rfl z0 z1 z2 ?_;rw [HP.out.1,HP.out.2];exact⟨_,rfl,zao _,((HK.out.below.setCell hle _).setCell hle _).setCell hle _⟩
     | true=>
      have HHS:=zHi hs;clear hs;gi_wp2_with (first|(exfalso;exact zam (by assumption))|(gi_at_call 165;refine stop ?_))
      unfold Stop;refine(zdR w4 b hbs).mono ?_;rintro e w5 ⟨rfl,hB⟩;rw [HBt.out];replace z0:=(hB.cell HK.out.lt).trans z0;replace z1:=(hB.cell HK.out.lt).trans z1;replace z2:=(hB.cell HK.out.lt).trans z2;replace y0:=(hB.frozen (p:=⟨g,0,none⟩) HK.out.lt).trans y0;replace y1:=(hB.frozen (p:=⟨g,1,none⟩) HK.out.lt).trans y1;replace y2:=(hB.frozen (p:=⟨g,2,none⟩) HK.out.lt).trans y2;replace HK:=zHi (HK.out.step hB);clear hB
      cases hb:zbv (zaF l)with
      | false=>
       have HBB:=zgT HHS.out (.inl hb);clear hb;have HP:=zHi (zbj HNL.out (HBB));gi_wp2_with (exfalso;exact zam (by assumption))
       refine zav rfl rfl g rfl rfl z0 z1 z2 ?_;rw [HP.out.1,HP.out.2];exact⟨_,rfl,zao _,((HK.out.below.setCell hle _).setCell hle _).setCell hle _⟩
      | true=>
       have HCB:=zHi hb;clear hb;by_cases b48:b.toList = [48]
       ·have b48':(b.toList == [48])=true:=by rw [b48];rfl
        have HBB:=zgT (l:=l) HHS.out (.inr (.inl (by rw [←HBt.out,←Lib.toList_data];exact b48)));have HP:=zHi (zbj HNL.out (HBB));gi_wp2_with (exfalso;exact zam (by assumption))
        refine zav rfl rfl g rfl rfl z0 z1 z2 ?_;rw [HP.out.1,HP.out.2];exact⟨_,rfl,zao _,((HK.out.below.setCell hle _).setCell hle _).setCell hle _⟩
       ·have b48':(b.toList == [48])=false:=zgn b48;by_cases b49:b.toList = [49]
        ·have b49':(b.toList == [49])=true:=by rw [b49];rfl
         have HBB:=zgT (l:=l) HHS.out (.inr (.inr (by rw [←HBt.out,←Lib.toList_data];exact b49)));have HP:=zHi (zbj HNL.out (HBB));gi_wp2_with (exfalso;exact zam (by assumption))
         refine zav rfl rfl g rfl rfl z0 z1 z2 ?_;rw [HP.out.1,HP.out.2];exact⟨_,rfl,zao _,((HK.out.below.setCell hle _).setCell hle _).setCell hle _⟩
        ·have b49':(b.toList == [49])=false:=zgn b49;have HBOT:Hid (zbN l=true→zbv (zaF l)=true∧zaF l ≠ [48]∧zaF l ≠ [49]):=zHi (fun _=>⟨HCB.out,by rw [←HBt.out,←Lib.toList_data];exact b48,by rw [←HBt.out,←Lib.toList_data];exact b49⟩);have HG:=zHi (good (l:=l) HCO.out HN48.out HBOT.out);clear z0 z1 z2 y0 y1 y2;gi_wp2_with (first|(exfalso;exact zam (by assumption))|(gi_at_call 166;refine stop ?_))
         unfold Stop;refine(zcP w5 o (zaN (zaz l)) HOw.out (zbY HCO.out) (by have:=zcC l;rw [HN.out]at this;omega)).mono ?_;rintro e w6 ⟨vn,rfl,hvn,hB⟩;replace HK:=zHi (HK.out.step hB);obtain⟨o1,k1,c1,rfl,_,_⟩:=zaG hvn;have HVN:=zHi hvn;clear hvn hB;gi_wp2_with (first|(exfalso;exact zam (by assumption))|(gi_at_call 166;refine stop ?_))
         unfold Stop;have hglt:=HK.out.lt;obtain⟨W6,hW6⟩:∃W,W=w6.alloc (Obj.cells #[Value.bool true,.slice o1 k1 c1,.slice none 0 0] 27):=⟨_,rfl⟩;rw [←hW6];have HBx:Hid (Box3 W6 w6.heap.size (.bool true) (.slice o1 k1 c1) (.slice none 0 0)):=zHi (by rw [hW6];exact zaK _ _ _ _ _);have HX:Hid (∃f,zag W6 w6.heap.size 3 f):=zHi (by rw [hW6];exact(zel _ _ _ _ _).1);have HE6:Hid (Elem W6 w6.heap.size 27):=zHi (by rw [hW6];exact zaO _ _ _);have hBW:Below w6.heap.size w6 W6:=by rw [hW6];exact zaa _ _
         replace HK:=zHi (HK.out.step hBW);replace HVN:=zHi (HVN.out.below hBW);have hgg:=hglt;obtain⟨g6,hg6⟩:∃g6,w6.heap.size=g6:=⟨_,rfl⟩;rw [hg6]at HBx HX HE6 hgg;rw [hg6];clear hW6 hBW;refine(zcP W6 b (zaF l) HBt.out (zbY (HBOT.out HHS.out).1) (by have:=zcC l;rw [HN.out]at this;omega)).mono ?_;rintro e w7 ⟨vd,rfl,hvd,hB⟩;replace HK:=zHi (HK.out.step hB);replace HVN:=zHi (HVN.out.below hB);replace HBx:=zHi (HBx.out.below hB);replace HX:Hid (∃f,zag w7 g6 3 f):=zHi (HX.out.elim fun f hf=>⟨f,hf.below HE6.out.lt hB⟩);replace HE6:=zHi (HE6.out.below hB HE6.out.lt);obtain⟨o2,k2,c2,rfl,_,_⟩:=zaG hvd;have HVD:=zHi hvd;obtain⟨f6,hf6⟩:=HX.out;have x2:=(hf6 2 (by omega)).1;have x3:=(hf6 2 (by omega)).2;clear hvd hB HX;gi_wp2_with (exfalso;exact zam (by assumption))
         obtain⟨W8,hW8⟩:∃W,W=w7.setCell ⟨g6,2,none⟩ (.slice o2 k2 c2):=⟨_,rfl⟩;rw [←hW8];replace HBx:Hid (Box3 W8 g6 (.bool true) (.slice o1 k1 c1) (.slice o2 k2 c2)):=zHi (by rw [hW8];exact HBx.out.set2 x2);replace HVN:Hid (zaq W8 (.slice o1 k1 c1) (zae (zaN (zaz l)))):=zHi (by rw [hW8];exact HVN.out.setElem HE6.out (by decide));replace HVD:Hid (zaq W8 (.slice o2 k2 c2) (zae (zaF l))):=zHi (by rw [hW8];exact HVD.out.setElem HE6.out (by decide));replace HK:Hid (zdd w W8 g):=zHi (by rw [hW8];exact HK.out.set HE6.out.lt (by omega));have hDen:(if zae (zaF l)=0 then 1 else zae (zaF l))=zcE l:=by
          unfold zcE;rw [HHS.out,if_neg]
          ·rfl
          ·have:=(zeK (HBOT.out HHS.out).1).2 (HBOT.out HHS.out).2;omega
         clear hW8 hf6 x2 x3;refine zan (ro:=none) [1,4,5] [0,2,3,1,4,5,6] [0,1,0,4,15,31,63] zak 73 rfl (by kernel_rfl) (by kernel_rfl) ?_;replace HBx:=zHi (HBx.out.below (zab _));replace HVN:=zHi (HVN.out.below (zab _));replace HVD:=zHi (HVD.out.below (zab _));replace HK:=zHi (HK.out.step (zab _));refine OW.loadAll rfl rfl l25 (cs:=[.bool true,.slice o1 k1 c1,.slice o2 k2 c2]) rfl (by decide) HBx.out rfl ?_;simp only [Go.Act.put,zss,zst,zsu];refine OW.fieldAddr rfl rfl ziR rfl ?_;simp only [Go.Act.put,zss,zst,zsu];refine OW.load rfl rfl l23 HBx.out.c1 rfl ?_;simp only [Go.Act.put,zss,zst,zsu];refine OW.call rfl rfl Tryz.func132 rfl zac (args:=[.agg #[.bool true,.slice o1 k1 c1,.slice o2 k2 c2]]) rfl ?_;refine(zfr W8.drew true (.slice o1 k1 c1) (.slice o2 k2 c2) (zae (zaF l)) HVD.out).mono ?_;rintro e wa ⟨va,rfl,hva,hB⟩;rw [hDen]at hva;refine⟨va,rfl,hB,?_⟩;simp only [Go.Act.put,zss,zst,zsu];replace HBx:=zHi (HBx.out.below hB);replace HVN:=zHi (HVN.out.below hB);replace HVD:=zHi (HVD.out.below hB);replace HK:=zHi (HK.out.step hB);have HVA:=zHi hva;clear hva hB;refine OW.call rfl rfl Tryz.func167 rfl zac (args:=[va,.slice o1 k1 c1]) rfl ?_;refine(ze0 wa va _ (zcE l) (zae (zaN (zaz l))) 100000 HVA.out HVN.out (zg9 (by rw [HN.out];omega) HBOT.out) (zg2 (by rw [HN.out];omega) HCO.out) (by omega)).mono ?_;rintro e wb ⟨vb,rfl,hvb,hB⟩;refine⟨vb,rfl,hB,?_⟩;simp only [Go.Act.put,zss,zst,zsu];replace HBx:=zHi (HBx.out.below hB);replace HVN:=zHi (HVN.out.below hB);replace HVD:=zHi (HVD.out.below hB);replace HK:=zHi (HK.out.step hB);have HVB:=zHi hvb;clear hvb hB HVA;refine OW.call rfl rfl Tryz.func168 rfl zac (args:=[vb]) rfl ?_;refine(zcQ wb vb _ HVB.out).mono ?_;rintro e wc ⟨rfl,hB⟩;refine⟨_,rfl,hB,?_⟩;simp only [Go.Act.put,zss,zst,zsu];replace HBx:=zHi (HBx.out.below hB);replace HVN:=zHi (HVN.out.below hB);replace HVD:=zHi (HVD.out.below hB);replace HK:=zHi (HK.out.step hB);clear hB HVB;refine OW.read rfl rfl (.bool (!decide (Nat.gcd (zcE l) (zae (zaN (zaz l)))=1))) (fun w' _=>rfl) ?_;simp only [Go.Act.put,zss];refine OW.done ?_;obtain⟨f,hf⟩:=HK.out.res;have z0:=(hf 0 (by omega)).1;have z1:=(hf 1 (by omega)).1;have z2:=(hf 2 (by omega)).1;have y0:=(hf 0 (by omega)).2;have y1:=(hf 1 (by omega)).2;have y2:=(hf 2 (by omega)).2;clear hf;by_cases hg1:Nat.gcd (zcE l) (zae (zaN (zaz l)))=1
         ·rw [decide_eq_true hg1];obtain⟨q,hq,hnum,hden,hsg⟩:=HG.out.1 hg1;have hP:=zdZ HNL.out hq;rw [HNG.out]at hsg;have HRA:Hid (zaj wc (.agg #[.bool true,.slice o1 k1 c1,.slice o2 k2 c2]) q):=zHi ⟨_,_,by rw [hsg],by rw [hnum];exact HVN.out,by
           rw [hden,←hDen];have h2:=(zeK (HBOT.out HHS.out).1).2 (HBOT.out HHS.out).2;rw [if_neg (show ¬zae (zaF l)=0 by omega),if_neg (show ¬zae (zaF l)=1 by omega)];exact HVD.out⟩
          have HRL:Hid (zad q 100000):=zHi ⟨by rw [hnum];exact zg2 (by rw [HN.out];omega) HCO.out,by rw [hden];exact zg9 (by rw [HN.out];omega) HBOT.out⟩;have HP:=zHi hP;have d0:=HBx.out.c0;have d1:=HBx.out.c1;have d2:=HBx.out.c2;clear hg1 hq hnum hden hsg hP z0 z1 z2 y0 y1 y2;gi_wp2_with (gi_at_call 73;refine stop ?_)
          unfold Stop;refine(zeu wc _ q HRA.out HRL.out (HL.out.pow.below HK.out.below)).mono ?_;rintro e wd ⟨vr,rfl,hr,hB⟩;replace HK:=zHi (HK.out.step hB);obtain⟨o5,k5,c5,o6,k6,c6,rfl⟩:=hr.form;have HR3:=zHi hr;obtain⟨sg',hsg'⟩:∃sg',decide ((zkc q).num<0)=sg':=⟨_,rfl⟩;rw [hsg']at HR3;rw [hsg'];obtain⟨f,hf⟩:=HK.out.res;have z0:=(hf 0 (by omega)).1;have z1:=(hf 1 (by omega)).1;have z2:=(hf 2 (by omega)).1;have y0:=(hf 0 (by omega)).2;have y1:=(hf 1 (by omega)).2;have y2:=(hf 2 (by omega)).2;have HE:=zHi HK.out.el;clear hf hr hB;gi_wp2;refine zav rfl rfl g rfl rfl z0 z1 z2 ?_;rw [HP.out.1,HP.out.2];refine⟨_,rfl,?_,((HK.out.below.setCell hle _).setCell hle _).setCell hle _⟩;exact((HR3.out.setElem HE.out (by decide)).setElem (HE.out.setCell _ _) (by decide)).setElem ((HE.out.setCell _ _).setCell _ _) (by decide)
         ·rw [decide_eq_false hg1];have HP:=zHi (zbj HNL.out (HG.out.2 hg1));clear hg1;gi_wp2;refine zav rfl rfl g rfl rfl z0 z1 z2 ?_;rw [HP.out.1,HP.out.2];exact⟨_,rfl,zao _,((HK.out.below.setCell hle _).setCell hle _).setCell hle _⟩
   | false=>
    have HNG:=zHi hn;clear hn;have HN48:Hid (zci (zaz l)=true→zaN (zaz l) ≠ [48]):=zHi (fun h=>by rw [HNG.out]at h;cases h)
    cases hs:zbN l with
    | false=>
     have HHS:=zHi hs;have HBOT:Hid (zbN l=true→zbv (zaF l)=true∧zaF l ≠ [48]∧zaF l ≠ [49]):=zHi (fun h=>by rw [hs]at h;cases h);clear hs;have HG:=zHi (good (l:=l) HCO.out HN48.out HBOT.out);clear z0 z1 z2 y0 y1 y2;gi_wp2_with (first|(exfalso;exact zam (by assumption))|(gi_at_call 166;refine stop ?_))
     unfold Stop;refine(zcP w4 o (zaN (zaz l)) HOw.out (zbY HCO.out) (by have:=zcC l;rw [HN.out]at this;omega)).mono ?_;rintro e w6 ⟨vn,rfl,hvn,hB⟩;replace HK:=zHi (HK.out.step hB);obtain⟨o1,k1,c1,rfl,_,_⟩:=zaG hvn;have HVN:=zHi hvn;clear hvn hB;gi_wp2_with (exfalso;exact zam (by assumption))
     obtain⟨W6,hW6⟩:∃W,W=w6.alloc (Obj.cells #[Value.bool false,.slice o1 k1 c1,.slice none 0 0] 27):=⟨_,rfl⟩;rw [←hW6];have HBx:Hid (Box3 W6 w6.heap.size (.bool false) (.slice o1 k1 c1) (.slice none 0 0)):=zHi (by rw [hW6];exact zaK _ _ _ _ _);have hBW:Below w6.heap.size w6 W6:=by rw [hW6];exact zaa _ _
     replace HK:=zHi (HK.out.step hBW);replace HVN:=zHi (HVN.out.below hBW);have HVD:Hid (zaq W6 (.slice none 0 0) 0):=zHi ⟨0,zcf,.inl ⟨rfl,none,0,rfl⟩⟩;obtain⟨o2,k2,c2,hv2⟩:∃o2 k2 c2,(Value.slice none 0 0) = .slice o2 k2 c2:=⟨_,_,_,rfl⟩;rw [hv2]at HBx HVD;have hDen:(if(0:Nat)=0 then 1 else 0)=zcE l:=by unfold zcE;rw [HHS.out];rfl
     clear hW6 hBW hv2;refine zan (ro:=none) [1,4,5] [0,2,3,1,4,5,6] [0,1,0,4,15,31,63] zak 73 rfl (by kernel_rfl) (by kernel_rfl) ?_;replace HBx:=zHi (HBx.out.below (zab _));replace HVN:=zHi (HVN.out.below (zab _));replace HVD:=zHi (HVD.out.below (zab _));replace HK:=zHi (HK.out.step (zab _));refine OW.loadAll rfl rfl l25 (cs:=[.bool false,.slice o1 k1 c1,.slice o2 k2 c2]) rfl (by decide) HBx.out rfl ?_;simp only [Go.Act.put,zss,zst,zsu];refine OW.fieldAddr rfl rfl ziR rfl ?_;simp only [Go.Act.put,zss,zst,zsu];refine OW.load rfl rfl l23 HBx.out.c1 rfl ?_;simp only [Go.Act.put,zss,zst,zsu];refine OW.call rfl rfl Tryz.func132 rfl zac (args:=[.agg #[.bool false,.slice o1 k1 c1,.slice o2 k2 c2]]) rfl ?_;refine(zfr W6.drew false (.slice o1 k1 c1) (.slice o2 k2 c2) 0 HVD.out).mono ?_;rintro e wa ⟨va,rfl,hva,hB⟩;rw [hDen]at hva;refine⟨va,rfl,hB,?_⟩;simp only [Go.Act.put,zss,zst,zsu];replace HBx:=zHi (HBx.out.below hB);replace HVN:=zHi (HVN.out.below hB);replace HVD:=zHi (HVD.out.below hB);replace HK:=zHi (HK.out.step hB);have HVA:=zHi hva;clear hva hB;refine OW.call rfl rfl Tryz.func167 rfl zac (args:=[va,.slice o1 k1 c1]) rfl ?_;refine(ze0 wa va _ (zcE l) (zae (zaN (zaz l))) 100000 HVA.out HVN.out (zg9 (by rw [HN.out];omega) HBOT.out) (zg2 (by rw [HN.out];omega) HCO.out) (by omega)).mono ?_;rintro e wb ⟨vb,rfl,hvb,hB⟩;refine⟨vb,rfl,hB,?_⟩;simp only [Go.Act.put,zss,zst,zsu];replace HBx:=zHi (HBx.out.below hB);replace HVN:=zHi (HVN.out.below hB);replace HVD:=zHi (HVD.out.below hB);replace HK:=zHi (HK.out.step hB);have HVB:=zHi hvb;clear hvb hB HVA;refine OW.call rfl rfl Tryz.func168 rfl zac (args:=[vb]) rfl ?_;refine(zcQ wb vb _ HVB.out).mono ?_;rintro e wc ⟨rfl,hB⟩;refine⟨_,rfl,hB,?_⟩;simp only [Go.Act.put,zss,zst,zsu];replace HBx:=zHi (HBx.out.below hB);replace HVN:=zHi (HVN.out.below hB);replace HVD:=zHi (HVD.out.below hB);replace HK:=zHi (HK.out.step hB);clear hB HVB;refine OW.read rfl rfl (.bool (!decide (Nat.gcd (zcE l) (zae (zaN (zaz l)))=1))) (fun w' _=>rfl) ?_;simp only [Go.Act.put,zss];refine OW.done ?_;obtain⟨f,hf⟩:=HK.out.res;have z0:=(hf 0 (by omega)).1;have z1:=(hf 1 (by omega)).1;have z2:=(hf 2 (by omega)).1;have y0:=(hf 0 (by omega)).2;have y1:=(hf 1 (by omega)).2;have y2:=(hf 2 (by omega)).2;clear hf;by_cases hg1:Nat.gcd (zcE l) (zae (zaN (zaz l)))=1
     ·rw [decide_eq_true hg1];obtain⟨q,hq,hnum,hden,hsg⟩:=HG.out.1 hg1;have hP:=zdZ HNL.out hq;rw [HNG.out]at hsg;have HRA:Hid (zaj wc (.agg #[.bool false,.slice o1 k1 c1,.slice o2 k2 c2]) q):=zHi ⟨_,_,by rw [hsg],by rw [hnum];exact HVN.out,by
       rw [hden,←hDen];exact HVD.out⟩
      have HRL:Hid (zad q 100000):=zHi ⟨by rw [hnum];exact zg2 (by rw [HN.out];omega) HCO.out,by rw [hden];exact zg9 (by rw [HN.out];omega) HBOT.out⟩;have HP:=zHi hP;have d0:=HBx.out.c0;have d1:=HBx.out.c1;have d2:=HBx.out.c2;clear hg1 hq hnum hden hsg hP z0 z1 z2 y0 y1 y2;gi_wp2_with (gi_at_call 73;refine stop ?_)
      unfold Stop;refine(zeu wc _ q HRA.out HRL.out (HL.out.pow.below HK.out.below)).mono ?_;rintro e wd ⟨vr,rfl,hr,hB⟩;replace HK:=zHi (HK.out.step hB);obtain⟨o5,k5,c5,o6,k6,c6,rfl⟩:=hr.form;have HR3:=zHi hr;obtain⟨sg',hsg'⟩:∃sg',decide ((zkc q).num<0)=sg':=⟨_,rfl⟩;rw [hsg']at HR3;rw [hsg'];obtain⟨f,hf⟩:=HK.out.res;have z0:=(hf 0 (by omega)).1;have z1:=(hf 1 (by omega)).1;have z2:=(hf 2 (by omega)).1;have y0:=(hf 0 (by omega)).2;have y1:=(hf 1 (by omega)).2;have y2:=(hf 2 (by omega)).2;have HE:=zHi HK.out.el;clear hf hr hB;gi_wp2;refine zav rfl rfl g rfl rfl z0 z1 z2 ?_;rw [HP.out.1,HP.out.2];refine⟨_,rfl,?_,((HK.out.below.setCell hle _).setCell hle _).setCell hle _⟩;exact((HR3.out.setElem HE.out (by decide)).setElem (HE.out.setCell _ _) (by decide)).setElem ((HE.out.setCell _ _).setCell _ _) (by decide)
     ·rw [decide_eq_false hg1];have HP:=zHi (zbj HNL.out (HG.out.2 hg1));clear hg1;gi_wp2;refine zav rfl rfl g rfl rfl z0 z1 z2 ?_;rw [HP.out.1,HP.out.2];exact⟨_,rfl,zao _,((HK.out.below.setCell hle _).setCell hle _).setCell hle _⟩
    | true=>
     have HHS:=zHi hs;clear hs;gi_wp2_with (first|(exfalso;exact zam (by assumption))|(gi_at_call 165;refine stop ?_))
     unfold Stop;refine(zdR w4 b hbs).mono ?_;rintro e w5 ⟨rfl,hB⟩;rw [HBt.out];replace z0:=(hB.cell HK.out.lt).trans z0;replace z1:=(hB.cell HK.out.lt).trans z1;replace z2:=(hB.cell HK.out.lt).trans z2;replace y0:=(hB.frozen (p:=⟨g,0,none⟩) HK.out.lt).trans y0;replace y1:=(hB.frozen (p:=⟨g,1,none⟩) HK.out.lt).trans y1;replace y2:=(hB.frozen (p:=⟨g,2,none⟩) HK.out.lt).trans y2;replace HK:=zHi (HK.out.step hB);clear hB
     cases hb:zbv (zaF l)with
     | false=>
      have HBB:=zgT HHS.out (.inl hb);clear hb;have HP:=zHi (zbj HNL.out (HBB));gi_wp2_with (exfalso;exact zam (by assumption))
      refine zav rfl rfl g rfl rfl z0 z1 z2 ?_;rw [HP.out.1,HP.out.2];exact⟨_,rfl,zao _,((HK.out.below.setCell hle _).setCell hle _).setCell hle _⟩
     | true=>
      have HCB:=zHi hb;clear hb;by_cases b48:b.toList = [48]
      ·have b48':(b.toList == [48])=true:=by rw [b48];rfl
       have HBB:=zgT (l:=l) HHS.out (.inr (.inl (by rw [←HBt.out,←Lib.toList_data];exact b48)));have HP:=zHi (zbj HNL.out (HBB));gi_wp2_with (exfalso;exact zam (by assumption))
       refine zav rfl rfl g rfl rfl z0 z1 z2 ?_;rw [HP.out.1,HP.out.2];exact⟨_,rfl,zao _,((HK.out.below.setCell hle _).setCell hle _).setCell hle _⟩
      ·have b48':(b.toList == [48])=false:=zgn b48;by_cases b49:b.toList = [49]
       ·have b49':(b.toList == [49])=true:=by rw [b49];rfl
        have HBB:=zgT (l:=l) HHS.out (.inr (.inr (by rw [←HBt.out,←Lib.toList_data];exact b49)));have HP:=zHi (zbj HNL.out (HBB));gi_wp2_with (exfalso;exact zam (by assumption))
        refine zav rfl rfl g rfl rfl z0 z1 z2 ?_;rw [HP.out.1,HP.out.2];exact⟨_,rfl,zao _,((HK.out.below.setCell hle _).setCell hle _).setCell hle _⟩
       ·have b49':(b.toList == [49])=false:=zgn b49;have HBOT:Hid (zbN l=true→zbv (zaF l)=true∧zaF l ≠ [48]∧zaF l ≠ [49]):=zHi (fun _=>⟨HCB.out,by rw [←HBt.out,←Lib.toList_data];exact b48,by rw [←HBt.out,←Lib.toList_data];exact b49⟩);have HG:=zHi (good (l:=l) HCO.out HN48.out HBOT.out);clear z0 z1 z2 y0 y1 y2;gi_wp2_with (first|(exfalso;exact zam (by assumption))|(gi_at_call 166;refine stop ?_))
        unfold Stop;refine(zcP w5 o (zaN (zaz l)) HOw.out (zbY HCO.out) (by have:=zcC l;rw [HN.out]at this;omega)).mono ?_;rintro e w6 ⟨vn,rfl,hvn,hB⟩;replace HK:=zHi (HK.out.step hB);obtain⟨o1,k1,c1,rfl,_,_⟩:=zaG hvn;have HVN:=zHi hvn;clear hvn hB;gi_wp2_with (first|(exfalso;exact zam (by assumption))|(gi_at_call 166;refine stop ?_))
        unfold Stop;have hglt:=HK.out.lt;obtain⟨W6,hW6⟩:∃W,W=w6.alloc (Obj.cells #[Value.bool false,.slice o1 k1 c1,.slice none 0 0] 27):=⟨_,rfl⟩;rw [←hW6];have HBx:Hid (Box3 W6 w6.heap.size (.bool false) (.slice o1 k1 c1) (.slice none 0 0)):=zHi (by rw [hW6];exact zaK _ _ _ _ _);have HX:Hid (∃f,zag W6 w6.heap.size 3 f):=zHi (by rw [hW6];exact(zel _ _ _ _ _).1);have HE6:Hid (Elem W6 w6.heap.size 27):=zHi (by rw [hW6];exact zaO _ _ _);have hBW:Below w6.heap.size w6 W6:=by rw [hW6];exact zaa _ _
        replace HK:=zHi (HK.out.step hBW);replace HVN:=zHi (HVN.out.below hBW);have hgg:=hglt;obtain⟨g6,hg6⟩:∃g6,w6.heap.size=g6:=⟨_,rfl⟩;rw [hg6]at HBx HX HE6 hgg;rw [hg6];clear hW6 hBW;refine(zcP W6 b (zaF l) HBt.out (zbY (HBOT.out HHS.out).1) (by have:=zcC l;rw [HN.out]at this;omega)).mono ?_;rintro e w7 ⟨vd,rfl,hvd,hB⟩;replace HK:=zHi (HK.out.step hB);replace HVN:=zHi (HVN.out.below hB);replace HBx:=zHi (HBx.out.below hB);replace HX:Hid (∃f,zag w7 g6 3 f):=zHi (HX.out.elim fun f hf=>⟨f,hf.below HE6.out.lt hB⟩);replace HE6:=zHi (HE6.out.below hB HE6.out.lt);obtain⟨o2,k2,c2,rfl,_,_⟩:=zaG hvd;have HVD:=zHi hvd;obtain⟨f6,hf6⟩:=HX.out;have x2:=(hf6 2 (by omega)).1;have x3:=(hf6 2 (by omega)).2;clear hvd hB HX;gi_wp2_with (exfalso;exact zam (by assumption))
        obtain⟨W8,hW8⟩:∃W,W=w7.setCell ⟨g6,2,none⟩ (.slice o2 k2 c2):=⟨_,rfl⟩;rw [←hW8];replace HBx:Hid (Box3 W8 g6 (.bool false) (.slice o1 k1 c1) (.slice o2 k2 c2)):=zHi (by rw [hW8];exact HBx.out.set2 x2);replace HVN:Hid (zaq W8 (.slice o1 k1 c1) (zae (zaN (zaz l)))):=zHi (by rw [hW8];exact HVN.out.setElem HE6.out (by decide));replace HVD:Hid (zaq W8 (.slice o2 k2 c2) (zae (zaF l))):=zHi (by rw [hW8];exact HVD.out.setElem HE6.out (by decide));replace HK:Hid (zdd w W8 g):=zHi (by rw [hW8];exact HK.out.set HE6.out.lt (by omega));have hDen:(if zae (zaF l)=0 then 1 else zae (zaF l))=zcE l:=by
         unfold zcE;rw [HHS.out,if_neg]
         ·rfl
         ·have:=(zeK (HBOT.out HHS.out).1).2 (HBOT.out HHS.out).2;omega
        clear hW8 hf6 x2 x3;refine zan (ro:=none) [1,4,5] [0,2,3,1,4,5,6] [0,1,0,4,15,31,63] zak 73 rfl (by kernel_rfl) (by kernel_rfl) ?_;replace HBx:=zHi (HBx.out.below (zab _));replace HVN:=zHi (HVN.out.below (zab _));replace HVD:=zHi (HVD.out.below (zab _));replace HK:=zHi (HK.out.step (zab _));refine OW.loadAll rfl rfl l25 (cs:=[.bool false,.slice o1 k1 c1,.slice o2 k2 c2]) rfl (by decide) HBx.out rfl ?_;simp only [Go.Act.put,zss,zst,zsu];refine OW.fieldAddr rfl rfl ziR rfl ?_;simp only [Go.Act.put,zss,zst,zsu];refine OW.load rfl rfl l23 HBx.out.c1 rfl ?_;simp only [Go.Act.put,zss,zst,zsu];refine OW.call rfl rfl Tryz.func132 rfl zac (args:=[.agg #[.bool false,.slice o1 k1 c1,.slice o2 k2 c2]]) rfl ?_;refine(zfr W8.drew false (.slice o1 k1 c1) (.slice o2 k2 c2) (zae (zaF l)) HVD.out).mono ?_;rintro e wa ⟨va,rfl,hva,hB⟩;rw [hDen]at hva;refine⟨va,rfl,hB,?_⟩;simp only [Go.Act.put,zss,zst,zsu];replace HBx:=zHi (HBx.out.below hB);replace HVN:=zHi (HVN.out.below hB);replace HVD:=zHi (HVD.out.below hB);replace HK:=zHi (HK.out.step hB);have HVA:=zHi hva;clear hva hB;refine OW.call rfl rfl Tryz.func167 rfl zac (args:=[va,.slice o1 k1 c1]) rfl ?_;refine(ze0 wa va _ (zcE l) (zae (zaN (zaz l))) 100000 HVA.out HVN.out (zg9 (by rw [HN.out];omega) HBOT.out) (zg2 (by rw [HN.out];omega) HCO.out) (by omega)).mono ?_;rintro e wb ⟨vb,rfl,hvb,hB⟩;refine⟨vb,rfl,hB,?_⟩;simp only [Go.Act.put,zss,zst,zsu];replace HBx:=zHi (HBx.out.below hB);replace HVN:=zHi (HVN.out.below hB);replace HVD:=zHi (HVD.out.below hB);replace HK:=zHi (HK.out.step hB);have HVB:=zHi hvb;clear hvb hB HVA;refine OW.call rfl rfl Tryz.func168 rfl zac (args:=[vb]) rfl ?_;refine(zcQ wb vb _ HVB.out).mono ?_;rintro e wc ⟨rfl,hB⟩;refine⟨_,rfl,hB,?_⟩;simp only [Go.Act.put,zss,zst,zsu];replace HBx:=zHi (HBx.out.below hB);replace HVN:=zHi (HVN.out.below hB);replace HVD:=zHi (HVD.out.below hB);replace HK:=zHi (HK.out.step hB);clear hB HVB;refine OW.read rfl rfl (.bool (!decide (Nat.gcd (zcE l) (zae (zaN (zaz l)))=1))) (fun w' _=>rfl) ?_;simp only [Go.Act.put,zss];refine OW.done ?_;obtain⟨f,hf⟩:=HK.out.res;have z0:=(hf 0 (by omega)).1;have z1:=(hf 1 (by omega)).1;have z2:=(hf 2 (by omega)).1;have y0:=(hf 0 (by omega)).2;have y1:=(hf 1 (by omega)).2;have y2:=(hf 2 (by omega)).2;clear hf;by_cases hg1:Nat.gcd (zcE l) (zae (zaN (zaz l)))=1
        ·rw [decide_eq_true hg1];obtain⟨q,hq,hnum,hden,hsg⟩:=HG.out.1 hg1;have hP:=zdZ HNL.out hq;rw [HNG.out]at hsg;have HRA:Hid (zaj wc (.agg #[.bool false,.slice o1 k1 c1,.slice o2 k2 c2]) q):=zHi ⟨_,_,by rw [hsg],by rw [hnum];exact HVN.out,by
          rw [hden,←hDen];have h2:=(zeK (HBOT.out HHS.out).1).2 (HBOT.out HHS.out).2;rw [if_neg (show ¬zae (zaF l)=0 by omega),if_neg (show ¬zae (zaF l)=1 by omega)];exact HVD.out⟩
         have HRL:Hid (zad q 100000):=zHi ⟨by rw [hnum];exact zg2 (by rw [HN.out];omega) HCO.out,by rw [hden];exact zg9 (by rw [HN.out];omega) HBOT.out⟩;have HP:=zHi hP;have d0:=HBx.out.c0;have d1:=HBx.out.c1;have d2:=HBx.out.c2;clear hg1 hq hnum hden hsg hP z0 z1 z2 y0 y1 y2;gi_wp2_with (gi_at_call 73;refine stop ?_)
         unfold Stop;refine(zeu wc _ q HRA.out HRL.out (HL.out.pow.below HK.out.below)).mono ?_;rintro e wd ⟨vr,rfl,hr,hB⟩;replace HK:=zHi (HK.out.step hB);obtain⟨o5,k5,c5,o6,k6,c6,rfl⟩:=hr.form;have HR3:=zHi hr;obtain⟨sg',hsg'⟩:∃sg',decide ((zkc q).num<0)=sg':=⟨_,rfl⟩;rw [hsg']at HR3;rw [hsg'];obtain⟨f,hf⟩:=HK.out.res;have z0:=(hf 0 (by omega)).1;have z1:=(hf 1 (by omega)).1;have z2:=(hf 2 (by omega)).1;have y0:=(hf 0 (by omega)).2;have y1:=(hf 1 (by omega)).2;have y2:=(hf 2 (by omega)).2;have HE:=zHi HK.out.el;clear hf hr hB;gi_wp2;refine zav rfl rfl g rfl rfl z0 z1 z2 ?_;rw [HP.out.1,HP.out.2];refine⟨_,rfl,?_,((HK.out.below.setCell hle _).setCell hle _).setCell hle _⟩;exact((HR3.out.setElem HE.out (by decide)).setElem (HE.out.setCell _ _) (by decide)).setElem ((HE.out.setCell _ _).setCell _ _) (by decide)
        ·rw [decide_eq_false hg1];have HP:=zHi (zbj HNL.out (HG.out.2 hg1));clear hg1;gi_wp2;refine zav rfl rfl g rfl rfl z0 z1 z2 ?_;rw [HP.out.1,HP.out.2];exact⟨_,rfl,zao _,((HK.out.below.setCell hle _).setCell hle _).setCell hle _⟩
theorem zj7{n k c:Nat}(h:zcV n (k+1))(h1:limb n k/10^c=0)(h2:c=0∨10^(c-1)≤limb n k):Lib.nDigits n=9*k+c:=by
 have ht:=h.top;have hlt:limb n k<10^c:=by
  rcases Nat.lt_or_ge (limb n k) (10^c)with h|h
  ·exact h
  ·have:=Nat.div_pos h (Nat.pow_pos (by decide));omega
 have hc:c≠0:=by rintro rfl;simp at hlt;omega
 have hD:LenD (limb n k) c:=⟨by omega,hlt,.inr (by rcases h2 with h|h;omega;exact h)⟩;exact zrk (znS h hD).2
theorem zla(w:World)(v:Value)(n:Nat)(h:NatI w v n) :
  CallsIn Fence.wide 0 Tryz.prog 100 #[v] w fun e w'=>e = .returned (.int .i64 ((Lib.nDigits n:Nat):Int))∧Below w.heap.size w w':=by
 obtain⟨k,hk,hl⟩:=h;have HLI:=zHi hk;have hks:=hl.small;obtain⟨o,c,rfl,h1⟩:=hl.form;have H1:=zHi h1;clear hk hl h1;refine callsIn_of_wp Tryz.func100 rfl trivial ?_ rfl;simp only [Tryz.ntmps100,zsj,zsk,zsl,Nat.reduceAdd,Nat.reduceSub,zsm,zsn,zso,zsp,zsq,zsr];by_cases h0:k=0
 ·subst h0;have HN:Hid (Lib.nDigits n=1):=zHi (by rw [HLI.out.zero];exact Lib.nDigits_small (by decide));gi_wp2;all_goals (first|go_returns|go_ret|go_end0)
  exact⟨by rw [HN.out];rfl,Below.refl _ _⟩
 ·obtain⟨m,rfl⟩:∃m,k=m+1:=⟨k-1,by omega⟩;obtain⟨a,rfl,ha,hc⟩:=H1.out (by omega);have p:=hc m (by omega);have htl:limb n m<1000000000:=zaB n m;obtain⟨l,hlm⟩:∃l,limb n m=l:=⟨_,rfl⟩;rw [hlm]at p htl;have HLm:=zHi hlm;have hk0:((m+1:Nat):Int)=(m:Int)+1:=by omega
  clear hc hlm H1 ha h0;gi_wp2;gi_loopw [3,4] (fun x3 x4 wr=>∃(c v:Nat),x3 = .int .i64 ((9*m+c:Nat):Int)∧x4 = .int .i64 (v:Int)∧Hid (l/10^c=v)∧v<1000000000∧Hid (c=0∨10^(c-1)≤l)∧c≤20∧Hid (Below w.heap.size w wr)) (fun _ v _=>(intOf v).toNat)
  case atStart=>exact⟨0,l,by go_num,rfl,zHi (by simp),htl,zHi (.inl rfl),by omega,Below.refl _ w⟩
  case round=>
   obtain⟨c,v,rfl,rfl,HV,hv,HC,hc,HB⟩:=hrel;by_cases hv0:0<v
   ·have hcl:Hid (10^c≤l):=zHi (by
     apply Classical.byContradiction
     intro hno;have:=Nat.div_eq_of_lt (show l<10^c by omega);rw [HV.out]at this;omega)
    have hc9:c<9:=by
     apply Classical.byContradiction
     intro hno;have h1:10^9≤10^c:=Nat.pow_le_pow_right (by decide) (by omega);have:=hcl.out;omega
    gi_wp2;refine⟨⟨c+1,v/10,by go_num,by go_num,?_,by omega,zHi (.inr hcl.out),by omega,HB⟩,by simp only [intOf];omega⟩;rw [Nat.pow_succ,←Nat.div_div_eq_div_mul,HV.out];rfl
   ·have hv00:v=0:=by omega
    subst hv00;gi_wp2;all_goals (first|go_returns|go_ret|go_end0)
    refine⟨?_,HB.out⟩;rw [zj7 (c:=c) HLI.out (by rw [HLm.out];exact HV.out) (by rw [HLm.out];exact HC.out)];rfl
theorem zeL(w:World)(v:Value)(q:Rat)(d:Nat)(h:QAt w v q) :
  CallsIn Fence.wide 0 Tryz.prog 37 #[v,.int .i64 (d:Int)] w fun e w'=>e = .returned (.bool (zaU q d))∧Below w.heap.size w w':=by
 obtain⟨m1,m2,rfl,h1,h2⟩:=h;have HN:=zHi h1;have HD:=zHi h2;obtain⟨o1,k1,c1,rfl,_,_⟩:=zbf h1;obtain⟨o2,k2,c2,rfl,_,_⟩:=zbf h2;obtain⟨sg,hsg⟩:∃sg,decide (q.num<0)=sg:=⟨_,rfl⟩;rw [hsg];clear h1 h2 hsg;refine callsIn_of_wp Tryz.func37 rfl trivial ?_ rfl;simp only [Tryz.ntmps37,zsj,zsk,zsl,Nat.reduceAdd,Nat.reduceSub,zsm,zsn,zso,zsp,zsq,zsr];gi_wp2_with (gi_at_call 100;refine stop ?_)
 unfold Stop;obtain⟨W,hW⟩:∃W,W=w.alloc (Obj.cells #[Value.bool sg,Value.slice o1 k1 c1,Value.bool false,Value.slice o2 k2 c2] 62):=⟨_,rfl⟩;rw [←hW];have HBW:Hid (Below w.heap.size w W):=zHi (by rw [hW];exact zaa _ _);have x3:W.cell? ⟨w.heap.size,3,none⟩=some (.slice o2 k2 c2):=by rw [hW,World.cell?_alloc_new];rfl
 clear hW;refine(zla W _ _ (HN.out.below HBW.out)).mono ?_;rintro e w2 ⟨rfl,hB⟩;replace x3:=(hB.cell (World.block_lt_of_cell? _ _ x3)).trans x3;replace HBW:=zHi (HBW.out.trans (hB.mono HBW.out.size));obtain⟨a,ha⟩:∃a,Lib.nDigits q.num.natAbs=a:=⟨_,rfl⟩;have HA:=zHi ha;rw [ha];clear hB ha;by_cases had:a≤d
 ·have had':decide ((a:Int)≤(d:Int))=true:=decide_eq_true (by omega);have HAD:Hid (decide (a≤d)=true):=zHi (decide_eq_true had);gi_wp2_with (gi_at_call 100;refine stop ?_)
  unfold Stop;refine(zla w2 _ _ (HD.out.below HBW.out)).mono ?_;rintro e w3 ⟨rfl,hB⟩;replace HBW:=zHi (HBW.out.trans (hB.mono HBW.out.size));obtain⟨b,hb⟩:∃b,Lib.nDigits q.den=b:=⟨_,rfl⟩;have HB:=zHi hb;rw [hb];clear hB hb;gi_wp2;all_goals (first|go_returns|go_ret|go_end0)
  refine⟨?_,HBW.out⟩;unfold zaU;rw [HA.out,HB.out,HAD.out,Bool.true_and];rfl
 ·have had':decide ((a:Int)≤(d:Int))=false:=decide_eq_false (by omega);have HAD:Hid (decide (a≤d)=false):=zHi (decide_eq_false had);gi_wp2_with (exfalso;exact zam (by assumption))
  all_goals (first|go_returns|go_ret|go_end0)
  refine⟨?_,HBW.out⟩;unfold zaU;rw [HA.out,HAD.out,Bool.false_and];rfl
end Go.Num
