/-
  'Parse' of the program.
  Conditions: see each statement.
-/
import Derived.Test.YtoamcgjbelhnkaaGreatDoorSAA
import Derived.Test.YtoamcgjbelhnkaaGreatDoorSAG
import Derived.BigFrameIn
set_option maxRecDepth 100000
set_option maxHeartbeats 8000000
namespace Go.Num
open Go.Eng Go.Shelf Go.RowKit Go.Sort Go.Proofs Go.Proofs.YtoamcgjbelhnkaaGreatDoor
def zay(l:List UInt8):List UInt8:=if zat l<l.length then l.take (zat l)else l
def zaH(l:List UInt8):List UInt8:=if zat l<l.length then l.drop (zat l+1)else []
def zbD(l:List UInt8):Bool:=decide (zat l<l.length)
theorem zqT(w:World)(s:ByteArray)(hs:s.size≤100000)(hL:Laid w) :
  CallsIn Fence.wide 0 Tryz.prog 59 #[.string s,.string ⟨#[47]⟩] w fun e w'=>∃t b:ByteArray,e = .returned (.tuple #[.string t,.string b,.bool (zbD s.data.toList)])∧t.data.toList=zay s.data.toList∧b.data.toList=zaH s.data.toList∧Below w.heap.size w w':=by
 obtain⟨m,hm⟩:=hL.len;refine callsIn_wide.2 ((Tryz.strings_Cut s ⟨#[47]⟩ m w (by omega) hm).mono ?_);rintro e w' ⟨rfl,n,rfl⟩;have hc:Lib.cut s.data.toList (⟨#[47]⟩:ByteArray).data.toList=(zay s.data.toList,zaH s.data.toList,zbD s.data.toList):=by
  show Lib.cut s.data.toList [47]=_
  rw [zqS];unfold zay zaH zbD;by_cases h:zat s.data.toList<s.data.toList.length
  ·rw [if_pos h,if_pos h,if_pos h,decide_eq_true h]
  ·rw [if_neg h,if_neg h,if_neg h,decide_eq_false h]
 rw [hc];exact⟨_,_,rfl,rfl,rfl,zbh _ _⟩
theorem zp5(w:World)(t:ByteArray) :
  CallsIn Fence.wide 0 Tryz.prog 60 #[.string t,.string ⟨#[45]⟩] w fun e w'=>∃o:ByteArray,e = .returned (.tuple #[.string o,.bool (zbY t.data.toList)])∧o.data.toList=zaR t.data.toList∧Below w.heap.size w w':=by
 refine callsIn_wide.2 ((Tryz.strings_CutPrefix t ⟨#[45]⟩ w).mono ?_);rintro e w' ⟨rfl,rfl⟩;exact⟨_,rfl,rfl,Below.refl _ _⟩
theorem zfb(w:World)(sg:Bool)(vn vd:Value)(d:Nat)(hd:zas w vd d) :
  CallsIn Fence.wide 0 Tryz.prog 64 #[.agg #[.bool sg,vn,vd]] w fun e w'=>∃v',e = .returned v'∧zas w' v' (if d=0 then 1 else d)∧Below w.heap.size w w':=by
 by_cases h1:d=0
 ·rw [if_pos h1];subst h1;obtain⟨o,k,c,rfl,hk,hk9⟩:=zaI hd;have hk0:k=0:=hk.2 rfl;subst hk0;clear hk hd;refine callsIn_of_wp Tryz.func64 rfl trivial ?_ rfl;simp only [Tryz.ntmps64,ztH,ztI,ztJ,Nat.reduceAdd,Nat.reduceSub,ztK,ztL,ztM,ztN,ztO,ztP];gi_wp2;all_goals (first|go_returns|go_ret|go_end0)
  have h:=zly (w.alloc (.cells #[.bool sg,vn,.slice o 0 c] 25));rw [show(w.alloc (.cells #[.bool sg,vn,.slice o 0 c] 25)).heap.size=w.heap.size+1 by simp]at h;refine⟨_,rfl,h,?_⟩;exact((zaa w _).alloc (by simp) _)
 ·rw [if_neg h1];have HD:=zHi hd;obtain⟨o,k,c,rfl,hk,hk9⟩:=zaI hd;have hk0:¬(k:Int)=0:=by
   intro h;exact h1 (hk.1 (by omega))
  clear hk hd;refine callsIn_of_wp Tryz.func64 rfl trivial ?_ rfl;simp only [Tryz.ntmps64,ztH,ztI,ztJ,Nat.reduceAdd,Nat.reduceSub,ztK,ztL,ztM,ztN,ztO,ztP];gi_wp2;all_goals (first|go_returns|go_ret|go_end0)
  exact⟨_,rfl,HD.out.below (zaa w _),zaa w _⟩
def zhy(l:List UInt8):Int:=if 41000<l.length then 2 else match zcg l with|none=>10|some q=>zqw q
def zhx(l:List UInt8):Rat:=if 41000<l.length then 0 else match zcg l with|none=>0|some q=>zko q
theorem zoV{l:List UInt8}(h:41000<l.length):zhy l=2∧zhx l=0:=⟨if_pos h,if_pos h⟩
theorem zba{l:List UInt8}(h:¬41000<l.length)(hf:zcg l=none):zhy l=10∧zhx l=0:=by
 unfold zhy zhx;rw [if_neg h,if_neg h,hf];exact⟨rfl,rfl⟩
theorem zdM{l:List UInt8}(h:¬41000<l.length){q:Rat}(hf:zcg l=some q):zhy l=zqw q∧zhx l=zko q:=by
 unfold zhy zhx;rw [if_neg h,if_neg h,hf];exact⟨rfl,rfl⟩
theorem zq5{l:List UInt8}(h:zbj (zaR (zay l))=false∨zbY (zay l)=true∧zaR (zay l) = [48]):zcg l=none:=by
 have hz:zbF (zay l)=none:=by
  unfold zbF;rw [if_neg];rcases h with h|⟨h1,h2⟩
  ·rw [h];simp
  ·rw [h1,h2];simp
 unfold zcg;unfold zay at hz;split
 ·rename_i hs;rw [if_pos hs]at hz;rw [hz]
 ·rename_i hs;rw [if_neg hs]at hz;rw [hz]
theorem zey{b:List UInt8}(hc:zbj b=true):2≤zaf b↔b ≠ [48]∧b ≠ [49]:=by
 constructor
 ·intro h;constructor
  ·rintro rfl;simp [zbW]at h
  ·rintro rfl;simp [zbW]at h
 ·rintro⟨h0,h1⟩;apply Classical.byContradiction
  intro hno;have e:=zlY hc;have:zaf b=0∨zaf b=1:=by omega
  rcases this with h|h
  ·rw [h,Lib.decDigits]at e;exact h0 e.symm
  ·rw [h,Lib.decDigits]at e;exact h1 e.symm
theorem zgE{l:List UInt8}(hs:zbD l=true)(h:zbj (zaH l)=false∨zaH l = [48]∨zaH l = [49]):zcg l=none:=by
 have hs':zat l<l.length:=of_decide_eq_true hs;unfold zcg;unfold zaH at h;rw [if_pos hs']at h ⊢;split
 ·rfl
 ·rw [if_neg];rcases h with h|h|h
  ·rw [h];simp
  ·rw [h];simp [zbW]
  ·rw [h];simp [zbW]
def zco(l:List UInt8):Nat:=if zbD l=true then zaf (zaH l)else 1
theorem neg_pos{o:List UInt8}(hc:zbj o=true)(h:o ≠ [48]):0<zaf o:=by
 apply Classical.byContradiction
 intro hno;have e:=zlY hc;rw [show zaf o=0 by omega,Lib.decDigits]at e;exact h e.symm
theorem good{l:List UInt8}(h1:zbj (zaR (zay l))=true)(h2:zbY (zay l)=true→zaR (zay l) ≠ [48])(h3:zbD l=true→zbj (zaH l)=true∧zaH l ≠ [48]∧zaH l ≠ [49]) :
  (Nat.gcd (zco l) (zaf (zaR (zay l)))=1→∃q,zcg l=some q∧q.num.natAbs=zaf (zaR (zay l))∧q.den=zco l∧decide (q.num<0)=zbY (zay l))∧(Nat.gcd (zco l) (zaf (zaR (zay l)))≠1→zcg l=none):=by
 have hz:zbF (zay l)=some (sgn (zbY (zay l)) (zaf (zaR (zay l)))):=by
  unfold zbF;rw [if_pos];rw [h1]
  cases hn:zbY (zay l)with
  | false=>rfl
  | true=>
   have:=h2 hn;simp [this]
 have hsg:decide (sgn (zbY (zay l)) (zaf (zaR (zay l)))<0)=zbY (zay l):=by
  cases hn:zbY (zay l)with
  | false=>exact decide_eq_false (by show ¬((zaf (zaR (zay l)):Nat):Int)<0;omega)
  | true=>
   have:=neg_pos h1 (h2 hn);exact decide_eq_true (by show(-((zaf (zaR (zay l)):Nat):Int))<0;omega)
 cases hs:zbD l with
 | false=>
  have hs':¬zat l<l.length:=of_decide_eq_false hs;have hd:zco l=1:=by unfold zco;rw [hs];rfl
  rw [hd];refine⟨fun _ => ?_,fun h=>absurd (Nat.gcd_one_left _) h⟩;have ht:zay l=l:=by unfold zay;rw [if_neg hs']
  refine⟨((sgn (zbY (zay l)) (zaf (zaR (zay l))):Int):Rat),?_,?_,Rat.den_intCast _,?_⟩
  ·unfold zcg;rw [if_neg hs'];rw [ht]at hz ⊢;rw [hz]
  ·rw [Rat.num_intCast,zbl]
  ·rw [Rat.num_intCast];exact hsg
 | true=>
  have hs':zat l<l.length:=of_decide_eq_true hs;have hd:zco l=zaf (zaH l):=by unfold zco;rw [hs];rfl
  obtain⟨c1,c2,c3⟩:=h3 hs;have h2':=(zey c1).2 ⟨c2,c3⟩;rw [hd];have e:zcg l=if(zbj (zaH l) && decide (2≤zaf (zaH l)) && decide (Nat.gcd (sgn (zbY (zay l)) (zaf (zaR (zay l)))).natAbs (zaf (zaH l))=1))=true then some ((sgn (zbY (zay l)) (zaf (zaR (zay l))):Rat)/(zaf (zaH l):Rat))else none:=by
   unfold zcg;rw [if_pos hs'];have ht:l.take (zat l)=zay l:=by unfold zay;rw [if_pos hs']
   have hb:l.drop (zat l+1)=zaH l:=by unfold zaH;rw [if_pos hs']
   rw [ht,hb,hz]
  rw [c1,decide_eq_true h2',Bool.true_and,Bool.true_and,zbl]at e;refine⟨fun hg => ?_,fun hg => ?_⟩
  ·rw [Nat.gcd_comm]at hg;rw [if_pos (decide_eq_true hg)]at e;have hp:=zfo (z:=sgn (zbY (zay l)) (zaf (zaR (zay l)))) (d:=zaf (zaH l)) (by omega) (by rw [zbl];exact hg);refine⟨_,e,?_,hp.2,?_⟩
   ·rw [hp.1,zbl]
   ·rw [hp.1];exact hsg
  ·rw [Nat.gcd_comm]at hg;rw [if_neg (by simpa using hg)]at e;exact e
theorem zcl(l:List UInt8):(zaR (zay l)).length≤l.length∧(zaH l).length≤l.length∧(zay l).length≤l.length:=by
 have h1:(zay l).length≤l.length:=by
  unfold zay;split
  ·rw [List.length_take];omega
  ·exact Nat.le_refl _
 refine⟨?_,?_,h1⟩
 ·refine Nat.le_trans ?_ h1;unfold zaR Lib.trimPrefix;split
  ·rw [List.length_drop];omega
  ·exact Nat.le_refl _
 ·unfold zaH;split
  ·rw [List.length_drop];omega
  ·simp
structure zc0(w W:World)(g:Nat):Prop where
 res:∃f,zaj W g 3 f
 el:Elem W g 25
 below:Below w.heap.size w W
 le:w.heap.size≤g
theorem zc0.lt{w W:World}{g:Nat}(h:zc0 w W g):g<W.heap.size:=h.el.lt
theorem zc0.step{w W W':World}{g:Nat}(h:zc0 w W g)(hb:Below W.heap.size W W'):zc0 w W' g:=by
 obtain⟨f,hf⟩:=h.res;exact⟨⟨f,hf.below h.lt hb⟩,h.el.below hb h.lt,h.below.trans (hb.mono h.below.size),h.le⟩
theorem zmA(w:World)(x y z:Value):zc0 w (w.alloc (.cells #[x,y,z] 25)) w.heap.size:=by
 have h:=ze2 w x y z 25;exact⟨h.1,zaB _ _ _,h.2.2,Nat.le_refl _⟩
theorem zc0.set{w W:World}{g g6:Nat}(h:zc0 w W g)(_h6:g6<W.heap.size)(hne:g<g6){i:Nat}{u:Value}:zc0 w (W.setCell ⟨g6,i,none⟩ u) g:=by
 obtain⟨f,hf⟩:=h.res;exact⟨⟨f,fun j hj=>⟨(World.cell?_setCell_other _ _ _ _ (by intro e;injection e with e _ _;omega)).trans (hf j hj).1,by rw [World.frozen?_setCell];exact(hf j hj).2⟩⟩,h.el.setCell _ _,h.below.setCell (by have:=h.le;show _≤g6;omega) _,h.le⟩
theorem zgN{l:List UInt8}(h:l.length≤41000)(hc:zbj (zaR (zay l))=true):zaf (zaR (zay l))<B^100000:=
 zaX 100000 (zfK (k:=4556) (zbM hc) (by have:=zcl l;omega)) (by decide)
theorem zgR{l:List UInt8}(h:l.length≤41000)(hb:zbD l=true→zbj (zaH l)=true∧zaH l ≠ [48]∧zaH l ≠ [49]):zco l<B^100000:=by
 unfold zco;split
 ·rename_i hs;exact zaX 100000 (zfK (k:=4556) (zbM (hb hs).1) (by have:=zcl l;omega)) (by decide)
 ·exact zaX 100000 (show 1<B^1 by decide) (by decide)
theorem Box3.set2{w:World}{g:Nat}{x y z u v:Value}(h:Box3 w g x y z)(hc:w.cell? ⟨g,2,none⟩=some v):Box3 (w.setCell ⟨g,2,none⟩ u) g x y u:=by
 have n (j:Nat) (hj:j≠2):(⟨g,2,none⟩:Addr)≠⟨g,j,none⟩:=by intro e;injection e with _ e;omega
 intro j x' hj;match j,hj with
 | 0,hj=>rw [World.cell?_setCell_other _ _ _ _ (n 0 (by omega)),←hj];exact h.c0
 | 1,hj=>rw [World.cell?_setCell_other _ _ _ _ (n 1 (by omega)),←hj];exact h.c1
 | 2,hj=>rw [World.cell?_setCell_same _ _ _ hc,←hj];rfl
 | k+3,hj=>simp at hj
theorem zmz{fn:Func}{p t:Tmp}{R:Ending→World→Prop}{a:Act}{w:World}{x y z u:Value}(h:fn.results=#[.cell p 25,.tmp t])(hd:a.defers = [])(g:Nat)(hp:a.tmps.getD p undef = .pointer (some ⟨g,0,none⟩))(ht:a.tmps.getD t undef=u)
  (hc:Box3 w g x y z) (hR:R (.returned (.tuple #[.agg #[x,y,z],u])) w):bodyPost Tryz.prog fn R .ret a w:=by
 refine⟨hd,.tuple #[.agg #[x,y,z],u],?_,hR⟩;have e1:=l25 g [x,y,z] w rfl hc;simp only [Instr.loadAt,Instr.sureAddr,Sem.run_bind,Sem.run_pure,Result.andThen_ok]at e1;have hp2:a.tmps[p]?.getD undef = .pointer (some ⟨g,0,none⟩):=by rw [←Array.getD_eq_getD_getElem?];exact hp
 have ht2:a.tmps[t]?.getD undef=u:=by rw [←Array.getD_eq_getD_getElem?];exact ht
 simp [results,h,hp2,ht2,asAddr,e1]
theorem zae{b:Bool}(h:some undef=some (Value.bool b)):False:=by
 injection h with h
 cases h
theorem zf8{l m:List UInt8}(h:¬l=m):(l == m)=false:=beq_false_of_ne h
theorem zlo(w:World)(s:ByteArray)(l:List UInt8)(hl:s.data.toList=l)(hL:Laid w) :
  CallsIn Fence.wide 0 Tryz.prog 11 #[.string s] w fun e w'=>∃v',e = .returned (.tuple #[v',.int .i64 (zhy l)])∧zau w' v' (zhx l)∧Below w.heap.size w w':=by
 have hsz:s.size=l.length:=by rw [Lib.size_eq,hl]
 have HSL:=zHi hl;have HL:=zHi hL;obtain⟨n,hn⟩:∃n,l.length=n:=⟨_,rfl⟩;have HN:=zHi hn;rw [hn]at hsz;clear hl hL hn;have hmf:∀(fn:Fn) (first cap:Array Value) (w:World),(Instr.makeFunc fn first cap).run Tryz.prog w = .ok (.func fn first cap) w:=fun _ _ _ _=>rfl
 refine callsIn_of_wp Tryz.func11 rfl trivial ?_ rfl;simp only [Tryz.ntmps11,ztH,ztI,ztJ,Nat.reduceAdd,Nat.reduceSub,ztK,ztL,ztM,ztN,ztO,ztP];by_cases hlong:41000<n
 ·have hlong':decide ((n:Int)>41000)=true:=decide_eq_true (by omega);have hP:=zoV (l:=l) (by rw [HN.out];exact hlong);gi_wp2;refine zmz rfl rfl w.heap.size rfl rfl (zbu w (.bool false) (.slice none 0 0) (.slice none 0 0) 25) ?_;rw [hP.1,hP.2];exact⟨_,rfl,zaS _,zaa _ _⟩
 ·have hlong':decide ((n:Int)>41000)=false:=decide_eq_false (by omega);have HNL:Hid (¬41000<l.length):=zHi (by rw [HN.out];exact hlong);gi_wp2_with (gi_at_call 59;refine stop ?_)
  unfold Stop;obtain⟨W,hW⟩:∃W,W=w.alloc (Obj.cells #[Value.bool false,Value.slice none 0 0,Value.slice none 0 0] 25):=⟨_,rfl⟩;rw [←hW];have HK:Hid (zc0 w W w.heap.size):=zHi (by rw [hW];exact zmA _ _ _ _);obtain⟨g,hg⟩:∃g,w.heap.size=g:=⟨_,rfl⟩;rw [hg]at HK;rw [hg];clear hW hg;refine(zqT W s (by omega) (HL.out.below HK.out.below)).mono ?_;rintro e w2 ⟨t,b,rfl,ht,hb,hB⟩;rw [HSL.out]at ht hb ⊢;replace HK:=zHi (HK.out.step hB);have HT:=zHi ht;have HBt:=zHi hb;clear ht hb hB;gi_wp2_with (gi_at_call 60;refine stop ?_)
  refine(zp5 w2 t).mono ?_;rintro e w3 ⟨o,rfl,ho,hB⟩;rw [HT.out]at ho ⊢;replace HK:=zHi (HK.out.step hB);have HOw:=zHi ho;have hos:o.size≤100000:=by
   have:=zcl l;rw [HN.out]at this;rw [Lib.size_eq,ho];omega
  have hbs:b.size≤100000:=by
   have:=zcl l;rw [HN.out]at this;rw [Lib.size_eq,HBt.out];omega
  clear ho hB;gi_wp2_with (gi_at_call 61;refine stop ?_)
  refine(zdz w3 o hos).mono ?_;rintro e w4 ⟨rfl,hB⟩;rw [HOw.out];replace HK:=zHi (HK.out.step hB);clear hB;obtain⟨f,hf⟩:=HK.out.res;have z0:=(hf 0 (by omega)).1;have z1:=(hf 1 (by omega)).1;have z2:=(hf 2 (by omega)).1;have y0:=(hf 0 (by omega)).2;have y1:=(hf 1 (by omega)).2;have y2:=(hf 2 (by omega)).2;have hle:=HK.out.le;clear hf
  cases hc:zbj (zaR (zay l))with
  | false=>
   have HP:=zHi (zba HNL.out (zq5 (.inl hc)));gi_wp2_with (exfalso;exact zae (by assumption))
   refine zaG rfl rfl g rfl rfl z0 z1 z2 ?_;rw [HP.out.1,HP.out.2];exact⟨_,rfl,zaS _,((HK.out.below.setCell hle _).setCell hle _).setCell hle _⟩
  | true=>
   have HCO:=zHi hc;clear hc
   cases hn:zbY (zay l)with
   | true=>
    have HNG:=zHi hn;clear hn;by_cases h48:o.toList = [48]
    ·have h48':(o.toList == [48])=true:=by rw [h48];rfl
     have hb48:=zq5 (l:=l) (.inr ⟨HNG.out,by rw [←HOw.out,←Lib.toList_data];exact h48⟩);have HP:=zHi (zba HNL.out (hb48));gi_wp2_with (exfalso;exact zae (by assumption))
     refine zaG rfl rfl g rfl rfl z0 z1 z2 ?_;rw [HP.out.1,HP.out.2];exact⟨_,rfl,zaS _,((HK.out.below.setCell hle _).setCell hle _).setCell hle _⟩
    ·have h48':(o.toList == [48])=false:=zf8 h48;have HN48:Hid (zbY (zay l)=true→zaR (zay l) ≠ [48]):=zHi (fun _=>by rw [←HOw.out,←Lib.toList_data];exact h48)
     cases hs:zbD l with
     | false=>
      have HHS:=zHi hs;have HBOT:Hid (zbD l=true→zbj (zaH l)=true∧zaH l ≠ [48]∧zaH l ≠ [49]):=zHi (fun h=>by rw [hs]at h;cases h);clear hs;have HG:=zHi (good (l:=l) HCO.out HN48.out HBOT.out);clear z0 z1 z2 y0 y1 y2;gi_wp2_with (first|(exfalso;exact zae (by assumption))|(gi_at_call 62;refine stop ?_))
      refine(zcB w4 o (zaR (zay l)) HOw.out (zbM HCO.out) (by have:=zcl l;rw [HN.out]at this;omega)).mono ?_;rintro e w6 ⟨vn,rfl,hvn,hB⟩;replace HK:=zHi (HK.out.step hB);obtain⟨o1,k1,c1,rfl,_,_⟩:=zaI hvn;have HVN:=zHi hvn;clear hvn hB;gi_wp2_with (exfalso;exact zae (by assumption))
      obtain⟨W6,hW6⟩:∃W,W=w6.alloc (Obj.cells #[Value.bool true,.slice o1 k1 c1,.slice none 0 0] 25):=⟨_,rfl⟩;rw [←hW6];have HBx:Hid (Box3 W6 w6.heap.size (.bool true) (.slice o1 k1 c1) (.slice none 0 0)):=zHi (by rw [hW6];exact zbu _ _ _ _ _);have hBW:Below w6.heap.size w6 W6:=by rw [hW6];exact zaa _ _
      replace HK:=zHi (HK.out.step hBW);replace HVN:=zHi (HVN.out.below hBW);have HVD:Hid (zas W6 (.slice none 0 0) 0):=zHi ⟨0,zbC,.inl ⟨rfl,none,0,rfl⟩⟩;obtain⟨o2,k2,c2,hv2⟩:∃o2 k2 c2,(Value.slice none 0 0) = .slice o2 k2 c2:=⟨_,_,_,rfl⟩;rw [hv2]at HBx HVD;have hDen:(if(0:Nat)=0 then 1 else 0)=zco l:=by unfold zco;rw [HHS.out];rfl
      clear hW6 hBW hv2;refine zao (ro:=none) [1,4,5] [0,2,3,1,4,5,6] [0,1,0,4,15,31,63] zaq 73 rfl (by kernel_rfl) (by kernel_rfl) ?_;replace HBx:=zHi (HBx.out.below (zab _));replace HVN:=zHi (HVN.out.below (zab _));replace HVD:=zHi (HVD.out.below (zab _));replace HK:=zHi (HK.out.step (zab _));refine OW.loadAll rfl rfl l25 (cs:=[.bool true,.slice o1 k1 c1,.slice o2 k2 c2]) rfl (by decide) HBx.out rfl ?_;simp only [Go.Act.put,ztQ,ztR,ztS];refine OW.fieldAddr rfl rfl ziz rfl ?_;simp only [Go.Act.put,ztQ,ztR,ztS];refine OW.load rfl rfl l23 HBx.out.c1 rfl ?_;simp only [Go.Act.put,ztQ,ztR,ztS];refine OW.call rfl rfl Tryz.func64 rfl zah (args:=[.agg #[.bool true,.slice o1 k1 c1,.slice o2 k2 c2]]) rfl ?_;refine(zfb W6.drew true (.slice o1 k1 c1) (.slice o2 k2 c2) 0 HVD.out).mono ?_;rintro e wa ⟨va,rfl,hva,hB⟩;rw [hDen]at hva;refine⟨va,rfl,hB,?_⟩;simp only [Go.Act.put,ztQ,ztR,ztS];replace HBx:=zHi (HBx.out.below hB);replace HVN:=zHi (HVN.out.below hB);replace HVD:=zHi (HVD.out.below hB);replace HK:=zHi (HK.out.step hB);have HVA:=zHi hva;clear hva hB;refine OW.call rfl rfl Tryz.func63 rfl zah (args:=[va,.slice o1 k1 c1]) rfl ?_;refine(zeN wa va _ (zco l) (zaf (zaR (zay l))) 100000 HVA.out HVN.out (zgR (by rw [HN.out];omega) HBOT.out) (zgN (by rw [HN.out];omega) HCO.out) (by omega)).mono ?_;rintro e wb ⟨vb,rfl,hvb,hB⟩;refine⟨vb,rfl,hB,?_⟩;simp only [Go.Act.put,ztQ,ztR,ztS];replace HBx:=zHi (HBx.out.below hB);replace HVN:=zHi (HVN.out.below hB);replace HVD:=zHi (HVD.out.below hB);replace HK:=zHi (HK.out.step hB);have HVB:=zHi hvb;clear hvb hB HVA;refine OW.call rfl rfl Tryz.func65 rfl zah (args:=[vb]) rfl ?_;refine(zcC wb vb _ HVB.out).mono ?_;rintro e wc ⟨rfl,hB⟩;refine⟨_,rfl,hB,?_⟩;simp only [Go.Act.put,ztQ,ztR,ztS];replace HBx:=zHi (HBx.out.below hB);replace HVN:=zHi (HVN.out.below hB);replace HVD:=zHi (HVD.out.below hB);replace HK:=zHi (HK.out.step hB);clear hB HVB;refine OW.read rfl rfl (.bool (!decide (Nat.gcd (zco l) (zaf (zaR (zay l)))=1))) (fun w' _=>rfl) ?_;simp only [Go.Act.put,ztQ];refine OW.done ?_;obtain⟨f,hf⟩:=HK.out.res;have z0:=(hf 0 (by omega)).1;have z1:=(hf 1 (by omega)).1;have z2:=(hf 2 (by omega)).1;have y0:=(hf 0 (by omega)).2;have y1:=(hf 1 (by omega)).2;have y2:=(hf 2 (by omega)).2;clear hf;by_cases hg1:Nat.gcd (zco l) (zaf (zaR (zay l)))=1
      ·rw [decide_eq_true hg1];obtain⟨q,hq,hnum,hden,hsg⟩:=HG.out.1 hg1;have hP:=zdM HNL.out hq;rw [HNG.out]at hsg;have HRA:Hid (zau wc (.agg #[.bool true,.slice o1 k1 c1,.slice o2 k2 c2]) q):=zHi ⟨_,_,by rw [hsg],by rw [hnum];exact HVN.out,by
        rw [hden,←hDen];exact HVD.out⟩
       have HRL:Hid (zan q 100000):=zHi ⟨by rw [hnum];exact zgN (by rw [HN.out];omega) HCO.out,by rw [hden];exact zgR (by rw [HN.out];omega) HBOT.out⟩;have HP:=zHi hP;have d0:=HBx.out.c0;have d1:=HBx.out.c1;have d2:=HBx.out.c2;clear hg1 hq hnum hden hsg hP z0 z1 z2 y0 y1 y2;gi_wp2_with (gi_at_call 66;refine stop ?_)
       refine(zef wc _ q HRA.out HRL.out (HL.out.pow.below HK.out.below)).mono ?_;rintro e wd ⟨vr,rfl,hr,hB⟩;replace HK:=zHi (HK.out.step hB);obtain⟨o5,k5,c5,o6,k6,c6,rfl⟩:=hr.form;have HR3:=zHi hr;obtain⟨sg',hsg'⟩:∃sg',decide ((zko q).num<0)=sg':=⟨_,rfl⟩;rw [hsg']at HR3;rw [hsg'];obtain⟨f,hf⟩:=HK.out.res;have z0:=(hf 0 (by omega)).1;have z1:=(hf 1 (by omega)).1;have z2:=(hf 2 (by omega)).1;have y0:=(hf 0 (by omega)).2;have y1:=(hf 1 (by omega)).2;have y2:=(hf 2 (by omega)).2;have HE:=zHi HK.out.el;clear hf hr hB;gi_wp2;refine zaG rfl rfl g rfl rfl z0 z1 z2 ?_;rw [HP.out.1,HP.out.2];refine⟨_,rfl,?_,((HK.out.below.setCell hle _).setCell hle _).setCell hle _⟩;exact((HR3.out.setElem HE.out (by decide)).setElem (HE.out.setCell _ _) (by decide)).setElem ((HE.out.setCell _ _).setCell _ _) (by decide)
      ·rw [decide_eq_false hg1];have HP:=zHi (zba HNL.out (HG.out.2 hg1));clear hg1;gi_wp2;refine zaG rfl rfl g rfl rfl z0 z1 z2 ?_;rw [HP.out.1,HP.out.2];exact⟨_,rfl,zaS _,((HK.out.below.setCell hle _).setCell hle _).setCell hle _⟩
     | true=>
      have HHS:=zHi hs;clear hs;gi_wp2_with (first|(exfalso;exact zae (by assumption))|(gi_at_call 61;refine stop ?_))
      refine(zdz w4 b hbs).mono ?_;rintro e w5 ⟨rfl,hB⟩;rw [HBt.out];replace z0:=(hB.cell HK.out.lt).trans z0;replace z1:=(hB.cell HK.out.lt).trans z1;replace z2:=(hB.cell HK.out.lt).trans z2;replace y0:=(hB.frozen (p:=⟨g,0,none⟩) HK.out.lt).trans y0;replace y1:=(hB.frozen (p:=⟨g,1,none⟩) HK.out.lt).trans y1;replace y2:=(hB.frozen (p:=⟨g,2,none⟩) HK.out.lt).trans y2;replace HK:=zHi (HK.out.step hB);clear hB
      cases hb:zbj (zaH l)with
      | false=>
       have HBB:=zgE HHS.out (.inl hb);clear hb;have HP:=zHi (zba HNL.out (HBB));gi_wp2_with (exfalso;exact zae (by assumption))
       refine zaG rfl rfl g rfl rfl z0 z1 z2 ?_;rw [HP.out.1,HP.out.2];exact⟨_,rfl,zaS _,((HK.out.below.setCell hle _).setCell hle _).setCell hle _⟩
      | true=>
       have HCB:=zHi hb;clear hb;by_cases b48:b.toList = [48]
       ·have b48':(b.toList == [48])=true:=by rw [b48];rfl
        have HBB:=zgE (l:=l) HHS.out (.inr (.inl (by rw [←HBt.out,←Lib.toList_data];exact b48)));have HP:=zHi (zba HNL.out (HBB));gi_wp2_with (exfalso;exact zae (by assumption))
        refine zaG rfl rfl g rfl rfl z0 z1 z2 ?_;rw [HP.out.1,HP.out.2];exact⟨_,rfl,zaS _,((HK.out.below.setCell hle _).setCell hle _).setCell hle _⟩
       ·have b48':(b.toList == [48])=false:=zf8 b48;by_cases b49:b.toList = [49]
        ·have b49':(b.toList == [49])=true:=by rw [b49];rfl
         have HBB:=zgE (l:=l) HHS.out (.inr (.inr (by rw [←HBt.out,←Lib.toList_data];exact b49)));have HP:=zHi (zba HNL.out (HBB));gi_wp2_with (exfalso;exact zae (by assumption))
         refine zaG rfl rfl g rfl rfl z0 z1 z2 ?_;rw [HP.out.1,HP.out.2];exact⟨_,rfl,zaS _,((HK.out.below.setCell hle _).setCell hle _).setCell hle _⟩
        ·have b49':(b.toList == [49])=false:=zf8 b49;have HBOT:Hid (zbD l=true→zbj (zaH l)=true∧zaH l ≠ [48]∧zaH l ≠ [49]):=zHi (fun _=>⟨HCB.out,by rw [←HBt.out,←Lib.toList_data];exact b48,by rw [←HBt.out,←Lib.toList_data];exact b49⟩);have HG:=zHi (good (l:=l) HCO.out HN48.out HBOT.out);clear z0 z1 z2 y0 y1 y2;gi_wp2_with (first|(exfalso;exact zae (by assumption))|(gi_at_call 62;refine stop ?_))
         refine(zcB w5 o (zaR (zay l)) HOw.out (zbM HCO.out) (by have:=zcl l;rw [HN.out]at this;omega)).mono ?_;rintro e w6 ⟨vn,rfl,hvn,hB⟩;replace HK:=zHi (HK.out.step hB);obtain⟨o1,k1,c1,rfl,_,_⟩:=zaI hvn;have HVN:=zHi hvn;clear hvn hB;gi_wp2_with (first|(exfalso;exact zae (by assumption))|(gi_at_call 62;refine stop ?_))
         unfold Stop;have hglt:=HK.out.lt;obtain⟨W6,hW6⟩:∃W,W=w6.alloc (Obj.cells #[Value.bool true,.slice o1 k1 c1,.slice none 0 0] 25):=⟨_,rfl⟩;rw [←hW6];have HBx:Hid (Box3 W6 w6.heap.size (.bool true) (.slice o1 k1 c1) (.slice none 0 0)):=zHi (by rw [hW6];exact zbu _ _ _ _ _);have HX:Hid (∃f,zaj W6 w6.heap.size 3 f):=zHi (by rw [hW6];exact(ze2 _ _ _ _ _).1);have HE6:Hid (Elem W6 w6.heap.size 25):=zHi (by rw [hW6];exact zaB _ _ _);have hBW:Below w6.heap.size w6 W6:=by rw [hW6];exact zaa _ _
         replace HK:=zHi (HK.out.step hBW);replace HVN:=zHi (HVN.out.below hBW);have hgg:=hglt;obtain⟨g6,hg6⟩:∃g6,w6.heap.size=g6:=⟨_,rfl⟩;rw [hg6]at HBx HX HE6 hgg;rw [hg6];clear hW6 hBW;refine(zcB W6 b (zaH l) HBt.out (zbM (HBOT.out HHS.out).1) (by have:=zcl l;rw [HN.out]at this;omega)).mono ?_;rintro e w7 ⟨vd,rfl,hvd,hB⟩;replace HK:=zHi (HK.out.step hB);replace HVN:=zHi (HVN.out.below hB);replace HBx:=zHi (HBx.out.below hB);replace HX:Hid (∃f,zaj w7 g6 3 f):=zHi (HX.out.elim fun f hf=>⟨f,hf.below HE6.out.lt hB⟩);replace HE6:=zHi (HE6.out.below hB HE6.out.lt);obtain⟨o2,k2,c2,rfl,_,_⟩:=zaI hvd;have HVD:=zHi hvd;obtain⟨f6,hf6⟩:=HX.out;have x2:=(hf6 2 (by omega)).1;have x3:=(hf6 2 (by omega)).2;clear hvd hB HX;gi_wp2_with (exfalso;exact zae (by assumption))
         obtain⟨W8,hW8⟩:∃W,W=w7.setCell ⟨g6,2,none⟩ (.slice o2 k2 c2):=⟨_,rfl⟩;rw [←hW8];replace HBx:Hid (Box3 W8 g6 (.bool true) (.slice o1 k1 c1) (.slice o2 k2 c2)):=zHi (by rw [hW8];exact HBx.out.set2 x2);replace HVN:Hid (zas W8 (.slice o1 k1 c1) (zaf (zaR (zay l)))):=zHi (by rw [hW8];exact HVN.out.setElem HE6.out (by decide));replace HVD:Hid (zas W8 (.slice o2 k2 c2) (zaf (zaH l))):=zHi (by rw [hW8];exact HVD.out.setElem HE6.out (by decide));replace HK:Hid (zc0 w W8 g):=zHi (by rw [hW8];exact HK.out.set HE6.out.lt (by omega));have hDen:(if zaf (zaH l)=0 then 1 else zaf (zaH l))=zco l:=by
          unfold zco;rw [HHS.out,if_neg]
          ·rfl
          ·have:=(zey (HBOT.out HHS.out).1).2 (HBOT.out HHS.out).2;omega
         clear hW8 hf6 x2 x3;refine zao (ro:=none) [1,4,5] [0,2,3,1,4,5,6] [0,1,0,4,15,31,63] zaq 73 rfl (by kernel_rfl) (by kernel_rfl) ?_;replace HBx:=zHi (HBx.out.below (zab _));replace HVN:=zHi (HVN.out.below (zab _));replace HVD:=zHi (HVD.out.below (zab _));replace HK:=zHi (HK.out.step (zab _));refine OW.loadAll rfl rfl l25 (cs:=[.bool true,.slice o1 k1 c1,.slice o2 k2 c2]) rfl (by decide) HBx.out rfl ?_;simp only [Go.Act.put,ztQ,ztR,ztS];refine OW.fieldAddr rfl rfl ziz rfl ?_;simp only [Go.Act.put,ztQ,ztR,ztS];refine OW.load rfl rfl l23 HBx.out.c1 rfl ?_;simp only [Go.Act.put,ztQ,ztR,ztS];refine OW.call rfl rfl Tryz.func64 rfl zah (args:=[.agg #[.bool true,.slice o1 k1 c1,.slice o2 k2 c2]]) rfl ?_;refine(zfb W8.drew true (.slice o1 k1 c1) (.slice o2 k2 c2) (zaf (zaH l)) HVD.out).mono ?_;rintro e wa ⟨va,rfl,hva,hB⟩;rw [hDen]at hva;refine⟨va,rfl,hB,?_⟩;simp only [Go.Act.put,ztQ,ztR,ztS];replace HBx:=zHi (HBx.out.below hB);replace HVN:=zHi (HVN.out.below hB);replace HVD:=zHi (HVD.out.below hB);replace HK:=zHi (HK.out.step hB);have HVA:=zHi hva;clear hva hB;refine OW.call rfl rfl Tryz.func63 rfl zah (args:=[va,.slice o1 k1 c1]) rfl ?_;refine(zeN wa va _ (zco l) (zaf (zaR (zay l))) 100000 HVA.out HVN.out (zgR (by rw [HN.out];omega) HBOT.out) (zgN (by rw [HN.out];omega) HCO.out) (by omega)).mono ?_;rintro e wb ⟨vb,rfl,hvb,hB⟩;refine⟨vb,rfl,hB,?_⟩;simp only [Go.Act.put,ztQ,ztR,ztS];replace HBx:=zHi (HBx.out.below hB);replace HVN:=zHi (HVN.out.below hB);replace HVD:=zHi (HVD.out.below hB);replace HK:=zHi (HK.out.step hB);have HVB:=zHi hvb;clear hvb hB HVA;refine OW.call rfl rfl Tryz.func65 rfl zah (args:=[vb]) rfl ?_;refine(zcC wb vb _ HVB.out).mono ?_;rintro e wc ⟨rfl,hB⟩;refine⟨_,rfl,hB,?_⟩;simp only [Go.Act.put,ztQ,ztR,ztS];replace HBx:=zHi (HBx.out.below hB);replace HVN:=zHi (HVN.out.below hB);replace HVD:=zHi (HVD.out.below hB);replace HK:=zHi (HK.out.step hB);clear hB HVB;refine OW.read rfl rfl (.bool (!decide (Nat.gcd (zco l) (zaf (zaR (zay l)))=1))) (fun w' _=>rfl) ?_;simp only [Go.Act.put,ztQ];refine OW.done ?_;obtain⟨f,hf⟩:=HK.out.res;have z0:=(hf 0 (by omega)).1;have z1:=(hf 1 (by omega)).1;have z2:=(hf 2 (by omega)).1;have y0:=(hf 0 (by omega)).2;have y1:=(hf 1 (by omega)).2;have y2:=(hf 2 (by omega)).2;clear hf;by_cases hg1:Nat.gcd (zco l) (zaf (zaR (zay l)))=1
         ·rw [decide_eq_true hg1];obtain⟨q,hq,hnum,hden,hsg⟩:=HG.out.1 hg1;have hP:=zdM HNL.out hq;rw [HNG.out]at hsg;have HRA:Hid (zau wc (.agg #[.bool true,.slice o1 k1 c1,.slice o2 k2 c2]) q):=zHi ⟨_,_,by rw [hsg],by rw [hnum];exact HVN.out,by
           rw [hden,←hDen];have h2:=(zey (HBOT.out HHS.out).1).2 (HBOT.out HHS.out).2;rw [if_neg (show ¬zaf (zaH l)=0 by omega),if_neg (show ¬zaf (zaH l)=1 by omega)];exact HVD.out⟩
          have HRL:Hid (zan q 100000):=zHi ⟨by rw [hnum];exact zgN (by rw [HN.out];omega) HCO.out,by rw [hden];exact zgR (by rw [HN.out];omega) HBOT.out⟩;have HP:=zHi hP;have d0:=HBx.out.c0;have d1:=HBx.out.c1;have d2:=HBx.out.c2;clear hg1 hq hnum hden hsg hP z0 z1 z2 y0 y1 y2;gi_wp2_with (gi_at_call 66;refine stop ?_)
          refine(zef wc _ q HRA.out HRL.out (HL.out.pow.below HK.out.below)).mono ?_;rintro e wd ⟨vr,rfl,hr,hB⟩;replace HK:=zHi (HK.out.step hB);obtain⟨o5,k5,c5,o6,k6,c6,rfl⟩:=hr.form;have HR3:=zHi hr;obtain⟨sg',hsg'⟩:∃sg',decide ((zko q).num<0)=sg':=⟨_,rfl⟩;rw [hsg']at HR3;rw [hsg'];obtain⟨f,hf⟩:=HK.out.res;have z0:=(hf 0 (by omega)).1;have z1:=(hf 1 (by omega)).1;have z2:=(hf 2 (by omega)).1;have y0:=(hf 0 (by omega)).2;have y1:=(hf 1 (by omega)).2;have y2:=(hf 2 (by omega)).2;have HE:=zHi HK.out.el;clear hf hr hB;gi_wp2;refine zaG rfl rfl g rfl rfl z0 z1 z2 ?_;rw [HP.out.1,HP.out.2];refine⟨_,rfl,?_,((HK.out.below.setCell hle _).setCell hle _).setCell hle _⟩;exact((HR3.out.setElem HE.out (by decide)).setElem (HE.out.setCell _ _) (by decide)).setElem ((HE.out.setCell _ _).setCell _ _) (by decide)
         ·rw [decide_eq_false hg1];have HP:=zHi (zba HNL.out (HG.out.2 hg1));clear hg1;gi_wp2;refine zaG rfl rfl g rfl rfl z0 z1 z2 ?_;rw [HP.out.1,HP.out.2];exact⟨_,rfl,zaS _,((HK.out.below.setCell hle _).setCell hle _).setCell hle _⟩
   | false=>
    have HNG:=zHi hn;clear hn;have HN48:Hid (zbY (zay l)=true→zaR (zay l) ≠ [48]):=zHi (fun h=>by rw [HNG.out]at h;cases h)
    cases hs:zbD l with
    | false=>
     have HHS:=zHi hs;have HBOT:Hid (zbD l=true→zbj (zaH l)=true∧zaH l ≠ [48]∧zaH l ≠ [49]):=zHi (fun h=>by rw [hs]at h;cases h);clear hs;have HG:=zHi (good (l:=l) HCO.out HN48.out HBOT.out);clear z0 z1 z2 y0 y1 y2;gi_wp2_with (first|(exfalso;exact zae (by assumption))|(gi_at_call 62;refine stop ?_))
     refine(zcB w4 o (zaR (zay l)) HOw.out (zbM HCO.out) (by have:=zcl l;rw [HN.out]at this;omega)).mono ?_;rintro e w6 ⟨vn,rfl,hvn,hB⟩;replace HK:=zHi (HK.out.step hB);obtain⟨o1,k1,c1,rfl,_,_⟩:=zaI hvn;have HVN:=zHi hvn;clear hvn hB;gi_wp2_with (exfalso;exact zae (by assumption))
     obtain⟨W6,hW6⟩:∃W,W=w6.alloc (Obj.cells #[Value.bool false,.slice o1 k1 c1,.slice none 0 0] 25):=⟨_,rfl⟩;rw [←hW6];have HBx:Hid (Box3 W6 w6.heap.size (.bool false) (.slice o1 k1 c1) (.slice none 0 0)):=zHi (by rw [hW6];exact zbu _ _ _ _ _);have hBW:Below w6.heap.size w6 W6:=by rw [hW6];exact zaa _ _
     replace HK:=zHi (HK.out.step hBW);replace HVN:=zHi (HVN.out.below hBW);have HVD:Hid (zas W6 (.slice none 0 0) 0):=zHi ⟨0,zbC,.inl ⟨rfl,none,0,rfl⟩⟩;obtain⟨o2,k2,c2,hv2⟩:∃o2 k2 c2,(Value.slice none 0 0) = .slice o2 k2 c2:=⟨_,_,_,rfl⟩;rw [hv2]at HBx HVD;have hDen:(if(0:Nat)=0 then 1 else 0)=zco l:=by unfold zco;rw [HHS.out];rfl
     clear hW6 hBW hv2;refine zao (ro:=none) [1,4,5] [0,2,3,1,4,5,6] [0,1,0,4,15,31,63] zaq 73 rfl (by kernel_rfl) (by kernel_rfl) ?_;replace HBx:=zHi (HBx.out.below (zab _));replace HVN:=zHi (HVN.out.below (zab _));replace HVD:=zHi (HVD.out.below (zab _));replace HK:=zHi (HK.out.step (zab _));refine OW.loadAll rfl rfl l25 (cs:=[.bool false,.slice o1 k1 c1,.slice o2 k2 c2]) rfl (by decide) HBx.out rfl ?_;simp only [Go.Act.put,ztQ,ztR,ztS];refine OW.fieldAddr rfl rfl ziz rfl ?_;simp only [Go.Act.put,ztQ,ztR,ztS];refine OW.load rfl rfl l23 HBx.out.c1 rfl ?_;simp only [Go.Act.put,ztQ,ztR,ztS];refine OW.call rfl rfl Tryz.func64 rfl zah (args:=[.agg #[.bool false,.slice o1 k1 c1,.slice o2 k2 c2]]) rfl ?_;refine(zfb W6.drew false (.slice o1 k1 c1) (.slice o2 k2 c2) 0 HVD.out).mono ?_;rintro e wa ⟨va,rfl,hva,hB⟩;rw [hDen]at hva;refine⟨va,rfl,hB,?_⟩;simp only [Go.Act.put,ztQ,ztR,ztS];replace HBx:=zHi (HBx.out.below hB);replace HVN:=zHi (HVN.out.below hB);replace HVD:=zHi (HVD.out.below hB);replace HK:=zHi (HK.out.step hB);have HVA:=zHi hva;clear hva hB;refine OW.call rfl rfl Tryz.func63 rfl zah (args:=[va,.slice o1 k1 c1]) rfl ?_;refine(zeN wa va _ (zco l) (zaf (zaR (zay l))) 100000 HVA.out HVN.out (zgR (by rw [HN.out];omega) HBOT.out) (zgN (by rw [HN.out];omega) HCO.out) (by omega)).mono ?_;rintro e wb ⟨vb,rfl,hvb,hB⟩;refine⟨vb,rfl,hB,?_⟩;simp only [Go.Act.put,ztQ,ztR,ztS];replace HBx:=zHi (HBx.out.below hB);replace HVN:=zHi (HVN.out.below hB);replace HVD:=zHi (HVD.out.below hB);replace HK:=zHi (HK.out.step hB);have HVB:=zHi hvb;clear hvb hB HVA;refine OW.call rfl rfl Tryz.func65 rfl zah (args:=[vb]) rfl ?_;refine(zcC wb vb _ HVB.out).mono ?_;rintro e wc ⟨rfl,hB⟩;refine⟨_,rfl,hB,?_⟩;simp only [Go.Act.put,ztQ,ztR,ztS];replace HBx:=zHi (HBx.out.below hB);replace HVN:=zHi (HVN.out.below hB);replace HVD:=zHi (HVD.out.below hB);replace HK:=zHi (HK.out.step hB);clear hB HVB;refine OW.read rfl rfl (.bool (!decide (Nat.gcd (zco l) (zaf (zaR (zay l)))=1))) (fun w' _=>rfl) ?_;simp only [Go.Act.put,ztQ];refine OW.done ?_;obtain⟨f,hf⟩:=HK.out.res;have z0:=(hf 0 (by omega)).1;have z1:=(hf 1 (by omega)).1;have z2:=(hf 2 (by omega)).1;have y0:=(hf 0 (by omega)).2;have y1:=(hf 1 (by omega)).2;have y2:=(hf 2 (by omega)).2;clear hf;by_cases hg1:Nat.gcd (zco l) (zaf (zaR (zay l)))=1
     ·rw [decide_eq_true hg1];obtain⟨q,hq,hnum,hden,hsg⟩:=HG.out.1 hg1;have hP:=zdM HNL.out hq;rw [HNG.out]at hsg;have HRA:Hid (zau wc (.agg #[.bool false,.slice o1 k1 c1,.slice o2 k2 c2]) q):=zHi ⟨_,_,by rw [hsg],by rw [hnum];exact HVN.out,by
       rw [hden,←hDen];exact HVD.out⟩
      have HRL:Hid (zan q 100000):=zHi ⟨by rw [hnum];exact zgN (by rw [HN.out];omega) HCO.out,by rw [hden];exact zgR (by rw [HN.out];omega) HBOT.out⟩;have HP:=zHi hP;have d0:=HBx.out.c0;have d1:=HBx.out.c1;have d2:=HBx.out.c2;clear hg1 hq hnum hden hsg hP z0 z1 z2 y0 y1 y2;gi_wp2_with (gi_at_call 66;refine stop ?_)
      refine(zef wc _ q HRA.out HRL.out (HL.out.pow.below HK.out.below)).mono ?_;rintro e wd ⟨vr,rfl,hr,hB⟩;replace HK:=zHi (HK.out.step hB);obtain⟨o5,k5,c5,o6,k6,c6,rfl⟩:=hr.form;have HR3:=zHi hr;obtain⟨sg',hsg'⟩:∃sg',decide ((zko q).num<0)=sg':=⟨_,rfl⟩;rw [hsg']at HR3;rw [hsg'];obtain⟨f,hf⟩:=HK.out.res;have z0:=(hf 0 (by omega)).1;have z1:=(hf 1 (by omega)).1;have z2:=(hf 2 (by omega)).1;have y0:=(hf 0 (by omega)).2;have y1:=(hf 1 (by omega)).2;have y2:=(hf 2 (by omega)).2;have HE:=zHi HK.out.el;clear hf hr hB;gi_wp2;refine zaG rfl rfl g rfl rfl z0 z1 z2 ?_;rw [HP.out.1,HP.out.2];refine⟨_,rfl,?_,((HK.out.below.setCell hle _).setCell hle _).setCell hle _⟩;exact((HR3.out.setElem HE.out (by decide)).setElem (HE.out.setCell _ _) (by decide)).setElem ((HE.out.setCell _ _).setCell _ _) (by decide)
     ·rw [decide_eq_false hg1];have HP:=zHi (zba HNL.out (HG.out.2 hg1));clear hg1;gi_wp2;refine zaG rfl rfl g rfl rfl z0 z1 z2 ?_;rw [HP.out.1,HP.out.2];exact⟨_,rfl,zaS _,((HK.out.below.setCell hle _).setCell hle _).setCell hle _⟩
    | true=>
     have HHS:=zHi hs;clear hs;gi_wp2_with (first|(exfalso;exact zae (by assumption))|(gi_at_call 61;refine stop ?_))
     refine(zdz w4 b hbs).mono ?_;rintro e w5 ⟨rfl,hB⟩;rw [HBt.out];replace z0:=(hB.cell HK.out.lt).trans z0;replace z1:=(hB.cell HK.out.lt).trans z1;replace z2:=(hB.cell HK.out.lt).trans z2;replace y0:=(hB.frozen (p:=⟨g,0,none⟩) HK.out.lt).trans y0;replace y1:=(hB.frozen (p:=⟨g,1,none⟩) HK.out.lt).trans y1;replace y2:=(hB.frozen (p:=⟨g,2,none⟩) HK.out.lt).trans y2;replace HK:=zHi (HK.out.step hB);clear hB
     cases hb:zbj (zaH l)with
     | false=>
      have HBB:=zgE HHS.out (.inl hb);clear hb;have HP:=zHi (zba HNL.out (HBB));gi_wp2_with (exfalso;exact zae (by assumption))
      refine zaG rfl rfl g rfl rfl z0 z1 z2 ?_;rw [HP.out.1,HP.out.2];exact⟨_,rfl,zaS _,((HK.out.below.setCell hle _).setCell hle _).setCell hle _⟩
     | true=>
      have HCB:=zHi hb;clear hb;by_cases b48:b.toList = [48]
      ·have b48':(b.toList == [48])=true:=by rw [b48];rfl
       have HBB:=zgE (l:=l) HHS.out (.inr (.inl (by rw [←HBt.out,←Lib.toList_data];exact b48)));have HP:=zHi (zba HNL.out (HBB));gi_wp2_with (exfalso;exact zae (by assumption))
       refine zaG rfl rfl g rfl rfl z0 z1 z2 ?_;rw [HP.out.1,HP.out.2];exact⟨_,rfl,zaS _,((HK.out.below.setCell hle _).setCell hle _).setCell hle _⟩
      ·have b48':(b.toList == [48])=false:=zf8 b48;by_cases b49:b.toList = [49]
       ·have b49':(b.toList == [49])=true:=by rw [b49];rfl
        have HBB:=zgE (l:=l) HHS.out (.inr (.inr (by rw [←HBt.out,←Lib.toList_data];exact b49)));have HP:=zHi (zba HNL.out (HBB));gi_wp2_with (exfalso;exact zae (by assumption))
        refine zaG rfl rfl g rfl rfl z0 z1 z2 ?_;rw [HP.out.1,HP.out.2];exact⟨_,rfl,zaS _,((HK.out.below.setCell hle _).setCell hle _).setCell hle _⟩
       ·have b49':(b.toList == [49])=false:=zf8 b49;have HBOT:Hid (zbD l=true→zbj (zaH l)=true∧zaH l ≠ [48]∧zaH l ≠ [49]):=zHi (fun _=>⟨HCB.out,by rw [←HBt.out,←Lib.toList_data];exact b48,by rw [←HBt.out,←Lib.toList_data];exact b49⟩);have HG:=zHi (good (l:=l) HCO.out HN48.out HBOT.out);clear z0 z1 z2 y0 y1 y2;gi_wp2_with (first|(exfalso;exact zae (by assumption))|(gi_at_call 62;refine stop ?_))
        refine(zcB w5 o (zaR (zay l)) HOw.out (zbM HCO.out) (by have:=zcl l;rw [HN.out]at this;omega)).mono ?_;rintro e w6 ⟨vn,rfl,hvn,hB⟩;replace HK:=zHi (HK.out.step hB);obtain⟨o1,k1,c1,rfl,_,_⟩:=zaI hvn;have HVN:=zHi hvn;clear hvn hB;gi_wp2_with (first|(exfalso;exact zae (by assumption))|(gi_at_call 62;refine stop ?_))
        unfold Stop;have hglt:=HK.out.lt;obtain⟨W6,hW6⟩:∃W,W=w6.alloc (Obj.cells #[Value.bool false,.slice o1 k1 c1,.slice none 0 0] 25):=⟨_,rfl⟩;rw [←hW6];have HBx:Hid (Box3 W6 w6.heap.size (.bool false) (.slice o1 k1 c1) (.slice none 0 0)):=zHi (by rw [hW6];exact zbu _ _ _ _ _);have HX:Hid (∃f,zaj W6 w6.heap.size 3 f):=zHi (by rw [hW6];exact(ze2 _ _ _ _ _).1);have HE6:Hid (Elem W6 w6.heap.size 25):=zHi (by rw [hW6];exact zaB _ _ _);have hBW:Below w6.heap.size w6 W6:=by rw [hW6];exact zaa _ _
        replace HK:=zHi (HK.out.step hBW);replace HVN:=zHi (HVN.out.below hBW);have hgg:=hglt;obtain⟨g6,hg6⟩:∃g6,w6.heap.size=g6:=⟨_,rfl⟩;rw [hg6]at HBx HX HE6 hgg;rw [hg6];clear hW6 hBW;refine(zcB W6 b (zaH l) HBt.out (zbM (HBOT.out HHS.out).1) (by have:=zcl l;rw [HN.out]at this;omega)).mono ?_;rintro e w7 ⟨vd,rfl,hvd,hB⟩;replace HK:=zHi (HK.out.step hB);replace HVN:=zHi (HVN.out.below hB);replace HBx:=zHi (HBx.out.below hB);replace HX:Hid (∃f,zaj w7 g6 3 f):=zHi (HX.out.elim fun f hf=>⟨f,hf.below HE6.out.lt hB⟩);replace HE6:=zHi (HE6.out.below hB HE6.out.lt);obtain⟨o2,k2,c2,rfl,_,_⟩:=zaI hvd;have HVD:=zHi hvd;obtain⟨f6,hf6⟩:=HX.out;have x2:=(hf6 2 (by omega)).1;have x3:=(hf6 2 (by omega)).2;clear hvd hB HX;gi_wp2_with (exfalso;exact zae (by assumption))
        obtain⟨W8,hW8⟩:∃W,W=w7.setCell ⟨g6,2,none⟩ (.slice o2 k2 c2):=⟨_,rfl⟩;rw [←hW8];replace HBx:Hid (Box3 W8 g6 (.bool false) (.slice o1 k1 c1) (.slice o2 k2 c2)):=zHi (by rw [hW8];exact HBx.out.set2 x2);replace HVN:Hid (zas W8 (.slice o1 k1 c1) (zaf (zaR (zay l)))):=zHi (by rw [hW8];exact HVN.out.setElem HE6.out (by decide));replace HVD:Hid (zas W8 (.slice o2 k2 c2) (zaf (zaH l))):=zHi (by rw [hW8];exact HVD.out.setElem HE6.out (by decide));replace HK:Hid (zc0 w W8 g):=zHi (by rw [hW8];exact HK.out.set HE6.out.lt (by omega));have hDen:(if zaf (zaH l)=0 then 1 else zaf (zaH l))=zco l:=by
         unfold zco;rw [HHS.out,if_neg]
         ·rfl
         ·have:=(zey (HBOT.out HHS.out).1).2 (HBOT.out HHS.out).2;omega
        clear hW8 hf6 x2 x3;refine zao (ro:=none) [1,4,5] [0,2,3,1,4,5,6] [0,1,0,4,15,31,63] zaq 73 rfl (by kernel_rfl) (by kernel_rfl) ?_;replace HBx:=zHi (HBx.out.below (zab _));replace HVN:=zHi (HVN.out.below (zab _));replace HVD:=zHi (HVD.out.below (zab _));replace HK:=zHi (HK.out.step (zab _));refine OW.loadAll rfl rfl l25 (cs:=[.bool false,.slice o1 k1 c1,.slice o2 k2 c2]) rfl (by decide) HBx.out rfl ?_;simp only [Go.Act.put,ztQ,ztR,ztS];refine OW.fieldAddr rfl rfl ziz rfl ?_;simp only [Go.Act.put,ztQ,ztR,ztS];refine OW.load rfl rfl l23 HBx.out.c1 rfl ?_;simp only [Go.Act.put,ztQ,ztR,ztS];refine OW.call rfl rfl Tryz.func64 rfl zah (args:=[.agg #[.bool false,.slice o1 k1 c1,.slice o2 k2 c2]]) rfl ?_;refine(zfb W8.drew false (.slice o1 k1 c1) (.slice o2 k2 c2) (zaf (zaH l)) HVD.out).mono ?_;rintro e wa ⟨va,rfl,hva,hB⟩;rw [hDen]at hva;refine⟨va,rfl,hB,?_⟩;simp only [Go.Act.put,ztQ,ztR,ztS];replace HBx:=zHi (HBx.out.below hB);replace HVN:=zHi (HVN.out.below hB);replace HVD:=zHi (HVD.out.below hB);replace HK:=zHi (HK.out.step hB);have HVA:=zHi hva;clear hva hB;refine OW.call rfl rfl Tryz.func63 rfl zah (args:=[va,.slice o1 k1 c1]) rfl ?_;refine(zeN wa va _ (zco l) (zaf (zaR (zay l))) 100000 HVA.out HVN.out (zgR (by rw [HN.out];omega) HBOT.out) (zgN (by rw [HN.out];omega) HCO.out) (by omega)).mono ?_;rintro e wb ⟨vb,rfl,hvb,hB⟩;refine⟨vb,rfl,hB,?_⟩;simp only [Go.Act.put,ztQ,ztR,ztS];replace HBx:=zHi (HBx.out.below hB);replace HVN:=zHi (HVN.out.below hB);replace HVD:=zHi (HVD.out.below hB);replace HK:=zHi (HK.out.step hB);have HVB:=zHi hvb;clear hvb hB HVA;refine OW.call rfl rfl Tryz.func65 rfl zah (args:=[vb]) rfl ?_;refine(zcC wb vb _ HVB.out).mono ?_;rintro e wc ⟨rfl,hB⟩;refine⟨_,rfl,hB,?_⟩;simp only [Go.Act.put,ztQ,ztR,ztS];replace HBx:=zHi (HBx.out.below hB);replace HVN:=zHi (HVN.out.below hB);replace HVD:=zHi (HVD.out.below hB);replace HK:=zHi (HK.out.step hB);clear hB HVB;refine OW.read rfl rfl (.bool (!decide (Nat.gcd (zco l) (zaf (zaR (zay l)))=1))) (fun w' _=>rfl) ?_;simp only [Go.Act.put,ztQ];refine OW.done ?_;obtain⟨f,hf⟩:=HK.out.res;have z0:=(hf 0 (by omega)).1;have z1:=(hf 1 (by omega)).1;have z2:=(hf 2 (by omega)).1;have y0:=(hf 0 (by omega)).2;have y1:=(hf 1 (by omega)).2;have y2:=(hf 2 (by omega)).2;clear hf;by_cases hg1:Nat.gcd (zco l) (zaf (zaR (zay l)))=1
        ·rw [decide_eq_true hg1];obtain⟨q,hq,hnum,hden,hsg⟩:=HG.out.1 hg1;have hP:=zdM HNL.out hq;rw [HNG.out]at hsg;have HRA:Hid (zau wc (.agg #[.bool false,.slice o1 k1 c1,.slice o2 k2 c2]) q):=zHi ⟨_,_,by rw [hsg],by rw [hnum];exact HVN.out,by
          rw [hden,←hDen];have h2:=(zey (HBOT.out HHS.out).1).2 (HBOT.out HHS.out).2;rw [if_neg (show ¬zaf (zaH l)=0 by omega),if_neg (show ¬zaf (zaH l)=1 by omega)];exact HVD.out⟩
         have HRL:Hid (zan q 100000):=zHi ⟨by rw [hnum];exact zgN (by rw [HN.out];omega) HCO.out,by rw [hden];exact zgR (by rw [HN.out];omega) HBOT.out⟩;have HP:=zHi hP;have d0:=HBx.out.c0;have d1:=HBx.out.c1;have d2:=HBx.out.c2;clear hg1 hq hnum hden hsg hP z0 z1 z2 y0 y1 y2;gi_wp2_with (gi_at_call 66;refine stop ?_)
         refine(zef wc _ q HRA.out HRL.out (HL.out.pow.below HK.out.below)).mono ?_;rintro e wd ⟨vr,rfl,hr,hB⟩;replace HK:=zHi (HK.out.step hB);obtain⟨o5,k5,c5,o6,k6,c6,rfl⟩:=hr.form;have HR3:=zHi hr;obtain⟨sg',hsg'⟩:∃sg',decide ((zko q).num<0)=sg':=⟨_,rfl⟩;rw [hsg']at HR3;rw [hsg'];obtain⟨f,hf⟩:=HK.out.res;have z0:=(hf 0 (by omega)).1;have z1:=(hf 1 (by omega)).1;have z2:=(hf 2 (by omega)).1;have y0:=(hf 0 (by omega)).2;have y1:=(hf 1 (by omega)).2;have y2:=(hf 2 (by omega)).2;have HE:=zHi HK.out.el;clear hf hr hB;gi_wp2;refine zaG rfl rfl g rfl rfl z0 z1 z2 ?_;rw [HP.out.1,HP.out.2];refine⟨_,rfl,?_,((HK.out.below.setCell hle _).setCell hle _).setCell hle _⟩;exact((HR3.out.setElem HE.out (by decide)).setElem (HE.out.setCell _ _) (by decide)).setElem ((HE.out.setCell _ _).setCell _ _) (by decide)
        ·rw [decide_eq_false hg1];have HP:=zHi (zba HNL.out (HG.out.2 hg1));clear hg1;gi_wp2;refine zaG rfl rfl g rfl rfl z0 z1 z2 ?_;rw [HP.out.1,HP.out.2];exact⟨_,rfl,zaS _,((HK.out.below.setCell hle _).setCell hle _).setCell hle _⟩
theorem zkf{n k c:Nat}(h:zcq n (k+1))(h1:limb n k/10^c=0)(h2:c=0∨10^(c-1)≤limb n k):Lib.nDigits n=9*k+c:=by
 have ht:=h.top;have hlt:limb n k<10^c:=by
  rcases Nat.lt_or_ge (limb n k) (10^c)with h|h
  ·exact h
  ·have:=Nat.div_pos h (Nat.pow_pos (by decide));omega
 have hc:c≠0:=by rintro rfl;simp at hlt;omega
 have hD:LenD (limb n k) c:=⟨by omega,hlt,.inr (by rcases h2 with h|h;omega;exact h)⟩;exact zsP (zo2 h hD).2
theorem zlD(w:World)(v:Value)(n:Nat)(h:NatI w v n) :
  CallsIn Fence.wide 0 Tryz.prog 89 #[v] w fun e w'=>e = .returned (.int .i64 ((Lib.nDigits n:Nat):Int))∧Below w.heap.size w w':=by
 obtain⟨k,hk,hl⟩:=h;have HLI:=zHi hk;have hks:=hl.small;obtain⟨o,c,rfl,h1⟩:=hl.form;have H1:=zHi h1;clear hk hl h1;refine callsIn_of_wp Tryz.func89 rfl trivial ?_ rfl;simp only [Tryz.ntmps89,ztH,ztI,ztJ,Nat.reduceAdd,Nat.reduceSub,ztK,ztL,ztM,ztN,ztO,ztP];by_cases h0:k=0
 ·subst h0;have HN:Hid (Lib.nDigits n=1):=zHi (by rw [HLI.out.zero];exact Lib.nDigits_small (by decide));gi_wp2;all_goals (first|go_returns|go_ret|go_end0)
  exact⟨by rw [HN.out];rfl,Below.refl _ _⟩
 ·obtain⟨m,rfl⟩:∃m,k=m+1:=⟨k-1,by omega⟩;obtain⟨a,rfl,ha,hc⟩:=H1.out (by omega);have p:=hc m (by omega);have htl:limb n m<1000000000:=zaA n m;obtain⟨l,hlm⟩:∃l,limb n m=l:=⟨_,rfl⟩;rw [hlm]at p htl;have HLm:=zHi hlm;have hk0:((m+1:Nat):Int)=(m:Int)+1:=by omega
  clear hc hlm H1 ha h0;gi_wp2;gi_loopw [3,4] (fun x3 x4 wr=>∃(c v:Nat),x3 = .int .i64 ((9*m+c:Nat):Int)∧x4 = .int .i64 (v:Int)∧Hid (l/10^c=v)∧v<1000000000∧Hid (c=0∨10^(c-1)≤l)∧c≤20∧Hid (Below w.heap.size w wr)) (fun _ v _=>(intOf v).toNat)
  case atStart=>exact⟨0,l,by go_num,rfl,zHi (by simp),htl,zHi (.inl rfl),by omega,Below.refl _ w⟩
  case round=>
   obtain⟨c,v,rfl,rfl,HV,hv,HC,hc,HB⟩:=hrel;by_cases hv0:0<v
   ·have hcl:Hid (10^c≤l):=zHi (by
     apply Classical.byContradiction
     intro hno;have:=Nat.div_eq_of_lt (show l<10^c by omega);rw [HV.out]at this;omega)
    have hc9:c<9:=by
     apply Classical.byContradiction
     intro hno;have h1:10^9≤10^c:=Nat.pow_le_pow_right (by decide) (by omega);have:=hcl.out;omega
    gi_wp2;refine⟨⟨c+1,v/10,by go_num,by go_num,?_,by omega,zHi (.inr hcl.out),by omega,HB⟩,by simp only [intOf];omega⟩;rw [Nat.pow_succ,←Nat.div_div_eq_div_mul,HV.out];rfl
   ·have hv00:v=0:=by omega
    subst hv00;gi_wp2;all_goals (first|go_returns|go_ret|go_end0)
    refine⟨?_,HB.out⟩;rw [zkf (c:=c) HLI.out (by rw [HLm.out];exact HV.out) (by rw [HLm.out];exact HC.out)];rfl
def zbq(q:Rat)(d:Nat):Bool:=decide (Lib.nDigits q.num.natAbs≤d) && decide (Lib.nDigits q.den≤d)
theorem zdu(w:World)(v:Value)(q:Rat)(d:Nat)(h:QAt w v q) :
  CallsIn Fence.wide 0 Tryz.prog 33 #[v,.int .i64 (d:Int)] w fun e w'=>e = .returned (.bool (zbq q d))∧Below w.heap.size w w':=by
 obtain⟨m1,m2,rfl,h1,h2⟩:=h;have HN:=zHi h1;have HD:=zHi h2;obtain⟨o1,k1,c1,rfl,_,_⟩:=zaC h1;obtain⟨o2,k2,c2,rfl,_,_⟩:=zaC h2;obtain⟨sg,hsg⟩:∃sg,decide (q.num<0)=sg:=⟨_,rfl⟩;rw [hsg];clear h1 h2 hsg;refine callsIn_of_wp Tryz.func33 rfl trivial ?_ rfl;simp only [Tryz.ntmps33,ztH,ztI,ztJ,Nat.reduceAdd,Nat.reduceSub,ztK,ztL,ztM,ztN,ztO,ztP];gi_wp2_with (gi_at_call 89;refine stop ?_)
 unfold Stop;obtain⟨W,hW⟩:∃W,W=w.alloc (Obj.cells #[Value.bool sg,Value.slice o1 k1 c1,Value.bool false,Value.slice o2 k2 c2] 34):=⟨_,rfl⟩;rw [←hW];have HBW:Hid (Below w.heap.size w W):=zHi (by rw [hW];exact zaa _ _);have x3:W.cell? ⟨w.heap.size,3,none⟩=some (.slice o2 k2 c2):=by rw [hW,World.cell?_alloc_new];rfl
 clear hW;refine(zlD W _ _ (HN.out.below HBW.out)).mono ?_;rintro e w2 ⟨rfl,hB⟩;replace x3:=(hB.cell (World.block_lt_of_cell? _ _ x3)).trans x3;replace HBW:=zBt HBW hB;obtain⟨a,ha⟩:∃a,Lib.nDigits q.num.natAbs=a:=⟨_,rfl⟩;have HA:=zHi ha;rw [ha];clear hB ha;by_cases had:a≤d
 ·have had':decide ((a:Int)≤(d:Int))=true:=decide_eq_true (by omega);have HAD:Hid (decide (a≤d)=true):=zHi (decide_eq_true had);gi_wp2_with (gi_at_call 89;refine stop ?_)
  refine(zlD w2 _ _ (HD.out.below HBW.out)).mono ?_;rintro e w3 ⟨rfl,hB⟩;replace HBW:=zBt HBW hB;obtain⟨b,hb⟩:∃b,Lib.nDigits q.den=b:=⟨_,rfl⟩;have HB:=zHi hb;rw [hb];clear hB hb;gi_wp2;all_goals (first|go_returns|go_ret|go_end0)
  refine⟨?_,HBW.out⟩;unfold zbq;rw [HA.out,HB.out,HAD.out,Bool.true_and];rfl
 ·have had':decide ((a:Int)≤(d:Int))=false:=decide_eq_false (by omega);have HAD:Hid (decide (a≤d)=false):=zHi (decide_eq_false had);gi_wp2_with (exfalso;exact zae (by assumption))
  all_goals (first|go_returns|go_ret|go_end0)
  refine⟨?_,HBW.out⟩;unfold zbq;rw [HA.out,HAD.out,Bool.false_and];rfl
theorem zoj{b:UInt8}(h:za0 b=true):48≤b.toNat∧b.toNat≤57:=of_decide_eq_true h
theorem byte_at(o:ByteArray){p:Nat}(h:p<o.size):o.data.toList[p]? = some o[p]:=by
 obtain⟨⟨l⟩⟩:=o;exact List.getElem?_eq_getElem h
theorem zlO{l:List UInt8}{o:List UInt8}{ng:Bool}(ho:zaR l=o)(hn:zbY l=ng)(h1:o ≠ [])(h2:o.head? = some 48→o = [48]∧ng=false):zbF l=if o.all za0=true then some (sgn ng (zaf o))else none:=by
 unfold zbF;rw [ho,hn];have hc:(zbj o && !(ng && o == [48]))=o.all za0:=by
  cases o with
  | nil=>exact absurd rfl h1
  | cons b r=>
   by_cases hb:b.toNat=48
   ·have hb':b=48:=UInt8.toNat_inj.1 hb;subst hb';obtain⟨h3,h4⟩:=h2 rfl;rw [h4,h3];rfl
   ·rw [zif hb];have:(b :: r == [48])=false:=by
     apply beq_false_of_ne
     intro e;injection e with e _;subst e;exact hb rfl
    rw [this];simp
 rw [hc]
theorem zg6{l:List UInt8}{o:List UInt8}{ng:Bool}(ho:zaR l=o)(hn:zbY l=ng)(h:o = []∨o.head? = some 48∧(1<o.length∨ng=true)):zbF l=none:=by
 unfold zbF;rw [ho,hn,if_neg];rcases h with rfl|⟨h1,h2⟩
 ·simp [zbj]
 ·cases o with
  | nil=>simp at h1
  | cons b r=>
   have hb:b=48:=by simpa using h1
   subst hb;rcases h2 with h2|h2
   ·have hr:r ≠ []:=by rintro rfl;simp at h2
    rw [zgC rfl (by intro e;injection e with _ e;exact hr e)];simp
   ·rw [h2];by_cases hr:r = []
    ·subst hr;simp
    ·rw [zgC rfl (by intro e;injection e with _ e;exact hr e)];simp
structure zgG(w W:World)(g:Nat):Prop where
 res:∃f,zaj W g 2 f
 el:Elem W g 32
 below:Below w.heap.size w W
 le:w.heap.size≤g
theorem zgG.step{w W W':World}{g:Nat}(h:zgG w W g)(hb:Below W.heap.size W W'):zgG w W' g:=by
 obtain⟨f,hf⟩:=h.res;exact⟨⟨f,hf.below h.el.lt hb⟩,h.el.below hb h.el.lt,h.below.trans (hb.mono h.below.size),h.le⟩
theorem zhc(w:World)(x y:Value):zgG w (w.alloc (.cells #[x,y] 32)) w.heap.size:=
 ⟨⟨fun i=>if i=0 then x else y,zaj.new _ _ _ fun i hi=>by
  match i,hi with
  | 0,_=>rfl
  | 1,_=>rfl⟩,zaB _ _ _,zaa _ _,Nat.le_refl _⟩
def zra(w:World)(l:List UInt8)(e:Ending)(w':World):Prop:=
 ∃v',e = .returned (.tuple #[v',.bool (zbF l).isSome])∧(∃sg m,v' = .agg #[.bool sg,m]∧∃o k c,m = .slice o k c)∧(∀z,zbF l=some z→ZAt w' v' z)∧Below w.heap.size w w'
theorem zbI{fn:Func}{p t:Tmp}{R:Ending→World→Prop}{a:Act}{w:World}{x y u x0 x1:Value}(h:fn.results=#[.cell p 32,.tmp t])(hd:a.defers = [])(g:Nat)(hp:a.tmps.getD p undef = .pointer (some ⟨g,0,none⟩))(ht:a.tmps.getD t undef=u)
  (h0:w.cell? ⟨g,0,none⟩=some x0) (h1:w.cell? ⟨g,1,none⟩=some x1) (hR:R (.returned (.tuple #[.agg #[x,y],u])) ((w.setCell ⟨g,0,none⟩ x).setCell ⟨g,1,none⟩ y)) :
  bodyPost Tryz.prog fn R .ret a ((w.setCell ⟨g,0,none⟩ x).setCell ⟨g,1,none⟩ y):=by
 have n01:(⟨g,0,none⟩:Addr)≠⟨g,1,none⟩:=by intro e;injection e with _ e;omega
 have c0:((w.setCell ⟨g,0,none⟩ x).setCell ⟨g,1,none⟩ y).cell? ⟨g,0,none⟩=some x:=by
  rw [World.cell?_setCell_other _ _ _ _ n01.symm,World.cell?_setCell_same _ _ _ h0]
 have c1:((w.setCell ⟨g,0,none⟩ x).setCell ⟨g,1,none⟩ y).cell? ⟨g,1,none⟩=some y:=by
  rw [World.cell?_setCell_same _ _ _ (by rw [World.cell?_setCell_other _ _ _ _ n01];exact h1)]
 refine⟨hd,.tuple #[.agg #[x,y],u],?_,hR⟩;have e1:=l32 g [x,y] _ rfl (fun j v hj=>by
  match j,hj with
  | 0,hj=>rw [←hj];exact c0
  | 1,hj=>rw [←hj];exact c1
  | k+2,hj=>simp at hj)
 simp only [Instr.loadAt,Instr.sureAddr,Sem.run_bind,Sem.run_pure,Result.andThen_ok]at e1;have hp2:a.tmps[p]?.getD undef = .pointer (some ⟨g,0,none⟩):=by rw [←Array.getD_eq_getD_getElem?];exact hp
 have ht2:a.tmps[t]?.getD undef=u:=by rw [←Array.getD_eq_getD_getElem?];exact ht
 simp [results,h,hp2,ht2,asAddr,e1]
theorem zdg{fn:Func}{p t:Tmp}{R:Ending→World→Prop}{a:Act}{w:World}{x y u:Value}(h:fn.results=#[.cell p 32,.tmp t])(hd:a.defers = [])(hp:a.tmps.getD p undef = .pointer (some ⟨w.heap.size,0,none⟩))(ht:a.tmps.getD t undef=u)
  (hR:R (.returned (.tuple #[.agg #[x,y],u])) (w.alloc (.cells #[x,y] 32))):bodyPost Tryz.prog fn R .ret a (w.alloc (.cells #[x,y] 32)):=by
 refine⟨hd,.tuple #[.agg #[x,y],u],?_,hR⟩;have e1:=l32 w.heap.size [x,y] (w.alloc (.cells #[x,y] 32)) rfl (fun j v hj=>by
  match j,hj with
  | 0,hj=>rw [←hj,World.cell?_alloc_new];rfl
  | 1,hj=>rw [←hj,World.cell?_alloc_new];rfl
  | k+2,hj=>simp at hj)
 simp only [Instr.loadAt,Instr.sureAddr,Sem.run_bind,Sem.run_pure,Result.andThen_ok]at e1;have hp2:a.tmps[p]?.getD undef = .pointer (some ⟨w.heap.size,0,none⟩):=by rw [←Array.getD_eq_getD_getElem?];exact hp
 have ht2:a.tmps[t]?.getD undef=u:=by rw [←Array.getD_eq_getD_getElem?];exact ht
 simp [results,h,hp2,ht2,asAddr,e1]
theorem zck{w w':World}{l:List UInt8}(hf:zbF l=none)(hB:Below w.heap.size w w'):zra w l (.returned (.tuple #[.agg #[.bool false,.slice none 0 0],.bool false])) w':=
 ⟨_,by rw [hf];rfl,⟨_,_,rfl,_,_,_,rfl⟩,fun z hz=>(by rw [hf]at hz;cases hz),hB⟩
theorem btu{b T U:Nat}(h:b<U)(h2:T≤U*9):b+T<10*U:=by omega
theorem tle{T U:Nat}(h:T≤U*9)(h2:U≤100000000):T≤900000000:=by omega
theorem w64n{x:Nat}(h:x≤9223372036854775807):wrap64 (x:Int)=(x:Int):=by unfold wrap64;omega
theorem znL{q j k:Nat}(h:q+1+j=k):(q:Int)-1=(k:Int)-1-((j+1:Nat):Int):=by omega
theorem zmg(o:ByteArray)(h:0<o.size)(hh:o.data.toList.head? = some 48):(o[0].toNat:Int)=48:=by
 rw [zhL o h]at hh;have:o[0]=48:=by simpa using hh
 rw [this];rfl
theorem zjc(o:ByteArray)(h:0<o.size)(hh:¬o.data.toList.head? = some 48):¬(o[0].toNat:Int)=48:=by
 intro e;apply hh
 have:o[0]=48:=UInt8.toNat_inj.1 (by have:(48:UInt8).toNat=48:=rfl;omega);rw [zhL o h,this];rfl
theorem ztg(s:ByteArray)(h:0<s.size):(((s[0].toNat:Int) == 45))=zbY s.data.toList:=by
 rw [zhL s h,zdP,Bool.eq_iff_iff];simp only [beq_iff_eq];constructor
 ·intro e;exact UInt8.toNat_inj.1 (by have:(45:UInt8).toNat=45:=rfl;omega)
 ·intro e;rw [e];rfl
theorem zgM(w:World)(s:ByteArray)(l:List UInt8)(hl:s.data.toList=l)(hn:l.length≤100000) :
  CallsIn Fence.wide 0 Tryz.prog 68 #[.string s] w (zra w l):=by
 have hsz:s.size=l.length:=by rw [Lib.size_eq,hl]
 have HSL:=zHi hl;obtain⟨n,hnl⟩:∃n,l.length=n:=⟨_,rfl⟩;rw [hnl]at hsz hn;have HN:=zHi hnl;refine callsIn_of_wp Tryz.func68 rfl trivial ?_ rfl;simp only [Tryz.ntmps68,ztH,ztI,ztJ,Nat.reduceAdd,Nat.reduceSub,ztK,ztL,ztM,ztN,ztO,ztP];by_cases hn0:n=0
 ·subst hn0;have hl0:l = []:=List.eq_nil_of_length_eq_zero hnl;have hse:s.toList = []:=by rw [Lib.toList_data,hl];exact hl0
  have HF:Hid (zbF l=none):=zHi (by rw [hl0];rfl);clear hl hnl hl0;gi_wp2_with (exfalso;exact zae (by assumption))
  all_goals
   refine zdg rfl rfl rfl rfl ?_;exact zck HF.out (zaa _ _)
 ·have hn0':0<n:=by omega
  have hs0:0<s.size:=by omega
  have hneg:=ztg s hs0;rw [HSL.out]at hneg;clear hl hnl
  cases hng:zbY l with
  | true=>
   rw [hng]at hneg;obtain⟨o,ho⟩:∃o,s.extract 1 n=o:=⟨_,rfl⟩;obtain⟨k,hk⟩:∃k,n-1=k:=⟨_,rfl⟩;have hod:o.data.toList=zaR l:=by
    obtain⟨r,hr⟩:=zrv hng;rw [←ho,Lib.extract_eq];show List.take (n-1) (List.drop 1 s.data.toList)=_
    rw [HSL.out,hr,zls,List.drop_one,List.tail_cons];apply List.take_of_length_le
    have:=HN.out;rw [hr,List.length_cons]at this;omega
   have hko:o.size=k:=by
    rw [←ho,←hk,Lib.size_eq,Lib.extract_eq];show(List.take (n-1) (List.drop 1 s.data.toList)).length=_
    rw [List.length_take,List.length_drop,←Lib.size_eq,hsz];omega
   have HO:=zHi hod.symm;have HNG:=zHi hng;have hkn:k≤100000:=by omega
   clear hod hng;by_cases hk0:k=0
   ·subst hk0;have hoe:o.toList = []:=by rw [Lib.toList_data];exact List.eq_nil_of_length_eq_zero (by rw [←Lib.size_eq];exact hko)
    have HF:=zHi (zg6 HO.out HNG.out (.inl (by rw [←Lib.toList_data];exact hoe)));gi_wp2_with (exfalso;exact zae (by assumption))
    all_goals
     refine zdg rfl rfl rfl rfl ?_;exact zck HF.out (zaa _ _)
   ·have hkp:0<k:=by omega
    have hop:0<o.size:=by omega
    have hoe:¬o.toList = []:=by
     rw [Lib.toList_data];intro e;have:o.size=0:=by rw [Lib.size_eq,e];rfl
     omega
    have hoe':o.toList.isEmpty=false:=by cases hc:o.toList with|nil=>exact absurd hc hoe|cons _ _=>rfl
    by_cases h48:o.data.toList.head? = some 48
    ·have h48':=zmg o hop h48;by_cases hk1:k=1
     ·have hk1':decide ((k:Int)>1)=false:=decide_eq_false (by omega);have HF:=zHi (zg6 HO.out HNG.out (.inr ⟨h48,.inr rfl⟩));gi_wp2_with (exfalso;exact zae (by assumption))
      all_goals
       refine zdg rfl rfl rfl rfl ?_;exact zck HF.out (zaa _ _)
     ·have hk1':decide ((k:Int)>1)=true:=decide_eq_true (by omega);have HF:=zHi (zg6 HO.out HNG.out (.inr ⟨h48,.inr rfl⟩));gi_wp2_with (exfalso;exact zae (by assumption))
      all_goals
       refine zdg rfl rfl rfl rfl ?_;exact zck HF.out (zaa _ _)
    ·have h48':=zjc o hop h48;have HFZ:=zHi (zlO HO.out HNG.out (by rw [←Lib.toList_data];exact hoe) (fun h=>absurd h h48));obtain⟨K,hK,hKd,hKb⟩:=ziS o.data.toList;obtain⟨V,hV⟩:∃V,zaf (o.data.toList.drop K)=V:=⟨_,rfl⟩;have HKd:=zHi hKd;have HKb:=zHi hKb;have HV:=zHi hV;have hKk:K≤k:=by rw [←Lib.size_eq,hko]at hK;exact hK
     have hdl:Hid ((o.data.toList.drop K).length=k-K):=zHi (by rw [List.length_drop,←Lib.size_eq,hko]);clear hK hKd hKb hV;gi_wp2_with (exfalso;exact zae (by assumption))
     obtain⟨W,hW⟩:∃W,W=w.alloc (.cells #[.bool false,.slice none 0 0] 32):=⟨_,rfl⟩;rw [←hW];have HTK:Hid (zgG w W w.heap.size):=zHi (by rw [hW];exact zhc _ _ _);obtain⟨g,hg⟩:∃g,w.heap.size=g:=⟨_,rfl⟩;rw [hg]at HTK;rw [hg];clear hW hg;have HO4:Hid (W.ownsRow W.heap.size 3 1 (.slice none 0 0) 0 (za3 V 0)):=World.ownsRow_nil _ _ _ _;have HB4:Hid (Below W.heap.size W W):=Below.refl _ W;gi_loopw [5,6,7,8] (fun x5 x6 x7 x8 wr=>∃(j b U:Nat),x6 = .int .i64 (b:Int)∧x7 = .int .i64 (U:Int)∧x8 = .int .i64 ((k:Int)-1-(j:Int))∧j≤k∧j+K≤k∧Hid (part V j=b)∧Hid (10^(j%9)=U)∧b<U∧U≤100000000∧Hid (wr.ownsRow W.heap.size 3 1 x5 (j/9) (za3 V (j/9)))∧Hid (Below W.heap.size W wr)) (fun _ _ _ v _=>(intOf v+1).toNat)
     case atStart=>exact⟨0,0,1,rfl,rfl,by go_num,by omega,by omega,zHi (by unfold part;simp [Nat.mod_one]),zHi (by decide),by omega,by omega,HO4.out,HB4.out⟩
     case round=>
      obtain⟨j,b,U,rfl,rfl,rfl,hjk,hjK,HP,HU,hbU,hU,HOr,HBr⟩:=hrel;clear HO4 HB4;by_cases hjk1:j<k
      ·obtain⟨q,hq⟩:∃q,q+1+j=k:=⟨k-1-j,by omega⟩;have hqi:(k:Int)-1-(j:Int)=(q:Int):=by omega
       have hqk:q<o.size:=by omega
       rw [hqi];by_cases hjd:j+K<k
       ·have HD:Hid (za0 o[q]=true∧o[q].toNat-48=V/10^j%10):=zHi (by
         have hb:=byte_at o hqk;have hb2:(o.data.toList.drop K)[(o.data.toList.drop K).length-1-j]? = some o[q]:=by
          rw [hdl.out,List.getElem?_drop,←hb];congr 1;omega
         have h1:=zoi HKd.out (j:=j) (by rw [hdl.out];omega) _ hb2;rw [HV.out]at h1;exact⟨List.all_eq_true.1 HKd.out _ (List.mem_of_getElem? hb2),h1⟩)
        obtain⟨c,hc⟩:∃c,o[q].toNat=c:=⟨_,rfl⟩;have hcr:48≤c∧c≤57:=by rw [←hc];exact zoj HD.out.1
        have HDV:Hid (c-48=V/10^j%10):=zHi (by rw [←hc];exact HD.out.2);have hc1:((c:Int)-48)%256=((c-48:Nat):Int):=by omega
        clear HD;obtain⟨d,hd⟩:∃d,c-48=d:=⟨_,rfl⟩;have hd9:d≤9:=by omega
        rw [hd]at HDV hc1;have hUd:U*d≤U*9:=Nat.mul_le_mul_left U hd9;obtain⟨T,hT⟩:∃T,U*d=T:=⟨_,rfl⟩;rw [hT]at hUd;have hcd:(c:Int)-48=(d:Int):=by omega
        have hT':(U:Int)*(d:Int)=(T:Int):=by rw [←hT];go_num
        have HT:=zHi hT;have hT9:T≤900000000:=tle hUd hU;have hw1:wrap64 (T:Int)=(T:Int):=w64n (Nat.le_trans hT9 (by decide));have hw2:wrap64 ((b:Int)+(T:Int))=((b+T:Nat):Int):=by rw [←Int.natCast_add];exact w64n (Nat.le_trans (Nat.add_le_add (Nat.le_of_lt (Nat.lt_of_lt_of_le hbU hU)) hT9) (by decide))
        have hm9:j%9<9:=Nat.mod_lt _ (by decide);have hqj:(q:Int)-1=(k:Int)-1-((j+1:Nat):Int):=znL hq;have HQJ:=zHi hqj;have HT9:=zHi hT9;have HBT:Hid (b+T<10*U):=zHi (btu hbU hUd);have HM9:=zHi hm9;clear hT hd hqj hT9 hUd hm9 hd9;by_cases hj8:j%9=8
        ·have HPF:=zHi (zlm (V:=V) hj8);have hU8:((10*(U:Int)) == 1000000000)=true:=by rw [←HU.out,hj8];decide
         have HJ8:=zHi hj8;clear hj8;gi_wp2_with (gi_at_builtin;refine stop ?_)
         unfold Stop;refine zaD W wr rfl _ _ rfl u5 (j/9) V rfl HOr _ _ rfl ?_ (by omega) HBr ?_
         ·have:=HPF.out.1;rw [HP.out,HU.out,←HDV.out,HT.out]at this;rw [this];exact(Int.natCast_add b T).symm
         ·intro v2 w2 HO2 HB2;gi_wp2;refine⟨⟨j+1,0,1,rfl,rfl,by rw [HQJ.out],by omega,by omega,HPF.out.2,zHi (by rw [show(j+1)%9=0 by have:=HJ8.out;omega]),by omega,by omega,?_,HB2⟩,by simp only [intOf];omega⟩;rw [show(j+1)/9=j/9+1 by have:=HJ8.out;omega];exact HO2
        ·have HPN:=zHi (zll (V:=V) hj8);have hU7:U≤10000000:=by
          rw [←HU.out];exact Nat.le_trans (Nat.pow_le_pow_right (by decide) (show j%9≤7 by omega)) (by decide)
         have hU8:((10*(U:Int)) == 1000000000)=false:=by
          apply beq_false_of_ne
          omega
         have HJ8:=zHi hj8;clear hj8;gi_wp2;refine⟨⟨j+1,b+T,10*U,by go_num,by go_num,by rw [HQJ.out],by omega,by omega,?_,?_,HBT.out,by omega,?_,HBr⟩,by simp only [intOf];omega⟩
         ·have:=HPN.out;rw [HP.out,HU.out,←HDV.out,HT.out]at this;exact this
         ·exact zHi (by rw [show(j+1)%9=j%9+1 by have:=HJ8.out;have:=HM9.out;omega,Nat.pow_succ,HU.out,Nat.mul_comm])
         ·rw [show(j+1)/9=j/9 by have:=HJ8.out;omega];exact HOr
       ·have HBAD:Hid (za0 o[q]=false):=zHi (by
         obtain⟨b0,h1,h2⟩:=HKb.out (by omega);rw [show K-1=q by omega,byte_at o hqk]at h1;rw [Option.some.inj h1];exact h2)
        have HF:Hid (zbF l=none):=zHi (by
         rw [HFZ.out,if_neg];intro h;have:=List.all_eq_true.1 h o[q] (List.mem_of_getElem? (byte_at o hqk));rw [HBAD.out]at this
         cases this)
        obtain⟨c,hc⟩:∃c,o[q].toNat=c:=⟨_,rfl⟩;have hcr:¬(48≤c∧c≤57):=by rw [←hc];exact of_decide_eq_false HBAD.out
        clear HBAD;have HTK2:=zHi (HTK.out.step HBr.out);obtain⟨f,hf⟩:=HTK2.out.res;have z0:=(hf 0 (by omega)).1;have z1:=(hf 1 (by omega)).1;have y0:=(hf 0 (by omega)).2;have y1:=(hf 1 (by omega)).2;have hle:=HTK2.out.le;clear hf;by_cases hc48:c<48
        ·gi_wp2_with (exfalso;exact zae (by assumption))
         refine zbI rfl rfl g rfl rfl z0 z1 ?_;exact zck HF.out ((HTK2.out.below.setCell hle _).setCell hle _)
        ·have hc57:57<c:=by omega
         gi_wp2_with (exfalso;exact zae (by assumption))
         refine zbI rfl rfl g rfl rfl z0 z1 ?_;exact zck HF.out ((HTK2.out.below.setCell hle _).setCell hle _)
      ·have hjk2:j=k:=by omega
       subst hjk2;have hK0:K=0:=by omega
       subst hK0;have HALL:Hid (o.data.toList.all za0=true):=zHi (by have:=HKd.out;rw [List.drop_zero]at this;exact this);have HVV:Hid (zaf o.data.toList=V):=zHi (by have:=HV.out;rw [List.drop_zero]at this;exact this);have HV10:Hid (V<10^j):=zHi (by
        have:=zdU HALL.out;rw [HVV.out,←Lib.size_eq,hko]at this;exact this)
       have HF:Hid (zbF l=some (sgn true V)):=zHi (by rw [HFZ.out,if_pos HALL.out,HVV.out]);have hneg1:(j:Int)-1-(j:Int) = -1:=by omega
       rw [hneg1];by_cases hb0:0<b
       ·gi_wp2_with (gi_at_builtin;refine stop ?_)
        unfold Stop;refine zaD W wr rfl _ _ rfl u5 (j/9) V rfl HOr _ _ rfl ?_ (by omega) HBr ?_
        ·rw [(zg8 HV10.out).1,HP.out]
        ·intro v2 w2 HO2 HB2;have HLI:Hid (zbP w2 v2 V (j/9+1)):=zHi (zbA HO2.out (by omega));have HVB:=zHi (zg8 HV10.out).2;gi_wp2_with (gi_at_call 111;refine stop ?_)
         refine(zbe _ _ V _ HLI.out HVB.out).mono ?_;rintro e w3 ⟨v3,rfl,⟨hv3,_⟩,hB3⟩;have HB3:=zBt HB2 hB3;have HV3:=zHi hv3;clear hv3 hB3;gi_wp2_with (gi_at_call 75;refine stop ?_)
         refine(zdQ w3 _ v3 V HV3.out).mono ?_;rintro e w4 ⟨v4,rfl,⟨m4,rfl,hm4⟩,hB4⟩;have HB4:=zBt HB3 hB4;obtain⟨o5,k5,c5,rfl,_,_⟩:=zaC hm4;have HM4:=zHi hm4;have HTK2:=zHi (HTK.out.step HB4.out);obtain⟨f,hf⟩:=HTK2.out.res;have z0:=(hf 0 (by omega)).1;have z1:=(hf 1 (by omega)).1;have y0:=(hf 0 (by omega)).2;have y1:=(hf 1 (by omega)).2;have hle:=HTK2.out.le;have HE:=zHi HTK2.out.el;clear hf hm4 hB4;obtain⟨sg,hsg⟩:∃sg,decide (sgn true V<0)=sg:=⟨_,rfl⟩;rw [hsg];have HSG:=zHi hsg;clear hsg;gi_wp2;refine zbI rfl rfl g rfl rfl z0 z1 ?_;refine⟨.agg #[.bool sg,.slice o5 k5 c5],by rw [HF.out];rfl,⟨_,_,rfl,_,_,_,rfl⟩,?_,(HTK2.out.below.setCell hle _).setCell hle _⟩;intro z hz;rw [HF.out]at hz
         cases hz
         exact⟨_,by rw [HSG.out],(HM4.out.setElem HE.out (by decide)).setElem (HE.out.setCell _ _) (by decide)⟩
       ·have hb00:b=0:=by omega
        subst hb00;have HLI:Hid (zbP wr u5 V (j/9)):=zHi (zbA HOr.out (by omega));have HVB:=zHi (zoe HV10.out HP.out);gi_wp2_with (gi_at_call 111;refine stop ?_)
        refine(zbe _ _ V _ HLI.out HVB.out).mono ?_;rintro e w3 ⟨v3,rfl,⟨hv3,_⟩,hB3⟩;have HB3:=zBt HBr hB3;have HV3:=zHi hv3;clear hv3 hB3;gi_wp2_with (gi_at_call 75;refine stop ?_)
        refine(zdQ w3 _ v3 V HV3.out).mono ?_;rintro e w4 ⟨v4,rfl,⟨m4,rfl,hm4⟩,hB4⟩;have HB4:=zBt HB3 hB4;obtain⟨o5,k5,c5,rfl,_,_⟩:=zaC hm4;have HM4:=zHi hm4;have HTK2:=zHi (HTK.out.step HB4.out);obtain⟨f,hf⟩:=HTK2.out.res;have z0:=(hf 0 (by omega)).1;have z1:=(hf 1 (by omega)).1;have y0:=(hf 0 (by omega)).2;have y1:=(hf 1 (by omega)).2;have hle:=HTK2.out.le;have HE:=zHi HTK2.out.el;clear hf hm4 hB4;obtain⟨sg,hsg⟩:∃sg,decide (sgn true V<0)=sg:=⟨_,rfl⟩;rw [hsg];have HSG:=zHi hsg;clear hsg;gi_wp2;refine zbI rfl rfl g rfl rfl z0 z1 ?_;refine⟨.agg #[.bool sg,.slice o5 k5 c5],by rw [HF.out];rfl,⟨_,_,rfl,_,_,_,rfl⟩,?_,(HTK2.out.below.setCell hle _).setCell hle _⟩;intro z hz;rw [HF.out]at hz
        cases hz
        exact⟨_,by rw [HSG.out],(HM4.out.setElem HE.out (by decide)).setElem (HE.out.setCell _ _) (by decide)⟩
  | false=>
   rw [hng]at hneg;have hod:s.data.toList=zaR l:=by rw [zf4 hng,HSL.out]
   obtain⟨o,ho⟩:∃o,o=s:=⟨_,rfl⟩;obtain⟨k,hk⟩:∃k,k=n:=⟨_,rfl⟩;subst ho;subst hk;have HO:=zHi hod.symm;have HNG:=zHi hng;have hko:o.size=k:=hsz;have hkn:k≤100000:=hn;have hkp:0<k:=hn0';have hop:0<o.size:=hs0;clear hod hng hsz hn;have hoe:¬o.toList = []:=by
    rw [Lib.toList_data];intro e;have:o.size=0:=by rw [Lib.size_eq,e];rfl
    omega
   have hoe':o.toList.isEmpty=false:=by cases hc:o.toList with|nil=>exact absurd hc hoe|cons _ _=>rfl
   by_cases hbad:o.data.toList.head? = some 48∧k≠1
   ·have h48':=zmg o hop hbad.1;have hk1':decide ((k:Int)>1)=true:=decide_eq_true (by omega);have HF:=zHi (zg6 HO.out HNG.out (.inr ⟨hbad.1,.inl (by rw [←Lib.size_eq];omega)⟩));clear hbad;gi_wp2_with (exfalso;exact zae (by assumption))
    all_goals
     refine zdg rfl rfl rfl rfl ?_;exact zck HF.out (zaa _ _)
   ·have HFZ:=zHi (zlO HO.out HNG.out (by rw [←Lib.toList_data];exact hoe) (fun h=>by
     have hk1:k=1:=Classical.byContradiction fun hne=>hbad ⟨h,hne⟩
     refine⟨?_,rfl⟩;have hl1:o.data.toList.length=1:=by rw [←Lib.size_eq];omega
     match hm:o.data.toList,hl1 with
     | [b],_=>rw [hm]at h;simpa using h))
    by_cases h48:o.data.toList.head? = some 48
    case' pos=>
     have h48':=zmg o hop h48;have hk1:k=1:=Classical.byContradiction fun hne=>hbad ⟨h48,hne⟩
     have hk1':decide ((k:Int)>1)=false:=decide_eq_false (by omega);clear hk1 hbad
    case' neg=>
     have h48':=zjc o hop h48;clear hbad
    all_goals
     obtain⟨K,hK,hKd,hKb⟩:=ziS o.data.toList;obtain⟨V,hV⟩:∃V,zaf (o.data.toList.drop K)=V:=⟨_,rfl⟩;have HKd:=zHi hKd;have HKb:=zHi hKb;have HV:=zHi hV;have hKk:K≤k:=by rw [←Lib.size_eq,hko]at hK;exact hK
     have hdl:Hid ((o.data.toList.drop K).length=k-K):=zHi (by rw [List.length_drop,←Lib.size_eq,hko]);clear hK hKd hKb hV;gi_wp2_with (exfalso;exact zae (by assumption))
     obtain⟨W,hW⟩:∃W,W=w.alloc (.cells #[.bool false,.slice none 0 0] 32):=⟨_,rfl⟩;rw [←hW];have HTK:Hid (zgG w W w.heap.size):=zHi (by rw [hW];exact zhc _ _ _);obtain⟨g,hg⟩:∃g,w.heap.size=g:=⟨_,rfl⟩;rw [hg]at HTK;rw [hg];clear hW hg;have HO4:Hid (W.ownsRow W.heap.size 3 1 (.slice none 0 0) 0 (za3 V 0)):=World.ownsRow_nil _ _ _ _;have HB4:Hid (Below W.heap.size W W):=Below.refl _ W;gi_loopw [5,6,7,8] (fun x5 x6 x7 x8 wr=>∃(j b U:Nat),x6 = .int .i64 (b:Int)∧x7 = .int .i64 (U:Int)∧x8 = .int .i64 ((k:Int)-1-(j:Int))∧j≤k∧j+K≤k∧Hid (part V j=b)∧Hid (10^(j%9)=U)∧b<U∧U≤100000000∧Hid (wr.ownsRow W.heap.size 3 1 x5 (j/9) (za3 V (j/9)))∧Hid (Below W.heap.size W wr)) (fun _ _ _ v _=>(intOf v+1).toNat)
     case atStart=>exact⟨0,0,1,rfl,rfl,by go_num,by omega,by omega,zHi (by unfold part;simp [Nat.mod_one]),zHi (by decide),by omega,by omega,HO4.out,HB4.out⟩
     case round=>
      obtain⟨j,b,U,rfl,rfl,rfl,hjk,hjK,HP,HU,hbU,hU,HOr,HBr⟩:=hrel;clear HO4 HB4;by_cases hjk1:j<k
      ·obtain⟨q,hq⟩:∃q,q+1+j=k:=⟨k-1-j,by omega⟩;have hqi:(k:Int)-1-(j:Int)=(q:Int):=by omega
       have hqk:q<o.size:=by omega
       rw [hqi];by_cases hjd:j+K<k
       ·have HD:Hid (za0 o[q]=true∧o[q].toNat-48=V/10^j%10):=zHi (by
         have hb:=byte_at o hqk;have hb2:(o.data.toList.drop K)[(o.data.toList.drop K).length-1-j]? = some o[q]:=by
          rw [hdl.out,List.getElem?_drop,←hb];congr 1;omega
         have h1:=zoi HKd.out (j:=j) (by rw [hdl.out];omega) _ hb2;rw [HV.out]at h1;exact⟨List.all_eq_true.1 HKd.out _ (List.mem_of_getElem? hb2),h1⟩)
        obtain⟨c,hc⟩:∃c,o[q].toNat=c:=⟨_,rfl⟩;have hcr:48≤c∧c≤57:=by rw [←hc];exact zoj HD.out.1
        have HDV:Hid (c-48=V/10^j%10):=zHi (by rw [←hc];exact HD.out.2);have hc1:((c:Int)-48)%256=((c-48:Nat):Int):=by omega
        clear HD;obtain⟨d,hd⟩:∃d,c-48=d:=⟨_,rfl⟩;have hd9:d≤9:=by omega
        rw [hd]at HDV hc1;have hUd:U*d≤U*9:=Nat.mul_le_mul_left U hd9;obtain⟨T,hT⟩:∃T,U*d=T:=⟨_,rfl⟩;rw [hT]at hUd;have hcd:(c:Int)-48=(d:Int):=by omega
        have hT':(U:Int)*(d:Int)=(T:Int):=by rw [←hT];go_num
        have HT:=zHi hT;have hT9:T≤900000000:=tle hUd hU;have hw1:wrap64 (T:Int)=(T:Int):=w64n (Nat.le_trans hT9 (by decide));have hw2:wrap64 ((b:Int)+(T:Int))=((b+T:Nat):Int):=by rw [←Int.natCast_add];exact w64n (Nat.le_trans (Nat.add_le_add (Nat.le_of_lt (Nat.lt_of_lt_of_le hbU hU)) hT9) (by decide))
        have hm9:j%9<9:=Nat.mod_lt _ (by decide);have hqj:(q:Int)-1=(k:Int)-1-((j+1:Nat):Int):=znL hq;have HQJ:=zHi hqj;have HT9:=zHi hT9;have HBT:Hid (b+T<10*U):=zHi (btu hbU hUd);have HM9:=zHi hm9;clear hT hd hqj hT9 hUd hm9 hd9;by_cases hj8:j%9=8
        ·have HPF:=zHi (zlm (V:=V) hj8);have hU8:((10*(U:Int)) == 1000000000)=true:=by rw [←HU.out,hj8];decide
         have HJ8:=zHi hj8;clear hj8;gi_wp2_with (gi_at_builtin;refine stop ?_)
         unfold Stop;refine zaD W wr rfl _ _ rfl u5 (j/9) V rfl HOr _ _ rfl ?_ (by omega) HBr ?_
         ·have:=HPF.out.1;rw [HP.out,HU.out,←HDV.out,HT.out]at this;rw [this];exact(Int.natCast_add b T).symm
         ·intro v2 w2 HO2 HB2;gi_wp2;refine⟨⟨j+1,0,1,rfl,rfl,by rw [HQJ.out],by omega,by omega,HPF.out.2,zHi (by rw [show(j+1)%9=0 by have:=HJ8.out;omega]),by omega,by omega,?_,HB2⟩,by simp only [intOf];omega⟩;rw [show(j+1)/9=j/9+1 by have:=HJ8.out;omega];exact HO2
        ·have HPN:=zHi (zll (V:=V) hj8);have hU7:U≤10000000:=by
          rw [←HU.out];exact Nat.le_trans (Nat.pow_le_pow_right (by decide) (show j%9≤7 by omega)) (by decide)
         have hU8:((10*(U:Int)) == 1000000000)=false:=by
          apply beq_false_of_ne
          omega
         have HJ8:=zHi hj8;clear hj8;gi_wp2;refine⟨⟨j+1,b+T,10*U,by go_num,by go_num,by rw [HQJ.out],by omega,by omega,?_,?_,HBT.out,by omega,?_,HBr⟩,by simp only [intOf];omega⟩
         ·have:=HPN.out;rw [HP.out,HU.out,←HDV.out,HT.out]at this;exact this
         ·exact zHi (by rw [show(j+1)%9=j%9+1 by have:=HJ8.out;have:=HM9.out;omega,Nat.pow_succ,HU.out,Nat.mul_comm])
         ·rw [show(j+1)/9=j/9 by have:=HJ8.out;omega];exact HOr
       ·have HBAD:Hid (za0 o[q]=false):=zHi (by
         obtain⟨b0,h1,h2⟩:=HKb.out (by omega);rw [show K-1=q by omega,byte_at o hqk]at h1;rw [Option.some.inj h1];exact h2)
        have HF:Hid (zbF l=none):=zHi (by
         rw [HFZ.out,if_neg];intro h;have:=List.all_eq_true.1 h o[q] (List.mem_of_getElem? (byte_at o hqk));rw [HBAD.out]at this
         cases this)
        obtain⟨c,hc⟩:∃c,o[q].toNat=c:=⟨_,rfl⟩;have hcr:¬(48≤c∧c≤57):=by rw [←hc];exact of_decide_eq_false HBAD.out
        clear HBAD;have HTK2:=zHi (HTK.out.step HBr.out);obtain⟨f,hf⟩:=HTK2.out.res;have z0:=(hf 0 (by omega)).1;have z1:=(hf 1 (by omega)).1;have y0:=(hf 0 (by omega)).2;have y1:=(hf 1 (by omega)).2;have hle:=HTK2.out.le;clear hf;by_cases hc48:c<48
        ·gi_wp2_with (exfalso;exact zae (by assumption))
         refine zbI rfl rfl g rfl rfl z0 z1 ?_;exact zck HF.out ((HTK2.out.below.setCell hle _).setCell hle _)
        ·have hc57:57<c:=by omega
         gi_wp2_with (exfalso;exact zae (by assumption))
         refine zbI rfl rfl g rfl rfl z0 z1 ?_;exact zck HF.out ((HTK2.out.below.setCell hle _).setCell hle _)
      ·have hjk2:j=k:=by omega
       subst hjk2;have hK0:K=0:=by omega
       subst hK0;have HALL:Hid (o.data.toList.all za0=true):=zHi (by have:=HKd.out;rw [List.drop_zero]at this;exact this);have HVV:Hid (zaf o.data.toList=V):=zHi (by have:=HV.out;rw [List.drop_zero]at this;exact this);have HV10:Hid (V<10^j):=zHi (by
        have:=zdU HALL.out;rw [HVV.out,←Lib.size_eq,hko]at this;exact this)
       have HF:Hid (zbF l=some (sgn false V)):=zHi (by rw [HFZ.out,if_pos HALL.out,HVV.out]);have hneg1:(j:Int)-1-(j:Int) = -1:=by omega
       rw [hneg1];by_cases hb0:0<b
       ·gi_wp2_with (gi_at_builtin;refine stop ?_)
        unfold Stop;refine zaD W wr rfl _ _ rfl u5 (j/9) V rfl HOr _ _ rfl ?_ (by omega) HBr ?_
        ·rw [(zg8 HV10.out).1,HP.out]
        ·intro v2 w2 HO2 HB2;have HLI:Hid (zbP w2 v2 V (j/9+1)):=zHi (zbA HO2.out (by omega));have HVB:=zHi (zg8 HV10.out).2;gi_wp2_with (gi_at_call 111;refine stop ?_)
         refine(zbe _ _ V _ HLI.out HVB.out).mono ?_;rintro e w3 ⟨v3,rfl,⟨hv3,_⟩,hB3⟩;have HB3:=zBt HB2 hB3;have HV3:=zHi hv3;clear hv3 hB3;gi_wp2_with (gi_at_call 75;refine stop ?_)
         refine(zdQ w3 _ v3 V HV3.out).mono ?_;rintro e w4 ⟨v4,rfl,⟨m4,rfl,hm4⟩,hB4⟩;have HB4:=zBt HB3 hB4;obtain⟨o5,k5,c5,rfl,_,_⟩:=zaC hm4;have HM4:=zHi hm4;have HTK2:=zHi (HTK.out.step HB4.out);obtain⟨f,hf⟩:=HTK2.out.res;have z0:=(hf 0 (by omega)).1;have z1:=(hf 1 (by omega)).1;have y0:=(hf 0 (by omega)).2;have y1:=(hf 1 (by omega)).2;have hle:=HTK2.out.le;have HE:=zHi HTK2.out.el;clear hf hm4 hB4;obtain⟨sg,hsg⟩:∃sg,decide (sgn false V<0)=sg:=⟨_,rfl⟩;rw [hsg];have HSG:=zHi hsg;clear hsg;gi_wp2;refine zbI rfl rfl g rfl rfl z0 z1 ?_;refine⟨.agg #[.bool sg,.slice o5 k5 c5],by rw [HF.out];rfl,⟨_,_,rfl,_,_,_,rfl⟩,?_,(HTK2.out.below.setCell hle _).setCell hle _⟩;intro z hz;rw [HF.out]at hz
         cases hz
         exact⟨_,by rw [HSG.out],(HM4.out.setElem HE.out (by decide)).setElem (HE.out.setCell _ _) (by decide)⟩
       ·have hb00:b=0:=by omega
        subst hb00;have HLI:Hid (zbP wr u5 V (j/9)):=zHi (zbA HOr.out (by omega));have HVB:=zHi (zoe HV10.out HP.out);gi_wp2_with (gi_at_call 111;refine stop ?_)
        refine(zbe _ _ V _ HLI.out HVB.out).mono ?_;rintro e w3 ⟨v3,rfl,⟨hv3,_⟩,hB3⟩;have HB3:=zBt HBr hB3;have HV3:=zHi hv3;clear hv3 hB3;gi_wp2_with (gi_at_call 75;refine stop ?_)
        refine(zdQ w3 _ v3 V HV3.out).mono ?_;rintro e w4 ⟨v4,rfl,⟨m4,rfl,hm4⟩,hB4⟩;have HB4:=zBt HB3 hB4;obtain⟨o5,k5,c5,rfl,_,_⟩:=zaC hm4;have HM4:=zHi hm4;have HTK2:=zHi (HTK.out.step HB4.out);obtain⟨f,hf⟩:=HTK2.out.res;have z0:=(hf 0 (by omega)).1;have z1:=(hf 1 (by omega)).1;have y0:=(hf 0 (by omega)).2;have y1:=(hf 1 (by omega)).2;have hle:=HTK2.out.le;have HE:=zHi HTK2.out.el;clear hf hm4 hB4;obtain⟨sg,hsg⟩:∃sg,decide (sgn false V<0)=sg:=⟨_,rfl⟩;rw [hsg];have HSG:=zHi hsg;clear hsg;gi_wp2;refine zbI rfl rfl g rfl rfl z0 z1 ?_;refine⟨.agg #[.bool sg,.slice o5 k5 c5],by rw [HF.out];rfl,⟨_,_,rfl,_,_,_,rfl⟩,?_,(HTK2.out.below.setCell hle _).setCell hle _⟩;intro z hz;rw [HF.out]at hz
        cases hz
        exact⟨_,by rw [HSG.out],(HM4.out.setElem HE.out (by decide)).setElem (HE.out.setCell _ _) (by decide)⟩
def refE(l:List UInt8):Int:=if 41000<l.length then 2 else match zcg l with|none=>10|some q=>if zbq q 20000 then 0 else 11
def zrb(w:World)(l:List UInt8)(e:Ending)(w':World):Prop:=
 ∃v',e = .returned (.tuple #[v',.int .i64 (refE l)])∧(∃s1 o1 k1 c1 s2 o2 k2 c2,v' = .agg #[.bool s1,.slice o1 k1 c1,.bool s2,.slice o2 k2 c2])∧(refE l=0→∃q,zcg l=some q∧QAt w' v' q)∧Below w.heap.size w w'
structure zcL(w W:World)(g:Nat):Prop where
 res:∃f,zaj W g 4 f
 el:Elem W g 34
 below:Below w.heap.size w W
 le:w.heap.size≤g
theorem zcL.step{w W W':World}{g:Nat}(h:zcL w W g)(hb:Below W.heap.size W W'):zcL w W' g:=by
 obtain⟨f,hf⟩:=h.res;exact⟨⟨f,hf.below h.el.lt hb⟩,h.el.below hb h.el.lt,h.below.trans (hb.mono h.below.size),h.le⟩
theorem zeP(w:World)(x y z u:Value):zcL w (w.alloc (.cells #[x,y,z,u] 34)) w.heap.size:=
 ⟨⟨fun i => [x,y,z,u].getD i x,zaj.new _ _ _ fun i hi=>by
  match i,hi with
  | 0,_=>rfl
  | 1,_=>rfl
  | 2,_=>rfl
  | 3,_=>rfl⟩,zaB _ _ _,zaa _ _,Nat.le_refl _⟩
theorem zpY{l:List UInt8}(h:41000<l.length):refE l=2:=if_pos h
theorem zfU{l:List UInt8}(h:¬41000<l.length)(hf:zcg l=none):refE l=10:=by unfold refE;rw [if_neg h,hf]
theorem zfT{l:List UInt8}(h:¬41000<l.length){q:Rat}(hf:zcg l=some q):refE l=if zbq q 20000 then 0 else 11:=by unfold refE;rw [if_neg h,hf]
theorem znG{fn:Func}{p t:Tmp}{R:Ending→World→Prop}{a:Act}{w:World}{x y z u v:Value}(h:fn.results=#[.cell p 34,.tmp t])(hd:a.defers = [])(g:Nat)(hp:a.tmps.getD p undef = .pointer (some ⟨g,0,none⟩))(ht:a.tmps.getD t undef=v)
  (hc:Box4 w g x y z u) (hR:R (.returned (.tuple #[.agg #[x,y,z,u],v])) w):bodyPost Tryz.prog fn R .ret a w:=by
 refine⟨hd,.tuple #[.agg #[x,y,z,u],v],?_,hR⟩;have e1:=l34 g [x,y,z,u] w rfl hc;simp only [Instr.loadAt,Instr.sureAddr,Sem.run_bind,Sem.run_pure,Result.andThen_ok]at e1;have hp2:a.tmps[p]?.getD undef = .pointer (some ⟨g,0,none⟩):=by rw [←Array.getD_eq_getD_getElem?];exact hp
 have ht2:a.tmps[t]?.getD undef=v:=by rw [←Array.getD_eq_getD_getElem?];exact ht
 simp [results,h,hp2,ht2,asAddr,e1]
theorem zlc{fn:Func}{p t:Tmp}{R:Ending→World→Prop}{a:Act}{w:World}{x y z u v:Value}(h:fn.results=#[.cell p 34,.tmp t])(hd:a.defers = [])(hp:a.tmps.getD p undef = .pointer (some ⟨w.heap.size,0,none⟩))(ht:a.tmps.getD t undef=v)
  (hR:R (.returned (.tuple #[.agg #[x,y,z,u],v])) (w.alloc (.cells #[x,y,z,u] 34))):bodyPost Tryz.prog fn R .ret a (w.alloc (.cells #[x,y,z,u] 34)):=by
 refine znG h hd w.heap.size hp ht (fun j v' hj => ?_) hR;match j,hj with
 | 0,hj=>rw [←hj,World.cell?_alloc_new];rfl
 | 1,hj=>rw [←hj,World.cell?_alloc_new];rfl
 | 2,hj=>rw [←hj,World.cell?_alloc_new];rfl
 | 3,hj=>rw [←hj,World.cell?_alloc_new];rfl
 | k+4,hj=>simp at hj
theorem zbn{fn:Func}{p t:Tmp}{R:Ending→World→Prop}{a:Act}{w:World}{x y z u v:Value}(h:fn.results=#[.cell p 34,.tmp t])(hd:a.defers = [])(g:Nat)(hp:a.tmps.getD p undef = .pointer (some ⟨g,0,none⟩))(ht:a.tmps.getD t undef=v)
  {f:Nat→Value} (hA:zaj w g 4 f) (hR:R (.returned (.tuple #[.agg #[x,y,z,u],v])) ((((w.setCell ⟨g,0,none⟩ x).setCell ⟨g,1,none⟩ y).setCell ⟨g,2,none⟩ z).setCell ⟨g,3,none⟩ u)) :
  bodyPost Tryz.prog fn R .ret a ((((w.setCell ⟨g,0,none⟩ x).setCell ⟨g,1,none⟩ y).setCell ⟨g,2,none⟩ z).setCell ⟨g,3,none⟩ u):=by
 have h4:=(((hA.set (i:=0) (by omega) x).set (i:=1) (by omega) y).set (i:=2) (by omega) z).set (i:=3) (by omega) u;refine znG h hd g hp ht (fun j v' hj => ?_) hR;match j,hj with
 | 0,hj=>rw [←hj];exact(h4 0 (by omega)).1
 | 1,hj=>rw [←hj];exact(h4 1 (by omega)).1
 | 2,hj=>rw [←hj];exact(h4 2 (by omega)).1
 | 3,hj=>rw [←hj];exact(h4 3 (by omega)).1
 | k+4,hj=>simp at hj
theorem zb9{w w':World}{l:List UInt8}{c:Int}(h:refE l=c)(hc:c≠0)(hB:Below w.heap.size w w'):zrb w l (.returned (.tuple #[.agg #[.bool false,.slice none 0 0,.bool false,.slice none 0 0],.int .i64 c])) w':=
 ⟨_,by rw [h],⟨_,_,_,_,_,_,_,_,rfl⟩,fun e=>absurd (h ▸ e) hc,hB⟩
def BoxL(w:World)(g:Nat)(xs:List Value):Prop:=g<w.heap.size∧∀j v,xs[j]? = some v→w.cell? ⟨g,j,none⟩=some v
theorem BoxL.below{w w':World}{g:Nat}{xs:List Value}(h:BoxL w g xs)(hb:Below w.heap.size w w'):BoxL w' g xs:=⟨Nat.lt_of_lt_of_le h.1 hb.size,fun j v hj=>(hb.cell (p:=⟨g,j,none⟩) h.1).trans (h.2 j v hj)⟩
theorem zaU(w:World)(xs:List Value)(t:TypeId):BoxL (w.alloc (.cells xs.toArray t)) w.heap.size xs:=⟨by simp,fun j v hj=>by
 rw [World.cell?_alloc_new,←hj];simp⟩
theorem zqG{l:List UInt8}(h:zbF (zay l)=none):zcg l=none:=by
 unfold zcg;unfold zay at h;split
 ·rename_i hs;rw [if_pos hs]at h;rw [h]
 ·rename_i hs;rw [if_neg hs]at h;rw [h]
theorem zmX{l:List UInt8}{z:Int}(h:zbF (zay l)=some z)(hs:¬zat l<l.length):zcg l=some (z:Rat):=by
 unfold zcg;unfold zay at h;rw [if_neg hs]at h ⊢;rw [h]
theorem zgS{b:List UInt8}(h:zbj b=true):zbY b=false:=by
 cases b with
 | nil=>rfl
 | cons c r=>
  have:=zbM h;simp only [List.all_cons,Bool.and_eq_true]at this;have h1:=of_decide_eq_true this.1;rw [zdP,beq_eq_false_iff_ne];rintro rfl;have:(45:UInt8).toNat=45:=rfl;omega
theorem zhN{b:List UInt8}(h:zbj b=true):zbF b=some (zaf b:Int):=by
 unfold zbF;rw [zgS h,zf4 (zgS h),h];rfl
theorem zqF{b:List UInt8}{z:Int}(h:zbF b=some z)(h2:2≤z):zbj b=true∧(zaf b:Int)=z:=by
 have hz:zbY b=false:=by
  cases hn:zbY b with
  | false=>rfl
  | true=>
   unfold zbF at h;split at h
   ·cases h
    rw [hn]at h2;have:(-(zaf (zaR b):Int))=sgn true (zaf (zaR b)):=rfl;omega
   ·cases h
 unfold zbF at h;rw [hz,zf4 hz]at h;split at h
 ·rename_i hc
  cases h
  simp only [Bool.false_and,Bool.not_false,Bool.and_true]at hc;exact⟨hc,rfl⟩
 ·cases h
theorem zmY{l:List UInt8}{z:Int}(h:zbF (zay l)=some z)(hs:zat l<l.length) :
  (∀d:Int,zbF (zaH l)=some d→2≤d→Nat.gcd z.natAbs d.natAbs=1→∃q,zcg l=some q∧q.num=z∧(q.den:Int)=d)∧(zbF (zaH l)=none→zcg l=none)∧(∀d:Int,zbF (zaH l)=some d→¬(2≤d∧Nat.gcd z.natAbs d.natAbs=1)→zcg l=none):=by
 have e:zcg l=if(zbj (zaH l) && decide (2≤zaf (zaH l)) && decide (Nat.gcd z.natAbs (zaf (zaH l))=1))=true then some ((z:Rat)/(zaf (zaH l):Rat))else none:=by
  unfold zcg;have ht:l.take (zat l)=zay l:=by unfold zay;rw [if_pos hs]
  have hb:l.drop (zat l+1)=zaH l:=by unfold zaH;rw [if_pos hs]
  rw [if_pos hs,ht,hb,h]
 refine⟨fun d hd h2 hg => ?_,fun hb => ?_,fun d hd hno => ?_⟩
 ·obtain⟨hc,rfl⟩:=zqF hd h2;rw [Int.natAbs_natCast]at hg;have h2':2≤zaf (zaH l):=by omega
  rw [hc,decide_eq_true h2',Bool.true_and,Bool.true_and,if_pos (decide_eq_true hg)]at e;have hp:=zfo (z:=z) (d:=zaf (zaH l)) (by omega) hg;exact⟨_,e,hp.1,by rw [hp.2]⟩
 ·rw [e,if_neg];intro hh;simp only [Bool.and_eq_true]at hh;rw [zhN hh.1.1]at hb
  cases hb
 ·rw [e,if_neg];intro hh;simp only [Bool.and_eq_true]at hh;have hc:=zhN hh.1.1;rw [hd]at hc
  cases hc
  refine hno ⟨?_,?_⟩
  ·have:=of_decide_eq_true hh.1.2;omega
  ·rw [Int.natAbs_natCast];exact of_decide_eq_true hh.2
theorem zpL{d:Int}(h:2≤d):decide ((d-2).sign<0)=false:=by
 apply decide_eq_false
 rcases Int.lt_or_eq_of_le h with h|h
 ·rw [Int.sign_eq_one_of_pos (by omega)];decide
 ·rw [show d-2=0 by omega];decide
theorem znn{b:List UInt8}{z:Int}(h:zbF b=some z)(hb:b.length≤41000):z.natAbs<B^5000:=by
 unfold zbF at h;split at h
 ·rename_i hc
  cases h
  rw [zbl];simp only [Bool.and_eq_true]at hc;refine zaX 5000 (zfK (k:=4556) (zbM hc.1) ?_) (by decide);have:(zaR b).length≤b.length:=by
   unfold zaR Lib.trimPrefix;split
   ·rw [List.length_drop];omega
   ·exact Nat.le_refl _
  omega
 ·cases h
theorem zmW{a':Act}{T:List Value}{lo hi:Nat}(hlh:lo≤hi)(h0:a'.defers = [])(h1:a'.tmps.toList.take lo=T.take lo)(h2:a'.tmps.toList.drop hi=T.drop hi)(hs:hi≤a'.tmps.size) :
  ∃ys:List Value,ys.length=hi-lo∧a'={tmps:=(T.take lo ++ ys ++ T.drop hi).toArray,defers:=[]}:=by
 refine⟨(a'.tmps.toList.drop lo).take (hi-lo),by rw [List.length_take,List.length_drop,Array.length_toList];omega,?_⟩;obtain⟨tm,df⟩:=a';simp only at *;rw [h0];congr 1
 apply Array.toList_inj.1
 show tm.toList=T.take lo ++ (tm.toList.drop lo).take (hi-lo) ++ T.drop hi
 have e1:tm.toList=tm.toList.take lo ++ tm.toList.drop lo:=(List.take_append_drop _ _).symm;have e2:tm.toList.drop lo=(tm.toList.drop lo).take (hi-lo) ++ (tm.toList.drop lo).drop (hi-lo):=(List.take_append_drop _ _).symm;have e3:(tm.toList.drop lo).drop (hi-lo)=T.drop hi:=by rw [List.drop_drop,show lo+(hi-lo)=hi by omega,h2]
 rw [e3]at e2;rw [←h1,List.append_assoc,←e2,←e1]
theorem zlB{l:List Value}(h:l.length=16):∃a b c d e f g i j k m n o p q r:Value,l = [a,b,c,d,e,f,g,i,j,k,m,n,o,p,q,r]:=by
 match l,h with
 | [a,b,c,d,e,f,g,i,j,k,m,n,o,p,q,r],_=>exact⟨a,b,c,d,e,f,g,i,j,k,m,n,o,p,q,r,rfl⟩
def Held(T:List Value)(lo hi:Nat)(R:Value→World→Prop)(at':Nat)(a':Act)(w':World):Prop:=
 a'.defers = []∧a'.tmps.toList.take lo=T.take lo∧a'.tmps.toList.drop hi=T.drop hi∧hi≤a'.tmps.size∧R (a'.tmps.getD at' undef) w'
theorem zdh{F:Fence}{n:Nat}{P:Program}{c:Code}{Q:Exit→Act→World→Prop}{T:List Value}{w:World}(lo hi at':Nat)(R:Value→World→Prop)(hlh:lo≤hi)
  (reg:c.wpIn F n P (ztr (Held T lo hi R at')) {tmps:=T.toArray,defers:=[]} w)
  (rest:∀ys w',ys.length=hi-lo→R ((T.take lo ++ ys ++ T.drop hi).toArray.getD at' undef) w'→Q .normal {tmps:=(T.take lo ++ ys ++ T.drop hi).toArray,defers:=[]} w') :
  c.wpIn F n P Q {tmps:=T.toArray,defers:=[]} w:=
 zpW _ (fun a' w' ⟨h0,h1,h2,h3,h4⟩=>by
  obtain⟨ys,hy,e⟩:=zmW hlh h0 h1 h2 h3;rw [e]at h4 ⊢;exact rest ys w' hy h4) reg
theorem zpn:(2:Int).natAbs<B^50000:=zaX 50000 (show 2<B^1 by decide) (by decide)
theorem zr7:(1:Int).natAbs<B^50000:=zaX 50000 (show 1<B^1 by decide) (by decide)
theorem zcL.set{w W:World}{g g6:Nat}(h:zcL w W g)(hne:g<g6){i:Nat}{u:Value}:zcL w (W.setCell ⟨g6,i,none⟩ u) g:=by
 obtain⟨f,hf⟩:=h.res;exact⟨⟨f,fun j hj=>⟨(World.cell?_setCell_other _ _ _ _ (by intro e;injection e with e _ _;omega)).trans (hf j hj).1,by rw [World.frozen?_setCell];exact(hf j hj).2⟩⟩,h.el.setCell _ _,h.below.setCell (by have:=h.le;show _≤g6;omega) _,h.le⟩
theorem NatI.set4{w:World}{v:Value}{n g:Nat}{x y z u:Value}(h:NatI w v n)(hE:Elem w g 34):NatI ((((w.setCell ⟨g,0,none⟩ x).setCell ⟨g,1,none⟩ y).setCell ⟨g,2,none⟩ z).setCell ⟨g,3,none⟩ u) v n:=
 (((h.setElem hE (by decide)).setElem (hE.setCell _ _) (by decide)).setElem ((hE.setCell _ _).setCell _ _) (by decide)).setElem (((hE.setCell _ _).setCell _ _).setCell _ _) (by decide)
theorem zsv{w:World}{g:Nat}{z d:Int}{q:Rat}{s1 s3:Bool}{v1 v3:Value}{x0 x1 x2 x3:Value}(hz:ZAt w (.agg #[.bool s1,v1]) z)(hd:ZAt w (.agg #[.bool s3,v3]) d)(hE:Elem w g 34)(hn:q.num=z)(hqd:(q.den:Int)=d)(h2:2≤d) :
  QAt ((((w.setCell ⟨g,0,none⟩ x0).setCell ⟨g,1,none⟩ x1).setCell ⟨g,2,none⟩ x2).setCell ⟨g,3,none⟩ x3) (.agg #[.bool s1,v1,.bool s3,v3]) q:=by
 obtain⟨m1,hm1,hn1⟩:=hz;obtain⟨m2,hm2,hn2⟩:=hd;have a1:s1=decide (z<0)∧v1=m1:=by simpa using hm1
 have a2:s3=decide (d<0)∧v3=m2:=by simpa using hm2
 have hs3:decide (d<0)=false:=decide_eq_false (by omega);refine⟨m1,m2,by rw [a1.1,a1.2,a2.1,a2.2,hs3,hn],by rw [hn];exact hn1.set4 hE,?_⟩;have e:q.den=d.natAbs:=by omega
 rw [e];exact hn2.set4 hE
def zfP:Value→Nat
 | .int _ n=>n.toNat
 | _=>0
theorem zlp(w:World)(s:ByteArray)(l:List UInt8)(hl:s.data.toList=l) :
  CallsIn Fence.wide 0 Tryz.prog 12 #[.string s] w (zrb w l):=by
 have hsz:s.size=l.length:=by rw [Lib.size_eq,hl]
 have HSL:=zHi hl;obtain⟨n,hnl⟩:∃n,l.length=n:=⟨_,rfl⟩;rw [hnl]at hsz;have HN:=zHi hnl;refine callsIn_of_wp Tryz.func12 rfl trivial ?_ rfl;simp only [Tryz.ntmps12,ztH,ztI,ztJ,Nat.reduceAdd,Nat.reduceSub,ztK,ztL,ztM,ztN,ztO,ztP];clear hl hnl;by_cases hlong:41000<n
 ·have hlong':decide ((n:Int)>41000)=true:=decide_eq_true (by omega);have HE:=zHi (zpY (l:=l) (by rw [HN.out];exact hlong));gi_wp2;refine zlc rfl rfl rfl rfl ?_;exact zb9 HE.out (by decide) (zaa _ _)
 ·have hlong':decide ((n:Int)>41000)=false:=decide_eq_false (by omega);have HNL:Hid (¬41000<l.length):=zHi (by rw [HN.out];exact hlong);obtain⟨a,hal⟩:∃a,zat l=a:=⟨_,rfl⟩;have HAL:=zHi hal;have han:a≤n:=by have:=znE l;rw [hal,HN.out]at this;exact this
  clear hal;gi_wp2;obtain⟨W,hW⟩:∃W,W=w.alloc (.cells #[.bool false,.slice none 0 0,.bool false,.slice none 0 0] 34):=⟨_,rfl⟩;rw [←hW];have HFK:Hid (zcL w W w.heap.size):=zHi (by rw [hW];exact zeP _ _ _ _ _);obtain⟨g,hg⟩:∃g,w.heap.size=g:=⟨_,rfl⟩;rw [hg]at HFK;rw [hg];clear hW hg;gi_loopw [4,5] (fun x4 x5 wr=>∃(i t:Nat),x4 = .int .i64 (t:Int)∧x5 = .int .i64 (i:Int)∧i≤n∧t≤n∧Hid (t=if a<i then a else n)∧wr=W) (fun _ v _=>n-zfP v)
  case atStart=>exact⟨0,n,rfl,rfl,by omega,by omega,zHi (by rw [if_neg (by omega)]),rfl⟩
  case round=>
   obtain⟨i,t,rfl,rfl,hi,ht,HT,rfl⟩:=hrel;by_cases hin:i<n
   ·have his:i<s.size:=by omega
    obtain⟨c,hc⟩:∃c,s[i].toNat=c:=⟨_,rfl⟩;by_cases hia:i=a
    ·have hc47:c=47:=by
      have h1:=zjQ l (by rw [HAL.out,HN.out];omega);rw [HAL.out,←hia,←HSL.out,byte_at s his]at h1;have:s[i]=47:=Option.some.inj h1;rw [←hc,this];rfl
     have htn:t=n:=by rw [HT.out,if_neg (by omega)]
     subst htn;have HIA:=zHi hia;clear hia;gi_wp2_with (exfalso;exact zae (by assumption))
     refine⟨⟨i+1,i,rfl,by go_num,by omega,by omega,zHi (by have:=HIA.out;rw [if_pos (by omega)];exact this),trivial⟩,by simp only [zfP];omega⟩
    ·by_cases hla:i<a
     ·have hc47:((c:Int) == 47)=false:=by
       apply beq_false_of_ne
       intro e;have h1:=zgJ l (i:=i) (by rw [HAL.out];exact hla);rw [←HSL.out,byte_at s his]at h1;exact h1 (by rw [show s[i]=47 from UInt8.toNat_inj.1 (by rw [hc];have:(47:UInt8).toNat=47:=rfl;omega)])
      have HLA:=zHi hla;clear hia hla;gi_wp2_with (exfalso;exact zae (by assumption))
      refine⟨⟨i+1,t,rfl,by go_num,by omega,ht,zHi (by have:=HLA.out;have:=HT.out;rw [if_neg (by omega)]at this ⊢;exact this),trivial⟩,by simp only [zfP];omega⟩
     ·have htn:((t:Int) == (n:Int))=false:=by
       apply beq_false_of_ne
       have:=HT.out;rw [if_pos (by omega)]at this;omega
      have HLA:Hid (a<i):=zHi (by omega);clear hia hla;by_cases hc47:c=47
      ·gi_wp2_with (exfalso;exact zae (by assumption))
       refine⟨⟨i+1,t,rfl,by go_num,by omega,ht,zHi (by have:=HLA.out;have:=HT.out;rw [if_pos (by omega)]at this ⊢;exact this),trivial⟩,by simp only [zfP];omega⟩
      ·have hc47':((c:Int) == 47)=false:=by
        apply beq_false_of_ne
        omega
       gi_wp2_with (exfalso;exact zae (by assumption))
       refine⟨⟨i+1,t,rfl,by go_num,by omega,ht,zHi (by have:=HLA.out;have:=HT.out;rw [if_pos (by omega)]at this ⊢;exact this),trivial⟩,by simp only [zfP];omega⟩
   ·have hin2:i=n:=by omega
    subst hin2;have hta:t=a:=by have:=HT.out;split at this <;> omega
    subst hta;gi_wp2_with (gi_at_call 68;refine stop ?_)
    unfold Stop;have hx:(s.extract 0 t).data.toList=zay l:=by
     rw [zku (l:=l) (m:=i) (by rw [HSL.out,←HN.out,List.take_length]) (by omega)];unfold zay;rw [HAL.out,HN.out];split
     ·rfl
     ·rw [List.take_of_length_le (by rw [HN.out];omega)]
    refine(zgM wr (s.extract 0 t) (zay l) hx (by have:=zcl l;rw [HN.out]at this;omega)).mono ?_;rintro e w2 ⟨v2,rfl,⟨s1,m1,rfl,o1,k1,c1,rfl⟩,hz,hB⟩;replace HFK:=zHi (HFK.out.step hB);obtain⟨f,hf⟩:=HFK.out.res;have HAr:=zHi (hf.alloc HFK.out.el.lt (Obj.cells #[.bool s1,.slice o1 k1 c1] 32));have hle:=HFK.out.le;clear hf hB hx
    cases hfz:zbF (zay l)with
    | none=>
     have HE:=zHi (zfU HNL.out (zqG hfz));simp only [Option.isSome_none];have z0:=(HAr.out 0 (by omega)).1;have z1:=(HAr.out 1 (by omega)).1;have z2:=(HAr.out 2 (by omega)).1;have z3:=(HAr.out 3 (by omega)).1;have y0:=(HAr.out 0 (by omega)).2;have y1:=(HAr.out 1 (by omega)).2;have y2:=(HAr.out 2 (by omega)).2;have y3:=(HAr.out 3 (by omega)).2;clear hz hfz;gi_wp2;refine zbn rfl rfl g rfl rfl HAr.out ?_;have hsz2:=HFK.out.below.size;exact zb9 HE.out (by decide) (((((HFK.out.below.alloc hsz2 _).setCell hle _).setCell hle _).setCell hle _).setCell hle _)
    | some z=>
     have HZ:=zHi (hz z hfz);have HFZ:=zHi hfz;simp only [Option.isSome_some];clear hz hfz HAr;gi_wp2_with (gi_at_call 21;refine stop ?_)
     unfold Stop;obtain⟨W3,hW3⟩:∃W,W=w2.alloc (Obj.cells #[.bool s1,.slice o1 k1 c1] 32):=⟨_,rfl⟩;rw [←hW3];have hB3:Below w2.heap.size w2 W3:=by rw [hW3];exact zaa _ _
     have HBX:Hid (BoxL W3 w2.heap.size [.bool s1,.slice o1 k1 c1]):=zHi (by rw [hW3];exact zaU _ _ _);replace HFK:=zHi (HFK.out.step hB3);replace HZ:=zHi (HZ.out.below hB3);obtain⟨g6,hg6⟩:∃g6,w2.heap.size=g6:=⟨_,rfl⟩;rw [hg6]at HBX;rw [hg6];clear hW3 hB3 hg6;refine(zdZ W3 _ z HZ.out).mono ?_;rintro e w4 ⟨v4,rfl,hq4,hB⟩;replace HFK:=zHi (HFK.out.step hB);replace HZ:=zHi (HZ.out.below hB);replace HBX:=zHi (HBX.out.below hB);have HQQ:=zHi hq4;obtain⟨m1,m2,rfl,hm1,hm2⟩:=hq4;obtain⟨o2,k2,c2,rfl,_,_⟩:=zaC hm1;obtain⟨o3,k3,c3,rfl,_,_⟩:=zaC hm2;obtain⟨s2,hs2⟩:∃s2,decide (((z:Int):Rat).num<0)=s2:=⟨_,rfl⟩;rw [hs2]at HQQ;rw [hs2];clear hm1 hm2 hB hs2;obtain⟨W5,hW5⟩:∃W,W=w4.alloc (Obj.cells #[.bool s2,.slice o2 k2 c2,.bool false,.slice o3 k3 c3] 34):=⟨_,rfl⟩;have hB5:Below w4.heap.size w4 W5:=by rw [hW5];exact zaa _ _
     have HQB:Hid (BoxL W5 w4.heap.size [.bool s2,.slice o2 k2 c2,.bool false,.slice o3 k3 c3]):=zHi (by rw [hW5];exact zaU _ _ _);have HQA:Hid (∃f,zaj W5 w4.heap.size 4 f):=zHi (by rw [hW5];exact(zeP _ _ _ _ _).res);have HQE:Hid (Elem W5 w4.heap.size 34):=zHi (by rw [hW5];exact zaB _ _ _);have hlt4:=HFK.out.el.lt;replace HFK:=zHi (HFK.out.step hB5);replace HZ:=zHi (HZ.out.below hB5);replace HBX:=zHi (HBX.out.below hB5);replace HQQ:=zHi (HQQ.out.below hB5);by_cases hti:t<i
     ·have HSLS:Hid (zat l<l.length):=zHi (by rw [HAL.out,HN.out];exact hti);have HFS:=zHi (zmY HFZ.out HSLS.out);gi_wp2_with (gi_at_call 68;refine stop ?_)
      unfold Stop;rw [←hW5];obtain⟨g8,hg8⟩:∃g8,w4.heap.size=g8:=⟨_,rfl⟩;rw [hg8]at HQB HQA HQE hlt4;rw [hg8];clear hW5 hB5 hg8;have hx2:(s.extract (t+1) i).data.toList=zaH l:=by
       rw [zod (l:=l) (m:=i) (by rw [HSL.out,←HN.out,List.take_length]) hsz,←HN.out,List.take_length];unfold zaH;rw [HAL.out,HN.out,if_pos hti]
      refine(zgM W5 (s.extract (t+1) i) (zaH l) hx2 (by have:=zcl l;rw [HN.out]at this;omega)).mono ?_;rintro e w6 ⟨v6,rfl,⟨s3,m3,rfl,o4,k4,c4,rfl⟩,hz6,hB⟩;replace HFK:=zHi (HFK.out.step hB);replace HZ:=zHi (HZ.out.below hB);replace HBX:=zHi (HBX.out.below hB);replace HQQ:=zHi (HQQ.out.below hB);replace HQB:=zHi (HQB.out.below hB);replace HQA:Hid (∃f,zaj w6 g8 4 f):=zHi (HQA.out.elim fun f hf=>⟨f,hf.below HQE.out.lt hB⟩);replace HQE:=zHi (HQE.out.below hB HQE.out.lt);clear hB hx2;obtain⟨W7,hW7⟩:∃W,W=w6.alloc (Obj.cells #[.bool s3,.slice o4 k4 c4] 32):=⟨_,rfl⟩;have hB7:Below w6.heap.size w6 W7:=by rw [hW7];exact zaa _ _
      have HBY:Hid (BoxL W7 w6.heap.size [.bool s3,.slice o4 k4 c4]):=zHi (by rw [hW7];exact zaU _ _ _);replace HFK:=zHi (HFK.out.step hB7);replace HZ:=zHi (HZ.out.below hB7);replace HBX:=zHi (HBX.out.below hB7);replace HQQ:=zHi (HQQ.out.below hB7);replace HQB:=zHi (HQB.out.below hB7);replace HQA:Hid (∃f,zaj W7 g8 4 f):=zHi (HQA.out.elim fun f hf=>⟨f,hf.below HQE.out.lt hB7⟩);replace HQE:=zHi (HQE.out.below hB7 HQE.out.lt)
      cases hf6:zbF (zaH l)with
      | none=>
       simp only [Option.isSome_none];have HFQ:=zHi (HFS.out.2.1 hf6);have HE:=zHi (zfU HNL.out HFQ.out);clear hz6 hf6;gi_wp2;rw [←hW7];clear hW7 hB7;have d0:=HBX.out.2 0 _ rfl;have d1:=HBX.out.2 1 _ rfl;have e0:=HBY.out.2 0 _ rfl;have e1:=HBY.out.2 1 _ rfl;obtain⟨g9,hg9⟩:∃g9,w6.heap.size=g9:=⟨_,rfl⟩;rw [hg9]at HBY e0 e1;rw [hg9];clear hg9;refine zdh 58 74 73 (fun v w'=>v = .bool true∧Below W7.heap.size W7 w') (by decide) ?reg ?rest
       case reg=>
        gi_region_with (exfalso;exact zae (by assumption))
        all_goals exact⟨rfl,rfl,rfl,Nat.le_of_ble_eq_true rfl,rfl,zab _⟩
       case rest=>
        intro ys w' hy hR;obtain⟨a0,a1,a2,a3,a4,a5,a6,a7,a8,a9,b0,b1,b2,b3,b4,b5,rfl⟩:=zlB hy;obtain⟨hb5,hB⟩:=hR;have hb5:b5 = .bool true:=hb5;subst hb5;clear hy;simp only [List.take_succ_cons,List.take_zero,List.drop_succ_cons,List.drop_zero,ztP,ztO];have HBr:=zHi hB;replace HFK:=zHi (HFK.out.step HBr.out);obtain⟨fr,hfr⟩:=HFK.out.res;have HAr:=zHi hfr;have z0:=(HAr.out 0 (by omega)).1;have z1:=(HAr.out 1 (by omega)).1;have z2:=(HAr.out 2 (by omega)).1;have z3:=(HAr.out 3 (by omega)).1;have y0:=(HAr.out 0 (by omega)).2;have y1:=(HAr.out 1 (by omega)).2;have y2:=(HAr.out 2 (by omega)).2;have y3:=(HAr.out 3 (by omega)).2;clear hfr hB d0 d1 e0 e1;gi_wp2;refine zbn rfl rfl g rfl rfl HAr.out ?_;exact zb9 HE.out (by decide) ((((HFK.out.below.setCell hle _).setCell hle _).setCell hle _).setCell hle _)
      | some d=>
       simp only [Option.isSome_some];have HD:=zHi ((hz6 d hf6).below hB7);have HF6:=zHi hf6;clear hz6 hf6;gi_wp2;rw [←hW7];clear hW7 hB7;have d0:=HBX.out.2 0 _ rfl;have d1:=HBX.out.2 1 _ rfl;have e0:=HBY.out.2 0 _ rfl;have e1:=HBY.out.2 1 _ rfl;obtain⟨g9,hg9⟩:∃g9,w6.heap.size=g9:=⟨_,rfl⟩;rw [hg9]at HBY e0 e1;rw [hg9];clear hg9;have HLX:Hid (g6<W7.heap.size):=zHi HBX.out.1;have HLY:Hid (g9<W7.heap.size):=zHi HBY.out.1;have HZL:Hid (z.natAbs<B^5000):=zHi (znn HFZ.out (by have:=zcl l;rw [HN.out]at this;omega));have HDL5:Hid (d.natAbs<B^5000):=zHi (znn HF6.out (by have:=zcl l;rw [HN.out]at this;omega));have HDL:Hid (d.natAbs<B^50000):=zHi (zaX 50000 HDL5.out (by decide));have HGL:Hid (((Nat.gcd z.natAbs d.natAbs:Nat):Int).natAbs<B^50000):=zHi (by
        rw [Int.natAbs_natCast];rcases Nat.eq_zero_or_pos d.natAbs with h|h
        ·rw [h,Nat.gcd_zero_right];exact zaX 50000 HZL.out (by decide)
        ·exact Nat.lt_of_le_of_lt (Nat.le_of_dvd h (Nat.gcd_dvd_right _ _)) HDL.out)
       by_cases hd2:2≤d
       ·by_cases hg1:Nat.gcd z.natAbs d.natAbs=1
        ·obtain⟨sg,hsg,hsg0⟩:∃sg,(d-2).sign=sg∧(decide (sg<0))=false:=⟨_,rfl,zpL hd2⟩;have hsg2:(((Nat.gcd z.natAbs d.natAbs:Nat):Int)-1).sign=0:=by rw [hg1];decide
         have HQ:=zHi (HFS.out.1 d HF6.out hd2 hg1);clear hg1;refine zdh 58 74 73 (fun v w'=>v = .bool false∧Below W7.heap.size W7 w') (by decide) ?reg ?rest
         case reg=>
          gi_region_with (first
                | (exfalso;exact zae (by assumption))
                | (gi_at_call 22;(with_reducible refine(za6 W7.drew 2 (by decide) (by decide)).mono ?_);rintro e x1 ⟨va,rfl,hva,hB⟩;have HVA:=zHi hva;have HBk:=zHi ((zab W7).trans (hB.mono (zab W7).size));have e0:=(HBY.out.below HBk.out).2 0 _ rfl;have e1:=(HBY.out.below HBk.out).2 1 _ rfl;have d0:=(HBX.out.below HBk.out).2 0 _ rfl;have d1:=(HBX.out.below HBk.out).2 1 _ rfl;clear hva hB)
                | (gi_at_call 69;(with_reducible refine(zct x1 _ va d 2 (HD.out.below HBk.out) HVA.out HDL.out zpn).mono ?_);rintro e x2 ⟨rfl,hB⟩;have HBk:=zBt HBk hB;have e0:=(HBY.out.below HBk.out).2 0 _ rfl;have e1:=(HBY.out.below HBk.out).2 1 _ rfl;have d0:=(HBX.out.below HBk.out).2 0 _ rfl;have d1:=(HBX.out.below HBk.out).2 1 _ rfl;rw [hsg];clear hB)
                | (gi_at_call 70;(with_reducible refine(ze0 x2 _ _ z d (HZ.out.below HBk.out) (HD.out.below HBk.out) (zaX 100000 HZL.out (by decide)) (zaX 100000 HDL.out (by decide))).mono ?_);rintro e x3 ⟨vg,rfl,hvg,hB⟩;have HVG:=zHi hvg;have HBk:=zBt HBk hB;have e0:=(HBY.out.below HBk.out).2 0 _ rfl;have e1:=(HBY.out.below HBk.out).2 1 _ rfl;have d0:=(HBX.out.below HBk.out).2 0 _ rfl;have d1:=(HBX.out.below HBk.out).2 1 _ rfl;clear hvg hB)
                | (gi_at_call 22;(with_reducible refine(za6 x3 1 (by decide) (by decide)).mono ?_);rintro e x4 ⟨vo,rfl,hvo,hB⟩;have HVO:=zHi hvo;have HVG:=zHi (HVG.out.below hB);have HBk:=zBt HBk hB;have e0:=(HBY.out.below HBk.out).2 0 _ rfl;have e1:=(HBY.out.below HBk.out).2 1 _ rfl;have d0:=(HBX.out.below HBk.out).2 0 _ rfl;have d1:=(HBX.out.below HBk.out).2 1 _ rfl;clear hvo hB)
                | (gi_at_call 69;(with_reducible refine(zct x4 vg vo _ 1 HVG.out HVO.out HGL.out zr7).mono ?_);rintro e x5 ⟨rfl,hB⟩;have HBk:=zBt HBk hB;have e0:=(HBY.out.below HBk.out).2 0 _ rfl;have e1:=(HBY.out.below HBk.out).2 1 _ rfl;have d0:=(HBX.out.below HBk.out).2 0 _ rfl;have d1:=(HBX.out.below HBk.out).2 1 _ rfl;rw [hsg2];clear hB))
          all_goals exact⟨rfl,rfl,rfl,Nat.le_of_ble_eq_true rfl,rfl,HBk.out⟩
         case rest=>
          intro ys w' hy hR;obtain⟨a0,a1,a2,a3,a4,a5,a6,a7,a8,a9,b0,b1,b2,b3,b4,b5,rfl⟩:=zlB hy;obtain⟨hb5,hB⟩:=hR;have hb5:b5 = .bool false:=hb5;subst hb5;clear hy;simp only [List.take_succ_cons,List.take_zero,List.drop_succ_cons,List.drop_zero,ztP,ztO];have HBr:=zHi hB;replace HFK:=zHi (HFK.out.step HBr.out);replace HZ:=zHi (HZ.out.below HBr.out);replace HD:=zHi (HD.out.below HBr.out);replace HBX:=zHi (HBX.out.below HBr.out);replace HBY:=zHi (HBY.out.below HBr.out);replace HQA:Hid (∃f,zaj w' g8 4 f):=zHi (HQA.out.elim fun f hf=>⟨f,hf.below HQE.out.lt HBr.out⟩);replace HQE:=zHi (HQE.out.below HBr.out HQE.out.lt);obtain⟨q,hq,hqn,hqd⟩:=HQ.out;have HFQ:=zHi hq;obtain⟨f8,hf8⟩:=HQA.out;have HF8:=zHi hf8;have u0:=(hf8 0 (by omega)).1;have u1:=(hf8 1 (by omega)).1;have u2:=(hf8 2 (by omega)).1;have u3:=(hf8 3 (by omega)).1;have t0:=(hf8 0 (by omega)).2;have t1:=(hf8 1 (by omega)).2;have t2:=(hf8 2 (by omega)).2;have t3:=(hf8 3 (by omega)).2;replace d0:=HBX.out.2 0 _ rfl;replace d1:=HBX.out.2 1 _ rfl;replace e0:=HBY.out.2 0 _ rfl;replace e1:=HBY.out.2 1 _ rfl;have HQN:=zHi hqn;have HQD:=zHi hqd;have HD2:=zHi hd2;clear hq hqn hqd hf8 hB hsg hsg0 hsg2 hd2;gi_wp2_with (gi_at_call 33;refine stop ?_)
          unfold Stop;obtain⟨W8,hW8⟩:∃W,W=(((w'.setCell ⟨g8,0,none⟩ (.bool s1)).setCell ⟨g8,1,none⟩ (.slice o1 k1 c1)).setCell ⟨g8,2,none⟩ (.bool s3)).setCell ⟨g8,3,none⟩ (.slice o4 k4 c4):=⟨_,rfl⟩;rw [←hW8];have hA8:=(((HF8.out.set (i:=0) (by omega) (.bool s1)).set (i:=1) (by omega) (.slice o1 k1 c1)).set (i:=2) (by omega) (.bool s3)).set (i:=3) (by omega) (.slice o4 k4 c4);rw [←hW8]at hA8;replace HQB:Hid (BoxL W8 g8 [.bool s1,.slice o1 k1 c1,.bool s3,.slice o4 k4 c4]):=zHi ⟨World.block_lt_of_cell? _ _ (hA8 0 (by omega)).1,fun j v hj=>by
           match j,hj with
           | 0,hj=>rw [←hj];exact(hA8 0 (by omega)).1
           | 1,hj=>rw [←hj];exact(hA8 1 (by omega)).1
           | 2,hj=>rw [←hj];exact(hA8 2 (by omega)).1
           | 3,hj=>rw [←hj];exact(hA8 3 (by omega)).1
           | k+4,hj=>simp at hj⟩
          replace HFK:Hid (zcL w W8 g):=zHi (by rw [hW8];exact(((HFK.out.set hlt4).set hlt4).set hlt4).set hlt4);replace HQQ:Hid (QAt W8 (.agg #[.bool s1,.slice o1 k1 c1,.bool s3,.slice o4 k4 c4]) q):=zHi (by
           rw [hW8];exact zsv HZ.out HD.out HQE.out HQN.out HQD.out HD2.out)
          clear hW8 hA8;refine(zdu W8 _ q 20000 HQQ.out).mono ?_;rintro e w9 ⟨rfl,hB⟩;replace HFK:=zHi (HFK.out.step hB);replace HQQ:=zHi (HQQ.out.below hB);replace HQB:=zHi (HQB.out.below hB);clear hB d0 d1 e0 e1 u0 u1 u2 u3 t0 t1 t2 t3;obtain⟨f9,hf9⟩:=HFK.out.res;have HAr:=zHi hf9;clear hf9
          cases hsm:zbq q 20000 with
          | false=>
           have HE:=zHi (zfT HNL.out HFQ.out);rw [hsm]at HE;have z0:=(HAr.out 0 (by omega)).1;have z1:=(HAr.out 1 (by omega)).1;have z2:=(HAr.out 2 (by omega)).1;have z3:=(HAr.out 3 (by omega)).1;have y0:=(HAr.out 0 (by omega)).2;have y1:=(HAr.out 1 (by omega)).2;have y2:=(HAr.out 2 (by omega)).2;have y3:=(HAr.out 3 (by omega)).2;clear hsm;gi_wp2;refine zbn rfl rfl g rfl rfl HAr.out ?_;exact zb9 HE.out (by decide) ((((HFK.out.below.setCell hle _).setCell hle _).setCell hle _).setCell hle _)
          | true=>
           have HE:=zHi (zfT HNL.out HFQ.out);rw [hsm]at HE;have z0:=(HAr.out 0 (by omega)).1;have z1:=(HAr.out 1 (by omega)).1;have z2:=(HAr.out 2 (by omega)).1;have z3:=(HAr.out 3 (by omega)).1;have y0:=(HAr.out 0 (by omega)).2;have y1:=(HAr.out 1 (by omega)).2;have y2:=(HAr.out 2 (by omega)).2;have y3:=(HAr.out 3 (by omega)).2;have d0:=HQB.out.2 0 _ rfl;have d1:=HQB.out.2 1 _ rfl;have d2:=HQB.out.2 2 _ rfl;have d3:=HQB.out.2 3 _ rfl;have HEl:=zHi HFK.out.el;clear hsm;gi_wp2;refine zbn rfl rfl g rfl rfl HAr.out ?_;refine⟨_,by rw [HE.out];rfl,⟨_,_,_,_,_,_,_,_,rfl⟩,fun _=>⟨q,HFQ.out,?_⟩,(((HFK.out.below.setCell hle _).setCell hle _).setCell hle _).setCell hle _⟩;obtain⟨m1,m2,e,h1,h2⟩:=HQQ.out;exact⟨m1,m2,e,(((h1.setElem HEl.out (by decide)).setElem (HEl.out.setCell _ _) (by decide)).setElem ((HEl.out.setCell _ _).setCell _ _) (by decide)).setElem (((HEl.out.setCell _ _).setCell _ _).setCell _ _) (by decide),(((h2.setElem HEl.out (by decide)).setElem (HEl.out.setCell _ _) (by decide)).setElem ((HEl.out.setCell _ _).setCell _ _) (by decide)).setElem (((HEl.out.setCell _ _).setCell _ _).setCell _ _) (by decide)⟩
        ·obtain⟨sg,hsg,hsg0⟩:∃sg,(d-2).sign=sg∧(decide (sg<0))=false:=⟨_,rfl,zpL hd2⟩;obtain⟨sq,hsg2,hsq⟩:∃sq,(((Nat.gcd z.natAbs d.natAbs:Nat):Int)-1).sign=sq∧(sq != 0)=true:=⟨_,rfl,by
          rw [bne_iff_ne];intro e;have:=Int.sign_eq_zero_iff_zero.1 e;omega⟩
         have HFQ:=zHi (HFS.out.2.2 d HF6.out (fun h=>hg1 h.2));have HE:=zHi (zfU HNL.out HFQ.out);clear hd2 hg1;refine zdh 58 74 73 (fun v w'=>v = .bool true∧Below W7.heap.size W7 w') (by decide) ?reg ?rest
         case reg=>
          gi_region_with (first
                | (exfalso;exact zae (by assumption))
                | (gi_at_call 22;(with_reducible refine(za6 W7.drew 2 (by decide) (by decide)).mono ?_);rintro e x1 ⟨va,rfl,hva,hB⟩;have HVA:=zHi hva;have HBk:=zHi ((zab W7).trans (hB.mono (zab W7).size));have e0:=(HBY.out.below HBk.out).2 0 _ rfl;have e1:=(HBY.out.below HBk.out).2 1 _ rfl;have d0:=(HBX.out.below HBk.out).2 0 _ rfl;have d1:=(HBX.out.below HBk.out).2 1 _ rfl;clear hva hB)
                | (gi_at_call 69;(with_reducible refine(zct x1 _ va d 2 (HD.out.below HBk.out) HVA.out HDL.out zpn).mono ?_);rintro e x2 ⟨rfl,hB⟩;have HBk:=zBt HBk hB;have e0:=(HBY.out.below HBk.out).2 0 _ rfl;have e1:=(HBY.out.below HBk.out).2 1 _ rfl;have d0:=(HBX.out.below HBk.out).2 0 _ rfl;have d1:=(HBX.out.below HBk.out).2 1 _ rfl;rw [hsg];clear hB)
                | (gi_at_call 70;(with_reducible refine(ze0 x2 _ _ z d (HZ.out.below HBk.out) (HD.out.below HBk.out) (zaX 100000 HZL.out (by decide)) (zaX 100000 HDL.out (by decide))).mono ?_);rintro e x3 ⟨vg,rfl,hvg,hB⟩;have HVG:=zHi hvg;have HBk:=zBt HBk hB;have e0:=(HBY.out.below HBk.out).2 0 _ rfl;have e1:=(HBY.out.below HBk.out).2 1 _ rfl;have d0:=(HBX.out.below HBk.out).2 0 _ rfl;have d1:=(HBX.out.below HBk.out).2 1 _ rfl;clear hvg hB)
                | (gi_at_call 22;(with_reducible refine(za6 x3 1 (by decide) (by decide)).mono ?_);rintro e x4 ⟨vo,rfl,hvo,hB⟩;have HVO:=zHi hvo;have HVG:=zHi (HVG.out.below hB);have HBk:=zBt HBk hB;have e0:=(HBY.out.below HBk.out).2 0 _ rfl;have e1:=(HBY.out.below HBk.out).2 1 _ rfl;have d0:=(HBX.out.below HBk.out).2 0 _ rfl;have d1:=(HBX.out.below HBk.out).2 1 _ rfl;clear hvo hB)
                | (gi_at_call 69;(with_reducible refine(zct x4 vg vo _ 1 HVG.out HVO.out HGL.out zr7).mono ?_);rintro e x5 ⟨rfl,hB⟩;have HBk:=zBt HBk hB;have e0:=(HBY.out.below HBk.out).2 0 _ rfl;have e1:=(HBY.out.below HBk.out).2 1 _ rfl;have d0:=(HBX.out.below HBk.out).2 0 _ rfl;have d1:=(HBX.out.below HBk.out).2 1 _ rfl;rw [hsg2];clear hB))
          all_goals exact⟨rfl,rfl,rfl,Nat.le_of_ble_eq_true rfl,rfl,HBk.out⟩
         case rest=>
          intro ys w' hy hR;obtain⟨a0,a1,a2,a3,a4,a5,a6,a7,a8,a9,b0,b1,b2,b3,b4,b5,rfl⟩:=zlB hy;obtain⟨hb5,hB⟩:=hR;have hb5:b5 = .bool true:=hb5;subst hb5;clear hy;simp only [List.take_succ_cons,List.take_zero,List.drop_succ_cons,List.drop_zero,ztP,ztO];have HBr:=zHi hB;replace HFK:=zHi (HFK.out.step HBr.out);obtain⟨fr,hfr⟩:=HFK.out.res;have HAr:=zHi hfr;have z0:=(HAr.out 0 (by omega)).1;have z1:=(HAr.out 1 (by omega)).1;have z2:=(HAr.out 2 (by omega)).1;have z3:=(HAr.out 3 (by omega)).1;have y0:=(HAr.out 0 (by omega)).2;have y1:=(HAr.out 1 (by omega)).2;have y2:=(HAr.out 2 (by omega)).2;have y3:=(HAr.out 3 (by omega)).2;clear hfr hB d0 d1 e0 e1;gi_wp2;refine zbn rfl rfl g rfl rfl HAr.out ?_;exact zb9 HE.out (by decide) ((((HFK.out.below.setCell hle _).setCell hle _).setCell hle _).setCell hle _)
       ·have hsg:(d-2).sign = -1:=Int.sign_eq_neg_one_of_neg (by omega);have HFQ:=zHi (HFS.out.2.2 d HF6.out (fun h=>hd2 h.1));have HE:=zHi (zfU HNL.out HFQ.out);clear hd2;refine zdh 58 74 73 (fun v w'=>v = .bool true∧Below W7.heap.size W7 w') (by decide) ?reg ?rest
        case reg=>
         gi_region_with (first
               | (exfalso;exact zae (by assumption))
               | (gi_at_call 22;(with_reducible refine(za6 W7.drew 2 (by decide) (by decide)).mono ?_);rintro e x1 ⟨va,rfl,hva,hB⟩;have HVA:=zHi hva;have HBk:=zHi ((zab W7).trans (hB.mono (zab W7).size));have e0:=(HBY.out.below HBk.out).2 0 _ rfl;have e1:=(HBY.out.below HBk.out).2 1 _ rfl;have d0:=(HBX.out.below HBk.out).2 0 _ rfl;have d1:=(HBX.out.below HBk.out).2 1 _ rfl;clear hva hB)
               | (gi_at_call 69;(with_reducible refine(zct x1 _ va d 2 (HD.out.below HBk.out) HVA.out HDL.out zpn).mono ?_);rintro e x2 ⟨rfl,hB⟩;have HBk:=zBt HBk hB;have e0:=(HBY.out.below HBk.out).2 0 _ rfl;have e1:=(HBY.out.below HBk.out).2 1 _ rfl;have d0:=(HBX.out.below HBk.out).2 0 _ rfl;have d1:=(HBX.out.below HBk.out).2 1 _ rfl;rw [hsg];clear hB))
         all_goals exact⟨rfl,rfl,rfl,Nat.le_of_ble_eq_true rfl,rfl,HBk.out⟩
        case rest=>
         intro ys w' hy hR;obtain⟨a0,a1,a2,a3,a4,a5,a6,a7,a8,a9,b0,b1,b2,b3,b4,b5,rfl⟩:=zlB hy;obtain⟨hb5,hB⟩:=hR;have hb5:b5 = .bool true:=hb5;subst hb5;clear hy;simp only [List.take_succ_cons,List.take_zero,List.drop_succ_cons,List.drop_zero,ztP,ztO];have HBr:=zHi hB;replace HFK:=zHi (HFK.out.step HBr.out);obtain⟨fr,hfr⟩:=HFK.out.res;have HAr:=zHi hfr;have z0:=(HAr.out 0 (by omega)).1;have z1:=(HAr.out 1 (by omega)).1;have z2:=(HAr.out 2 (by omega)).1;have z3:=(HAr.out 3 (by omega)).1;have y0:=(HAr.out 0 (by omega)).2;have y1:=(HAr.out 1 (by omega)).2;have y2:=(HAr.out 2 (by omega)).2;have y3:=(HAr.out 3 (by omega)).2;clear hfr hB d0 d1 e0 e1;gi_wp2;refine zbn rfl rfl g rfl rfl HAr.out ?_;exact zb9 HE.out (by decide) ((((HFK.out.below.setCell hle _).setCell hle _).setCell hle _).setCell hle _)
     ·have HFQ:=zHi (zmX HFZ.out (by rw [HAL.out,HN.out];exact hti));gi_wp2_with (gi_at_call 33;refine stop ?_)
      unfold Stop;rw [←hW5];obtain⟨g8,hg8⟩:∃g8,w4.heap.size=g8:=⟨_,rfl⟩;rw [hg8]at HQB HQA HQE hlt4;rw [hg8];clear hW5 hB5 hg8;obtain⟨q,hqz⟩:∃q:Rat,((z:Int):Rat)=q:=⟨_,rfl⟩;rw [hqz]at HQQ HFQ;refine(zdu W5 _ q 20000 HQQ.out).mono ?_;rintro e w9 ⟨rfl,hB⟩;replace HFK:=zHi (HFK.out.step hB);replace HQQ:=zHi (HQQ.out.below hB);replace HQB:=zHi (HQB.out.below hB);clear hB;obtain⟨f9,hf9⟩:=HFK.out.res;have HAr:=zHi hf9;clear hf9
      cases hsm:zbq q 20000 with
      | false=>
       have HE:=zHi (zfT HNL.out HFQ.out);rw [hsm]at HE;have z0:=(HAr.out 0 (by omega)).1;have z1:=(HAr.out 1 (by omega)).1;have z2:=(HAr.out 2 (by omega)).1;have z3:=(HAr.out 3 (by omega)).1;have y0:=(HAr.out 0 (by omega)).2;have y1:=(HAr.out 1 (by omega)).2;have y2:=(HAr.out 2 (by omega)).2;have y3:=(HAr.out 3 (by omega)).2;clear hsm;gi_wp2;refine zbn rfl rfl g rfl rfl HAr.out ?_;exact zb9 HE.out (by decide) ((((HFK.out.below.setCell hle _).setCell hle _).setCell hle _).setCell hle _)
      | true=>
       have HE:=zHi (zfT HNL.out HFQ.out);rw [hsm]at HE;have z0:=(HAr.out 0 (by omega)).1;have z1:=(HAr.out 1 (by omega)).1;have z2:=(HAr.out 2 (by omega)).1;have z3:=(HAr.out 3 (by omega)).1;have y0:=(HAr.out 0 (by omega)).2;have y1:=(HAr.out 1 (by omega)).2;have y2:=(HAr.out 2 (by omega)).2;have y3:=(HAr.out 3 (by omega)).2;have d0:=HQB.out.2 0 _ rfl;have d1:=HQB.out.2 1 _ rfl;have d2:=HQB.out.2 2 _ rfl;have d3:=HQB.out.2 3 _ rfl;have HEl:=zHi HFK.out.el;clear hsm;gi_wp2;refine zbn rfl rfl g rfl rfl HAr.out ?_;refine⟨_,by rw [HE.out];rfl,⟨_,_,_,_,_,_,_,_,rfl⟩,fun _=>⟨q,HFQ.out,?_⟩,(((HFK.out.below.setCell hle _).setCell hle _).setCell hle _).setCell hle _⟩;obtain⟨m1,m2,e,h1,h2⟩:=HQQ.out;exact⟨m1,m2,e,(((h1.setElem HEl.out (by decide)).setElem (HEl.out.setCell _ _) (by decide)).setElem ((HEl.out.setCell _ _).setCell _ _) (by decide)).setElem (((HEl.out.setCell _ _).setCell _ _).setCell _ _) (by decide),(((h2.setElem HEl.out (by decide)).setElem (HEl.out.setCell _ _) (by decide)).setElem ((HEl.out.setCell _ _).setCell _ _) (by decide)).setElem (((HEl.out.setCell _ _).setCell _ _).setCell _ _) (by decide)⟩
end Go.Num
