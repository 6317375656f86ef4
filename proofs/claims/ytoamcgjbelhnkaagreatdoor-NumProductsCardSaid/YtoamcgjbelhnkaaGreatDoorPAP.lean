/-
  'Parse' of the program: the fraction of a text. How many digits a natural of the reference has: 'Len', 'Small'.
  Conditions: see each statement.
-/
import Derived.Test.YtoamcgjbelhnkaaGreatDoorPAA
import Derived.Test.YtoamcgjbelhnkaaGreatDoorPAO
import Derived.BigFrameIn
set_option maxRecDepth 100000
set_option maxHeartbeats 8000000
namespace Go.Num
open Go.Eng Go.Shelf Go.RowKit Go.Sort Go.Proofs Go.Proofs.YtoamcgjbelhnkaaGreatDoor
def zaB(l:List UInt8):List UInt8:=if zap l<l.length then l.take (zap l)else l
def zaK(l:List UInt8):List UInt8:=if zap l<l.length then l.drop (zap l+1)else []
def zbA(l:List UInt8):Bool:=decide (zap l<l.length)
theorem zqO(w:World)(s:ByteArray)(hs:s.size≤100000)(hL:Laid w) :
  CallsIn Fence.wide 0 Tryz.prog 59 #[.string s,.string ⟨#[47]⟩] w fun e w'=>∃t b:ByteArray,e = .returned (.tuple #[.string t,.string b,.bool (zbA s.data.toList)])∧t.data.toList=zaB s.data.toList∧b.data.toList=zaK s.data.toList∧Below w.heap.size w w':=by
 obtain⟨m,hm⟩:=hL.len;refine callsIn_wide.2 ((Tryz.strings_Cut s ⟨#[47]⟩ m w (by omega) hm).mono ?_);rintro e w' ⟨rfl,n,rfl⟩;have hc:Lib.cut s.data.toList (⟨#[47]⟩:ByteArray).data.toList=(zaB s.data.toList,zaK s.data.toList,zbA s.data.toList):=by
  show Lib.cut s.data.toList [47]=_
  rw [zqN];unfold zaB zaK zbA;by_cases h:zap s.data.toList<s.data.toList.length
  ·rw [if_pos h,if_pos h,if_pos h,decide_eq_true h]
  ·rw [if_neg h,if_neg h,if_neg h,decide_eq_false h]
 rw [hc];exact⟨_,_,rfl,rfl,rfl,zbi _ _⟩
theorem zp9(w:World)(t:ByteArray) :
  CallsIn Fence.wide 0 Tryz.prog 60 #[.string t,.string ⟨#[45]⟩] w fun e w'=>∃o:ByteArray,e = .returned (.tuple #[.string o,.bool (zbQ t.data.toList)])∧o.data.toList=zaT t.data.toList∧Below w.heap.size w w':=by
 refine callsIn_wide.2 ((Tryz.strings_CutPrefix t ⟨#[45]⟩ w).mono ?_);rintro e w' ⟨rfl,rfl⟩;exact⟨_,rfl,rfl,Below.refl _ _⟩
theorem zfg(w:World)(sg:Bool)(vn vd:Value)(d:Nat)(hd:zat w vd d) :
  CallsIn Fence.wide 0 Tryz.prog 64 #[.agg #[.bool sg,vn,vd]] w fun e w'=>∃v',e = .returned v'∧zat w' v' (if d=0 then 1 else d)∧Below w.heap.size w w':=by
 by_cases h1:d=0
 ·rw [if_pos h1];subst h1;obtain⟨o,k,c,rfl,hk,hk9⟩:=zaM hd;have hk0:k=0:=hk.2 rfl;subst hk0;clear hk hd;refine callsIn_of_wp Tryz.func64 rfl trivial ?_ rfl;simp only [Tryz.ntmps64,ztE,ztF,ztG,Nat.reduceAdd,Nat.reduceSub,ztH,ztI,ztJ,ztK,ztL,ztM];gi_wp2;all_goals (first|go_returns|go_ret|go_end0)
  have h:=zly (w.alloc (.cells #[.bool sg,vn,.slice o 0 c] 25));rw [show(w.alloc (.cells #[.bool sg,vn,.slice o 0 c] 25)).heap.size=w.heap.size+1 by simp]at h;refine⟨_,rfl,h,?_⟩;exact((zaa w _).alloc (by simp) _)
 ·rw [if_neg h1];have HD:=zHi hd;obtain⟨o,k,c,rfl,hk,hk9⟩:=zaM hd;have hk0:¬(k:Int)=0:=by
   intro h;exact h1 (hk.1 (by omega))
  clear hk hd;refine callsIn_of_wp Tryz.func64 rfl trivial ?_ rfl;simp only [Tryz.ntmps64,ztE,ztF,ztG,Nat.reduceAdd,Nat.reduceSub,ztH,ztI,ztJ,ztK,ztL,ztM];gi_wp2;all_goals (first|go_returns|go_ret|go_end0)
  exact⟨_,rfl,HD.out.below (zaa w _),zaa w _⟩
def zhY(l:List UInt8):Int:=if 41000<l.length then 2 else match zbT l with|none=>10|some q=>zqu q
def zhX(l:List UInt8):Rat:=if 41000<l.length then 0 else match zbT l with|none=>0|some q=>zkF q
theorem zoY{l:List UInt8}(h:41000<l.length):zhY l=2∧zhX l=0:=⟨if_pos h,if_pos h⟩
theorem za9{l:List UInt8}(h:¬41000<l.length)(hf:zbT l=none):zhY l=10∧zhX l=0:=by
 unfold zhY zhX;rw [if_neg h,if_neg h,hf];exact⟨rfl,rfl⟩
theorem zdF{l:List UInt8}(h:¬41000<l.length){q:Rat}(hf:zbT l=some q):zhY l=zqu q∧zhX l=zkF q:=by
 unfold zhY zhX;rw [if_neg h,if_neg h,hf];exact⟨rfl,rfl⟩
theorem zq1{l:List UInt8}(h:zbj (zaT (zaB l))=false∨zbQ (zaB l)=true∧zaT (zaB l) = [48]):zbT l=none:=by
 have hz:zbu (zaB l)=none:=by
  unfold zbu;rw [if_neg];rcases h with h|⟨h1,h2⟩
  ·rw [h];simp
  ·rw [h1,h2];simp
 unfold zbT;unfold zaB at hz;split
 ·rename_i hs;rw [if_pos hs]at hz;rw [hz]
 ·rename_i hs;rw [if_neg hs]at hz;rw [hz]
theorem zev{b:List UInt8}(hc:zbj b=true):2≤zad b↔b ≠ [48]∧b ≠ [49]:=by
 constructor
 ·intro h;constructor
  ·rintro rfl;simp [zbR]at h
  ·rintro rfl;simp [zbR]at h
 ·rintro⟨h0,h1⟩;apply Classical.byContradiction
  intro hno;have e:=zeM hc;have:zad b=0∨zad b=1:=by omega
  rcases this with h|h
  ·rw [h,Lib.decDigits]at e;exact h0 e.symm
  ·rw [h,Lib.decDigits]at e;exact h1 e.symm
theorem zgO{l:List UInt8}(hs:zbA l=true)(h:zbj (zaK l)=false∨zaK l = [48]∨zaK l = [49]):zbT l=none:=by
 have hs':zap l<l.length:=of_decide_eq_true hs;unfold zbT;unfold zaK at h;rw [if_pos hs']at h ⊢;split
 ·rfl
 ·rw [if_neg];rcases h with h|h|h
  ·rw [h];simp
  ·rw [h];simp [zbR]
  ·rw [h];simp [zbR]
def zck(l:List UInt8):Nat:=if zbA l=true then zad (zaK l)else 1
theorem neg_pos{o:List UInt8}(hc:zbj o=true)(h:o ≠ [48]):0<zad o:=by
 apply Classical.byContradiction
 intro hno;have e:=zeM hc;rw [show zad o=0 by omega,Lib.decDigits]at e;exact h e.symm
theorem good{l:List UInt8}(h1:zbj (zaT (zaB l))=true)(h2:zbQ (zaB l)=true→zaT (zaB l) ≠ [48])(h3:zbA l=true→zbj (zaK l)=true∧zaK l ≠ [48]∧zaK l ≠ [49]) :
  (Nat.gcd (zck l) (zad (zaT (zaB l)))=1→∃q,zbT l=some q∧q.num.natAbs=zad (zaT (zaB l))∧q.den=zck l∧decide (q.num<0)=zbQ (zaB l))∧(Nat.gcd (zck l) (zad (zaT (zaB l)))≠1→zbT l=none):=by
 have hz:zbu (zaB l)=some (sgn (zbQ (zaB l)) (zad (zaT (zaB l)))):=by
  unfold zbu;rw [if_pos];rw [h1]
  cases hn:zbQ (zaB l)with
  | false=>rfl
  | true=>
   have:=h2 hn;simp [this]
 have hsg:decide (sgn (zbQ (zaB l)) (zad (zaT (zaB l)))<0)=zbQ (zaB l):=by
  cases hn:zbQ (zaB l)with
  | false=>exact decide_eq_false (by show ¬((zad (zaT (zaB l)):Nat):Int)<0;omega)
  | true=>
   have:=neg_pos h1 (h2 hn);exact decide_eq_true (by show(-((zad (zaT (zaB l)):Nat):Int))<0;omega)
 cases hs:zbA l with
 | false=>
  have hs':¬zap l<l.length:=of_decide_eq_false hs;have hd:zck l=1:=by unfold zck;rw [hs];rfl
  rw [hd];refine⟨fun _ => ?_,fun h=>absurd (Nat.gcd_one_left _) h⟩;have ht:zaB l=l:=by unfold zaB;rw [if_neg hs']
  refine⟨((sgn (zbQ (zaB l)) (zad (zaT (zaB l))):Int):Rat),?_,?_,Rat.den_intCast _,?_⟩
  ·unfold zbT;rw [if_neg hs'];rw [ht]at hz ⊢;rw [hz]
  ·rw [Rat.num_intCast,zbl]
  ·rw [Rat.num_intCast];exact hsg
 | true=>
  have hs':zap l<l.length:=of_decide_eq_true hs;have hd:zck l=zad (zaK l):=by unfold zck;rw [hs];rfl
  obtain⟨c1,c2,c3⟩:=h3 hs;have h2':=(zev c1).2 ⟨c2,c3⟩;rw [hd];have e:zbT l=if(zbj (zaK l) && decide (2≤zad (zaK l)) && decide (Nat.gcd (sgn (zbQ (zaB l)) (zad (zaT (zaB l)))).natAbs (zad (zaK l))=1))=true then some ((sgn (zbQ (zaB l)) (zad (zaT (zaB l))):Rat)/(zad (zaK l):Rat))else none:=by
   unfold zbT;rw [if_pos hs'];have ht:l.take (zap l)=zaB l:=by unfold zaB;rw [if_pos hs']
   have hb:l.drop (zap l+1)=zaK l:=by unfold zaK;rw [if_pos hs']
   rw [ht,hb,hz]
  rw [c1,decide_eq_true h2',Bool.true_and,Bool.true_and,zbl]at e;refine⟨fun hg => ?_,fun hg => ?_⟩
  ·rw [Nat.gcd_comm]at hg;rw [if_pos (decide_eq_true hg)]at e;have hp:=zd0 (z:=sgn (zbQ (zaB l)) (zad (zaT (zaB l)))) (d:=zad (zaK l)) (by omega) (by rw [zbl];exact hg);refine⟨_,e,?_,hp.2,?_⟩
   ·rw [hp.1,zbl]
   ·rw [hp.1];exact hsg
  ·rw [Nat.gcd_comm]at hg;rw [if_neg (by simpa using hg)]at e;exact e
theorem zch(l:List UInt8):(zaT (zaB l)).length≤l.length∧(zaK l).length≤l.length∧(zaB l).length≤l.length:=by
 have h1:(zaB l).length≤l.length:=by
  unfold zaB;split
  ·rw [List.length_take];omega
  ·exact Nat.le_refl _
 refine⟨?_,?_,h1⟩
 ·refine Nat.le_trans ?_ h1;unfold zaT Lib.trimPrefix;split
  ·rw [List.length_drop];omega
  ·exact Nat.le_refl _
 ·unfold zaK;split
  ·rw [List.length_drop];omega
  ·simp
structure zcT(w W:World)(g:Nat):Prop where
 res:∃f,zaf W g 3 f
 el:Elem W g 25
 below:Below w.heap.size w W
 le:w.heap.size≤g
theorem zcT.lt{w W:World}{g:Nat}(h:zcT w W g):g<W.heap.size:=h.el.lt
theorem zcT.step{w W W':World}{g:Nat}(h:zcT w W g)(hb:Below W.heap.size W W'):zcT w W' g:=by
 obtain⟨f,hf⟩:=h.res;exact⟨⟨f,hf.below h.lt hb⟩,h.el.below hb h.lt,h.below.trans (hb.mono h.below.size),h.le⟩
theorem zmC(w:World)(x y z:Value):zcT w (w.alloc (.cells #[x,y,z] 25)) w.heap.size:=by
 have h:=ze5 w x y z 25;exact⟨h.1,zaA _ _ _,h.2.2,Nat.le_refl _⟩
theorem zcT.set{w W:World}{g g6:Nat}(h:zcT w W g)(_h6:g6<W.heap.size)(hne:g<g6){i:Nat}{u:Value}:zcT w (W.setCell ⟨g6,i,none⟩ u) g:=by
 obtain⟨f,hf⟩:=h.res;exact⟨⟨f,fun j hj=>⟨(World.cell?_setCell_other _ _ _ _ (by intro e;injection e with e _ _;omega)).trans (hf j hj).1,by rw [World.frozen?_setCell];exact(hf j hj).2⟩⟩,h.el.setCell _ _,h.below.setCell (by have:=h.le;show _≤g6;omega) _,h.le⟩
theorem zg2{l:List UInt8}(h:l.length≤41000)(hc:zbj (zaT (zaB l))=true):zad (zaT (zaB l))<B^100000:=
 zaX 100000 (zfO (k:=4556) (zbv hc) (by have:=zch l;omega)) (by decide)
theorem zg7{l:List UInt8}(h:l.length≤41000)(hb:zbA l=true→zbj (zaK l)=true∧zaK l ≠ [48]∧zaK l ≠ [49]):zck l<B^100000:=by
 unfold zck;split
 ·rename_i hs;exact zaX 100000 (zfO (k:=4556) (zbv (hb hs).1) (by have:=zch l;omega)) (by decide)
 ·exact zaX 100000 (show 1<B^1 by decide) (by decide)
theorem Box3.set2{w:World}{g:Nat}{x y z u v:Value}(h:Box3 w g x y z)(hc:w.cell? ⟨g,2,none⟩=some v):Box3 (w.setCell ⟨g,2,none⟩ u) g x y u:=by
 have n (j:Nat) (hj:j≠2):(⟨g,2,none⟩:Addr)≠⟨g,j,none⟩:=by intro e;injection e with _ e;omega
 intro j x' hj;match j,hj with
 | 0,hj=>rw [World.cell?_setCell_other _ _ _ _ (n 0 (by omega)),←hj];exact h.c0
 | 1,hj=>rw [World.cell?_setCell_other _ _ _ _ (n 1 (by omega)),←hj];exact h.c1
 | 2,hj=>rw [World.cell?_setCell_same _ _ _ hc,←hj];rfl
 | k+3,hj=>simp at hj
theorem zmB{fn:Func}{p t:Tmp}{R:Ending→World→Prop}{a:Act}{w:World}{x y z u:Value}(h:fn.results=#[.cell p 25,.tmp t])(hd:a.defers = [])(g:Nat)(hp:a.tmps.getD p undef = .pointer (some ⟨g,0,none⟩))(ht:a.tmps.getD t undef=u)
  (hc:Box3 w g x y z) (hR:R (.returned (.tuple #[.agg #[x,y,z],u])) w):bodyPost Tryz.prog fn R .ret a w:=by
 refine⟨hd,.tuple #[.agg #[x,y,z],u],?_,hR⟩;have e1:=l25 g [x,y,z] w rfl hc;simp only [Instr.loadAt,Instr.sureAddr,Sem.run_bind,Sem.run_pure,Result.andThen_ok]at e1;have hp2:a.tmps[p]?.getD undef = .pointer (some ⟨g,0,none⟩):=by rw [←Array.getD_eq_getD_getElem?];exact hp
 have ht2:a.tmps[t]?.getD undef=u:=by rw [←Array.getD_eq_getD_getElem?];exact ht
 simp [results,h,hp2,ht2,asAddr,e1]
theorem zae{b:Bool}(h:some undef=some (Value.bool b)):False:=by
 injection h with h
 cases h
theorem zf6{l m:List UInt8}(h:¬l=m):(l == m)=false:=beq_false_of_ne h
theorem zlp(w:World)(s:ByteArray)(l:List UInt8)(hl:s.data.toList=l)(hL:Laid w) :
  CallsIn Fence.wide 0 Tryz.prog 11 #[.string s] w fun e w'=>∃v',e = .returned (.tuple #[v',.int .i64 (zhY l)])∧zao w' v' (zhX l)∧Below w.heap.size w w':=by
 have hsz:s.size=l.length:=by rw [Lib.size_eq,hl]
 have HSL:=zHi hl;have HL:=zHi hL;obtain⟨n,hn⟩:∃n,l.length=n:=⟨_,rfl⟩;have HN:=zHi hn;rw [hn]at hsz;clear hl hL hn;have hmf:∀(fn:Fn) (first cap:Array Value) (w:World),(Instr.makeFunc fn first cap).run Tryz.prog w = .ok (.func fn first cap) w:=fun _ _ _ _=>rfl
 refine callsIn_of_wp Tryz.func11 rfl trivial ?_ rfl;simp only [Tryz.ntmps11,ztE,ztF,ztG,Nat.reduceAdd,Nat.reduceSub,ztH,ztI,ztJ,ztK,ztL,ztM];by_cases hlong:41000<n
 ·have hlong':decide ((n:Int)>41000)=true:=decide_eq_true (by omega);have hP:=zoY (l:=l) (by rw [HN.out];exact hlong);gi_wp2;refine zmB rfl rfl w.heap.size rfl rfl (zbC w (.bool false) (.slice none 0 0) (.slice none 0 0) 25) ?_;rw [hP.1,hP.2];exact⟨_,rfl,zaL _,zaa _ _⟩
 ·have hlong':decide ((n:Int)>41000)=false:=decide_eq_false (by omega);have HNL:Hid (¬41000<l.length):=zHi (by rw [HN.out];exact hlong);gi_wp2_with (gi_at_call 59;refine stop ?_)
  unfold Stop;obtain⟨W,hW⟩:∃W,W=w.alloc (Obj.cells #[Value.bool false,Value.slice none 0 0,Value.slice none 0 0] 25):=⟨_,rfl⟩;rw [←hW];have HK:Hid (zcT w W w.heap.size):=zHi (by rw [hW];exact zmC _ _ _ _);obtain⟨g,hg⟩:∃g,w.heap.size=g:=⟨_,rfl⟩;rw [hg]at HK;rw [hg];clear hW hg;refine(zqO W s (by omega) (HL.out.below HK.out.below)).mono ?_;rintro e w2 ⟨t,b,rfl,ht,hb,hB⟩;rw [HSL.out]at ht hb ⊢;replace HK:=zHi (HK.out.step hB);have HT:=zHi ht;have HBt:=zHi hb;clear ht hb hB;gi_wp2_with (gi_at_call 60;refine stop ?_)
  unfold Stop;refine(zp9 w2 t).mono ?_;rintro e w3 ⟨o,rfl,ho,hB⟩;rw [HT.out]at ho ⊢;replace HK:=zHi (HK.out.step hB);have HOw:=zHi ho;have hos:o.size≤100000:=by
   have:=zch l;rw [HN.out]at this;rw [Lib.size_eq,ho];omega
  have hbs:b.size≤100000:=by
   have:=zch l;rw [HN.out]at this;rw [Lib.size_eq,HBt.out];omega
  clear ho hB;gi_wp2_with (gi_at_call 61;refine stop ?_)
  unfold Stop;refine(zdt w3 o hos).mono ?_;rintro e w4 ⟨rfl,hB⟩;rw [HOw.out];replace HK:=zHi (HK.out.step hB);clear hB;obtain⟨f,hf⟩:=HK.out.res;have z0:=(hf 0 (by omega)).1;have z1:=(hf 1 (by omega)).1;have z2:=(hf 2 (by omega)).1;have y0:=(hf 0 (by omega)).2;have y1:=(hf 1 (by omega)).2;have y2:=(hf 2 (by omega)).2;have hle:=HK.out.le;clear hf
  cases hc:zbj (zaT (zaB l))with
  | false=>
   have HP:=zHi (za9 HNL.out (zq1 (.inl hc)));gi_wp2_with (exfalso;exact zae (by assumption))
   refine zaD rfl rfl g rfl rfl z0 z1 z2 ?_;rw [HP.out.1,HP.out.2];exact⟨_,rfl,zaL _,((HK.out.below.setCell hle _).setCell hle _).setCell hle _⟩
  | true=>
   have HCO:=zHi hc;clear hc
   cases hn:zbQ (zaB l)with
   | true=>
    have HNG:=zHi hn;clear hn;by_cases h48:o.toList = [48]
    ·have h48':(o.toList == [48])=true:=by rw [h48];rfl
     have hb48:=zq1 (l:=l) (.inr ⟨HNG.out,by rw [←HOw.out,←Lib.toList_data];exact h48⟩);have HP:=zHi (za9 HNL.out (hb48));gi_wp2_with (exfalso;exact zae (by assumption))
     refine zaD rfl rfl g rfl rfl z0 z1 z2 ?_;rw [HP.out.1,HP.out.2];exact⟨_,rfl,zaL _,((HK.out.below.setCell hle _).setCell hle _).setCell hle _⟩
    ·have h48':(o.toList == [48])=false:=zf6 h48;have HN48:Hid (zbQ (zaB l)=true→zaT (zaB l) ≠ [48]):=zHi (fun _=>by rw [←HOw.out,←Lib.toList_data];exact h48)
     cases hs:zbA l with
     | false=>
      have HHS:=zHi hs;have HBOT:Hid (zbA l=true→zbj (zaK l)=true∧zaK l ≠ [48]∧zaK l ≠ [49]):=zHi (fun h=>by rw [hs]at h;cases h);clear hs;have HG:=zHi (good (l:=l) HCO.out HN48.out HBOT.out);clear z0 z1 z2 y0 y1 y2;gi_wp2_with (first|(exfalso;exact zae (by assumption))|(gi_at_call 62;refine stop ?_))
      unfold Stop;refine(zct w4 o (zaT (zaB l)) HOw.out (zbv HCO.out) (by have:=zch l;rw [HN.out]at this;omega)).mono ?_;rintro e w6 ⟨vn,rfl,hvn,hB⟩;replace HK:=zHi (HK.out.step hB);obtain⟨o1,k1,c1,rfl,_,_⟩:=zaM hvn;have HVN:=zHi hvn;clear hvn hB;gi_wp2_with (exfalso;exact zae (by assumption))
      obtain⟨W6,hW6⟩:∃W,W=w6.alloc (Obj.cells #[Value.bool true,.slice o1 k1 c1,.slice none 0 0] 25):=⟨_,rfl⟩;rw [←hW6];have HBx:Hid (Box3 W6 w6.heap.size (.bool true) (.slice o1 k1 c1) (.slice none 0 0)):=zHi (by rw [hW6];exact zbC _ _ _ _ _);have hBW:Below w6.heap.size w6 W6:=by rw [hW6];exact zaa _ _
      replace HK:=zHi (HK.out.step hBW);replace HVN:=zHi (HVN.out.below hBW);have HVD:Hid (zat W6 (.slice none 0 0) 0):=zHi ⟨0,zbz,.inl ⟨rfl,none,0,rfl⟩⟩;obtain⟨o2,k2,c2,hv2⟩:∃o2 k2 c2,(Value.slice none 0 0) = .slice o2 k2 c2:=⟨_,_,_,rfl⟩;rw [hv2]at HBx HVD;have hDen:(if(0:Nat)=0 then 1 else 0)=zck l:=by unfold zck;rw [HHS.out];rfl
      clear hW6 hBW hv2;refine zas (ro:=none) [1,4,5] [0,2,3,1,4,5,6] [0,1,0,4,15,31,63] zaz 73 rfl (by kernel_rfl) (by kernel_rfl) ?_;replace HBx:=zHi (HBx.out.below (zab _));replace HVN:=zHi (HVN.out.below (zab _));replace HVD:=zHi (HVD.out.below (zab _));replace HK:=zHi (HK.out.step (zab _));refine OW.loadAll rfl rfl l25 (cs:=[.bool true,.slice o1 k1 c1,.slice o2 k2 c2]) rfl (by decide) HBx.out rfl ?_;simp only [Go.Act.put,ztN,ztO,ztP];refine OW.fieldAddr rfl rfl zi4 rfl ?_;simp only [Go.Act.put,ztN,ztO,ztP];refine OW.load rfl rfl l23 HBx.out.c1 rfl ?_;simp only [Go.Act.put,ztN,ztO,ztP];refine OW.call rfl rfl Tryz.func64 rfl zai (args:=[.agg #[.bool true,.slice o1 k1 c1,.slice o2 k2 c2]]) rfl ?_;refine(zfg W6.drew true (.slice o1 k1 c1) (.slice o2 k2 c2) 0 HVD.out).mono ?_;rintro e wa ⟨va,rfl,hva,hB⟩;rw [hDen]at hva;refine⟨va,rfl,hB,?_⟩;simp only [Go.Act.put,ztN,ztO,ztP];replace HBx:=zHi (HBx.out.below hB);replace HVN:=zHi (HVN.out.below hB);replace HVD:=zHi (HVD.out.below hB);replace HK:=zHi (HK.out.step hB);have HVA:=zHi hva;clear hva hB;refine OW.call rfl rfl Tryz.func63 rfl zai (args:=[va,.slice o1 k1 c1]) rfl ?_;refine(zeI wa va _ (zck l) (zad (zaT (zaB l))) 100000 HVA.out HVN.out (zg7 (by rw [HN.out];omega) HBOT.out) (zg2 (by rw [HN.out];omega) HCO.out) (by omega)).mono ?_;rintro e wb ⟨vb,rfl,hvb,hB⟩;refine⟨vb,rfl,hB,?_⟩;simp only [Go.Act.put,ztN,ztO,ztP];replace HBx:=zHi (HBx.out.below hB);replace HVN:=zHi (HVN.out.below hB);replace HVD:=zHi (HVD.out.below hB);replace HK:=zHi (HK.out.step hB);have HVB:=zHi hvb;clear hvb hB HVA;refine OW.call rfl rfl Tryz.func65 rfl zai (args:=[vb]) rfl ?_;refine(zcw wb vb _ HVB.out).mono ?_;rintro e wc ⟨rfl,hB⟩;refine⟨_,rfl,hB,?_⟩;simp only [Go.Act.put,ztN,ztO,ztP];replace HBx:=zHi (HBx.out.below hB);replace HVN:=zHi (HVN.out.below hB);replace HVD:=zHi (HVD.out.below hB);replace HK:=zHi (HK.out.step hB);clear hB HVB;refine OW.read rfl rfl (.bool (!decide (Nat.gcd (zck l) (zad (zaT (zaB l)))=1))) (fun w' _=>rfl) ?_;simp only [Go.Act.put,ztN];refine OW.done ?_;obtain⟨f,hf⟩:=HK.out.res;have z0:=(hf 0 (by omega)).1;have z1:=(hf 1 (by omega)).1;have z2:=(hf 2 (by omega)).1;have y0:=(hf 0 (by omega)).2;have y1:=(hf 1 (by omega)).2;have y2:=(hf 2 (by omega)).2;clear hf;by_cases hg1:Nat.gcd (zck l) (zad (zaT (zaB l)))=1
      ·rw [decide_eq_true hg1];obtain⟨q,hq,hnum,hden,hsg⟩:=HG.out.1 hg1;have hP:=zdF HNL.out hq;rw [HNG.out]at hsg;have HRA:Hid (zao wc (.agg #[.bool true,.slice o1 k1 c1,.slice o2 k2 c2]) q):=zHi ⟨_,_,by rw [hsg],by rw [hnum];exact HVN.out,by
        rw [hden,←hDen];exact HVD.out⟩
       have HRL:Hid (zar q 100000):=zHi ⟨by rw [hnum];exact zg2 (by rw [HN.out];omega) HCO.out,by rw [hden];exact zg7 (by rw [HN.out];omega) HBOT.out⟩;have HP:=zHi hP;have d0:=HBx.out.c0;have d1:=HBx.out.c1;have d2:=HBx.out.c2;clear hg1 hq hnum hden hsg hP z0 z1 z2 y0 y1 y2;gi_wp2_with (gi_at_call 66;refine stop ?_)
       unfold Stop;refine(zee wc _ q HRA.out HRL.out (HL.out.pow.below HK.out.below)).mono ?_;rintro e wd ⟨vr,rfl,hr,hB⟩;replace HK:=zHi (HK.out.step hB);obtain⟨o5,k5,c5,o6,k6,c6,rfl⟩:=hr.form;have HR3:=zHi hr;obtain⟨sg',hsg'⟩:∃sg',decide ((zkF q).num<0)=sg':=⟨_,rfl⟩;rw [hsg']at HR3;rw [hsg'];obtain⟨f,hf⟩:=HK.out.res;have z0:=(hf 0 (by omega)).1;have z1:=(hf 1 (by omega)).1;have z2:=(hf 2 (by omega)).1;have y0:=(hf 0 (by omega)).2;have y1:=(hf 1 (by omega)).2;have y2:=(hf 2 (by omega)).2;have HE:=zHi HK.out.el;clear hf hr hB;gi_wp2;refine zaD rfl rfl g rfl rfl z0 z1 z2 ?_;rw [HP.out.1,HP.out.2];refine⟨_,rfl,?_,((HK.out.below.setCell hle _).setCell hle _).setCell hle _⟩;exact((HR3.out.setElem HE.out (by decide)).setElem (HE.out.setCell _ _) (by decide)).setElem ((HE.out.setCell _ _).setCell _ _) (by decide)
      ·rw [decide_eq_false hg1];have HP:=zHi (za9 HNL.out (HG.out.2 hg1));clear hg1;gi_wp2;refine zaD rfl rfl g rfl rfl z0 z1 z2 ?_;rw [HP.out.1,HP.out.2];exact⟨_,rfl,zaL _,((HK.out.below.setCell hle _).setCell hle _).setCell hle _⟩
     | true=>
      have HHS:=zHi hs;clear hs;gi_wp2_with (first|(exfalso;exact zae (by assumption))|(gi_at_call 61;refine stop ?_))
      unfold Stop;refine(zdt w4 b hbs).mono ?_;rintro e w5 ⟨rfl,hB⟩;rw [HBt.out];replace z0:=(hB.cell HK.out.lt).trans z0;replace z1:=(hB.cell HK.out.lt).trans z1;replace z2:=(hB.cell HK.out.lt).trans z2;replace y0:=(hB.frozen (p:=⟨g,0,none⟩) HK.out.lt).trans y0;replace y1:=(hB.frozen (p:=⟨g,1,none⟩) HK.out.lt).trans y1;replace y2:=(hB.frozen (p:=⟨g,2,none⟩) HK.out.lt).trans y2;replace HK:=zHi (HK.out.step hB);clear hB
      cases hb:zbj (zaK l)with
      | false=>
       have HBB:=zgO HHS.out (.inl hb);clear hb;have HP:=zHi (za9 HNL.out (HBB));gi_wp2_with (exfalso;exact zae (by assumption))
       refine zaD rfl rfl g rfl rfl z0 z1 z2 ?_;rw [HP.out.1,HP.out.2];exact⟨_,rfl,zaL _,((HK.out.below.setCell hle _).setCell hle _).setCell hle _⟩
      | true=>
       have HCB:=zHi hb;clear hb;by_cases b48:b.toList = [48]
       ·have b48':(b.toList == [48])=true:=by rw [b48];rfl
        have HBB:=zgO (l:=l) HHS.out (.inr (.inl (by rw [←HBt.out,←Lib.toList_data];exact b48)));have HP:=zHi (za9 HNL.out (HBB));gi_wp2_with (exfalso;exact zae (by assumption))
        refine zaD rfl rfl g rfl rfl z0 z1 z2 ?_;rw [HP.out.1,HP.out.2];exact⟨_,rfl,zaL _,((HK.out.below.setCell hle _).setCell hle _).setCell hle _⟩
       ·have b48':(b.toList == [48])=false:=zf6 b48;by_cases b49:b.toList = [49]
        ·have b49':(b.toList == [49])=true:=by rw [b49];rfl
         have HBB:=zgO (l:=l) HHS.out (.inr (.inr (by rw [←HBt.out,←Lib.toList_data];exact b49)));have HP:=zHi (za9 HNL.out (HBB));gi_wp2_with (exfalso;exact zae (by assumption))
         refine zaD rfl rfl g rfl rfl z0 z1 z2 ?_;rw [HP.out.1,HP.out.2];exact⟨_,rfl,zaL _,((HK.out.below.setCell hle _).setCell hle _).setCell hle _⟩
        ·have b49':(b.toList == [49])=false:=zf6 b49;have HBOT:Hid (zbA l=true→zbj (zaK l)=true∧zaK l ≠ [48]∧zaK l ≠ [49]):=zHi (fun _=>⟨HCB.out,by rw [←HBt.out,←Lib.toList_data];exact b48,by rw [←HBt.out,←Lib.toList_data];exact b49⟩);have HG:=zHi (good (l:=l) HCO.out HN48.out HBOT.out);clear z0 z1 z2 y0 y1 y2;gi_wp2_with (first|(exfalso;exact zae (by assumption))|(gi_at_call 62;refine stop ?_))
         unfold Stop;refine(zct w5 o (zaT (zaB l)) HOw.out (zbv HCO.out) (by have:=zch l;rw [HN.out]at this;omega)).mono ?_;rintro e w6 ⟨vn,rfl,hvn,hB⟩;replace HK:=zHi (HK.out.step hB);obtain⟨o1,k1,c1,rfl,_,_⟩:=zaM hvn;have HVN:=zHi hvn;clear hvn hB;gi_wp2_with (first|(exfalso;exact zae (by assumption))|(gi_at_call 62;refine stop ?_))
         unfold Stop;have hglt:=HK.out.lt;obtain⟨W6,hW6⟩:∃W,W=w6.alloc (Obj.cells #[Value.bool true,.slice o1 k1 c1,.slice none 0 0] 25):=⟨_,rfl⟩;rw [←hW6];have HBx:Hid (Box3 W6 w6.heap.size (.bool true) (.slice o1 k1 c1) (.slice none 0 0)):=zHi (by rw [hW6];exact zbC _ _ _ _ _);have HX:Hid (∃f,zaf W6 w6.heap.size 3 f):=zHi (by rw [hW6];exact(ze5 _ _ _ _ _).1);have HE6:Hid (Elem W6 w6.heap.size 25):=zHi (by rw [hW6];exact zaA _ _ _);have hBW:Below w6.heap.size w6 W6:=by rw [hW6];exact zaa _ _
         replace HK:=zHi (HK.out.step hBW);replace HVN:=zHi (HVN.out.below hBW);have hgg:=hglt;obtain⟨g6,hg6⟩:∃g6,w6.heap.size=g6:=⟨_,rfl⟩;rw [hg6]at HBx HX HE6 hgg;rw [hg6];clear hW6 hBW;refine(zct W6 b (zaK l) HBt.out (zbv (HBOT.out HHS.out).1) (by have:=zch l;rw [HN.out]at this;omega)).mono ?_;rintro e w7 ⟨vd,rfl,hvd,hB⟩;replace HK:=zHi (HK.out.step hB);replace HVN:=zHi (HVN.out.below hB);replace HBx:=zHi (HBx.out.below hB);replace HX:Hid (∃f,zaf w7 g6 3 f):=zHi (HX.out.elim fun f hf=>⟨f,hf.below HE6.out.lt hB⟩);replace HE6:=zHi (HE6.out.below hB HE6.out.lt);obtain⟨o2,k2,c2,rfl,_,_⟩:=zaM hvd;have HVD:=zHi hvd;obtain⟨f6,hf6⟩:=HX.out;have x2:=(hf6 2 (by omega)).1;have x3:=(hf6 2 (by omega)).2;clear hvd hB HX;gi_wp2_with (exfalso;exact zae (by assumption))
         obtain⟨W8,hW8⟩:∃W,W=w7.setCell ⟨g6,2,none⟩ (.slice o2 k2 c2):=⟨_,rfl⟩;rw [←hW8];replace HBx:Hid (Box3 W8 g6 (.bool true) (.slice o1 k1 c1) (.slice o2 k2 c2)):=zHi (by rw [hW8];exact HBx.out.set2 x2);replace HVN:Hid (zat W8 (.slice o1 k1 c1) (zad (zaT (zaB l)))):=zHi (by rw [hW8];exact HVN.out.setElem HE6.out (by decide));replace HVD:Hid (zat W8 (.slice o2 k2 c2) (zad (zaK l))):=zHi (by rw [hW8];exact HVD.out.setElem HE6.out (by decide));replace HK:Hid (zcT w W8 g):=zHi (by rw [hW8];exact HK.out.set HE6.out.lt (by omega));have hDen:(if zad (zaK l)=0 then 1 else zad (zaK l))=zck l:=by
          unfold zck;rw [HHS.out,if_neg]
          ·rfl
          ·have:=(zev (HBOT.out HHS.out).1).2 (HBOT.out HHS.out).2;omega
         clear hW8 hf6 x2 x3;refine zas (ro:=none) [1,4,5] [0,2,3,1,4,5,6] [0,1,0,4,15,31,63] zaz 73 rfl (by kernel_rfl) (by kernel_rfl) ?_;replace HBx:=zHi (HBx.out.below (zab _));replace HVN:=zHi (HVN.out.below (zab _));replace HVD:=zHi (HVD.out.below (zab _));replace HK:=zHi (HK.out.step (zab _));refine OW.loadAll rfl rfl l25 (cs:=[.bool true,.slice o1 k1 c1,.slice o2 k2 c2]) rfl (by decide) HBx.out rfl ?_;simp only [Go.Act.put,ztN,ztO,ztP];refine OW.fieldAddr rfl rfl zi4 rfl ?_;simp only [Go.Act.put,ztN,ztO,ztP];refine OW.load rfl rfl l23 HBx.out.c1 rfl ?_;simp only [Go.Act.put,ztN,ztO,ztP];refine OW.call rfl rfl Tryz.func64 rfl zai (args:=[.agg #[.bool true,.slice o1 k1 c1,.slice o2 k2 c2]]) rfl ?_;refine(zfg W8.drew true (.slice o1 k1 c1) (.slice o2 k2 c2) (zad (zaK l)) HVD.out).mono ?_;rintro e wa ⟨va,rfl,hva,hB⟩;rw [hDen]at hva;refine⟨va,rfl,hB,?_⟩;simp only [Go.Act.put,ztN,ztO,ztP];replace HBx:=zHi (HBx.out.below hB);replace HVN:=zHi (HVN.out.below hB);replace HVD:=zHi (HVD.out.below hB);replace HK:=zHi (HK.out.step hB);have HVA:=zHi hva;clear hva hB;refine OW.call rfl rfl Tryz.func63 rfl zai (args:=[va,.slice o1 k1 c1]) rfl ?_;refine(zeI wa va _ (zck l) (zad (zaT (zaB l))) 100000 HVA.out HVN.out (zg7 (by rw [HN.out];omega) HBOT.out) (zg2 (by rw [HN.out];omega) HCO.out) (by omega)).mono ?_;rintro e wb ⟨vb,rfl,hvb,hB⟩;refine⟨vb,rfl,hB,?_⟩;simp only [Go.Act.put,ztN,ztO,ztP];replace HBx:=zHi (HBx.out.below hB);replace HVN:=zHi (HVN.out.below hB);replace HVD:=zHi (HVD.out.below hB);replace HK:=zHi (HK.out.step hB);have HVB:=zHi hvb;clear hvb hB HVA;refine OW.call rfl rfl Tryz.func65 rfl zai (args:=[vb]) rfl ?_;refine(zcw wb vb _ HVB.out).mono ?_;rintro e wc ⟨rfl,hB⟩;refine⟨_,rfl,hB,?_⟩;simp only [Go.Act.put,ztN,ztO,ztP];replace HBx:=zHi (HBx.out.below hB);replace HVN:=zHi (HVN.out.below hB);replace HVD:=zHi (HVD.out.below hB);replace HK:=zHi (HK.out.step hB);clear hB HVB;refine OW.read rfl rfl (.bool (!decide (Nat.gcd (zck l) (zad (zaT (zaB l)))=1))) (fun w' _=>rfl) ?_;simp only [Go.Act.put,ztN];refine OW.done ?_;obtain⟨f,hf⟩:=HK.out.res;have z0:=(hf 0 (by omega)).1;have z1:=(hf 1 (by omega)).1;have z2:=(hf 2 (by omega)).1;have y0:=(hf 0 (by omega)).2;have y1:=(hf 1 (by omega)).2;have y2:=(hf 2 (by omega)).2;clear hf;by_cases hg1:Nat.gcd (zck l) (zad (zaT (zaB l)))=1
         ·rw [decide_eq_true hg1];obtain⟨q,hq,hnum,hden,hsg⟩:=HG.out.1 hg1;have hP:=zdF HNL.out hq;rw [HNG.out]at hsg;have HRA:Hid (zao wc (.agg #[.bool true,.slice o1 k1 c1,.slice o2 k2 c2]) q):=zHi ⟨_,_,by rw [hsg],by rw [hnum];exact HVN.out,by
           rw [hden,←hDen];have h2:=(zev (HBOT.out HHS.out).1).2 (HBOT.out HHS.out).2;rw [if_neg (show ¬zad (zaK l)=0 by omega),if_neg (show ¬zad (zaK l)=1 by omega)];exact HVD.out⟩
          have HRL:Hid (zar q 100000):=zHi ⟨by rw [hnum];exact zg2 (by rw [HN.out];omega) HCO.out,by rw [hden];exact zg7 (by rw [HN.out];omega) HBOT.out⟩;have HP:=zHi hP;have d0:=HBx.out.c0;have d1:=HBx.out.c1;have d2:=HBx.out.c2;clear hg1 hq hnum hden hsg hP z0 z1 z2 y0 y1 y2;gi_wp2_with (gi_at_call 66;refine stop ?_)
          unfold Stop;refine(zee wc _ q HRA.out HRL.out (HL.out.pow.below HK.out.below)).mono ?_;rintro e wd ⟨vr,rfl,hr,hB⟩;replace HK:=zHi (HK.out.step hB);obtain⟨o5,k5,c5,o6,k6,c6,rfl⟩:=hr.form;have HR3:=zHi hr;obtain⟨sg',hsg'⟩:∃sg',decide ((zkF q).num<0)=sg':=⟨_,rfl⟩;rw [hsg']at HR3;rw [hsg'];obtain⟨f,hf⟩:=HK.out.res;have z0:=(hf 0 (by omega)).1;have z1:=(hf 1 (by omega)).1;have z2:=(hf 2 (by omega)).1;have y0:=(hf 0 (by omega)).2;have y1:=(hf 1 (by omega)).2;have y2:=(hf 2 (by omega)).2;have HE:=zHi HK.out.el;clear hf hr hB;gi_wp2;refine zaD rfl rfl g rfl rfl z0 z1 z2 ?_;rw [HP.out.1,HP.out.2];refine⟨_,rfl,?_,((HK.out.below.setCell hle _).setCell hle _).setCell hle _⟩;exact((HR3.out.setElem HE.out (by decide)).setElem (HE.out.setCell _ _) (by decide)).setElem ((HE.out.setCell _ _).setCell _ _) (by decide)
         ·rw [decide_eq_false hg1];have HP:=zHi (za9 HNL.out (HG.out.2 hg1));clear hg1;gi_wp2;refine zaD rfl rfl g rfl rfl z0 z1 z2 ?_;rw [HP.out.1,HP.out.2];exact⟨_,rfl,zaL _,((HK.out.below.setCell hle _).setCell hle _).setCell hle _⟩
   | false=>
    have HNG:=zHi hn;clear hn;have HN48:Hid (zbQ (zaB l)=true→zaT (zaB l) ≠ [48]):=zHi (fun h=>by rw [HNG.out]at h;cases h)
    cases hs:zbA l with
    | false=>
     have HHS:=zHi hs;have HBOT:Hid (zbA l=true→zbj (zaK l)=true∧zaK l ≠ [48]∧zaK l ≠ [49]):=zHi (fun h=>by rw [hs]at h;cases h);clear hs;have HG:=zHi (good (l:=l) HCO.out HN48.out HBOT.out);clear z0 z1 z2 y0 y1 y2;gi_wp2_with (first|(exfalso;exact zae (by assumption))|(gi_at_call 62;refine stop ?_))
     unfold Stop;refine(zct w4 o (zaT (zaB l)) HOw.out (zbv HCO.out) (by have:=zch l;rw [HN.out]at this;omega)).mono ?_;rintro e w6 ⟨vn,rfl,hvn,hB⟩;replace HK:=zHi (HK.out.step hB);obtain⟨o1,k1,c1,rfl,_,_⟩:=zaM hvn;have HVN:=zHi hvn;clear hvn hB;gi_wp2_with (exfalso;exact zae (by assumption))
     obtain⟨W6,hW6⟩:∃W,W=w6.alloc (Obj.cells #[Value.bool false,.slice o1 k1 c1,.slice none 0 0] 25):=⟨_,rfl⟩;rw [←hW6];have HBx:Hid (Box3 W6 w6.heap.size (.bool false) (.slice o1 k1 c1) (.slice none 0 0)):=zHi (by rw [hW6];exact zbC _ _ _ _ _);have hBW:Below w6.heap.size w6 W6:=by rw [hW6];exact zaa _ _
     replace HK:=zHi (HK.out.step hBW);replace HVN:=zHi (HVN.out.below hBW);have HVD:Hid (zat W6 (.slice none 0 0) 0):=zHi ⟨0,zbz,.inl ⟨rfl,none,0,rfl⟩⟩;obtain⟨o2,k2,c2,hv2⟩:∃o2 k2 c2,(Value.slice none 0 0) = .slice o2 k2 c2:=⟨_,_,_,rfl⟩;rw [hv2]at HBx HVD;have hDen:(if(0:Nat)=0 then 1 else 0)=zck l:=by unfold zck;rw [HHS.out];rfl
     clear hW6 hBW hv2;refine zas (ro:=none) [1,4,5] [0,2,3,1,4,5,6] [0,1,0,4,15,31,63] zaz 73 rfl (by kernel_rfl) (by kernel_rfl) ?_;replace HBx:=zHi (HBx.out.below (zab _));replace HVN:=zHi (HVN.out.below (zab _));replace HVD:=zHi (HVD.out.below (zab _));replace HK:=zHi (HK.out.step (zab _));refine OW.loadAll rfl rfl l25 (cs:=[.bool false,.slice o1 k1 c1,.slice o2 k2 c2]) rfl (by decide) HBx.out rfl ?_;simp only [Go.Act.put,ztN,ztO,ztP];refine OW.fieldAddr rfl rfl zi4 rfl ?_;simp only [Go.Act.put,ztN,ztO,ztP];refine OW.load rfl rfl l23 HBx.out.c1 rfl ?_;simp only [Go.Act.put,ztN,ztO,ztP];refine OW.call rfl rfl Tryz.func64 rfl zai (args:=[.agg #[.bool false,.slice o1 k1 c1,.slice o2 k2 c2]]) rfl ?_;refine(zfg W6.drew false (.slice o1 k1 c1) (.slice o2 k2 c2) 0 HVD.out).mono ?_;rintro e wa ⟨va,rfl,hva,hB⟩;rw [hDen]at hva;refine⟨va,rfl,hB,?_⟩;simp only [Go.Act.put,ztN,ztO,ztP];replace HBx:=zHi (HBx.out.below hB);replace HVN:=zHi (HVN.out.below hB);replace HVD:=zHi (HVD.out.below hB);replace HK:=zHi (HK.out.step hB);have HVA:=zHi hva;clear hva hB;refine OW.call rfl rfl Tryz.func63 rfl zai (args:=[va,.slice o1 k1 c1]) rfl ?_;refine(zeI wa va _ (zck l) (zad (zaT (zaB l))) 100000 HVA.out HVN.out (zg7 (by rw [HN.out];omega) HBOT.out) (zg2 (by rw [HN.out];omega) HCO.out) (by omega)).mono ?_;rintro e wb ⟨vb,rfl,hvb,hB⟩;refine⟨vb,rfl,hB,?_⟩;simp only [Go.Act.put,ztN,ztO,ztP];replace HBx:=zHi (HBx.out.below hB);replace HVN:=zHi (HVN.out.below hB);replace HVD:=zHi (HVD.out.below hB);replace HK:=zHi (HK.out.step hB);have HVB:=zHi hvb;clear hvb hB HVA;refine OW.call rfl rfl Tryz.func65 rfl zai (args:=[vb]) rfl ?_;refine(zcw wb vb _ HVB.out).mono ?_;rintro e wc ⟨rfl,hB⟩;refine⟨_,rfl,hB,?_⟩;simp only [Go.Act.put,ztN,ztO,ztP];replace HBx:=zHi (HBx.out.below hB);replace HVN:=zHi (HVN.out.below hB);replace HVD:=zHi (HVD.out.below hB);replace HK:=zHi (HK.out.step hB);clear hB HVB;refine OW.read rfl rfl (.bool (!decide (Nat.gcd (zck l) (zad (zaT (zaB l)))=1))) (fun w' _=>rfl) ?_;simp only [Go.Act.put,ztN];refine OW.done ?_;obtain⟨f,hf⟩:=HK.out.res;have z0:=(hf 0 (by omega)).1;have z1:=(hf 1 (by omega)).1;have z2:=(hf 2 (by omega)).1;have y0:=(hf 0 (by omega)).2;have y1:=(hf 1 (by omega)).2;have y2:=(hf 2 (by omega)).2;clear hf;by_cases hg1:Nat.gcd (zck l) (zad (zaT (zaB l)))=1
     ·rw [decide_eq_true hg1];obtain⟨q,hq,hnum,hden,hsg⟩:=HG.out.1 hg1;have hP:=zdF HNL.out hq;rw [HNG.out]at hsg;have HRA:Hid (zao wc (.agg #[.bool false,.slice o1 k1 c1,.slice o2 k2 c2]) q):=zHi ⟨_,_,by rw [hsg],by rw [hnum];exact HVN.out,by
       rw [hden,←hDen];exact HVD.out⟩
      have HRL:Hid (zar q 100000):=zHi ⟨by rw [hnum];exact zg2 (by rw [HN.out];omega) HCO.out,by rw [hden];exact zg7 (by rw [HN.out];omega) HBOT.out⟩;have HP:=zHi hP;have d0:=HBx.out.c0;have d1:=HBx.out.c1;have d2:=HBx.out.c2;clear hg1 hq hnum hden hsg hP z0 z1 z2 y0 y1 y2;gi_wp2_with (gi_at_call 66;refine stop ?_)
      unfold Stop;refine(zee wc _ q HRA.out HRL.out (HL.out.pow.below HK.out.below)).mono ?_;rintro e wd ⟨vr,rfl,hr,hB⟩;replace HK:=zHi (HK.out.step hB);obtain⟨o5,k5,c5,o6,k6,c6,rfl⟩:=hr.form;have HR3:=zHi hr;obtain⟨sg',hsg'⟩:∃sg',decide ((zkF q).num<0)=sg':=⟨_,rfl⟩;rw [hsg']at HR3;rw [hsg'];obtain⟨f,hf⟩:=HK.out.res;have z0:=(hf 0 (by omega)).1;have z1:=(hf 1 (by omega)).1;have z2:=(hf 2 (by omega)).1;have y0:=(hf 0 (by omega)).2;have y1:=(hf 1 (by omega)).2;have y2:=(hf 2 (by omega)).2;have HE:=zHi HK.out.el;clear hf hr hB;gi_wp2;refine zaD rfl rfl g rfl rfl z0 z1 z2 ?_;rw [HP.out.1,HP.out.2];refine⟨_,rfl,?_,((HK.out.below.setCell hle _).setCell hle _).setCell hle _⟩;exact((HR3.out.setElem HE.out (by decide)).setElem (HE.out.setCell _ _) (by decide)).setElem ((HE.out.setCell _ _).setCell _ _) (by decide)
     ·rw [decide_eq_false hg1];have HP:=zHi (za9 HNL.out (HG.out.2 hg1));clear hg1;gi_wp2;refine zaD rfl rfl g rfl rfl z0 z1 z2 ?_;rw [HP.out.1,HP.out.2];exact⟨_,rfl,zaL _,((HK.out.below.setCell hle _).setCell hle _).setCell hle _⟩
    | true=>
     have HHS:=zHi hs;clear hs;gi_wp2_with (first|(exfalso;exact zae (by assumption))|(gi_at_call 61;refine stop ?_))
     unfold Stop;refine(zdt w4 b hbs).mono ?_;rintro e w5 ⟨rfl,hB⟩;rw [HBt.out];replace z0:=(hB.cell HK.out.lt).trans z0;replace z1:=(hB.cell HK.out.lt).trans z1;replace z2:=(hB.cell HK.out.lt).trans z2;replace y0:=(hB.frozen (p:=⟨g,0,none⟩) HK.out.lt).trans y0;replace y1:=(hB.frozen (p:=⟨g,1,none⟩) HK.out.lt).trans y1;replace y2:=(hB.frozen (p:=⟨g,2,none⟩) HK.out.lt).trans y2;replace HK:=zHi (HK.out.step hB);clear hB
     cases hb:zbj (zaK l)with
     | false=>
      have HBB:=zgO HHS.out (.inl hb);clear hb;have HP:=zHi (za9 HNL.out (HBB));gi_wp2_with (exfalso;exact zae (by assumption))
      refine zaD rfl rfl g rfl rfl z0 z1 z2 ?_;rw [HP.out.1,HP.out.2];exact⟨_,rfl,zaL _,((HK.out.below.setCell hle _).setCell hle _).setCell hle _⟩
     | true=>
      have HCB:=zHi hb;clear hb;by_cases b48:b.toList = [48]
      ·have b48':(b.toList == [48])=true:=by rw [b48];rfl
       have HBB:=zgO (l:=l) HHS.out (.inr (.inl (by rw [←HBt.out,←Lib.toList_data];exact b48)));have HP:=zHi (za9 HNL.out (HBB));gi_wp2_with (exfalso;exact zae (by assumption))
       refine zaD rfl rfl g rfl rfl z0 z1 z2 ?_;rw [HP.out.1,HP.out.2];exact⟨_,rfl,zaL _,((HK.out.below.setCell hle _).setCell hle _).setCell hle _⟩
      ·have b48':(b.toList == [48])=false:=zf6 b48;by_cases b49:b.toList = [49]
       ·have b49':(b.toList == [49])=true:=by rw [b49];rfl
        have HBB:=zgO (l:=l) HHS.out (.inr (.inr (by rw [←HBt.out,←Lib.toList_data];exact b49)));have HP:=zHi (za9 HNL.out (HBB));gi_wp2_with (exfalso;exact zae (by assumption))
        refine zaD rfl rfl g rfl rfl z0 z1 z2 ?_;rw [HP.out.1,HP.out.2];exact⟨_,rfl,zaL _,((HK.out.below.setCell hle _).setCell hle _).setCell hle _⟩
       ·have b49':(b.toList == [49])=false:=zf6 b49;have HBOT:Hid (zbA l=true→zbj (zaK l)=true∧zaK l ≠ [48]∧zaK l ≠ [49]):=zHi (fun _=>⟨HCB.out,by rw [←HBt.out,←Lib.toList_data];exact b48,by rw [←HBt.out,←Lib.toList_data];exact b49⟩);have HG:=zHi (good (l:=l) HCO.out HN48.out HBOT.out);clear z0 z1 z2 y0 y1 y2;gi_wp2_with (first|(exfalso;exact zae (by assumption))|(gi_at_call 62;refine stop ?_))
        unfold Stop;refine(zct w5 o (zaT (zaB l)) HOw.out (zbv HCO.out) (by have:=zch l;rw [HN.out]at this;omega)).mono ?_;rintro e w6 ⟨vn,rfl,hvn,hB⟩;replace HK:=zHi (HK.out.step hB);obtain⟨o1,k1,c1,rfl,_,_⟩:=zaM hvn;have HVN:=zHi hvn;clear hvn hB;gi_wp2_with (first|(exfalso;exact zae (by assumption))|(gi_at_call 62;refine stop ?_))
        unfold Stop;have hglt:=HK.out.lt;obtain⟨W6,hW6⟩:∃W,W=w6.alloc (Obj.cells #[Value.bool false,.slice o1 k1 c1,.slice none 0 0] 25):=⟨_,rfl⟩;rw [←hW6];have HBx:Hid (Box3 W6 w6.heap.size (.bool false) (.slice o1 k1 c1) (.slice none 0 0)):=zHi (by rw [hW6];exact zbC _ _ _ _ _);have HX:Hid (∃f,zaf W6 w6.heap.size 3 f):=zHi (by rw [hW6];exact(ze5 _ _ _ _ _).1);have HE6:Hid (Elem W6 w6.heap.size 25):=zHi (by rw [hW6];exact zaA _ _ _);have hBW:Below w6.heap.size w6 W6:=by rw [hW6];exact zaa _ _
        replace HK:=zHi (HK.out.step hBW);replace HVN:=zHi (HVN.out.below hBW);have hgg:=hglt;obtain⟨g6,hg6⟩:∃g6,w6.heap.size=g6:=⟨_,rfl⟩;rw [hg6]at HBx HX HE6 hgg;rw [hg6];clear hW6 hBW;refine(zct W6 b (zaK l) HBt.out (zbv (HBOT.out HHS.out).1) (by have:=zch l;rw [HN.out]at this;omega)).mono ?_;rintro e w7 ⟨vd,rfl,hvd,hB⟩;replace HK:=zHi (HK.out.step hB);replace HVN:=zHi (HVN.out.below hB);replace HBx:=zHi (HBx.out.below hB);replace HX:Hid (∃f,zaf w7 g6 3 f):=zHi (HX.out.elim fun f hf=>⟨f,hf.below HE6.out.lt hB⟩);replace HE6:=zHi (HE6.out.below hB HE6.out.lt);obtain⟨o2,k2,c2,rfl,_,_⟩:=zaM hvd;have HVD:=zHi hvd;obtain⟨f6,hf6⟩:=HX.out;have x2:=(hf6 2 (by omega)).1;have x3:=(hf6 2 (by omega)).2;clear hvd hB HX;gi_wp2_with (exfalso;exact zae (by assumption))
        obtain⟨W8,hW8⟩:∃W,W=w7.setCell ⟨g6,2,none⟩ (.slice o2 k2 c2):=⟨_,rfl⟩;rw [←hW8];replace HBx:Hid (Box3 W8 g6 (.bool false) (.slice o1 k1 c1) (.slice o2 k2 c2)):=zHi (by rw [hW8];exact HBx.out.set2 x2);replace HVN:Hid (zat W8 (.slice o1 k1 c1) (zad (zaT (zaB l)))):=zHi (by rw [hW8];exact HVN.out.setElem HE6.out (by decide));replace HVD:Hid (zat W8 (.slice o2 k2 c2) (zad (zaK l))):=zHi (by rw [hW8];exact HVD.out.setElem HE6.out (by decide));replace HK:Hid (zcT w W8 g):=zHi (by rw [hW8];exact HK.out.set HE6.out.lt (by omega));have hDen:(if zad (zaK l)=0 then 1 else zad (zaK l))=zck l:=by
         unfold zck;rw [HHS.out,if_neg]
         ·rfl
         ·have:=(zev (HBOT.out HHS.out).1).2 (HBOT.out HHS.out).2;omega
        clear hW8 hf6 x2 x3;refine zas (ro:=none) [1,4,5] [0,2,3,1,4,5,6] [0,1,0,4,15,31,63] zaz 73 rfl (by kernel_rfl) (by kernel_rfl) ?_;replace HBx:=zHi (HBx.out.below (zab _));replace HVN:=zHi (HVN.out.below (zab _));replace HVD:=zHi (HVD.out.below (zab _));replace HK:=zHi (HK.out.step (zab _));refine OW.loadAll rfl rfl l25 (cs:=[.bool false,.slice o1 k1 c1,.slice o2 k2 c2]) rfl (by decide) HBx.out rfl ?_;simp only [Go.Act.put,ztN,ztO,ztP];refine OW.fieldAddr rfl rfl zi4 rfl ?_;simp only [Go.Act.put,ztN,ztO,ztP];refine OW.load rfl rfl l23 HBx.out.c1 rfl ?_;simp only [Go.Act.put,ztN,ztO,ztP];refine OW.call rfl rfl Tryz.func64 rfl zai (args:=[.agg #[.bool false,.slice o1 k1 c1,.slice o2 k2 c2]]) rfl ?_;refine(zfg W8.drew false (.slice o1 k1 c1) (.slice o2 k2 c2) (zad (zaK l)) HVD.out).mono ?_;rintro e wa ⟨va,rfl,hva,hB⟩;rw [hDen]at hva;refine⟨va,rfl,hB,?_⟩;simp only [Go.Act.put,ztN,ztO,ztP];replace HBx:=zHi (HBx.out.below hB);replace HVN:=zHi (HVN.out.below hB);replace HVD:=zHi (HVD.out.below hB);replace HK:=zHi (HK.out.step hB);have HVA:=zHi hva;clear hva hB;refine OW.call rfl rfl Tryz.func63 rfl zai (args:=[va,.slice o1 k1 c1]) rfl ?_;refine(zeI wa va _ (zck l) (zad (zaT (zaB l))) 100000 HVA.out HVN.out (zg7 (by rw [HN.out];omega) HBOT.out) (zg2 (by rw [HN.out];omega) HCO.out) (by omega)).mono ?_;rintro e wb ⟨vb,rfl,hvb,hB⟩;refine⟨vb,rfl,hB,?_⟩;simp only [Go.Act.put,ztN,ztO,ztP];replace HBx:=zHi (HBx.out.below hB);replace HVN:=zHi (HVN.out.below hB);replace HVD:=zHi (HVD.out.below hB);replace HK:=zHi (HK.out.step hB);have HVB:=zHi hvb;clear hvb hB HVA;refine OW.call rfl rfl Tryz.func65 rfl zai (args:=[vb]) rfl ?_;refine(zcw wb vb _ HVB.out).mono ?_;rintro e wc ⟨rfl,hB⟩;refine⟨_,rfl,hB,?_⟩;simp only [Go.Act.put,ztN,ztO,ztP];replace HBx:=zHi (HBx.out.below hB);replace HVN:=zHi (HVN.out.below hB);replace HVD:=zHi (HVD.out.below hB);replace HK:=zHi (HK.out.step hB);clear hB HVB;refine OW.read rfl rfl (.bool (!decide (Nat.gcd (zck l) (zad (zaT (zaB l)))=1))) (fun w' _=>rfl) ?_;simp only [Go.Act.put,ztN];refine OW.done ?_;obtain⟨f,hf⟩:=HK.out.res;have z0:=(hf 0 (by omega)).1;have z1:=(hf 1 (by omega)).1;have z2:=(hf 2 (by omega)).1;have y0:=(hf 0 (by omega)).2;have y1:=(hf 1 (by omega)).2;have y2:=(hf 2 (by omega)).2;clear hf;by_cases hg1:Nat.gcd (zck l) (zad (zaT (zaB l)))=1
        ·rw [decide_eq_true hg1];obtain⟨q,hq,hnum,hden,hsg⟩:=HG.out.1 hg1;have hP:=zdF HNL.out hq;rw [HNG.out]at hsg;have HRA:Hid (zao wc (.agg #[.bool false,.slice o1 k1 c1,.slice o2 k2 c2]) q):=zHi ⟨_,_,by rw [hsg],by rw [hnum];exact HVN.out,by
          rw [hden,←hDen];have h2:=(zev (HBOT.out HHS.out).1).2 (HBOT.out HHS.out).2;rw [if_neg (show ¬zad (zaK l)=0 by omega),if_neg (show ¬zad (zaK l)=1 by omega)];exact HVD.out⟩
         have HRL:Hid (zar q 100000):=zHi ⟨by rw [hnum];exact zg2 (by rw [HN.out];omega) HCO.out,by rw [hden];exact zg7 (by rw [HN.out];omega) HBOT.out⟩;have HP:=zHi hP;have d0:=HBx.out.c0;have d1:=HBx.out.c1;have d2:=HBx.out.c2;clear hg1 hq hnum hden hsg hP z0 z1 z2 y0 y1 y2;gi_wp2_with (gi_at_call 66;refine stop ?_)
         unfold Stop;refine(zee wc _ q HRA.out HRL.out (HL.out.pow.below HK.out.below)).mono ?_;rintro e wd ⟨vr,rfl,hr,hB⟩;replace HK:=zHi (HK.out.step hB);obtain⟨o5,k5,c5,o6,k6,c6,rfl⟩:=hr.form;have HR3:=zHi hr;obtain⟨sg',hsg'⟩:∃sg',decide ((zkF q).num<0)=sg':=⟨_,rfl⟩;rw [hsg']at HR3;rw [hsg'];obtain⟨f,hf⟩:=HK.out.res;have z0:=(hf 0 (by omega)).1;have z1:=(hf 1 (by omega)).1;have z2:=(hf 2 (by omega)).1;have y0:=(hf 0 (by omega)).2;have y1:=(hf 1 (by omega)).2;have y2:=(hf 2 (by omega)).2;have HE:=zHi HK.out.el;clear hf hr hB;gi_wp2;refine zaD rfl rfl g rfl rfl z0 z1 z2 ?_;rw [HP.out.1,HP.out.2];refine⟨_,rfl,?_,((HK.out.below.setCell hle _).setCell hle _).setCell hle _⟩;exact((HR3.out.setElem HE.out (by decide)).setElem (HE.out.setCell _ _) (by decide)).setElem ((HE.out.setCell _ _).setCell _ _) (by decide)
        ·rw [decide_eq_false hg1];have HP:=zHi (za9 HNL.out (HG.out.2 hg1));clear hg1;gi_wp2;refine zaD rfl rfl g rfl rfl z0 z1 z2 ?_;rw [HP.out.1,HP.out.2];exact⟨_,rfl,zaL _,((HK.out.below.setCell hle _).setCell hle _).setCell hle _⟩
theorem zkx{n k c:Nat}(h:zcm n (k+1))(h1:limb n k/10^c=0)(h2:c=0∨10^(c-1)≤limb n k):Lib.nDigits n=9*k+c:=by
 have ht:=h.top;have hlt:limb n k<10^c:=by
  rcases Nat.lt_or_ge (limb n k) (10^c)with h|h
  ·exact h
  ·have:=Nat.div_pos h (Nat.pow_pos (by decide));omega
 have hc:c≠0:=by rintro rfl;simp at hlt;omega
 have hD:LenD (limb n k) c:=⟨by omega,hlt,.inr (by rcases h2 with h|h;omega;exact h)⟩;exact zsV (zo5 h hD).2
theorem zlC(w:World)(v:Value)(n:Nat)(h:NatI w v n) :
  CallsIn Fence.wide 0 Tryz.prog 89 #[v] w fun e w'=>e = .returned (.int .i64 ((Lib.nDigits n:Nat):Int))∧Below w.heap.size w w':=by
 obtain⟨k,hk,hl⟩:=h;have HLI:=zHi hk;have hks:=hl.small;obtain⟨o,c,rfl,h1⟩:=hl.form;have H1:=zHi h1;clear hk hl h1;refine callsIn_of_wp Tryz.func89 rfl trivial ?_ rfl;simp only [Tryz.ntmps89,ztE,ztF,ztG,Nat.reduceAdd,Nat.reduceSub,ztH,ztI,ztJ,ztK,ztL,ztM];by_cases h0:k=0
 ·subst h0;have HN:Hid (Lib.nDigits n=1):=zHi (by rw [HLI.out.zero];exact Lib.nDigits_small (by decide));gi_wp2;all_goals (first|go_returns|go_ret|go_end0)
  exact⟨by rw [HN.out];rfl,Below.refl _ _⟩
 ·obtain⟨m,rfl⟩:∃m,k=m+1:=⟨k-1,by omega⟩;obtain⟨a,rfl,ha,hc⟩:=H1.out (by omega);have p:=hc m (by omega);have htl:limb n m<1000000000:=zaE n m;obtain⟨l,hlm⟩:∃l,limb n m=l:=⟨_,rfl⟩;rw [hlm]at p htl;have HLm:=zHi hlm;have hk0:((m+1:Nat):Int)=(m:Int)+1:=by omega
  clear hc hlm H1 ha h0;gi_wp2;gi_loopw [3,4] (fun x3 x4 wr=>∃(c v:Nat),x3 = .int .i64 ((9*m+c:Nat):Int)∧x4 = .int .i64 (v:Int)∧Hid (l/10^c=v)∧v<1000000000∧Hid (c=0∨10^(c-1)≤l)∧c≤20∧Hid (Below w.heap.size w wr)) (fun _ v _=>(intOf v).toNat)
  case atStart=>exact⟨0,l,by go_num,rfl,zHi (by simp),htl,zHi (.inl rfl),by omega,Below.refl _ w⟩
  case round=>
   obtain⟨c,v,rfl,rfl,HV,hv,HC,hc,HB⟩:=hrel;by_cases hv0:0<v
   ·have hcl:Hid (10^c≤l):=zHi (by
     apply Classical.byContradiction
     intro hno;have:=Nat.div_eq_of_lt (show l<10^c by omega);rw [HV.out]at this;omega)
    have hc9:c<9:=by
     apply Classical.byContradiction
     intro hno;have h1:10^9≤10^c:=Nat.pow_le_pow_right (by decide) (by omega);have:=hcl.out;omega
    gi_wp2;refine⟨⟨c+1,v/10,by go_num,by go_num,?_,by omega,zHi (.inr hcl.out),by omega,HB⟩,by simp only [intOf];omega⟩;rw [Nat.pow_succ,←Nat.div_div_eq_div_mul,HV.out];rfl
   ·have hv00:v=0:=by omega
    subst hv00;gi_wp2;all_goals (first|go_returns|go_ret|go_end0)
    refine⟨?_,HB.out⟩;rw [zkx (c:=c) HLI.out (by rw [HLm.out];exact HV.out) (by rw [HLm.out];exact HC.out)];rfl
def zbS(q:Rat)(d:Nat):Bool:=decide (Lib.nDigits q.num.natAbs≤d) && decide (Lib.nDigits q.den≤d)
theorem zgV(w:World)(v:Value)(q:Rat)(d:Nat)(h:QAt w v q) :
  CallsIn Fence.wide 0 Tryz.prog 33 #[v,.int .i64 (d:Int)] w fun e w'=>e = .returned (.bool (zbS q d))∧Below w.heap.size w w':=by
 obtain⟨m1,m2,rfl,h1,h2⟩:=h;have HN:=zHi h1;have HD:=zHi h2;obtain⟨o1,k1,c1,rfl,_,_⟩:=za7 h1;obtain⟨o2,k2,c2,rfl,_,_⟩:=za7 h2;obtain⟨sg,hsg⟩:∃sg,decide (q.num<0)=sg:=⟨_,rfl⟩;rw [hsg];clear h1 h2 hsg;refine callsIn_of_wp Tryz.func33 rfl trivial ?_ rfl;simp only [Tryz.ntmps33,ztE,ztF,ztG,Nat.reduceAdd,Nat.reduceSub,ztH,ztI,ztJ,ztK,ztL,ztM];gi_wp2_with (gi_at_call 89;refine stop ?_)
 unfold Stop;obtain⟨W,hW⟩:∃W,W=w.alloc (Obj.cells #[Value.bool sg,Value.slice o1 k1 c1,Value.bool false,Value.slice o2 k2 c2] 34):=⟨_,rfl⟩;rw [←hW];have HBW:Hid (Below w.heap.size w W):=zHi (by rw [hW];exact zaa _ _);have x3:W.cell? ⟨w.heap.size,3,none⟩=some (.slice o2 k2 c2):=by rw [hW,World.cell?_alloc_new];rfl
 clear hW;refine(zlC W _ _ (HN.out.below HBW.out)).mono ?_;rintro e w2 ⟨rfl,hB⟩;replace x3:=(hB.cell (World.block_lt_of_cell? _ _ x3)).trans x3;replace HBW:=zHi (HBW.out.trans (hB.mono HBW.out.size));obtain⟨a,ha⟩:∃a,Lib.nDigits q.num.natAbs=a:=⟨_,rfl⟩;have HA:=zHi ha;rw [ha];clear hB ha;by_cases had:a≤d
 ·have had':decide ((a:Int)≤(d:Int))=true:=decide_eq_true (by omega);have HAD:Hid (decide (a≤d)=true):=zHi (decide_eq_true had);gi_wp2_with (gi_at_call 89;refine stop ?_)
  unfold Stop;refine(zlC w2 _ _ (HD.out.below HBW.out)).mono ?_;rintro e w3 ⟨rfl,hB⟩;replace HBW:=zHi (HBW.out.trans (hB.mono HBW.out.size));obtain⟨b,hb⟩:∃b,Lib.nDigits q.den=b:=⟨_,rfl⟩;have HB:=zHi hb;rw [hb];clear hB hb;gi_wp2;all_goals (first|go_returns|go_ret|go_end0)
  refine⟨?_,HBW.out⟩;unfold zbS;rw [HA.out,HB.out,HAD.out,Bool.true_and];rfl
 ·have had':decide ((a:Int)≤(d:Int))=false:=decide_eq_false (by omega);have HAD:Hid (decide (a≤d)=false):=zHi (decide_eq_false had);gi_wp2_with (exfalso;exact zae (by assumption))
  all_goals (first|go_returns|go_ret|go_end0)
  refine⟨?_,HBW.out⟩;unfold zbS;rw [HA.out,HAD.out,Bool.false_and];rfl
end Go.Num
