/-
  Products and quotients of fractions. Signs, opposites, whole fractions and comparison. Sums, products and quotients of fractions. Tables of 
  Conditions: see each statement.
-/
import Derived.Test.YtoamcgjbelhnkaaGreatDoorPAA
import Derived.Test.YtoamcgjbelhnkaaGreatDoorPAI
import Derived.Test.YtoamcgjbelhnkaaGreatDoorPAJ
import Derived.Test.YtoamcgjbelhnkaaGreatDoorPAF
import Derived.Lib.ItoaNum
set_option maxRecDepth 100000
set_option maxHeartbeats 8000000
namespace Go.Num
open Go.RowKit Go.Proofs Go.Proofs.YtoamcgjbelhnkaaGreatDoor Go.Eng
theorem zaz:Tryz.prog.follows .mixedOrders=true:=by kernel_rfl
theorem zai:zbr Tryz.prog:=zo1 (by kernel_rfl)
theorem zfc{P:Program}{s:TypeId}{f off:Nat}(h:(match P.underlying s with|some (.struct fs)=>(match fs[f]? with|some fd=>Nat.beq fd.offset off && (match P.info? fd.type with|some i => !Nat.beq i.size 0|none=>false)|none=>false)|_=>false)=true):zfI P s f off:=by
 split at h
 ·rename_i fs hu;split at h
  ·rename_i fd hf;rw [Bool.and_eq_true]at h;refine zpc hu hf (Nat.eq_of_beq_eq_true h.1) ?_;have h2:=h.2;split at h2
   ·rename_i i hi;rw [hi];simp at h2 ⊢
    intro e;rw [e]at h2
    cases h2
   ·cases h2
  ·cases h
 ·cases h
theorem zi5:zfI Tryz.prog 25 0 0:=zfc (by kernel_rfl)
theorem zi4:zfI Tryz.prog 25 1 1:=zfc (by kernel_rfl)
theorem l4:zcB Tryz.prog 4:=zbP (by kernel_rfl)
theorem l23:zcB Tryz.prog 23:=zbP (by kernel_rfl)
theorem l25:zfH Tryz.prog 25 3:=zgC (by kernel_rfl) (by kernel_rfl)
theorem ub4:Tryz.prog.underlying 4=some .bool:=by kernel_rfl
def Box3(w:World)(g:Nat)(x y z:Value):Prop:=∀j v,[x,y,z][j]? = some v→w.cell? ⟨g,j,none⟩=some v
theorem Box3.c0{w:World}{g:Nat}{x y z:Value}(h:Box3 w g x y z):w.cell? ⟨g,0,none⟩=some x:=h 0 x rfl
theorem Box3.c1{w:World}{g:Nat}{x y z:Value}(h:Box3 w g x y z):w.cell? ⟨g,1,none⟩=some y:=h 1 y rfl
theorem Box3.c2{w:World}{g:Nat}{x y z:Value}(h:Box3 w g x y z):w.cell? ⟨g,2,none⟩=some z:=h 2 z rfl
theorem Box3.lt{w:World}{g:Nat}{x y z:Value}(h:Box3 w g x y z):g<w.heap.size:=World.block_lt_of_cell? _ _ h.c0
theorem Box3.below{w w':World}{g:Nat}{x y z:Value}(h:Box3 w g x y z)(hb:Below w.heap.size w w'):Box3 w' g x y z:=fun j v hj=>(hb.cell (p:=⟨g,j,none⟩) h.lt).trans (h j v hj)
theorem zbC(w:World)(x y z:Value)(t:TypeId):Box3 (w.alloc (.cells #[x,y,z] t)) w.heap.size x y z:=fun j v hj=>by
 rw [World.cell?_alloc_new,←hj];simp
theorem zat.setElem{w:World}{v u:Value}{x g i:Nat}{e:TypeId}(h:zat w v x)(hE:Elem w g e)(he:e≠111):zat (w.setCell ⟨g,i,none⟩ u) v x:=by
 refine h.setCell' ?_ u;obtain⟨k,hk,hl⟩:=h;rcases hl with⟨rfl,_⟩|⟨a,cap,rfl,h2,h3,h4,h5,h6⟩
 ·exact .inl hk.zero
 ·refine .inr fun q => ?_
  have:a.block=g:=by simpa [Value.ownBlock]using q
  exact(h5.ne hE (fun q=>he q.symm)) this
theorem zao.setElem{w:World}{v u:Value}{q:Rat}{g i:Nat}{e:TypeId}(h:zao w v q)(hE:Elem w g e)(he:e≠111):zao (w.setCell ⟨g,i,none⟩ u) v q:=by
 obtain⟨vn,vd,h1,h2,h3⟩:=h;exact⟨vn,vd,h1,h2.setElem hE he,h3.setElem hE he⟩
theorem zao.form{w:World}{v:Value}{q:Rat}(h:zao w v q):∃o k c o2 k2 c2,v = .agg #[.bool (decide (q.num<0)),.slice o k c,.slice o2 k2 c2]:=by
 obtain⟨vn,vd,h1,h2,h3⟩:=h;obtain⟨o,k,c,rfl,_,_⟩:=zaM h2;obtain⟨o2,k2,c2,rfl,_,_⟩:=zaM h3;exact⟨o,k,c,o2,k2,c2,h1⟩
def set3(w:World)(g:Nat)(x y z:Value):World:=((w.setCell ⟨g,0,none⟩ x).setCell ⟨g,1,none⟩ y).setCell ⟨g,2,none⟩ z
theorem zbE{w:World}{g:Nat}{x y z:Value}{f:Nat→Value}(h:zaf w g 3 f)(hx:x.oneCell'=true)(hy:y.oneCell'=true)(hz:z.oneCell'=true) :
  (Instr.storeAt 25 (.pointer (some ⟨g,0,none⟩)) (.agg #[x,y,z])).run Tryz.prog w = .ok () (set3 w g x y z):=by
 have hst:=run_storeCells_cells (P:=Tryz.prog) g 0 [x,y,z] 0 w (fun j hj=>by
   have:=(h j (by simpa using hj)).1;simp only [Nat.zero_add,Nat.add_zero];rw [this];rfl) (fun j hj=>by
   have:=(h j (by simpa using hj)).2;simp only [Nat.zero_add,Nat.add_zero];exact this) (fun u hu=>by
   simp at hu
   rcases hu with rfl|rfl|rfl <;> assumption)
 obtain⟨inf,hi,hs⟩:∃inf,Tryz.prog.info? 25=some inf∧inf.size=3:=by
  have h:=i25
  cases e:Tryz.prog.info? 25 with
  | none=>rw [e]at h;cases h
  | some inf=>rw [e]at h;exact⟨inf,rfl,by simpa using h⟩
 simp [Instr.storeAt,Instr.sureAddr,storeVar,sizeOf,typeInfo,hi,hs,Value.cells]
 exact hst
structure zdj(w W:World)(g:Nat)(x0 x1 x2 y0 y1 y2:Value):Prop where
 bx:Box3 W g x0 x1 x2
 by':Box3 W (g+1) y0 y1 y2
 res:∃f,zaf W (g+1+1) 3 f
 el:Elem W (g+1+1) 25
 below:Below w.heap.size w W
 le:w.heap.size≤g
theorem zdj.lt{w W:World}{g:Nat}{x0 x1 x2 y0 y1 y2:Value}(h:zdj w W g x0 x1 x2 y0 y1 y2):g+1+1<W.heap.size:=by
 obtain⟨f,hf⟩:=h.res;exact hf.lt (by omega)
theorem zdj.step{w W W':World}{g:Nat}{x0 x1 x2 y0 y1 y2:Value}(h:zdj w W g x0 x1 x2 y0 y1 y2)(hb:Below W.heap.size W W'):zdj w W' g x0 x1 x2 y0 y1 y2:=by
 obtain⟨f,hf⟩:=h.res;exact⟨h.bx.below hb,h.by'.below hb,⟨f,hf.below (hf.lt (by omega)) hb⟩,h.el.below hb h.el.lt,h.below.trans (hb.mono h.below.size),h.le⟩
theorem zdc(w:World)(x0 x1 x2 y0 y1 y2 z0 z1 z2:Value)(t:TypeId):zdj w (((w.alloc (.cells #[x0,x1,x2] t)).alloc (.cells #[y0,y1,y2] t)).alloc (.cells #[z0,z1,z2] 25)) w.heap.size x0 x1 x2 y0 y1 y2:=by
 have h1:=zbC w x0 x1 x2 t;have h2:=zbC (w.alloc (.cells #[x0,x1,x2] t)) y0 y1 y2 t;have e1:(w.alloc (.cells #[x0,x1,x2] t)).heap.size=w.heap.size+1:=by simp
 have e2:((w.alloc (.cells #[x0,x1,x2] t)).alloc (.cells #[y0,y1,y2] t)).heap.size=w.heap.size+1+1:=by simp
 rw [e1]at h2;refine⟨(h1.below (zaa _ _)).below (zaa _ _),h2.below (zaa _ _),⟨fun i => [z0,z1,z2].getD i z0,?_⟩,by rw [←e2];exact zaA _ _ _,?_,Nat.le_refl _⟩
 ·rw [←e2];exact zaf.new _ _ _ fun i hi=>by
   have:i=0∨i=1∨i=2:=by omega
   rcases this with rfl|rfl|rfl <;> rfl
 ·exact(((zaa w _).alloc (by simp) _).alloc (by simp;omega) _)
theorem zab(W:World):Below W.heap.size W W.drew:=⟨rfl,rfl,rfl,Nat.le_refl _,fun _ _=>rfl⟩
theorem zp4(p q:Rat):p+q=(if decide (p.num<0)=decide (q.num<0)then frac (decide (p.num<0)) (p.num.natAbs*q.den+q.num.natAbs*p.den) (p.den*q.den)
  else if q.num.natAbs*p.den≤p.num.natAbs*q.den then frac (decide (p.num<0)) (p.num.natAbs*q.den-q.num.natAbs*p.den) (p.den*q.den)else frac (decide (q.num<0)) (q.num.natAbs*p.den-p.num.natAbs*q.den) (p.den*q.den)):=by
 rw [←zrQ p.den_nz q.den_nz,zcL,zcL]
theorem ztn{x y:Nat}{r:Int}(h:zrb x y r)(hg:y≤x):0≤r:=by
 apply Classical.byContradiction
 intro hno;have:=h.1.1 (by omega);omega
theorem zpL{x y L:Nat}(hx:x<B^L)(hy:y<B^L):x+y<B^(L+1):=by
 rw [Nat.pow_succ];have:B^L*2≤B^L*B:=Nat.mul_le_mul_left _ (by decide);omega
theorem zcH{a:Act}{w w':World}{x y:Operand}{g:Nat}{v:Value}{d:Option Tmp}{ty:TypeId}{ps:String}{af:Array Edge}{gd:Option (Nat × Bool)}(hx:a.eval x = .pointer (some ⟨g,0,none⟩))(hy:a.eval y=v)
  (h:(Instr.storeAt 25 (.pointer (some ⟨g,0,none⟩)) v).run Tryz.prog w = .ok () w'):(execOp a.eval {op:=.store 25 x y,dst:=d,type:=ty,pos:=ps,after:=af,guard:=gd}).run Tryz.prog w = .ok .skip w':=by
 simp [execOp,hx,hy,h]
theorem zju(w:World)(va vb:Value)(p q:Rat)(L:Nat)(ha:zao w va p)(hb:zao w vb q)(hp:zar p L)(hq:zar q L)(hL:L≤1000000) :
  CallsIn Fence.wide 0 Tryz.prog 93 #[va,vb] w fun e w'=>∃v',e = .returned v'∧zao w' v' (p+q)∧Below w.heap.size w w':=by
 have HA:=zHi ha;have HB:=zHi hb;have HP:=zHi hp;have HQ:=zHi hq;obtain⟨an,ad,rfl,han,had⟩:=ha;obtain⟨bn,bd,rfl,hbn,hbd⟩:=hb;have HAN:=zHi han;have HBN:=zHi hbn;obtain⟨na,hna⟩:∃na,decide (p.num<0)=na:=⟨_,rfl⟩;obtain⟨nb,hnb⟩:∃nb,decide (q.num<0)=nb:=⟨_,rfl⟩;rw [hna]at HA;rw [hnb]at HB;rw [hna,hnb];have HNA:=zHi hna;have HNB:=zHi hnb;clear han had hbn hbd hna hnb hp hq;refine callsIn_of_wp Tryz.func93 rfl trivial ?_ rfl;simp only [Tryz.ntmps93,ztE,ztF,ztG,Nat.reduceAdd,Nat.reduceSub,ztH,ztI,ztJ,ztK,ztL,ztM];gi_wp2;obtain⟨W,hW⟩:∃W,W=((w.alloc (Obj.cells #[Value.bool na,an,ad] 25)).alloc (Obj.cells #[Value.bool nb,bn,bd] 25)).alloc (Obj.cells #[Value.bool false,Value.slice none 0 0,Value.slice none 0 0] 25):=⟨_,rfl⟩;rw [←hW];have HK:Hid (zdj w W.drew w.heap.size (.bool na) an ad (.bool nb) bn bd):=by
  rw [hW];exact(zdc w _ _ _ _ _ _ _ _ _ _).step (zab _)
 obtain⟨g,hg⟩:∃g,w.heap.size=g:=⟨_,rfl⟩;rw [hg]at HK;rw [hg];clear hW;refine zas (ro:=none) [3,4,8,9] [0,1,2,5,6,7,3,4,8,9,10,11] [0,1,0,4,15,0,32,0,159,511,1023,2047] zaz 57 rfl (by kernel_rfl) (by kernel_rfl) ?_;refine OW.fieldAddr rfl rfl zi4 rfl ?_;simp only [Go.Act.put,ztN,ztO,ztP];refine OW.load rfl rfl l23 HK.out.bx.c1 rfl ?_;simp only [Go.Act.put,ztN,ztO,ztP];refine OW.loadAll rfl rfl l25 (cs:=[.bool nb,bn,bd]) rfl (by decide) HK.out.by' rfl ?_;simp only [Go.Act.put,ztN,ztO,ztP];refine OW.fieldAddr rfl rfl zi4 rfl ?_;simp only [Go.Act.put,ztN,ztO,ztP];refine OW.load rfl rfl l23 HK.out.by'.c1 rfl ?_;simp only [Go.Act.put,ztN,ztO,ztP];refine OW.loadAll rfl rfl l25 (cs:=[.bool na,an,ad]) rfl (by decide) HK.out.bx rfl ?_;simp only [Go.Act.put,ztN,ztO,ztP];refine OW.call rfl rfl Tryz.func64 rfl zai (args:=[.agg #[.bool nb,bn,bd]]) rfl ?_;refine(za3 W.drew _ q (HB.out.below HK.out.below)).mono ?_;rintro e w1 ⟨v1,rfl,hm1,hB1⟩;refine⟨v1,rfl,hB1,?_⟩;simp only [Go.Act.put,ztN,ztO,ztP];have HK1:=zHi (HK.out.step hB1);have HM1:=zHi hm1;clear hm1 hB1 HK;refine OW.call rfl rfl Tryz.func118 rfl zai (args:=[an,v1]) rfl ?_;refine(zbI w1 an v1 p.num.natAbs q.den L (HAN.out.below HK1.out.below) HM1.out HP.out.1 HQ.out.2 (by omega)).mono ?_;rintro e w2 ⟨v2,rfl,⟨hm2,_⟩,hB2⟩;refine⟨v2,rfl,hB2,?_⟩;simp only [Go.Act.put,ztN,ztO,ztP];have HK2:=zHi (HK1.out.step hB2);have HM2:=zHi hm2;clear hm2 hB2 HK1 HM1;refine OW.call rfl rfl Tryz.func64 rfl zai (args:=[.agg #[.bool na,an,ad]]) rfl ?_;refine(za3 w2 _ p (HA.out.below HK2.out.below)).mono ?_;rintro e w3 ⟨v3,rfl,hm3,hB3⟩;refine⟨v3,rfl,hB3,?_⟩;simp only [Go.Act.put,ztN,ztO,ztP];have HK3:=zHi (HK2.out.step hB3);have HM23:=zHi (HM2.out.below hB3);have HM3:=zHi hm3;clear hm3 hB3 HK2 HM2;refine OW.call rfl rfl Tryz.func118 rfl zai (args:=[bn,v3]) rfl ?_;refine(zbI w3 bn v3 q.num.natAbs p.den L (HBN.out.below HK3.out.below) HM3.out HQ.out.1 HP.out.2 (by omega)).mono ?_;rintro e w4 ⟨v4,rfl,⟨hm4,_⟩,hB4⟩;refine⟨v4,rfl,hB4,?_⟩;simp only [Go.Act.put,ztN,ztO,ztP];have HK4:=zHi (HK3.out.step hB4);have HM24:=zHi (HM23.out.below hB4);have HM4:=zHi hm4;clear hm4 hB4 HK3 HM3 HM23;refine OW.assign rfl rfl v2 rfl ?_;simp only [Go.Act.put,ztN,ztO,ztP];refine OW.assign rfl rfl v4 rfl ?_;simp only [Go.Act.put,ztN,ztO,ztP];refine OW.done ?_;gi_wp2;refine zas (ro:=none) [1,3,4] [0,2,1,3,4,5] [0,1,0,7,15,31] zaz 57 rfl (by kernel_rfl) (by kernel_rfl) ?_;have HK5:=zHi (HK4.out.step (zab _));have HM25:=zHi (HM24.out.below (zab _));have HM5:=zHi (HM4.out.below (zab _));clear HK4 HM24 HM4;refine OW.loadAll rfl rfl l25 (cs:=[.bool na,an,ad]) rfl (by decide) HK5.out.bx rfl ?_;simp only [Go.Act.put,ztN,ztO,ztP];refine OW.loadAll rfl rfl l25 (cs:=[.bool nb,bn,bd]) rfl (by decide) HK5.out.by' rfl ?_;simp only [Go.Act.put,ztN,ztO,ztP];refine OW.call rfl rfl Tryz.func64 rfl zai (args:=[.agg #[.bool na,an,ad]]) rfl ?_;refine(za3 w4.drew _ p (HA.out.below HK5.out.below)).mono ?_;rintro e w6 ⟨v6,rfl,hm6,hB6⟩;refine⟨v6,rfl,hB6,?_⟩;simp only [Go.Act.put,ztN,ztO,ztP];have HK6:=zHi (HK5.out.step hB6);have HM26:=zHi (HM25.out.below hB6);have HM46:=zHi (HM5.out.below hB6);have HM6:=zHi hm6;clear hm6 hB6 HK5 HM25 HM5;refine OW.call rfl rfl Tryz.func64 rfl zai (args:=[.agg #[.bool nb,bn,bd]]) rfl ?_;refine(za3 w6 _ q (HB.out.below HK6.out.below)).mono ?_;rintro e w7 ⟨v7,rfl,hm7,hB7⟩;refine⟨v7,rfl,hB7,?_⟩;simp only [Go.Act.put,ztN,ztO,ztP];have HK7:=zHi (HK6.out.step hB7);have HM27:=zHi (HM26.out.below hB7);have HM47:=zHi (HM46.out.below hB7);have HM67:=zHi (HM6.out.below hB7);have HM7:=zHi hm7;clear hm7 hB7 HK6 HM26 HM46 HM6;refine OW.call rfl rfl Tryz.func118 rfl zai (args:=[v6,v7]) rfl ?_;refine(zbI w7 v6 v7 p.den q.den L HM67.out HM7.out HP.out.2 HQ.out.2 (by omega)).mono ?_;rintro e w8 ⟨v8,rfl,⟨hm8,_⟩,hB8⟩;refine⟨v8,rfl,hB8,?_⟩;simp only [Go.Act.put,ztN,ztO,ztP];have HK8:=zHi (HK7.out.step hB8);have HM28:=zHi (HM27.out.below hB8);have HM48:=zHi (HM47.out.below hB8);have HM8:=zHi hm8;clear hm8 hB8 HK7 HM27 HM47 HM67 HM7;refine OW.assign rfl rfl v8 rfl ?_;simp only [Go.Act.put,ztN,ztO,ztP];refine OW.done ?_;have hS:=zp4 p q;rw [HNA.out,HNB.out]at hS;have h1L:p.num.natAbs*q.den<B^(L+L):=zaO HP.out.1 HQ.out.2;have h2L:q.num.natAbs*p.den<B^(L+L):=zaO HQ.out.1 HP.out.2;have h3L:p.den*q.den<B^(L+L):=zaO HP.out.2 HQ.out.2;have h30:p.den*q.den≠0:=Nat.mul_ne_zero p.den_nz q.den_nz;obtain⟨x,hx⟩:∃x,p.num.natAbs*q.den=x:=⟨_,rfl⟩;obtain⟨y,hy⟩:∃y,q.num.natAbs*p.den=y:=⟨_,rfl⟩;obtain⟨D,hD⟩:∃D,p.den*q.den=D:=⟨_,rfl⟩;rw [hx,hy,hD]at hS;rw [hx]at h1L HM28;rw [hy]at h2L HM48;rw [hD]at h3L h30 HM8;have HS:=zHi hS;have H1L:=zHi h1L;have H2L:=zHi h2L;have H3L:=zHi h3L;clear hx hy hD hS h1L h2L h3L HA HB HAN HBN HP HQ HNA HNB;gi_wp2_with (gi_at_call 130;refine stop ?_)
 unfold Stop;refine(zdR w8 v2 v4 x y HM28.out HM48.out).mono ?_;rintro e w9 ⟨r,hr,rfl,hB9⟩;have HK9:=zHi (HK8.out.step hB9);have HM29:=zHi (HM28.out.below hB9);have HM49:=zHi (HM48.out.below hB9);have HM89:=zHi (HM8.out.below hB9);have HR:=zHi hr;have ca:=HK9.out.bx.c0;have cb:=HK9.out.by'.c0;clear hB9 hr HK8 HM28 HM48 HM8;by_cases hab:na=nb
 ·have HSum:=HS.out;rw [if_pos hab]at HSum;subst hab;obtain⟨ng,hng⟩:∃ng,ng=na:=⟨_,rfl⟩
  cases na
  ·gi_wp2;refine zas (ro:=none) [4,6,7] [0,1,2,3,5,4,6,7] [0,1,0,0,12,0,63,127] zaz 57 rfl (by kernel_rfl) (by kernel_rfl) ?_;have HKa:=zHi (HK9.out.step (zab _));have HM2a:=zHi (HM29.out.below (zab _));have HM4a:=zHi (HM49.out.below (zab _));have HM8a:=zHi (HM89.out.below (zab _));clear HK9 HM29 HM49 HM89 ca cb;refine OW.fieldAddr rfl rfl zi5 rfl ?_;simp only [Go.Act.put,ztN,ztO,ztP];refine OW.load rfl rfl l4 HKa.out.bx.c0 rfl ?_;simp only [Go.Act.put,ztN,ztO,ztP];refine OW.move rfl rfl v2 rfl ?_;simp only [Go.Act.put,ztN,ztO,ztP];refine OW.move rfl rfl v4 rfl ?_;simp only [Go.Act.put,ztN,ztO,ztP];refine OW.move rfl rfl v8 rfl ?_;simp only [Go.Act.put,ztN,ztO,ztP];refine OW.call rfl rfl Tryz.func131 rfl zai (args:=[v2,v4]) rfl ?_;refine(zl7 w9.drew v2 v4 x y (L+L) HM2a.out HM4a.out H1L.out H2L.out (by omega)).mono ?_;rintro e w10 ⟨v10,rfl,⟨hm10,_⟩,hB10⟩;refine⟨v10,rfl,hB10,?_⟩;simp only [Go.Act.put,ztN,ztO,ztP];have HKb:=zHi (HKa.out.step hB10);have HM8b:=zHi (HM8a.out.below hB10);have HM10:=zHi hm10;clear hm10 hB10 HKa HM2a HM4a HM8a;refine OW.call rfl rfl Tryz.func117 rfl zai (args:=[.bool false,v10,v8]) rfl ?_;refine(zbp w10 false v10 v8 (x+y) D (L+L+1) HM10.out HM8b.out h30 ?_ ?_ (by omega)).mono ?_
   ·exact zpL H1L.out H2L.out
   ·exact Nat.lt_of_lt_of_le H3L.out (zag (by omega))
   rintro e w11 ⟨v11,rfl,hm11,hB11⟩;refine⟨v11,rfl,hB11,?_⟩;simp only [Go.Act.put,ztN,ztO,ztP];have HKc:=zHi (HKb.out.step hB11);obtain⟨o,k,c,o2,k2,c2,rfl⟩:=hm11.form;have HR11:=zHi hm11;obtain⟨f,hf⟩:=HKc.out.res;have hst:=zbE hf (x:=.bool (decide ((frac false (x+y) D).num<0))) (y:=.slice o k c) (z:=.slice o2 k2 c2) rfl rfl rfl;clear hm11 hB11 HKb HM8b HM10;refine OW.store (w':=set3 w11 (g+1+1) (.bool (decide ((frac false (x+y) D).num<0))) (.slice o k c) (.slice o2 k2 c2)) rfl rfl (by decide) (zcH rfl rfl hst) ?_;simp only [Go.Act.put];refine OW.done ?_;gi_wp2;refine zbk rfl rfl (g+1+1) rfl (hf 0 (by omega)).1 (hf 1 (by omega)).1 (hf 2 (by omega)).1 ?_;refine⟨_,rfl,?_,?_⟩
   ·rw [HSum];exact((HR11.out.setElem HKc.out.el (by decide)).setElem (HKc.out.el.setCell _ _) (by decide)).setElem ((HKc.out.el.setCell _ _).setCell _ _) (by decide)
   ·have hle:=HKc.out.le;exact((HKc.out.below.setCell (by show w.heap.size≤g+1+1;omega) _).setCell (by show w.heap.size≤g+1+1;omega) _).setCell (by show w.heap.size≤g+1+1;omega) _
  ·gi_wp2;refine zas (ro:=none) [4,6,7] [0,1,2,3,5,4,6,7] [0,1,0,0,12,0,63,127] zaz 57 rfl (by kernel_rfl) (by kernel_rfl) ?_;have HKa:=zHi (HK9.out.step (zab _));have HM2a:=zHi (HM29.out.below (zab _));have HM4a:=zHi (HM49.out.below (zab _));have HM8a:=zHi (HM89.out.below (zab _));clear HK9 HM29 HM49 HM89 ca cb;refine OW.fieldAddr rfl rfl zi5 rfl ?_;simp only [Go.Act.put,ztN,ztO,ztP];refine OW.load rfl rfl l4 HKa.out.bx.c0 rfl ?_;simp only [Go.Act.put,ztN,ztO,ztP];refine OW.move rfl rfl v2 rfl ?_;simp only [Go.Act.put,ztN,ztO,ztP];refine OW.move rfl rfl v4 rfl ?_;simp only [Go.Act.put,ztN,ztO,ztP];refine OW.move rfl rfl v8 rfl ?_;simp only [Go.Act.put,ztN,ztO,ztP];refine OW.call rfl rfl Tryz.func131 rfl zai (args:=[v2,v4]) rfl ?_;refine(zl7 w9.drew v2 v4 x y (L+L) HM2a.out HM4a.out H1L.out H2L.out (by omega)).mono ?_;rintro e w10 ⟨v10,rfl,⟨hm10,_⟩,hB10⟩;refine⟨v10,rfl,hB10,?_⟩;simp only [Go.Act.put,ztN,ztO,ztP];have HKb:=zHi (HKa.out.step hB10);have HM8b:=zHi (HM8a.out.below hB10);have HM10:=zHi hm10;clear hm10 hB10 HKa HM2a HM4a HM8a;refine OW.call rfl rfl Tryz.func117 rfl zai (args:=[.bool true,v10,v8]) rfl ?_;refine(zbp w10 true v10 v8 (x+y) D (L+L+1) HM10.out HM8b.out h30 ?_ ?_ (by omega)).mono ?_
   ·exact zpL H1L.out H2L.out
   ·exact Nat.lt_of_lt_of_le H3L.out (zag (by omega))
   rintro e w11 ⟨v11,rfl,hm11,hB11⟩;refine⟨v11,rfl,hB11,?_⟩;simp only [Go.Act.put,ztN,ztO,ztP];have HKc:=zHi (HKb.out.step hB11);obtain⟨o,k,c,o2,k2,c2,rfl⟩:=hm11.form;have HR11:=zHi hm11;obtain⟨f,hf⟩:=HKc.out.res;have hst:=zbE hf (x:=.bool (decide ((frac true (x+y) D).num<0))) (y:=.slice o k c) (z:=.slice o2 k2 c2) rfl rfl rfl;clear hm11 hB11 HKb HM8b HM10;refine OW.store (w':=set3 w11 (g+1+1) (.bool (decide ((frac true (x+y) D).num<0))) (.slice o k c) (.slice o2 k2 c2)) rfl rfl (by decide) (zcH rfl rfl hst) ?_;simp only [Go.Act.put];refine OW.done ?_;gi_wp2;refine zbk rfl rfl (g+1+1) rfl (hf 0 (by omega)).1 (hf 1 (by omega)).1 (hf 2 (by omega)).1 ?_;refine⟨_,rfl,?_,?_⟩
   ·rw [HSum];exact((HR11.out.setElem HKc.out.el (by decide)).setElem (HKc.out.el.setCell _ _) (by decide)).setElem ((HKc.out.el.setCell _ _).setCell _ _) (by decide)
   ·have hle:=HKc.out.le;exact((HKc.out.below.setCell (by show w.heap.size≤g+1+1;omega) _).setCell (by show w.heap.size≤g+1+1;omega) _).setCell (by show w.heap.size≤g+1+1;omega) _
 ·have HSum:=HS.out;rw [if_neg hab]at HSum;by_cases hyx:y≤x
  ·rw [if_pos hyx]at HSum;have hr0:0≤r:=ztn HR.out hyx
   cases na <;> cases nb
   ·exact absurd rfl hab
   ·gi_wp2;refine zas (ro:=none) [4,6,7] [0,1,2,3,5,4,6,7] [0,1,0,0,12,0,63,127] zaz 57 rfl (by kernel_rfl) (by kernel_rfl) ?_;have HKa:=zHi (HK9.out.step (zab _));have HM2a:=zHi (HM29.out.below (zab _));have HM4a:=zHi (HM49.out.below (zab _));have HM8a:=zHi (HM89.out.below (zab _));clear HK9 HM29 HM49 HM89 ca cb;refine OW.fieldAddr rfl rfl zi5 rfl ?_;simp only [Go.Act.put,ztN,ztO,ztP];refine OW.load rfl rfl l4 HKa.out.bx.c0 rfl ?_;simp only [Go.Act.put,ztN,ztO,ztP];refine OW.move rfl rfl v2 rfl ?_;simp only [Go.Act.put,ztN,ztO,ztP];refine OW.move rfl rfl v4 rfl ?_;simp only [Go.Act.put,ztN,ztO,ztP];refine OW.move rfl rfl v8 rfl ?_;simp only [Go.Act.put,ztN,ztO,ztP];refine OW.call rfl rfl Tryz.func132 rfl zai (args:=[v2,v4]) rfl ?_;refine(zcG w9.drew v2 v4 x y (L+L) HM2a.out HM4a.out hyx H1L.out (by omega)).mono ?_;rintro e w10 ⟨v10,rfl,⟨hm10,_⟩,hB10⟩;refine⟨v10,rfl,hB10,?_⟩;simp only [Go.Act.put,ztN,ztO,ztP];have HKb:=zHi (HKa.out.step hB10);have HM8b:=zHi (HM8a.out.below hB10);have HM10:=zHi hm10;clear hm10 hB10 HKa HM2a HM4a HM8a;refine OW.call rfl rfl Tryz.func117 rfl zai (args:=[.bool false,v10,v8]) rfl ?_;refine(zbp w10 false v10 v8 (x-y) D (L+L+1) HM10.out HM8b.out h30 ?_ ?_ (by omega)).mono ?_
    ·exact Nat.lt_of_le_of_lt (Nat.sub_le _ _) (Nat.lt_of_lt_of_le H1L.out (zag (by omega)))
    ·exact Nat.lt_of_lt_of_le H3L.out (zag (by omega))
    rintro e w11 ⟨v11,rfl,hm11,hB11⟩;refine⟨v11,rfl,hB11,?_⟩;simp only [Go.Act.put,ztN,ztO,ztP];have HKc:=zHi (HKb.out.step hB11);obtain⟨o,k,c,o2,k2,c2,rfl⟩:=hm11.form;have HR11:=zHi hm11;obtain⟨f,hf⟩:=HKc.out.res;have hst:=zbE hf (x:=.bool (decide ((frac false (x-y) D).num<0))) (y:=.slice o k c) (z:=.slice o2 k2 c2) rfl rfl rfl;clear hm11 hB11 HKb HM8b HM10;refine OW.store (w':=set3 w11 (g+1+1) (.bool (decide ((frac false (x-y) D).num<0))) (.slice o k c) (.slice o2 k2 c2)) rfl rfl (by decide) (zcH rfl rfl hst) ?_;simp only [Go.Act.put];refine OW.done ?_;gi_wp2;refine zbk rfl rfl (g+1+1) rfl (hf 0 (by omega)).1 (hf 1 (by omega)).1 (hf 2 (by omega)).1 ?_;refine⟨_,rfl,?_,?_⟩
    ·rw [HSum];exact((HR11.out.setElem HKc.out.el (by decide)).setElem (HKc.out.el.setCell _ _) (by decide)).setElem ((HKc.out.el.setCell _ _).setCell _ _) (by decide)
    ·have hle:=HKc.out.le;exact((HKc.out.below.setCell (by show w.heap.size≤g+1+1;omega) _).setCell (by show w.heap.size≤g+1+1;omega) _).setCell (by show w.heap.size≤g+1+1;omega) _
   ·gi_wp2;refine zas (ro:=none) [4,6,7] [0,1,2,3,5,4,6,7] [0,1,0,0,12,0,63,127] zaz 57 rfl (by kernel_rfl) (by kernel_rfl) ?_;have HKa:=zHi (HK9.out.step (zab _));have HM2a:=zHi (HM29.out.below (zab _));have HM4a:=zHi (HM49.out.below (zab _));have HM8a:=zHi (HM89.out.below (zab _));clear HK9 HM29 HM49 HM89 ca cb;refine OW.fieldAddr rfl rfl zi5 rfl ?_;simp only [Go.Act.put,ztN,ztO,ztP];refine OW.load rfl rfl l4 HKa.out.bx.c0 rfl ?_;simp only [Go.Act.put,ztN,ztO,ztP];refine OW.move rfl rfl v2 rfl ?_;simp only [Go.Act.put,ztN,ztO,ztP];refine OW.move rfl rfl v4 rfl ?_;simp only [Go.Act.put,ztN,ztO,ztP];refine OW.move rfl rfl v8 rfl ?_;simp only [Go.Act.put,ztN,ztO,ztP];refine OW.call rfl rfl Tryz.func132 rfl zai (args:=[v2,v4]) rfl ?_;refine(zcG w9.drew v2 v4 x y (L+L) HM2a.out HM4a.out hyx H1L.out (by omega)).mono ?_;rintro e w10 ⟨v10,rfl,⟨hm10,_⟩,hB10⟩;refine⟨v10,rfl,hB10,?_⟩;simp only [Go.Act.put,ztN,ztO,ztP];have HKb:=zHi (HKa.out.step hB10);have HM8b:=zHi (HM8a.out.below hB10);have HM10:=zHi hm10;clear hm10 hB10 HKa HM2a HM4a HM8a;refine OW.call rfl rfl Tryz.func117 rfl zai (args:=[.bool true,v10,v8]) rfl ?_;refine(zbp w10 true v10 v8 (x-y) D (L+L+1) HM10.out HM8b.out h30 ?_ ?_ (by omega)).mono ?_
    ·exact Nat.lt_of_le_of_lt (Nat.sub_le _ _) (Nat.lt_of_lt_of_le H1L.out (zag (by omega)))
    ·exact Nat.lt_of_lt_of_le H3L.out (zag (by omega))
    rintro e w11 ⟨v11,rfl,hm11,hB11⟩;refine⟨v11,rfl,hB11,?_⟩;simp only [Go.Act.put,ztN,ztO,ztP];have HKc:=zHi (HKb.out.step hB11);obtain⟨o,k,c,o2,k2,c2,rfl⟩:=hm11.form;have HR11:=zHi hm11;obtain⟨f,hf⟩:=HKc.out.res;have hst:=zbE hf (x:=.bool (decide ((frac true (x-y) D).num<0))) (y:=.slice o k c) (z:=.slice o2 k2 c2) rfl rfl rfl;clear hm11 hB11 HKb HM8b HM10;refine OW.store (w':=set3 w11 (g+1+1) (.bool (decide ((frac true (x-y) D).num<0))) (.slice o k c) (.slice o2 k2 c2)) rfl rfl (by decide) (zcH rfl rfl hst) ?_;simp only [Go.Act.put];refine OW.done ?_;gi_wp2;refine zbk rfl rfl (g+1+1) rfl (hf 0 (by omega)).1 (hf 1 (by omega)).1 (hf 2 (by omega)).1 ?_;refine⟨_,rfl,?_,?_⟩
    ·rw [HSum];exact((HR11.out.setElem HKc.out.el (by decide)).setElem (HKc.out.el.setCell _ _) (by decide)).setElem ((HKc.out.el.setCell _ _).setCell _ _) (by decide)
    ·have hle:=HKc.out.le;exact((HKc.out.below.setCell (by show w.heap.size≤g+1+1;omega) _).setCell (by show w.heap.size≤g+1+1;omega) _).setCell (by show w.heap.size≤g+1+1;omega) _
   ·exact absurd rfl hab
  ·rw [if_neg hyx]at HSum;have hr0:r<0:=HR.out.1.2 (by omega);have hr1:¬0≤r:=by omega
   cases na <;> cases nb
   ·exact absurd rfl hab
   ·gi_wp2;refine zas (ro:=none) [4,6,7] [0,1,2,3,5,4,6,7] [0,1,0,0,12,0,63,127] zaz 57 rfl (by kernel_rfl) (by kernel_rfl) ?_;have HKa:=zHi (HK9.out.step (zab _));have HM2a:=zHi (HM29.out.below (zab _));have HM4a:=zHi (HM49.out.below (zab _));have HM8a:=zHi (HM89.out.below (zab _));clear HK9 HM29 HM49 HM89 ca cb;refine OW.fieldAddr rfl rfl zi5 rfl ?_;simp only [Go.Act.put,ztN,ztO,ztP];refine OW.load rfl rfl l4 HKa.out.by'.c0 rfl ?_;simp only [Go.Act.put,ztN,ztO,ztP];refine OW.move rfl rfl v4 rfl ?_;simp only [Go.Act.put,ztN,ztO,ztP];refine OW.move rfl rfl v2 rfl ?_;simp only [Go.Act.put,ztN,ztO,ztP];refine OW.move rfl rfl v8 rfl ?_;simp only [Go.Act.put,ztN,ztO,ztP];refine OW.call rfl rfl Tryz.func132 rfl zai (args:=[v4,v2]) rfl ?_;refine(zcG w9.drew v4 v2 y x (L+L) HM4a.out HM2a.out (by omega) H2L.out (by omega)).mono ?_;rintro e w10 ⟨v10,rfl,⟨hm10,_⟩,hB10⟩;refine⟨v10,rfl,hB10,?_⟩;simp only [Go.Act.put,ztN,ztO,ztP];have HKb:=zHi (HKa.out.step hB10);have HM8b:=zHi (HM8a.out.below hB10);have HM10:=zHi hm10;clear hm10 hB10 HKa HM2a HM4a HM8a;refine OW.call rfl rfl Tryz.func117 rfl zai (args:=[.bool true,v10,v8]) rfl ?_;refine(zbp w10 true v10 v8 (y-x) D (L+L+1) HM10.out HM8b.out h30 ?_ ?_ (by omega)).mono ?_
    ·exact Nat.lt_of_le_of_lt (Nat.sub_le _ _) (Nat.lt_of_lt_of_le H2L.out (zag (by omega)))
    ·exact Nat.lt_of_lt_of_le H3L.out (zag (by omega))
    rintro e w11 ⟨v11,rfl,hm11,hB11⟩;refine⟨v11,rfl,hB11,?_⟩;simp only [Go.Act.put,ztN,ztO,ztP];have HKc:=zHi (HKb.out.step hB11);obtain⟨o,k,c,o2,k2,c2,rfl⟩:=hm11.form;have HR11:=zHi hm11;obtain⟨f,hf⟩:=HKc.out.res;have hst:=zbE hf (x:=.bool (decide ((frac true (y-x) D).num<0))) (y:=.slice o k c) (z:=.slice o2 k2 c2) rfl rfl rfl;clear hm11 hB11 HKb HM8b HM10;refine OW.store (w':=set3 w11 (g+1+1) (.bool (decide ((frac true (y-x) D).num<0))) (.slice o k c) (.slice o2 k2 c2)) rfl rfl (by decide) (zcH rfl rfl hst) ?_;simp only [Go.Act.put];refine OW.done ?_;gi_wp2;refine zbk rfl rfl (g+1+1) rfl (hf 0 (by omega)).1 (hf 1 (by omega)).1 (hf 2 (by omega)).1 ?_;refine⟨_,rfl,?_,?_⟩
    ·rw [HSum];exact((HR11.out.setElem HKc.out.el (by decide)).setElem (HKc.out.el.setCell _ _) (by decide)).setElem ((HKc.out.el.setCell _ _).setCell _ _) (by decide)
    ·have hle:=HKc.out.le;exact((HKc.out.below.setCell (by show w.heap.size≤g+1+1;omega) _).setCell (by show w.heap.size≤g+1+1;omega) _).setCell (by show w.heap.size≤g+1+1;omega) _
   ·gi_wp2;refine zas (ro:=none) [4,6,7] [0,1,2,3,5,4,6,7] [0,1,0,0,12,0,63,127] zaz 57 rfl (by kernel_rfl) (by kernel_rfl) ?_;have HKa:=zHi (HK9.out.step (zab _));have HM2a:=zHi (HM29.out.below (zab _));have HM4a:=zHi (HM49.out.below (zab _));have HM8a:=zHi (HM89.out.below (zab _));clear HK9 HM29 HM49 HM89 ca cb;refine OW.fieldAddr rfl rfl zi5 rfl ?_;simp only [Go.Act.put,ztN,ztO,ztP];refine OW.load rfl rfl l4 HKa.out.by'.c0 rfl ?_;simp only [Go.Act.put,ztN,ztO,ztP];refine OW.move rfl rfl v4 rfl ?_;simp only [Go.Act.put,ztN,ztO,ztP];refine OW.move rfl rfl v2 rfl ?_;simp only [Go.Act.put,ztN,ztO,ztP];refine OW.move rfl rfl v8 rfl ?_;simp only [Go.Act.put,ztN,ztO,ztP];refine OW.call rfl rfl Tryz.func132 rfl zai (args:=[v4,v2]) rfl ?_;refine(zcG w9.drew v4 v2 y x (L+L) HM4a.out HM2a.out (by omega) H2L.out (by omega)).mono ?_;rintro e w10 ⟨v10,rfl,⟨hm10,_⟩,hB10⟩;refine⟨v10,rfl,hB10,?_⟩;simp only [Go.Act.put,ztN,ztO,ztP];have HKb:=zHi (HKa.out.step hB10);have HM8b:=zHi (HM8a.out.below hB10);have HM10:=zHi hm10;clear hm10 hB10 HKa HM2a HM4a HM8a;refine OW.call rfl rfl Tryz.func117 rfl zai (args:=[.bool false,v10,v8]) rfl ?_;refine(zbp w10 false v10 v8 (y-x) D (L+L+1) HM10.out HM8b.out h30 ?_ ?_ (by omega)).mono ?_
    ·exact Nat.lt_of_le_of_lt (Nat.sub_le _ _) (Nat.lt_of_lt_of_le H2L.out (zag (by omega)))
    ·exact Nat.lt_of_lt_of_le H3L.out (zag (by omega))
    rintro e w11 ⟨v11,rfl,hm11,hB11⟩;refine⟨v11,rfl,hB11,?_⟩;simp only [Go.Act.put,ztN,ztO,ztP];have HKc:=zHi (HKb.out.step hB11);obtain⟨o,k,c,o2,k2,c2,rfl⟩:=hm11.form;have HR11:=zHi hm11;obtain⟨f,hf⟩:=HKc.out.res;have hst:=zbE hf (x:=.bool (decide ((frac false (y-x) D).num<0))) (y:=.slice o k c) (z:=.slice o2 k2 c2) rfl rfl rfl;clear hm11 hB11 HKb HM8b HM10;refine OW.store (w':=set3 w11 (g+1+1) (.bool (decide ((frac false (y-x) D).num<0))) (.slice o k c) (.slice o2 k2 c2)) rfl rfl (by decide) (zcH rfl rfl hst) ?_;simp only [Go.Act.put];refine OW.done ?_;gi_wp2;refine zbk rfl rfl (g+1+1) rfl (hf 0 (by omega)).1 (hf 1 (by omega)).1 (hf 2 (by omega)).1 ?_;refine⟨_,rfl,?_,?_⟩
    ·rw [HSum];exact((HR11.out.setElem HKc.out.el (by decide)).setElem (HKc.out.el.setCell _ _) (by decide)).setElem ((HKc.out.el.setCell _ _).setCell _ _) (by decide)
    ·have hle:=HKc.out.le;exact((HKc.out.below.setCell (by show w.heap.size≤g+1+1;omega) _).setCell (by show w.heap.size≤g+1+1;omega) _).setCell (by show w.heap.size≤g+1+1;omega) _
   ·exact absurd rfl hab
theorem znM(p q:Rat):p*q=frac (decide (p.num<0) != decide (q.num<0)) (p.num.natAbs*q.num.natAbs) (p.den*q.den):=by
 rw [←zjI,zcL,zcL]
theorem znL(p q:Rat):p/q=frac (decide (p.num<0) != decide (q.num<0)) (p.num.natAbs*q.den) (p.den*q.num.natAbs):=by
 rw [←zlN,zcL,zcL]
theorem zfm(w:World)(va vb:Value)(p q:Rat)(L:Nat)(ha:zao w va p)(hb:zao w vb q)(hp:zar p L)(hq:zar q L)(hL:L≤1000000) :
  CallsIn Fence.wide 0 Tryz.prog 94 #[va,vb] w fun e w'=>∃v',e = .returned v'∧zao w' v' (p*q)∧Below w.heap.size w w':=by
 have HA:=zHi ha;have HB:=zHi hb;have HP:=zHi hp;have HQ:=zHi hq;obtain⟨an,ad,rfl,han,had⟩:=ha;obtain⟨bn,bd,rfl,hbn,hbd⟩:=hb;have HAN:=zHi han;have HBN:=zHi hbn;have hS:=znM p q;obtain⟨na,hna⟩:∃na,decide (p.num<0)=na:=⟨_,rfl⟩;obtain⟨nb,hnb⟩:∃nb,decide (q.num<0)=nb:=⟨_,rfl⟩;rw [hna]at HA hS;rw [hnb]at HB hS;rw [hna,hnb];have HSum:=zHi hS;clear han had hbn hbd hna hnb hp hq hS;refine callsIn_of_wp Tryz.func94 rfl trivial ?_ rfl;simp only [Tryz.ntmps94,ztE,ztF,ztG,Nat.reduceAdd,Nat.reduceSub,ztH,ztI,ztJ,ztK,ztL,ztM];gi_wp2;obtain⟨W,hW⟩:∃W,W=((w.alloc (Obj.cells #[Value.bool na,an,ad] 25)).alloc (Obj.cells #[Value.bool nb,bn,bd] 25)).alloc (Obj.cells #[Value.bool false,Value.slice none 0 0,Value.slice none 0 0] 25):=⟨_,rfl⟩;rw [←hW];have HK:Hid (zdj w W w.heap.size (.bool na) an ad (.bool nb) bn bd):=by
  rw [hW];exact zdc w _ _ _ _ _ _ _ _ _ _
 replace HA:=zHi (HA.out.below HK.out.below);replace HB:=zHi (HB.out.below HK.out.below);replace HAN:=zHi (HAN.out.below HK.out.below);replace HBN:=zHi (HBN.out.below HK.out.below);obtain⟨g,hg⟩:∃g,w.heap.size=g:=⟨_,rfl⟩;rw [hg]at HK;rw [hg];clear hW;refine zas (ro:=none) [9,11,13,14,15,16] [0,1,2,3,4,5,6,7,8,10,12,9,11,13,14,15,16] [0,1,0,4,15,0,32,0,128,480,0,2016,0,8160,16352,32767,65535] zaz 21 rfl (by kernel_rfl) (by kernel_rfl) ?_;replace HK:=zHi (HK.out.step (zab _));replace HA:=zHi (HA.out.below (zab _));replace HB:=zHi (HB.out.below (zab _));replace HAN:=zHi (HAN.out.below (zab _));replace HBN:=zHi (HBN.out.below (zab _));refine OW.fieldAddr rfl rfl zi5 rfl ?_;simp only [Go.Act.put,ztN,ztO,ztP];refine OW.load rfl rfl l4 HK.out.bx.c0 rfl ?_;simp only [Go.Act.put,ztN,ztO,ztP];refine OW.fieldAddr rfl rfl zi5 rfl ?_;simp only [Go.Act.put,ztN,ztO,ztP];refine OW.load rfl rfl l4 HK.out.by'.c0 rfl ?_;simp only [Go.Act.put,ztN,ztO,ztP];refine OW.neqBool rfl rfl ub4 rfl rfl ?_;simp only [Go.Act.put,ztN,ztO,ztP];refine OW.fieldAddr rfl rfl zi4 rfl ?_;simp only [Go.Act.put,ztN,ztO,ztP];refine OW.load rfl rfl l23 HK.out.bx.c1 rfl ?_;simp only [Go.Act.put,ztN,ztO,ztP];refine OW.fieldAddr rfl rfl zi4 rfl ?_;simp only [Go.Act.put,ztN,ztO,ztP];refine OW.load rfl rfl l23 HK.out.by'.c1 rfl ?_;simp only [Go.Act.put,ztN,ztO,ztP];refine OW.loadAll rfl rfl l25 (cs:=[.bool na,an,ad]) rfl (by decide) HK.out.bx rfl ?_;simp only [Go.Act.put,ztN,ztO,ztP];refine OW.loadAll rfl rfl l25 (cs:=[.bool nb,bn,bd]) rfl (by decide) HK.out.by' rfl ?_;simp only [Go.Act.put,ztN,ztO,ztP];refine OW.call rfl rfl Tryz.func118 rfl zai (args:=[an,bn]) rfl ?_;refine(zbI W.drew an bn p.num.natAbs q.num.natAbs L HAN.out HBN.out HP.out.1 HQ.out.1 (by omega)).mono ?_;rintro e w1 ⟨v2,rfl,⟨hm2,_⟩,hB⟩;refine⟨v2,rfl,hB,?_⟩;simp only [Go.Act.put,ztN,ztO,ztP];replace HK:=zHi (HK.out.step hB);replace HA:=zHi (HA.out.below hB);replace HB:=zHi (HB.out.below hB);replace HAN:=zHi (HAN.out.below hB);replace HBN:=zHi (HBN.out.below hB);have HM2:=zHi hm2;clear hB;refine OW.call rfl rfl Tryz.func64 rfl zai (args:=[.agg #[.bool na,an,ad]]) rfl ?_;refine(za3 w1 _ p HA.out).mono ?_;rintro e w2 ⟨v3,rfl,hm3,hB⟩;refine⟨v3,rfl,hB,?_⟩;simp only [Go.Act.put,ztN,ztO,ztP];replace HK:=zHi (HK.out.step hB);replace HA:=zHi (HA.out.below hB);replace HB:=zHi (HB.out.below hB);replace HAN:=zHi (HAN.out.below hB);replace HBN:=zHi (HBN.out.below hB);replace HM2:=zHi (HM2.out.below hB);have HM3:=zHi hm3;clear hB;refine OW.call rfl rfl Tryz.func64 rfl zai (args:=[.agg #[.bool nb,bn,bd]]) rfl ?_;refine(za3 w2 _ q HB.out).mono ?_;rintro e w3 ⟨v5,rfl,hm5,hB⟩;refine⟨v5,rfl,hB,?_⟩;simp only [Go.Act.put,ztN,ztO,ztP];replace HK:=zHi (HK.out.step hB);replace HA:=zHi (HA.out.below hB);replace HB:=zHi (HB.out.below hB);replace HAN:=zHi (HAN.out.below hB);replace HBN:=zHi (HBN.out.below hB);replace HM2:=zHi (HM2.out.below hB);replace HM3:=zHi (HM3.out.below hB);have HM5:=zHi hm5;clear hB;refine OW.call rfl rfl Tryz.func118 rfl zai (args:=[v3,v5]) rfl ?_;refine(zbI w3 v3 v5 p.den q.den L HM3.out HM5.out HP.out.2 HQ.out.2 (by omega)).mono ?_;rintro e w4 ⟨v4,rfl,⟨hm4,_⟩,hB⟩;refine⟨v4,rfl,hB,?_⟩;simp only [Go.Act.put,ztN,ztO,ztP];replace HK:=zHi (HK.out.step hB);replace HA:=zHi (HA.out.below hB);replace HB:=zHi (HB.out.below hB);replace HAN:=zHi (HAN.out.below hB);replace HBN:=zHi (HBN.out.below hB);replace HM2:=zHi (HM2.out.below hB);replace HM3:=zHi (HM3.out.below hB);replace HM5:=zHi (HM5.out.below hB);have HM4:=zHi hm4;clear hB;obtain⟨X,hX⟩:∃X,p.num.natAbs*q.num.natAbs=X:=⟨_,rfl⟩;obtain⟨D,hD⟩:∃D,p.den*q.den=D:=⟨_,rfl⟩;have hS:=HSum.out;have hX2:X<B^(L+L):=by rw [←hX];exact zaO HP.out.1 HQ.out.1
 have hD2:D<B^(L+L):=by rw [←hD];exact zaO HP.out.2 HQ.out.2
 have hD0:D≠0:=by rw [←hD];exact Nat.mul_ne_zero p.den_nz q.den_nz
 rw [hX,hD]at hS;rw [hX]at HM2;rw [hD]at HM4;replace HSum:=zHi hS;have HX2:=zHi hX2;have HD2:=zHi hD2;clear hS hX hD hX2 hD2;refine OW.call rfl rfl Tryz.func117 rfl zai (args:=[.bool (na != nb),v2,v4]) rfl ?_;refine(zbp w4 (na != nb) v2 v4 X D (L+L) HM2.out HM4.out hD0 HX2.out HD2.out (by omega)).mono ?_;rintro e w5 ⟨v6,rfl,hm6,hB⟩;refine⟨v6,rfl,hB,?_⟩;simp only [Go.Act.put,ztN,ztO,ztP];replace HK:=zHi (HK.out.step hB);replace HA:=zHi (HA.out.below hB);replace HB:=zHi (HB.out.below hB);replace HAN:=zHi (HAN.out.below hB);replace HBN:=zHi (HBN.out.below hB);replace HM2:=zHi (HM2.out.below hB);replace HM3:=zHi (HM3.out.below hB);replace HM5:=zHi (HM5.out.below hB);replace HM4:=zHi (HM4.out.below hB);have HR:=zHi hm6;clear hB;obtain⟨o,k,c,o2,k2,c2,rfl⟩:=hm6.form;obtain⟨f,hf⟩:=HK.out.res;have hst:=zbE hf (x:=.bool (decide ((frac (na != nb) X D).num<0))) (y:=.slice o k c) (z:=.slice o2 k2 c2) rfl rfl rfl;refine OW.store (w':=set3 w5 (g+1+1) (.bool (decide ((frac (na != nb) X D).num<0))) (.slice o k c) (.slice o2 k2 c2)) rfl rfl (by decide) (zcH rfl rfl hst) ?_;simp only [Go.Act.put];refine OW.done ?_;gi_wp2;refine zbk rfl rfl (g+1+1) rfl (hf 0 (by omega)).1 (hf 1 (by omega)).1 (hf 2 (by omega)).1 ?_;refine⟨_,rfl,?_,?_⟩
 ·rw [HSum.out];exact((HR.out.setElem HK.out.el (by decide)).setElem (HK.out.el.setCell _ _) (by decide)).setElem ((HK.out.el.setCell _ _).setCell _ _) (by decide)
 ·have hle:=HK.out.le;exact((HK.out.below.setCell (by show w.heap.size≤g+1+1;omega) _).setCell (by show w.heap.size≤g+1+1;omega) _).setCell (by show w.heap.size≤g+1+1;omega) _
theorem zjB(w:World)(va vb:Value)(p q:Rat)(L:Nat)(ha:zao w va p)(hb:zao w vb q)(hp:zar p L)(hq:zar q L)(hq0:q.num≠0)(hL:L≤1000000) :
  CallsIn Fence.wide 0 Tryz.prog 76 #[va,vb] w fun e w'=>∃v',e = .returned v'∧zao w' v' (p/q)∧Below w.heap.size w w':=by
 have HA:=zHi ha;have HB:=zHi hb;have HP:=zHi hp;have HQ:=zHi hq;obtain⟨an,ad,rfl,han,had⟩:=ha;obtain⟨bn,bd,rfl,hbn,hbd⟩:=hb;have HAN:=zHi han;have HBN:=zHi hbn;have hS:=znL p q;obtain⟨na,hna⟩:∃na,decide (p.num<0)=na:=⟨_,rfl⟩;obtain⟨nb,hnb⟩:∃nb,decide (q.num<0)=nb:=⟨_,rfl⟩;rw [hna]at HA hS;rw [hnb]at HB hS;rw [hna,hnb];have HSum:=zHi hS;clear han had hbn hbd hna hnb hp hq hS;refine callsIn_of_wp Tryz.func76 rfl trivial ?_ rfl;simp only [Tryz.ntmps76,ztE,ztF,ztG,Nat.reduceAdd,Nat.reduceSub,ztH,ztI,ztJ,ztK,ztL,ztM];gi_wp2;obtain⟨W,hW⟩:∃W,W=((w.alloc (Obj.cells #[Value.bool na,an,ad] 25)).alloc (Obj.cells #[Value.bool nb,bn,bd] 25)).alloc (Obj.cells #[Value.bool false,Value.slice none 0 0,Value.slice none 0 0] 25):=⟨_,rfl⟩;rw [←hW];have HK:Hid (zdj w W w.heap.size (.bool na) an ad (.bool nb) bn bd):=by
  rw [hW];exact zdc w _ _ _ _ _ _ _ _ _ _
 replace HA:=zHi (HA.out.below HK.out.below);replace HB:=zHi (HB.out.below HK.out.below);replace HAN:=zHi (HAN.out.below HK.out.below);replace HBN:=zHi (HBN.out.below HK.out.below);obtain⟨g,hg⟩:∃g,w.heap.size=g:=⟨_,rfl⟩;rw [hg]at HK;rw [hg];clear hW;refine zas (ro:=none) [8,9,11,14,15,16] [0,1,2,3,4,5,6,7,10,12,13,8,9,11,14,15,16] [0,1,0,4,15,0,32,0,128,480,0,2016,0,4096,16352,32767,65535] zaz 21 rfl (by kernel_rfl) (by kernel_rfl) ?_;replace HK:=zHi (HK.out.step (zab _));replace HA:=zHi (HA.out.below (zab _));replace HB:=zHi (HB.out.below (zab _));replace HAN:=zHi (HAN.out.below (zab _));replace HBN:=zHi (HBN.out.below (zab _));refine OW.fieldAddr rfl rfl zi5 rfl ?_;simp only [Go.Act.put,ztN,ztO,ztP];refine OW.load rfl rfl l4 HK.out.bx.c0 rfl ?_;simp only [Go.Act.put,ztN,ztO,ztP];refine OW.fieldAddr rfl rfl zi5 rfl ?_;simp only [Go.Act.put,ztN,ztO,ztP];refine OW.load rfl rfl l4 HK.out.by'.c0 rfl ?_;simp only [Go.Act.put,ztN,ztO,ztP];refine OW.neqBool rfl rfl ub4 rfl rfl ?_;simp only [Go.Act.put,ztN,ztO,ztP];refine OW.fieldAddr rfl rfl zi4 rfl ?_;simp only [Go.Act.put,ztN,ztO,ztP];refine OW.load rfl rfl l23 HK.out.bx.c1 rfl ?_;simp only [Go.Act.put,ztN,ztO,ztP];refine OW.loadAll rfl rfl l25 (cs:=[.bool nb,bn,bd]) rfl (by decide) HK.out.by' rfl ?_;simp only [Go.Act.put,ztN,ztO,ztP];refine OW.loadAll rfl rfl l25 (cs:=[.bool na,an,ad]) rfl (by decide) HK.out.bx rfl ?_;simp only [Go.Act.put,ztN,ztO,ztP];refine OW.fieldAddr rfl rfl zi4 rfl ?_;simp only [Go.Act.put,ztN,ztO,ztP];refine OW.load rfl rfl l23 HK.out.by'.c1 rfl ?_;simp only [Go.Act.put,ztN,ztO,ztP];refine OW.call rfl rfl Tryz.func64 rfl zai (args:=[.agg #[.bool nb,bn,bd]]) rfl ?_;refine(za3 W.drew _ q HB.out).mono ?_;rintro e w1 ⟨v1,rfl,hm,hB⟩;refine⟨v1,rfl,hB,?_⟩;simp only [Go.Act.put,ztN,ztO,ztP];replace HK:=zHi (HK.out.step hB);replace HA:=zHi (HA.out.below hB);replace HB:=zHi (HB.out.below hB);replace HAN:=zHi (HAN.out.below hB);replace HBN:=zHi (HBN.out.below hB);have HM1:=zHi hm;clear hB;refine OW.call rfl rfl Tryz.func118 rfl zai (args:=[an,v1]) rfl ?_;refine(zbI w1 an v1 p.num.natAbs q.den L HAN.out HM1.out HP.out.1 HQ.out.2 (by omega)).mono ?_;rintro e w2 ⟨v2,rfl,⟨hm2,_⟩,hB⟩;refine⟨v2,rfl,hB,?_⟩;simp only [Go.Act.put,ztN,ztO,ztP];replace HK:=zHi (HK.out.step hB);replace HA:=zHi (HA.out.below hB);replace HB:=zHi (HB.out.below hB);replace HAN:=zHi (HAN.out.below hB);replace HBN:=zHi (HBN.out.below hB);replace HM1:=zHi (HM1.out.below hB);have HM2:=zHi hm2;clear hB;refine OW.call rfl rfl Tryz.func64 rfl zai (args:=[.agg #[.bool na,an,ad]]) rfl ?_;refine(za3 w2 _ p HA.out).mono ?_;rintro e w3 ⟨v3,rfl,hm3,hB⟩;refine⟨v3,rfl,hB,?_⟩;simp only [Go.Act.put,ztN,ztO,ztP];replace HK:=zHi (HK.out.step hB);replace HA:=zHi (HA.out.below hB);replace HB:=zHi (HB.out.below hB);replace HAN:=zHi (HAN.out.below hB);replace HBN:=zHi (HBN.out.below hB);replace HM1:=zHi (HM1.out.below hB);replace HM2:=zHi (HM2.out.below hB);have HM3:=zHi hm3;clear hB;refine OW.call rfl rfl Tryz.func118 rfl zai (args:=[v3,bn]) rfl ?_;refine(zbI w3 v3 bn p.den q.num.natAbs L HM3.out HBN.out HP.out.2 HQ.out.1 (by omega)).mono ?_;rintro e w4 ⟨v4,rfl,⟨hm4,_⟩,hB⟩;refine⟨v4,rfl,hB,?_⟩;simp only [Go.Act.put,ztN,ztO,ztP];replace HK:=zHi (HK.out.step hB);replace HA:=zHi (HA.out.below hB);replace HB:=zHi (HB.out.below hB);replace HAN:=zHi (HAN.out.below hB);replace HBN:=zHi (HBN.out.below hB);replace HM1:=zHi (HM1.out.below hB);replace HM2:=zHi (HM2.out.below hB);replace HM3:=zHi (HM3.out.below hB);have HM4:=zHi hm4;clear hB;obtain⟨X,hX⟩:∃X,p.num.natAbs*q.den=X:=⟨_,rfl⟩;obtain⟨D,hD⟩:∃D,p.den*q.num.natAbs=D:=⟨_,rfl⟩;have hS:=HSum.out;have hX2:X<B^(L+L):=by rw [←hX];exact zaO HP.out.1 HQ.out.2
 have hD2:D<B^(L+L):=by rw [←hD];exact zaO HP.out.2 HQ.out.1
 have hD0:D≠0:=by rw [←hD];exact Nat.mul_ne_zero p.den_nz (by omega)
 rw [hX,hD]at hS;rw [hX]at HM2;rw [hD]at HM4;replace HSum:=zHi hS;have HX2:=zHi hX2;have HD2:=zHi hD2;clear hS hX hD hX2 hD2;refine OW.call rfl rfl Tryz.func117 rfl zai (args:=[.bool (na != nb),v2,v4]) rfl ?_;refine(zbp w4 (na != nb) v2 v4 X D (L+L) HM2.out HM4.out hD0 HX2.out HD2.out (by omega)).mono ?_;rintro e w5 ⟨v6,rfl,hm6,hB⟩;refine⟨v6,rfl,hB,?_⟩;simp only [Go.Act.put,ztN,ztO,ztP];replace HK:=zHi (HK.out.step hB);replace HA:=zHi (HA.out.below hB);replace HB:=zHi (HB.out.below hB);replace HAN:=zHi (HAN.out.below hB);replace HBN:=zHi (HBN.out.below hB);replace HM1:=zHi (HM1.out.below hB);replace HM2:=zHi (HM2.out.below hB);replace HM3:=zHi (HM3.out.below hB);replace HM4:=zHi (HM4.out.below hB);have HR:=zHi hm6;clear hB;obtain⟨o,k,c,o2,k2,c2,rfl⟩:=hm6.form;obtain⟨f,hf⟩:=HK.out.res;have hst:=zbE hf (x:=.bool (decide ((frac (na != nb) X D).num<0))) (y:=.slice o k c) (z:=.slice o2 k2 c2) rfl rfl rfl;refine OW.store (w':=set3 w5 (g+1+1) (.bool (decide ((frac (na != nb) X D).num<0))) (.slice o k c) (.slice o2 k2 c2)) rfl rfl (by decide) (zcH rfl rfl hst) ?_;simp only [Go.Act.put];refine OW.done ?_;gi_wp2;refine zbk rfl rfl (g+1+1) rfl (hf 0 (by omega)).1 (hf 1 (by omega)).1 (hf 2 (by omega)).1 ?_;refine⟨_,rfl,?_,?_⟩
 ·rw [HSum.out];exact((HR.out.setElem HK.out.el (by decide)).setElem (HK.out.el.setCell _ _) (by decide)).setElem ((HK.out.el.setCell _ _).setCell _ _) (by decide)
 ·have hle:=HK.out.le;exact((HK.out.below.setCell (by show w.heap.size≤g+1+1;omega) _).setCell (by show w.heap.size≤g+1+1;omega) _).setCell (by show w.heap.size≤g+1+1;omega) _
def sgnR(q:Rat):Int:=if q.num<0 then -1 else if q.num=0 then 0 else 1
theorem zc4(w:World)(v:Value)(q:Rat)(h:zao w v q) :
  CallsIn Fence.wide 0 Tryz.prog 17 #[v] w fun e w'=>e = .returned (.int .i64 (sgnR q))∧Below w.heap.size w w':=by
 obtain⟨vn,vd,rfl,hn,hd⟩:=h;obtain⟨o,k,c,rfl,hk,hk9⟩:=zaM hn;obtain⟨o2,k2,c2,rfl,_,_⟩:=zaM hd;have HK:=zHi hk;clear hn hd hk;refine callsIn_of_wp Tryz.func17 rfl trivial ?_ rfl;simp only [Tryz.ntmps17,ztE,ztF,ztG,Nat.reduceAdd,Nat.reduceSub,ztH,ztI,ztJ,ztK,ztL,ztM];by_cases h0:q.num<0
 ·have hs:Hid (sgnR q = -1):=if_pos h0;have hd:decide (q.num<0)=true:=decide_eq_true h0;rw [hd];clear hd h0;gi_wp2;all_goals (first|go_returns|go_ret|go_end0)
  exact⟨by rw [hs.out];rfl,zaa _ _⟩
 ·have hd:decide (q.num<0)=false:=decide_eq_false h0;rw [hd];by_cases h1:q.num=0
  ·have hs:Hid (sgnR q=0):=zHi (by unfold sgnR;rw [if_neg h0,if_pos h1]);have hk0:k=0:=HK.out.2 (by rw [h1];rfl);subst hk0;clear hd h0 h1;gi_wp2;all_goals (first|go_returns|go_ret|go_end0)
   exact⟨by rw [hs.out];rfl,zaa _ _⟩
  ·have hs:Hid (sgnR q=1):=zHi (by unfold sgnR;rw [if_neg h0,if_neg h1]);have hk0:(0:Int)<(k:Int):=by
    rcases Nat.eq_zero_or_pos k with h|h
    ·have:=HK.out.1 h;omega
    ·omega
   clear hd h0 h1;gi_wp2;all_goals (first|go_returns|go_ret|go_end0)
   exact⟨by rw [hs.out];rfl,zaa _ _⟩
theorem zks(q:Rat):(-q).num = -q.num:=rfl
theorem zh6(q:Rat):(-q).num.natAbs=q.num.natAbs∧(-q).den=q.den:=by
 rw [zks];exact⟨Int.natAbs_neg _,rfl⟩
theorem zmk(w:World)(x0 x1 x2 z0 z1 z2:Value):let W:=(w.alloc (.cells #[x0,x1,x2] 25)).alloc (.cells #[z0,z1,z2] 25)
  Box3 W w.heap.size x0 x1 x2∧Elem W (w.heap.size+1) 25∧(W.cell? ⟨w.heap.size+1,0,none⟩=some z0∧W.cell? ⟨w.heap.size+1,1,none⟩=some z1∧W.cell? ⟨w.heap.size+1,2,none⟩=some z2) ∧
  (W.frozen? ⟨w.heap.size+1,0,none⟩=false∧W.frozen? ⟨w.heap.size+1,1,none⟩=false∧W.frozen? ⟨w.heap.size+1,2,none⟩=false)∧Below w.heap.size w W:=by
 intro W;have e1:(w.alloc (.cells #[x0,x1,x2] 25)).heap.size=w.heap.size+1:=by simp
 have h2:=zbC (w.alloc (.cells #[x0,x1,x2] 25)) z0 z1 z2 25;rw [e1]at h2;refine⟨(zbC w x0 x1 x2 25).below (zaa _ _),by rw [←e1];exact zaA _ _ _,⟨h2.c0,h2.c1,h2.c2⟩,?_,(zaa w _).alloc (by simp) _⟩;refine⟨?_,?_,?_⟩ <;> (rw [←e1];exact World.frozen?_alloc_new _ _ _ _)
theorem zh7(w:World)(v:Value)(q:Rat)(h:zao w v q) :
  CallsIn Fence.wide 0 Tryz.prog 46 #[v] w fun e w'=>∃v',e = .returned v'∧zao w' v' (-q)∧Below w.heap.size w w':=by
 obtain⟨vn,vd,rfl,hn,hd⟩:=h;have HM0:=zHi hn;have HD0:=zHi hd;obtain⟨o,k,c,rfl,hk,hk9⟩:=zaM hn;obtain⟨o2,k2,c2,rfl,_,_⟩:=zaM hd;have HK:=zHi hk;have HN:=zHi (zh6 q);clear hn hd hk;obtain⟨neg,hneg⟩:∃neg,decide (q.num<0)=neg:=⟨_,rfl⟩;have HNG:=zHi hneg;rw [hneg];clear hneg;refine callsIn_of_wp Tryz.func46 rfl trivial ?_ rfl;simp only [Tryz.ntmps46,ztE,ztF,ztG,Nat.reduceAdd,Nat.reduceSub,ztH,ztI,ztJ,ztK,ztL,ztM]
 cases neg with
 | true=>
  have HS:Hid (decide ((-q).num<0)=false):=zHi (decide_eq_false (by have:=of_decide_eq_true HNG.out;rw [zks];omega));clear HNG;gi_wp2;have HT:=zmk w (.bool true) (.slice o k c) (.slice o2 k2 c2) (.bool false) (.slice o k c) (.slice o2 k2 c2);refine zkh rfl rfl (w.heap.size+1) rfl HT.2.2.1.1 HT.2.2.1.2.1 HT.2.2.1.2.2 ?_;refine⟨_,rfl,⟨.slice o k c,.slice o2 k2 c2,by rw [HS.out],by rw [HN.out.1];exact HM0.out.below HT.2.2.2.2,by rw [HN.out.2];exact HD0.out.below HT.2.2.2.2⟩,HT.2.2.2.2⟩
 | false=>
  by_cases h1:q.num=0
  ·have hk0:k=0:=HK.out.2 (by rw [h1];rfl);have HS:Hid (decide ((-q).num<0)=false):=zHi (decide_eq_false (by rw [zks];omega));subst hk0;clear HNG h1;gi_wp2;have HT:=zmk w (.bool false) (.slice o 0 c) (.slice o2 k2 c2) (.bool false) (.slice o 0 c) (.slice o2 k2 c2);refine zkh rfl rfl (w.heap.size+1) rfl HT.2.2.1.1 HT.2.2.1.2.1 HT.2.2.1.2.2 ?_;refine⟨_,rfl,⟨.slice o 0 c,.slice o2 k2 c2,by rw [HS.out],by rw [HN.out.1];exact HM0.out.below HT.2.2.2.2,by rw [HN.out.2];exact HD0.out.below HT.2.2.2.2⟩,HT.2.2.2.2⟩
  ·have hk0:(0:Int)<(k:Int):=by
    rcases Nat.eq_zero_or_pos k with h|h
    ·have:=HK.out.1 h;omega
    ·omega
   have hk1:decide ((0:Int)<(k:Int))=true:=decide_eq_true hk0;have HS:Hid (decide ((-q).num<0)=true):=zHi (decide_eq_true (by have:=of_decide_eq_false HNG.out;rw [zks];omega));clear HNG h1;gi_wp2;have HT:=zmk w (.bool false) (.slice o k c) (.slice o2 k2 c2) (.bool true) (.slice o k c) (.slice o2 k2 c2);rw [show decide (0<k)=true from decide_eq_true (by omega)];refine zkh rfl rfl (w.heap.size+1) rfl HT.2.2.1.1 HT.2.2.1.2.1 HT.2.2.1.2.2 ?_;refine⟨_,rfl,⟨.slice o k c,.slice o2 k2 c2,by rw [HS.out],by rw [HN.out.1];exact HM0.out.below HT.2.2.2.2,by rw [HN.out.2];exact HD0.out.below HT.2.2.2.2⟩,HT.2.2.2.2⟩
structure Env where
 z:Nat→Int
 q:Nat→Rat
def ev(E:Env):Tg→Int × Rat
 | .leaf k=>(E.z k,E.q k)
 | .un 1 a=>let x:=ev E a;(-x.1,-x.2)
 | .un 20 a=>let x:=ev E a;(sgn false x.1.natAbs,0)
 | .un 21 a=>let x:=ev E a;(sgn true x.1.natAbs,0)
 | .un 30 a=>let x:=ev E a;(x.2.num,0)
 | .un 31 a=>let x:=ev E a;((x.2.den:Int),0)
 | .bin 1 a b=>let x:=ev E a;let y:=ev E b;(x.1+y.1,x.2+y.2)
 | .bin 2 a b=>let x:=ev E a;let y:=ev E b;(x.1-y.1,x.2-y.2)
 | .bin 3 a b=>let x:=ev E a;let y:=ev E b;(x.1*y.1,x.2*y.2)
 | .bin 4 a b=>let x:=ev E a;let y:=ev E b;(0,x.2/y.2)
 | .bin 11 a b=>let x:=ev E a;let y:=ev E b;((x.1.natAbs+y.1.natAbs:Nat),0)
 | .bin 12 a b=>let x:=ev E a;let y:=ev E b;((x.1.natAbs-y.1.natAbs:Nat),0)
 | .bin 13 a b=>let x:=ev E a;let y:=ev E b;((x.1.natAbs*y.1.natAbs:Nat),0)
 | .bin 14 a b=>let x:=ev E a;let y:=ev E b;((Nat.gcd x.1.natAbs y.1.natAbs:Nat),0)
 | .bin 15 a b=>let x:=ev E a;let y:=ev E b;((x.1.natAbs/y.1.natAbs:Nat),0)
 | .bin 16 a b=>let x:=ev E a;let y:=ev E b;((x.1.natAbs%y.1.natAbs:Nat),0)
 | .bin 17 a b=>let x:=ev E a;let y:=ev E b;(sgn (decide (x.1<0) != decide (y.1<0)) (x.1.natAbs/y.1.natAbs),0)
 | .bin 40 a b=>let x:=ev E a;let y:=ev E b;(0,(x.1:Rat)/(y.1:Rat))
 | _=>(0,0)
def evZ(E:Env)(t:Tg):Int:=(ev E t).1
def evN(E:Env)(t:Tg):Nat:=(ev E t).1.natAbs
def evQ(E:Env)(t:Tg):Rat:=(ev E t).2
def sz(L:Nat):Tg→Nat
 | .leaf _=>L
 | .un _ a=>sz L a
 | .bin _ a b=>sz L a+sz L b+1
def zkW(L:Nat)(E:Env):Prop:=0<L∧∀k,(E.z k).natAbs<B^L∧zar (E.q k) L
theorem zar.mono{q:Rat}{L M:Nat}(h:zar q L)(hL:L≤M):zar q M:=⟨Nat.lt_of_lt_of_le h.1 (zag hL),Nat.lt_of_lt_of_le h.2 (zag hL)⟩
theorem zaX{x a:Nat}(b:Nat)(h:x<B^a)(hab:a≤b):x<B^b:=Nat.lt_of_lt_of_le h (zag hab)
theorem zih{s:Bool}{n d L:Nat}(hd:d≠0)(hn:n<B^L)(hdL:d<B^L):zar (frac s n d) L:=by
 have h:=zdO (neg:=s) (n:=n) hd;exact⟨by rw [h.1];exact Nat.lt_of_le_of_lt (Nat.div_le_self _ _) hn,by rw [h.2.1];exact Nat.lt_of_le_of_lt (Nat.div_le_self _ _) hdL⟩
theorem zb5{L:Nat}(h:0<L):zar 0 L:=by
 have:1<B^L:=Nat.lt_of_lt_of_le (by decide:1<B^1) (zag h);exact⟨by show 0<_;omega,this⟩
theorem zp6{q:Rat}{L:Nat}(h:zar q L):0<L:=by
 apply Classical.byContradiction
 intro hno;have:L=0:=by omega
 subst this;have h1:=h.2;have h2:=q.den_pos;rw [Nat.pow_zero]at h1;omega
theorem zfZ{q:Rat}{L:Nat}(h:zar q L):zar (-q) L:=⟨by rw [(zh6 q).1];exact h.1,by rw [(zh6 q).2];exact h.2⟩
theorem zhQ{p q:Rat}{a b:Nat}(hp:zar p a)(hq:zar q b):zar (p+q) (a+b+1):=by
 have h1:=zaO hp.1 hq.2;have h2:q.num.natAbs*p.den<B^(a+b):=by rw [Nat.add_comm];exact zaO hq.1 hp.2
 have h3:=zaO hp.2 hq.2;have hd:p.den*q.den≠0:=Nat.mul_ne_zero p.den_nz q.den_nz;have h4:B^(a+b)+B^(a+b)≤B^(a+b+1):=by
  rw [Nat.pow_succ];have:B^(a+b)*2≤B^(a+b)*B:=Nat.mul_le_mul_left _ (by decide);omega
 rw [zp4 p q];split
 ·exact zih hd (by omega) (by omega)
 ·split
  ·exact zih hd (by omega) (by omega)
  ·exact zih hd (by omega) (by omega)
theorem zdB{p q:Rat}{a b:Nat}(hp:zar p a)(hq:zar q b):zar (p*q) (a+b):=by
 rw [znM];exact zih (Nat.mul_ne_zero p.den_nz q.den_nz) (zaO hp.1 hq.1) (zaO hp.2 hq.2)
theorem zf0{p q:Rat}{a b:Nat}(hp:zar p a)(hq:zar q b):zar (p/q) (a+b):=by
 by_cases h0:q.num=0
 ·have:q=0:=Rat.num_eq_zero.1 h0;rw [this,show p/0=0 by simp [Rat.div_def]];exact zb5 (by have:=zp6 hp;omega)
 ·rw [znL];exact zih (Nat.mul_ne_zero p.den_nz (by omega)) (zaO hp.1 hq.2) (zaO hp.2 hq.1)
theorem zlk{z:Int}{L:Nat}(h:z.natAbs<B^L)(hL:0<L):zar (z:Rat) L:=by
 have:1<B^L:=Nat.lt_of_lt_of_le (by decide:1<B^1) (zag hL);exact⟨h,this⟩
theorem zkw{x y:Int}{a b:Nat}(hx:x.natAbs<B^a)(hy:y.natAbs<B^b):x.natAbs+y.natAbs<B^(a+b+1):=by
 have h1:B^a≤B^(a+b):=zag (by omega);have h2:B^b≤B^(a+b):=zag (by omega);have h4:B^(a+b)*2≤B^(a+b)*B:=Nat.mul_le_mul_left _ (by decide);rw [←Nat.pow_succ]at h4;have e:(a+b).succ=a+b+1:=rfl;rw [e]at h4;omega
theorem zpJ{L:Nat}(hL:0<L)(t:Tg):0<sz L t:=by
 induction t with
 | leaf k=>exact hL
 | un k a ih=>exact ih
 | bin k a b=>show 0<sz L a+sz L b+1;omega
theorem zrW{L:Nat}{E:Env}(hE:zkW L E)(t:Tg):(ev E t).1.natAbs<B^sz L t∧zar (ev E t).2 (sz L t):=by
 have z0:∀t:Tg,(0:Int).natAbs<B^sz L t:=fun t=>by show 0<B^sz L t;exact zau _
 have q0:∀t:Tg,zar 0 (sz L t):=fun t=>zb5 (zpJ hE.1 t)
 induction t with
 | leaf k=>exact⟨(hE.2 k).1,(hE.2 k).2⟩
 | un k a ih=>
  have e:sz L (.un k a)=sz L a:=rfl;rw [e];unfold ev;split
  all_goals (try rename_i h;try (cases h))
  all_goals first
   | exact⟨by simpa using ih.1,zfZ ih.2⟩
   | exact⟨by rw [zbl];exact ih.1,q0 a⟩
   | exact⟨ih.2.1,q0 a⟩
   | exact⟨ih.2.2,q0 a⟩
   | exact⟨z0 a,q0 a⟩
 | bin k a b iha ihb=>
  have hs:=zkw iha.1 ihb.1;have hm:(ev E a).1.natAbs*(ev E b).1.natAbs<B^(sz L a+sz L b+1):=Nat.lt_of_lt_of_le (zaO iha.1 ihb.1) (zag (by omega));have ha1:(ev E a).1.natAbs<B^(sz L a+sz L b+1):=Nat.lt_of_lt_of_le iha.1 (zag (by omega));have hb1:(ev E b).1.natAbs<B^(sz L a+sz L b+1):=Nat.lt_of_lt_of_le ihb.1 (zag (by omega));have hq:zar 0 (sz L a+sz L b+1):=zb5 (by omega);show(ev E (.bin k a b)).1.natAbs<B^(sz L a+sz L b+1)∧zar (ev E (.bin k a b)).2 (sz L a+sz L b+1)
  unfold ev;split
  all_goals (try rename_i h;try (cases h))
  all_goals first
   | exact⟨by show((ev E a).1+(ev E b).1).natAbs<_;omega,zhQ iha.2 ihb.2⟩
   | exact⟨by show((ev E a).1-(ev E b).1).natAbs<_;omega,by show zar ((ev E a).2-(ev E b).2) _;rw [Rat.sub_eq_add_neg];exact zhQ iha.2 (zfZ ihb.2)⟩
   | exact⟨by rw [Int.natAbs_mul];exact hm,(zdB iha.2 ihb.2).mono (by omega)⟩
   | exact⟨z0 (.bin 4 a b),(zf0 iha.2 ihb.2).mono (by omega)⟩
   | exact⟨z0 (.bin 40 a b),(zf0 (zlk iha.1 (zpJ hE.1 a)) (zlk ihb.1 (zpJ hE.1 b))).mono (by omega)⟩
   | exact⟨hs,hq⟩
   | exact⟨Nat.lt_of_le_of_lt (Nat.sub_le _ _) ha1,hq⟩
   | exact⟨hm,hq⟩
   | exact⟨Nat.lt_of_le_of_lt (Nat.div_le_self _ _) ha1,hq⟩
   | exact⟨by rw [zbl];exact Nat.lt_of_le_of_lt (Nat.div_le_self _ _) ha1,hq⟩
   | exact⟨Nat.lt_of_le_of_lt (Nat.mod_le _ _) ha1,hq⟩
   | exact⟨by
     show Nat.gcd (ev E a).1.natAbs (ev E b).1.natAbs<_
     rcases Nat.eq_zero_or_pos (ev E a).1.natAbs with h0|h0
     ·rw [h0,Nat.gcd_zero_left];exact hb1
     ·exact Nat.lt_of_le_of_lt (Nat.le_of_dvd h0 (Nat.gcd_dvd_left _ _)) ha1,hq⟩
   | exact⟨zau _,hq⟩
end Go.Num
namespace Go.Eng
open Go.RowKit
abbrev TTab:=FuncId→AT→Option AT
def TTab.or(T U:TTab):TTab:=fun f ts=>match T f ts with|some r=>some r|none=>U f ts
def t1(g:FuncId)(A:AT→Option Tg)(cond:Tg→Bool)(R:Tg→AT):TTab:=fun f ts=>
 bif Nat.beq f g then
  match ts with
  | .cons a .nil=>match A a with
   | some x=>bif cond x then some (R x)else none
   | none=>none
  | _=>none
 else none
def t2(g:FuncId)(A C:AT→Option Tg)(cond:Tg→Tg→Bool)(R:Tg→Tg→AT):TTab:=fun f ts=>
 bif Nat.beq f g then
  match ts with
  | .cons a (.cons c .nil)=>match A a,C c with
   | some x,some y=>bif cond x y then some (R x y)else none
   | _,_=>none
  | _=>none
 else none
section
variable {P:Program} {G:Sett}
theorem zcb.or{T U:TTab}(h:zcb P G T)(k:zcb P G U):zcb P G (T.or U):=by
 intro f ts rs q;unfold TTab.or at q;split at q
 ·rename_i r hr
  cases q
  exact h _ _ _ hr
 ·exact k _ _ _ q
theorem zpt:zcb P G (fun _ _=>none):=fun _ _ _ q=>by cases q
def zkV(P:Program)(g:FuncId):Prop:=∃fn:Func,P.funcs[g]? = some fn∧fn.body.isSome=true
theorem zps{g:FuncId}{A:AT→Option Tg}{cond:Tg→Bool}{R:Tg→AT}(hb:zkV P g)(M:Tg→Value→World→Prop)(hA:∀a x,A a=some x→∀v w,zbm G a v w→M x v w)
  (h:∀x,cond x=true→∀w v,M x v w→Calls P g #[v] w fun e w'=>∃r,e = .returned r∧zdk G (R x) r w'∧Below w.heap.size w w'):zcb P G (t1 g A cond R):=by
 intro f ts rs q;unfold t1 at q
 cases hf:Nat.beq f g with
 | false=>rw [hf]at q;cases q
 | true=>
  rw [hf]at q;have hf:=(zam _ _).1 hf;subst hf;refine⟨hb,fun w xs hx => ?_⟩;simp only [cond_true]at q;split at q
  ·rename_i a;split at q
   ·rename_i x hxa
    cases hc:cond x with
    | false=>rw [hc]at q;cases q
    | true=>
     rw [hc]at q
     cases q
     obtain⟨v,r,e,h1,h2⟩:=hx;have h2:r = []:=h2;subst h2;have e':xs=#[v]:=Array.toList_inj.1 (by simpa using e);subst e';exact h x hc w v (hA _ _ hxa _ _ h1)
   ·cases q
  ·cases q
theorem zc9{g:FuncId}{A C:AT→Option Tg}{cond:Tg→Tg→Bool}{R:Tg→Tg→AT}(hb:zkV P g)(M N:Tg→Value→World→Prop)(hA:∀a x,A a=some x→∀v w,zbm G a v w→M x v w)(hC:∀a x,C a=some x→∀v w,zbm G a v w→N x v w)
  (h:∀x y,cond x y=true→∀w v u,M x v w→N y u w→Calls P g #[v,u] w fun e w'=>∃r,e = .returned r∧zdk G (R x y) r w'∧Below w.heap.size w w'):zcb P G (t2 g A C cond R):=by
 intro f ts rs q;unfold t2 at q
 cases hf:Nat.beq f g with
 | false=>rw [hf]at q;cases q
 | true=>
  rw [hf]at q;have hf:=(zam _ _).1 hf;subst hf;refine⟨hb,fun w xs hx => ?_⟩;simp only [cond_true]at q;split at q
  ·rename_i a c;split at q
   ·rename_i x y hxa hyc
    cases hc:cond x y with
    | false=>rw [hc]at q;cases q
    | true=>
     rw [hc]at q
     cases q
     obtain⟨v,r,e,h1,u,r2,e2,h3,h4⟩:=hx;subst e2;have h4:r2 = []:=h4;subst h4;have e':xs=#[v,u]:=Array.toList_inj.1 (by simpa using e);subst e';exact h x y hc w v u (hA _ _ hxa _ _ h1) (hC _ _ hyc _ _ h3)
   ·cases q
  ·cases q
end
end Go.Eng
namespace Go.Num
open Go.Lib
def padL:Nat→Nat→List UInt8
 | 0,_ => []
 | j+1,n=>padL j (n/10) ++ [UInt8.ofNat (48+n%10)]
theorem zqL:∀(j hi lo:Nat),0<hi→lo<10^j→decDigits (hi*10^j+lo)=decDigits hi ++ padL j lo
 | 0,hi,lo,_,h=>by
  have:lo=0:=by simp at h;exact h
  subst this;simp [padL]
 | j+1,hi,lo,h0,h=>by
  have e:hi*10^(j+1)+lo=(hi*10^j)*10+lo:=by rw [Nat.pow_succ,Nat.mul_assoc]
  have hp:0<10^j:=Nat.pow_pos (by decide);have hbig:¬(hi*10^(j+1)+lo<10):=by
   have:1*1≤hi*10^j:=Nat.mul_le_mul h0 hp;omega
  rw [decDigits,dif_neg hbig,e];have e1:((hi*10^j)*10+lo)/10=hi*10^j+lo/10:=by omega
  have e2:((hi*10^j)*10+lo)%10=lo%10:=by omega
  rw [e1,e2,zqL j hi (lo/10) h0 (by rw [Nat.pow_succ]at h;omega),List.append_assoc];rfl
theorem zmJ:∀(j n:Nat),n<10^(j+1)→padL (j+1) n=List.replicate (j+1-nDigits n) 48 ++ decDigits n
 | 0,n,h=>by
  have h:n<10:=by simpa using h
  rw [nDigits_small h,decDigits,dif_pos h];simp [padL,Nat.mod_eq_of_lt h]
 | j+1,n,h=>by
  by_cases hs:n<10
  ·have e:n/10=0:=by omega
   show padL (j+1) (n/10) ++ [UInt8.ofNat (48+n%10)]=_
   rw [e,zmJ j 0 (Nat.pow_pos (by decide)),nDigits_small hs,nDigits_small (by decide),decDigits,dif_pos (by decide),decDigits,dif_pos hs,Nat.mod_eq_of_lt hs];have:j+1+1-1=(j+1-1)+1:=by omega
   rw [this,List.replicate_succ'];rfl
  ·show padL (j+1) (n/10) ++ [UInt8.ofNat (48+n%10)]=_
   rw [zmJ j (n/10) (by rw [Nat.pow_succ]at h;omega),nDigits_big hs,decDigits.eq_def n,dif_neg hs,List.append_assoc];congr 2
   omega
theorem zr1{hi lo:Nat}(h0:0<hi)(h:lo<B):decDigits (hi*B+lo)=decDigits hi ++ (List.replicate (9-nDigits lo) 48 ++ decDigits lo):=by
 rw [←zmJ 8 lo h];exact zqL 9 hi lo h0 h
theorem zr4{n i:Nat}(h0:0<n/B^(i+1)):decDigits (n/B^i)=decDigits (n/B^(i+1)) ++ (List.replicate (9-nDigits (limb n i)) 48 ++ decDigits (limb n i)):=by
 rw [←zr1 h0 (zaE n i),Nat.mul_comm,←zcj]
theorem zsV{n m:Nat}(h:LenD n m):nDigits n=m:=by
 obtain⟨h1,h2,h3⟩:=h;by_cases hm:m=1
 ·subst hm;exact nDigits_small (by simpa using h2)
 ·obtain⟨k,rfl⟩:∃k,m=k+1:=⟨m-1,by omega⟩;refine nDigits_unique k n ?_ h2;rcases h3 with h3|h3
  ·omega
  ·exact h3
end Go.Num
