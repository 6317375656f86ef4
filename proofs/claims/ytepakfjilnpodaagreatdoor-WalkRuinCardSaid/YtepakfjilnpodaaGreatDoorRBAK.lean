/-
  Products and quotients of fractions. Signs, opposites, whole fractions and comparison. Sums, products and quotients of fractions. Tables of 
  Conditions: see each statement.
-/
import Derived.Test.YtepakfjilnpodaaGreatDoorRBAA
import Derived.Test.YtepakfjilnpodaaGreatDoorRBAI
import Derived.Test.YtepakfjilnpodaaGreatDoorRBAJ
import Derived.Test.YtepakfjilnpodaaGreatDoorRBAF
import Derived.Lib.ItoaNum
set_option maxRecDepth 100000
set_option maxHeartbeats 8000000
namespace Go.Num
open Go.RowKit Go.Proofs Go.Proofs.YtepakfjilnpodaaGreatDoor Go.Eng
theorem zak:Tryz.prog.follows .mixedOrders=true:=by kernel_rfl
theorem zac:zbi Tryz.prog:=znN (by kernel_rfl)
theorem zfm{P:Program}{s:TypeId}{f off:Nat}(h:(match P.underlying s with|some (.struct fs)=>(match fs[f]? with|some fd=>Nat.beq fd.offset off && (match P.info? fd.type with|some i => !Nat.beq i.size 0|none=>false)|none=>false)|_=>false)=true):zfY P s f off:=by
 split at h
 ·rename_i fs hu;split at h
  ·rename_i fd hf;rw [Bool.and_eq_true]at h;refine znW hu hf (Nat.eq_of_beq_eq_true h.1) ?_;have h2:=h.2;split at h2
   ·rename_i i hi;rw [hi];simp at h2 ⊢
    intro e;rw [e]at h2
    cases h2
   ·cases h2
  ·cases h
 ·cases h
theorem ziS:zfY Tryz.prog 27 0 0:=zfm (by kernel_rfl)
theorem ziR:zfY Tryz.prog 27 1 1:=zfm (by kernel_rfl)
theorem l4:zfX Tryz.prog 4:=zfg (by kernel_rfl)
theorem l23:zfX Tryz.prog 25:=zfg (by kernel_rfl)
theorem l25:zfa Tryz.prog 27 3:=zgI (by kernel_rfl) (by kernel_rfl)
theorem ub4:Tryz.prog.underlying 4=some .bool:=by kernel_rfl
def Box3(w:World)(g:Nat)(x y z:Value):Prop:=∀j v,[x,y,z][j]? = some v→w.cell? ⟨g,j,none⟩=some v
theorem Box3.c0{w:World}{g:Nat}{x y z:Value}(h:Box3 w g x y z):w.cell? ⟨g,0,none⟩=some x:=h 0 x rfl
theorem Box3.c1{w:World}{g:Nat}{x y z:Value}(h:Box3 w g x y z):w.cell? ⟨g,1,none⟩=some y:=h 1 y rfl
theorem Box3.c2{w:World}{g:Nat}{x y z:Value}(h:Box3 w g x y z):w.cell? ⟨g,2,none⟩=some z:=h 2 z rfl
theorem Box3.lt{w:World}{g:Nat}{x y z:Value}(h:Box3 w g x y z):g<w.heap.size:=World.block_lt_of_cell? _ _ h.c0
theorem Box3.below{w w':World}{g:Nat}{x y z:Value}(h:Box3 w g x y z)(hb:Below w.heap.size w w'):Box3 w' g x y z:=fun j v hj=>(hb.cell (p:=⟨g,j,none⟩) h.lt).trans (h j v hj)
theorem zaK(w:World)(x y z:Value)(t:TypeId):Box3 (w.alloc (.cells #[x,y,z] t)) w.heap.size x y z:=fun j v hj=>by
 rw [World.cell?_alloc_new,←hj];simp
theorem zaq.setElem{w:World}{v u:Value}{x g i:Nat}{e:TypeId}(h:zaq w v x)(hE:Elem w g e)(he:e≠116):zaq (w.setCell ⟨g,i,none⟩ u) v x:=by
 refine h.setCell' ?_ u;obtain⟨k,hk,hl⟩:=h;rcases hl with⟨rfl,_⟩|⟨a,cap,rfl,h2,h3,h4,h5,h6⟩
 ·exact .inl hk.zero
 ·refine .inr fun q => ?_
  have:a.block=g:=by simpa [Value.ownBlock]using q
  exact(h5.ne hE (fun q=>he q.symm)) this
theorem zaj.setElem{w:World}{v u:Value}{q:Rat}{g i:Nat}{e:TypeId}(h:zaj w v q)(hE:Elem w g e)(he:e≠116):zaj (w.setCell ⟨g,i,none⟩ u) v q:=by
 obtain⟨vn,vd,h1,h2,h3⟩:=h;exact⟨vn,vd,h1,h2.setElem hE he,h3.setElem hE he⟩
theorem zaj.form{w:World}{v:Value}{q:Rat}(h:zaj w v q):∃o k c o2 k2 c2,v = .agg #[.bool (decide (q.num<0)),.slice o k c,.slice o2 k2 c2]:=by
 obtain⟨vn,vd,h1,h2,h3⟩:=h;obtain⟨o,k,c,rfl,_,_⟩:=zaG h2;obtain⟨o2,k2,c2,rfl,_,_⟩:=zaG h3;exact⟨o,k,c,o2,k2,c2,h1⟩
def set3(w:World)(g:Nat)(x y z:Value):World:=((w.setCell ⟨g,0,none⟩ x).setCell ⟨g,1,none⟩ y).setCell ⟨g,2,none⟩ z
theorem zbS{w:World}{g:Nat}{x y z:Value}{f:Nat→Value}(h:zag w g 3 f)(hx:x.oneCell'=true)(hy:y.oneCell'=true)(hz:z.oneCell'=true) :
  (Instr.storeAt 27 (.pointer (some ⟨g,0,none⟩)) (.agg #[x,y,z])).run Tryz.prog w = .ok () (set3 w g x y z):=by
 have hst:=run_storeCells_cells (P:=Tryz.prog) g 0 [x,y,z] 0 w (fun j hj=>by
   have:=(h j (by simpa using hj)).1;simp only [Nat.zero_add,Nat.add_zero];rw [this];rfl) (fun j hj=>by
   have:=(h j (by simpa using hj)).2;simp only [Nat.zero_add,Nat.add_zero];exact this) (fun u hu=>by
   simp at hu
   rcases hu with rfl|rfl|rfl <;> assumption)
 obtain⟨inf,hi,hs⟩:∃inf,Tryz.prog.info? 27=some inf∧inf.size=3:=by
  have h:=i25
  cases e:Tryz.prog.info? 27 with
  | none=>rw [e]at h;cases h
  | some inf=>rw [e]at h;exact⟨inf,rfl,by simpa using h⟩
 simp [Instr.storeAt,Instr.sureAddr,storeVar,sizeOf,typeInfo,hi,hs,Value.cells]
 exact hst
structure zdT(w W:World)(g:Nat)(x0 x1 x2 y0 y1 y2:Value):Prop where
 bx:Box3 W g x0 x1 x2
 by':Box3 W (g+1) y0 y1 y2
 res:∃f,zag W (g+1+1) 3 f
 el:Elem W (g+1+1) 27
 below:Below w.heap.size w W
 le:w.heap.size≤g
theorem zdT.step{w W W':World}{g:Nat}{x0 x1 x2 y0 y1 y2:Value}(h:zdT w W g x0 x1 x2 y0 y1 y2)(hb:Below W.heap.size W W'):zdT w W' g x0 x1 x2 y0 y1 y2:=by
 obtain⟨f,hf⟩:=h.res;exact⟨h.bx.below hb,h.by'.below hb,⟨f,hf.below (hf.lt (by omega)) hb⟩,h.el.below hb h.el.lt,h.below.trans (hb.mono h.below.size),h.le⟩
theorem zcO(w:World)(x0 x1 x2 y0 y1 y2 z0 z1 z2:Value)(t:TypeId):zdT w (((w.alloc (.cells #[x0,x1,x2] t)).alloc (.cells #[y0,y1,y2] t)).alloc (.cells #[z0,z1,z2] 27)) w.heap.size x0 x1 x2 y0 y1 y2:=by
 have h1:=zaK w x0 x1 x2 t;have h2:=zaK (w.alloc (.cells #[x0,x1,x2] t)) y0 y1 y2 t;have e1:(w.alloc (.cells #[x0,x1,x2] t)).heap.size=w.heap.size+1:=by simp
 have e2:((w.alloc (.cells #[x0,x1,x2] t)).alloc (.cells #[y0,y1,y2] t)).heap.size=w.heap.size+1+1:=by simp
 rw [e1]at h2;refine⟨(h1.below (zaa _ _)).below (zaa _ _),h2.below (zaa _ _),⟨fun i => [z0,z1,z2].getD i z0,?_⟩,by rw [←e2];exact zaO _ _ _,?_,Nat.le_refl _⟩
 ·rw [←e2];exact zag.new _ _ _ fun i hi=>by
   have:i=0∨i=1∨i=2:=by omega
   rcases this with rfl|rfl|rfl <;> rfl
 ·exact(((zaa w _).alloc (by simp) _).alloc (by simp;omega) _)
theorem zab(W:World):Below W.heap.size W W.drew:=⟨rfl,rfl,rfl,Nat.le_refl _,fun _ _=>rfl⟩
theorem zoU(p q:Rat):p+q=(if decide (p.num<0)=decide (q.num<0)then frac (decide (p.num<0)) (p.num.natAbs*q.den+q.num.natAbs*p.den) (p.den*q.den)
  else if q.num.natAbs*p.den≤p.num.natAbs*q.den then frac (decide (p.num<0)) (p.num.natAbs*q.den-q.num.natAbs*p.den) (p.den*q.den)else frac (decide (q.num<0)) (q.num.natAbs*p.den-p.num.natAbs*q.den) (p.den*q.den)):=by
 rw [←zqm p.den_nz q.den_nz,zc6,zc6]
theorem zrS{x y:Nat}{r:Int}(h:zpQ x y r)(hg:y≤x):0≤r:=by
 apply Classical.byContradiction
 intro hno;have:=h.1.1 (by omega);omega
theorem zoq{x y L:Nat}(hx:x<B^L)(hy:y<B^L):x+y<B^(L+1):=by
 rw [Nat.pow_succ];have:B^L*2≤B^L*B:=Nat.mul_le_mul_left _ (by decide);omega
theorem zc0{a:Act}{w w':World}{x y:Operand}{g:Nat}{v:Value}{d:Option Tmp}{ty:TypeId}{ps:String}{af:Array Edge}{gd:Option (Nat × Bool)}(hx:a.eval x = .pointer (some ⟨g,0,none⟩))(hy:a.eval y=v)
  (h:(Instr.storeAt 27 (.pointer (some ⟨g,0,none⟩)) v).run Tryz.prog w = .ok () w'):(execOp a.eval {op:=.store 27 x y,dst:=d,type:=ty,pos:=ps,after:=af,guard:=gd}).run Tryz.prog w = .ok .skip w':=by
 simp [execOp,hx,hy,h]
theorem zgC(w:World)(va vb:Value)(p q:Rat)(L:Nat)(ha:zaj w va p)(hb:zaj w vb q)(hp:zad p L)(hq:zad q L)(hL:L≤1000000) :
  CallsIn Fence.wide 0 Tryz.prog 71 #[va,vb] w fun e w'=>∃v',e = .returned v'∧zaj w' v' (p+q)∧Below w.heap.size w w':=by
 have HA:=zHi ha;have HB:=zHi hb;have HP:=zHi hp;have HQ:=zHi hq;obtain⟨an,ad,rfl,han,had⟩:=ha;obtain⟨bn,bd,rfl,hbn,hbd⟩:=hb;have HAN:=zHi han;have HBN:=zHi hbn;obtain⟨na,hna⟩:∃na,decide (p.num<0)=na:=⟨_,rfl⟩;obtain⟨nb,hnb⟩:∃nb,decide (q.num<0)=nb:=⟨_,rfl⟩;rw [hna]at HA;rw [hnb]at HB;rw [hna,hnb];have HNA:=zHi hna;have HNB:=zHi hnb;clear han had hbn hbd hna hnb hp hq;refine callsIn_of_wp Tryz.func71 rfl trivial ?_ rfl;simp only [Tryz.ntmps71,zsj,zsk,zsl,Nat.reduceAdd,Nat.reduceSub,zsm,zsn,zso,zsp,zsq,zsr];gi_wp2;obtain⟨W,hW⟩:∃W,W=((w.alloc (Obj.cells #[Value.bool na,an,ad] 27)).alloc (Obj.cells #[Value.bool nb,bn,bd] 27)).alloc (Obj.cells #[Value.bool false,Value.slice none 0 0,Value.slice none 0 0] 27):=⟨_,rfl⟩;rw [←hW];have HK:Hid (zdT w W.drew w.heap.size (.bool na) an ad (.bool nb) bn bd):=by
  rw [hW];exact(zcO w _ _ _ _ _ _ _ _ _ _).step (zab _)
 obtain⟨g,hg⟩:∃g,w.heap.size=g:=⟨_,rfl⟩;rw [hg]at HK;rw [hg];clear hW;refine zan (ro:=none) [3,4,8,9] [0,1,2,5,6,7,3,4,8,9,10,11] [0,1,0,4,15,0,32,0,159,511,1023,2047] zak 57 rfl (by kernel_rfl) (by kernel_rfl) ?_;refine OW.fieldAddr rfl rfl ziR rfl ?_;simp only [Go.Act.put,zss,zst,zsu];refine OW.load rfl rfl l23 HK.out.bx.c1 rfl ?_;simp only [Go.Act.put,zss,zst,zsu];refine OW.loadAll rfl rfl l25 (cs:=[.bool nb,bn,bd]) rfl (by decide) HK.out.by' rfl ?_;simp only [Go.Act.put,zss,zst,zsu];refine OW.fieldAddr rfl rfl ziR rfl ?_;simp only [Go.Act.put,zss,zst,zsu];refine OW.load rfl rfl l23 HK.out.by'.c1 rfl ?_;simp only [Go.Act.put,zss,zst,zsu];refine OW.loadAll rfl rfl l25 (cs:=[.bool na,an,ad]) rfl (by decide) HK.out.bx rfl ?_;simp only [Go.Act.put,zss,zst,zsu];refine OW.call rfl rfl Tryz.func132 rfl zac (args:=[.agg #[.bool nb,bn,bd]]) rfl ?_;refine(zbb W.drew _ q (HB.out.below HK.out.below)).mono ?_;rintro e w1 ⟨v1,rfl,hm1,hB1⟩;refine⟨v1,rfl,hB1,?_⟩;simp only [Go.Act.put,zss,zst,zsu];have HK1:=zHi (HK.out.step hB1);have HM1:=zHi hm1;clear hm1 hB1 HK;refine OW.call rfl rfl Tryz.func131 rfl zac (args:=[an,v1]) rfl ?_;refine(zbX w1 an v1 p.num.natAbs q.den L (HAN.out.below HK1.out.below) HM1.out HP.out.1 HQ.out.2 (by omega)).mono ?_;rintro e w2 ⟨v2,rfl,⟨hm2,_⟩,hB2⟩;refine⟨v2,rfl,hB2,?_⟩;simp only [Go.Act.put,zss,zst,zsu];have HK2:=zHi (HK1.out.step hB2);have HM2:=zHi hm2;clear hm2 hB2 HK1 HM1;refine OW.call rfl rfl Tryz.func132 rfl zac (args:=[.agg #[.bool na,an,ad]]) rfl ?_;refine(zbb w2 _ p (HA.out.below HK2.out.below)).mono ?_;rintro e w3 ⟨v3,rfl,hm3,hB3⟩;refine⟨v3,rfl,hB3,?_⟩;simp only [Go.Act.put,zss,zst,zsu];have HK3:=zHi (HK2.out.step hB3);have HM23:=zHi (HM2.out.below hB3);have HM3:=zHi hm3;clear hm3 hB3 HK2 HM2;refine OW.call rfl rfl Tryz.func131 rfl zac (args:=[bn,v3]) rfl ?_;refine(zbX w3 bn v3 q.num.natAbs p.den L (HBN.out.below HK3.out.below) HM3.out HQ.out.1 HP.out.2 (by omega)).mono ?_;rintro e w4 ⟨v4,rfl,⟨hm4,_⟩,hB4⟩;refine⟨v4,rfl,hB4,?_⟩;simp only [Go.Act.put,zss,zst,zsu];have HK4:=zHi (HK3.out.step hB4);have HM24:=zHi (HM23.out.below hB4);have HM4:=zHi hm4;clear hm4 hB4 HK3 HM3 HM23;refine OW.assign rfl rfl v2 rfl ?_;simp only [Go.Act.put,zss,zst,zsu];refine OW.assign rfl rfl v4 rfl ?_;simp only [Go.Act.put,zss,zst,zsu];refine OW.done ?_;gi_wp2;refine zan (ro:=none) [1,3,4] [0,2,1,3,4,5] [0,1,0,7,15,31] zak 57 rfl (by kernel_rfl) (by kernel_rfl) ?_;have HK5:=zHi (HK4.out.step (zab _));have HM25:=zHi (HM24.out.below (zab _));have HM5:=zHi (HM4.out.below (zab _));clear HK4 HM24 HM4;refine OW.loadAll rfl rfl l25 (cs:=[.bool na,an,ad]) rfl (by decide) HK5.out.bx rfl ?_;simp only [Go.Act.put,zss,zst,zsu];refine OW.loadAll rfl rfl l25 (cs:=[.bool nb,bn,bd]) rfl (by decide) HK5.out.by' rfl ?_;simp only [Go.Act.put,zss,zst,zsu];refine OW.call rfl rfl Tryz.func132 rfl zac (args:=[.agg #[.bool na,an,ad]]) rfl ?_;refine(zbb w4.drew _ p (HA.out.below HK5.out.below)).mono ?_;rintro e w6 ⟨v6,rfl,hm6,hB6⟩;refine⟨v6,rfl,hB6,?_⟩;simp only [Go.Act.put,zss,zst,zsu];have HK6:=zHi (HK5.out.step hB6);have HM26:=zHi (HM25.out.below hB6);have HM46:=zHi (HM5.out.below hB6);have HM6:=zHi hm6;clear hm6 hB6 HK5 HM25 HM5;refine OW.call rfl rfl Tryz.func132 rfl zac (args:=[.agg #[.bool nb,bn,bd]]) rfl ?_;refine(zbb w6 _ q (HB.out.below HK6.out.below)).mono ?_;rintro e w7 ⟨v7,rfl,hm7,hB7⟩;refine⟨v7,rfl,hB7,?_⟩;simp only [Go.Act.put,zss,zst,zsu];have HK7:=zHi (HK6.out.step hB7);have HM27:=zHi (HM26.out.below hB7);have HM47:=zHi (HM46.out.below hB7);have HM67:=zHi (HM6.out.below hB7);have HM7:=zHi hm7;clear hm7 hB7 HK6 HM26 HM46 HM6;refine OW.call rfl rfl Tryz.func131 rfl zac (args:=[v6,v7]) rfl ?_;refine(zbX w7 v6 v7 p.den q.den L HM67.out HM7.out HP.out.2 HQ.out.2 (by omega)).mono ?_;rintro e w8 ⟨v8,rfl,⟨hm8,_⟩,hB8⟩;refine⟨v8,rfl,hB8,?_⟩;simp only [Go.Act.put,zss,zst,zsu];have HK8:=zHi (HK7.out.step hB8);have HM28:=zHi (HM27.out.below hB8);have HM48:=zHi (HM47.out.below hB8);have HM8:=zHi hm8;clear hm8 hB8 HK7 HM27 HM47 HM67 HM7;refine OW.assign rfl rfl v8 rfl ?_;simp only [Go.Act.put,zss,zst,zsu];refine OW.done ?_;have hS:=zoU p q;rw [HNA.out,HNB.out]at hS;have h1L:p.num.natAbs*q.den<B^(L+L):=zaI HP.out.1 HQ.out.2;have h2L:q.num.natAbs*p.den<B^(L+L):=zaI HQ.out.1 HP.out.2;have h3L:p.den*q.den<B^(L+L):=zaI HP.out.2 HQ.out.2;have h30:p.den*q.den≠0:=Nat.mul_ne_zero p.den_nz q.den_nz;obtain⟨x,hx⟩:∃x,p.num.natAbs*q.den=x:=⟨_,rfl⟩;obtain⟨y,hy⟩:∃y,q.num.natAbs*p.den=y:=⟨_,rfl⟩;obtain⟨D,hD⟩:∃D,p.den*q.den=D:=⟨_,rfl⟩;rw [hx,hy,hD]at hS;rw [hx]at h1L HM28;rw [hy]at h2L HM48;rw [hD]at h3L h30 HM8;have HS:=zHi hS;have H1L:=zHi h1L;have H2L:=zHi h2L;have H3L:=zHi h3L;clear hx hy hD hS h1L h2L h3L HA HB HAN HBN HP HQ HNA HNB;gi_wp2_with (gi_at_call 135;refine stop ?_)
 unfold Stop;refine(zea w8 v2 v4 x y HM28.out HM48.out).mono ?_;rintro e w9 ⟨r,hr,rfl,hB9⟩;have HK9:=zHi (HK8.out.step hB9);have HM29:=zHi (HM28.out.below hB9);have HM49:=zHi (HM48.out.below hB9);have HM89:=zHi (HM8.out.below hB9);have HR:=zHi hr;have ca:=HK9.out.bx.c0;have cb:=HK9.out.by'.c0;clear hB9 hr HK8 HM28 HM48 HM8;by_cases hab:na=nb
 ·have HSum:=HS.out;rw [if_pos hab]at HSum;subst hab;obtain⟨ng,hng⟩:∃ng,ng=na:=⟨_,rfl⟩
  cases na
  ·gi_wp2;refine zan (ro:=none) [4,6,7] [0,1,2,3,5,4,6,7] [0,1,0,0,12,0,63,127] zak 57 rfl (by kernel_rfl) (by kernel_rfl) ?_;have HKa:=zHi (HK9.out.step (zab _));have HM2a:=zHi (HM29.out.below (zab _));have HM4a:=zHi (HM49.out.below (zab _));have HM8a:=zHi (HM89.out.below (zab _));clear HK9 HM29 HM49 HM89 ca cb;refine OW.fieldAddr rfl rfl ziS rfl ?_;simp only [Go.Act.put,zss,zst,zsu];refine OW.load rfl rfl l4 HKa.out.bx.c0 rfl ?_;simp only [Go.Act.put,zss,zst,zsu];refine OW.move rfl rfl v2 rfl ?_;simp only [Go.Act.put,zss,zst,zsu];refine OW.move rfl rfl v4 rfl ?_;simp only [Go.Act.put,zss,zst,zsu];refine OW.move rfl rfl v8 rfl ?_;simp only [Go.Act.put,zss,zst,zsu];refine OW.call rfl rfl Tryz.func136 rfl zac (args:=[v2,v4]) rfl ?_;refine(zlA w9.drew v2 v4 x y (L+L) HM2a.out HM4a.out H1L.out H2L.out (by omega)).mono ?_;rintro e w10 ⟨v10,rfl,⟨hm10,_⟩,hB10⟩;refine⟨v10,rfl,hB10,?_⟩;simp only [Go.Act.put,zss,zst,zsu];have HKb:=zHi (HKa.out.step hB10);have HM8b:=zHi (HM8a.out.below hB10);have HM10:=zHi hm10;clear hm10 hB10 HKa HM2a HM4a HM8a;refine OW.call rfl rfl Tryz.func130 rfl zac (args:=[.bool false,v10,v8]) rfl ?_;refine(zbz w10 false v10 v8 (x+y) D (L+L+1) HM10.out HM8b.out h30 ?_ ?_ (by omega)).mono ?_
   ·exact zoq H1L.out H2L.out
   ·exact Nat.lt_of_lt_of_le H3L.out (zah (by omega))
   rintro e w11 ⟨v11,rfl,hm11,hB11⟩;refine⟨v11,rfl,hB11,?_⟩;simp only [Go.Act.put,zss,zst,zsu];have HKc:=zHi (HKb.out.step hB11);obtain⟨o,k,c,o2,k2,c2,rfl⟩:=hm11.form;have HR11:=zHi hm11;obtain⟨f,hf⟩:=HKc.out.res;have hst:=zbS hf (x:=.bool (decide ((frac false (x+y) D).num<0))) (y:=.slice o k c) (z:=.slice o2 k2 c2) rfl rfl rfl;clear hm11 hB11 HKb HM8b HM10;refine OW.store (w':=set3 w11 (g+1+1) (.bool (decide ((frac false (x+y) D).num<0))) (.slice o k c) (.slice o2 k2 c2)) rfl rfl (by decide) (zc0 rfl rfl hst) ?_;simp only [Go.Act.put];refine OW.done ?_;gi_wp2;refine zbe rfl rfl (g+1+1) rfl (hf 0 (by omega)).1 (hf 1 (by omega)).1 (hf 2 (by omega)).1 ?_;refine⟨_,rfl,?_,?_⟩
   ·rw [HSum];exact((HR11.out.setElem HKc.out.el (by decide)).setElem (HKc.out.el.setCell _ _) (by decide)).setElem ((HKc.out.el.setCell _ _).setCell _ _) (by decide)
   ·have hle:=HKc.out.le;exact((HKc.out.below.setCell (by show w.heap.size≤g+1+1;omega) _).setCell (by show w.heap.size≤g+1+1;omega) _).setCell (by show w.heap.size≤g+1+1;omega) _
  ·gi_wp2;refine zan (ro:=none) [4,6,7] [0,1,2,3,5,4,6,7] [0,1,0,0,12,0,63,127] zak 57 rfl (by kernel_rfl) (by kernel_rfl) ?_;have HKa:=zHi (HK9.out.step (zab _));have HM2a:=zHi (HM29.out.below (zab _));have HM4a:=zHi (HM49.out.below (zab _));have HM8a:=zHi (HM89.out.below (zab _));clear HK9 HM29 HM49 HM89 ca cb;refine OW.fieldAddr rfl rfl ziS rfl ?_;simp only [Go.Act.put,zss,zst,zsu];refine OW.load rfl rfl l4 HKa.out.bx.c0 rfl ?_;simp only [Go.Act.put,zss,zst,zsu];refine OW.move rfl rfl v2 rfl ?_;simp only [Go.Act.put,zss,zst,zsu];refine OW.move rfl rfl v4 rfl ?_;simp only [Go.Act.put,zss,zst,zsu];refine OW.move rfl rfl v8 rfl ?_;simp only [Go.Act.put,zss,zst,zsu];refine OW.call rfl rfl Tryz.func136 rfl zac (args:=[v2,v4]) rfl ?_;refine(zlA w9.drew v2 v4 x y (L+L) HM2a.out HM4a.out H1L.out H2L.out (by omega)).mono ?_;rintro e w10 ⟨v10,rfl,⟨hm10,_⟩,hB10⟩;refine⟨v10,rfl,hB10,?_⟩;simp only [Go.Act.put,zss,zst,zsu];have HKb:=zHi (HKa.out.step hB10);have HM8b:=zHi (HM8a.out.below hB10);have HM10:=zHi hm10;clear hm10 hB10 HKa HM2a HM4a HM8a;refine OW.call rfl rfl Tryz.func130 rfl zac (args:=[.bool true,v10,v8]) rfl ?_;refine(zbz w10 true v10 v8 (x+y) D (L+L+1) HM10.out HM8b.out h30 ?_ ?_ (by omega)).mono ?_
   ·exact zoq H1L.out H2L.out
   ·exact Nat.lt_of_lt_of_le H3L.out (zah (by omega))
   rintro e w11 ⟨v11,rfl,hm11,hB11⟩;refine⟨v11,rfl,hB11,?_⟩;simp only [Go.Act.put,zss,zst,zsu];have HKc:=zHi (HKb.out.step hB11);obtain⟨o,k,c,o2,k2,c2,rfl⟩:=hm11.form;have HR11:=zHi hm11;obtain⟨f,hf⟩:=HKc.out.res;have hst:=zbS hf (x:=.bool (decide ((frac true (x+y) D).num<0))) (y:=.slice o k c) (z:=.slice o2 k2 c2) rfl rfl rfl;clear hm11 hB11 HKb HM8b HM10;refine OW.store (w':=set3 w11 (g+1+1) (.bool (decide ((frac true (x+y) D).num<0))) (.slice o k c) (.slice o2 k2 c2)) rfl rfl (by decide) (zc0 rfl rfl hst) ?_;simp only [Go.Act.put];refine OW.done ?_;gi_wp2;refine zbe rfl rfl (g+1+1) rfl (hf 0 (by omega)).1 (hf 1 (by omega)).1 (hf 2 (by omega)).1 ?_;refine⟨_,rfl,?_,?_⟩
   ·rw [HSum];exact((HR11.out.setElem HKc.out.el (by decide)).setElem (HKc.out.el.setCell _ _) (by decide)).setElem ((HKc.out.el.setCell _ _).setCell _ _) (by decide)
   ·have hle:=HKc.out.le;exact((HKc.out.below.setCell (by show w.heap.size≤g+1+1;omega) _).setCell (by show w.heap.size≤g+1+1;omega) _).setCell (by show w.heap.size≤g+1+1;omega) _
 ·have HSum:=HS.out;rw [if_neg hab]at HSum;by_cases hyx:y≤x
  ·rw [if_pos hyx]at HSum;have hr0:0≤r:=zrS HR.out hyx
   cases na <;> cases nb
   ·exact absurd rfl hab
   ·gi_wp2;refine zan (ro:=none) [4,6,7] [0,1,2,3,5,4,6,7] [0,1,0,0,12,0,63,127] zak 57 rfl (by kernel_rfl) (by kernel_rfl) ?_;have HKa:=zHi (HK9.out.step (zab _));have HM2a:=zHi (HM29.out.below (zab _));have HM4a:=zHi (HM49.out.below (zab _));have HM8a:=zHi (HM89.out.below (zab _));clear HK9 HM29 HM49 HM89 ca cb;refine OW.fieldAddr rfl rfl ziS rfl ?_;simp only [Go.Act.put,zss,zst,zsu];refine OW.load rfl rfl l4 HKa.out.bx.c0 rfl ?_;simp only [Go.Act.put,zss,zst,zsu];refine OW.move rfl rfl v2 rfl ?_;simp only [Go.Act.put,zss,zst,zsu];refine OW.move rfl rfl v4 rfl ?_;simp only [Go.Act.put,zss,zst,zsu];refine OW.move rfl rfl v8 rfl ?_;simp only [Go.Act.put,zss,zst,zsu];refine OW.call rfl rfl Tryz.func137 rfl zac (args:=[v2,v4]) rfl ?_;refine(zcZ w9.drew v2 v4 x y (L+L) HM2a.out HM4a.out hyx H1L.out (by omega)).mono ?_;rintro e w10 ⟨v10,rfl,⟨hm10,_⟩,hB10⟩;refine⟨v10,rfl,hB10,?_⟩;simp only [Go.Act.put,zss,zst,zsu];have HKb:=zHi (HKa.out.step hB10);have HM8b:=zHi (HM8a.out.below hB10);have HM10:=zHi hm10;clear hm10 hB10 HKa HM2a HM4a HM8a;refine OW.call rfl rfl Tryz.func130 rfl zac (args:=[.bool false,v10,v8]) rfl ?_;refine(zbz w10 false v10 v8 (x-y) D (L+L+1) HM10.out HM8b.out h30 ?_ ?_ (by omega)).mono ?_
    ·exact Nat.lt_of_le_of_lt (Nat.sub_le _ _) (Nat.lt_of_lt_of_le H1L.out (zah (by omega)))
    ·exact Nat.lt_of_lt_of_le H3L.out (zah (by omega))
    rintro e w11 ⟨v11,rfl,hm11,hB11⟩;refine⟨v11,rfl,hB11,?_⟩;simp only [Go.Act.put,zss,zst,zsu];have HKc:=zHi (HKb.out.step hB11);obtain⟨o,k,c,o2,k2,c2,rfl⟩:=hm11.form;have HR11:=zHi hm11;obtain⟨f,hf⟩:=HKc.out.res;have hst:=zbS hf (x:=.bool (decide ((frac false (x-y) D).num<0))) (y:=.slice o k c) (z:=.slice o2 k2 c2) rfl rfl rfl;clear hm11 hB11 HKb HM8b HM10;refine OW.store (w':=set3 w11 (g+1+1) (.bool (decide ((frac false (x-y) D).num<0))) (.slice o k c) (.slice o2 k2 c2)) rfl rfl (by decide) (zc0 rfl rfl hst) ?_;simp only [Go.Act.put];refine OW.done ?_;gi_wp2;refine zbe rfl rfl (g+1+1) rfl (hf 0 (by omega)).1 (hf 1 (by omega)).1 (hf 2 (by omega)).1 ?_;refine⟨_,rfl,?_,?_⟩
    ·rw [HSum];exact((HR11.out.setElem HKc.out.el (by decide)).setElem (HKc.out.el.setCell _ _) (by decide)).setElem ((HKc.out.el.setCell _ _).setCell _ _) (by decide)
    ·have hle:=HKc.out.le;exact((HKc.out.below.setCell (by show w.heap.size≤g+1+1;omega) _).setCell (by show w.heap.size≤g+1+1;omega) _).setCell (by show w.heap.size≤g+1+1;omega) _
   ·gi_wp2;refine zan (ro:=none) [4,6,7] [0,1,2,3,5,4,6,7] [0,1,0,0,12,0,63,127] zak 57 rfl (by kernel_rfl) (by kernel_rfl) ?_;have HKa:=zHi (HK9.out.step (zab _));have HM2a:=zHi (HM29.out.below (zab _));have HM4a:=zHi (HM49.out.below (zab _));have HM8a:=zHi (HM89.out.below (zab _));clear HK9 HM29 HM49 HM89 ca cb;refine OW.fieldAddr rfl rfl ziS rfl ?_;simp only [Go.Act.put,zss,zst,zsu];refine OW.load rfl rfl l4 HKa.out.bx.c0 rfl ?_;simp only [Go.Act.put,zss,zst,zsu];refine OW.move rfl rfl v2 rfl ?_;simp only [Go.Act.put,zss,zst,zsu];refine OW.move rfl rfl v4 rfl ?_;simp only [Go.Act.put,zss,zst,zsu];refine OW.move rfl rfl v8 rfl ?_;simp only [Go.Act.put,zss,zst,zsu];refine OW.call rfl rfl Tryz.func137 rfl zac (args:=[v2,v4]) rfl ?_;refine(zcZ w9.drew v2 v4 x y (L+L) HM2a.out HM4a.out hyx H1L.out (by omega)).mono ?_;rintro e w10 ⟨v10,rfl,⟨hm10,_⟩,hB10⟩;refine⟨v10,rfl,hB10,?_⟩;simp only [Go.Act.put,zss,zst,zsu];have HKb:=zHi (HKa.out.step hB10);have HM8b:=zHi (HM8a.out.below hB10);have HM10:=zHi hm10;clear hm10 hB10 HKa HM2a HM4a HM8a;refine OW.call rfl rfl Tryz.func130 rfl zac (args:=[.bool true,v10,v8]) rfl ?_;refine(zbz w10 true v10 v8 (x-y) D (L+L+1) HM10.out HM8b.out h30 ?_ ?_ (by omega)).mono ?_
    ·exact Nat.lt_of_le_of_lt (Nat.sub_le _ _) (Nat.lt_of_lt_of_le H1L.out (zah (by omega)))
    ·exact Nat.lt_of_lt_of_le H3L.out (zah (by omega))
    rintro e w11 ⟨v11,rfl,hm11,hB11⟩;refine⟨v11,rfl,hB11,?_⟩;simp only [Go.Act.put,zss,zst,zsu];have HKc:=zHi (HKb.out.step hB11);obtain⟨o,k,c,o2,k2,c2,rfl⟩:=hm11.form;have HR11:=zHi hm11;obtain⟨f,hf⟩:=HKc.out.res;have hst:=zbS hf (x:=.bool (decide ((frac true (x-y) D).num<0))) (y:=.slice o k c) (z:=.slice o2 k2 c2) rfl rfl rfl;clear hm11 hB11 HKb HM8b HM10;refine OW.store (w':=set3 w11 (g+1+1) (.bool (decide ((frac true (x-y) D).num<0))) (.slice o k c) (.slice o2 k2 c2)) rfl rfl (by decide) (zc0 rfl rfl hst) ?_;simp only [Go.Act.put];refine OW.done ?_;gi_wp2;refine zbe rfl rfl (g+1+1) rfl (hf 0 (by omega)).1 (hf 1 (by omega)).1 (hf 2 (by omega)).1 ?_;refine⟨_,rfl,?_,?_⟩
    ·rw [HSum];exact((HR11.out.setElem HKc.out.el (by decide)).setElem (HKc.out.el.setCell _ _) (by decide)).setElem ((HKc.out.el.setCell _ _).setCell _ _) (by decide)
    ·have hle:=HKc.out.le;exact((HKc.out.below.setCell (by show w.heap.size≤g+1+1;omega) _).setCell (by show w.heap.size≤g+1+1;omega) _).setCell (by show w.heap.size≤g+1+1;omega) _
   ·exact absurd rfl hab
  ·rw [if_neg hyx]at HSum;have hr0:r<0:=HR.out.1.2 (by omega);have hr1:¬0≤r:=by omega
   cases na <;> cases nb
   ·exact absurd rfl hab
   ·gi_wp2;refine zan (ro:=none) [4,6,7] [0,1,2,3,5,4,6,7] [0,1,0,0,12,0,63,127] zak 57 rfl (by kernel_rfl) (by kernel_rfl) ?_;have HKa:=zHi (HK9.out.step (zab _));have HM2a:=zHi (HM29.out.below (zab _));have HM4a:=zHi (HM49.out.below (zab _));have HM8a:=zHi (HM89.out.below (zab _));clear HK9 HM29 HM49 HM89 ca cb;refine OW.fieldAddr rfl rfl ziS rfl ?_;simp only [Go.Act.put,zss,zst,zsu];refine OW.load rfl rfl l4 HKa.out.by'.c0 rfl ?_;simp only [Go.Act.put,zss,zst,zsu];refine OW.move rfl rfl v4 rfl ?_;simp only [Go.Act.put,zss,zst,zsu];refine OW.move rfl rfl v2 rfl ?_;simp only [Go.Act.put,zss,zst,zsu];refine OW.move rfl rfl v8 rfl ?_;simp only [Go.Act.put,zss,zst,zsu];refine OW.call rfl rfl Tryz.func137 rfl zac (args:=[v4,v2]) rfl ?_;refine(zcZ w9.drew v4 v2 y x (L+L) HM4a.out HM2a.out (by omega) H2L.out (by omega)).mono ?_;rintro e w10 ⟨v10,rfl,⟨hm10,_⟩,hB10⟩;refine⟨v10,rfl,hB10,?_⟩;simp only [Go.Act.put,zss,zst,zsu];have HKb:=zHi (HKa.out.step hB10);have HM8b:=zHi (HM8a.out.below hB10);have HM10:=zHi hm10;clear hm10 hB10 HKa HM2a HM4a HM8a;refine OW.call rfl rfl Tryz.func130 rfl zac (args:=[.bool true,v10,v8]) rfl ?_;refine(zbz w10 true v10 v8 (y-x) D (L+L+1) HM10.out HM8b.out h30 ?_ ?_ (by omega)).mono ?_
    ·exact Nat.lt_of_le_of_lt (Nat.sub_le _ _) (Nat.lt_of_lt_of_le H2L.out (zah (by omega)))
    ·exact Nat.lt_of_lt_of_le H3L.out (zah (by omega))
    rintro e w11 ⟨v11,rfl,hm11,hB11⟩;refine⟨v11,rfl,hB11,?_⟩;simp only [Go.Act.put,zss,zst,zsu];have HKc:=zHi (HKb.out.step hB11);obtain⟨o,k,c,o2,k2,c2,rfl⟩:=hm11.form;have HR11:=zHi hm11;obtain⟨f,hf⟩:=HKc.out.res;have hst:=zbS hf (x:=.bool (decide ((frac true (y-x) D).num<0))) (y:=.slice o k c) (z:=.slice o2 k2 c2) rfl rfl rfl;clear hm11 hB11 HKb HM8b HM10;refine OW.store (w':=set3 w11 (g+1+1) (.bool (decide ((frac true (y-x) D).num<0))) (.slice o k c) (.slice o2 k2 c2)) rfl rfl (by decide) (zc0 rfl rfl hst) ?_;simp only [Go.Act.put];refine OW.done ?_;gi_wp2;refine zbe rfl rfl (g+1+1) rfl (hf 0 (by omega)).1 (hf 1 (by omega)).1 (hf 2 (by omega)).1 ?_;refine⟨_,rfl,?_,?_⟩
    ·rw [HSum];exact((HR11.out.setElem HKc.out.el (by decide)).setElem (HKc.out.el.setCell _ _) (by decide)).setElem ((HKc.out.el.setCell _ _).setCell _ _) (by decide)
    ·have hle:=HKc.out.le;exact((HKc.out.below.setCell (by show w.heap.size≤g+1+1;omega) _).setCell (by show w.heap.size≤g+1+1;omega) _).setCell (by show w.heap.size≤g+1+1;omega) _
   ·gi_wp2;refine zan (ro:=none) [4,6,7] [0,1,2,3,5,4,6,7] [0,1,0,0,12,0,63,127] zak 57 rfl (by kernel_rfl) (by kernel_rfl) ?_;have HKa:=zHi (HK9.out.step (zab _));have HM2a:=zHi (HM29.out.below (zab _));have HM4a:=zHi (HM49.out.below (zab _));have HM8a:=zHi (HM89.out.below (zab _));clear HK9 HM29 HM49 HM89 ca cb;refine OW.fieldAddr rfl rfl ziS rfl ?_;simp only [Go.Act.put,zss,zst,zsu];refine OW.load rfl rfl l4 HKa.out.by'.c0 rfl ?_;simp only [Go.Act.put,zss,zst,zsu];refine OW.move rfl rfl v4 rfl ?_;simp only [Go.Act.put,zss,zst,zsu];refine OW.move rfl rfl v2 rfl ?_;simp only [Go.Act.put,zss,zst,zsu];refine OW.move rfl rfl v8 rfl ?_;simp only [Go.Act.put,zss,zst,zsu];refine OW.call rfl rfl Tryz.func137 rfl zac (args:=[v4,v2]) rfl ?_;refine(zcZ w9.drew v4 v2 y x (L+L) HM4a.out HM2a.out (by omega) H2L.out (by omega)).mono ?_;rintro e w10 ⟨v10,rfl,⟨hm10,_⟩,hB10⟩;refine⟨v10,rfl,hB10,?_⟩;simp only [Go.Act.put,zss,zst,zsu];have HKb:=zHi (HKa.out.step hB10);have HM8b:=zHi (HM8a.out.below hB10);have HM10:=zHi hm10;clear hm10 hB10 HKa HM2a HM4a HM8a;refine OW.call rfl rfl Tryz.func130 rfl zac (args:=[.bool false,v10,v8]) rfl ?_;refine(zbz w10 false v10 v8 (y-x) D (L+L+1) HM10.out HM8b.out h30 ?_ ?_ (by omega)).mono ?_
    ·exact Nat.lt_of_le_of_lt (Nat.sub_le _ _) (Nat.lt_of_lt_of_le H2L.out (zah (by omega)))
    ·exact Nat.lt_of_lt_of_le H3L.out (zah (by omega))
    rintro e w11 ⟨v11,rfl,hm11,hB11⟩;refine⟨v11,rfl,hB11,?_⟩;simp only [Go.Act.put,zss,zst,zsu];have HKc:=zHi (HKb.out.step hB11);obtain⟨o,k,c,o2,k2,c2,rfl⟩:=hm11.form;have HR11:=zHi hm11;obtain⟨f,hf⟩:=HKc.out.res;have hst:=zbS hf (x:=.bool (decide ((frac false (y-x) D).num<0))) (y:=.slice o k c) (z:=.slice o2 k2 c2) rfl rfl rfl;clear hm11 hB11 HKb HM8b HM10;refine OW.store (w':=set3 w11 (g+1+1) (.bool (decide ((frac false (y-x) D).num<0))) (.slice o k c) (.slice o2 k2 c2)) rfl rfl (by decide) (zc0 rfl rfl hst) ?_;simp only [Go.Act.put];refine OW.done ?_;gi_wp2;refine zbe rfl rfl (g+1+1) rfl (hf 0 (by omega)).1 (hf 1 (by omega)).1 (hf 2 (by omega)).1 ?_;refine⟨_,rfl,?_,?_⟩
    ·rw [HSum];exact((HR11.out.setElem HKc.out.el (by decide)).setElem (HKc.out.el.setCell _ _) (by decide)).setElem ((HKc.out.el.setCell _ _).setCell _ _) (by decide)
    ·have hle:=HKc.out.le;exact((HKc.out.below.setCell (by show w.heap.size≤g+1+1;omega) _).setCell (by show w.heap.size≤g+1+1;omega) _).setCell (by show w.heap.size≤g+1+1;omega) _
   ·exact absurd rfl hab
theorem zmS(p q:Rat):p*q=frac (decide (p.num<0) != decide (q.num<0)) (p.num.natAbs*q.num.natAbs) (p.den*q.den):=by
 rw [←zjs,zc6,zc6]
theorem zmR(p q:Rat):p/q=frac (decide (p.num<0) != decide (q.num<0)) (p.num.natAbs*q.den) (p.den*q.num.natAbs):=by
 rw [←zli,zc6,zc6]
theorem zhy(w:World)(va vb:Value)(p q:Rat)(L:Nat)(ha:zaj w va p)(hb:zaj w vb q)(hp:zad p L)(hq:zad q L)(hL:L≤1000000) :
  CallsIn Fence.wide 0 Tryz.prog 111 #[va,vb] w fun e w'=>∃v',e = .returned v'∧zaj w' v' (p*q)∧Below w.heap.size w w':=by
 have HA:=zHi ha;have HB:=zHi hb;have HP:=zHi hp;have HQ:=zHi hq;obtain⟨an,ad,rfl,han,had⟩:=ha;obtain⟨bn,bd,rfl,hbn,hbd⟩:=hb;have HAN:=zHi han;have HBN:=zHi hbn;have hS:=zmS p q;obtain⟨na,hna⟩:∃na,decide (p.num<0)=na:=⟨_,rfl⟩;obtain⟨nb,hnb⟩:∃nb,decide (q.num<0)=nb:=⟨_,rfl⟩;rw [hna]at HA hS;rw [hnb]at HB hS;rw [hna,hnb];have HSum:=zHi hS;clear han had hbn hbd hna hnb hp hq hS;refine callsIn_of_wp Tryz.func111 rfl trivial ?_ rfl;simp only [Tryz.ntmps111,zsj,zsk,zsl,Nat.reduceAdd,Nat.reduceSub,zsm,zsn,zso,zsp,zsq,zsr];gi_wp2;obtain⟨W,hW⟩:∃W,W=((w.alloc (Obj.cells #[Value.bool na,an,ad] 27)).alloc (Obj.cells #[Value.bool nb,bn,bd] 27)).alloc (Obj.cells #[Value.bool false,Value.slice none 0 0,Value.slice none 0 0] 27):=⟨_,rfl⟩;rw [←hW];have HK:Hid (zdT w W w.heap.size (.bool na) an ad (.bool nb) bn bd):=by
  rw [hW];exact zcO w _ _ _ _ _ _ _ _ _ _
 replace HA:=zHi (HA.out.below HK.out.below);replace HB:=zHi (HB.out.below HK.out.below);replace HAN:=zHi (HAN.out.below HK.out.below);replace HBN:=zHi (HBN.out.below HK.out.below);obtain⟨g,hg⟩:∃g,w.heap.size=g:=⟨_,rfl⟩;rw [hg]at HK;rw [hg];clear hW;refine zan (ro:=none) [9,11,13,14,15,16] [0,1,2,3,4,5,6,7,8,10,12,9,11,13,14,15,16] [0,1,0,4,15,0,32,0,128,480,0,2016,0,8160,16352,32767,65535] zak 21 rfl (by kernel_rfl) (by kernel_rfl) ?_;replace HK:=zHi (HK.out.step (zab _));replace HA:=zHi (HA.out.below (zab _));replace HB:=zHi (HB.out.below (zab _));replace HAN:=zHi (HAN.out.below (zab _));replace HBN:=zHi (HBN.out.below (zab _));refine OW.fieldAddr rfl rfl ziS rfl ?_;simp only [Go.Act.put,zss,zst,zsu];refine OW.load rfl rfl l4 HK.out.bx.c0 rfl ?_;simp only [Go.Act.put,zss,zst,zsu];refine OW.fieldAddr rfl rfl ziS rfl ?_;simp only [Go.Act.put,zss,zst,zsu];refine OW.load rfl rfl l4 HK.out.by'.c0 rfl ?_;simp only [Go.Act.put,zss,zst,zsu];refine OW.neqBool rfl rfl ub4 rfl rfl ?_;simp only [Go.Act.put,zss,zst,zsu];refine OW.fieldAddr rfl rfl ziR rfl ?_;simp only [Go.Act.put,zss,zst,zsu];refine OW.load rfl rfl l23 HK.out.bx.c1 rfl ?_;simp only [Go.Act.put,zss,zst,zsu];refine OW.fieldAddr rfl rfl ziR rfl ?_;simp only [Go.Act.put,zss,zst,zsu];refine OW.load rfl rfl l23 HK.out.by'.c1 rfl ?_;simp only [Go.Act.put,zss,zst,zsu];refine OW.loadAll rfl rfl l25 (cs:=[.bool na,an,ad]) rfl (by decide) HK.out.bx rfl ?_;simp only [Go.Act.put,zss,zst,zsu];refine OW.loadAll rfl rfl l25 (cs:=[.bool nb,bn,bd]) rfl (by decide) HK.out.by' rfl ?_;simp only [Go.Act.put,zss,zst,zsu];refine OW.call rfl rfl Tryz.func131 rfl zac (args:=[an,bn]) rfl ?_;refine(zbX W.drew an bn p.num.natAbs q.num.natAbs L HAN.out HBN.out HP.out.1 HQ.out.1 (by omega)).mono ?_;rintro e w1 ⟨v2,rfl,⟨hm2,_⟩,hB⟩;refine⟨v2,rfl,hB,?_⟩;simp only [Go.Act.put,zss,zst,zsu];replace HK:=zHi (HK.out.step hB);replace HA:=zHi (HA.out.below hB);replace HB:=zHi (HB.out.below hB);replace HAN:=zHi (HAN.out.below hB);replace HBN:=zHi (HBN.out.below hB);have HM2:=zHi hm2;clear hB;refine OW.call rfl rfl Tryz.func132 rfl zac (args:=[.agg #[.bool na,an,ad]]) rfl ?_;refine(zbb w1 _ p HA.out).mono ?_;rintro e w2 ⟨v3,rfl,hm3,hB⟩;refine⟨v3,rfl,hB,?_⟩;simp only [Go.Act.put,zss,zst,zsu];replace HK:=zHi (HK.out.step hB);replace HA:=zHi (HA.out.below hB);replace HB:=zHi (HB.out.below hB);replace HAN:=zHi (HAN.out.below hB);replace HBN:=zHi (HBN.out.below hB);replace HM2:=zHi (HM2.out.below hB);have HM3:=zHi hm3;clear hB;refine OW.call rfl rfl Tryz.func132 rfl zac (args:=[.agg #[.bool nb,bn,bd]]) rfl ?_;refine(zbb w2 _ q HB.out).mono ?_;rintro e w3 ⟨v5,rfl,hm5,hB⟩;refine⟨v5,rfl,hB,?_⟩;simp only [Go.Act.put,zss,zst,zsu];replace HK:=zHi (HK.out.step hB);replace HA:=zHi (HA.out.below hB);replace HB:=zHi (HB.out.below hB);replace HAN:=zHi (HAN.out.below hB);replace HBN:=zHi (HBN.out.below hB);replace HM2:=zHi (HM2.out.below hB);replace HM3:=zHi (HM3.out.below hB);have HM5:=zHi hm5;clear hB;refine OW.call rfl rfl Tryz.func131 rfl zac (args:=[v3,v5]) rfl ?_;refine(zbX w3 v3 v5 p.den q.den L HM3.out HM5.out HP.out.2 HQ.out.2 (by omega)).mono ?_;rintro e w4 ⟨v4,rfl,⟨hm4,_⟩,hB⟩;refine⟨v4,rfl,hB,?_⟩;simp only [Go.Act.put,zss,zst,zsu];replace HK:=zHi (HK.out.step hB);replace HA:=zHi (HA.out.below hB);replace HB:=zHi (HB.out.below hB);replace HAN:=zHi (HAN.out.below hB);replace HBN:=zHi (HBN.out.below hB);replace HM2:=zHi (HM2.out.below hB);replace HM3:=zHi (HM3.out.below hB);replace HM5:=zHi (HM5.out.below hB);have HM4:=zHi hm4;clear hB;obtain⟨X,hX⟩:∃X,p.num.natAbs*q.num.natAbs=X:=⟨_,rfl⟩;obtain⟨D,hD⟩:∃D,p.den*q.den=D:=⟨_,rfl⟩;have hS:=HSum.out;have hX2:X<B^(L+L):=by rw [←hX];exact zaI HP.out.1 HQ.out.1
 have hD2:D<B^(L+L):=by rw [←hD];exact zaI HP.out.2 HQ.out.2
 have hD0:D≠0:=by rw [←hD];exact Nat.mul_ne_zero p.den_nz q.den_nz
 rw [hX,hD]at hS;rw [hX]at HM2;rw [hD]at HM4;replace HSum:=zHi hS;have HX2:=zHi hX2;have HD2:=zHi hD2;clear hS hX hD hX2 hD2;refine OW.call rfl rfl Tryz.func130 rfl zac (args:=[.bool (na != nb),v2,v4]) rfl ?_;refine(zbz w4 (na != nb) v2 v4 X D (L+L) HM2.out HM4.out hD0 HX2.out HD2.out (by omega)).mono ?_;rintro e w5 ⟨v6,rfl,hm6,hB⟩;refine⟨v6,rfl,hB,?_⟩;simp only [Go.Act.put,zss,zst,zsu];replace HK:=zHi (HK.out.step hB);replace HA:=zHi (HA.out.below hB);replace HB:=zHi (HB.out.below hB);replace HAN:=zHi (HAN.out.below hB);replace HBN:=zHi (HBN.out.below hB);replace HM2:=zHi (HM2.out.below hB);replace HM3:=zHi (HM3.out.below hB);replace HM5:=zHi (HM5.out.below hB);replace HM4:=zHi (HM4.out.below hB);have HR:=zHi hm6;clear hB;obtain⟨o,k,c,o2,k2,c2,rfl⟩:=hm6.form;obtain⟨f,hf⟩:=HK.out.res;have hst:=zbS hf (x:=.bool (decide ((frac (na != nb) X D).num<0))) (y:=.slice o k c) (z:=.slice o2 k2 c2) rfl rfl rfl;refine OW.store (w':=set3 w5 (g+1+1) (.bool (decide ((frac (na != nb) X D).num<0))) (.slice o k c) (.slice o2 k2 c2)) rfl rfl (by decide) (zc0 rfl rfl hst) ?_;simp only [Go.Act.put];refine OW.done ?_;gi_wp2;refine zbe rfl rfl (g+1+1) rfl (hf 0 (by omega)).1 (hf 1 (by omega)).1 (hf 2 (by omega)).1 ?_;refine⟨_,rfl,?_,?_⟩
 ·rw [HSum.out];exact((HR.out.setElem HK.out.el (by decide)).setElem (HK.out.el.setCell _ _) (by decide)).setElem ((HK.out.el.setCell _ _).setCell _ _) (by decide)
 ·have hle:=HK.out.le;exact((HK.out.below.setCell (by show w.heap.size≤g+1+1;omega) _).setCell (by show w.heap.size≤g+1+1;omega) _).setCell (by show w.heap.size≤g+1+1;omega) _
theorem zgD(w:World)(va vb:Value)(p q:Rat)(L:Nat)(ha:zaj w va p)(hb:zaj w vb q)(hp:zad p L)(hq:zad q L)(hq0:q.num≠0)(hL:L≤1000000) :
  CallsIn Fence.wide 0 Tryz.prog 61 #[va,vb] w fun e w'=>∃v',e = .returned v'∧zaj w' v' (p/q)∧Below w.heap.size w w':=by
 have HA:=zHi ha;have HB:=zHi hb;have HP:=zHi hp;have HQ:=zHi hq;obtain⟨an,ad,rfl,han,had⟩:=ha;obtain⟨bn,bd,rfl,hbn,hbd⟩:=hb;have HAN:=zHi han;have HBN:=zHi hbn;have hS:=zmR p q;obtain⟨na,hna⟩:∃na,decide (p.num<0)=na:=⟨_,rfl⟩;obtain⟨nb,hnb⟩:∃nb,decide (q.num<0)=nb:=⟨_,rfl⟩;rw [hna]at HA hS;rw [hnb]at HB hS;rw [hna,hnb];have HSum:=zHi hS;clear han had hbn hbd hna hnb hp hq hS;refine callsIn_of_wp Tryz.func61 rfl trivial ?_ rfl;simp only [Tryz.ntmps61,zsj,zsk,zsl,Nat.reduceAdd,Nat.reduceSub,zsm,zsn,zso,zsp,zsq,zsr];gi_wp2;obtain⟨W,hW⟩:∃W,W=((w.alloc (Obj.cells #[Value.bool na,an,ad] 27)).alloc (Obj.cells #[Value.bool nb,bn,bd] 27)).alloc (Obj.cells #[Value.bool false,Value.slice none 0 0,Value.slice none 0 0] 27):=⟨_,rfl⟩;rw [←hW];have HK:Hid (zdT w W w.heap.size (.bool na) an ad (.bool nb) bn bd):=by
  rw [hW];exact zcO w _ _ _ _ _ _ _ _ _ _
 replace HA:=zHi (HA.out.below HK.out.below);replace HB:=zHi (HB.out.below HK.out.below);replace HAN:=zHi (HAN.out.below HK.out.below);replace HBN:=zHi (HBN.out.below HK.out.below);obtain⟨g,hg⟩:∃g,w.heap.size=g:=⟨_,rfl⟩;rw [hg]at HK;rw [hg];clear hW;refine zan (ro:=none) [8,9,11,14,15,16] [0,1,2,3,4,5,6,7,10,12,13,8,9,11,14,15,16] [0,1,0,4,15,0,32,0,128,480,0,2016,0,4096,16352,32767,65535] zak 21 rfl (by kernel_rfl) (by kernel_rfl) ?_;replace HK:=zHi (HK.out.step (zab _));replace HA:=zHi (HA.out.below (zab _));replace HB:=zHi (HB.out.below (zab _));replace HAN:=zHi (HAN.out.below (zab _));replace HBN:=zHi (HBN.out.below (zab _));refine OW.fieldAddr rfl rfl ziS rfl ?_;simp only [Go.Act.put,zss,zst,zsu];refine OW.load rfl rfl l4 HK.out.bx.c0 rfl ?_;simp only [Go.Act.put,zss,zst,zsu];refine OW.fieldAddr rfl rfl ziS rfl ?_;simp only [Go.Act.put,zss,zst,zsu];refine OW.load rfl rfl l4 HK.out.by'.c0 rfl ?_;simp only [Go.Act.put,zss,zst,zsu];refine OW.neqBool rfl rfl ub4 rfl rfl ?_;simp only [Go.Act.put,zss,zst,zsu];refine OW.fieldAddr rfl rfl ziR rfl ?_;simp only [Go.Act.put,zss,zst,zsu];refine OW.load rfl rfl l23 HK.out.bx.c1 rfl ?_;simp only [Go.Act.put,zss,zst,zsu];refine OW.loadAll rfl rfl l25 (cs:=[.bool nb,bn,bd]) rfl (by decide) HK.out.by' rfl ?_;simp only [Go.Act.put,zss,zst,zsu];refine OW.loadAll rfl rfl l25 (cs:=[.bool na,an,ad]) rfl (by decide) HK.out.bx rfl ?_;simp only [Go.Act.put,zss,zst,zsu];refine OW.fieldAddr rfl rfl ziR rfl ?_;simp only [Go.Act.put,zss,zst,zsu];refine OW.load rfl rfl l23 HK.out.by'.c1 rfl ?_;simp only [Go.Act.put,zss,zst,zsu];refine OW.call rfl rfl Tryz.func132 rfl zac (args:=[.agg #[.bool nb,bn,bd]]) rfl ?_;refine(zbb W.drew _ q HB.out).mono ?_;rintro e w1 ⟨v1,rfl,hm,hB⟩;refine⟨v1,rfl,hB,?_⟩;simp only [Go.Act.put,zss,zst,zsu];replace HK:=zHi (HK.out.step hB);replace HA:=zHi (HA.out.below hB);replace HB:=zHi (HB.out.below hB);replace HAN:=zHi (HAN.out.below hB);replace HBN:=zHi (HBN.out.below hB);have HM1:=zHi hm;clear hB;refine OW.call rfl rfl Tryz.func131 rfl zac (args:=[an,v1]) rfl ?_;refine(zbX w1 an v1 p.num.natAbs q.den L HAN.out HM1.out HP.out.1 HQ.out.2 (by omega)).mono ?_;rintro e w2 ⟨v2,rfl,⟨hm2,_⟩,hB⟩;refine⟨v2,rfl,hB,?_⟩;simp only [Go.Act.put,zss,zst,zsu];replace HK:=zHi (HK.out.step hB);replace HA:=zHi (HA.out.below hB);replace HB:=zHi (HB.out.below hB);replace HAN:=zHi (HAN.out.below hB);replace HBN:=zHi (HBN.out.below hB);replace HM1:=zHi (HM1.out.below hB);have HM2:=zHi hm2;clear hB;refine OW.call rfl rfl Tryz.func132 rfl zac (args:=[.agg #[.bool na,an,ad]]) rfl ?_;refine(zbb w2 _ p HA.out).mono ?_;rintro e w3 ⟨v3,rfl,hm3,hB⟩;refine⟨v3,rfl,hB,?_⟩;simp only [Go.Act.put,zss,zst,zsu];replace HK:=zHi (HK.out.step hB);replace HA:=zHi (HA.out.below hB);replace HB:=zHi (HB.out.below hB);replace HAN:=zHi (HAN.out.below hB);replace HBN:=zHi (HBN.out.below hB);replace HM1:=zHi (HM1.out.below hB);replace HM2:=zHi (HM2.out.below hB);have HM3:=zHi hm3;clear hB;refine OW.call rfl rfl Tryz.func131 rfl zac (args:=[v3,bn]) rfl ?_;refine(zbX w3 v3 bn p.den q.num.natAbs L HM3.out HBN.out HP.out.2 HQ.out.1 (by omega)).mono ?_;rintro e w4 ⟨v4,rfl,⟨hm4,_⟩,hB⟩;refine⟨v4,rfl,hB,?_⟩;simp only [Go.Act.put,zss,zst,zsu];replace HK:=zHi (HK.out.step hB);replace HA:=zHi (HA.out.below hB);replace HB:=zHi (HB.out.below hB);replace HAN:=zHi (HAN.out.below hB);replace HBN:=zHi (HBN.out.below hB);replace HM1:=zHi (HM1.out.below hB);replace HM2:=zHi (HM2.out.below hB);replace HM3:=zHi (HM3.out.below hB);have HM4:=zHi hm4;clear hB;obtain⟨X,hX⟩:∃X,p.num.natAbs*q.den=X:=⟨_,rfl⟩;obtain⟨D,hD⟩:∃D,p.den*q.num.natAbs=D:=⟨_,rfl⟩;have hS:=HSum.out;have hX2:X<B^(L+L):=by rw [←hX];exact zaI HP.out.1 HQ.out.2
 have hD2:D<B^(L+L):=by rw [←hD];exact zaI HP.out.2 HQ.out.1
 have hD0:D≠0:=by rw [←hD];exact Nat.mul_ne_zero p.den_nz (by omega)
 rw [hX,hD]at hS;rw [hX]at HM2;rw [hD]at HM4;replace HSum:=zHi hS;have HX2:=zHi hX2;have HD2:=zHi hD2;clear hS hX hD hX2 hD2;refine OW.call rfl rfl Tryz.func130 rfl zac (args:=[.bool (na != nb),v2,v4]) rfl ?_;refine(zbz w4 (na != nb) v2 v4 X D (L+L) HM2.out HM4.out hD0 HX2.out HD2.out (by omega)).mono ?_;rintro e w5 ⟨v6,rfl,hm6,hB⟩;refine⟨v6,rfl,hB,?_⟩;simp only [Go.Act.put,zss,zst,zsu];replace HK:=zHi (HK.out.step hB);replace HA:=zHi (HA.out.below hB);replace HB:=zHi (HB.out.below hB);replace HAN:=zHi (HAN.out.below hB);replace HBN:=zHi (HBN.out.below hB);replace HM1:=zHi (HM1.out.below hB);replace HM2:=zHi (HM2.out.below hB);replace HM3:=zHi (HM3.out.below hB);replace HM4:=zHi (HM4.out.below hB);have HR:=zHi hm6;clear hB;obtain⟨o,k,c,o2,k2,c2,rfl⟩:=hm6.form;obtain⟨f,hf⟩:=HK.out.res;have hst:=zbS hf (x:=.bool (decide ((frac (na != nb) X D).num<0))) (y:=.slice o k c) (z:=.slice o2 k2 c2) rfl rfl rfl;refine OW.store (w':=set3 w5 (g+1+1) (.bool (decide ((frac (na != nb) X D).num<0))) (.slice o k c) (.slice o2 k2 c2)) rfl rfl (by decide) (zc0 rfl rfl hst) ?_;simp only [Go.Act.put];refine OW.done ?_;gi_wp2;refine zbe rfl rfl (g+1+1) rfl (hf 0 (by omega)).1 (hf 1 (by omega)).1 (hf 2 (by omega)).1 ?_;refine⟨_,rfl,?_,?_⟩
 ·rw [HSum.out];exact((HR.out.setElem HK.out.el (by decide)).setElem (HK.out.el.setCell _ _) (by decide)).setElem ((HK.out.el.setCell _ _).setCell _ _) (by decide)
 ·have hle:=HK.out.le;exact((HK.out.below.setCell (by show w.heap.size≤g+1+1;omega) _).setCell (by show w.heap.size≤g+1+1;omega) _).setCell (by show w.heap.size≤g+1+1;omega) _
def sgnR(q:Rat):Int:=if q.num<0 then -1 else if q.num=0 then 0 else 1
theorem zaT(w:World)(v:Value)(q:Rat)(h:zaj w v q) :
  CallsIn Fence.wide 0 Tryz.prog 25 #[v] w fun e w'=>e = .returned (.int .i64 (sgnR q))∧Below w.heap.size w w':=by
 obtain⟨vn,vd,rfl,hn,hd⟩:=h;obtain⟨o,k,c,rfl,hk,hk9⟩:=zaG hn;obtain⟨o2,k2,c2,rfl,_,_⟩:=zaG hd;have HK:=zHi hk;clear hn hd hk;refine callsIn_of_wp Tryz.func25 rfl trivial ?_ rfl;simp only [Tryz.ntmps25,zsj,zsk,zsl,Nat.reduceAdd,Nat.reduceSub,zsm,zsn,zso,zsp,zsq,zsr];by_cases h0:q.num<0
 ·have hs:Hid (sgnR q = -1):=if_pos h0;have hd:decide (q.num<0)=true:=decide_eq_true h0;rw [hd];clear hd h0;gi_wp2;all_goals (first|go_returns|go_ret|go_end0)
  exact⟨by rw [hs.out];rfl,zaa _ _⟩
 ·have hd:decide (q.num<0)=false:=decide_eq_false h0;rw [hd];by_cases h1:q.num=0
  ·have hs:Hid (sgnR q=0):=zHi (by unfold sgnR;rw [if_neg h0,if_pos h1]);have hk0:k=0:=HK.out.2 (by rw [h1];rfl);subst hk0;clear hd h0 h1;gi_wp2;all_goals (first|go_returns|go_ret|go_end0)
   exact⟨by rw [hs.out];rfl,zaa _ _⟩
  ·have hs:Hid (sgnR q=1):=zHi (by unfold sgnR;rw [if_neg h0,if_neg h1]);have hk0:(0:Int)<(k:Int):=by
    rcases Nat.eq_zero_or_pos k with h|h
    ·have:=HK.out.1 h;omega
    ·omega
   clear hd h0 h1;gi_wp2;all_goals (first|go_returns|go_ret|go_end0)
   exact⟨by rw [hs.out];rfl,zaa _ _⟩
theorem zj4(q:Rat):(-q).num = -q.num:=rfl
theorem zhU(q:Rat):(-q).num.natAbs=q.num.natAbs∧(-q).den=q.den:=by
 rw [zj4];exact⟨Int.natAbs_neg _,rfl⟩
theorem zlH(w:World)(x0 x1 x2 z0 z1 z2:Value):let W:=(w.alloc (.cells #[x0,x1,x2] 27)).alloc (.cells #[z0,z1,z2] 27)
  Box3 W w.heap.size x0 x1 x2∧Elem W (w.heap.size+1) 27∧(W.cell? ⟨w.heap.size+1,0,none⟩=some z0∧W.cell? ⟨w.heap.size+1,1,none⟩=some z1∧W.cell? ⟨w.heap.size+1,2,none⟩=some z2) ∧
  (W.frozen? ⟨w.heap.size+1,0,none⟩=false∧W.frozen? ⟨w.heap.size+1,1,none⟩=false∧W.frozen? ⟨w.heap.size+1,2,none⟩=false)∧Below w.heap.size w W:=by
 intro W;have e1:(w.alloc (.cells #[x0,x1,x2] 27)).heap.size=w.heap.size+1:=by simp
 have h2:=zaK (w.alloc (.cells #[x0,x1,x2] 27)) z0 z1 z2 27;rw [e1]at h2;refine⟨(zaK w x0 x1 x2 27).below (zaa _ _),by rw [←e1];exact zaO _ _ _,⟨h2.c0,h2.c1,h2.c2⟩,?_,(zaa w _).alloc (by simp) _⟩;refine⟨?_,?_,?_⟩ <;> (rw [←e1];exact World.frozen?_alloc_new _ _ _ _)
theorem zhV(w:World)(v:Value)(q:Rat)(h:zaj w v q) :
  CallsIn Fence.wide 0 Tryz.prog 66 #[v] w fun e w'=>∃v',e = .returned v'∧zaj w' v' (-q)∧Below w.heap.size w w':=by
 obtain⟨vn,vd,rfl,hn,hd⟩:=h;have HM0:=zHi hn;have HD0:=zHi hd;obtain⟨o,k,c,rfl,hk,hk9⟩:=zaG hn;obtain⟨o2,k2,c2,rfl,_,_⟩:=zaG hd;have HK:=zHi hk;have HN:=zHi (zhU q);clear hn hd hk;obtain⟨neg,hneg⟩:∃neg,decide (q.num<0)=neg:=⟨_,rfl⟩;have HNG:=zHi hneg;rw [hneg];clear hneg;refine callsIn_of_wp Tryz.func66 rfl trivial ?_ rfl;simp only [Tryz.ntmps66,zsj,zsk,zsl,Nat.reduceAdd,Nat.reduceSub,zsm,zsn,zso,zsp,zsq,zsr]
 cases neg with
 | true=>
  have HS:Hid (decide ((-q).num<0)=false):=zHi (decide_eq_false (by have:=of_decide_eq_true HNG.out;rw [zj4];omega));clear HNG;gi_wp2;have HT:=zlH w (.bool true) (.slice o k c) (.slice o2 k2 c2) (.bool false) (.slice o k c) (.slice o2 k2 c2);refine zjW rfl rfl (w.heap.size+1) rfl HT.2.2.1.1 HT.2.2.1.2.1 HT.2.2.1.2.2 ?_;refine⟨_,rfl,⟨.slice o k c,.slice o2 k2 c2,by rw [HS.out],by rw [HN.out.1];exact HM0.out.below HT.2.2.2.2,by rw [HN.out.2];exact HD0.out.below HT.2.2.2.2⟩,HT.2.2.2.2⟩
 | false=>
  by_cases h1:q.num=0
  ·have hk0:k=0:=HK.out.2 (by rw [h1];rfl);have HS:Hid (decide ((-q).num<0)=false):=zHi (decide_eq_false (by rw [zj4];omega));subst hk0;clear HNG h1;gi_wp2;have HT:=zlH w (.bool false) (.slice o 0 c) (.slice o2 k2 c2) (.bool false) (.slice o 0 c) (.slice o2 k2 c2);refine zjW rfl rfl (w.heap.size+1) rfl HT.2.2.1.1 HT.2.2.1.2.1 HT.2.2.1.2.2 ?_;refine⟨_,rfl,⟨.slice o 0 c,.slice o2 k2 c2,by rw [HS.out],by rw [HN.out.1];exact HM0.out.below HT.2.2.2.2,by rw [HN.out.2];exact HD0.out.below HT.2.2.2.2⟩,HT.2.2.2.2⟩
  ·have hk0:(0:Int)<(k:Int):=by
    rcases Nat.eq_zero_or_pos k with h|h
    ·have:=HK.out.1 h;omega
    ·omega
   have hk1:decide ((0:Int)<(k:Int))=true:=decide_eq_true hk0;have HS:Hid (decide ((-q).num<0)=true):=zHi (decide_eq_true (by have:=of_decide_eq_false HNG.out;rw [zj4];omega));clear HNG h1;gi_wp2;have HT:=zlH w (.bool false) (.slice o k c) (.slice o2 k2 c2) (.bool true) (.slice o k c) (.slice o2 k2 c2);rw [show decide (0<k)=true from decide_eq_true (by omega)];refine zjW rfl rfl (w.heap.size+1) rfl HT.2.2.1.1 HT.2.2.1.2.1 HT.2.2.1.2.2 ?_;refine⟨_,rfl,⟨.slice o k c,.slice o2 k2 c2,by rw [HS.out],by rw [HN.out.1];exact HM0.out.below HT.2.2.2.2,by rw [HN.out.2];exact HD0.out.below HT.2.2.2.2⟩,HT.2.2.2.2⟩
structure Env where
 z:Nat→Int
 q:Nat→Rat
def ev(E:Env):Tg→Int × Rat
 | .leaf k=>(E.z k,E.q k)
 | .un 1 a=>let x:=ev E a;(-x.1,-x.2)
 | .un 20 a=>let x:=ev E a;(sgn false x.1.natAbs,0)
 | .un 21 a=>let x:=ev E a;(sgn true x.1.natAbs,0)
 | .un 30 a=>let x:=ev E a;(x.2.num,0)
 | .un 31 a=>let x:=ev E a;((x.2.den:Int),0)
 | .bin 1 a b=>let x:=ev E a;let y:=ev E b;(x.1+y.1,x.2+y.2)
 | .bin 2 a b=>let x:=ev E a;let y:=ev E b;(x.1-y.1,x.2-y.2)
 | .bin 3 a b=>let x:=ev E a;let y:=ev E b;(x.1*y.1,x.2*y.2)
 | .bin 4 a b=>let x:=ev E a;let y:=ev E b;(0,x.2/y.2)
 | .bin 11 a b=>let x:=ev E a;let y:=ev E b;((x.1.natAbs+y.1.natAbs:Nat),0)
 | .bin 12 a b=>let x:=ev E a;let y:=ev E b;((x.1.natAbs-y.1.natAbs:Nat),0)
 | .bin 13 a b=>let x:=ev E a;let y:=ev E b;((x.1.natAbs*y.1.natAbs:Nat),0)
 | .bin 14 a b=>let x:=ev E a;let y:=ev E b;((Nat.gcd x.1.natAbs y.1.natAbs:Nat),0)
 | .bin 15 a b=>let x:=ev E a;let y:=ev E b;((x.1.natAbs/y.1.natAbs:Nat),0)
 | .bin 16 a b=>let x:=ev E a;let y:=ev E b;((x.1.natAbs%y.1.natAbs:Nat),0)
 | .bin 17 a b=>let x:=ev E a;let y:=ev E b;(sgn (decide (x.1<0) != decide (y.1<0)) (x.1.natAbs/y.1.natAbs),0)
 | .bin 40 a b=>let x:=ev E a;let y:=ev E b;(0,(x.1:Rat)/(y.1:Rat))
 | _=>(0,0)
def evZ(E:Env)(t:Tg):Int:=(ev E t).1
def evN(E:Env)(t:Tg):Nat:=(ev E t).1.natAbs
def evQ(E:Env)(t:Tg):Rat:=(ev E t).2
def sz(L:Nat):Tg→Nat
 | .leaf _=>L
 | .un _ a=>sz L a
 | .bin _ a b=>sz L a+sz L b+1
def zhf(L:Nat)(E:Env):Prop:=0<L∧∀k,(E.z k).natAbs<B^L∧zad (E.q k) L
theorem zad.mono{q:Rat}{L M:Nat}(h:zad q L)(hL:L≤M):zad q M:=⟨Nat.lt_of_lt_of_le h.1 (zah hL),Nat.lt_of_lt_of_le h.2 (zah hL)⟩
theorem zaY{x a:Nat}(b:Nat)(h:x<B^a)(hab:a≤b):x<B^b:=Nat.lt_of_lt_of_le h (zah hab)
theorem zh7{s:Bool}{n d L:Nat}(hd:d≠0)(hn:n<B^L)(hdL:d<B^L):zad (frac s n d) L:=by
 have h:=zfi (neg:=s) (n:=n) hd;exact⟨by rw [h.1];exact Nat.lt_of_le_of_lt (Nat.div_le_self _ _) hn,by rw [h.2.1];exact Nat.lt_of_le_of_lt (Nat.div_le_self _ _) hdL⟩
theorem zcd{L:Nat}(h:0<L):zad 0 L:=by
 have:1<B^L:=Nat.lt_of_lt_of_le (by decide:1<B^1) (zah h);exact⟨by show 0<_;omega,this⟩
theorem zoW{q:Rat}{L:Nat}(h:zad q L):0<L:=by
 apply Classical.byContradiction
 intro hno;have:L=0:=by omega
 subst this;have h1:=h.2;have h2:=q.den_pos;rw [Nat.pow_zero]at h1;omega
theorem zat{q:Rat}{L:Nat}(h:zad q L):zad (-q) L:=⟨by rw [(zhU q).1];exact h.1,by rw [(zhU q).2];exact h.2⟩
theorem zax{p q:Rat}{a b:Nat}(hp:zad p a)(hq:zad q b):zad (p+q) (a+b+1):=by
 have h1:=zaI hp.1 hq.2;have h2:q.num.natAbs*p.den<B^(a+b):=by rw [Nat.add_comm];exact zaI hq.1 hp.2
 have h3:=zaI hp.2 hq.2;have hd:p.den*q.den≠0:=Nat.mul_ne_zero p.den_nz q.den_nz;have h4:B^(a+b)+B^(a+b)≤B^(a+b+1):=by
  rw [Nat.pow_succ];have:B^(a+b)*2≤B^(a+b)*B:=Nat.mul_le_mul_left _ (by decide);omega
 rw [zoU p q];split
 ·exact zh7 hd (by omega) (by omega)
 ·split
  ·exact zh7 hd (by omega) (by omega)
  ·exact zh7 hd (by omega) (by omega)
theorem zbF{p q:Rat}{a b:Nat}(hp:zad p a)(hq:zad q b):zad (p*q) (a+b):=by
 rw [zmS];exact zh7 (Nat.mul_ne_zero p.den_nz q.den_nz) (zaI hp.1 hq.1) (zaI hp.2 hq.2)
theorem zbl{p q:Rat}{a b:Nat}(hp:zad p a)(hq:zad q b):zad (p/q) (a+b):=by
 by_cases h0:q.num=0
 ·have:q=0:=Rat.num_eq_zero.1 h0;rw [this,show p/0=0 by simp [Rat.div_def]];exact zcd (by have:=zoW hp;omega)
 ·rw [zmR];exact zh7 (Nat.mul_ne_zero p.den_nz (by omega)) (zaI hp.1 hq.2) (zaI hp.2 hq.1)
theorem zbW{z:Int}{L:Nat}(h:z.natAbs<B^L)(hL:0<L):zad (z:Rat) L:=by
 have:1<B^L:=Nat.lt_of_lt_of_le (by decide:1<B^1) (zah hL);exact⟨h,this⟩
theorem zj6{x y:Int}{a b:Nat}(hx:x.natAbs<B^a)(hy:y.natAbs<B^b):x.natAbs+y.natAbs<B^(a+b+1):=by
 have h1:B^a≤B^(a+b):=zah (by omega);have h2:B^b≤B^(a+b):=zah (by omega);have h4:B^(a+b)*2≤B^(a+b)*B:=Nat.mul_le_mul_left _ (by decide);rw [←Nat.pow_succ]at h4;have e:(a+b).succ=a+b+1:=rfl;rw [e]at h4;omega
theorem zop{L:Nat}(hL:0<L)(t:Tg):0<sz L t:=by
 induction t with
 | leaf k=>exact hL
 | un k a ih=>exact ih
 | bin k a b=>show 0<sz L a+sz L b+1;omega
theorem zps{L:Nat}{E:Env}(hE:zhf L E)(t:Tg):(ev E t).1.natAbs<B^sz L t∧zad (ev E t).2 (sz L t):=by
 have z0:∀t:Tg,(0:Int).natAbs<B^sz L t:=fun t=>by show 0<B^sz L t;exact zar _
 have q0:∀t:Tg,zad 0 (sz L t):=fun t=>zcd (zop hE.1 t)
 induction t with
 | leaf k=>exact⟨(hE.2 k).1,(hE.2 k).2⟩
 | un k a ih=>
  have e:sz L (.un k a)=sz L a:=rfl;rw [e];unfold ev;split
  all_goals (try rename_i h;try (cases h))
  all_goals first
   | exact⟨by simpa using ih.1,zat ih.2⟩
   | exact⟨by rw [zbw];exact ih.1,q0 a⟩
   | exact⟨ih.2.1,q0 a⟩
   | exact⟨ih.2.2,q0 a⟩
   | exact⟨z0 a,q0 a⟩
 | bin k a b iha ihb=>
  have hs:=zj6 iha.1 ihb.1;have hm:(ev E a).1.natAbs*(ev E b).1.natAbs<B^(sz L a+sz L b+1):=Nat.lt_of_lt_of_le (zaI iha.1 ihb.1) (zah (by omega));have ha1:(ev E a).1.natAbs<B^(sz L a+sz L b+1):=Nat.lt_of_lt_of_le iha.1 (zah (by omega));have hb1:(ev E b).1.natAbs<B^(sz L a+sz L b+1):=Nat.lt_of_lt_of_le ihb.1 (zah (by omega));have hq:zad 0 (sz L a+sz L b+1):=zcd (by omega);show(ev E (.bin k a b)).1.natAbs<B^(sz L a+sz L b+1)∧zad (ev E (.bin k a b)).2 (sz L a+sz L b+1)
  unfold ev;split
  all_goals (try rename_i h;try (cases h))
  all_goals first
   | exact⟨by show((ev E a).1+(ev E b).1).natAbs<_;omega,zax iha.2 ihb.2⟩
   | exact⟨by show((ev E a).1-(ev E b).1).natAbs<_;omega,by show zad ((ev E a).2-(ev E b).2) _;rw [Rat.sub_eq_add_neg];exact zax iha.2 (zat ihb.2)⟩
   | exact⟨by rw [Int.natAbs_mul];exact hm,(zbF iha.2 ihb.2).mono (by omega)⟩
   | exact⟨z0 (.bin 4 a b),(zbl iha.2 ihb.2).mono (by omega)⟩
   | exact⟨z0 (.bin 40 a b),(zbl (zbW iha.1 (zop hE.1 a)) (zbW ihb.1 (zop hE.1 b))).mono (by omega)⟩
   | exact⟨hs,hq⟩
   | exact⟨Nat.lt_of_le_of_lt (Nat.sub_le _ _) ha1,hq⟩
   | exact⟨hm,hq⟩
   | exact⟨Nat.lt_of_le_of_lt (Nat.div_le_self _ _) ha1,hq⟩
   | exact⟨by rw [zbw];exact Nat.lt_of_le_of_lt (Nat.div_le_self _ _) ha1,hq⟩
   | exact⟨Nat.lt_of_le_of_lt (Nat.mod_le _ _) ha1,hq⟩
   | exact⟨by
     show Nat.gcd (ev E a).1.natAbs (ev E b).1.natAbs<_
     rcases Nat.eq_zero_or_pos (ev E a).1.natAbs with h0|h0
     ·rw [h0,Nat.gcd_zero_left];exact hb1
     ·exact Nat.lt_of_le_of_lt (Nat.le_of_dvd h0 (Nat.gcd_dvd_left _ _)) ha1,hq⟩
   | exact⟨zar _,hq⟩
end Go.Num
namespace Go.Eng
open Go.RowKit
abbrev TTab:=FuncId→AT→Option AT
def TTab.or(T U:TTab):TTab:=fun f ts=>match T f ts with|some r=>some r|none=>U f ts
def t1(g:FuncId)(A:AT→Option Tg)(cond:Tg→Bool)(R:Tg→AT):TTab:=fun f ts=>
 bif Nat.beq f g then
  match ts with
  | .cons a .nil=>match A a with
   | some x=>bif cond x then some (R x)else none
   | none=>none
  | _=>none
 else none
def t2(g:FuncId)(A C:AT→Option Tg)(cond:Tg→Tg→Bool)(R:Tg→Tg→AT):TTab:=fun f ts=>
 bif Nat.beq f g then
  match ts with
  | .cons a (.cons c .nil)=>match A a,C c with
   | some x,some y=>bif cond x y then some (R x y)else none
   | _,_=>none
  | _=>none
 else none
section
variable {P:Program} {G:Sett}
theorem zcj.or{T U:TTab}(h:zcj P G T)(k:zcj P G U):zcj P G (T.or U):=by
 intro f ts rs q;unfold TTab.or at q;split at q
 ·rename_i r hr
  cases q
  exact h _ _ _ hr
 ·exact k _ _ _ q
theorem zod:zcj P G (fun _ _=>none):=fun _ _ _ q=>by cases q
def zfb(P:Program)(g:FuncId):Prop:=∃fn:Func,P.funcs[g]? = some fn∧fn.body.isSome=true
theorem zoc{g:FuncId}{A:AT→Option Tg}{cond:Tg→Bool}{R:Tg→AT}(hb:zfb P g)(M:Tg→Value→World→Prop)(hA:∀a x,A a=some x→∀v w,zau G a v w→M x v w)
  (h:∀x,cond x=true→∀w v,M x v w→Calls P g #[v] w fun e w'=>∃r,e = .returned r∧zbP G (R x) r w'∧Below w.heap.size w w'):zcj P G (t1 g A cond R):=by
 intro f ts rs q;unfold t1 at q
 cases hf:Nat.beq f g with
 | false=>rw [hf]at q;cases q
 | true=>
  rw [hf]at q;have hf:=(zal _ _).1 hf;subst hf;refine⟨hb,fun w xs hx => ?_⟩;simp only [cond_true]at q;split at q
  ·rename_i a;split at q
   ·rename_i x hxa
    cases hc:cond x with
    | false=>rw [hc]at q;cases q
    | true=>
     rw [hc]at q
     cases q
     obtain⟨v,r,e,h1,h2⟩:=hx;have h2:r = []:=h2;subst h2;have e':xs=#[v]:=Array.toList_inj.1 (by simpa using e);subst e';exact h x hc w v (hA _ _ hxa _ _ h1)
   ·cases q
  ·cases q
theorem zcK{g:FuncId}{A C:AT→Option Tg}{cond:Tg→Tg→Bool}{R:Tg→Tg→AT}(hb:zfb P g)(M N:Tg→Value→World→Prop)(hA:∀a x,A a=some x→∀v w,zau G a v w→M x v w)(hC:∀a x,C a=some x→∀v w,zau G a v w→N x v w)
  (h:∀x y,cond x y=true→∀w v u,M x v w→N y u w→Calls P g #[v,u] w fun e w'=>∃r,e = .returned r∧zbP G (R x y) r w'∧Below w.heap.size w w'):zcj P G (t2 g A C cond R):=by
 intro f ts rs q;unfold t2 at q
 cases hf:Nat.beq f g with
 | false=>rw [hf]at q;cases q
 | true=>
  rw [hf]at q;have hf:=(zal _ _).1 hf;subst hf;refine⟨hb,fun w xs hx => ?_⟩;simp only [cond_true]at q;split at q
  ·rename_i a c;split at q
   ·rename_i x y hxa hyc
    cases hc:cond x y with
    | false=>rw [hc]at q;cases q
    | true=>
     rw [hc]at q
     cases q
     obtain⟨v,r,e,h1,u,r2,e2,h3,h4⟩:=hx;subst e2;have h4:r2 = []:=h4;subst h4;have e':xs=#[v,u]:=Array.toList_inj.1 (by simpa using e);subst e';exact h x y hc w v u (hA _ _ hxa _ _ h1) (hC _ _ hyc _ _ h3)
   ·cases q
  ·cases q
end
end Go.Eng
namespace Go.Num
open Go.Lib
def padL:Nat→Nat→List UInt8
 | 0,_ => []
 | j+1,n=>padL j (n/10) ++ [UInt8.ofNat (48+n%10)]
theorem zpt:∀(j hi lo:Nat),0<hi→lo<10^j→decDigits (hi*10^j+lo)=decDigits hi ++ padL j lo
 | 0,hi,lo,_,h=>by
  have:lo=0:=by simp at h;exact h
  subst this;simp [padL]
 | j+1,hi,lo,h0,h=>by
  have e:hi*10^(j+1)+lo=(hi*10^j)*10+lo:=by rw [Nat.pow_succ,Nat.mul_assoc]
  have hp:0<10^j:=Nat.pow_pos (by decide);have hbig:¬(hi*10^(j+1)+lo<10):=by
   have:1*1≤hi*10^j:=Nat.mul_le_mul h0 hp;omega
  rw [decDigits,dif_neg hbig,e];have e1:((hi*10^j)*10+lo)/10=hi*10^j+lo/10:=by omega
  have e2:((hi*10^j)*10+lo)%10=lo%10:=by omega
  rw [e1,e2,zpt j hi (lo/10) h0 (by rw [Nat.pow_succ]at h;omega),List.append_assoc];rfl
theorem zl4:∀(j n:Nat),n<10^(j+1)→padL (j+1) n=List.replicate (j+1-nDigits n) 48 ++ decDigits n
 | 0,n,h=>by
  have h:n<10:=by simpa using h
  rw [nDigits_small h,decDigits,dif_pos h];simp [padL,Nat.mod_eq_of_lt h]
 | j+1,n,h=>by
  by_cases hs:n<10
  ·have e:n/10=0:=by omega
   show padL (j+1) (n/10) ++ [UInt8.ofNat (48+n%10)]=_
   rw [e,zl4 j 0 (Nat.pow_pos (by decide)),nDigits_small hs,nDigits_small (by decide),decDigits,dif_pos (by decide),decDigits,dif_pos hs,Nat.mod_eq_of_lt hs];have:j+1+1-1=(j+1-1)+1:=by omega
   rw [this,List.replicate_succ'];rfl
  ·show padL (j+1) (n/10) ++ [UInt8.ofNat (48+n%10)]=_
   rw [zl4 j (n/10) (by rw [Nat.pow_succ]at h;omega),nDigits_big hs,decDigits.eq_def n,dif_neg hs,List.append_assoc];congr 2
   omega
theorem zqp{hi lo:Nat}(h0:0<hi)(h:lo<B):decDigits (hi*B+lo)=decDigits hi ++ (List.replicate (9-nDigits lo) 48 ++ decDigits lo):=by
 rw [←zl4 8 lo h];exact zpt 9 hi lo h0 h
theorem zqs{n i:Nat}(h0:0<n/B^(i+1)):decDigits (n/B^i)=decDigits (n/B^(i+1)) ++ (List.replicate (9-nDigits (limb n i)) 48 ++ decDigits (limb n i)):=by
 rw [←zqp h0 (zaB n i),Nat.mul_comm,←zcD]
theorem zrk{n m:Nat}(h:LenD n m):nDigits n=m:=by
 obtain⟨h1,h2,h3⟩:=h;by_cases hm:m=1
 ·subst hm;exact nDigits_small (by simpa using h2)
 ·obtain⟨k,rfl⟩:∃k,m=k+1:=⟨m-1,by omega⟩;refine nDigits_unique k n ?_ h2;rcases h3 with h3|h3
  ·omega
  ·exact h3
end Go.Num
