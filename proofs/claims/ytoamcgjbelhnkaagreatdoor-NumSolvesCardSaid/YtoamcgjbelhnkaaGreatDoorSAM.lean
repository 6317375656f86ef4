/-
  Kernels and solutions.
  Conditions: see each statement.
-/
import Derived.Test.YtoamcgjbelhnkaaGreatDoorSAA
import Derived.Test.YtoamcgjbelhnkaaGreatDoorSAL
import Derived.Test.YtoamcgjbelhnkaaGreatDoorSAI
set_option maxRecDepth 100000
set_option maxHeartbeats 16000000
namespace Go.Num
open Go.Eng Go.Shelf Go.RowKit Go.Sort Go.Proofs Go.Proofs.YtoamcgjbelhnkaaGreatDoor
attribute [local go_sem] Oper.semAt_some
structure zkG(w:World)(g m N:Nat)(A:Nat→Nat→Int)(cs:List Nat)(ar:Addr)(cr:Nat)(op:Option Addr)(cp:Nat):Prop where
 rows:w.cell? ⟨g,0,none⟩=some (.slice (some ar) m cr)
 piv:w.cell? ⟨g,1,none⟩=some (.slice op cs.length cp)
 mat:MatZ w (.slice (some ar) m cr) (tab m N A)
 pv:zad w 3 1 II (.slice op cs.length cp) cs
section
variable {w w':World} {g m N:Nat} {A:Nat→Nat→Int} {cs:List Nat} {ar:Addr} {cr:Nat} {op:Option Addr} {cp:Nat}
theorem zdY.below(h:Below w.heap.size w w'):∀q r,zdY q r w→zdY q r w':=fun _ _ ⟨u,e,k⟩=>⟨u,e,zad.below k h (IZ.below h)⟩
theorem zkG.below(h:zkG w g m N A cs ar cr op cp)(hb:Below w.heap.size w w'):zkG w' g m N A cs ar cr op cp:=
 ⟨(hb.cell (World.block_lt_of_cell? _ _ h.rows)).trans h.rows,(hb.cell (World.block_lt_of_cell? _ _ h.piv)).trans h.piv,zad.below h.mat hb (zdY.below hb),zad.below h.pv hb (fun _ _ q=>q)⟩
theorem zkG.row(h:zkG w g m N A cs ar cr op cp){i:Nat}(hi:i<m)(hN:0<N):∃b c,w.cell? (ar.add (i*1))=some (.slice (some b) N c)∧∀j,j<N→∃s o k c',(∀l v,[Value.bool s,.slice o k c'][l]? = some v→w.cell? ((b.add (j*2)).add l)=some v)∧ZAt w (.agg #[.bool s,.slice o k c']) (A i j):=by
 obtain⟨_,row,_,hcell,u,rfl,hu⟩:=zad.at' h.mat (zbG hi);have x0:=hcell 0 u rfl;rw [zb4]at x0;obtain⟨b,c,rfl⟩:=zad.some hu (by simpa using hN);rw [List.length_map,List.length_range]at x0 hu;refine⟨b,c,x0,fun j hj => ?_⟩;obtain⟨_,row,_,hc,hz⟩:=zad.at' hu (show((List.range N).map (A i))[j]? = some (A i j)by simp [hj]);obtain⟨s,o,k,c',rfl,hz'⟩:=IZ.pair hz;exact⟨s,o,k,c',hc,hz'⟩
theorem zkG.col(h:zkG w g m N A cs ar cr op cp){i p:Nat}(hi:cs[i]? = some p):∃ap,op=some ap∧w.cell? (ap.add (i*1))=some (.int .i64 (p:Int)):=by
 obtain⟨ap,hap⟩:∃a,op=some a:=by
  rcases h.pv with⟨h0,_⟩|⟨a,cap,xs,e,_⟩
  ·rw [h0]at hi;simp at hi
  ·injection e with e _ _;exact⟨a,e⟩
 subst hap;obtain⟨_,row,_,hcell,hII⟩:=zad.at' h.pv hi;have hII:row = [.int .i64 (p:Int)]:=hII;subst hII;have x0:=hcell 0 _ rfl;rw [zb4]at x0;exact⟨ap,rfl,x0⟩
end
theorem QAt.kept'{w w':World}{v:Value}{q:Rat}(h:QAt w v q)(hk:Go.Eng.Kept rs3 w w'):QAt w' v q:=by
 obtain⟨m1,m2,e,h1,h2⟩:=h;exact⟨m1,m2,e,h1.kept hk rfl,h2.kept hk rfl⟩
theorem OwnR.putQ{w:World}{base g cap N i:Nat}{a:Nat→Rat}{row:List Value}{x:Rat}(h:OwnR w base 34 4 IQ (.slice (some ⟨g,0,none⟩) N cap) (rowF a N))(hi:i<N)(hrow:row.length=4)(hx:IQ x row w) :
  OwnR (w.setCells g (i*4) row) base 34 4 IQ (.slice (some ⟨g,0,none⟩) N cap) (rowF (fun j=>if j=i then x else a j) N)∧w.there g (i*4) 4∧base≤g∧Below g w (w.setCells g (i*4) row):=by
 have hl:(rowF a N).length=N:=zak a N;obtain⟨g',c',e,hb,_,cur,hcur⟩:=h.own (by rw [hl];omega);injection e with e;injection e with e;injection e with e;subst e;have hE:Elem w g 34:=⟨cur,_,hcur⟩;have hK:=(zai g row (i*4) w).kept hE rfl;have h':OwnR w base 34 4 IQ (.slice (some ⟨g,0,none⟩) (rowF a N).length cap) (rowF a N):=by rw [hl];exact h
 rw [←hl]at hi;have:=OwnR.store (I:=IQ) h' (by decide) (i:=i) hi (row:=row) (b:=x) hrow (fun b r q=>QAt.kept' (show QAt w (.agg r.toArray) b from q) hK) (show IQ x row _ from QAt.kept' hx hK);rw [hl,zjV]at this;exact⟨this.1,this.2,hb,zax (Nat.le_refl _) _ _ _ (Below.refl _ _)⟩
theorem zny{w:World}{b o:Nat}{x0 x1 x2 x3:Value}(ht:w.there b o 4)(h1:#[x0,x1,x2,x3].all (·.oneCell')=true):(Instr.storeAt 34 (.pointer (some ⟨b,o,none⟩)) (.agg #[x0,x1,x2,x3])).run Tryz.prog w = .ok () (w.setCells b o [x0,x1,x2,x3]):=
 run_storeAt_mid w b o 34 #[x0,x1,x2,x3] ht (by kernel_rfl) h1
theorem znx{w:World}{b o:Nat}{x0 x1 x2 x3:Value}(ht:w.there b o 4)(h1:#[x0,x1,x2,x3].all (·.oneCell')=true):(Instr.storeAt 34 (.pointer (some ((⟨b,0,none⟩:Addr).add o))) (.agg #[x0,x1,x2,x3])).run Tryz.prog w = .ok () (w.setCells b o [x0,x1,x2,x3]):=by
 rw [Addr.add_lit,Nat.zero_add];exact zny ht h1
theorem zfZ(m:Nat)(A0:Nat→Nat→Int):∀c,∀x∈zaV m A0 c,x<c
 | 0,x,h=>by cases h
 | c+1,x,h=>by
  unfold zaV at h;split at h
  ·have:=zfZ m A0 c x h;omega
  ·rcases List.mem_append.1 h with h|h
   ·have:=zfZ m A0 c x h;omega
   ·have:x=c:=by simpa using h
    omega
theorem zj0(m:Nat)(A0:Nat→Nat→Int):∀c,(zaV m A0 c).Pairwise (· < ·)
 | 0=>List.Pairwise.nil
 | c+1=>by
  unfold zaV;split
  ·exact zj0 m A0 c
  ·rw [List.pairwise_append];exact⟨zj0 m A0 c,by simp,fun a ha b hb=>by rw [show b=c by simpa using hb];exact zfZ m A0 c a ha⟩
theorem zsY{cs:List Nat}(h:cs.Pairwise (· < ·)){i j p q:Nat}(hij:i<j)(hi:cs[i]? = some p)(hj:cs[j]? = some q):p<q:=by
 obtain⟨h1,e1⟩:=List.getElem?_eq_some_iff.1 hi;obtain⟨h2,e2⟩:=List.getElem?_eq_some_iff.1 hj;have:=List.pairwise_iff_getElem.1 h i j h1 h2 hij;rw [e1,e2]at this;exact this
def Nxt(cs:List Nat)(c nx:Nat):Prop:=nx≤cs.length∧∀i p,cs[i]? = some p→(i<nx↔p<c)
theorem Nxt.zero(cs:List Nat):Nxt cs 0 0:=⟨Nat.zero_le _,fun i p _=>by omega⟩
theorem Nxt.hit{cs:List Nat}(hu:cs.Pairwise (· < ·)){c nx:Nat}(h:Nxt cs c nx)(hc:cs[nx]? = some c):Nxt cs (c+1) (nx+1):=by
 refine⟨(List.getElem?_eq_some_iff.1 hc).1,fun i p hi => ?_⟩;have h1:=h.2 i p hi;rcases Nat.lt_trichotomy i nx with q|q|q
 ·omega
 ·subst q;rw [hi]at hc
  cases hc
  omega
 ·have:=zsY hu q hc hi;omega
theorem Nxt.miss{cs:List Nat}(hu:cs.Pairwise (· < ·)){c nx:Nat}(h:Nxt cs c nx)(hc:cs[nx]? ≠ some c):Nxt cs (c+1) nx∧c∉cs:=by
 have hno:c∉cs:=fun hm=>by
  obtain⟨i,hi⟩:=List.mem_iff_getElem?.1 hm;have h1:=h.2 i c hi;have hle:nx≤i:=by omega
  rcases Nat.lt_or_ge nx i with q|q
  ·obtain⟨p,hp⟩:∃p,cs[nx]? = some p:=⟨_,List.getElem?_eq_getElem (Nat.lt_trans q (List.getElem?_eq_some_iff.1 hi).1)⟩;have h2:=zsY hu q hp hi;have h3:=h.2 nx p hp;omega
  ·have:i=nx:=by omega
   subst this;exact hc hi
 refine⟨⟨h.1,fun i p hi => ?_⟩,hno⟩;have h1:=h.2 i p hi;have:p≠c:=fun e=>hno (by rw [←e];exact List.mem_of_getElem? hi)
 omega
theorem Nxt.mem{cs:List Nat}{c nx:Nat}(hc:cs[nx]? = some c):c∈cs:=List.mem_of_getElem? hc
theorem it29:zff Tryz.prog 29 1:=zcR u29' zd0 zev
theorem lo29:zcc Tryz.prog 29:=zbm (by kernel_rfl)
theorem zry:zcc Tryz.prog 121:=zbm (by kernel_rfl)
theorem zoa:zek Tryz.prog 125 0 0:=zcE (by kernel_rfl)
theorem zlQ:zek Tryz.prog 125 1 1:=zcE (by kernel_rfl)
theorem zbN(g k:Nat):(⟨g,0,none⟩:Addr).add k=⟨g,k,none⟩:=by rw [Addr.add_lit,Nat.zero_add]
theorem zhp(w:World)(v:Value)(Q:Nat→Nat→Rat)(m N L:Nat)(A0:Nat→Nat→Int)(hA0:(fun i=>zcy (Q i) N)=A0)(h:MatQ w v (tab m N Q))(h0:0<m)(hN:0<N)(h9:m≤20∧N≤20)(hq:∀i j,i<m→j<N→zan (Q i j) 5)(hL:L≤20000)
  (hsz:∀c,c≤N→(rRun m A0 c).last≠0∧(rRun m A0 c).last.natAbs<B^L∧∀i j,i<m→j<N→((rRun m A0 c).A i j).natAbs<B^L)
  (hpv:∀(i c:Nat),(zaV m A0 N)[i]? = some c→(rRun m A0 N).A i c≠0) :
  CallsIn Fence.wide 0 Tryz.prog 29 #[v] w fun e w'=>∃v',e = .returned v'∧MatQ w' v' (kern (zbS (fun i j=>((rRun m A0 N).A i j:Rat)) (zaV m A0 N)) (zaV m A0 N) N N)∧Below w.heap.size w w':=by
 obtain⟨a,c,rfl⟩:=zad.some h (by rw [zal];exact h0);have HR:=zHi h;rw [zal];obtain⟨_,row,hrl,hcell,u,rfl,hu⟩:=zad.at' h (zbG h0);have x0:=hcell 0 u rfl;rw [Addr.add_add,Nat.add_zero,Nat.zero_mul,zb4]at x0;obtain⟨au,cu,rfl⟩:=zad.some hu (by simpa using hN);rw [List.length_map,List.length_range]at x0;have HX:=zHi x0;obtain⟨A,hA⟩:∃A,(rRun m A0 N).A=A:=⟨_,rfl⟩;obtain⟨cs,hcs⟩:∃cs,zaV m A0 N=cs:=⟨_,rfl⟩;have HSZN:=zHi (hsz N (Nat.le_refl _)).2.2;have HUP:Hid (cs.Pairwise (· < ·)):=zHi (by rw [←hcs];exact zj0 _ _ _);have HLT:Hid (∀x∈cs,x<N):=zHi (by rw [←hcs];exact zfZ _ _ _);have hKm:cs.length≤m:=by rw [←hcs,zcP];exact(zi2 _ _ _).1
 obtain⟨U,hU⟩:∃U,zbS (fun i j=>(A i j:Rat)) cs=U:=⟨_,rfl⟩;rw [hA,hcs]at hpv;rw [hA]at HSZN;rw [hA,hcs,hU];obtain⟨R0,hR0⟩:∃R:Ending→World→Prop,∀e w',R e w'↔∃v',e = .returned v'∧MatQ w' v' (kern U cs N N)∧Below w.heap.size w w':=⟨_,fun _ _=>Iff.rfl⟩;simp only [←hR0];have HR0:=zHi hR0;have HSZ:=zHi hsz;have HQ:=zHi hq;have HPV:=zHi hpv;have HA:=zHi hA;have HCS:=zHi hcs;have HU:=zHi hU;have HA0:=zHi hA0;clear h hsz hq hcell hrl hu hpv hR0 hA hcs hU hA0;refine callsIn_of_wp Tryz.func29 rfl trivial ?_ rfl;simp only [Tryz.ntmps29,ztH,ztI,ztJ,Nat.reduceAdd,Nat.reduceSub,ztK,ztL,ztM,ztN,ztO,ztP];gi_wp2_with (gi_at_call 83;refine stop ?_)
 refine(zjR w _ Q m N (by have:=HR.out;rwa [zal]at this) h0 hN h9 HQ.out).mono ?_;rintro e w1 ⟨v1,v2,rfl,hm1,hz1,hB1⟩;rw [HA0.out]at hm1;obtain⟨s1,o1,k1,c1,rfl⟩:=hz1.form;obtain⟨om,cm,rfl,_⟩:=zad.form hm1;rw [zal];have HM:=zHi hm1;have HB1:=zHi hB1;have x1:=(hB1.cell (World.block_lt_of_cell? _ _ x0)).trans x0;have hb2:=zaa w1 (.cells #[.bool s1,.slice o1 k1 c1] 32);have x2:=(hb2.cell (World.block_lt_of_cell? _ _ x1)).trans x1;clear hm1 hz1 hB1;gi_wp2_with (gi_at_call 84;refine stop ?_)
 unfold Stop;have hm2:=zad.below HM.out hb2 (zdY.below hb2);rw [zal]at hm2;refine(zgL _ _ A0 m N N L hm2 h0 hN (by omega) (Nat.le_refl _) hL HSZ.out).mono ?_;rintro e w5 ⟨vr,vp,s,o,k,c',rfl,hr,hp,hz,hB3⟩;rw [HA.out]at hr;rw [HCS.out]at hp;obtain⟨op,cp,rfl,_⟩:=zad.form hp;obtain⟨ov,cv,e3⟩:=zad.some hr (by rw [zal];exact h0);rw [zal]at e3;subst e3;obtain⟨T,hT⟩:∃T,(rRun m A0 N).turns=T:=⟨_,rfl⟩;rw [hT];have hb03:=HB1.out.trans ((hb2.trans (hB3.mono hb2.size)).mono HB1.out.size);have hb6:=zaa w5 (.cells #[.slice (some ov) m cv,.slice op cs.length cp,.bool s,.slice o k c',.int .i64 (T:Int)] 125);have HB6:=zHi (hb03.trans (hb6.mono hb03.size));have hx6:=OBox.new w5 [.slice (some ov) m cv,.slice op cs.length cp,.bool s,.slice o k c',.int .i64 (T:Int)] 125;have HRED:Hid (zkG _ w5.heap.size m N A cs ov cv op cp):=zHi ⟨hx6.box.2 0 _ rfl,hx6.box.2 1 _ rfl,zad.below hr hb6 (zdY.below hb6),zad.below hp hb6 (fun _ _ q=>q)⟩;clear hr hp hz hB3 hm2 hb2 hb03 hb6 hx6 x0 x1 x2 hT;gi_wp2;obtain⟨g6,hg6⟩:∃g,w5.heap.size=g:=⟨_,rfl⟩;have HG6:=zHi hg6;rw [hg6]at HRED;rw [hg6];obtain⟨W6,hW6⟩:∃W,w5.alloc (.cells #[.slice (some ov) m cv,.slice op cs.length cp,.bool s,.slice o k c',.int .i64 (T:Int)] 125)=W:=⟨_,rfl⟩;rw [show([Value.slice (some ov) m cv,.slice op cs.length cp,.bool s,.slice o k c',.int .i64 (T:Int)].toArray)=#[.slice (some ov) m cv,.slice op cs.length cp,.bool s,.slice o k c',.int .i64 (T:Int)]from rfl,hW6]at HRED;rw [hW6]at HB6;rw [hW6];clear hW6 hg6;obtain⟨K,hK⟩:∃K,cs.length=K:=⟨_,rfl⟩;have HK:=zHi hK;rw [hK]at hKm;rw [hK];clear hK;gi_loopw [7,8,9] (fun x7 x8 x9 wr=>∃c nx:Nat,x9 = .int .i64 (c:Int)∧x8 = .int .i64 (nx:Int)∧c≤N∧Hid (Nxt cs c nx)∧Hid (OwnR wr W6.heap.size 63 1 zcJ x7 (kern U cs N c))∧Hid (Below W6.heap.size W6 wr)) (fun _ _ x _=>N-(intOf x).toNat)
 case atStart=>exact⟨0,0,rfl,rfl,by omega,zHi (Nxt.zero _),OwnR.nil _ _ _ _ _,Below.refl _ _⟩
 case round=>
  obtain⟨c,nx,rfl,rfl,hc,HNx,HO,HBr⟩:=hrel;by_cases hcn:c<N
  ·have hRd:=HRED.out.below HBr.out;have z1:=hRd.piv;rw [HK.out]at z1;by_cases hhit:cs[nx]? = some c
   ·obtain⟨ap,rfl,y0⟩:=hRd.col hhit;rw [Nat.mul_one]at y0;have hnk:nx<K:=by rw [←HK.out];exact(List.getElem?_eq_some_iff.1 hhit).1
    have HN2:=zHi (HNx.out.hit HUP.out hhit);have HKn:=zHi (zmN (P:=U) (N:=N) (Nxt.mem hhit));clear hRd hhit;gi_wp2;exact⟨⟨c+1,nx+1,by go_num,by go_num,by omega,HN2,zHi (by rw [HKn.out];exact HO.out),HBr⟩,by simp only [intOf];omega⟩
   ·have HN2:=zHi (HNx.out.miss HUP.out hhit).1;have HKn:=zHi (zkn (P:=U) (N:=N) (HNx.out.miss HUP.out hhit).2);by_cases hnk:nx<K
    case' pos=>
     obtain⟨p,hp⟩:∃p,cs[nx]? = some p:=⟨_,List.getElem?_eq_getElem (by rw [HK.out];exact hnk)⟩;obtain⟨ap,rfl,y0⟩:=hRd.col hp;rw [Nat.mul_one]at y0;have hpc:p≠c:=fun e=>hhit (by rw [hp,e])
     have hd1:((p:Int) == (c:Int))=false:=by rw [beq_eq_false_iff_ne];omega
     have hd2:decide ((p:Int)=(c:Int))=false:=decide_eq_false (by omega);clear hRd hhit hp;gi_wp2;clear hd1 hd2 hpc y0 z1
    case' neg=>
     clear hRd hhit;gi_wp2;clear z1
    all_goals
     obtain⟨W7,hW7⟩:∃W,wr=W:=⟨_,rfl⟩;rw [hW7]at HO HBr;rw [hW7];clear hW7;gi_loopw [10,11] (fun x10 x11 wi=>∃j:Nat,x11 = .int .i64 (j:Int)∧j≤N∧Hid (OwnR wi W7.heap.size 34 4 IQ x10 (rowF (fun _=>0) j))∧Hid (Below W7.heap.size W7 wi)) (fun _ x _=>N-(intOf x).toNat)
     case atStart=>exact⟨0,rfl,by omega,OwnR.nil _ _ _ _ _,Below.refl _ _⟩
     case round=>
      obtain⟨j,rfl,hj,HOj,HBj⟩:=hrel;by_cases hjn:j<N
      ·gi_wp2_with (gi_at_call 36;refine stop ?_)
       refine(zfi wr).mono ?_;rintro e w8 ⟨v8,rfl,hq8,hB8⟩;obtain⟨s8,o8,k8,c8,o9,k9,c9,rfl⟩:=hq8.form;have ho8:=HOj.out.below hB8 (IQ.below hB8);have HB8:=zBt HBj hB8;obtain⟨oo,co,hof⟩:=ho8.form;rw [zak]at hof;subst hof;have HO8:=zHi ho8;have HQ8:=zHi hq8;clear ho8 hq8 hB8;gi_wp2_with (gi_at_builtin;refine stop ?_)
       unfold Stop;refine zaJ (ty:=34) (sz:=4) (bytes:=64) w8 rfl _ _ rfl Go.Num.u63 i34 i34z i34s i34b rfl (by decide) (by decide) W7.heap.size HB8.out.size (.slice oo j co) _ rfl HO8.out (0:Rat) [.bool s8,.slice o8 k8 c8,.bool false,.slice o9 k9 c9] _ rfl rfl (by simp [Value.oneCell']) HQ8.out (fun b r w1 w2 ht=>IQ.touch ht rfl b r) (by rw [zak];omega) ?_;intro v9 w9 HO9 HK9 HB9;have HO10:Hid (OwnR w9 W7.heap.size 34 4 IQ v9 (rowF (fun _=>0) (j+1))):=zHi (by
        have:=HO9.out;rwa [←show rowF (fun _=>(0:Rat)) (j+1)=rowF (fun _=>0) j ++ [0]by simp [rowF,List.range_succ]]at this)
       have HB10:=zHi (HB9.out W7.heap.size W7 HB8.out (Nat.le_refl _));gi_wp2;exact⟨⟨j+1,by go_num,by omega,HO10,HB10⟩,by simp only [intOf];omega⟩
      ·have hjN:j=N:=by omega
       subst hjN;obtain⟨gx,cx,e,hgx,_⟩:=HOj.out.own (by rw [zak];exact hN);rw [zak]at e;subst e;gi_wp2_with (gi_at_call 22;refine stop ?_)
       refine(za6 _ 1 (by decide) (by decide)).mono ?_;rintro e w8 ⟨v8,rfl,hz8,hB8⟩;gi_wp2_with (gi_at_call 21;refine stop ?_)
       refine(zdZ w8 v8 1 hz8).mono ?_;rintro e w9 ⟨v9,rfl,hq9,hB9⟩;obtain⟨s9,o9,k9,c9,o8,k8,c8,rfl⟩:=hq9.form;have hb9:=hB8.trans (hB9.mono hB8.size);have ho9:=HOj.out.below hb9 (IQ.below hb9);obtain⟨p1,p2,_,p4⟩:=ho9.putQ (i:=c) (row:=[.bool s9,.slice o9 k9 c9,.bool false,.slice o8 k8 c8]) hcn rfl hq9;have HO1:Hid (OwnR (w9.setCells gx (c*4) [.bool s9,.slice o9 k9 c9,.bool false,.slice o8 k8 c8]) W7.heap.size 34 4 IQ (.slice (some ⟨gx,0,none⟩) j cx) (rowF (kvec U cs c 0) j)):=zHi p1;have HB1':=zHi ((HBj.out.trans (hb9.mono HBj.out.size)).trans (p4.mono hgx));have HP2:=zHi p2;clear hz8 hB8 hq9 hB9 hb9 ho9 p1 p2 p4 HOj HBj;gi_wp2_with (with_reducible refine zsp ?_)
       unfold Stop;refine za2 _ rfl rfl (zny HP2.out (by simp [Value.oneCell'])) ?_;obtain⟨W8,hW8⟩:∃W,w9.setCells gx (c*4) [.bool s9,.slice o9 k9 c9,.bool false,.slice o8 k8 c8]=W:=⟨_,rfl⟩;rw [hW8]at HO1 HB1';rw [hW8];clear hW8 HP2;gi_wp2;gi_loopw [12] (fun x12 wi=>∃i:Nat,x12 = .int .i64 (i:Int)∧i≤K∧Hid (OwnR wi W7.heap.size 34 4 IQ (.slice (some ⟨gx,0,none⟩) j cx) (rowF (kvec U cs c i) j))∧Hid (Below W7.heap.size W7 wi)) (fun x _=>K-(intOf x).toNat)
       case atStart=>exact⟨0,rfl,by omega,HO1,HB1'⟩
       case round=>
        obtain⟨i,rfl,hi,HOi,HBi⟩:=hrel;clear HO1 HB1';have HB7:=zHi (HBr.out.trans (HBi.out.mono HBr.out.size));have hRd:=HRED.out.below HB7.out;have z1:=hRd.piv;rw [HK.out]at z1;by_cases hik:i<K
        ·gi_wp2;have hbd:=zab wr;obtain⟨W1,hW1⟩:∃W,wr.drew=W:=⟨_,rfl⟩;rw [hW1]at hbd;have hRd1:=hRd.below hbd;have hO1:=HOi.out.below hbd (IQ.below hbd);obtain⟨p,hp⟩:∃p,cs[i]? = some p:=⟨_,List.getElem?_eq_getElem (by rw [HK.out];exact hik)⟩;have hpN:=HLT.out p (List.mem_of_getElem? hp);have him:i<m:=by omega
         obtain⟨ap2,hap2,y0⟩:=hRd1.col hp
         cases hap2
         obtain⟨br,cr,y1,hrow⟩:=hRd1.row him hN;obtain⟨sx,ox,kx,cx',hcx,hzx⟩:=hrow c hcn;obtain⟨sy,oy,ky,cy,hcy,hzy⟩:=hrow p hpN;have hr0:=hRd1.rows;have hr1:=hRd1.piv;rw [←zbN g6 0]at hr0;rw [←zbN g6 1]at hr1;refine zap (ro:=none) [14,27,29] [0,1,2,3,4,5,6,7,8,9,10,11,12,13,15,16,17,18,19,20,21,22,23,24,25,26,14,27,28,29] [0,0,2,0,14,30,0,64,0,448,960,0,4032,8128,16320,0,32768,0,229376,491520,0,1048576,0,7340032,15728640,33521664,67076096,134217664,268435455,536870911] zaq rfl 101 rfl (by kernel_rfl) (by kernel_rfl) ?_;rw [hW1];refine OV.mv (v:=.slice (some ⟨gx,0,none⟩) j cx) rfl rfl rfl rfl ?_;refine OV.fld zlQ rfl rfl rfl rfl ?_;refine OV.ld lo29 hr1 rfl rfl rfl rfl rfl ?_;refine OV.mv (v:=.int .i64 (i:Int)) rfl rfl rfl rfl ?_;refine OV.idx it29 (by rw [HK.out];exact hik) rfl rfl rfl rfl rfl ?_;refine OV.ld lo3 y0 rfl rfl rfl rfl rfl ?_;refine OV.fld zoa rfl rfl rfl rfl ?_;refine OV.ld zry hr0 rfl rfl rfl rfl rfl ?_;refine OV.mv (v:=.int .i64 (i:Int)) rfl rfl rfl rfl ?_;refine OV.idx zqx him rfl rfl rfl rfl rfl ?_;refine OV.ld zqq y1 rfl rfl rfl rfl rfl ?_;refine OV.mv (v:=.int .i64 (c:Int)) rfl rfl rfl rfl ?_;refine OV.idx zmQ hcn rfl rfl rfl rfl rfl ?_;refine OV.ldn [.bool sx,.slice ox kx cx'] lm32 hcx rfl rfl rfl rfl rfl (by decide) rfl ?_;refine OV.fld zoa rfl rfl rfl rfl ?_;refine OV.ld zry hr0 rfl rfl rfl rfl rfl ?_;refine OV.mv (v:=.int .i64 (i:Int)) rfl rfl rfl rfl ?_;refine OV.idx zqx him rfl rfl rfl rfl rfl ?_;refine OV.ld zqq y1 rfl rfl rfl rfl rfl ?_;refine OV.fld zlQ rfl rfl rfl rfl ?_;refine OV.ld lo29 hr1 rfl rfl rfl rfl rfl ?_;refine OV.mv (v:=.int .i64 (i:Int)) rfl rfl rfl rfl ?_;refine OV.idx it29 (by rw [HK.out];exact hik) rfl rfl rfl rfl rfl ?_;refine OV.ld lo3 y0 rfl rfl rfl rfl rfl ?_;refine OV.idx zmQ hpN rfl rfl rfl rfl rfl ?_;refine OV.ldn [.bool sy,.slice oy ky cy] lm32 hcy rfl rfl rfl rfl rfl (by decide) rfl ?_;refine OV.call [.agg #[.bool sx,.slice ox kx cx']] Tryz.func85 rfl zah rfl rfl rfl rfl rfl (ziK _ _ _ hzx (zkR (HSZN.out i c him hcn) hL)) fun v2 w2 h2 hB2 => ?_
         refine OV.call [v2,.agg #[.bool sy,.slice oy ky cy]] Tryz.func77 rfl zah rfl rfl rfl rfl rfl (zd4 _ _ _ _ _ h2 (hzy.below hB2) (by rw [Int.natAbs_neg];exact zrf (HSZN.out i c him hcn) hL) (zrf (HSZN.out i p him hpN) hL) (HPV.out i p hp)) fun v3 w3 hq3 hB3 => ?_
         obtain⟨s3,o3,k3,c3,o4,k4,c4,rfl⟩:=hq3.form;have hb13:=hB2.trans (hB3.mono hB2.size);have ho3:=hO1.below hb13 (IQ.below hb13);have hqv:IQ (-(U i c)) [.bool s3,.slice o3 k3 c3,.bool false,.slice o4 k4 c4] w3:=by
          have e:((-(A i c):Int):Rat)/((A i p:Int):Rat) = -(U i c):=by
           rw [←HU.out];unfold zbS;rw [hp,Rat.intCast_neg];show -(A i c:Rat)/(A i p:Rat) = -((A i c:Rat)/(A i p:Rat))
           grind
          rw [←e];exact hq3
         obtain⟨p1,p2,_,p4⟩:=ho3.putQ (i:=p) (row:=[.bool s3,.slice o3 k3 c3,.bool false,.slice o4 k4 c4]) hpN rfl hqv;rw [←zeK hp]at p1;refine OV.idx it63 hpN rfl rfl rfl rfl rfl ?_;refine OV.st (w':=w3.setCells gx (p*4) [.bool s3,.slice o3 k3 c3,.bool false,.slice o4 k4 c4]) trivial (znx p2 (by simp [Value.oneCell'])) rfl rfl rfl rfl rfl ?_;refine OV.done ?_;have HO9:=zHi p1;have HB9:=zHi ((((HBi.out.trans (hbd.mono HBi.out.size)).trans (hb13.mono (Nat.le_trans HBi.out.size hbd.size)))).trans (p4.mono hgx));simp only [zbo,Go.Act.put,ztQ,ztR,ztS];clear p1 p2 p4 hqv ho3 hb13 hq3 hB3 h2 hB2 hr0 hr1 hcx hzx hcy hzy hrow y0 y1 hp hRd1 hO1 hbd hW1 hRd z1;gi_wp2;exact⟨⟨i+1,by go_num,by omega,HO9,HB9⟩,by simp only [intOf];omega⟩
        ·have hiK:i=K:=by omega
         subst hiK;clear hRd;obtain⟨oo,co,hof⟩:=HO.out.form;obtain⟨nk,hnk2⟩:∃nk,(kern U cs j c).length=nk:=⟨_,rfl⟩;have hnk9:nk≤c:=by rw [←hnk2];exact ze6 c
         have HNK:=zHi hnk2;rw [hnk2]at hof;subst hof;clear hnk2;gi_wp2_with (gi_at_builtin;refine stop ?_)
         unfold Stop;have hrow:RowQ wr (.slice (some ⟨gx,0,none⟩) j cx) (rowF (kvec U cs c i) j):=HOi.out.row (by rw [zak];omega);refine zaJ (ty:=63) (sz:=1) (bytes:=24) wr rfl _ _ rfl Go.Num.u54 i63 i63z i63s i63b rfl (by decide) (by decide) W6.heap.size HB7.out.size (.slice oo nk co) _ rfl (HO.out.below HBi.out (zcJ.below HBi.out)) (rowF (kvec U cs c i) j) [.slice (some ⟨gx,0,none⟩) j cx] _ rfl rfl (by simp [Value.oneCell']) ⟨_,rfl,hrow⟩ (fun b r w1 w2 ht=>zcJ.touch ht rfl (by decide) b r) (by rw [HNK.out];omega) ?_;intro v13 w13 HO13 HK13 HB13;have HB14:=zHi (HB13.out W6.heap.size W6 HB7.out (Nat.le_refl _));have HO14:Hid (OwnR w13 W6.heap.size 63 1 zcJ v13 (kern U cs j (c+1))):=zHi (by rw [HKn.out,HK.out];exact HO13.out);clear z1;gi_wp2;exact⟨⟨c+1,nx,by go_num,rfl,by omega,HN2,HO14,HB14⟩,by simp only [intOf];omega⟩
  ·have hcN:c=N:=by omega
   subst hcN;gi_wp2;exact(HR0.out _ _).2 ⟨_,rfl,HO.out.row (by have:=ze6 (P:=U) (cs:=cs) (N:=c) c;omega),HB6.out.trans (HBr.out.mono HB6.out.size)⟩
theorem OV.sub{K:World→Prop}{ks:List Nat}{nt:Nat}{ops:Array Oper}{bs bars r:List Nat}{i:Nat}{a:CAct}{ov:List (Tmp × Value)}{w:World}{Q:CAct→World→Prop}{t t2:TypeId}{x y:Operand}{p q z:Int}{d:Tmp}{ty:TypeId}{ps:String}{af:Array Edge}(hz:RowKit.wrap64 (p-q)=z)
  (ho:ops[i]? = some {op:=.binOp .sub t x y t2,dst:=some d,type:=ty,pos:=ps,after:=af,guard:=none}) (hb:bars.contains i=false) (hd:Nat.blt d nt=true)
  (hx:Go.Eng.look a ov x = .int .i64 p) (hy:Go.Eng.look a ov y = .int .i64 q) (h:OV K ks Tryz.prog nt ops bs bars Q r a ((d,.int .i64 z) :: ov) w):OV K ks Tryz.prog nt ops bs bars Q (i :: r) a ov w:=
 OV.read _ ho rfl hb hd (fun w' _=>by
  rw [←hz];simp [execOp,hx,hy,binOp,go_sem]
  exact Go.IntWalk.i64_left _) h
theorem QAt.one{w:World}{r:List Value}{q:Rat}(h:IQ q r w):∀u∈r,u.oneCell'=true:=by
 obtain⟨s,o1,k1,c1,o2,k2,c2,e⟩:=QAt.form h;have e:r = [.bool s,.slice o1 k1 c1,.bool false,.slice o2 k2 c2]:=by
  injection e with e;injection e
 subst e;simp [Value.oneCell']
theorem zdY.touch{w w':World}(h:Touch 128 w w'):∀q r,zdY q r w→zdY q r w':=fun _ _ ⟨u,e,k⟩=>⟨u,e,zad.touch k h (by decide) (IZ.touch h rfl)⟩
theorem zjM{β:Type}{m N:Nat}{A:Nat→Nat→β}{i:Nat}(h:i<m):(tab m N A).take (i+1)=(tab m N A).take i ++ [(List.range N).map (A i)]:=zfL h
end Go.Num
namespace Go.Num
def Dig(q:Rat):Prop:=q.num.natAbs<10^20∧q.den≤10^20
theorem zqa{a b:Nat}(h:a≤b):10^a≤10^b:=Nat.pow_le_pow_right (by decide) h
theorem ztb{a b:Nat}(h:a<b):10^a<10^b:=Nat.pow_lt_pow_right (by decide) h
theorem Dig.le{q:Rat}(h:Dig q){L:Nat}(hL:3≤L):zan q L:=by
 have h1:(10:Nat)^20<B^3:=by decide
 exact⟨up (Nat.lt_trans h.1 h1) hL,up (Nat.lt_of_le_of_lt h.2 h1) hL⟩
theorem zsb{q:Rat}(h:zbf q=false):Dig q:=by
 have h:zbq q 20=true:=by
  unfold zbf at h
  cases e:zbq q 20 with
  | true=>rfl
  | false=>rw [e]at h;cases h
 unfold zbq at h;rw [Bool.and_eq_true]at h;have h1:=of_decide_eq_true h.1;have h2:=of_decide_eq_true h.2;exact⟨Nat.lt_of_lt_of_le (Lib.lt_pow_nDigits _) (zqa h1),Nat.le_of_lt (Nat.lt_of_lt_of_le (Lib.lt_pow_nDigits _) (zqa h2))⟩
theorem rect{M:List (List Rat)}(h:zbi M=0):∃m N Q,M=tab m N Q∧0<m∧m≤8∧0<N∧N≤8∧∀i j,i<m→j<N→Dig (Q i j):=by
 unfold zbi at h;split at h
 ·cases h
 ·rename_i hm;split at h
  ·cases h
  ·rename_i r rest;split at h
   ·cases h
   ·rename_i hN;split at h
    ·cases h
    ·rename_i h0;split at h
     ·cases h
     ·rename_i hoff;split at h
      ·cases h
      ·rename_i hlong;have hoff':∀l∈r :: rest,l.length=r.length:=fun l hl=>by
        rcases Decidable.em (l.length=r.length)with e|e
        ·exact e
        ·exact absurd (List.any_eq_true.2 ⟨l,hl,by unfold zcf;rw [decide_eq_false e];rfl⟩) hoff
       have hlong':∀l∈r :: rest,∀q∈l,zbf q=false:=fun l hl q hq=>by
        cases e:zbf q with
        | false=>rfl
        | true=>exact absurd (List.any_eq_true.2 ⟨l,hl,by unfold zbt;exact List.any_eq_true.2 ⟨q,hq,e⟩⟩) hlong
       obtain⟨M,hM⟩:∃M,r :: rest=M:=⟨_,rfl⟩;rw [hM]at hm hoff' hlong' ⊢;have hml:0<M.length:=by rw [←hM];simp
       refine⟨M.length,r.length,fun i j=>(M.getD i []).getD j 0,?_,hml,by omega,by omega,by omega,fun i j hi hj=>zsb ?_⟩
       ·unfold tab;refine List.ext_getElem? fun i => ?_
        rcases Nat.lt_or_ge i M.length with hi|hi
        ·rw [List.getElem?_map,List.getElem?_range hi,List.getElem?_eq_getElem hi];refine congrArg some ?_;have hl:=hoff' _ (List.getElem_mem hi);refine List.ext_getElem? fun j => ?_
         rcases Nat.lt_or_ge j r.length with hj|hj
         ·rw [List.getElem?_map,List.getElem?_range hj,List.getElem?_eq_getElem (by omega)];simp [hi,hl,hj]
         ·rw [List.getElem?_eq_none (by omega),List.getElem?_eq_none (by simp;omega)]
        ·rw [List.getElem?_eq_none (by omega),List.getElem?_eq_none (by simp;omega)]
       ·have hl:=hoff' _ (List.getElem_mem hi);refine hlong' _ (List.getElem_mem hi) _ ?_;simp only [List.getD_eq_getElem?_getD,List.getElem?_eq_getElem hi,Option.getD_some,List.getElem?_eq_getElem (show j<M[i].length by omega)];exact List.getElem_mem _
structure Set1(m N columns:Nat)(P0:Nat→Nat→Rat)(A0:Nat→Nat→Int)(g0:Nat→Rat):Prop where
 fine:Fine m N columns P0
 ends:Ends m N columns g0 P0 A0
 sizes:∀c,c≤columns→(rRun m A0 c).last≠0∧(rRun m A0 c).last.natAbs<B^700∧∀i j,i<m→j<N→((rRun m A0 c).A i j).natAbs<B^700
 cols:zaV m A0 columns=zaF m P0 columns
 det:(pRun m P0 columns).k=m→zan (zli (zoW m P0 columns)) 700
def ten(a:Nat):Nat:=10^a
theorem zsm(k:Nat):B^k=ten (9*k):=zmf k
theorem zns{a b:Nat}(h:a≤b):ten a≤ten b:=zqa h
theorem zpv{a b:Nat}(h:a<b):ten a<ten b:=ztb h
theorem zpu(a:Nat):1≤ten a:=Nat.pow_pos (by decide)
theorem zhf{a b x y:Nat}(hx:x≤ten a)(hy:y≤ten b):x*y≤ten (a+b):=by
 unfold ten at *;rw [Nat.pow_add];exact Nat.mul_le_mul hx hy
theorem zjL{a x m:Nat}(hx:x≤ten a):x^m≤ten (a*m):=by
 unfold ten at *;rw [Nat.pow_mul];exact Nat.pow_le_pow_left hx m
theorem zpO{m N columns:Nat}{P0:Nat→Nat→Rat}(hm:m≤8)(h0:0<N)(hN:N≤16)(hD:∀i j,i<m→j<N→Dig (P0 i j))(hcN:columns≤N) :
  Set1 m N columns P0 (fun i=>zcy (P0 i) N) (fun i=>1/(facF (P0 i) N:Rat)):=by
 have hA:∀i,i<m→∀j,j<N→((zcy (P0 i) N j:Int):Rat)=(fun i j=>((zcy (P0 i) N j:Int):Rat)) i j:=fun _ _ _ _=>rfl
 have hX:∀i,i<m→∀j,j<N→(zcy (P0 i) N j).natAbs≤ten 340:=fun i hi j hj=>by
  have h1:=zro (X:=ten 20) (D:=ten 20) hj (fun j hj=>(hD i j hi hj).2) (Nat.le_of_lt (hD i j hi hj).1);refine Nat.le_trans h1 ?_;have h2:(ten 20)^N≤ten (20*N):=zjL (Nat.le_refl _);exact Nat.le_trans (zhf (Nat.le_refl _) h2) (zns (by omega))
 have hFF:∀i,i<m→facF (P0 i) N≤ten 320:=fun i hi=>by
  have h1:=zhU (q:=P0 i) (D:=ten 20) (n:=N) (fun j hj=>(hD i j hi hj).2);exact Nat.le_trans (Nat.le_trans h1 (zjL (Nat.le_refl _))) (zns (by omega))
 have hg:∀i,i<m→(fun i=>1/(facF (P0 i) N:Rat)) i≠0:=fun i _=>zm1.2
 have hgF:∀i,i<m→RatB 1 (ten 320) ((fun i=>1/(facF (P0 i) N:Rat)) i):=fun i hi=>zm1.1.mono (Nat.le_refl _) (hFF i hi)
 have hP:∀i,i<m→∀j,j<N→P0 i j=(fun i=>1/(facF (P0 i) N:Rat)) i*(fun i j=>((zcy (P0 i) N j:Int):Rat)) i j:=fun i _ j hj=>by
  show P0 i j=1/(facF (P0 i) N:Rat)*((zcy (P0 i) N j:Int):Rat)
  rw [zoI (P0 i) hj];have:=(zm1 (q:=P0 i) (n:=N)).2;have h2:(facF (P0 i) N:Rat)≠0:=fun e=>by rw [e]at this;exact this (by grind)
  grind
 have hNX:1≤N*ten 340:=Nat.mul_pos h0 (zpu _);have hNX2:N*ten 340≤ten 342:=zhf (a:=2) (b:=340) (show N≤ten 2 from Nat.le_trans hN (by decide)) (Nat.le_refl _);have hp:(N*ten 340)^m≤ten 2736:=Nat.le_trans (zjL hNX2) (zns (by omega));have hF:1≤ten 320:=zpu _;have hb:ten 320*((N*ten 340)^m*(N*ten 340)^m)<B^700:=by
  rw [zsm 700];exact Nat.lt_of_le_of_lt (zhf (Nat.le_refl _) (zhf hp hp)) (zpv (by omega))
 have hb2:(N*ten 340)^m<B^700:=by
  rw [zsm 700];exact Nat.lt_of_le_of_lt hp (zpv (by omega))
 have hb3:(ten 320)^m*(N*ten 340)^m<B^700:=by
  rw [zsm 700];have h2:(ten 320)^m≤ten 2560:=Nat.le_trans (zjL (Nat.le_refl _)) (zns (by omega));exact Nat.lt_of_le_of_lt (zhf h2 hp) (zpv (by omega))
 exact⟨zsL hA hX hg hgF hP hcN hNX hF hb,zm4 hA hX hg hgF hP hcN,zpX (L:=700) hX hNX hb2 hcN,znJ hA hX hg hgF hP columns hcN,fun hk=>ztl hA hX hg hgF hP hcN hNX hF hb3 hk⟩
end Go.Num
namespace Go.Num
open Go.Eng Go.Shelf Go.RowKit Go.Sort Go.Proofs Go.Proofs.YtoamcgjbelhnkaaGreatDoor
theorem zrp(s:Nat→ByteArray)(k:Nat):∀q∈zbs s k,zb5 q=true:=by
 intro q hq;unfold zbs at hq;obtain⟨j,_,rfl⟩:=List.mem_map.1 hq;exact zmx _ _
section
variable {w:World} {o1 o2:Option Addr} {n1 k1 n2 k2:Nat} {m:List (List Rat)} {c:Int}
end
end Go.Num
namespace Go.Num
open Go.Eng Go.Shelf Go.RowKit Go.Sort Go.Proofs Go.Proofs.YtoamcgjbelhnkaaGreatDoor
attribute [local go_sem] Oper.semAt_some
theorem it54:zff Tryz.prog 54 1:=zcR Go.Num.u54 i63 i63s
theorem lm34:zgg Tryz.prog 34 4:=zft (by kernel_rfl) (by kernel_rfl)
theorem OV.not{K:World→Prop}{ks:List Nat}{nt:Nat}{ops:Array Oper}{bs bars r:List Nat}{i:Nat}{a:CAct}{ov:List (Tmp × Value)}{w:World}{Q:CAct→World→Prop}{t:TypeId}{x:Operand}{b:Bool}{d:Tmp}{ty:TypeId}{ps:String}{af:Array Edge}
  (ho:ops[i]? = some {op:=.unOp .not t x,dst:=some d,type:=ty,pos:=ps,after:=af,guard:=none}) (hb:bars.contains i=false) (hd:Nat.blt d nt=true)
  (hx:Go.Eng.look a ov x = .bool b) (h:OV K ks Tryz.prog nt ops bs bars Q r a ((d,.bool (!b)) :: ov) w):OV K ks Tryz.prog nt ops bs bars Q (i :: r) a ov w:=
 OV.read _ ho rfl hb hd (fun w' _=>by simp [execOp,hx,Op.unary,go_sem]) h
theorem zcz{β:Type}{w:World}{ty sz:Nat}{I:β→List Value→World→Prop}{o:Option Addr}{n c:Nat}{bs:List β}(h:zad w ty sz I (.slice o n c) bs)(h0:0<bs.length):∃a,o=some a:=by
 obtain⟨a,c,e⟩:=zad.some h h0;injection e with e;exact⟨a,e⟩
theorem zdw{r:List Value}{l:List Value}(e:Value.agg r.toArray = .agg l.toArray):r=l:=by
 injection e with e;injection e
theorem zje(w:World)(u v:Value)(qs:List Rat)(hu:RowR w u qs)(hv:RowQ w v qs)(hq:∀q∈qs,zan q 20000)(hT:zaY w) :
  CallsIn Fence.wide 0 Tryz.prog 35 #[u,v] w fun e w'=>e = .returned (.bool true)∧Below w.heap.size w w':=by
 obtain⟨o1,c1,rfl,h9⟩:=zad.form hu;obtain⟨o2,c2,rfl,_⟩:=zad.form hv;have HU:=zHi hu;have HV:=zHi hv;have HQ:=zHi hq;have HT:=zHi hT;obtain⟨n,hn⟩:∃n,qs.length=n:=⟨_,rfl⟩;have HN:=zHi hn;rw [hn]at h9 ⊢;clear hu hv hq hT hn;refine callsIn_of_wp Tryz.func35 rfl trivial ?_ rfl;simp only [Tryz.ntmps35,ztH,ztI,ztJ,Nat.reduceAdd,Nat.reduceSub,ztK,ztL,ztM,ztN,ztO,ztP];gi_wp2;gi_loopw [5] (fun x5 wr=>∃i:Nat,x5 = .int .i64 (i:Int)∧i≤n∧Hid (Below w.heap.size w wr)) (fun x _=>n-(intOf x).toNat)
 case atStart=>exact⟨0,rfl,by omega,Below.refl _ _⟩
 case round=>
  obtain⟨i,rfl,hi,HB⟩:=hrel;by_cases hin:i<n
  ·gi_wp2;have hbd:=zab wr;obtain⟨W1,hW1⟩:∃W,wr.drew=W:=⟨_,rfl⟩;rw [hW1]at hbd;have hb1:=HB.out.trans (hbd.mono HB.out.size);obtain⟨q,hq⟩:∃q,qs[i]? = some q:=⟨_,List.getElem?_eq_getElem (by rw [HN.out];exact hin)⟩;have hu1:=zad.below HU.out hb1 (IR.below hb1);have hv1:=zad.below HV.out hb1 (IQ.below hb1);obtain⟨a1,e1⟩:=zcz hu1 (by rw [HN.out];omega);obtain⟨a2,e2⟩:=zcz hv1 (by rw [HN.out];omega);subst e1;subst e2;obtain⟨_,r1,_,hc1,hI1⟩:=zad.at' hu1 hq;obtain⟨_,r2,_,hc2,hI2⟩:=zad.at' hv1 hq;have hI1:zau W1 (.agg r1.toArray) q:=hI1;have hI2:QAt W1 (.agg r2.toArray) q:=hI2;obtain⟨k1,n1,d1,k2,n2,d2,e1⟩:=zau.form hI1;obtain⟨t1,k3,n3,d3,k4,n4,d4,e2⟩:=QAt.form hI2;have e1:=zdw (l:=[.bool (decide (q.num<0)),.slice k1 n1 d1,.slice k2 n2 d2]) e1;have e2:=zdw (l:=[.bool t1,.slice k3 n3 d3,.bool false,.slice k4 n4 d4]) e2;subst e1;subst e2;refine zap (ro:=none) [8] [0,1,2,3,4,5,6,7,8,9] [0,0,3,7,0,0,48,112,255,511] zaq rfl 27 rfl (by kernel_rfl) (by kernel_rfl) ?_;rw [hW1];refine OV.mv (v:=.slice (some a1) n c1) rfl rfl rfl rfl ?_;refine OV.mv (v:=.int .i64 (i:Int)) rfl rfl rfl rfl ?_;refine OV.idx it64 hin rfl rfl rfl rfl rfl ?_;refine OV.ldn [.bool (decide (q.num<0)),.slice k1 n1 d1,.slice k2 n2 d2] lm25 hc1 rfl rfl rfl rfl rfl (by decide) rfl ?_;refine OV.mv (v:=.slice (some a2) n c2) rfl rfl rfl rfl ?_;refine OV.mv (v:=.int .i64 (i:Int)) rfl rfl rfl rfl ?_;refine OV.idx it63 hin rfl rfl rfl rfl rfl ?_;refine OV.ldn [.bool t1,.slice k3 n3 d3,.bool false,.slice k4 n4 d4] lm34 hc2 rfl rfl rfl rfl rfl (by decide) rfl ?_;refine OV.call (R:=fun v _=>v = .bool true) [.agg #[.bool (decide (q.num<0)),.slice k1 n1 d1,.slice k2 n2 d2],.agg #[.bool t1,.slice k3 n3 d3,.bool false,.slice k4 n4 d4]] Tryz.func19 rfl zah rfl rfl rfl rfl rfl ((zrC W1 _ _ q hI1 hI2 (HQ.out q (List.mem_of_getElem? hq)) (HT.out.below hb1)).mono ?_) fun v3 w3 h3 hB3 => ?_
   ·rintro e w' ⟨rfl,h2⟩;exact⟨_,rfl,rfl,h2⟩
   subst h3;refine OV.not (b:=true) rfl rfl rfl rfl ?_;refine OV.done ?_;have HB3:=zHi (hb1.trans (hB3.mono hb1.size));simp only [zbo,Go.Act.put,ztQ,ztR,ztS];clear hB3 hc1 hc2 hI1 hI2 hu1 hv1 hq hb1 hbd hW1;gi_wp2;exact⟨⟨i+1,by go_num,by omega,HB3⟩,by simp only [intOf];omega⟩
  ·gi_wp2;all_goals (first|go_returns|go_ret|go_end0)
   exact⟨rfl,HB.out⟩
theorem zoJ(w:World)(u v:Value)(M:List (List Rat))(hu:MatR w u M)(hv:MatQ w v M)(hq:∀l∈M,∀q∈l,zan q 20000)(hT:zaY w) :
  CallsIn Fence.wide 0 Tryz.prog 28 #[u,v] w fun e w'=>e = .returned (.bool true)∧Below w.heap.size w w':=by
 obtain⟨o1,c1,rfl,h9⟩:=zad.form hu;obtain⟨o2,c2,rfl,_⟩:=zad.form hv;have HU:=zHi hu;have HV:=zHi hv;have HQ:=zHi hq;have HT:=zHi hT;obtain⟨n,hn⟩:∃n,M.length=n:=⟨_,rfl⟩;have HN:=zHi hn;rw [hn]at h9 ⊢;clear hu hv hq hT hn;refine callsIn_of_wp Tryz.func28 rfl trivial ?_ rfl;simp only [Tryz.ntmps28,ztH,ztI,ztJ,Nat.reduceAdd,Nat.reduceSub,ztK,ztL,ztM,ztN,ztO,ztP];gi_wp2;gi_loopw [5] (fun x5 wr=>∃i:Nat,x5 = .int .i64 (i:Int)∧i≤n∧Hid (Below w.heap.size w wr)) (fun x _=>n-(intOf x).toNat)
 case atStart=>exact⟨0,rfl,by omega,Below.refl _ _⟩
 case round=>
  obtain⟨i,rfl,hi,HB⟩:=hrel;by_cases hin:i<n
  ·gi_wp2;have hbd:=zab wr;obtain⟨W1,hW1⟩:∃W,wr.drew=W:=⟨_,rfl⟩;rw [hW1]at hbd;have hb1:=HB.out.trans (hbd.mono HB.out.size);obtain⟨q,hq⟩:∃q,M[i]? = some q:=⟨_,List.getElem?_eq_getElem (by rw [HN.out];exact hin)⟩;have hu1:=zad.below HU.out hb1 (zbQ.below hb1);have hv1:=zad.below HV.out hb1 (zcJ.below hb1);obtain⟨a1,e1⟩:=zcz hu1 (by rw [HN.out];omega);obtain⟨a2,e2⟩:=zcz hv1 (by rw [HN.out];omega);subst e1;subst e2;obtain⟨_,r1,_,hc1,v1,rfl,hI1⟩:=zad.at' hu1 hq;obtain⟨_,r2,_,hc2,v2,rfl,hI2⟩:=zad.at' hv1 hq;have x1:=hc1 0 v1 rfl;have x2:=hc2 0 v2 rfl;rw [zb4]at x1 x2;refine zap (ro:=none) [8] [0,1,2,3,4,5,6,7,8,9] [0,0,3,7,0,0,48,112,255,511] zaq rfl 27 rfl (by kernel_rfl) (by kernel_rfl) ?_;rw [hW1];refine OV.mv (v:=.slice (some a1) n c1) rfl rfl rfl rfl ?_;refine OV.mv (v:=.int .i64 (i:Int)) rfl rfl rfl rfl ?_;refine OV.idx it55 hin rfl rfl rfl rfl rfl ?_;refine OV.ld lo64 x1 rfl rfl rfl rfl rfl ?_;refine OV.mv (v:=.slice (some a2) n c2) rfl rfl rfl rfl ?_;refine OV.mv (v:=.int .i64 (i:Int)) rfl rfl rfl rfl ?_;refine OV.idx it54 hin rfl rfl rfl rfl rfl ?_;refine OV.ld lo63 x2 rfl rfl rfl rfl rfl ?_;refine OV.call (R:=fun v _=>v = .bool true) [v1,v2] Tryz.func35 rfl zah rfl rfl rfl rfl rfl ((zje W1 _ _ q hI1 hI2 (HQ.out q (List.mem_of_getElem? hq)) (HT.out.below hb1)).mono ?_) fun v3 w3 h3 hB3 => ?_
   ·rintro e w' ⟨rfl,h2⟩;exact⟨_,rfl,rfl,h2⟩
   subst h3;refine OV.not (b:=true) rfl rfl rfl rfl ?_;refine OV.done ?_;have HB3:=zHi (hb1.trans (hB3.mono hb1.size));simp only [zbo,Go.Act.put,ztQ,ztR,ztS];clear hB3 hc1 hc2 hI1 hI2 hu1 hv1 hq hb1 hbd hW1 x1 x2;gi_wp2;exact⟨⟨i+1,by go_num,by omega,HB3⟩,by simp only [intOf];omega⟩
  ·gi_wp2;all_goals (first|go_returns|go_ret|go_end0)
   exact⟨rfl,HB.out⟩
def zbr(Q:Nat→Nat→Rat)(b:Nat→Rat)(N:Nat):Nat→Nat→Rat:=fun i j=>if j<N then Q i j else b i
theorem zox{Q:Nat→Nat→Rat}{b:Nat→Rat}{N i:Nat}:rowF (zbr Q b N i) N=(List.range N).map (Q i):=zoL fun j hj=>by unfold zbr;rw [if_pos hj]
theorem zkN{Q:Nat→Nat→Rat}{b:Nat→Rat}{N i:Nat}:rowF (zbr Q b N i) (N+1)=(List.range N).map (Q i) ++ [b i]:=by
 rw [zla,zox];unfold zbr;rw [if_neg (by omega)]
def solv(U:Nat→Nat→Rat)(cs:List Nat)(N:Nat):Nat→Nat→Rat
 | 0=>fun _=>0
 | i+1=>match cs[i]? with|some p=>fun j=>if j=p then U i N else solv U cs N i j|none=>solv U cs N i
theorem zex{U:Nat→Nat→Rat}{cs:List Nat}{N i p:Nat}(h:cs[i]? = some p):solv U cs N (i+1)=fun j=>if j=p then U i N else solv U cs N i j:=by
 show(match cs[i]? with|some p=>fun j=>if j=p then U i N else solv U cs N i j|none=>solv U cs N i)=_
 rw [h]
theorem zhk{U:Nat→Nat→Rat}{cs:List Nat}{N i:Nat}(h:cs.length≤i):solv U cs N (i+1)=solv U cs N i:=by
 show(match cs[i]? with|some p=>fun j=>if j=p then U i N else solv U cs N i j|none=>solv U cs N i)=_
 rw [List.getElem?_eq_none h]
theorem zir(w:World)(v vb:Value)(Q:Nat→Nat→Rat)(b:Nat→Rat)(m N L:Nat)(A0:Nat→Nat→Int)(hA0:(fun i=>zcy (zbr Q b N i) (N+1))=A0)(h:MatQ w v (tab m N Q))(hb:RowQ w vb (rowF b m))(h0:0<m)(hN:0<N)(h9:m≤8∧N≤8)(hq:∀i j,i<m→j<N+1→zan (zbr Q b N i j) 5)(hL:L≤20000)
  (hsz:∀c,c≤N→(rRun m A0 c).last≠0∧(rRun m A0 c).last.natAbs<B^L∧∀i j,i<m→j<N+1→((rRun m A0 c).A i j).natAbs<B^L)
  (hpv:∀(i c:Nat),(zaV m A0 N)[i]? = some c→(rRun m A0 N).A i c≠0) :
  CallsIn Fence.wide 0 Tryz.prog 34 #[v,vb] w fun e w'=>∃v',((∃i,(rRun m A0 N).k≤i∧i<m∧(rRun m A0 N).A i N≠0)∧e = .returned (.tuple #[.slice none 0 0,.int .i64 0,.bool false])∨(∀i,(rRun m A0 N).k≤i→i<m→(rRun m A0 N).A i N=0)∧e = .returned (.tuple #[v',.int .i64 ((N-(rRun m A0 N).k:Nat):Int),.bool true])∧RowQ w' v' (rowF (solv (zbS (fun i j=>((rRun m A0 N).A i j:Rat)) (zaV m A0 N)) (zaV m A0 N) N (zaV m A0 N).length) N))∧Below w.heap.size w w':=by
 obtain⟨a,c,rfl⟩:=zad.some h (by rw [zal];exact h0);obtain⟨ab,cb,rfl⟩:=zad.some hb (by rw [zak];exact h0);have HR:=zHi h;have HRB:=zHi hb;rw [zal,zak];obtain⟨_,row,hrl,hcell,u,rfl,hu⟩:=zad.at' h (zbG h0);have x0:=hcell 0 u rfl;rw [Addr.add_add,Nat.add_zero,Nat.zero_mul,zb4]at x0;obtain⟨au,cu,rfl⟩:=zad.some hu (by simpa using hN);rw [List.length_map,List.length_range]at x0;have HX:=zHi x0;obtain⟨A,hA⟩:∃A,(rRun m A0 N).A=A:=⟨_,rfl⟩;obtain⟨cs,hcs⟩:∃cs,zaV m A0 N=cs:=⟨_,rfl⟩;obtain⟨K,hK⟩:∃K,(rRun m A0 N).k=K:=⟨_,rfl⟩;have HCL:Hid (cs.length=K):=zHi (by rw [←hcs,zcP,hK]);have hKm:K≤m:=by rw [←hK];exact(zi2 _ _ _).1
 have hKN:K≤N:=by rw [←hK];exact(zi2 _ _ _).2
 have HSZN:=zHi (hsz N (Nat.le_refl _)).2.2;have HLT:Hid (∀x∈cs,x<N):=zHi (by rw [←hcs];exact zfZ _ _ _);obtain⟨U,hU⟩:∃U,zbS (fun i j=>(A i j:Rat)) cs=U:=⟨_,rfl⟩;rw [hA,hcs]at hpv;rw [hA]at HSZN;rw [hA,hcs,hU,hK,HCL.out];obtain⟨R0,hR0⟩:∃R:Ending→World→Prop,∀e w',R e w'↔∃v',((∃i,K≤i∧i<m∧A i N≠0)∧e = .returned (.tuple #[.slice none 0 0,.int .i64 0,.bool false])∨(∀i,K≤i→i<m→A i N=0)∧e = .returned (.tuple #[v',.int .i64 ((N-K:Nat):Int),.bool true])∧RowQ w' v' (rowF (solv U cs N K) N))∧Below w.heap.size w w':=⟨_,fun _ _=>Iff.rfl⟩;simp only [←hR0];have HR0:=zHi hR0;have HSZ:=zHi hsz;have HPV:=zHi hpv;have HA:=zHi hA;have HCS:=zHi hcs;have HU:=zHi hU;have HA0:=zHi hA0;have HKE:=zHi hK;have HQ:=zHi hq;clear h hb hsz hq hpv hR0 hA hcs hU hA0 hK hcell hrl hu;refine callsIn_of_wp Tryz.func34 rfl trivial ?_ rfl;simp only [Tryz.ntmps34,ztH,ztI,ztJ,Nat.reduceAdd,Nat.reduceSub,ztK,ztL,ztM,ztN,ztO,ztP];gi_wp2;gi_loopw [7,9] (fun x7 x9 wr=>∃i:Nat,x9 = .int .i64 (i:Int)∧i≤m∧Hid (OwnR wr w.heap.size 128 1 zdY x7 ((tab m (N+1) A0).take i))∧Hid (Below w.heap.size w wr)) (fun _ x _=>m-(intOf x).toNat)
 case atStart=>exact⟨0,rfl,by omega,OwnR.nil _ _ _ _ _,Below.refl _ _⟩
 case round=>
  obtain⟨i,rfl,hi,HO,HBr⟩:=hrel;clear x0;by_cases hin:i<m
  ·have hR1:=zad.below HR.out HBr.out (zcJ.below HBr.out);obtain⟨_,row,hrl,hcell,u,rfl,hu⟩:=zad.at' hR1 (zbG hin);have x0:=hcell 0 u rfl;rw [Addr.add_add,Nat.add_zero,Nat.mul_one]at x0;obtain⟨au,cu,rfl⟩:=zad.some hu (by simpa using hN);rw [List.length_map,List.length_range]at x0;have HUU:=zHi hu;clear hcell hrl hR1 hu;gi_wp2_with (gi_at_builtin;refine stop ?_)
   unfold Stop;refine zfC (ty:=34) (sz:=4) (bytes:=64) wr rfl _ _ rfl Go.Num.u63 i34 i34z i34s i34b rfl (by decide) (by decide) wr.heap.size (Nat.le_refl _) (.slice none 0 0) [] rfl (OwnR.nil _ _ _ _ _) au cu ((List.range N).map (Q i)) (by simp;rfl) HUU.out (by simpa using hN) (fun b r w h=>QAt.one h) (fun b r w1 w2 ht=>IQ.touch ht rfl b r) (by simp;omega) ?_;intro v7 w7 HO7 HK7 HB7;have hb7:=HB7.out wr.heap.size wr (Below.refl _ _) (Nat.le_refl _);have hB7:=HBr.out.trans (hb7.mono HBr.out.size);have hRB:=zad.below HRB.out hB7 (IQ.below hB7);obtain⟨_,rb,_,hcb,hIb⟩:=zad.at' hRB (zdf hin);obtain⟨sb,o1,k1,d1,o2,k2,d2,e2⟩:=QAt.form hIb;have e2:=zdw (l:=[.bool sb,.slice o1 k1 d1,.bool false,.slice o2 k2 d2]) e2;subst e2;have HIb:=zHi hIb;have y0:=hcb 0 _ rfl;rw [zb4]at y0;have y1:w7.cell? ⟨(ab.add (i*4)).block,(ab.add (i*4)).off+1,none⟩=some (.slice o1 k1 d1):=by rw [zbx _ _ _ (by decide),←Addr.add_add];exact hcb 1 _ rfl
   have y2:w7.cell? ⟨(ab.add (i*4)).block,(ab.add (i*4)).off+2,none⟩=some (.bool false):=by rw [zbx _ _ _ (by decide),←Addr.add_add];exact hcb 2 _ rfl
   have y3:w7.cell? ⟨(ab.add (i*4)).block,(ab.add (i*4)).off+3,none⟩=some (.slice o2 k2 d2):=by rw [zbx _ _ _ (by decide),←Addr.add_add];exact hcb 3 _ rfl
   obtain⟨o7,c7,hof⟩:=HO7.out.form;rw [List.nil_append,List.length_map,List.length_range]at hof;subst hof;have HB78:=zHi hb7;have HB8:=zHi hB7;have HO8:=zHi (HO.out.below hb7 (zdY.below hb7));clear hb7 hB7 hRB hcb hIb HK7 HB7 HUU x0;gi_wp2_with (gi_at_builtin;refine stop ?_)
   unfold Stop;refine zaJ (ty:=34) (sz:=4) (bytes:=64) w7 rfl _ _ rfl Go.Num.u63 i34 i34z i34s i34b rfl (by decide) (by decide) wr.heap.size HB78.out.size (.slice o7 N c7) _ rfl HO7.out (b i) [.bool sb,.slice o1 k1 d1,.bool false,.slice o2 k2 d2] _ rfl rfl (by simp [Value.oneCell']) HIb.out (fun b r w1 w2 ht=>IQ.touch ht rfl b r) (by simp;omega) ?_;intro v9 w9 HO9 HK9 HB9;have hb9:=HB9.out wr.heap.size wr HB78.out (Nat.le_refl _);have HB10:=zHi (HB9.out w.heap.size w HB8.out HBr.out.size);have hrow:RowQ w9 v9 (rowF (zbr Q b N i) (N+1)):=by rw [zkN];exact HO9.out.row (by simp;omega)
   have HRW:=zHi hrow;have HO10:=zHi (HO.out.below hb9 (zdY.below hb9));clear hb9 HK9 HB9 HO9 hrow y0 y1 y2 y3 HIb HO7 HO8 HB8 HB78;gi_wp2_with (gi_at_call 90;refine stop ?_)
   refine(zeB w9 v9 (zbr Q b N i) (N+1) HRW.out (by omega) (by omega) (fun j hj=>HQ.out i j hin hj)).mono ?_;rintro e w8 ⟨v8,v9',rfl,ho8,hz8,hB8⟩;obtain⟨s8,o8,k8,c8,rfl⟩:=hz8.form;have hm8:zdY (rowZ (A0 i) (N+1)) [v8] w8:=⟨v8,rfl,by rw [←HA0.out];exact ho8.row (by rw [zcj];omega)⟩;obtain⟨ob,cb',rfl⟩:=ho8.form;rw [zcj]at hm8;rw [zcj];have hb9:=zaa w8 (.cells #[.bool s8,.slice o8 k8 c8] 32);have hb89:=HB10.out.trans (hB8.mono HB10.out.size);have HB9:=zHi (hb89.trans (hb9.mono hb89.size));have HM9:=zHi (zdY.below hb9 _ _ hm8);have hoo:=(HO10.out.below hB8 (zdY.below hB8)).below hb9 (zdY.below hb9);obtain⟨o5,c5,hof⟩:=hoo.form;have hlen:((tab m (N+1) A0).take i).length=i:=by rw [List.length_take,zal];omega
   rw [hlen]at hof;subst hof;have HO9:=zHi hoo;have HLen:=zHi hlen;clear ho8 hz8 hB8 hm8 hb9 hb89 hoo hlen HO10 HB10;gi_wp2_with (gi_at_builtin;refine stop ?_)
   unfold Stop;refine zaJ (ty:=128) (sz:=1) (bytes:=24) (w8.alloc (.cells #[.bool s8,.slice o8 k8 c8] 32)) rfl _ _ rfl u121 i128 zsF zrF zsG rfl (by decide) (by decide) w.heap.size HB9.out.size (.slice o5 i c5) _ rfl HO9.out (rowZ (A0 i) (N+1)) [.slice ob (N+1) cb'] _ (by simp;rfl) rfl (by simp [Value.oneCell']) HM9.out (fun b r w1 w2 ht=>zdY.touch ht b r) (by rw [HLen.out];omega) ?_;intro v10 w10 HO10 HK10 HB10;have HO11:Hid (OwnR w10 w.heap.size 128 1 zdY v10 ((tab m (N+1) A0).take (i+1))):=zHi (by rw [zjM hin];exact HO10.out);have HB11:=zHi (HB10.out w.heap.size w HB9.out (Nat.le_refl _));gi_wp2;exact⟨⟨i+1,by go_num,by omega,HO11,HB11⟩,by simp only [intOf];omega⟩
  ·have hin2:i=m:=by omega
   rw [List.take_of_length_le (by rw [zal];omega)]at HO;have hm1:MatZ wr u7 (tab m (N+1) A0):=HO.out.row (by rw [zal];omega);obtain⟨om,cm,rfl,_⟩:=zad.form hm1;rw [zal]at hm1;rw [zal];have HM1:=zHi hm1;clear hm1 hin2;gi_wp2_with (gi_at_call 84;refine stop ?_)
   refine(zgL _ _ A0 m (N+1) N L HM1.out h0 (by omega) (by omega) (by omega) hL HSZ.out).mono ?_;rintro e w5 ⟨vr,vp,s,o,k,c',rfl,hr,hp,hz,hB3⟩;rw [HA.out]at hr;rw [HCS.out]at hp;obtain⟨op,cp,rfl,_⟩:=zad.form hp;obtain⟨ov,cv,e3⟩:=zad.some hr (by rw [zal];exact h0);rw [zal]at e3;subst e3;obtain⟨T,hT⟩:∃T,(rRun m A0 N).turns=T:=⟨_,rfl⟩;rw [hT,HCL.out];have hb03:=HBr.out.trans (hB3.mono HBr.out.size);have hb6:=zaa w5 (.cells #[.slice (some ov) m cv,.slice op K cp,.bool s,.slice o k c',.int .i64 (T:Int)] 125);have HB6:=zHi (hb03.trans (hb6.mono hb03.size));have hx6:=OBox.new w5 [.slice (some ov) m cv,.slice op K cp,.bool s,.slice o k c',.int .i64 (T:Int)] 125;have HRED:Hid (zkG _ w5.heap.size m (N+1) A cs ov cv op cp):=zHi ⟨hx6.box.2 0 _ rfl,by rw [HCL.out];exact hx6.box.2 1 _ rfl,zad.below hr hb6 (zdY.below hb6),zad.below hp hb6 (fun _ _ q=>q)⟩;clear hr hp hz hB3 hb03 hb6 hx6 hT HM1;gi_wp2;obtain⟨g6,hg6⟩:∃g,w5.heap.size=g:=⟨_,rfl⟩;rw [hg6]at HRED;rw [hg6];obtain⟨W6,hW6⟩:∃W,w5.alloc (.cells #[.slice (some ov) m cv,.slice op K cp,.bool s,.slice o k c',.int .i64 (T:Int)] 125)=W:=⟨_,rfl⟩;rw [show([Value.slice (some ov) m cv,.slice op K cp,.bool s,.slice o k c',.int .i64 (T:Int)].toArray)=#[.slice (some ov) m cv,.slice op K cp,.bool s,.slice o k c',.int .i64 (T:Int)]from rfl,hW6]at HRED;rw [hW6]at HB6;rw [hW6];clear hW6 hg6;gi_loopw [14,15] (fun x14 x15 wi=>∃j:Nat,x15 = .int .i64 (j:Int)∧j≤N∧Hid (OwnR wi W6.heap.size 34 4 IQ x14 (rowF (fun _=>0) j))∧Hid (Below W6.heap.size W6 wi)) (fun _ x _=>N-(intOf x).toNat)
   case atStart=>exact⟨0,rfl,by omega,OwnR.nil _ _ _ _ _,Below.refl _ _⟩
   case round=>
    obtain⟨j,rfl,hj,HOj,HBj⟩:=hrel;by_cases hjn:j<N
    ·gi_wp2_with (gi_at_call 36;refine stop ?_)
     refine(zfi wr).mono ?_;rintro e w8 ⟨v8,rfl,hq8,hB8⟩;obtain⟨s8,o8,k8,c8,o9,k9,c9,rfl⟩:=hq8.form;have ho8:=HOj.out.below hB8 (IQ.below hB8);have HB8:=zBt HBj hB8;obtain⟨oo,co,hof⟩:=ho8.form;rw [zak]at hof;subst hof;have HO8:=zHi ho8;have HQ8:=zHi hq8;clear ho8 hq8 hB8;gi_wp2_with (gi_at_builtin;refine stop ?_)
     unfold Stop;refine zaJ (ty:=34) (sz:=4) (bytes:=64) w8 rfl _ _ rfl Go.Num.u63 i34 i34z i34s i34b rfl (by decide) (by decide) W6.heap.size HB8.out.size (.slice oo j co) _ rfl HO8.out (0:Rat) [.bool s8,.slice o8 k8 c8,.bool false,.slice o9 k9 c9] _ rfl rfl (by simp [Value.oneCell']) HQ8.out (fun b r w1 w2 ht=>IQ.touch ht rfl b r) (by rw [zak];omega) ?_;intro v9 w9 HO9 HK9 HB9;have HO10:Hid (OwnR w9 W6.heap.size 34 4 IQ v9 (rowF (fun _=>0) (j+1))):=zHi (by
      have:=HO9.out;rwa [←show rowF (fun _=>(0:Rat)) (j+1)=rowF (fun _=>0) j ++ [0]by simp [rowF,List.range_succ]]at this)
     have HB10:=zHi (HB9.out W6.heap.size W6 HB8.out (Nat.le_refl _));gi_wp2;exact⟨⟨j+1,by go_num,by omega,HO10,HB10⟩,by simp only [intOf];omega⟩
    ·have hjN:j=N:=by omega
     subst hjN;obtain⟨gx,cx,e,hgx,_⟩:=HOj.out.own (by rw [zak];exact hN);rw [zak]at e;subst e;obtain⟨W7,hW7⟩:∃W,wr=W:=⟨_,rfl⟩;rw [hW7]at HOj HBj;rw [hW7];clear hW7;have HO1:Hid (OwnR W7 W6.heap.size 34 4 IQ (.slice (some ⟨gx,0,none⟩) j cx) (rowF (solv U cs j 0) j)):=HOj;gi_wp2;gi_loopw [16] (fun x16 wi=>∃i:Nat,x16 = .int .i64 (i:Int)∧i≤m∧Hid (∀r,K≤r→r<i→A r j=0)∧Hid (OwnR wi W6.heap.size 34 4 IQ (.slice (some ⟨gx,0,none⟩) j cx) (rowF (solv U cs j (min i K)) j))∧Hid (Below W6.heap.size W6 wi)) (fun x _=>m-(intOf x).toNat)
     case atStart=>exact⟨0,rfl,by omega,zHi (fun r _ q=>by omega),by rw [Nat.zero_min];exact HO1,HBj⟩
     case round=>
      obtain⟨i,rfl,hi,HZ,HOi,HBi⟩:=hrel;clear HO1;have hRd:=HRED.out.below HBi.out;have z0:=hRd.rows;have z1:=hRd.piv;rw [HCL.out]at z1;by_cases him:i<m
      ·by_cases hiK:i<K
       ·gi_wp2;have hbd:=zab wr;obtain⟨W1,hW1⟩:∃W,wr.drew=W:=⟨_,rfl⟩;rw [hW1]at hbd;have hRd1:=hRd.below hbd;have hO1:=HOi.out.below hbd (IQ.below hbd);rw [Nat.min_eq_left (by omega)]at hO1;obtain⟨p,hp⟩:∃p,cs[i]? = some p:=⟨_,List.getElem?_eq_getElem (by rw [HCL.out];exact hiK)⟩;have hpN:=HLT.out p (List.mem_of_getElem? hp);obtain⟨ap,rfl,t0⟩:=hRd1.col hp;obtain⟨br,cr,t1,hrow⟩:=hRd1.row him (by omega);obtain⟨sx,ox,kx,cx',hcx,hzx⟩:=hrow j (by omega);obtain⟨sy,oy,ky,cy,hcy,hzy⟩:=hrow p (by omega);have hr0:=hRd1.rows;have hr1:=hRd1.piv;rw [←zbN g6 0]at hr0;rw [←zbN g6 1]at hr1;refine zap (ro:=none) [26,28] [0,1,2,3,4,5,6,7,8,9,10,11,12,13,14,15,16,17,18,19,20,21,22,23,24,25,26,27,28] [0,0,2,0,14,30,0,64,0,448,960,0,4032,8128,0,16384,0,114688,245760,0,524288,0,3670016,7864320,16760832,33538048,67108800,134217727,268435455] zaq rfl 116 rfl (by kernel_rfl) (by kernel_rfl) ?_;rw [hW1];refine OV.mv (v:=.slice (some ⟨gx,0,none⟩) j cx) rfl rfl rfl rfl ?_;refine OV.fld zlQ rfl rfl rfl rfl ?_;refine OV.ld lo29 hr1 rfl rfl rfl rfl rfl ?_;refine OV.mv (v:=.int .i64 (i:Int)) rfl rfl rfl rfl ?_;refine OV.idx it29 (by rw [HCL.out];exact hiK) rfl rfl rfl rfl rfl ?_;refine OV.ld lo3 t0 rfl rfl rfl rfl rfl ?_;refine OV.fld zoa rfl rfl rfl rfl ?_;refine OV.ld zry hr0 rfl rfl rfl rfl rfl ?_;refine OV.mv (v:=.int .i64 (i:Int)) rfl rfl rfl rfl ?_;refine OV.idx zqx him rfl rfl rfl rfl rfl ?_;refine OV.ld zqq t1 rfl rfl rfl rfl rfl ?_;refine OV.mv (v:=.int .i64 (j:Int)) rfl rfl rfl rfl ?_;refine OV.idx zmQ (show j<j+1 by omega) rfl rfl rfl rfl rfl ?_;refine OV.ldn [.bool sx,.slice ox kx cx'] lm32 hcx rfl rfl rfl rfl rfl (by decide) rfl ?_;refine OV.fld zoa rfl rfl rfl rfl ?_;refine OV.ld zry hr0 rfl rfl rfl rfl rfl ?_;refine OV.mv (v:=.int .i64 (i:Int)) rfl rfl rfl rfl ?_;refine OV.idx zqx him rfl rfl rfl rfl rfl ?_;refine OV.ld zqq t1 rfl rfl rfl rfl rfl ?_;refine OV.fld zlQ rfl rfl rfl rfl ?_;refine OV.ld lo29 hr1 rfl rfl rfl rfl rfl ?_;refine OV.mv (v:=.int .i64 (i:Int)) rfl rfl rfl rfl ?_;refine OV.idx it29 (by rw [HCL.out];exact hiK) rfl rfl rfl rfl rfl ?_;refine OV.ld lo3 t0 rfl rfl rfl rfl rfl ?_;refine OV.idx zmQ (show p<j+1 by omega) rfl rfl rfl rfl rfl ?_;refine OV.ldn [.bool sy,.slice oy ky cy] lm32 hcy rfl rfl rfl rfl rfl (by decide) rfl ?_;refine OV.call [.agg #[.bool sx,.slice ox kx cx'],.agg #[.bool sy,.slice oy ky cy]] Tryz.func77 rfl zah rfl rfl rfl rfl rfl (zd4 _ _ _ _ _ hzx hzy (zrf (HSZN.out i j him (by omega)) hL) (zrf (HSZN.out i p him (by omega)) hL) (HPV.out i p hp)) fun v3 w3 hq3 hB3 => ?_
        obtain⟨s3,o3,k3,c3,o4,k4,c4,rfl⟩:=hq3.form;have ho3:=hO1.below hB3 (IQ.below hB3);have hqv:IQ (U i j) [.bool s3,.slice o3 k3 c3,.bool false,.slice o4 k4 c4] w3:=by
         rw [←HU.out];unfold zbS;rw [hp];exact hq3
        obtain⟨p1,p2,_,p4⟩:=ho3.putQ (i:=p) (row:=[.bool s3,.slice o3 k3 c3,.bool false,.slice o4 k4 c4]) hpN rfl hqv;rw [←zex hp]at p1;refine OV.idx it63 hpN rfl rfl rfl rfl rfl ?_;refine OV.st (w':=w3.setCells gx (p*4) [.bool s3,.slice o3 k3 c3,.bool false,.slice o4 k4 c4]) trivial (znx p2 (by simp [Value.oneCell'])) rfl rfl rfl rfl rfl ?_;refine OV.done ?_;have HO9:Hid (OwnR (w3.setCells gx (p*4) [.bool s3,.slice o3 k3 c3,.bool false,.slice o4 k4 c4]) W6.heap.size 34 4 IQ (.slice (some ⟨gx,0,none⟩) j cx) (rowF (solv U cs j (min (i+1) K)) j)):=zHi (by rw [Nat.min_eq_left (show i+1≤K by omega)];exact p1);have HB9:=zHi (((HBi.out.trans (hbd.mono HBi.out.size)).trans (hB3.mono (Nat.le_trans HBi.out.size hbd.size))).trans (p4.mono hgx));have HZ9:Hid (∀r,K≤r→r<i+1→A r j=0):=zHi (fun r q1 q2=>by omega);simp only [zbo,Go.Act.put,ztQ,ztR,ztS];clear p1 p2 p4 hqv ho3 hq3 hB3 hr0 hr1 hcx hzx hcy hzy hrow t0 t1 hp hRd1 hO1 hbd hW1 hRd z0 z1;gi_wp2;exact⟨⟨i+1,by go_num,by omega,HZ9,HO9,HB9⟩,by simp only [intOf];omega⟩
       ·obtain⟨br,cr,t1,hrow⟩:=hRd.row him (by omega);rw [Nat.mul_one]at t1;obtain⟨sx,ox,kx,cx',hcx,hzx⟩:=hrow j (by omega);have HZX:=zHi hzx;have u0:=hcx 0 _ rfl;have u1:=hcx 1 _ rfl;rw [zb4]at u0;rw [Addr.add_add,←zbx _ _ _ (by decide)]at u1;clear hcx hzx hrow hRd;gi_wp2_with (gi_at_call 72;refine stop ?_)
        refine(zfg wr _ (A i j) HZX.out).mono ?_;rintro e w8 ⟨rfl,hB8⟩;have HB8:=zBt HBi hB8;have HO8:Hid (OwnR w8 W6.heap.size 34 4 IQ (.slice (some ⟨gx,0,none⟩) j cx) (rowF (solv U cs j (min (i+1) K)) j)):=zHi (by
         rw [Nat.min_eq_right (by omega)];have:=HOi.out.below hB8 (IQ.below hB8);rwa [Nat.min_eq_right (by omega)]at this)
        clear hB8 u0 u1 t1 z0 z1;by_cases hz0:A i j=0
        ·have hd:((A i j).sign == 0)=true:=by rw [hz0];rfl
         have hd':decide ((A i j).sign=0)=true:=by rw [hz0];rfl
         have HZ9:Hid (∀r,K≤r→r<i+1→A r j=0):=zHi (fun r q1 q2=>by
          rcases Nat.lt_or_ge r i with q3|q3
          ·exact HZ.out r q1 q3
          ·rw [show r=i by omega];exact hz0)
         have HZZ:=zHi hz0;clear hz0;gi_wp2;exact⟨⟨i+1,by go_num,by omega,HZ9,HO8,HB8⟩,by simp only [intOf];omega⟩
        ·have hs0:(A i j).sign≠0:=fun q=>hz0 (Int.sign_eq_zero_iff_zero.1 q)
         have hd:((A i j).sign == 0)=false:=by rw [beq_eq_false_iff_ne];exact hs0
         have hd':decide ((A i j).sign=0)=false:=decide_eq_false hs0;have HEND:=zHi ((HR0.out (.returned (.tuple #[.slice none 0 0,.int .i64 0,.bool false])) w8).2 ⟨.slice none 0 0,.inl ⟨⟨i,by omega,him,hz0⟩,rfl⟩,HB6.out.trans (HB8.out.mono HB6.out.size)⟩);clear hs0;gi_wp2;all_goals (first|go_returns|go_ret|go_end0)
         exact HEND.out
      ·have him2:i=m:=by omega
       have HZM:Hid (∀r,K≤r→r<m→A r j=0):=zHi (fun r q1 q2=>HZ.out r q1 (by omega));have HOM:Hid (RowQ wr (.slice (some ⟨gx,0,none⟩) j cx) (rowF (solv U cs j K) j)):=zHi (by
        have:=HOi.out.row (by rw [zak];omega);rwa [Nat.min_eq_right (by omega)]at this)
       have HBM:=zHi (HB6.out.trans (HBi.out.mono HB6.out.size));clear him2;gi_wp2;have hbd:=zab wr;obtain⟨W1,hW1⟩:∃W,wr.drew=W:=⟨_,rfl⟩;rw [hW1]at hbd;have hr1:=(hRd.below hbd).piv;rw [HCL.out,←zbN g6 1]at hr1;refine zap (ro:=none) [] [0,1,2,3,4,5,6,7,8] [0,0,0,4,12,30,1,127,255] zaq rfl 116 rfl (by kernel_rfl) (by kernel_rfl) ?_;rw [hW1];refine OV.mv (v:=.slice (some ⟨gx,0,none⟩) j cx) rfl rfl rfl rfl ?_;refine OV.mv (v:=.int .i64 (j:Int)) rfl rfl rfl rfl ?_;refine OV.fld zlQ rfl rfl rfl rfl ?_;refine OV.ld lo29 hr1 rfl rfl rfl rfl rfl ?_;refine OV.len u29' rfl rfl rfl rfl ?_;refine OV.sub (z:=((j-K:Nat):Int)) (by rw [show(j:Int)-(K:Int)=((j-K:Nat):Int)by omega];exact zeq (by omega)) rfl rfl rfl rfl rfl ?_;refine OV.asg (v:=.slice (some ⟨gx,0,none⟩) j cx) rfl rfl rfl rfl ?_;refine OV.asg (v:=.int .i64 ((j-K:Nat):Int)) rfl rfl rfl rfl ?_;refine OV.asg (v:=.bool true) rfl rfl rfl rfl ?_;refine OV.done ?_;simp only [zbo,Go.Act.put,ztQ,ztR,ztS];have HE:=zHi ((HR0.out (.returned (.tuple #[.slice (some ⟨gx,0,none⟩) j cx,.int .i64 ((j-K:Nat):Int),.bool true])) W1).2 ⟨_,.inr ⟨HZM.out,rfl,zad.below HOM.out hbd (IQ.below hbd)⟩,HBM.out.trans (hbd.mono HBM.out.size)⟩);clear hr1 hbd hW1 hRd z0 z1;gi_wp2;all_goals (first|go_returns|go_ret|go_end0)
       exact HE.out
theorem zsK:zek Tryz.prog 131 0 0:=zcE (by kernel_rfl)
theorem zm9(Q:Nat→Nat→Rat)(b:Nat→Rat)(m N:Nat):zc2 (tab m N Q) (rowF b m)=tab m (N+1) (zbr Q b N):=by
 unfold zc2 tab;refine List.ext_getElem? fun i => ?_
 rw [List.getElem?_mapIdx,List.getElem?_map,List.getElem?_map];rcases Nat.lt_or_ge i m with hi|hi
 ·rw [List.getElem?_range hi,zdf hi];refine congrArg some ?_;exact(zkN (Q:=Q) (b:=b) (N:=N) (i:=i)).symm
 ·rw [List.getElem?_eq_none (l:=List.range m) (by rw [List.length_range];exact hi)];rfl
theorem ztx:zcd Tryz.prog 131 3:=zbB (by kernel_rfl) (by kernel_rfl)
theorem zr6{w W:World}{g:Nat}{a0 a1 a2:Value}(hx:OBox W g 131 [a0,a1,a2])(hb:Below w.heap.size w W)(hg:w.heap.size≤g)(x0 x1 x2:Value) :
  (Instr.loadAt 131 (.pointer (some ⟨g,0,none⟩))).run Tryz.prog (W.setCells g 0 [x0,x1,x2]) = .ok (.agg #[x0,x1,x2]) (W.setCells g 0 [x0,x1,x2])∧Below w.heap.size w (W.setCells g 0 [x0,x1,x2]):=
 ⟨ztx g [x0,x1,x2] _ rfl (hx.store (ys:=[x0,x1,x2]) rfl).box.2,zax hg _ _ _ hb⟩
theorem znW(W:World)(n base:Nat)(hb:base≤W.heap.size)(hn:n≤1000):OwnR (W.alloc (.cells (madeCells #[.bool false,.slice none 0 0,.slice none 0 0] (n*3)) 25)) base 25 3 IR (.slice (some ⟨W.heap.size,0,none⟩) n n) (rowF (fun _=>0) n):=
 OwnR.made (World.ownsRow_lit W _ n hb (by unfold maxLen;omega) (size_madeCells _ _))
theorem zk5(w:World)(gm gv gn m N:Nat)(v vb:Value)(Q:Nat→Nat→Rat)(b:Nat→Rat)(hgm:w.cell? ⟨gm,0,none⟩=some v)(hgv:w.cell? ⟨gv,0,none⟩=some vb)(hgn:w.cell? ⟨gn,0,none⟩=some (.int .i64 (N:Int)))(hm:MatR w v (tab m N Q))(hvb:RowR w vb (rowF b m))(h0:0<m)(hN:0<N)(h9:m≤8∧N≤8)(hT:zaY w)(hF:Fine m (N+1) N (zbr Q b N)) :
  CallsIn Fence.wide 0 Tryz.prog 88 #[.pointer (some ⟨gm,0,none⟩),.pointer (some ⟨gv,0,none⟩),.pointer (some ⟨gn,0,none⟩)] w fun e w'=>∃v',e = .returned v'∧((∃i,(pRun m (zbr Q b N) N).k≤i∧i<m∧(pRun m (zbr Q b N) N).P i N≠0)∧v' = .agg #[.slice none 0 0,.int .i64 0,.bool true] ∨
   (∀i,(pRun m (zbr Q b N) N).k≤i→i<m→(pRun m (zbr Q b N) N).P i N=0)∧∃o k c,v' = .agg #[.slice o k c,.int .i64 ((N-(pRun m (zbr Q b N) N).k:Nat):Int),.bool false]∧RowR w' (.slice o k c) (rowF (solv (zbS (pRun m (zbr Q b N) N).P (zaF m (zbr Q b N) N)) (zaF m (zbr Q b N) N) N (zaF m (zbr Q b N) N).length) N))∧Below w.heap.size w w':=by
 obtain⟨a,c,a0,c0,rfl,hx⟩:=zkh hm h0 hN;obtain⟨A,hA⟩:∃A,zbr Q b N=A:=⟨_,rfl⟩;have hcl:=zm9 Q b m N;rw [hA]at hF hcl ⊢;have HM:=zHi hm;have HVB:=zHi hvb;have HT:=zHi hT;have HF:=zHi hF;have HCL:=zHi hcl;obtain⟨cs,hcs⟩:∃cs,zaF m A N=cs:=⟨_,rfl⟩;obtain⟨P,hP⟩:∃P,(pRun m A N).P=P:=⟨_,rfl⟩;obtain⟨K,hK⟩:∃K,(pRun m A N).k=K:=⟨_,rfl⟩;have HCLN:Hid (cs.length=K):=zHi (by rw [←hcs,zdl,hK]);have hKm:K≤m:=by rw [←hK];exact(zf3 m A N).1
 have hKN:K≤N:=by rw [←hK];exact(zf3 m A N).2
 have HLT:Hid (∀x∈cs,x<N):=zHi (by rw [←hcs];exact zg4 _ _ _);obtain⟨U,hU⟩:∃U,zbS P cs=U:=⟨_,rfl⟩;rw [hP,hcs,hK,hU,HCLN.out];obtain⟨R0,hR0⟩:∃R:Value→World→Prop,∀v' w',R v' w'↔(((∃i,K≤i∧i<m∧P i N≠0)∧v' = .agg #[.slice none 0 0,.int .i64 0,.bool true] ∨
   (∀i,K≤i→i<m→P i N=0)∧∃o k c,v' = .agg #[.slice o k c,.int .i64 ((N-K:Nat):Int),.bool false]∧RowR w' (.slice o k c) (rowF (solv U cs N K) N))∧Below w.heap.size w w'):=⟨_,fun _ _=>Iff.rfl⟩
 simp only [←hR0];have HR0:=zHi hR0;have HP:=zHi hP;have HCS:=zHi hcs;have HU:=zHi hU;have HKE:=zHi hK;have HGM:=zHi hgm;have HGV:=zHi hgv;have HGN:=zHi hgn;clear hm hvb hT hF hx hcl hA hP hcs hU hK hR0;refine callsIn_of_wp Tryz.func88 rfl trivial ?_ rfl;simp only [Tryz.ntmps88,ztH,ztI,ztJ,Nat.reduceAdd,Nat.reduceSub,ztK,ztL,ztM,ztN,ztO,ztP];obtain⟨g3,hg3⟩:∃g,w.heap.size=g:=⟨_,rfl⟩;have HG3:=zHi hg3;have hb1:=zaa w (.cells #[.slice none 0 0,.int .i64 0,.bool false] 131);have hx1:=OBox.new w [.slice none 0 0,.int .i64 0,.bool false] 131;have y1:=(hb1.cell (World.block_lt_of_cell? _ _ hgm)).trans hgm;have y2:=(hb1.cell (World.block_lt_of_cell? _ _ hgv)).trans hgv;have HB1:=zHi hb1;have HX1:=zHi hx1;clear hb1 hx1 hgm hgv hgn;gi_wp2_with (gi_at_call 80;refine stop ?_)
 unfold Stop;obtain⟨W1,hW1⟩:∃W,w.alloc (.cells #[.slice none 0 0,.int .i64 0,.bool false] 131)=W:=⟨_,rfl⟩;rw [hW1]at HB1 y1 y2;rw [show [Value.slice none 0 0,.int .i64 0,.bool false].toArray=#[.slice none 0 0,.int .i64 0,.bool false]from rfl,hW1,hg3]at HX1;rw [hW1];clear hW1 hg3;refine(zia W1 _ _ (tab m N Q) (rowF b m) (zad.below HM.out HB1.out (zbQ.below HB1.out)) (zad.below HVB.out HB1.out (IR.below HB1.out)) (by rw [zal];exact h0) (by rw [zal];omega) (fun l hl=>by rw [zfk hl];omega) (by rw [zak];omega)).mono ?_;rintro e w6 ⟨v6,rvs,rfl,hm6,hB6⟩;rw [HCL.out]at hm6;obtain⟨gM,cM,rfl,hgm1⟩:=hm6.at' h0;have HM6:Hid (∃rvs,zav w6 W1.heap.size 64 25 3 IR (.slice (some ⟨gM,0,none⟩) m cM) rvs (tab m (N+1) A)):=zHi ⟨rvs,hm6⟩;have HB16:=zHi hB6;have HB6:=zBt HB1 hB6;have HX6:=zHi (HX1.out.below hB6);have y3:=(HB6.out.cell (World.block_lt_of_cell? _ _ HGN.out)).trans HGN.out;clear hm6 hB6 y1 y2;gi_wp2_with (gi_at_call 81;refine stop ?_)
 refine(zfV w6 W1.heap.size gM cM m (N+1) N A h0 (by omega) (by omega) (by omega) (by omega) (by have:=HT.out.two;have:=HB1.out.size;omega) HM6.out (HT.out.below HB6.out) HF.out.run HF.out.unit HF.out.piv).mono ?_;rintro e w7 ⟨vc,rfl,hl7,⟨rvs7,hm7⟩,hB7⟩;rw [HP.out,HCS.out,HU.out]at hm7;rw [HCS.out]at hl7;have hB07:Below w.heap.size w w7:=HB6.out.trans (hB7.mono HB1.out.size);have HB07:=zHi hB07;have HM7:=zHi (hm7.mat (by rw [zal];omega) (fun l hl=>by rw [zfk hl];omega));have HL7:=zHi (hl7.row (by rw [HCLN.out];omega));obtain⟨oc,cc,hvc⟩:=hl7.form;rw [HCLN.out]at hvc;subst hvc;have HX7:Hid (OBox w7 g3 131 [.slice none 0 0,.int .i64 0,.bool false]):=zHi (HX1.out.below (HB16.out.trans hB7));have y4:=(hB07.cell (World.block_lt_of_cell? _ _ HGN.out)).trans HGN.out;clear hm7 hl7 hB7 y3 HM6 HX6 hB07;gi_wp2;obtain⟨Z,hZ⟩:∃Z,madeCells #[.bool false,.slice none 0 0,.slice none 0 0] (N*3)=Z:=⟨_,rfl⟩;have hmk:∀W:World,(Instr.makeSlice 64 (.int .i64 (N:Int)) (.int .i64 (N:Int))).run Tryz.prog W = .ok (.slice (some ⟨W.heap.size,0,none⟩) N N) (W.alloc (.cells Z 25)):=fun W=>by
  have:=run_make (P:=Tryz.prog) W 64 25 _ _ Go.Num.u64 i25' i25z .i64 .i64 (N:Int) (N:Int) (by omega) (Int.le_refl _) (by rw [i25b];omega) (by omega);rw [Int.toNat_natCast,i25s]at this;rw [←hZ];exact this
 have HZ:=zHi hZ;have y5:=((zab w7).cell (World.block_lt_of_cell? _ _ y4)).trans y4;have al:∀(W:World) (O:Obj),W.cell? ⟨gn,0,none⟩=some (.int .i64 (N:Int))→(W.alloc O).cell? ⟨gn,0,none⟩=some (.int .i64 (N:Int)):=fun W O q=>((zaa W O).cell (World.block_lt_of_cell? _ _ q)).trans q
 have y6:((w7.alloc (.cells Z 25)).drew).cell? ⟨gn,0,none⟩=some (.int .i64 (N:Int)):=al _ _ y4;have y7:((w7.alloc (.cells #[.slice none 0 0,.int .i64 0,.bool false] 131)).drew).cell? ⟨gn,0,none⟩=some (.int .i64 (N:Int)):=al _ _ y4;have y8:(((w7.alloc (.cells #[.slice none 0 0,.int .i64 0,.bool false] 131)).alloc (.cells Z 25)).drew).cell? ⟨gn,0,none⟩=some (.int .i64 (N:Int)):=al _ _ (al _ _ y4);have y9:(((w7.alloc (.cells Z 25)).alloc (.cells #[.slice none 0 0,.int .i64 0,.bool false] 131)).drew).cell? ⟨gn,0,none⟩=some (.int .i64 (N:Int)):=al _ _ (al _ _ y4);clear al;clear hZ;refine zdh 6 22 6 (fun v w'=>∃gb gs,v = .pointer (some ⟨gb,0,none⟩)∧Below w7.heap.size w7 w'∧w7.heap.size≤gb∧OBox w' gb 131 [.slice (some ⟨gs,0,none⟩) N N,.int .i64 ((N:Int)-(K:Int)),.bool false]∧OwnR w' w7.heap.size 25 3 IR (.slice (some ⟨gs,0,none⟩) N N) (rowF (fun _=>0) N)) (by decide) ?reg ?rest
 case reg=>
  gi_region
  ·refine⟨rfl,rfl,rfl,Nat.le_of_ble_eq_true rfl,w7.heap.size+1,w7.heap.size,rfl,?_⟩;have o1:=znW w7 N w7.heap.size (Nat.le_refl _) (by omega);rw [HZ.out]at o1;have b1:=zaa w7 (.cells Z 25);have b2:=zaa (w7.alloc (.cells Z 25)) (.cells #[.slice (some ⟨w7.heap.size,0,none⟩) N N,.int .i64 ((N:Int)-(K:Int)),.bool false] 131);have b3:=zab ((w7.alloc (.cells Z 25)).alloc (.cells #[.slice (some ⟨w7.heap.size,0,none⟩) N N,.int .i64 ((N:Int)-(K:Int)),.bool false] 131));have x1:=OBox.new (w7.alloc (.cells Z 25)) [.slice (some ⟨w7.heap.size,0,none⟩) N N,.int .i64 ((N:Int)-(K:Int)),.bool false] 131;rw [World.size_alloc]at x1;exact⟨(b1.trans (b2.mono b1.size)).trans (b3.mono (Nat.le_trans b1.size b2.size)),by omega,x1.below b3,(o1.below b2 (IR.below b2)).below b3 (IR.below b3)⟩
  ·refine⟨rfl,rfl,rfl,Nat.le_of_ble_eq_true rfl,w7.heap.size,w7.heap.size+1,rfl,?_⟩;have b1:=zaa w7 (.cells #[.slice (some ⟨w7.heap.size+1,0,none⟩) N N,.int .i64 ((N:Int)-(K:Int)),.bool false] 131);have o1:=znW (w7.alloc (.cells #[.slice (some ⟨w7.heap.size+1,0,none⟩) N N,.int .i64 ((N:Int)-(K:Int)),.bool false] 131)) N w7.heap.size b1.size (by omega);rw [HZ.out,World.size_alloc]at o1;have b2:=zaa (w7.alloc (.cells #[.slice (some ⟨w7.heap.size+1,0,none⟩) N N,.int .i64 ((N:Int)-(K:Int)),.bool false] 131)) (.cells Z 25);have b3:=zab ((w7.alloc (.cells #[.slice (some ⟨w7.heap.size+1,0,none⟩) N N,.int .i64 ((N:Int)-(K:Int)),.bool false] 131)).alloc (.cells Z 25));have x1:=OBox.new w7 [.slice (some ⟨w7.heap.size+1,0,none⟩) N N,.int .i64 ((N:Int)-(K:Int)),.bool false] 131;exact⟨(b1.trans (b2.mono b1.size)).trans (b3.mono (Nat.le_trans b1.size b2.size)),by omega,(x1.below b2).below b3,o1.below b3 (IR.below b3)⟩
 case rest=>
  intro ys w' hy hR;obtain⟨d0,d1,d2,d3,d4,d5,d6,d7,d8,d9,e0,e1,e2,e3,e4,e5,rfl⟩:=zlB hy;obtain⟨gb,gs,hv,hB,hgb,hbx,hos⟩:=hR;have hv:d0 = .pointer (some ⟨gb,0,none⟩):=hv;subst hv;simp only [List.take_succ_cons,List.take_zero,List.drop_succ_cons,List.drop_zero,ztP,ztO];have HB:=zHi hB;have HBX:=zHi hbx;have HOS:=zHi hos;clear hB hbx hos y4 y5 y6 y7 y8 y9 hmk hy;gi_wp2;have hgbs:∀W:World,OBox W gb 131 [.slice (some ⟨gs,0,none⟩) N N,.int .i64 ((N:Int)-(K:Int)),.bool false]→OwnR W w7.heap.size 25 3 IR (.slice (some ⟨gs,0,none⟩) N N) (rowF (fun _=>0) N)→gb≠gs:=fun W q1 q2 e=>by
   obtain⟨g',c',e',_,_,cur,hc⟩:=q2.own (by rw [zak];exact hN);rw [zak]at e';injection e' with e';injection e' with e';injection e' with e';subst e';exact q1.el.ne ⟨cur,_,hc⟩ (by decide) e
  have hne:=hgbs _ HBX.out HOS.out;have hgs7:w7.heap.size≤gs:=by
   obtain⟨g',c',e',q,_⟩:=HOS.out.own (by rw [zak];exact hN);rw [zak]at e';injection e' with e';injection e' with e';injection e' with e';subst e';exact q
  have HO1:Hid (OwnR w' w7.heap.size 25 3 IR (.slice (some ⟨gs,0,none⟩) N N) (rowF (solv U cs N 0) N)):=HOS;clear hgbs;gi_loopw [24] (fun x24 wi=>∃i:Nat,x24 = .int .i64 (i:Int)∧i≤m∧Hid (∀r,K≤r→r<i→P r N=0)∧Hid (OwnR wi w7.heap.size 25 3 IR (.slice (some ⟨gs,0,none⟩) N N) (rowF (solv U cs N (min i K)) N))∧Hid (OBox wi gb 131 [.slice (some ⟨gs,0,none⟩) N N,.int .i64 ((N:Int)-(K:Int)),.bool false])∧Hid (Below w7.heap.size w7 wi)) (fun x _=>m-(intOf x).toNat)
  case atStart=>exact⟨0,rfl,by omega,zHi (fun r _ q=>by omega),by rw [Nat.zero_min];exact HO1,HBX,HB⟩
  case round=>
   obtain⟨i,rfl,hi,HZi,HOi,HBXi,HBi⟩:=hrel;clear HO1;by_cases him:i<m
   ·have hmx:=zad.below HM7.out HBi.out (zbQ.below HBi.out);obtain⟨_,row2,_,hcell2,u,rfl,hu⟩:=zad.at' hmx (zbG (A:=U) him);have x1:=hcell2 0 _ rfl;rw [Addr.add_add,Nat.add_zero,Nat.mul_one,Addr.add_lit,Nat.zero_add]at x1;obtain⟨ar,cr,rfl⟩:=zad.some hu (by simp);rw [List.length_map,List.length_range]at x1 hu;have hpi:((List.range (N+1)).map (U i))[N]? = some (U i N):=by simp
    obtain⟨hal,sg3,o3,k3,c3,o4,k4,c4,z0,z1,z2,hra⟩:=zad.item hu hpi;have y4:=((HB07.out.trans (HBi.out.mono HB07.out.size)).cell (World.block_lt_of_cell? _ _ HGN.out)).trans HGN.out;have HRA:=zHi hra;have HUR:=zHi hu;clear hcell2 hmx hra;by_cases hiK:i<K
    ·clear hpi hal z0 z1 z2;gi_wp2;have hbd:=zab wr;obtain⟨W1',hW1⟩:∃W,wr.drew=W:=⟨_,rfl⟩;rw [hW1]at hbd;have hO1:=HOi.out.below hbd (IR.below hbd);rw [Nat.min_eq_left (by omega)]at hO1;have hbx1:=HBXi.out.below hbd;have hlx:=zad.below HL7.out (HBi.out.trans (hbd.mono HBi.out.size)) (fun _ _ q=>q);obtain⟨p,hp⟩:∃p,cs[i]? = some p:=⟨_,List.getElem?_eq_getElem (by rw [HCLN.out];exact hiK)⟩;have hpN:=HLT.out p (List.mem_of_getElem? hp);obtain⟨ac,e⟩:=zcz hlx (by rw [HCLN.out];omega);subst e;obtain⟨_,row,_,hcell,hII⟩:=zad.at' hlx hp;have hII:row = [.int .i64 (p:Int)]:=hII;subst hII;have t0:=hcell 0 _ rfl;rw [zb4]at t0;have hux:=zad.below HUR.out hbd (IR.below hbd);obtain⟨_,r3,_,hc3,hI3⟩:=zad.at' hux (show((List.range (N+1)).map (U i))[N]? = some (U i N)by simp);have hI3:zau W1' (.agg r3.toArray) (U i N):=hI3;obtain⟨k5,n5,d5,k6,n6,d6,e5⟩:=zau.form hI3;have e5:=zdw (l:=[.bool (decide ((U i N).num<0)),.slice k5 n5 d5,.slice k6 n6 d6]) e5;subst e5;have y5:=(hbd.cell (World.block_lt_of_cell? _ _ y4)).trans y4;have hl0:=hbx1.box.2 0 _ rfl;rw [←zbN gb 0]at hl0;obtain⟨p1,p2,_,p4⟩:=hO1.put (i:=p) (row:=[.bool (decide ((U i N).num<0)),.slice k5 n5 d5,.slice k6 n6 d6]) hpN rfl hI3;rw [←zex hp]at p1;refine zap (ro:=none) [11] [0,1,2,3,4,5,6,7,8,9,10,11] [0,1,0,0,12,28,0,0,192,448,1023,2047] zaq rfl 53 rfl (by kernel_rfl) (by kernel_rfl) ?_;rw [hW1];refine OV.fld (p:=⟨gb,0,none⟩) zsK rfl rfl rfl rfl ?_;refine OV.ld lo64 hl0 rfl rfl rfl rfl rfl ?_;refine OV.mv (v:=.slice (some ac) K cc) rfl rfl rfl rfl ?_;refine OV.mv (v:=.int .i64 (i:Int)) rfl rfl rfl rfl ?_;refine OV.idx it29 hiK rfl rfl rfl rfl rfl ?_;refine OV.ld lo3 t0 rfl rfl rfl rfl rfl ?_;refine OV.mv (v:=.slice (some ar) (N+1) cr) rfl rfl rfl rfl ?_;refine OV.ld lo3 y5 rfl rfl rfl rfl rfl ?_;refine OV.idx it64 (show N<N+1 by omega) rfl rfl rfl rfl rfl ?_;refine OV.ldn [.bool (decide ((U i N).num<0)),.slice k5 n5 d5,.slice k6 n6 d6] lm25 hc3 rfl rfl rfl rfl rfl (by decide) rfl ?_;refine OV.idx it64 hpN rfl rfl rfl rfl rfl ?_;refine OV.st (w':=W1'.setCells gs (p*3) [.bool (decide ((U i N).num<0)),.slice k5 n5 d5,.slice k6 n6 d6]) trivial (zjO p2 (by simp [Value.oneCell'])) rfl rfl rfl rfl rfl ?_;refine OV.done ?_;have HO9:Hid (OwnR (W1'.setCells gs (p*3) [.bool (decide ((U i N).num<0)),.slice k5 n5 d5,.slice k6 n6 d6]) w7.heap.size 25 3 IR (.slice (some ⟨gs,0,none⟩) N N) (rowF (solv U cs N (min (i+1) K)) N)):=zHi (by rw [Nat.min_eq_left (show i+1≤K by omega)];exact p1);have HBX9:=zHi (hbx1.eq ((zai gs [.bool (decide ((U i N).num<0)),.slice k5 n5 d5,.slice k6 n6 d6] (p*3) W1').blk gb hbx1.el.lt hne));have HB9:=zHi ((HBi.out.trans (hbd.mono HBi.out.size)).trans (p4.mono hgs7));have HZ9:Hid (∀r,K≤r→r<i+1→P r N=0):=zHi (fun r q1 q2=>by omega);simp only [zbo,Go.Act.put,ztQ,ztR,ztS];clear p1 p2 p4 hl0 y5 hI3 hc3 hux t0 hcell hp hlx hbx1 hO1 hbd hW1 x1 y4 hu;gi_wp2;exact⟨⟨i+1,by go_num,by omega,HZ9,HO9,HBX9,HB9⟩,by simp only [intOf];omega⟩
    ·have hUP:U i N=P i N:=by
      rw [←HU.out];unfold zbS;rw [List.getElem?_eq_none (by rw [HCLN.out];omega)]
     have HUP:=zHi hUP;clear hpi hal hUP hu;gi_wp2_with (gi_at_call 17;refine stop ?_)
     refine(zdI wr _ (U i N) HRA.out).mono ?_;rintro e w8 ⟨rfl,hB8⟩;rw [HUP.out];have HB8:=zBt HBi hB8;have HBX8:=zHi (HBXi.out.below hB8);have HO8:Hid (OwnR w8 w7.heap.size 25 3 IR (.slice (some ⟨gs,0,none⟩) N N) (rowF (solv U cs N (min (i+1) K)) N)):=zHi (by
      rw [Nat.min_eq_right (by omega)];have:=HOi.out.below hB8 (IR.below hB8);rwa [Nat.min_eq_right (by omega)]at this)
     clear hB8 z0 z1 z2 x1 y4;by_cases hz0:P i N=0
     ·have hs:sgnR (P i N)=0:=by rw [hz0];rfl
      have hd:(sgnR (P i N) == 0)=true:=by rw [hs];rfl
      have hd':decide (sgnR (P i N)=0)=true:=decide_eq_true hs;have HZ9:Hid (∀r,K≤r→r<i+1→P r N=0):=zHi (fun r q1 q2=>by
       rcases Nat.lt_or_ge r i with q3|q3
       ·exact HZi.out r q1 q3
       ·rw [show r=i by omega];exact hz0)
      have HZZ:=zHi hz0;clear hz0 hs;gi_wp2;exact⟨⟨i+1,by go_num,by omega,HZ9,HO8,HBX8,HB8⟩,by simp only [intOf];omega⟩
     ·have hs:sgnR (P i N)≠0:=fun q=>hz0 (by
       unfold sgnR at q;split at q
       ·cases q
       ·split at q
        ·rename_i q2;exact Rat.num_eq_zero.1 q2
        ·cases q)
      have hd:(sgnR (P i N) == 0)=false:=by rw [beq_eq_false_iff_ne];exact hs
      have hd':decide (sgnR (P i N)=0)=false:=decide_eq_false hs;have HNZ:Hid (∃i,K≤i∧i<m∧P i N≠0):=zHi ⟨i,by omega,him,hz0⟩;have hx3:=HX7.out.below HB8.out;have HX3:=zHi hx3;have q0:=hx3.box.2 0 _ rfl;have q1:=hx3.box.2 1 _ rfl;have q2:=hx3.box.2 2 _ rfl;have r0:=hx3.free 0 (by decide);have r1:=hx3.free 1 (by decide);have r2:=hx3.free 2 (by decide);clear hs hz0 hx3;gi_wp2;obtain⟨e1,e2⟩:=zr6 HX3.out (HB07.out.trans (HB8.out.mono HB07.out.size)) (by rw [HG3.out];exact Nat.le_refl _) (.slice none 0 0) (.int .i64 0) (.bool true);refine⟨rfl,.agg #[.slice none 0 0,.int .i64 0,.bool true],?_,_,rfl,(HR0.out _ _).2 ⟨.inl ⟨HNZ.out,rfl⟩,e2⟩⟩;simp only [Instr.loadAt,Instr.sureAddr,Sem.run_bind,Sem.run_pure,Result.andThen_ok]at e1;simp only [World.setCells,Nat.zero_add]at e1;simp [results,asAddr,e1]
   ·have him2:i=m:=by omega
    have HZM:Hid (∀r,K≤r→r<m→P r N=0):=zHi (fun r q1 q2=>HZi.out r q1 (by omega));have HOM:Hid (RowR wr (.slice (some ⟨gs,0,none⟩) N N) (rowF (solv U cs N K) N)):=zHi (by
     have:=HOi.out.row (by rw [zak];omega);rwa [Nat.min_eq_right (by omega)]at this)
    have hx3:=HX7.out.below HBi.out;have HX3:=zHi hx3;have q0:=hx3.box.2 0 _ rfl;have q1:=hx3.box.2 1 _ rfl;have q2:=hx3.box.2 2 _ rfl;have r0:=hx3.free 0 (by decide);have r1:=hx3.free 1 (by decide);have r2:=hx3.free 2 (by decide);have t0:=HBXi.out.box.2 0 _ rfl;have t1:=HBXi.out.box.2 1 _ rfl;have t2:=HBXi.out.box.2 2 _ rfl;clear him2 hx3;gi_wp2;obtain⟨e1,e2⟩:=zr6 HX3.out (HB07.out.trans (HBi.out.mono HB07.out.size)) (by rw [HG3.out];exact Nat.le_refl _) (.slice (some ⟨gs,0,none⟩) N N) (.int .i64 ((N:Int)-(K:Int))) (.bool false);have hbt:=zai g3 [.slice (some ⟨gs,0,none⟩) N N,.int .i64 ((N:Int)-(K:Int)),.bool false] 0 wr;have hK:=hbt.kept HX3.out.el rfl;have hg37:=HX7.out.el.lt;have hoF:=HOi.out.keep (fun b hb hl=>hbt.blk b hl (fun e=>by have:=(HOi.out.blk hb).1;omega)) (fun b r q=>zau.kept (show zau wr (.agg r.toArray) b from q) hK);have hoF2:RowR _ (.slice (some ⟨gs,0,none⟩) N N) (rowF (solv U cs N (min i K)) N):=hoF.row (by rw [zak];omega);rw [Nat.min_eq_right (by omega)]at hoF2;refine⟨rfl,.agg #[.slice (some ⟨gs,0,none⟩) N N,.int .i64 ((N:Int)-(K:Int)),.bool false],?_,_,rfl,(HR0.out _ _).2 ⟨.inr ⟨HZM.out,_,_,_,by rw [Int.ofNat_sub hKN],hoF2⟩,e2⟩⟩;simp only [Instr.loadAt,Instr.sureAddr,Sem.run_bind,Sem.run_pure,Result.andThen_ok]at e1;simp only [World.setCells,Nat.zero_add]at e1;simp [results,asAddr,e1]
theorem zsa:zek Tryz.prog 131 1 1:=zcE (by kernel_rfl)
theorem zlb(bs:List Rat):rowF (fun i=>bs.getD i 0) bs.length=bs:=by
 refine List.ext_getElem? fun i => ?_
 rcases Nat.lt_or_ge i bs.length with hi|hi
 ·rw [zdf hi,List.getElem?_eq_getElem hi];simp [hi]
 ·rw [List.getElem?_eq_none (by rw [zak];exact hi),List.getElem?_eq_none hi]
def zmb(m N:Nat)(Q:Nat→Nat→Rat)(bs:List Rat)(v1:Value)(fr er:Int)(w':World):Prop:=
 (bs.length≠m∧v1 = .slice none 0 0∧fr=0∧er=7)∨(bs.length=m∧bs.any zbf=true∧v1 = .slice none 0 0∧fr=0∧er=11) ∨
 (bs.length=m∧bs.any zbf=false∧((∃i,(pRun m (zbr Q (fun i=>bs.getD i 0) N) N).k≤i∧i<m∧(pRun m (zbr Q (fun i=>bs.getD i 0) N) N).P i N≠0)∧v1 = .slice none 0 0∧fr=0∧er=4 ∨
  (∀i,(pRun m (zbr Q (fun i=>bs.getD i 0) N) N).k≤i→i<m→(pRun m (zbr Q (fun i=>bs.getD i 0) N) N).P i N=0)∧RowR w' v1 (rowF (solv (zbS (pRun m (zbr Q (fun i=>bs.getD i 0) N) N).P (zaF m (zbr Q (fun i=>bs.getD i 0) N) N)) (zaF m (zbr Q (fun i=>bs.getD i 0) N) N) N (zaF m (zbr Q (fun i=>bs.getD i 0) N) N).length) N)∧fr=((N-(pRun m (zbr Q (fun i=>bs.getD i 0) N) N).k:Nat):Int)∧er=0))
def SolR(m N:Nat)(A:Nat→Nat→Rat)(v':Value)(w':World):Prop:=
 (∃i,(pRun m A N).k≤i∧i<m∧(pRun m A N).P i N≠0)∧v' = .agg #[.slice none 0 0,.int .i64 0,.bool true] ∨
 (∀i,(pRun m A N).k≤i→i<m→(pRun m A N).P i N=0)∧∃o k c,v' = .agg #[.slice o k c,.int .i64 ((N-(pRun m A N).k:Nat):Int),.bool false]∧RowR w' (.slice o k c) (rowF (solv (zbS (pRun m A N).P (zaF m A N)) (zaF m A N) N (zaF m A N).length) N)
theorem SolR.form{m N:Nat}{A:Nat→Nat→Rat}{v':Value}{w':World}(h:SolR m N A v' w'):∃(p:Option Addr) (l:Nat) (d:Nat) (fr:Int) (no:Bool),v' = .agg #[.slice p l d,.int .i64 fr,.bool no]:=by
 rcases h with⟨_,e⟩|⟨_,o,k,c,e,_⟩
 ·exact⟨_,_,_,_,_,e⟩
 ·exact⟨_,_,_,_,_,e⟩
theorem SolR.imp{m N:Nat}{A:Nat→Nat→Rat}{v':Value}{w w':World}(h:SolR m N A v' w)(hI:∀v l,RowR w v l→RowR w' v l):SolR m N A v' w':=by
 rcases h with h|⟨h,o,k,c,e,hr⟩
 ·exact .inl h
 ·exact .inr ⟨h,o,k,c,e,hI _ _ hr⟩
theorem SolR.below{m N:Nat}{A:Nat→Nat→Rat}{v':Value}{w w':World}(h:SolR m N A v' w)(hb:Below w.heap.size w w'):SolR m N A v' w':=h.imp fun _ _ q=>zad.below q hb (IR.below hb)
theorem SolR.frx{m N:Nat}{A:Nat→Nat→Rat}{v':Value}{w w':World}(h:SolR m N A v' w)(hf:FrX (fun _ e=>e=131∨e=26) w w'):SolR m N A v' w':=
 h.imp fun _ _ k=>zad.frx k hf (fun b=>by decide) (fun _ _ q=>zau.kept q (fun b cs e fz hb hc=>hf.2 b cs e fz hb (fun q=>by rcases q with rfl|rfl <;> cases hc)))
theorem zmq(w:World)(v vb:Value)(m N:Nat)(Q:Nat→Nat→Rat)(bs:List Rat)(hm:MatR w v (tab m N Q))(hvb:RowR w vb bs)(h0:0<m)(hN:0<N)(h9:m≤8∧N≤8)(hc:zbi (tab m N Q)=0)(hq:zos m N Q)(hbq:∀q∈bs,zan q 100000)(hb9:bs.length≤1000)(hT:zaY w)
  (hF:bs.length=m→bs.any zbf=false→Fine m (N+1) N (zbr Q (fun i=>bs.getD i 0) N)) :
  CallsIn Fence.wide 0 Tryz.prog 32 #[v,vb] w fun e w'=>∃v1 fr er,e = .returned (.tuple #[v1,.int .i64 fr,.int .i64 er])∧zmb m N Q bs v1 fr er w'∧Below w.heap.size w w':=by
 obtain⟨a,c,a0,c0,rfl,hx⟩:=zkh hm h0 hN;obtain⟨ob,cb,rfl,_⟩:=zad.form hvb;have HM:=zHi hm;have HVB:=zHi hvb;have HQ:=zHi (znU hq);have HBQ:=zHi hbq;have HT:=zHi hT;have HC:=zHi hc;have HF:=zHi hF;have HX:=zHi hx;obtain⟨lb,hlb⟩:∃l,bs.length=l:=⟨_,rfl⟩;have HLB:=zHi hlb;obtain⟨R0,hR0⟩:∃R:Ending→World→Prop,∀e w',R e w'↔∃v1 fr er,e = .returned (.tuple #[v1,.int .i64 fr,.int .i64 er])∧zmb m N Q bs v1 fr er w'∧Below w.heap.size w w':=⟨_,fun _ _=>Iff.rfl⟩;simp only [←hR0];have HR0:=zHi hR0;rw [hlb];rw [hlb]at hb9;clear hm hvb hq hbq hT hc hF hx hlb hR0;refine callsIn_of_wp Tryz.func32 rfl trivial ?_ rfl;simp only [Tryz.ntmps32,ztH,ztI,ztJ,Nat.reduceAdd,Nat.reduceSub,ztK,ztL,ztM,ztN,ztO,ztP];gi_wp2_with (gi_at_call 49;refine stop ?_)
 unfold Stop;obtain⟨g2,hg2⟩:∃g,w.heap.size=g:=⟨_,rfl⟩;obtain⟨W2,hW2⟩:∃W,(w.alloc (.cells #[.slice (some a) m c] 55)).alloc (.cells #[.slice ob lb cb] 64)=W:=⟨_,rfl⟩;have hb2:Below w.heap.size w W2:=by rw [←hW2];exact(zaa _ _).alloc (by simp) _
 have x2:OBox W2 g2 55 [.slice (some a) m c]:=by
  rw [←hW2,←hg2];exact(OBox.new w [.slice (some a) m c] 55).below (zaa _ _)
 have x3:OBox W2 (g2+1) 64 [.slice ob lb cb]:=by
  rw [←hW2,←hg2];have:=OBox.new (w.alloc (.cells #[.slice (some a) m c] 55)) [.slice ob lb cb] 64;rw [World.size_alloc]at this;exact this
 have HB2:=zHi hb2;have HX2:=zHi x2;have HX3:=zHi x3;rw [hW2];rw [hg2];clear hW2 hg2 hb2 x2 x3;refine(zib W2 _ _ (zad.below HM.out HB2.out (zbQ.below HB2.out)) HQ.out (HT.out.below HB2.out)).mono ?_;rintro e w3 ⟨rfl,hB3⟩;rw [HC.out];have HB3:=zBt HB2 hB3;have HY2:=zHi (HX2.out.below hB3);have HY3:=zHi (HX3.out.below hB3);have y0:=HY2.out.box.2 0 _ rfl;have y1:=HY3.out.box.2 0 _ rfl;clear hB3;by_cases hlm:lb=m
 ·have hd1:((lb:Int) == (m:Int))=true:=by rw [beq_iff_eq];omega
  have hd2:decide ((lb:Int)=(m:Int))=true:=decide_eq_true (by omega);have HLM:Hid (bs.length=m):=zHi (by rw [HLB.out];exact hlm);clear hlm;gi_wp2_with (gi_at_call 86;refine stop ?_)
  refine(zgd w3 _ bs (by have:=zad.below HVB.out HB3.out (IR.below HB3.out);rwa [HLB.out]at this) HBQ.out (HT.out.below HB3.out)).mono ?_;rintro e w4 ⟨rfl,hB4⟩;have HB4:=zBt HB3 hB4;have HY4:=zHi (HY2.out.below hB4);have HZ4:=zHi (HY3.out.below hB4);clear y0 y1 hB4 hd1 hd2
  cases hal:bs.any zbf with
  | true=>
   have HAL:=zHi hal;clear hal;gi_wp2;all_goals (first|go_returns|go_ret|go_end0)
   exact(HR0.out _ _).2 ⟨_,_,_,rfl,.inr (.inl ⟨HLM.out,HAL.out,rfl,rfl,rfl⟩),HB4.out⟩
  | false=>
   have HAL:=zHi hal;have hFF:=HF.out HLM.out hal;have HFF:=zHi hFF;obtain⟨b,hb⟩:∃b:Nat→Rat,(fun i=>bs.getD i 0)=b:=⟨_,rfl⟩;have hbs:bs=rowF b m:=by rw [←HLM.out,←hb,zlb]
   have HBS:=zHi hbs;have HBE:=zHi hb;rw [hb]at HFF;obtain⟨A,hA⟩:∃A,zbr Q b N=A:=⟨_,rfl⟩;have HAE:=zHi hA;clear hal hFF hb hbs hA;have y0:=HY4.out.box.2 0 _ rfl;have x4:=(HB4.out.cell (World.block_lt_of_cell? _ _ HX.out)).trans HX.out;rw [show a.add (0*1)=a by simp [Addr.add]]at x4;have hmf:∀(fn:Fn) (first cap:Array Value) (w:World),(Instr.makeFunc fn first cap).run Tryz.prog w = .ok (.func fn first cap) w:=fun _ _ _ _=>rfl
   gi_wp2_with (gi_at_call 87;refine stop ?_)
   unfold Stop;obtain⟨g8,hg8⟩:∃g,w4.heap.size=g:=⟨_,rfl⟩;obtain⟨W8,hW8⟩:∃W,w4.alloc (.cells #[.int .i64 (N:Int)] 3)=W:=⟨_,rfl⟩;have hb8:Below w4.heap.size w4 W8:=by rw [←hW8];exact zaa _ _
   have x8:OBox W8 g8 3 [.int .i64 (N:Int)]:=by
    rw [←hW8,←hg8];exact OBox.new w4 [.int .i64 (N:Int)] 3
   have HB8:=zBt HB4 hb8;have HY8:=zHi (HY4.out.below hb8);have HZ8:=zHi (HZ4.out.below hb8);have HX8:=zHi x8;rw [hW8];rw [hg8];clear hW8 hg8 hb8 x8 y0 x4;refine(zl3 W8 88 #[.pointer (some ⟨g2,0,none⟩),.pointer (some ⟨g2+1,0,none⟩),.pointer (some ⟨g8,0,none⟩)] (SolR m N A) (ec 88 _ Tryz.func88 rfl) (fun v W W' h hf=>SolR.frx h hf) (fun W hW => ?_)).mono ?_
   ·have hbW:=HB8.out.trans (hW.mono HB8.out.size);have hvb:=zad.below HVB.out hbW (IR.below hbW);rw [HBS.out,HBS.out.symm,HLB.out]at hvb;refine(zk5 W g2 (g2+1) g8 m N (.slice (some a) m c) _ Q b ((HY8.out.below hW).box.2 0 _ rfl) ((HZ8.out.below hW).box.2 0 _ rfl) ((HX8.out.below hW).box.2 0 _ rfl) (zad.below HM.out hbW (zbQ.below hbW)) (by rw [←HBS.out];exact hvb) h0 hN h9 (HT.out.below hbW) HFF.out).mono ?_;rintro e w' ⟨v',rfl,h1,h2⟩;rw [HAE.out]at h1;exact⟨_,rfl,⟨SolR.form h1,h1⟩,h2⟩
   rintro e w9 ⟨v9,rfl,hr9,hB9⟩;obtain⟨p9,l9,d9,f9,n9,rfl⟩:=SolR.form hr9;have HR9:=zHi hr9;have HB9:=zBt HB8 hB9;obtain⟨gx,hgx⟩:∃g,w9.heap.size=g:=⟨_,rfl⟩;have hb10:=zaa w9 (.cells #[.slice p9 l9 d9,.int .i64 f9,.bool n9] 131);have x10:=OBox.new w9 [.slice p9 l9 d9,.int .i64 f9,.bool n9] 131;have HB10:=zBt HB9 hb10;have HR10:=zHi (SolR.below hr9 hb10);have HX10:=zHi x10;have q0:=x10.box.2 0 _ rfl;have q1:=x10.box.2 1 _ rfl;have q2:=x10.box.2 2 _ rfl;clear hr9 hB9 hb10 x10 hgx
   cases n9 with
   | true=>
    gi_wp2;obtain⟨W1,hW1⟩:∃W,(w9.alloc (.cells #[.slice p9 l9 d9,.int .i64 f9,.bool true] 131)).drew=W:=⟨_,rfl⟩;have hbd:=zab (w9.alloc (.cells #[.slice p9 l9 d9,.int .i64 f9,.bool true] 131));rw [hW1]at hbd;have hx:=HX10.out.below hbd;have hl0:=hx.box.2 0 _ rfl;have hl1:=hx.box.2 1 _ rfl;rw [←zbN w9.heap.size 0]at hl0;rw [←zbN w9.heap.size 1]at hl1;have HE:Hid (R0 (.returned (.tuple #[.slice p9 l9 d9,.int .i64 f9,.int .i64 4])) W1):=by
     refine zHi ((HR0.out _ _).2 ⟨_,_,_,rfl,.inr (.inr ⟨HLM.out,HAL.out,?_⟩),HB10.out.trans (hbd.mono HB10.out.size)⟩);have hr:=SolR.below HR10.out hbd;rw [HBE.out,HAE.out];rcases hr with⟨h1,h2⟩|⟨_,_,_,_,h2,_⟩
     ·injection h2 with h2;injection h2 with h2;injection h2 with h2 h3;injection h3 with h3 _;injection h3 with _ h3;exact .inl ⟨h1,h2,h3,rfl⟩
     ·injection h2 with h2;injection h2 with h2;injection h2 with _ h2;injection h2 with _ h2;injection h2 with h2;injection h2 with h2
      cases h2
    refine zap (ro:=none) [] [0,1,2,3,4,5,6,7] [0,1,0,4,0,3,47,127] zaq rfl 43 rfl (by kernel_rfl) (by kernel_rfl) ?_;rw [hW1];refine OV.fld (p:=⟨w9.heap.size,0,none⟩) zsK rfl rfl rfl rfl ?_;refine OV.ld lo64 hl0 rfl rfl rfl rfl rfl ?_;refine OV.fld (p:=⟨w9.heap.size,0,none⟩) zsa rfl rfl rfl rfl ?_;refine OV.ld lo3 hl1 rfl rfl rfl rfl rfl ?_;refine OV.mv (v:=.int .i64 4) rfl rfl rfl rfl ?_;refine OV.asg (v:=.slice p9 l9 d9) rfl rfl rfl rfl ?_;refine OV.asg (v:=.int .i64 f9) rfl rfl rfl rfl ?_;refine OV.asg (v:=.int .i64 4) rfl rfl rfl rfl ?_;refine OV.done ?_;simp only [zbo,Go.Act.put,ztQ,ztR,ztS];clear hl0 hl1 hx hbd hW1 q0 q1 q2;gi_wp2;all_goals (first|go_returns|go_ret|go_end0)
    exact HE.out
   | false=>
    gi_wp2;obtain⟨W1,hW1⟩:∃W,(w9.alloc (.cells #[.slice p9 l9 d9,.int .i64 f9,.bool false] 131)).drew=W:=⟨_,rfl⟩;have hbd:=zab (w9.alloc (.cells #[.slice p9 l9 d9,.int .i64 f9,.bool false] 131));rw [hW1]at hbd;have hx:=HX10.out.below hbd;have hl0:=hx.box.2 0 _ rfl;have hl1:=hx.box.2 1 _ rfl;rw [←zbN w9.heap.size 0]at hl0;rw [←zbN w9.heap.size 1]at hl1;have HE:Hid (R0 (.returned (.tuple #[.slice p9 l9 d9,.int .i64 f9,.int .i64 0])) W1):=by
     refine zHi ((HR0.out _ _).2 ⟨_,_,_,rfl,.inr (.inr ⟨HLM.out,HAL.out,?_⟩),HB10.out.trans (hbd.mono HB10.out.size)⟩);have hr:=SolR.below HR10.out hbd;rw [HBE.out,HAE.out];rcases hr with⟨_,h2⟩|⟨h1,_,_,_,h2,h4⟩
     ·injection h2 with h2;injection h2 with h2;injection h2 with _ h2;injection h2 with _ h2;injection h2 with h2;injection h2 with h2
      cases h2
     ·injection h2 with h2;injection h2 with h2;injection h2 with h2 h3;injection h3 with h3 _;injection h3 with _ h3;refine .inr ⟨h1,?_,h3,rfl⟩;rw [h2];exact h4
    refine zap (ro:=none) [] [0,1,2,3,4,5,6,7] [0,1,0,4,0,3,47,127] zaq rfl 43 rfl (by kernel_rfl) (by kernel_rfl) ?_;rw [hW1];refine OV.fld (p:=⟨w9.heap.size,0,none⟩) zsK rfl rfl rfl rfl ?_;refine OV.ld lo64 hl0 rfl rfl rfl rfl rfl ?_;refine OV.fld (p:=⟨w9.heap.size,0,none⟩) zsa rfl rfl rfl rfl ?_;refine OV.ld lo3 hl1 rfl rfl rfl rfl rfl ?_;refine OV.mv (v:=.int .i64 0) rfl rfl rfl rfl ?_;refine OV.asg (v:=.slice p9 l9 d9) rfl rfl rfl rfl ?_;refine OV.asg (v:=.int .i64 f9) rfl rfl rfl rfl ?_;refine OV.asg (v:=.int .i64 0) rfl rfl rfl rfl ?_;refine OV.done ?_;simp only [zbo,Go.Act.put,ztQ,ztR,ztS];clear hl0 hl1 hx hbd hW1 q0 q1 q2;gi_wp2;all_goals (first|go_returns|go_ret|go_end0)
    exact HE.out
 ·have hd1:((lb:Int) == (m:Int))=false:=by rw [beq_eq_false_iff_ne];omega
  have hd2:decide ((lb:Int)=(m:Int))=false:=decide_eq_false (by omega);gi_wp2;all_goals (first|go_returns|go_ret|go_end0)
  exact(HR0.out _ _).2 ⟨_,_,_,rfl,.inl ⟨by rw [HLB.out];exact hlm,rfl,rfl,rfl⟩,HB3.out⟩
end Go.Num
namespace Go.Num
section
variable {m N columns:Nat} {P0:Nat→Nat→Rat} {A0:Nat→Nat→Int} {g0:Nat→Rat}
theorem zpN(h:Set1 m N columns P0 A0 g0):∀(i c:Nat),(zaV m A0 columns)[i]? = some c→(rRun m A0 columns).A i c≠0:=fun i c hi=>by
 rw [h.cols]at hi;rw [(h.ends.piv i c hi).2];exact h.ends.last
theorem znF(h:Set1 m N columns P0 A0 g0){i j:Nat}(hi:i<(zaF m P0 columns).length)(hj:j<N):zbS (pRun m P0 columns).P (zaF m P0 columns) i j=zbS (fun i j=>((rRun m A0 columns).A i j:Rat)) (zaF m P0 columns) i j:=by
 obtain⟨c,hc⟩:∃c,(zaF m P0 columns)[i]? = some c:=⟨_,List.getElem?_eq_getElem hi⟩;unfold zbS;rw [hc];show(pRun m P0 columns).P i j/(pRun m P0 columns).P i c=((rRun m A0 columns).A i j:Rat)/((rRun m A0 columns).A i c:Rat)
 rw [h.ends.unit i c hc j hj,(h.ends.piv i c hc).2]
theorem zjh{U V:Nat→Nat→Rat}{cs:List Nat}{c:Nat}:∀{k:Nat},(∀i,i<k→i<cs.length→U i c=V i c)→kvec U cs c k=kvec V cs c k
 | 0,_=>rfl
 | k+1,h=>by
  have ih:=zjh (k:=k) (fun i hi hl=>h i (by omega) hl);rcases Nat.lt_or_ge k cs.length with hk|hk
  ·obtain⟨p,hp⟩:∃p,cs[k]? = some p:=⟨_,List.getElem?_eq_getElem hk⟩;rw [zeK hp,zeK hp,ih,h k (Nat.lt_succ_self k) hk]
  ·show(match cs[k]? with|some p=>fun j=>if j=p then -(U k c)else kvec U cs c k j|none=>kvec U cs c k)=(match cs[k]? with|some p=>fun j=>if j=p then -(V k c)else kvec V cs c k j|none=>kvec V cs c k)
   rw [List.getElem?_eq_none hk];exact ih
theorem zo3{U V:Nat→Nat→Rat}{cs:List Nat}{N:Nat}(h:∀i c,i<cs.length→c<N→U i c=V i c):kern U cs N N=kern V cs N N:=by
 unfold kern;refine List.map_congr_left fun c hc => ?_
 have hcN:c<N:=List.mem_range.1 (List.mem_filter.1 hc).1;rw [zjh (fun i _ hl=>h i c hl hcN)]
theorem zqu(h:Set1 m N N P0 A0 g0):kern (zbS (fun i j=>((rRun m A0 N).A i j:Rat)) (zaV m A0 N)) (zaV m A0 N) N N=kern (zbS (pRun m P0 N).P (zaF m P0 N)) (zaF m P0 N) N N:=by
 rw [h.cols];exact(zo3 fun i c hi hc=>znF h hi hc).symm
theorem ziU{U V:Nat→Nat→Rat}{cs:List Nat}{N:Nat}:∀{k:Nat},(∀i,i<k→i<cs.length→U i N=V i N)→solv U cs N k=solv V cs N k
 | 0,_=>rfl
 | k+1,h=>by
  have ih:=ziU (k:=k) (fun i hi hl=>h i (by omega) hl);rcases Nat.lt_or_ge k cs.length with hk|hk
  ·obtain⟨p,hp⟩:∃p,cs[k]? = some p:=⟨_,List.getElem?_eq_getElem hk⟩;rw [zex hp,zex hp,ih,h k (Nat.lt_succ_self k) hk]
  ·rw [zhk hk,zhk hk];exact ih
theorem zpG(h:Set1 m (N+1) N P0 A0 g0):solv (zbS (fun i j=>((rRun m A0 N).A i j:Rat)) (zaV m A0 N)) (zaV m A0 N) N (zaV m A0 N).length=solv (zbS (pRun m P0 N).P (zaF m P0 N)) (zaF m P0 N) N (zaF m P0 N).length:=by
 rw [h.cols];exact(ziU fun i _ hi=>znF h hi (by omega)).symm
theorem zqg(h:Set1 m (N+1) N P0 A0 g0){i:Nat}(h1:(pRun m P0 N).k≤i)(h2:i<m):(pRun m P0 N).P i N=0↔(rRun m A0 N).A i N=0:=h.ends.zero i h1 h2 N (by omega)
theorem zqt{U:Nat→Nat→Rat}{cs:List Nat}{c L:Nat}(hL:1≤L):∀{k:Nat},(∀i,i<k→i<cs.length→zan (U i c) L)→∀j,zan (kvec U cs c k j) L
 | 0,_,j=>by
  show zan (if j=c then 1 else 0) L
  split
  ·exact⟨up (show 1<B^1 by decide) hL,up (show 1<B^1 by decide) hL⟩
  ·exact⟨up (show 0<B^1 by decide) hL,up (show 1<B^1 by decide) hL⟩
 | k+1,h,j=>by
  have ih:=zqt hL (k:=k) (fun i hi hl=>h i (by omega) hl);rcases Nat.lt_or_ge k cs.length with hk|hk
  ·obtain⟨p,hp⟩:∃p,cs[k]? = some p:=⟨_,List.getElem?_eq_getElem hk⟩;rw [zeK hp];show zan (if j=p then -(U k c)else kvec U cs c k j) L
   split
   ·exact zeE (h k (Nat.lt_succ_self k) hk)
   ·exact ih j
  ·show zan ((match cs[k]? with|some p=>fun j=>if j=p then -(U k c)else kvec U cs c k j|none=>kvec U cs c k) j) L
   rw [List.getElem?_eq_none hk];exact ih j
theorem zsE{U:Nat→Nat→Rat}{cs:List Nat}{N L:Nat}(hL:1≤L)(h:∀i c,i<cs.length→c<N→zan (U i c) L):∀l∈kern U cs N N,∀q∈l,zan q L:=fun l hl q hq=>by
 obtain⟨c,hc,rfl⟩:=List.mem_map.1 hl;have hcN:c<N:=List.mem_range.1 (List.mem_filter.1 hc).1;obtain⟨j,_,rfl⟩:=List.mem_map.1 hq;exact zqt hL (fun i _ hi=>h i c hi hcN) j
theorem zpH{U:Nat→Nat→Rat}{cs:List Nat}{N L:Nat}(hL:1≤L):∀{k:Nat},(∀i,i<k→i<cs.length→zan (U i N) L)→∀j,zan (solv U cs N k j) L
 | 0,_,j=>⟨up (show 0<B^1 by decide) hL,up (show 1<B^1 by decide) hL⟩
 | k+1,h,j=>by
  have ih:=zpH hL (k:=k) (fun i hi hl=>h i (by omega) hl);rcases Nat.lt_or_ge k cs.length with hk|hk
  ·obtain⟨p,hp⟩:∃p,cs[k]? = some p:=⟨_,List.getElem?_eq_getElem hk⟩;rw [zex hp];show zan (if j=p then U k N else solv U cs N k j) L
   split
   ·exact h k (Nat.lt_succ_self k) hk
   ·exact ih j
  ·rw [zhk hk];exact ih j
end
def zbL(q:Nat→Rat):Nat→Rat
 | 0=>0
 | j+1=>zbL q j+q j*(((j:Int)%3-1:Int):Rat)
theorem zh7{q:Nat→Rat}{n:Nat}(h:∀j,j<n→zan (q j) 3):∀j,j≤n→zan (zbL q j) (5*j+1)
 | 0,_=>⟨show 0<B^1 by decide,show 1<B^1 by decide⟩
 | j+1,hj=>by
  have ih:=zh7 h j (by omega);have hc:zan ((((j:Int)%3-1:Int):Rat)) 1:=by
   have:(j:Int)%3-1 = -1∨(j:Int)%3-1=0∨(j:Int)%3-1=1:=by omega
   rcases this with e|e|e <;> rw [e] <;> exact⟨by decide,by decide⟩
  have h2:=zhr ih (zfX (h j (by omega)) hc);show zan (zbL q j+q j*_) _
  rw [show 5*(j+1)+1=5*j+1+(3+1)+1 by omega];exact h2
end Go.Num
namespace Go.Num
open Go.Eng Go.Shelf Go.RowKit Go.Sort Go.Proofs Go.Proofs.YtoamcgjbelhnkaaGreatDoor
attribute [local go_sem] Oper.semAt_some
theorem zsO{m N:Nat}{Q:Nat→Nat→Rat}(h:∀i j,i<m→j<N→Dig (Q i j)):∀i j,i<m→j<N→zan (Q i j) 5:=fun i j hi hj=>(h i j hi hj).le (by decide)
theorem zlW{m N:Nat}{Q:Nat→Nat→Rat}(h:∀i j,i<m→j<N→Dig (Q i j)):zos m N Q:=fun i j hi hj=>(h i j hi hj).le (by decide)
end Go.Num
