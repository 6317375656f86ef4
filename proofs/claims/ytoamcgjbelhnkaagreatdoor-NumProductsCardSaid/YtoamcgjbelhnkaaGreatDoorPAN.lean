/-
  'Make' of the program. 'awake' answers true: one run of the machine in the kernel. Decimal digits as a number, and back; what is canonical. 
  Conditions: see each statement.
-/
import Derived.Test.YtoamcgjbelhnkaaGreatDoorPAA
import Derived.Test.YtoamcgjbelhnkaaGreatDoorPAM
import Derived.Lib.SmallJoins
import Derived.RecoverIn
import Derived.Test.YtoamcgjbelhnkaaGreatDoorCards
import Derived.Test.YtoamcgjbelhnkaaGreatDoorTie
import Derived.WalkKit
import Derived.ProofKit
import Derived.OpenShut
import Derived.Deep.DeepHandedRow
import Derived.Lib.LaidTab
import Derived.Stop.LaidErr
import Derived.Test.YtoamcgjbelhnkaaGreatDoorPAK
import Derived.Lib.ParseIntBCases
import Derived.Lib.AtoiTie
import Derived.Test.YtoamcgjbelhnkaaGreatDoorPAF
import Derived.Lib.IndexMore
set_option maxRecDepth 100000
set_option maxHeartbeats 8000000
namespace Go.Num
open Go.Eng Go.Shelf Go.RowKit Go.Sort Go.Proofs Go.Proofs.YtoamcgjbelhnkaaGreatDoor
theorem l34:zfH Tryz.prog 34 4:=m34
theorem zlH{a:Int}(h1 : -9223372036854775808≤a)(h2:a≤9223372036854775807):a.natAbs<B^3:=by
 have:B^3=1000000000000000000000000000:=by decide
 omega
theorem zo8(w:World)(a b:Int)(ha1 : -9223372036854775808≤a)(ha2:a≤9223372036854775807)(hb1 : -9223372036854775808≤b)(hb2:b≤9223372036854775807)(hb0:b≠0) :
  CallsIn Fence.wide 0 Tryz.prog 24 #[.int .i64 a,.int .i64 b] w fun e w'=>∃v',e = .returned v'∧QAt w' v' ((a:Rat)/(b:Rat))∧Below w.heap.size w w':=by
 refine callsIn_of_wp Tryz.func24 rfl trivial ?_ rfl;simp only [Tryz.ntmps24,ztE,ztF,ztG,Nat.reduceAdd,Nat.reduceSub,ztH,ztI,ztJ,ztK,ztL,ztM];gi_wp2_with (gi_at_call 22;refine stop ?_)
 unfold Stop;obtain⟨W1,hW1⟩:∃W,W=w.alloc (.cells #[.bool false,.slice none 0 0,.bool false,.slice none 0 0] 34):=⟨_,rfl⟩;rw [←hW1];have HBW:Hid (Below w.heap.size w W1):=zHi (by rw [hW1];exact zaa _ _);have HA:Hid (zaf W1 w.heap.size 4 fun i => [.bool false,.slice none 0 0,.bool false,.slice none 0 0].getD i (.bool false)):=zHi (by
  rw [hW1];refine zaf.new _ _ _ fun i hi => ?_
  match i,hi with
  | 0,_=>rfl
  | 1,_=>rfl
  | 2,_=>rfl
  | 3,_=>rfl)
 have HE:Hid (Elem W1 w.heap.size 34):=zHi (by rw [hW1];exact zaA _ _ _);obtain⟨g,hg⟩:∃g,w.heap.size=g:=⟨_,rfl⟩;have hgl:g<W1.heap.size:=by rw [hW1,←hg];simp
 have hgw:w.heap.size≤g:=by omega
 rw [hg]at HA HE;rw [hg];clear hg hW1;refine(zcf W1 a ha1 ha2).mono ?_;rintro e w2 ⟨v2,rfl,hz2,hB⟩;replace HA:=zHi (HA.out.below hgl hB);replace HE:=zHi (HE.out.below hB hgl);replace HBW:=zHi (HBW.out.trans (hB.mono HBW.out.size));replace hgl:=Nat.lt_of_lt_of_le hgl hB.size;have HZ2:=zHi hz2;clear hz2 hB;gi_wp2_with (gi_at_call 22;refine stop ?_)
 unfold Stop;refine(zcf w2 b hb1 hb2).mono ?_;rintro e w3 ⟨v3,rfl,hz3,hB⟩;replace HA:=zHi (HA.out.below hgl hB);replace HE:=zHi (HE.out.below hB hgl);replace HBW:=zHi (HBW.out.trans (hB.mono HBW.out.size));replace hgl:=Nat.lt_of_lt_of_le hgl hB.size;replace HZ2:=zHi (HZ2.out.below hB);have HZ3:=zHi hz3;clear hz3 hB;gi_wp2_with (gi_at_call 77;refine stop ?_)
 unfold Stop;refine(zmD w3 v2 v3 a b HZ2.out HZ3.out (zaX 20000 (zlH ha1 ha2) (by decide)) (zaX 20000 (zlH hb1 hb2) (by decide)) hb0).mono ?_;rintro e w4 ⟨v4,rfl,⟨m1,m2,rfl,h1,h2⟩,hB⟩;replace HA:=zHi (HA.out.below hgl hB);replace HE:=zHi (HE.out.below hB hgl);replace HBW:=zHi (HBW.out.trans (hB.mono HBW.out.size));obtain⟨o1,k1,c1,rfl,_,_⟩:=za7 h1;obtain⟨o2,k2,c2,rfl,_,_⟩:=za7 h2;have H1:=zHi h1;have H2:=zHi h2;have y0:=(HA.out 0 (by omega)).1;have y1:=(HA.out 1 (by omega)).1;have y2:=(HA.out 2 (by omega)).1;have y3:=(HA.out 3 (by omega)).1;have z0:=(HA.out 0 (by omega)).2;have z1:=(HA.out 1 (by omega)).2;have z2:=(HA.out 2 (by omega)).2;have z3:=(HA.out 3 (by omega)).2;simp only [List.getD_cons_zero,List.getD_cons_succ]at y0 y1 y2 y3;clear h1 h2 hB HZ2 HZ3;obtain⟨sg,hsg⟩:∃sg,decide (((a:Rat)/(b:Rat)).num<0)=sg:=⟨_,rfl⟩;rw [hsg];gi_wp2;have ha6:=(((HA.out.set (i:=0) (by omega) (.bool sg)).set (i:=1) (by omega) (.slice o1 k1 c1)).set (i:=2) (by omega) (.bool false)).set (i:=3) (by omega) (.slice o2 k2 c2);refine zki (cs:=[.bool sg,.slice o1 k1 c1,.bool false,.slice o2 k2 c2]) rfl rfl g rfl l34 rfl ?_ ?_
 ·intro j v hj;match j,hj with
  | 0,hj=>cases hj;exact(ha6 0 (by omega)).1
  | 1,hj=>cases hj;exact(ha6 1 (by omega)).1
  | 2,hj=>cases hj;exact(ha6 2 (by omega)).1
  | 3,hj=>cases hj;exact(ha6 3 (by omega)).1
 ·have n:∀{v:Value} {x:Nat},NatI w4 v x→NatI ((((w4.setCell ⟨g,0,none⟩ (.bool sg)).setCell ⟨g,1,none⟩ (.slice o1 k1 c1)).setCell ⟨g,2,none⟩ (.bool false)).setCell ⟨g,3,none⟩ (.slice o2 k2 c2)) v x:=fun h=>
   (((h.setElem HE.out (by decide)).setElem (HE.out.setCell _ _) (by decide)).setElem ((HE.out.setCell _ _).setCell _ _) (by decide)).setElem (((HE.out.setCell _ _).setCell _ _).setCell _ _) (by decide)
  refine⟨_,rfl,⟨_,_,by rw [hsg],n H1.out,n H2.out⟩,(((HBW.out.setCell hgw _).setCell hgw _).setCell hgw _).setCell hgw _⟩
def envW(z:Int):Env:=⟨fun k=>if k=7 then 1 else z,fun _=>0⟩
def tW:TTab:=fun f ts=>
 bif Nat.beq f 22 then
  match ts with
  | .cons (.val (.sc (.int .i64 1))) .nil=>some (.cons (zs false (.leaf 7)) .nil)
  | _=>none
 else none
theorem zs6(z:Int):zcb Tryz.prog (GN (envW z)) tW:=by
 intro f ts rs q;unfold tW at q
 cases hf:Nat.beq f 22 with
 | false=>rw [hf]at q;cases q
 | true=>
  rw [hf]at q;have hf:=(zam _ _).1 hf;subst hf;refine⟨⟨_,Tryz.func22,rfl⟩,fun w xs hx => ?_⟩;simp only [cond_true]at q;split at q
  ·cases q
   obtain⟨v,r,e,h1,h4⟩:=hx;have h4:r = []:=h4;subst h4;have e':xs=#[v]:=Array.toList_inj.1 (by simpa using e);subst e';have h1:some (Value.int .i64 1)=some v:=h1
   cases h1
   refine(callsIn_wide.1 (zcf w 1 (by decide) (by decide))).mono ?_;rintro e w' ⟨v',rfl,hz,hb⟩;exact⟨v',rfl,zpn hz rfl rfl,hb⟩
  ·cases q
theorem zmg(w:World)(v:Value)(z:Int)(h:ZAt w v z) :
  CallsIn Fence.wide 0 Tryz.prog 21 #[v] w fun e w'=>∃v',e = .returned v'∧QAt w' v' (z:Rat)∧Below w.heap.size w w':=by
 refine(runZ (zs6 z) (n:=50) (r:=zqT (zc (.leaf 0)) (zs false (.leaf 7))) (ts:=.cons (zc (.leaf 0)) .nil) (by kernel_rfl) (xs:=#[v]) ⟨v,[],rfl,zc8 h rfl,rfl⟩).mono ?_;rintro e w' ⟨v',rfl,⟨xs,rfl,a,r,e1,h1,b,r2,rfl,h2,c,r3,rfl,h3,d,r4,rfl,h4,h5⟩,hB⟩;have h5:r4 = []:=h5;subst h5;have e':xs=#[a,b,c,d]:=Array.toList_inj.1 (by simpa using e1);subst e';have h3:some (Value.bool false)=some c:=h3
 cases h3
 have h1:a = .bool (decide (z<0)):=h1;subst h1;exact⟨_,rfl,⟨b,d,rfl,h2,h4⟩,hB⟩
theorem zaD{fn:Func}{p t:Tmp}{R:Ending→World→Prop}{a:Act}{w:World}{x y z x0 x1 x2 u:Value}(h:fn.results=#[.cell p 25,.tmp t])(hd:a.defers = [])(g:Nat)(hp:a.tmps.getD p undef = .pointer (some ⟨g,0,none⟩))(ht:a.tmps.getD t undef=u)
  (h0:w.cell? ⟨g,0,none⟩=some x0) (h1:w.cell? ⟨g,1,none⟩=some x1) (h2:w.cell? ⟨g,2,none⟩=some x2) (hR:R (.returned (.tuple #[.agg #[x,y,z],u])) (((w.setCell ⟨g,0,none⟩ x).setCell ⟨g,1,none⟩ y).setCell ⟨g,2,none⟩ z)) :
  bodyPost Tryz.prog fn R .ret a (((w.setCell ⟨g,0,none⟩ x).setCell ⟨g,1,none⟩ y).setCell ⟨g,2,none⟩ z):=by
 have n01:(⟨g,0,none⟩:Addr)≠⟨g,1,none⟩:=by intro e;injection e with _ e;omega
 have n02:(⟨g,0,none⟩:Addr)≠⟨g,2,none⟩:=by intro e;injection e with _ e;omega
 have n12:(⟨g,1,none⟩:Addr)≠⟨g,2,none⟩:=by intro e;injection e with _ e;omega
 have c0:(((w.setCell ⟨g,0,none⟩ x).setCell ⟨g,1,none⟩ y).setCell ⟨g,2,none⟩ z).cell? ⟨g,0,none⟩=some x:=by
  rw [World.cell?_setCell_other _ _ _ _ n02.symm,World.cell?_setCell_other _ _ _ _ n01.symm,World.cell?_setCell_same _ _ _ h0]
 have c1:(((w.setCell ⟨g,0,none⟩ x).setCell ⟨g,1,none⟩ y).setCell ⟨g,2,none⟩ z).cell? ⟨g,1,none⟩=some y:=by
  rw [World.cell?_setCell_other _ _ _ _ n12.symm,World.cell?_setCell_same _ _ _ (by rw [World.cell?_setCell_other _ _ _ _ n01];exact h1)]
 have c2:(((w.setCell ⟨g,0,none⟩ x).setCell ⟨g,1,none⟩ y).setCell ⟨g,2,none⟩ z).cell? ⟨g,2,none⟩=some z:=by
  rw [World.cell?_setCell_same _ _ _ (by rw [World.cell?_setCell_other _ _ _ _ n12,World.cell?_setCell_other _ _ _ _ n02];exact h2)]
 refine bodyPost_ret ?_ hd hR;have hl:=l25 g [x,y,z] (((w.setCell ⟨g,0,none⟩ x).setCell ⟨g,1,none⟩ y).setCell ⟨g,2,none⟩ z) rfl (fun j v hj=>by
  match j,hj with
  | 0,hj=>rw [←hj];exact c0
  | 1,hj=>rw [←hj];exact c1
  | 2,hj=>rw [←hj];exact c2
  | n+3,hj=>simp at hj)
 simp only [Instr.loadAt,Instr.sureAddr,Sem.run_bind,Sem.run_pure,Result.andThen_ok]at hl;have hp':a.tmps[p]?.getD undef = .pointer (some ⟨g,0,none⟩):=by rw [←Array.getD_eq_getD_getElem?];exact hp
 have ht':a.tmps[t]?.getD undef=u:=by rw [←Array.getD_eq_getD_getElem?];exact ht
 simp [results,h,hp',ht',asAddr,hl]
theorem zaL(w:World):zao w (.agg #[.bool false,.slice none 0 0,.slice none 0 0]) 0:=⟨_,_,rfl,zde _ _ _,zde _ _ _⟩
def ztD(w:World):Prop:=∀w',Below w.heap.size w w'→CallsIn Fence.wide 0 Tryz.prog 14 #[] w' fun e w''=>e = .returned (.bool true)∧Below w'.heap.size w' w''
def zts(R:Act→World→Prop):Exit→Act→World→Prop
 | .normal,a,w=>R a w
 | _,_,_=>False
theorem zli{F:Fence}{n:Nat}{P:Program}{c:Code}{Q:Exit→Act→World→Prop}{a:Act}{w:World}(R:Act→World→Prop)(h:∀a' w',R a' w'→Q .normal a' w')(hr:c.wpIn F n P (zts R) a w):c.wpIn F n P Q a w:=
 wpIn_mono hr fun e a w hh=>by
  cases e with
  | normal=>exact h a w hh
  | _=>exact hh.elim
theorem zoG:zfn 0=⟨#[48]⟩:=by
 rw [zfP rfl];exact zjk
end Go.Num
namespace Go.Num
open Go.Eng Go.Shelf Go.RowKit Go.Proofs Go.Proofs.YtoamcgjbelhnkaaGreatDoor
structure Laid(w:World):Prop where
 pow:zaU w
 len:∃m,w.cell? ⟨0,0,none⟩=some (.int .i64 m)
theorem Laid.below{w w':World}(h:Laid w)(hb:Below w.heap.size w w'):Laid w':=by
 obtain⟨h1,m,h2⟩:=h;exact⟨h1.below hb,m,(hb.cell (World.block_lt_of_cell? _ _ h2)).trans h2⟩
def zfr:List Nat→Nat
 | []=>0
 | d :: r=>d+B*zfr r
def zkB:AV→Option (List Nat)
 | .nil=>some []
 | .cons (.sc (.int .u64 (.ofNat n))) t=>(zkB t).map (n :: ·)
 | _=>none
def zds:List Nat→Bool
 | []=>true
 | [d]=>Nat.blt d 1000000000 && Nat.blt 0 d
 | d :: r=>Nat.blt d 1000000000 && zds r
theorem bltN_lt{a b:Nat}(h:Nat.blt a b=true):a<b:=Nat.le_of_ble_eq_true h
theorem zgy:∀{l:List Nat},zds l=true→∀d∈l,d<B
 | [],_,d,h=>by cases h
 | [x],h,d,hd=>by
  simp only [zds,Bool.and_eq_true]at h;have:=bltN_lt h.1;rcases List.mem_cons.1 hd with rfl|hd
  ·exact this
  ·cases hd
 | x :: y :: r,h,d,hd=>by
  simp only [zds,Bool.and_eq_true]at h;have:=bltN_lt h.1;rcases List.mem_cons.1 hd with rfl|hd
  ·exact this
  ·exact zgy h.2 d hd
theorem zjD:∀{l:List Nat},(∀d∈l,d<B)→∀(i d:Nat),l[i]? = some d→limb (zfr l) i=d
 | [],_,i,d,h=>by simp at h
 | x :: r,hl,0,d,h=>by
  have h:x=d:=by simpa using h
  subst h;have hx:=hl x (List.mem_cons_self);unfold limb zfr;rw [Nat.pow_zero,Nat.div_one,Nat.add_mul_mod_self_left,Nat.mod_eq_of_lt hx]
 | x :: r,hl,i+1,d,h=>by
  have hx:=hl x (List.mem_cons_self);have ih:=zjD (l:=r) (fun d hd=>hl d (List.mem_cons_of_mem _ hd)) i d (by simpa using h);rw [←ih];unfold limb;congr 1
  show(x+B*zfr r)/B^(i+1)=zfr r/B^i
  rw [Nat.pow_succ,Nat.mul_comm (B^i),←Nat.div_div_eq_div_mul,Nat.add_mul_div_left _ _ (by decide),Nat.div_eq_of_lt hx,Nat.zero_add]
theorem zkt:∀{l:List Nat},(∀d∈l,d<B)→zfr l<B^l.length
 | [],_=>by decide
 | x :: r,hl=>by
  have hx:=hl x (List.mem_cons_self);have ih:=zkt (l:=r) (fun d hd=>hl d (List.mem_cons_of_mem _ hd));show x+B*zfr r<B^(r.length+1)
  have h2:B*(zfr r+1)≤B*B^r.length:=Nat.mul_le_mul_left _ ih;rw [Nat.mul_add,Nat.mul_one]at h2;rw [Nat.pow_succ,Nat.mul_comm (B^r.length) B];omega
theorem zh3:∀{l:List Nat},zds l=true→l ≠ []→B^(l.length-1)≤zfr l
 | [],_,h=>absurd rfl h
 | [x],h,_=>by
  simp only [zds,Bool.and_eq_true]at h;have:=bltN_lt h.2;show B^0≤x+B*0
  rw [Nat.pow_zero];omega
 | x :: y :: r,h,_=>by
  simp only [zds,Bool.and_eq_true]at h;have ih:=zh3 (l:=y :: r) h.2 (by simp);show B^(r.length+1)≤x+B*zfr (y :: r)
  have ih:B^r.length≤zfr (y :: r):=ih;have:=Nat.mul_le_mul_left B ih;rw [Nat.pow_succ,Nat.mul_comm];omega
theorem zmL{l:List Nat}(h:zds l=true):zcm (zfr l) l.length:=by
 refine⟨zkt (zgy h),?_⟩;by_cases e:l = []
 ·subst e;exact .inl rfl
 ·exact .inr (zh3 h e)
theorem zjG{μ:Mu}:∀{cs:AV} {l:List Nat} {xs:List Value},zkB cs=some l→LR μ cs xs→xs=l.map fun (d:Nat)=>Value.int .u64 (d:Int)
 | .nil,l,xs,h,hx=>by
  have h:some []=some l:=h
  cases h
  have hx:xs = []:=hx;rw [hx];rfl
 | .cons (.sc (.int .u64 (.ofNat n))) t,l,xs,h,hx=>by
  simp only [zkB,Option.map_eq_some_iff]at h;obtain⟨r,h1,rfl⟩:=h;obtain⟨x,ys,rfl,h2,h3⟩:=hx;have h2:x = .int .u64 (n:Int):=h2;rw [h2,zjG h1 h3];rfl
def decF:Nat→Nat→List UInt8→List UInt8
 | 0,_,acc=>acc
 | f+1,n,acc=>bif Nat.blt n 10 then UInt8.ofNat (48+n) :: acc else decF f (n/10) (UInt8.ofNat (48+n%10) :: acc)
theorem zqM:∀(f n:Nat) (acc:List UInt8),n<10^f→0<f→decF f n acc=Lib.decDigits n ++ acc
 | 0,n,acc,_,h=>by omega
 | f+1,n,acc,h,_=>by
  unfold decF
  cases e:Nat.blt n 10 with
  | true=>
   have:=bltN_lt e;rw [Lib.decDigits,dif_pos this];rfl
  | false=>
   have hn:¬n<10:=by
    intro h';have:Nat.blt n 10=true:=Nat.ble_eq_true_of_le h';rw [e]at this;cases this
   have hf:0<f:=by
    rcases Nat.eq_zero_or_pos f with h0|h0
    ·subst h0;simp at h;omega
    ·exact h0
   rw [cond_false,zqM f (n/10) _ (by rw [Nat.pow_succ]at h;omega) hf,Lib.decDigits.eq_def n,dif_neg hn,List.append_assoc];rfl
theorem zr3{n k f:Nat}(h:n<B^k)(hf:9*k≤f)(h0:0<f):decF f n []=Lib.decDigits n:=by
 rw [zqM f n [] (Nat.lt_of_lt_of_le (by rw [←pow9];exact h) (Nat.pow_le_pow_right (by decide) hf)) h0,List.append_nil]
def strA(l:List UInt8):AV:=.sc (.str ⟨⟨l⟩⟩)
def O59(args:AV):Option AV:=
 match args with
 | .cons (.sc (.str s)) (.cons (.sc (.str p)) .nil)=>bif Nat.blt s.data.toList.length 4000000000 then
   some (.tup (.cons (strA (Lib.cut s.data.toList p.data.toList).1) (.cons (strA (Lib.cut s.data.toList p.data.toList).2.1) (.cons (.sc (.bool (Lib.cut s.data.toList p.data.toList).2.2)) .nil))))else none
 | _=>none
def O60(args:AV):Option AV:=
 match args with
 | .cons (.sc (.str s)) (.cons (.sc (.str p)) .nil)=>some (.tup (.cons (strA (Lib.trimPrefix s.data.toList p.data.toList)) (.cons (.sc (.bool (Lib.hasPrefix s.data.toList p.data.toList))) .nil)))
 | _=>none
def O105(args:AV):Option AV:=
 match args with
 | .cons (.sc (.str s)) (.cons (.sc (.str ⟨⟨[c]⟩⟩)) .nil)=>bif Nat.blt s.data.toList.length 4000000000 && Nat.blt c.toNat 128 then some (strA (Lib.trimB s.data.toList c))else none
 | _=>none
def O106(args:AV):Option AV:=
 match args with
 | .cons (.sc (.str s)) r=>bif Nat.blt s.data.toList.length 4000000000 && r.beq (.cons (.sc (.int .i64 10)) (.cons (.sc (.int .i64 64)) .nil))then
   match Lib.parseUintB 64 s.data.toList with
   | .ok u=>some (.tup (.cons (.sc (.int .u64 (u:Int))) (.cons (.sc .nilIface) .nil)))
   | _=>none
  else none
 | _=>none
def O71(args:AV)(H:AH):Option AV:=
 match args with
 | .cons (.sc .nilSlice) .nil=>some (strA [48])
 | .cons (.slc i o len _ _ e) .nil=>bif Nat.beq e 1 then
   match H.cellsAt i o len with
   | some cs=>match zkB cs with
    | some l=>bif zds l && Nat.ble l.length 1000 then some (strA (decF 9000 (zfr l) []))else none
    | none=>none
   | none=>none
  else none
 | _=>none
def OA(f:FuncId)(args:AV)(H:AH):Option (AV × AH):=
 (bif Nat.beq f 59 then O59 args else bif Nat.beq f 60 then O60 args else bif Nat.beq f 105 then O105 args else bif Nat.beq f 106 then O106 args else bif Nat.beq f 71 then O71 args H else none).map fun v=>(v,H)
theorem zg9(w:World)(s:ByteArray):Below w.heap.size w (Lib.bytesWorld w 5 s):=
 ⟨rfl,rfl,rfl,by rw [Lib.bytesWorld_size];omega,fun k hk=>Lib.bytesWorld_at_old w 5 s k hk⟩
theorem zeb{f:FuncId}(h:(match Tryz.prog.funcs[f]? with|some fn=>fn.body.isSome|none=>false)=true):∃fn:Func,Tryz.prog.funcs[f]? = some fn∧fn.body.isSome=true:=by
 split at h
 ·rename_i fn e;exact⟨fn,e,h⟩
 ·cases h
theorem zmK{μ:Mu}{a:AV}{xs:List Value}(h:LR μ (.cons a .nil) xs):∃x,xs = [x]∧VR μ a x:=by
 obtain⟨x,r,rfl,h1,h2⟩:=h;have h2:r = []:=h2;subst h2;exact⟨x,rfl,h1⟩
theorem zj8{μ:Mu}{a b:AV}{xs:List Value}(h:LR μ (.cons a (.cons b .nil)) xs):∃x y,xs = [x,y]∧VR μ a x∧VR μ b y:=by
 obtain⟨x,r,rfl,h1,h2⟩:=h;obtain⟨y,rfl,h3⟩:=zmK h2;exact⟨x,y,rfl,h1,h3⟩
theorem zj0{xs:Array Value}{l:List Value}(h:xs.toList=l):xs=l.toArray:=Array.toList_inj.1 (by simpa using h)
theorem zns{μ:Mu}{cs:AV}{l:List Value}(h:LR μ cs l):VR μ (.tup cs) (.tuple l.toArray):=⟨l.toArray,rfl,h⟩
theorem zs7{w0:World}{G:Sett}(hL:Laid w0):zgR Tryz.prog w0.heap.size w0 G OA:=by
 refine zsw ?_;intro f args H v H' ho;unfold OA at ho;rw [Option.map_eq_some_iff]at ho;obtain⟨v',ho,e⟩:=ho
 cases e
 cases h59:Nat.beq f 59 with
 | true=>
  rw [h59]at ho;have hf:=(zam _ _).1 h59;subst hf;refine⟨zeb (by kernel_rfl),rfl,?_⟩;intro μ w xs hrep hxs;simp only [cond_true]at ho;unfold O59 at ho;split at ho
  ·rename_i s p
   cases hb:Nat.blt s.data.toList.length 4000000000 with
   | false=>rw [hb]at ho;cases ho
   | true=>
    rw [hb]at ho
    cases ho
    have hsz:=bltN_lt hb;obtain⟨x,y,e,h1,h2⟩:=zj8 hxs;have h1:x = .string s:=h1;have h2:y = .string p:=h2;subst h1;subst h2;rw [zj0 e];obtain⟨m,hm⟩:=(hL.below hrep.below).len;refine(Tryz.strings_Cut s p m w (by rw [Lib.size_eq];omega) hm).mono ?_;rintro e w' ⟨rfl,n,rfl⟩;exact⟨_,rfl,zns (LR.cons rfl (LR.cons rfl (LR.cons rfl LR.nil))),zbi _ _⟩
  ·cases ho
 | false=>
 rw [h59]at ho;simp only [cond_false]at ho
 cases h60:Nat.beq f 60 with
 | true=>
  rw [h60]at ho;have hf:=(zam _ _).1 h60;subst hf;refine⟨zeb (by kernel_rfl),rfl,?_⟩;intro μ w xs hrep hxs;simp only [cond_true]at ho;unfold O60 at ho;split at ho
  ·rename_i s p
   cases ho
   obtain⟨x,y,e,h1,h2⟩:=zj8 hxs;have h1:x = .string s:=h1;have h2:y = .string p:=h2;subst h1;subst h2;rw [zj0 e];refine(Tryz.strings_CutPrefix s p w).mono ?_;rintro e w' ⟨rfl,rfl⟩;exact⟨_,rfl,zns (LR.cons rfl (LR.cons rfl LR.nil)),Below.refl _ _⟩
  ·cases ho
 | false=>
 rw [h60]at ho;simp only [cond_false]at ho
 cases h105:Nat.beq f 105 with
 | true=>
  rw [h105]at ho;have hf:=(zam _ _).1 h105;subst hf;refine⟨zeb (by kernel_rfl),rfl,?_⟩;intro μ w xs hrep hxs;simp only [cond_true]at ho;unfold O105 at ho;split at ho
  ·rename_i s c
   cases hb:Nat.blt s.data.toList.length 4000000000 && Nat.blt c.toNat 128 with
   | false=>rw [hb]at ho;cases ho
   | true=>
    rw [hb]at ho
    cases ho
    rw [Bool.and_eq_true]at hb;have hsz:=bltN_lt hb.1;have hc:=bltN_lt hb.2;obtain⟨x,y,e,h1,h2⟩:=zj8 hxs;have h1:x = .string s:=h1;have h2:y = .string ⟨⟨[c]⟩⟩:=h2;subst h1;subst h2;rw [zj0 e];refine(Tryz.strings_Trim_one s c hc w (by rw [Lib.size_eq];omega)).mono ?_;rintro e w' ⟨rfl,rfl|rfl⟩
    ·exact⟨_,rfl,rfl,Below.refl _ _⟩
    ·exact⟨_,rfl,rfl,zab _⟩
  ·cases ho
 | false=>
 rw [h105]at ho;simp only [cond_false]at ho
 cases h106:Nat.beq f 106 with
 | true=>
  rw [h106]at ho;have hf:=(zam _ _).1 h106;subst hf;refine⟨zeb (by kernel_rfl),rfl,?_⟩;intro μ w xs hrep hxs;simp only [cond_true]at ho;unfold O106 at ho;split at ho
  ·rename_i s r
   cases hb:Nat.blt s.data.toList.length 4000000000 && r.beq (.cons (.sc (.int .i64 10)) (.cons (.sc (.int .i64 64)) .nil))with
   | false=>rw [hb]at ho;cases ho
   | true=>
    rw [hb]at ho;simp only [cond_true]at ho;rw [Bool.and_eq_true]at hb;have hsz:=bltN_lt hb.1;have hr:=AV.beq_eq hb.2;subst hr;split at ho
    ·rename_i u hu
     cases ho
     obtain⟨x,ys,e,h1,h2⟩:=hxs;obtain⟨y,z,rfl,h3,h4⟩:=zj8 h2;have h1:x = .string s:=h1;have h3:y = .int .i64 10:=h3;have h4:z = .int .i64 64:=h4;subst h1;subst h3;subst h4;rw [zj0 e];refine(Tryz.strconv_ParseUint_10_at64_ok s (by rw [Lib.size_eq];omega) u hu w).mono ?_;rintro e w' ⟨rfl,rfl|rfl⟩
     ·exact⟨_,rfl,zns (LR.cons rfl (LR.cons rfl LR.nil)),Below.refl _ _⟩
     ·exact⟨_,rfl,zns (LR.cons rfl (LR.cons rfl LR.nil)),zg9 _ _⟩
    ·cases ho
  ·cases ho
 | false=>
 rw [h106]at ho;simp only [cond_false]at ho
 cases h71:Nat.beq f 71 with
 | false=>rw [h71]at ho;cases ho
 | true=>
  rw [h71]at ho;have hf:=(zam _ _).1 h71;subst hf;refine⟨zeb (by kernel_rfl),rfl,?_⟩;intro μ w xs hrep hxs;simp only [cond_true]at ho;unfold O71 at ho;have hP:=(hL.below hrep.below).pow;split at ho
  ·cases ho
   obtain⟨x,e,h1⟩:=zmK hxs;have h1:x = .slice none 0 0:=h1;subst h1;rw [zj0 e];refine(callsIn_wide.1 (zeD w _ 0 0 zbz ⟨none,0,rfl,fun h=>by omega⟩ (zau 100000) hP)).mono ?_;rintro e w' ⟨rfl,hB⟩;refine⟨_,rfl,?_,hB⟩;show _=Value.string _
   rw [Lib.decDigits,dif_pos (by decide)];rfl
  ·rename_i i o len cm ex e
   cases hb:Nat.beq e 1 with
   | false=>rw [hb]at ho;cases ho
   | true=>
    rw [hb]at ho;simp only [cond_true]at ho;have he:=(zam _ _).1 hb;subst he;split at ho
    ·rename_i cs hcs;split at ho
     ·rename_i l hl
      cases hb:zds l && Nat.ble l.length 1000 with
      | false=>rw [hb]at ho;cases ho
      | true=>
       rw [hb]at ho
       cases ho
       rw [Bool.and_eq_true]at hb;have hlen:=Nat.le_of_ble_eq_true hb.2;obtain⟨x,e,b,N,c,hm,rfl,_,_,_,_⟩:=zmK hxs;rw [zj0 e];obtain⟨xs2,h1,h2,h3⟩:=hrep.load hcs hm;have hxl:=zjG hl h2;have hll:l.length=len:=by rw [←h1,hxl,List.length_map]
       have hlt:=zgy hb.1;have hN:zfr l<B^1000:=zaX 1000 (zkt hlt) hlen;refine(callsIn_wide.1 (zeD w _ (zfr l) len (hll ▸ zmL hb.1) ⟨_,c,rfl,fun hk=>⟨⟨b,o,none⟩,rfl,(hrep.dom i b N hm).2,fun j hj => ?_⟩⟩ (zaX 100000 hN (by decide)) hP)).mono ?_
       ·obtain⟨d,hd⟩:∃d,l[j]? = some d:=⟨_,List.getElem?_eq_getElem (by omega)⟩;rw [zjD hlt j d hd];exact h3 j _ (by rw [hxl,List.getElem?_map,hd];rfl)
       ·rintro e w' ⟨rfl,hB⟩;refine⟨_,rfl,?_,hB⟩;show _=Value.string _
        rw [zr3 (k:=1000) hN (by decide) (by decide)]
     ·cases ho
    ·cases ho
  ·cases ho
theorem zhG:zeh Tryz.prog 109:=by
 refine⟨zeb (by kernel_rfl),fun args w => ?_⟩;refine CallsDIn.mono (callsDIn_of_wpSIn (R:=fun e u' w'=>e = .returned (.tuple #[])∧u' = .returning∧w'=w) Tryz.func109 rfl trivial fun c₀ cs hu => ?_) ?_
 ·obtain⟨T,hT⟩:∃T,args ++ Array.replicate (Tryz.f109.ntmps-args.size) undef=T:=⟨_,rfl⟩;have hsz:18≤T.size:=by
   rw [←hT];have:Tryz.f109.ntmps=18:=rfl;rw [this];simp
   omega
  rw [hT];clear hT;apply wpSIn_seq
  apply wpSIn_region
  have s6:6<T.size:=by omega
  have s2:2<T.size:=by omega
  have s7:7<T.size:=by omega
  have s8:8<T.size:=by omega
  simp [wpOpsSIn,go_sem,recoverD,hu,Exit.thenS,s6]
  apply wpSIn_seq
  apply wpSIn_region
  simp [wpOpsSIn,go_sem,Exit.thenS,s2,s7]
  refine wpSIn_cond (t:=false) (by simp [Act.eval,s8]) ?_;simp only [Bool.false_eq_true,if_false];refine wpSIn_of_wpIn rfl (wpIn_skip ?_)
  cases c₀
  simp_all [bodyPostS,results]
 ·rintro e u' w' ⟨rfl,rfl,rfl⟩;exact⟨⟨_,rfl⟩,rfl,rfl,Below.refl _ _⟩
theorem zlb:zeh Tryz.prog 120:=by
 refine⟨zeb (by kernel_rfl),fun args w => ?_⟩;refine CallsDIn.mono (callsDIn_of_wpSIn (R:=fun e u' w'=>e = .returned (.tuple #[])∧u' = .returning∧w'=w) Tryz.func120 rfl trivial fun c₀ cs hu => ?_) ?_
 ·obtain⟨T,hT⟩:∃T,args ++ Array.replicate (Tryz.f120.ntmps-args.size) undef=T:=⟨_,rfl⟩;have hsz:18≤T.size:=by
   rw [←hT];have:Tryz.f120.ntmps=18:=rfl;rw [this];simp
   omega
  rw [hT];clear hT;apply wpSIn_seq
  apply wpSIn_region
  have s6:6<T.size:=by omega
  have s2:2<T.size:=by omega
  have s7:7<T.size:=by omega
  have s8:8<T.size:=by omega
  simp [wpOpsSIn,go_sem,recoverD,hu,Exit.thenS,s6]
  apply wpSIn_seq
  apply wpSIn_region
  simp [wpOpsSIn,go_sem,Exit.thenS,s2,s7]
  refine wpSIn_cond (t:=false) (by simp [Act.eval,s8]) ?_;simp only [Bool.false_eq_true,if_false];refine wpSIn_of_wpIn rfl (wpIn_skip ?_)
  cases c₀
  simp_all [bodyPostS,results]
 ·rintro e u' w' ⟨rfl,rfl,rfl⟩;exact⟨⟨_,rfl⟩,rfl,rfl,Below.refl _ _⟩
theorem zpQ:zeh Tryz.prog 125:=by
 refine⟨zeb (by kernel_rfl),fun args w => ?_⟩;refine CallsDIn.mono (callsDIn_of_wpSIn (R:=fun e u' w'=>e = .returned (.tuple #[])∧u' = .returning∧w'=w) Tryz.func125 rfl trivial fun c₀ cs hu => ?_) ?_
 ·obtain⟨T,hT⟩:∃T,args ++ Array.replicate (Tryz.f125.ntmps-args.size) undef=T:=⟨_,rfl⟩;have hsz:18≤T.size:=by
   rw [←hT];have:Tryz.f125.ntmps=18:=rfl;rw [this];simp
   omega
  rw [hT];clear hT;apply wpSIn_seq
  apply wpSIn_region
  have s6:6<T.size:=by omega
  have s2:2<T.size:=by omega
  have s7:7<T.size:=by omega
  have s8:8<T.size:=by omega
  simp [wpOpsSIn,go_sem,recoverD,hu,Exit.thenS,s6]
  apply wpSIn_seq
  apply wpSIn_region
  simp [wpOpsSIn,go_sem,Exit.thenS,s2,s7]
  refine wpSIn_cond (t:=false) (by simp [Act.eval,s8]) ?_;simp only [Bool.false_eq_true,if_false];refine wpSIn_of_wpIn rfl (wpIn_skip ?_)
  cases c₀
  simp_all [bodyPostS,results]
 ·rintro e u' w' ⟨rfl,rfl,rfl⟩;exact⟨⟨_,rfl⟩,rfl,rfl,Below.refl _ _⟩
theorem zla:zeh Tryz.prog 137:=by
 refine⟨zeb (by kernel_rfl),fun args w => ?_⟩;refine CallsDIn.mono (callsDIn_of_wpSIn (R:=fun e u' w'=>e = .returned (.tuple #[])∧u' = .returning∧w'=w) Tryz.func137 rfl trivial fun c₀ cs hu => ?_) ?_
 ·obtain⟨T,hT⟩:∃T,args ++ Array.replicate (Tryz.f137.ntmps-args.size) undef=T:=⟨_,rfl⟩;have hsz:18≤T.size:=by
   rw [←hT];have:Tryz.f137.ntmps=18:=rfl;rw [this];simp
   omega
  rw [hT];clear hT;apply wpSIn_seq
  apply wpSIn_region
  have s6:6<T.size:=by omega
  have s2:2<T.size:=by omega
  have s7:7<T.size:=by omega
  have s8:8<T.size:=by omega
  simp [wpOpsSIn,go_sem,recoverD,hu,Exit.thenS,s6]
  apply wpSIn_seq
  apply wpSIn_region
  simp [wpOpsSIn,go_sem,Exit.thenS,s2,s7]
  refine wpSIn_cond (t:=false) (by simp [Act.eval,s8]) ?_;simp only [Bool.false_eq_true,if_false];refine wpSIn_of_wpIn rfl (wpIn_skip ?_)
  cases c₀
  simp_all [bodyPostS,results]
 ·rintro e u' w' ⟨rfl,rfl,rfl⟩;exact⟨⟨_,rfl⟩,rfl,rfl,Below.refl _ _⟩
def zqw:Option (AV × AH)→Bool
 | some (.sc (.bool true),_)=>true
 | _=>false
theorem zq2:zqw ((cb Tryz.prog [] OA [109,120,125,137] 3000).call 14 .nil (bare []))=true:=by kernel_rfl
theorem zqv{r:Option (AV × AH)}(h:zqw r=true):∃H,r=some (.sc (.bool true),H):=by
 unfold zqw at h;split at h
 ·exact⟨_,rfl⟩
 ·cases h
theorem zpP:∀g ∈ [109,120,125,137],zeh Tryz.prog g:=by
 intro g hg;simp at hg
 rcases hg with rfl|rfl|rfl|rfl
 ·exact zhG
 ·exact zlb
 ·exact zpQ
 ·exact zla
theorem znj{w:World}(h:Laid w):Calls Tryz.prog 14 #[] w fun e w'=>e = .returned (.bool true)∧Below w.heap.size w w':=by
 obtain⟨H',hr⟩:=zqv zq2;refine(zeR (G:=ztg) zaz zai (zs7 h) zpP hr (zow rfl w) (by rfl)).mono ?_;rintro e w' ⟨x,μ',rfl,_,hx,hrep⟩;have hx':x = .bool true:=hx;exact⟨by rw [hx'],hrep.below⟩
theorem zjY{w:World}(h:Laid w):ztD w:=fun _w' hb=>callsIn_wide.2 (znj (h.below hb))
end Go.Num
namespace Go.Num
open Go.ChangeShapes Go.WideShapes Go.ChangeAt Go.RowKit Go.Eng Go.Proofs Go.Proofs.YtoamcgjbelhnkaaGreatDoor
section
variable {H:Type} {enc:TypeId × Value→H} {P:Program}
theorem zkm{f:Func}{s:ChangeSpec}{apart fresh handsOn again:Bool}{W W':World}{args:Array Value}{v:Value}{ds gs:List (DataW H)}{before pa pv:List MemPlace}
  (hW:DataW.Whole enc P f.params.toList s.vars apart W args.toList ds gs before)
  (hres:∀(b:Nat) (sp:Nat→Bool) (hd:Bool),DataW.TrodAll enc P W' b sp hd f.resultTypes.toList (v.resultList f.resultTypes.size) (s.fn H (ds ++ gs)).results [])
  (hargs:∀sp:Nat→Bool,(∀p∈before,sp p.block=true)→DataW.TrodAll enc P W' 0 sp true f.params.toList args.toList (s.fn H (ds ++ gs)).args pa)
  (hvars:∀sp:Nat→Bool,(∀p∈before,sp p.block=true)→DataW.TrodVars enc P W' sp s.vars (s.fn H (ds ++ gs)).vars pv)
  (hps:before=pa ++ pv) (hb:Below W.heap.size W W')
  (hok:∀(j:Nat) (t:TypeId) (r:Value),f.resultTypes[j]? = some t→(v.resultList f.resultTypes.size)[j]? = some r→Value.okWide P W' .any 0 t r) :
  s.post enc P f apart fresh handsOn again W args v W':=by
 have hold:∀p∈before,(fun b=>decide (b<W.heap.size)) p.block=true:=fun p hp=>by simpa using hW.lt p hp
 have hlt:=hW.lt;refine⟨ds,gs,before,[],pa,pv,hW,hres _ _ _,hargs _ hold,hvars _ hold,World.keptBut_mono (fun p hp=>⟨hp,?_⟩) (hb.frame (· ∈ before)),fun _ => ?_⟩
 ·rw [hps,List.mem_append]at hp;exact Or.inr hp
 ·obtain⟨_,_,_,_,_,hz,hn⟩:=hW;refine⟨hok,_,_,([] ++ pa) ++ pv,⟨[] ++ pa,pv,trodAll_append (hargs _ (fun _ _=>rfl)) (hres _ _ _),hvars _ (fun _ _=>rfl),rfl,?_,?_⟩,?_⟩
  ·intro b off hp;have hp':MemPlace.cell b off∈before:=by rw [hps];simpa using hp
   rw [hb.frozen (hlt _ hp')];exact hz b off hp'
  ·intro ha;have:=hn ha;rw [hps]at this;simpa using this
  ·intro p hp _;rw [hps];simpa using hp
end
theorem own:ownKnob Tryz.prog.godebug=none:=by kernel_rfl
theorem zsN:laidOutB Tryz.prog=true:=by kernel_rfl
theorem gPow:Tryz.prog.globalNamed "internal/strconv.uint64pow10" = some 3:=by kernel_rfl
theorem ztA:(Tryz.prog.globals[3]?).map (·.type)=some 226:=by kernel_rfl
theorem u226:Tryz.prog.underlying 226=some (.array 20 111):=by kernel_rfl
theorem u111:Tryz.prog.underlying 111=some (.int .u64):=by kernel_rfl
theorem zr7:Tryz.prog.cellsOf 111=1:=by kernel_rfl
theorem zr6:Tryz.prog.cellsOf 226=20:=by kernel_rfl
theorem zsL{l:List (String × DataW Unit)}{a b:String × DataW Unit}{r:List (String × DataW Unit)}{W:World}(e:l=a :: b :: ("internal/strconv.uint64pow10",Lib.tabData .u64 Lib.pow10Tab) :: r)(hf:(l.filter fun x=>x.2.handleName?.isSome) = [])(h:laidMetH Tryz.prog l W)(hs:W.ShapedOpen Tryz.prog):Laid W:=by
 unfold laidMetH at h;rw [hf]at h;have h:laidMet Tryz.prog l W:=h;rw [e]at h;exact⟨Lib.tabIs_of_head gPow ztA u226 u111 zr7 zr6 h.tail.tail,Tryz.laysM219.s1_3 W hs⟩
theorem zl3{H:Type}{enc:TypeId × Value→H}{W W':World}{sp:Nat→Bool}(hl:laidOutB Tryz.prog=true):∀{ts:List TypeId} {vs:List Value} {ds:List (DataW H)} {ps:List MemPlace},
  (∀t∈ts,Tryz.prog.readableRec t=true∧t<Tryz.prog.types.size)→DataW.TrodAll enc Tryz.prog W 0 (fun _=>true) true ts vs ds ps→(∀p∈ps,W.sameAt W' p)→(∀p∈ps,sp p.block=true)→DataW.TrodAll enc Tryz.prog W' 0 sp true ts vs ds ps
 | [],vs,ds,ps,_,h,_,_=>by
  obtain⟨rfl,rfl,rfl⟩:=trodAll_nil h;exact trodAll_mk0
 | t :: ts,vs,ds,ps,hr,h,h1,h2=>by
  obtain⟨v,vs',d,ds',p,q,rfl,rfl,rfl,hd,hrest⟩:=trodAll_cons h;exact⟨p,q,WideElems.Trod_stays hl (hr t (by simp)).1 (hr t (by simp)).2 hd (fun x hx=>h1 x (by simp [hx])) (fun x hx=>h2 x (by simp [hx])),
   zl3 hl (fun t' ht'=>hr t' (by simp [ht'])) hrest (fun x hx=>h1 x (by simp [hx])) (fun x hx=>h2 x (by simp [hx])),rfl⟩
def db64:List Int:=[0,1,56,2,57,49,28,3,61,58,42,50,38,29,17,4,62,47,59,36,45,43,51,22,53,39,33,30,24,18,12,5,63,55,48,27,60,41,37,16,46,35,44,21,52,32,23,11,54,26,40,15,34,20,31,10,25,14,19,9,13,8,7,6]
def db32:List Int:=[0,1,28,2,29,14,24,3,30,22,20,15,25,17,4,8,31,27,13,23,21,19,16,7,26,12,18,6,11,5,10,9]
def ztC:List Nat:=[128,191,160,191,128,159,144,191,128,143] ++ List.replicate 22 0
noncomputable def zd7(cs:Array Value):Obj→Obj
 | .cells _ t frozen => .cells cs t frozen
 | o=>o
noncomputable def zic(os:Os):World:=
 let w:=World.holding Tryz.prog os ⟨#[],#[],[]⟩
 let i:=w.heap.size
 let w:=(w.alloc (.cells #[.string ⟨#[105,110,118,97,108,105,100,32,115,121,110,116,97,120]⟩] 238)).alloc (.cells #[.string ⟨#[118,97,108,117,101,32,111,117,116,32,111,102,32,114,97,110,103,101]⟩] 238)
 {w with heap:=(((((((w.heap.modify 1 (zd7 #[.iface 236 (.pointer (some ⟨i,0,none⟩))])).modify 2 (zd7 #[.iface 236 (.pointer (some ⟨i+1,0,none⟩))])).modify 3 (zd7 (Lib.pow10Tab.map (Value.int .u64)).toArray)).modify 4 (zd7 (Pinned.utf8FirstZ.map fun (n:Nat)=>Value.int .u8 (n:Int)).toArray)).modify 5 (zd7 (ztC.map fun (n:Nat)=>Value.int .u8 (n:Int)).toArray)).modify 6 (zd7 (db32.map (Value.int .u8)).toArray)).modify 7 (zd7 (db64.map (Value.int .u8)).toArray))}
end Go.Num
namespace Go.Num
open Go.Lib
def za0(b:UInt8):Bool:=decide (48≤b.toNat∧b.toNat≤57)
def zad(l:List UInt8):Nat:=l.foldl (fun a b=>10*a+(b.toNat-48)) 0
theorem zqE(l:List UInt8):∀a:Nat,l.foldl (fun a b=>10*a+(b.toNat-48)) a=a*10^l.length+zad l:=by
 induction l with
 | nil=>intro a;simp [zad]
 | cons b r ih=>
  intro a;show r.foldl _ (10*a+(b.toNat-48))=_
  have e:zad (b :: r)=(b.toNat-48)*10^r.length+zad r:=by
   show r.foldl _ (10*0+(b.toNat-48))=_
   rw [ih,Nat.mul_zero,Nat.zero_add]
  rw [ih,e,List.length_cons,Nat.pow_succ,Nat.add_mul,Nat.add_assoc,Nat.mul_comm 10 a,Nat.mul_assoc,Nat.mul_comm 10]
theorem zcZ(a b:List UInt8):zad (a ++ b)=zad a*10^b.length+zad b:=by
 show(a ++ b).foldl _ 0=_
 rw [List.foldl_append,zqE];rfl
theorem zbR(b:UInt8):zad [b]=b.toNat-48:=by simp [zad]
theorem zfC(b:UInt8)(r:List UInt8):zad (b :: r)=(b.toNat-48)*10^r.length+zad r:=by
 have:=zcZ [b] r;rw [zbR]at this;exact this
theorem zfB(a:List UInt8)(b:UInt8):zad (a ++ [b])=zad a*10+(b.toNat-48):=by
 rw [zcZ,zbR];simp
theorem zhm{b:UInt8}(h:za0 b=true):b.toNat-48<10:=by
 have:=of_decide_eq_true h;omega
theorem zdQ{l:List UInt8}(h:l.all za0=true):zad l<10^l.length:=by
 induction l with
 | nil=>simp [zad]
 | cons b r ih=>
  simp only [List.all_cons,Bool.and_eq_true]at h;have h1:=zhm h.1;have h2:=ih h.2;have e:zad (b :: r)=(b.toNat-48)*10^r.length+zad r:=zfC b r;rw [e,List.length_cons,Nat.pow_succ,Nat.mul_comm _ 10];have:(b.toNat-48)*10^r.length≤9*10^r.length:=Nat.mul_le_mul_right _ (by omega);omega
theorem zkR{l:List UInt8}(h:l.all za0=true)(m:Nat):(l.take m).all za0=true:=by
 rw [List.all_eq_true]at h ⊢;exact fun x hx=>h x (List.mem_of_mem_take hx)
theorem zkS{l:List UInt8}(h:l.all za0=true)(m:Nat):(l.drop m).all za0=true:=by
 rw [List.all_eq_true]at h ⊢;exact fun x hx=>h x (List.mem_of_mem_drop hx)
theorem zfA{l:List UInt8}(h:l.all za0=true)(m:Nat):zad (l.take m)=zad l/10^(l.length-m):=by
 have e:zad l=zad (l.take m)*10^(l.length-m)+zad (l.drop m):=by
  have:=zcZ (l.take m) (l.drop m);rw [List.take_append_drop,List.length_drop]at this;exact this
 have h2:=zdQ (zkS h m);rw [List.length_drop]at h2;rw [e,Nat.mul_comm,Nat.mul_add_div (Nat.pow_pos (by decide)),Nat.div_eq_of_lt h2,Nat.add_zero]
theorem znb{l:List UInt8}(h:l.all za0=true)(m:Nat):zad (l.drop m)=zad l%10^(l.length-m):=by
 have e:zad l=zad (l.take m)*10^(l.length-m)+zad (l.drop m):=by
  have:=zcZ (l.take m) (l.drop m);rw [List.take_append_drop,List.length_drop]at this;exact this
 have h2:=zdQ (zkS h m);rw [List.length_drop]at h2;rw [e,Nat.mul_comm,Nat.mul_add_mod,Nat.mod_eq_of_lt h2]
def zbj(l:List UInt8):Bool:=!l.isEmpty && (l == [48] || !(l.head? == some 48)) && l.all za0
theorem zjV{b:UInt8}(h:za0 b=true):UInt8.ofNat (48+(b.toNat-48))=b:=by
 have:=of_decide_eq_true h;rw [show 48+(b.toNat-48)=b.toNat by omega];exact UInt8.ofNat_toNat
theorem zdP{d:Nat}(h:d<10):(UInt8.ofNat (48+d)).toNat=48+d:=by
 rw [UInt8.toNat_ofNat'];omega
theorem zbv{l:List UInt8}(h:zbj l=true):l.all za0=true:=by
 unfold zbj at h;simp only [Bool.and_eq_true]at h;exact h.2
theorem zou{l:List UInt8}(h:zbj l=true):l ≠ []:=by
 rintro rfl;simp [zbj]at h
theorem zjO:∀{l:List UInt8} {b:UInt8},(b :: l).all za0=true→b≠48→0<zad (b :: l):=by
 intro l b h hb;have e:zad (b :: l)=(b.toNat-48)*10^l.length+zad l:=zfC b l;simp only [List.all_cons,Bool.and_eq_true]at h;have h1:=of_decide_eq_true h.1;have:b.toNat≠48:=fun e=>hb (UInt8.toNat_inj.1 e)
 have h2:0<10^l.length:=Nat.pow_pos (by decide);have:1*10^l.length≤(b.toNat-48)*10^l.length:=Nat.mul_le_mul_right _ (by omega);omega
theorem zgc:∀(n:Nat) (l:List UInt8),l.length=n+1→l.all za0=true→(n=0∨l.head? ≠ some 48)→decDigits (zad l)=l
 | 0,l,hn,hd,_=>by
  match l,hn with
  | [b],_=>
   simp only [List.all_cons,List.all_nil,Bool.and_true]at hd;have h1:=zhm hd;rw [zbR,decDigits,dif_pos h1,zjV hd]
 | n+1,l,hn,hd,hh=>by
  obtain⟨a,b,rfl⟩:∃a b,l=a ++ [b]:=by
   have hne:l ≠ []:=by rintro rfl;simp at hn
   exact⟨l.dropLast,l.getLast hne,(List.dropLast_concat_getLast hne).symm⟩
  rw [List.length_append,List.length_singleton]at hn;rw [List.all_append,Bool.and_eq_true]at hd;have hb:za0 b=true:=by have:=hd.2;simpa using this
  have h1:=zhm hb;have hah:a.head? ≠ some 48:=by
   rcases hh with hh|hh
   ·omega
   ·intro e;apply hh
    cases a with
    | nil=>simp at e
    | cons c r=>simpa using e
  have hpos:0<zad a:=by
   cases a with
   | nil=>simp at hn
   | cons c r=>exact zjO hd.1 (fun e=>hah (by simp [e]))
  rw [zfB,decDigits,dif_neg (by omega),show(zad a*10+(b.toNat-48))/10=zad a by omega,show(zad a*10+(b.toNat-48))%10=b.toNat-48 by omega,zjV hb];rw [zgc n a (by omega) hd.1 (.inr hah)]
theorem zeM{l:List UInt8}(h:zbj l=true):decDigits (zad l)=l:=by
 have hd:=zbv h;have hn:=zou h;obtain⟨n,hl⟩:∃n,l.length=n+1:=by
  cases l with
  | nil=>exact absurd rfl hn
  | cons a r=>exact⟨r.length,rfl⟩
 refine zgc n l hl hd ?_;unfold zbj at h;simp only [Bool.and_eq_true,Bool.or_eq_true]at h;rcases h.1.2 with h|h
 ·left;have:l = [48]:=by simpa using h
  rw [this]at hl;simp at hl;omega
 ·right;intro e;rw [e]at h;simp at h
theorem zna(u:Nat):(decDigits u).all za0=true:=by
 induction u using Nat.strongRecOn with
 | _ u ih=>
  rw [decDigits];split
  ·rename_i h;simp only [List.all_cons,List.all_nil,Bool.and_true,za0,zdP h];exact decide_eq_true (by omega)
  ·rename_i h;rw [List.all_append,ih (u/10) (by omega)];simp only [List.all_cons,List.all_nil,Bool.and_true,Bool.true_and,za0,zdP (show u%10<10 by omega)];exact decide_eq_true (by omega)
theorem zj7(u:Nat):zad (decDigits u)=u:=by
 induction u using Nat.strongRecOn with
 | _ u ih=>
  rw [decDigits];split
  ·rename_i h;rw [zbR,zdP h];omega
  ·rename_i h;rw [zfB,ih (u/10) (by omega),zdP (by omega)];omega
theorem zsq(u:Nat):decDigits u ≠ []:=by
 intro h;have:=decDigits_length u;rw [h]at this;have:=nDigits_pos u;simp at *
 omega
theorem zr2(u:Nat)(h:0<u):(decDigits u).head? ≠ some 48:=by
 induction u using Nat.strongRecOn with
 | _ u ih=>
  rw [decDigits];split
  ·rename_i h10;intro e;have e:UInt8.ofNat (48+u)=48:=by simpa using e
   have:=zdP h10;rw [e]at this;have:(48:Nat)=48+u:=this;omega
  ·rename_i h10;have:=ih (u/10) (by omega) (by omega);intro e;apply this
   cases hc:decDigits (u/10)with
   | nil=>exact absurd hc (zsq _)
   | cons c r=>rw [hc]at e;simpa using e
theorem ziK(u:Nat):zbj (decDigits u)=true:=by
 unfold zbj;simp only [Bool.and_eq_true,Bool.or_eq_true];refine⟨⟨?_,?_⟩,zna u⟩
 ·cases hc:decDigits u with
  | nil=>exact absurd hc (zsq _)
  | cons c r=>rfl
 ·rcases Nat.eq_zero_or_pos u with rfl|h
  ·left;rw [decDigits];rfl
  ·right;have:=zr2 u h
   cases hc:(decDigits u).head? with
   | none=>rfl
   | some c=>
    rw [hc]at this;have hne:c≠48:=fun e=>this (by rw [e])
    simp [hne]
theorem zix:∀(l:List UInt8) (acc:Nat),l.all za0=true→decFrom acc l=some (acc*10^l.length+zad l)
 | [],acc,_=>by simp [decFrom,zad]
 | b :: r,acc,h=>by
  simp only [List.all_cons,Bool.and_eq_true]at h;have h1:=of_decide_eq_true h.1;have e:zad (b :: r)=(b.toNat-48)*10^r.length+zad r:=zfC b r;unfold decFrom digitVal;rw [if_pos h1];show decFrom (acc*10+(b.toNat-48)) r=_
  rw [zix r _ h.2,e,List.length_cons,Nat.pow_succ,Nat.add_mul,Nat.add_assoc,Nat.mul_assoc,Nat.mul_comm 10]
theorem zmI{l:List UInt8}(h:l.all za0=true)(hn:l ≠ [])(h9:l.length≤9):parseUintB 64 l = .ok (zad l):=by
 rw [parseUintB_64];unfold parseMag;rw [if_neg hn,parseUint10_short l 0 0 (by decide) (by omega),zix l 0 h,Nat.zero_mul,Nat.zero_add];rfl
def zap(l:List UInt8):Nat:=(l.takeWhile (fun b => !(b == 47))).length
theorem znF(l:List UInt8):zap l≤l.length:=(List.takeWhile_sublist _).length_le
theorem zoK(l:List UInt8):l.take (zap l)=l.takeWhile (fun b => !(b == 47)):=by
 unfold zap;induction l with
 | nil=>rfl
 | cons b r ih=>
  rw [List.takeWhile_cons];split
  ·simp only [ztF,List.take_succ_cons,ih]
  ·simp
theorem zgW(l:List UInt8){i:Nat}(h:i<zap l):l[i]? ≠ some 47:=by
 have h1:(l.take (zap l))[i]? = l[i]?:=by rw [List.getElem?_take,if_pos h]
 rw [zoK]at h1;intro e;rw [e]at h1;have hm:=List.mem_of_getElem? h1;have:=(List.all_eq_true.1 (List.all_takeWhile (p:=fun b:UInt8 => !(b == 47)) (l:=l))) _ hm;simp at this
theorem zhg(l:List UInt8)(h:zap l<l.length):l[zap l]? = some 47:=by
 unfold zap at *;induction l with
 | nil=>simp at h
 | cons b r ih=>
  rw [List.takeWhile_cons]at h ⊢;split
  ·rename_i hb;rw [if_pos hb]at h;simp only [ztF,List.getElem?_cons_succ]at h ⊢;exact ih (by omega)
  ·rename_i hb;have hb':b=47:=by simpa using hb
   rw [hb'];rfl
theorem zew{l:List UInt8}{k:Nat}(h1:∀i,i<k→l[i]? ≠ some 47)(h2:k<l.length→l[k]? = some 47)(h3:k≤l.length):zap l=k:=by
 rcases Nat.lt_trichotomy (zap l) k with h|h|h
 ·exact absurd (zhg l (by omega)) (h1 _ h)
 ·exact h
 ·have:=znF l;exact absurd (h2 (by omega)) (zgW l h)
theorem zeG(l:List UInt8):List.isPrefixOf [47] l=(l.head? == some 47):=by
 cases l with
 | nil=>rfl
 | cons b r=>
  simp only [List.isPrefixOf,List.head?_cons,Bool.and_true];rw [Bool.eq_iff_iff];simp
  exact eq_comm
theorem zmV(l:List UInt8):index l [47]=if zap l<l.length then(zap l:Int)else -1:=by
 rcases index_spec l [47]with⟨h1,h2⟩|⟨i,h1,h2,h3,h4⟩
 ·rw [h1,if_neg];intro h;have:=h2 (zap l) (by omega);unfold occAt at this;rw [zeG,List.head?_drop,zhg l h]at this;simp at this
 ·have hi:l[i]? = some 47:=by
   unfold occAt at h3;rw [zeG,List.head?_drop]at h3;simpa using h3
  have hlt:i<l.length:=by
   apply Classical.byContradiction
   intro hn;rw [List.getElem?_eq_none (by omega)]at hi
   cases hi
  have hs:zap l=i:=zew (fun j hj e=>by
   have:=h4 j hj;unfold occAt at this;rw [zeG,List.head?_drop,e]at this;simp at this) (fun _=>hi) h2
  rw [h1,hs,if_pos hlt]
theorem zqN(l:List UInt8):cut l [47]=if zap l<l.length then(l.take (zap l),l.drop (zap l+1),true)else(l,[],false):=by
 unfold cut;rw [zmV];by_cases h:zap l<l.length
 ·rw [if_pos h,if_pos h,if_pos (by omega)];simp
 ·rw [if_neg h,if_neg h,if_neg (by omega)]
def zbQ(l:List UInt8):Bool:=hasPrefix l [45]
def zaT(l:List UInt8):List UInt8:=trimPrefix l [45]
def zbu(l:List UInt8):Option Int:=
 if zbj (zaT l) && !(zbQ l && zaT l == [48])then some (sgn (zbQ l) (zad (zaT l)))else none
theorem zdM(b:UInt8)(r:List UInt8):zbQ (b :: r)=(b == 45):=by
 unfold zbQ hasPrefix;simp only [List.isPrefixOf,Bool.and_true];rw [Bool.eq_iff_iff];simp;exact eq_comm
theorem zh0(r:List UInt8):zaT (45 :: r)=r:=by
 unfold zaT trimPrefix;rw [if_pos (by rfl)];rfl
theorem zdI{l:List UInt8}(h:zbQ l=false):zaT l=l:=by
 unfold zaT trimPrefix;rw [if_neg];unfold zbQ at h;rw [h];simp
theorem znY{l:List UInt8}(h:zbQ l=true):∃r,l=45 :: r:=by
 cases l with
 | nil=>simp [zbQ,hasPrefix]at h
 | cons b r=>rw [zdM]at h;exact⟨r,by rw [show b=45 by simpa using h]⟩
theorem zjJ{l:List UInt8}{z:Int}(h:zbu l=some z):itoa z=l:=by
 unfold zbu at h;split at h
 ·rename_i hc
  cases h
  rw [Bool.and_eq_true]at hc
  cases hn:zbQ l with
  | false=>
   rw [hn,zdI hn]at hc;rw [zdI hn];show itoa (zad l:Int)=l
   unfold itoa;rw [if_neg (by omega),Int.toNat_natCast];exact zeM hc.1
  | true=>
   obtain⟨r,rfl⟩:=znY hn;rw [zh0]at hc ⊢;rw [hn]at hc;have hne:r ≠ [48]:=by simpa using hc.2
   have hp:0<zad r:=by
    cases r with
    | nil=>exact absurd rfl (zou hc.1)
    | cons b t=>
     have:=hc.1;unfold zbj at this;simp only [Bool.and_eq_true,Bool.or_eq_true]at this;rcases this.1.2 with h|h
     ·exact absurd (by simpa using h) hne
     ·refine zjO (zbv hc.1) ?_;rintro rfl;simp at h
   show itoa (-(zad r:Int))=_
   unfold itoa;rw [if_pos (by omega),Int.natAbs_neg,Int.natAbs_natCast,zeM hc.1]
 ·cases h
theorem zoq(u:Nat):zbQ (decDigits u)=false:=by
 have:=zna u
 cases h:decDigits u with
 | nil=>rfl
 | cons b r=>
  rw [h]at this;simp only [List.all_cons,Bool.and_eq_true]at this;have h1:=of_decide_eq_true this.1;rw [zdM,beq_eq_false_iff_ne];rintro rfl;have:(45:UInt8).toNat=45:=rfl;omega
theorem zjj(z:Int):zbu (itoa z)=some z:=by
 unfold itoa;split
 ·rename_i hz;have hn:zbQ (45 :: decDigits z.natAbs)=true:=by rw [zdM];rfl
  have hc:(zbj (decDigits z.natAbs) && !(decDigits z.natAbs == [48]))=true:=by
   rw [ziK];have:decDigits z.natAbs ≠ [48]:=by
    intro e;have:=zj7 z.natAbs;rw [e,zbR]at this;simp at this
    omega
   simpa using this
  unfold zbu;rw [hn,zh0,Bool.true_and,if_pos hc,zj7];unfold sgn;rw [if_pos rfl];congr 1;omega
 ·rename_i hz;unfold zbu;rw [zoq,zdI (zoq _),ziK];simp only [Bool.false_and,Bool.not_false,Bool.and_self,if_true,zj7,Option.some.injEq];unfold sgn;rw [if_neg (by simp)];omega
theorem zlE(z:Int):∀x∈itoa z,x≠47:=by
 have hd:∀u,∀x∈decDigits u,x≠47:=fun u x hx=>by
  have:=List.all_eq_true.1 (zna u) x hx;have:=of_decide_eq_true this;rintro rfl;have:(47:UInt8).toNat=47:=rfl;omega
 unfold itoa;split
 ·intro x hx;rcases List.mem_cons.1 hx with rfl|hx
  ·decide
  ·exact hd _ x hx
 ·exact hd _
def zbT(l:List UInt8):Option Rat:=
 if zap l<l.length then
  match zbu (l.take (zap l))with
  | none=>none
  | some z=>if zbj (l.drop (zap l+1)) && decide (2≤zad (l.drop (zap l+1))) && decide (Nat.gcd z.natAbs (zad (l.drop (zap l+1)))=1)
   then some ((z:Rat)/(zad (l.drop (zap l+1)):Rat))else none
 else match zbu l with
  | none=>none
  | some z=>some ((z:Int):Rat)
def zfQ(q:Rat):List UInt8:=if q.den=1 then itoa q.num else itoa q.num ++ 47 :: decDigits q.den
theorem zd0{z:Int}{d:Nat}(hd:d≠0)(hg:Nat.gcd z.natAbs d=1):((z:Rat)/(d:Rat)).num=z∧((z:Rat)/(d:Rat)).den=d:=by
 have e:(z:Rat)/(d:Rat)=frac (decide (z<0)) z.natAbs d:=by
  unfold frac;have:sgn (decide (z<0)) z.natAbs=z:=by unfold sgn;simp;omega
  rw [this,Rat.divInt_eq_div];rfl
 have h:=zdO (neg:=decide (z<0)) (n:=z.natAbs) hd;rw [←e,Nat.gcd_comm,hg,Nat.div_one,Nat.div_one]at h;refine⟨?_,h.2.1⟩;have h3:=h.2.2;have h1:=h.1;by_cases hz:z<0
 ·have:=h3.2 ⟨decide_eq_true hz,by omega⟩;omega
 ·have:¬((z:Rat)/(d:Rat)).num<0:=fun hh=>hz (of_decide_eq_true (h3.1 hh).1)
  omega
theorem zpU{a b:List UInt8}(h:∀x∈a,x≠47):zap (a ++ 47 :: b)=a.length:=by
 refine zew (fun i hi e => ?_) (fun _=>by simp) (by simp);rw [List.getElem?_append_left hi]at e;exact h _ (List.mem_of_getElem? e) rfl
theorem zoL{a:List UInt8}(h:∀x∈a,x≠47):zap a=a.length:=
 zew (fun _ _ e=>h _ (List.mem_of_getElem? e) rfl) (fun h=>absurd h (by omega)) (Nat.le_refl _)
theorem zmr{l:List UInt8}(h:zap l<l.length):l.take (zap l) ++ 47 :: l.drop (zap l+1)=l:=by
 have h1:=zhg l h;have h2:l.drop (zap l)=47 :: l.drop (zap l+1):=by
  rw [List.drop_eq_getElem_cons h];congr 1
  rw [List.getElem?_eq_getElem h]at h1;exact Option.some.inj h1
 rw [←h2,List.take_append_drop]
theorem zpa{l:List UInt8}{q:Rat}(h:zbT l=some q):zfQ q=l:=by
 unfold zbT at h;split at h
 ·rename_i hs;split at h
  ·cases h
  ·rename_i z hz;split at h
   ·rename_i hc
    cases h
    simp only [Bool.and_eq_true]at hc;have h2:=of_decide_eq_true hc.1.2;have hp:=zd0 (z:=z) (by omega) (of_decide_eq_true hc.2);unfold zfQ;rw [hp.1,hp.2,if_neg (by omega),zjJ hz,zeM hc.1.1];exact zmr hs
   ·cases h
 ·split at h
  ·cases h
  rename_i z hz
  cases h
  unfold zfQ;rw [if_pos (Rat.den_intCast z),Rat.num_intCast];exact zjJ hz
theorem zoF(q:Rat):zbT (zfQ q)=some q:=by
 unfold zfQ;split
 ·rename_i h1;have hs:zap (itoa q.num)=(itoa q.num).length:=zoL (zlE _);unfold zbT;rw [hs,if_neg (by omega),zjj];show some ((q.num:Rat))=some q
  congr 1
  apply Rat.ext
  ·exact Rat.num_intCast _
  ·rw [h1];exact Rat.den_intCast _
 ·rename_i h1;have hs:zap (itoa q.num ++ 47 :: decDigits q.den)=(itoa q.num).length:=zpU (zlE _);have hz:=q.den_nz;unfold zbT;rw [hs,if_pos (by simp),List.take_left,zjj];have e:(itoa q.num ++ 47 :: decDigits q.den).drop ((itoa q.num).length+1)=decDigits q.den:=by
   rw [List.drop_append];simp
  rw [e,ziK,zj7];have hc:(true && decide (2≤q.den) && decide (Nat.gcd q.num.natAbs q.den=1))=true:=by
   have:Nat.gcd q.num.natAbs q.den=1:=q.reduced;simp [this];omega
  rw [show(match some q.num with|none=>none|some z=>if(true && decide (2≤q.den) && decide (Nat.gcd z.natAbs q.den=1))=true then some ((z:Rat)/(q.den:Rat))else none)=if(true && decide (2≤q.den) && decide (Nat.gcd q.num.natAbs q.den=1))=true then some ((q.num:Rat)/(q.den:Rat))else none from rfl,if_pos hc];congr 1
  have hp:=zd0 (z:=q.num) hz q.reduced;exact Rat.ext hp.1 hp.2
theorem zmd(k:Nat):B^k=10^(9*k):=by
 rw [Nat.pow_mul];rfl
theorem zpi{l:List UInt8}(h:l.all za0=true){i m:Nat}(hm:m+9*i=l.length):zad ((l.take m).drop (m-9))=limb (zad l) i:=by
 have hlen:(l.take m).length=m:=by rw [List.length_take];omega
 rw [znb (zkR h m),hlen,zfA h m,show l.length-m=9*i by omega,←zmd];unfold limb;rcases Nat.lt_or_ge m 9 with h9|h9
 ·have h1:zad l/B^i<10^m:=by
   have:=zdQ (zkR h m);rw [zfA h m,hlen,show l.length-m=9*i by omega,←zmd]at this;exact this
  have h2:10^m≤10^9:=Nat.pow_le_pow_right (by decide) (by omega);have h3:(10:Nat)^9=B:=by decide
  rw [show m-(m-9)=m by omega,Nat.mod_eq_of_lt h1,Nat.mod_eq_of_lt (by omega)]
 ·rw [show m-(m-9)=9 by omega];rfl
theorem zfO{l:List UInt8}(h:l.all za0=true){k:Nat}(hk:l.length≤9*k):zad l<B^k:=by
 rw [zmd];exact Nat.lt_of_lt_of_le (zdQ h) (Nat.pow_le_pow_right (by decide) hk)
theorem zol{l:List UInt8}(h:l.all za0=true){j:Nat}(hj:j<l.length)(b:UInt8)(hb:l[l.length-1-j]? = some b):b.toNat-48=zad l/10^j%10:=by
 have h1:=zfA h (l.length-j);rw [show l.length-(l.length-j)=j by omega]at h1;rw [←h1];have e:l.take (l.length-j)=l.take (l.length-1-j) ++ [b]:=by
  rw [show l.length-j=(l.length-1-j)+1 by omega,List.take_add_one,hb];rfl
 rw [e,zfB];have hd:za0 b=true:=List.all_eq_true.1 h b (List.mem_of_getElem? hb);have:=zhm hd;omega
def part(V j:Nat):Nat:=V%10^j/B^(j/9)
theorem zo3(V j:Nat):V%10^(j+1)=V%10^j+10^j*(V/10^j%10):=by
 rw [Nat.pow_succ,Nat.mod_mul]
theorem zll(V j:Nat):part V j+10^(j%9)*(V/10^j%10)=V%10^(j+1)/B^(j/9):=by
 unfold part;rw [zo3,zmd];have e:10^j=10^(9*(j/9))*10^(j%9):=by rw [←Nat.pow_add,Nat.div_add_mod]
 rw [show V%10^j+10^j*(V/10^j%10)=V%10^j+10^(9*(j/9))*(10^(j%9)*(V/10^j%10))by rw [←Nat.mul_assoc,←e]];rw [Nat.add_mul_div_left _ _ (Nat.pow_pos (by decide))]
theorem zlm{V j:Nat}(h:j%9≠8):part V (j+1)=part V j+10^(j%9)*(V/10^j%10):=by
 rw [zll];unfold part;rw [show(j+1)/9=j/9 by omega]
theorem zln{V j:Nat}(h:j%9=8):limb V (j/9)=part V j+10^(j%9)*(V/10^j%10)∧part V (j+1)=0:=by
 rw [zll];have e:j+1=9*(j/9)+9:=by omega
 have e2:10^(j+1)=B^(j/9)*B:=by rw [e,Nat.pow_add,←zmd];rfl
 constructor
 ·unfold limb;rw [e2,Nat.mod_mul,Nat.add_mul_div_left _ _ (zau _),Nat.div_eq_of_lt (Nat.mod_lt _ (zau _)),Nat.zero_add]
 ·unfold part;rw [show(j+1)/9=j/9+1 by omega,Nat.pow_succ B,←e2];exact Nat.div_eq_of_lt (Nat.mod_lt _ (Nat.pow_pos (by decide)))
theorem znS{V n:Nat}(h:V<10^n):part V n=V/B^(n/9):=by
 unfold part;rw [Nat.mod_eq_of_lt h]
theorem zhp{V n:Nat}(h:V<10^n):limb V (n/9)=part V n∧V<B^(n/9+1):=by
 have h2:V<B^(n/9+1):=by
  rw [zmd];exact Nat.lt_of_lt_of_le h (Nat.pow_le_pow_right (by decide) (by omega))
 refine⟨?_,h2⟩;rw [znS h];unfold limb;apply Nat.mod_eq_of_lt
 rw [Nat.pow_succ]at h2;exact Nat.div_lt_of_lt_mul h2
theorem zoj{V n:Nat}(h:V<10^n)(h0:part V n=0):V<B^(n/9):=by
 rw [znS h]at h0;rcases Nat.lt_or_ge V (B^(n/9))with h|h
 ·exact h
 ·have:=Nat.div_pos h (zau _);omega
theorem zjn(l:List UInt8):∃k,k≤l.length∧(l.drop k).all za0=true∧(0<k→∃b,l[k-1]? = some b∧za0 b=false):=by
 induction l with
 | nil=>exact⟨0,Nat.le_refl _,rfl,fun h=>absurd h (by omega)⟩
 | cons b r ih=>
  obtain⟨k,hk,h1,h2⟩:=ih;rcases Nat.eq_zero_or_pos k with rfl|h0
  ·cases hb:za0 b with
   | true=>exact⟨0,by simp,by rw [List.drop_zero,List.all_cons,hb,Bool.true_and];simpa using h1,fun h=>absurd h (by omega)⟩
   | false=>exact⟨1,by simp,by simpa using h1,fun _=>⟨b,rfl,hb⟩⟩
  ·refine⟨k+1,by simp;omega,by simpa using h1,fun _ => ?_⟩;obtain⟨c,hc,hd⟩:=h2 h0;refine⟨c,?_,hd⟩;obtain⟨m,rfl⟩:∃m,k=m+1:=⟨k-1,by omega⟩;simpa using hc
end Go.Num
namespace Go.Num
open Go.Eng Go.Shelf Go.RowKit Go.Sort Go.Proofs Go.Proofs.YtoamcgjbelhnkaaGreatDoor
abbrev zgJ:ByteArray:={data:=#[48,49,50,51,52,53,54,55,56,57]}
theorem zpf(b:UInt8):zgJ.data.toList.contains b=za0 b:=by
 have h:zgJ.data.toList = [48,49,50,51,52,53,54,55,56,57]:=rfl;rw [h,Bool.eq_iff_iff];unfold za0;simp only [List.contains_eq_mem,List.mem_cons,List.not_mem_nil,or_false,decide_eq_true_eq];constructor
 ·rintro (rfl|rfl|rfl|rfl|rfl|rfl|rfl|rfl|rfl|rfl) <;> decide
 ·intro h;have hb:b.toNat=48∨b.toNat=49∨b.toNat=50∨b.toNat=51∨b.toNat=52∨b.toNat=53∨b.toNat=54∨b.toNat=55∨b.toNat=56∨b.toNat=57:=by omega
  rcases hb with h|h|h|h|h|h|h|h|h|h
  all_goals
   have:b=UInt8.ofNat b.toNat:=UInt8.ofNat_toNat.symm;rw [this,h];decide
theorem dropWhile_nil{p:UInt8→Bool}{l:List UInt8}:l.dropWhile p = []↔l.all p=true:=by
 induction l with
 | nil=>simp
 | cons b r ih=>
  rw [List.dropWhile_cons];split
  ·rename_i h;rw [ih];simp [h]
  ·rename_i h;simp [h]
theorem zml(l:List UInt8):(Lib.trimS l zgJ.data.toList = [])↔l.all za0=true:=by
 have hp:(fun b=>zgJ.data.toList.contains b)=za0:=funext zpf;unfold Lib.trimS Lib.trimLeftS Lib.trimRightS;rw [hp,dropWhile_nil,List.all_reverse];constructor
 ·intro h;have e:l.reverse=l.reverse.takeWhile za0 ++ l.reverse.dropWhile za0:=(List.takeWhile_append_dropWhile).symm;have h2:l.reverse.all za0=true:=by
   rw [e,List.all_append,List.all_takeWhile,h];rfl
  rwa [List.all_reverse]at h2
 ·intro h;have h2:l.reverse.dropWhile za0 = []:=dropWhile_nil.2 (by rw [List.all_reverse];exact h);rw [h2];rfl
theorem zhA(w:World)(s:ByteArray)(hs:s.size≤100000) :
  CallsIn Fence.wide 0 Tryz.prog 105 #[.string s,.string zgJ] w fun e w'=>∃t:ByteArray,e = .returned (.string t)∧(t.data.toList = []↔s.data.toList.all za0=true)∧Below w.heap.size w w':=by
 refine callsIn_wide.2 ((Any.strings_Trim_laid Tryz.lays160 (by kernel_rfl) s zgJ w (by omega) (by decide) (ascii_of_all (by decide))).mono ?_);rintro e w' ⟨rfl,hB⟩;exact⟨_,rfl,zml _,hB⟩
theorem zok{l:List UInt8}{b:Bool}(h:l = []↔b=true):l.isEmpty=b:=by
 rw [Bool.eq_iff_iff,←h]
 cases l <;> simp
theorem zig(s:ByteArray)(h:0<s.size):s.data.toList=s[0] :: s.data.toList.tail:=by
 obtain⟨⟨l⟩⟩:=s
 cases l with
 | nil=>exact absurd h (by decide)
 | cons b r=>rfl
theorem zgM{b:UInt8}{r:List UInt8}(h:b.toNat=48)(hne:b :: r ≠ [48]):zbj (b :: r)=false:=by
 have hb:b=48:=UInt8.toNat_inj.1 h;subst hb;unfold zbj;have:(48 :: r == [48])=false:=beq_false_of_ne hne;rw [this];simp
theorem ziJ{b:UInt8}{r:List UInt8}(h:¬b.toNat=48):zbj (b :: r)=(b :: r).all za0:=by
 have hb:b≠48:=fun e=>h (by rw [e];rfl)
 unfold zbj;have:((b :: r).head? == some 48)=false:=by simp [hb]
 rw [this];simp
theorem znf(s:ByteArray)(h0:0<s.size)(h:(s[0].toNat:Int)=48)(hne:¬s.toList = [48]):zbj s.data.toList=false:=by
 rw [Lib.toList_data]at hne;rw [zig s h0]at hne ⊢;exact zgM (by omega) hne
theorem zl0(s:ByteArray)(h0:0<s.size)(h:¬(s[0].toNat:Int)=48):zbj s.data.toList=s.data.toList.all za0:=by
 rw [zig s h0];exact ziJ (by omega)
theorem zdt(w:World)(s:ByteArray)(hs:s.size≤100000) :
  CallsIn Fence.wide 0 Tryz.prog 61 #[.string s] w fun e w'=>e = .returned (.bool (zbj s.data.toList))∧Below w.heap.size w w':=by
 have HS:=zHi hs;refine callsIn_of_wp Tryz.func61 rfl trivial ?_ rfl;simp only [Tryz.ntmps61,ztE,ztF,ztG,Nat.reduceAdd,Nat.reduceSub,ztH,ztI,ztJ,ztK,ztL,ztM];gi_wp2_with (gi_at_call 105;refine stop ?_)
 ·have h:s.toList = []:=by assumption
  all_goals (first|go_returns|go_ret|go_end0)
  rw [Lib.toList_data]at h;exact⟨by rw [h];rfl,Below.refl _ _⟩
 ·have h:s.toList = [48]:=by assumption
  rw [Lib.toList_data]at h;have HC:Hid (zbj s.data.toList=s.data.toList.all za0):=zHi (by rw [h];rfl);clear h;unfold Stop;refine(zhA w s hs).mono ?_;rintro e w2 ⟨t,rfl,ht,hB⟩;rw [←Lib.toList_data]at ht;have HT:=zHi ht;have HB:=zHi hB;clear ht hB;gi_wp2;all_goals (first|go_returns|go_ret|go_end0)
  refine⟨?_,HB.out⟩;rw [HC.out];show Ending.returned (Value.bool t.toList.isEmpty)=Ending.returned (Value.bool _)
  rw [zok HT.out]
 ·have h1:(s[0].toNat:Int)=48:=by assumption
  have h2:¬s.toList = [48]:=by assumption
  all_goals (first|go_returns|go_ret|go_end0)
  exact⟨by rw [znf s (by assumption) h1 h2];rfl,Below.refl _ _⟩
 ·have h1:¬(s[0].toNat:Int)=48:=by assumption
  have HC:Hid (zbj s.data.toList=s.data.toList.all za0):=zHi (zl0 s (by assumption) h1);clear h1;unfold Stop;refine(zhA w s hs).mono ?_;rintro e w2 ⟨t,rfl,ht,hB⟩;rw [←Lib.toList_data]at ht;have HT:=zHi ht;have HB:=zHi hB;clear ht hB;have hne:¬s.toList = []:=by assumption
  have hne':s.toList.isEmpty=false:=by cases hc:s.toList with|nil=>exact absurd hc hne|cons _ _=>rfl
  gi_wp2;all_goals (first|go_returns|go_ret|go_end0)
  refine⟨?_,HB.out⟩;rw [HC.out];show Ending.returned (Value.bool ((s.toList == [48] || (s[0].toNat:Int) != 48) && t.toList.isEmpty))=Ending.returned (Value.bool _)
  have hx:((s[0].toNat:Int) != 48)=true:=by simpa using (by assumption:¬(s[0].toNat:Int)=48)
  rw [hx,Bool.or_true,Bool.true_and,zok HT.out]
 ·exfalso;have h1:¬s.toList = []:=by assumption
  have h2:¬0<s.size:=by assumption
  rw [Lib.toList_data]at h1;rw [Lib.size_eq]at h2;exact h1 (List.eq_nil_of_length_eq_zero (by omega))
end Go.Num
