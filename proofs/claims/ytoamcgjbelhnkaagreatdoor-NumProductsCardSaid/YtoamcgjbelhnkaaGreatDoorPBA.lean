/-
  A region that draws its order, calls functions and has guards: one walk serves every order, where every guard holds. The law NumDets answers
  Conditions: see each statement.
-/
import Derived.Test.YtoamcgjbelhnkaaGreatDoorPAA
import Derived.Test.YtoamcgjbelhnkaaGreatDoorPAZ
import Derived.Test.YtoamcgjbelhnkaaGreatDoorPAY
import Derived.Test.YtoamcgjbelhnkaaGreatDoorPAT
import Derived.Test.YtoamcgjbelhnkaaGreatDoorPAX
set_option maxRecDepth 100000
set_option maxHeartbeats 8000000
namespace Go.Num
open Go.Eng Go.Shelf Go.RowKit Go.Sort Go.Proofs Go.Proofs.YtoamcgjbelhnkaaGreatDoor
attribute [local go_sem] Oper.semAt_some
theorem i9i:Tryz.prog.info? 9=some Tryz.t9:=by kernel_rfl
theorem i9z:Tryz.t9.zero=some (.string ⟨#[]⟩):=by kernel_rfl
theorem i9s:Tryz.t9.size=1:=by kernel_rfl
theorem i9b:Tryz.t9.bytes=16:=by kernel_rfl
theorem i53i:Tryz.prog.info? 53=some Tryz.t53:=by kernel_rfl
theorem i53z:Tryz.t53.zero=some (.slice none 0 0):=by kernel_rfl
theorem i53s:Tryz.t53.size=1:=by kernel_rfl
theorem i53b:Tryz.t53.bytes=24:=by kernel_rfl
def sqS(nl:Nat)(m:Nat→Nat)(s:Nat→Nat→ByteArray)(i k:Nat):ByteArray:=if i<nl∧k<m i then(s i k).extract 0 (min (s i k).size 4)else⟨#[48]⟩
def sqQ(nl:Nat)(m:Nat→Nat)(s:Nat→Nat→ByteArray)(i k:Nat):Rat:=rq (sqS nl m s i k).data.toList 50
theorem znD(nl:Nat)(m:Nat→Nat)(s:Nat→Nat→ByteArray)(i k:Nat):(sqS nl m s i k).size≤4:=by
 unfold sqS;split
 ·rw [ByteArray.size_extract];omega
 ·decide
theorem znE(nl:Nat)(m:Nat→Nat)(s:Nat→Nat→ByteArray)(i k:Nat):Tiny (sqQ nl m s i k):=zsx (by
 have:=znD nl m s i k;rw [Lib.size_eq]at this;exact this)
def IS(s:ByteArray)(r:List Value)(_:World):Prop:=r = [.string s]
def zjc(l:List ByteArray)(r:List Value)(w:World):Prop:=∃v,r = [v]∧zah w 9 1 IS v l
theorem zjc.touch{ty:TypeId}{w w':World}(ht:Touch ty w w')(hne:9≠ty):∀q r,zjc q r w→zjc q r w':=fun _ _ ⟨v,e,h⟩=>⟨v,e,h.touch ht hne (fun _ _ q=>q)⟩
theorem zjc.below{w w':World}(h:Below w.heap.size w w'):∀q r,zjc q r w→zjc q r w':=fun _ _ ⟨v,e,k⟩=>⟨v,e,zah.below k h (fun _ _ q=>q)⟩
theorem znI{β:Type}{w:World}{ty:Nat}{I:β→List Value→World→Prop}{v:Value}{bs:List β}(h:zah w ty 1 I v bs):∃rv:Nat→Value,zeW w v bs.length rv∧∀i b,bs[i]? = some b→I b [rv i] w:=by
 rcases h with⟨rfl,o,c,rfl⟩|⟨a,cap,xs,rfl,h2,h3,⟨cs,fz,h4⟩,h5,h6,h7,h8⟩
 ·exact⟨fun _=>undef,⟨o,c,rfl,by simp,fun h=>absurd h (by simp)⟩,fun i b h=>absurd h (by simp)⟩
 ·have hrow:∀i,i<bs.length→xs[i]? = some [(xs.getD i []).getD 0 undef]:=fun i hi=>by
   have h1:xs[i]? = some xs[i]:=List.getElem?_eq_getElem (by omega);have h9:=h6 xs[i] (List.getElem_mem _);have hx:xs.getD i []=xs[i]:=by rw [List.getD_eq_getElem?_getD,h1];rfl
   rw [h1,hx];congr 1
   match hq:xs[i],h9 with
   | [y],_=>rfl
  refine⟨fun i=>(xs.getD i []).getD 0 undef,⟨some a,cap,rfl,by omega,fun _=>⟨a,rfl,(Array.getElem?_eq_some_iff.1 h4).1,fun i hi => ?_⟩⟩,fun i b hb => ?_⟩
  ·have:=h7 i _ (hrow i hi) 0 _ rfl;rwa [Nat.mul_one,Nat.add_zero]at this
  ·exact h8 i _ b (hrow i (List.getElem?_eq_some_iff.1 hb).1) hb
theorem zeW.congr{w:World}{v:Value}{n:Nat}{f g:Nat→Value}(h:zeW w v n f)(e:∀i,i<n→f i=g i):zeW w v n g:=by
 obtain⟨o,c,rfl,hn,h1⟩:=h;refine⟨o,c,rfl,hn,fun h0 => ?_⟩;obtain⟨a,e2,ha,hc⟩:=h1 h0;exact⟨a,e2,ha,fun i hi=>by rw [←e i hi];exact hc i hi⟩
theorem zpF{w:World}{v:Value}{n:Nat}{f:Nat→Nat→ByteArray}(h:zah w 53 1 zjc v ((List.range n).map fun i=>(List.range n).map (f i)))(hf:∀i j,(f i j).size≤4):∃rv,zkT w v n rv (fun _=>n) f:=by
 obtain⟨rv,h1,h2⟩:=znI h;rw [List.length_map,List.length_range]at h1;refine⟨rv,h1,fun i hi => ?_,fun i j _ _=>Nat.le_trans (hf i j) (by decide)⟩;obtain⟨v',e,hr⟩:=h2 i ((List.range n).map (f i)) (by simp [hi]);injection e with e;subst e;obtain⟨rs,h3,h4⟩:=znI hr;rw [List.length_map,List.length_range]at h3;exact h3.congr fun j hj=>by
  have:=h4 j (f i j) (by simp [hj]);injection this
theorem zgU(w:World)(v:Value)(nl:Nat)(rv:Nat→Value)(m:Nat→Nat)(s:Nat→Nat→ByteArray)(h:zkT w v nl rv m s)(n:Nat)(hn:n≤4)(hL:Laid w) :
  CallsIn Fence.wide 0 Tryz.prog 56 #[v,.int .i64 (n:Int)] w fun e w'=>∃v1 v2,e = .returned (.tuple #[v1,v2])∧MatR w' v2 (tab n n (sqQ nl m s))∧Below w.heap.size w w':=by
 have HT:=zHi h;have HL:=zHi hL;obtain⟨o,c,rfl,hn9,_⟩:=h.top;clear h hL;refine callsIn_of_wp Tryz.func56 rfl trivial ?_ rfl;simp only [Tryz.ntmps56,ztE,ztF,ztG,Nat.reduceAdd,Nat.reduceSub,ztH,ztI,ztJ,ztK,ztL,ztM];gi_wp2;gi_loopw [6,7] (fun x6 x7 wr=>∃i:Nat,x7 = .int .i64 (i:Int)∧i≤n∧Hid (OwnR wr w.heap.size 53 1 zjc x6 ((List.range i).map fun i=>(List.range n).map (sqS nl m s i)))∧Hid (Below w.heap.size w wr)) (fun _ x _=>n-(intOf x).toNat)
 case atStart=>exact⟨0,rfl,by omega,OwnR.nil _ _ _ _ _,Below.refl _ w⟩
 case round=>
  obtain⟨ws,hws⟩:∃ws,ws=wr:=⟨_,rfl⟩;subst hws;obtain⟨i,rfl,hi,HO,HBr⟩:=hrel;obtain⟨oo,co,hof⟩:=HO.out.form;rw [List.length_map,List.length_range]at hof;subst hof;by_cases hin:i<n
  ·gi_wp2;gi_loopw [8,9] (fun x8 x9 wi=>∃k:Nat,x9 = .int .i64 (k:Int)∧k≤n∧Hid (OwnR wi ws.heap.size 9 1 IS x8 ((List.range k).map (sqS nl m s i)))∧Hid (Below ws.heap.size ws wi)) (fun _ x _=>n-(intOf x).toNat)
   case atStart=>exact⟨0,rfl,by omega,OwnR.nil _ _ _ _ _,Below.refl _ ws⟩
   case round=>
    obtain⟨k,rfl,hk,HOi,HBi⟩:=hrel;obtain⟨oi,ci,hif⟩:=HOi.out.form;rw [List.length_map,List.length_range]at hif;subst hif;have HBw:=zHi (HBr.out.trans (HBi.out.mono HBr.out.size));by_cases hkn:k<n
    ·have HNX:Hid (∀x,sqS nl m s i k=x→(List.range k).map (sqS nl m s i) ++ [x]=(List.range (k+1)).map (sqS nl m s i)):=zHi (fun x e=>by rw [List.range_succ,List.map_append,←e];rfl);by_cases hi1:i<nl
     ·obtain⟨o',c',e',_,htop⟩:=HT.out.top;injection e' with e1 e2 e3;subst e1;obtain⟨a,rfl,ha,hca⟩:=htop (by omega);obtain⟨or,cr,hri,hmi9,hrow⟩:=HT.out.row i hi1;have p0:=(HBw.out.cell (p:=a.add i) (by rw [zac];exact ha)).trans (hca i hi1);rw [hri]at p0;obtain⟨mi,hmi⟩:∃mi,m i=mi:=⟨_,rfl⟩;rw [hmi]at p0 hmi9 hrow;have HMI:=zHi hmi;have p0d:=((zab wr).cell (World.block_lt_of_cell? _ _ p0)).trans p0;clear e2 e3 htop hca hri hmi;by_cases hk1:k<mi
      ·obtain⟨b,rfl,hb,hcb⟩:=hrow (by omega);have p1:wr.cell? (b.add k)=some (.string (s i k)):=(HBw.out.cell (p:=b.add k) (by rw [zac];exact hb)).trans (hcb k hk1);have p1d:=((zab wr).cell (World.block_lt_of_cell? _ _ p1)).trans p1;have hsz:=HT.out.len i k hi1 (by rw [HMI.out];exact hk1);have HX:Hid (sqS nl m s i k=(s i k).extract 0 (min (s i k).size 4)):=zHi (by unfold sqS;rw [if_pos ⟨hi1,by rw [HMI.out];exact hk1⟩]);obtain⟨sk,hsk⟩:∃sk,s i k=sk:=⟨_,rfl⟩;rw [hsk]at p1 p1d hsz HX;obtain⟨z,hz⟩:∃z,sk.size=z:=⟨_,rfl⟩;obtain⟨z4,hz4⟩:∃z4,min z 4=z4:=⟨_,rfl⟩;have hzi:min (z:Int) 4=(z4:Int):=by omega
       have hzz:z4≤z:=by omega
       rw [hz]at hsz HX;rw [hz4]at HX;clear hcb hrow hsk hz4;gi_wp2;gi_region
       have HOd:=zHi (HOi.out.below (zab wr) (fun _ _ q=>q));have HBd:=zHi (HBi.out.trans ((zab wr).mono HBi.out.size));gi_wp2_with (gi_at_builtin;refine stop ?_)
       unfold Stop;refine zaN (ty:=9) (sz:=1) (bytes:=16) ws wr.drew rfl _ _ rfl Go.Num.u53 i9i i9z i9s i9b rfl (by decide) (by decide) (.slice oi k ci) ((List.range k).map (sqS nl m s i)) rfl HOd.out (sk.extract 0 z4) [.string (sk.extract 0 z4)] _ rfl rfl (by simp [Value.oneCell']) rfl (fun _ _ _ _ _ q=>q) (by rw [List.length_map,List.length_range];omega) HBd.out ?_;intro v5 w4 HO5 HB4 HT4 _;have hnx:=HNX.out _ HX.out;rw [hnx]at HO5;clear hnx;gi_wp2;exact⟨⟨k+1,by go_num,by omega,HO5,HB4⟩,by simp only [intOf];omega⟩
      ·have HX:Hid (sqS nl m s i k=⟨#[48]⟩):=zHi (by unfold sqS;rw [if_neg (fun q=>hk1 (by rw [←HMI.out];exact q.2))]);gi_wp2_with (gi_at_builtin;refine stop ?_)
       unfold Stop;refine zaN (ty:=9) (sz:=1) (bytes:=16) ws wr rfl _ _ rfl Go.Num.u53 i9i i9z i9s i9b rfl (by decide) (by decide) (.slice oi k ci) ((List.range k).map (sqS nl m s i)) rfl HOi.out ⟨#[48]⟩ [.string ⟨#[48]⟩] _ rfl rfl (by simp [Value.oneCell']) rfl (fun _ _ _ _ _ q=>q) (by rw [List.length_map,List.length_range];omega) HBi.out ?_;intro v5 w4 HO5 HB4 HT4 _;have hnx:=HNX.out _ HX.out;rw [hnx]at HO5;clear hnx;gi_wp2;exact⟨⟨k+1,by go_num,by omega,HO5,HB4⟩,by simp only [intOf];omega⟩
     ·have HX:Hid (sqS nl m s i k=⟨#[48]⟩):=zHi (by unfold sqS;rw [if_neg (fun q=>hi1 q.1)]);gi_wp2_with (gi_at_builtin;refine stop ?_)
      unfold Stop;refine zaN (ty:=9) (sz:=1) (bytes:=16) ws wr rfl _ _ rfl Go.Num.u53 i9i i9z i9s i9b rfl (by decide) (by decide) (.slice oi k ci) ((List.range k).map (sqS nl m s i)) rfl HOi.out ⟨#[48]⟩ [.string ⟨#[48]⟩] _ rfl rfl (by simp [Value.oneCell']) rfl (fun _ _ _ _ _ q=>q) (by rw [List.length_map,List.length_range];omega) HBi.out ?_;intro v5 w4 HO5 HB4 HT4 _;have hnx:=HNX.out _ HX.out;rw [hnx]at HO5;clear hnx;gi_wp2;exact⟨⟨k+1,by go_num,by omega,HO5,HB4⟩,by simp only [intOf];omega⟩
    ·obtain rfl:k=n:=by omega
     have H3:=zHi (HO.out.below HBi.out (zjc.below HBi.out));gi_wp2_with (gi_at_builtin;refine stop ?_)
     unfold Stop;refine zaN (ty:=53) (sz:=1) (bytes:=24) w wr rfl _ _ rfl Go.Num.u52 i53i i53z i53s i53b rfl (by decide) (by decide) (.slice oo i co) ((List.range i).map fun i=>(List.range k).map (sqS nl m s i)) rfl H3.out ((List.range k).map (sqS nl m s i)) [.slice oi k ci] _ rfl rfl (by simp [Value.oneCell']) ⟨_,rfl,HOi.out.row (by rw [List.length_map,List.length_range];omega)⟩ (fun b r w1 w2 ht=>zjc.touch ht (by decide) b r) (by rw [List.length_map,List.length_range];omega) HBw.out ?_;intro v7 w5 HO7 HB5 HT5 _;have hnx:(List.range i).map (fun i=>(List.range k).map (sqS nl m s i)) ++ [(List.range k).map (sqS nl m s i)]=(List.range (i+1)).map fun i=>(List.range k).map (sqS nl m s i):=by rw [List.range_succ,List.map_append];rfl
     rw [hnx]at HO7;clear hnx;gi_wp2;exact⟨⟨i+1,by go_num,by omega,HO7,HB5⟩,by simp only [intOf];omega⟩
  ·obtain rfl:i=n:=by omega
   obtain⟨rv2,hta⟩:=zpF (HO.out.row (by rw [List.length_map,List.length_range];omega)) (znD nl m s);have HTA:=zHi hta;clear hta;gi_wp2_with (gi_at_call 25;refine stop ?_)
   unfold Stop;refine(zlw ws _ i rv2 _ _ i HTA.out (by omega) (HL.out.below HBr.out)).mono ?_;rintro e w2 ⟨v1,v2,rfl,_,h2,hB⟩;have hmt:zcJ (fun _=>i) (sqS nl m s) i (min i i)=tab i i (sqQ nl m s):=by
    rw [Nat.min_self];show(List.range i).map (fun a=>zb9 (sqS nl m s a) (min i i))=_
    rw [Nat.min_self];rfl
   rw [hmt]at h2;have H2:=zHi h2;have HB2:=zHi (HBr.out.trans (hB.mono HBr.out.size));clear h2 hB hmt;gi_wp2;all_goals (first|go_returns|go_ret|go_end0)
   exact⟨_,_,rfl,H2.out,HB2.out⟩
theorem zqI{m N:Nat}{Q:Nat→Nat→Rat}(h:∀i j,i<m→j<N→Dig (Q i j)):ziS m N Q:=fun i j hi hj=>(h i j hi hj).le (by decide)
theorem zfz{n:Nat}{Q:Nat→Nat→Rat}(h:∀i j,i<n→j<n→Dig (Q i j)):∀i j,i<n→j<n+n→Dig (zaj Q n i j):=fun i j hi hj=>by
 unfold zaj;split
 ·rename_i hjn;exact h i j hi hjn
 ·split
  ·exact⟨by decide,by decide⟩
  ·exact⟨by decide,by decide⟩
end Go.Num
namespace Go.Num
open Go.Eng Go.Shelf Go.RowKit Go.Sort Go.Proofs Go.Proofs.YtoamcgjbelhnkaaGreatDoor
def zkU(q:Rat):Prop:=q.num.natAbs<10^20∧q.den<10^20
theorem zkU.dig{q:Rat}(h:zkU q):Dig q:=⟨h.1,Nat.le_of_lt h.2⟩
theorem zkU.long{q:Rat}(h:zkU q):zeE q=false:=by
 unfold zeE zbS;rw [decide_eq_true (zdK 19 _ h.1),decide_eq_true (zdK 19 _ h.2)];rfl
theorem Tiny.short{q:Rat}(h:Tiny q):zkU q:=by
 rcases h with⟨h1,h2⟩|⟨h1,h2⟩
 ·exact⟨Nat.lt_of_le_of_lt h1 (by decide),by rw [h2];decide⟩
 ·exact⟨Nat.lt_of_le_of_lt h1 (by decide),Nat.lt_of_le_of_lt h2 (by decide)⟩
theorem ziV{n:Nat}{X Y:Nat→Nat→Rat}(hX:∀i j,Tiny (X i j))(hY:∀i j,Tiny (Y i j))(hn:n≤4)(i j:Nat):zkU (mulM n X Y i j):=by
 obtain⟨a,b,hab,h⟩:=zpM (f:=fun s=>X i s*Y s j) (fun s=>(hX i s).mul (hY s j)) n;have hs:=h.size;have key:bnd a b<10^20∧9801^b<10^20:=by
  have hb:b=0∨b=1∨b=2∨b=3∨b=4:=by omega
  have ha:a=0∨a=1∨a=2∨a=3∨a=4:=by omega
  rcases hb with rfl|rfl|rfl|rfl|rfl <;> rcases ha with rfl|rfl|rfl|rfl|rfl <;> first|(exfalso;omega)|decide
 exact⟨Nat.lt_of_le_of_lt hs.1 key.1,Nat.lt_of_le_of_lt hs.2 key.2⟩
theorem zpj{n:Nat}{Q:Nat→Nat→Rat}(h0:0<n)(h8:n≤8)(h:∀i j,i<n→j<n→zkU (Q i j)):zb8 (tab n n Q)=0:=by
 have hl:(tab n n Q).length=n:=zaq _ _ _;have hm:∀l∈tab n n Q,l.length=n:=fun l hl=>zgm hl
 have hs:∀l∈tab n n Q,∀q∈l,zeE q=false:=fun l hl q hq=>by
  obtain⟨i,hi,rfl⟩:=List.mem_map.1 hl;obtain⟨j,hj,rfl⟩:=List.mem_map.1 hq;exact(h i j (List.mem_range.1 hi) (List.mem_range.1 hj)).long
 generalize tab n n Q=M at hl hm hs
 unfold zb8;rw [if_neg (by omega)]
 cases M with
 | nil=>simp at hl;omega
 | cons r rest=>
  have hr:=hm r (List.mem_cons_self ..);show(if 8<r.length then(2:Int)else if r.length=0 then 7 else if(r :: rest).any (zdJ r.length)then 7 else if(r :: rest).any zcu then 11 else 0)=0
  rw [if_neg (by omega),if_neg (by omega),if_neg (fun e => ?_),if_neg (fun e => ?_)]
  ·obtain⟨l,hl,e⟩:=List.any_eq_true.1 e;obtain⟨q,hq,e⟩:=List.any_eq_true.1 e;rw [hs l hl q hq]at e
   cases e
  ·obtain⟨l,hl,e⟩:=List.any_eq_true.1 e;unfold zdJ at e;rw [hm l hl,hr]at e;simp at e
structure Sq(n:Nat)(Q:Nat→Nat→Rat):Prop where
 short:∀i j,i<n→j<n→zkU (Q i j)
 check:zb8 (tab n n Q)=0
 set1:Set1 n n n Q (fun i=>zgr (Q i) n) (fun i=>1/(facF (Q i) n:Rat))
 le:ziS n n Q
theorem zro{n:Nat}{Q:Nat→Nat→Rat}(h0:0<n)(h8:n≤8)(h:∀i j,i<n→j<n→zkU (Q i j)):Sq n Q:=
 ⟨h,zpj h0 h8 h,znG h8 h0 (by omega) (fun i j hi hj=>(h i j hi hj).dig) (Nat.le_refl n),zqI fun i j hi hj=>(h i j hi hj).dig⟩
theorem zjW(X:Nat→Nat→Rat){n i j:Nat}(h:j<n):zaj X n i j=X i j:=by
 unfold zaj;rw [if_pos h]
theorem zhO(X:Nat→Nat→Rat)(n:Nat):rk n n (zaj X n)=rk n n X:=zrt fun i _ j hj=>zjW X hj
theorem zmR(U:Nat→Nat→Rat)(X:Nat→Nat→Rat)(n:Nat):(kern U (zay n X n) n n).length+rk n n X=n:=by
 have hp:=zdd n X n;have h:=zlM hp.up hp.lt;rw [hp.len]at h;unfold kern;rw [List.length_map];exact h
end Go.Num
namespace Go.Eng
open Go.RowKit
def GOn(ops:Array Oper)(a:CAct)(o:Oper):Prop:=∀x y,o.guard=some (x,y)→∃q d,ops[x]? = some q∧q.dst=some d∧a.tmps.getD d undef = .bool y
def GVal(ops:Array Oper)(val:Nat→Value)(o:Oper):Prop:=∀x y,o.guard=some (x,y)→(∃q d,ops[x]? = some q∧q.dst=some d)∧val x = .bool y
def zjv(o:Oper):Bool:=match o.op with | .defer _=>false | .select .. => false|_=>true
theorem zpy{t:Array Value}{d:Tmp}{b:Bool}(h:t.getD d undef = .bool b):t[d]? = some (.bool b):=by
 rw [Array.getD_eq_getD_getElem?]at h
 cases e:t[d]? with
 | none=>rw [e]at h;cases h
 | some v=>rw [e]at h;exact congrArg some h
def GWK(K:World→Prop)(ks:List Nat)(P:Program)(ro:Option Nat)(ops:Array Oper)(bs bars:List Nat)(Q:CAct→World→Prop):List Nat→CAct→World→Prop
 | [],a,w=>Q a w
 | i :: r,a,w=>∃o,ops[i]? = some o∧GOn ops a o ∧
   ((bars.contains i=true ∧
     ((∃f args,(execOp a.eval o).run P w = .ok (.enter f args) w∧CallsIn (Fz ro) 0 P f args w fun e w'=>∃v,e = .returned v∧((zf7 bs ks ops.size i=true∧K w')∨Below w.heap.size w w')∧GWK K ks P ro ops bs bars Q r (a.put o.dst v) w') ∨
      (∃w' v,((execOp a.eval o).run P w = .ok (.value v) w'∨((execOp a.eval o).run P w = .ok .skip w'∧v=undef))∧((zf7 bs ks ops.size i=true∧K w')∨Below w.heap.size w w')∧GWK K ks P ro ops bs bars Q r (a.put o.dst v) w'))) ∨
    (bars.contains i=false∧∃v,(∀w',(Below w.heap.size w w'∨(ks.contains i=true∧K w'))→(execOp a.eval o).run P w' = .ok (.value v) w')∧GWK K ks P ro ops bs bars Q r (a.put o.dst v) w))
section
variable {P:Program} {ops:Array Oper} {p:Plan}
structure zkX(K:World→Prop)(ks:List Nat)(P:Program)(ro:Option Nat)(ops:Array Oper)(p:Plan)(bars:List Nat)(Q:CAct→World→Prop)(a:CAct)(ord done rest:List Nat)(val:Nat→Value)(g:CAct)(listed:Array Bool)(w:World):Prop where
 ord:done ++ rest=ord
 size:g.tmps.size=a.tmps.size
 defers:g.defers=a.defers
 gW:∀j∈done,∀o d,ops[j]? = some o→o.dst=some d→g.tmps.getD d undef=val j
 g0:∀t,(∀j∈done,∀o,ops[j]? = some o→o.dst≠some t)→g.tmps.getD t undef=a.tmps.getD t undef
 quiet:∀i∈done,¬Did listed i→∀o,ops[i]? = some o→i∉bars∧∀c:CAct,zeX ops p val a i o c→∀w',(Below w.heap.size w w'∨(ks.contains i=true∧K w'))→(execOp c.eval o).run P w' = .ok (.value (val i)) w'
 cont:GWK K ks P ro ops p.bs bars Q rest g w
 gd:∀i∈done,∀o,ops[i]? = some o→GVal ops val o
theorem ziz{K:World→Prop}{ks:List Nat}{ro:Option Nat}{bars:List Nat}{Q:CAct→World→Prop}{a:CAct}{ord done r:List Nat}{i:Nat}{val:Nat→Value}{g:CAct}{listed:Array Bool}{w:World}(hp:zcO ops p)(hord:zfj p.bs bars ord=true)(hall:∀i,i<ops.size→i∈ord)
  (hC:zkX K ks P ro ops p bars Q a ord done (i :: r) val g listed w) {o:Oper} (ho:ops[i]? = some o):zeX ops p val a i o g:=by
 have hs:=hC.ord ▸ hord;obtain⟨h1,h2⟩:=zbt hs;intro t ht;refine⟨fun j q hj hq hd => ?_,fun hno => ?_⟩
 ·refine hC.gW j ?_ q t hq hd;have hjo:j∈ord:=hall j (Array.getElem?_eq_some_iff.1 hq).1;rw [←hC.ord]at hjo;rcases List.mem_append.1 hjo with h|h
  ·exact h
  ·rcases List.mem_cons.1 h with rfl|h
   ·have:=zgA hp j o ho j hj;omega
   ·have:=(h1 j h).1;rw [hj]at this;cases this
 ·refine hC.g0 t fun j hj q hq hd => ?_
  rcases hp.reads i j o q t ho hq hd ht with rfl|hb|hb
  ·exact(h2 i hj).2.1 rfl
  ·exact hno j q hb hq hd
  ·have:=(h2 j hj).1;rw [hb]at this;cases this
theorem ziy{K:World→Prop}{ks:List Nat}{ro:Option Nat}{bars:List Nat}{Q:CAct→World→Prop}{a:CAct}{ord done r:List Nat}{i:Nat}{val:Nat→Value}{g:CAct}{listed:Array Bool}{w:World}(hp:zcO ops p)(hord:zfj p.bs bars ord=true)(hall:∀i,i<ops.size→i∈ord)
  (hC:zkX K ks P ro ops p bars Q a ord done (i :: r) val g listed w) {o:Oper} (ho:ops[i]? = some o) (hg:GOn ops g o):GVal ops val o:=by
 intro x y hx;obtain⟨q,d,hq,hd,hv⟩:=hg x y hx;refine⟨⟨q,d,hq,hd⟩,?_⟩;have hb:=hp.guard i o x y ho hx;have hs:=hC.ord ▸ hord;obtain⟨h1,h2⟩:=zbt hs;have hxo:x∈ord:=hall x (Array.getElem?_eq_some_iff.1 hq).1;rw [←hC.ord]at hxo;have hxd:x∈done:=by
  rcases List.mem_append.1 hxo with h|h
  ·exact h
  ·rcases List.mem_cons.1 h with rfl|h
   ·have:=zgA hp x o ho x hb;omega
   ·have:=(h1 x h).1;rw [hb]at this;cases this
 rw [←hC.gW x hxd q d hq hd];exact hv
theorem zlX{K:World→Prop}{ks:List Nat}{ro:Option Nat}{bars:List Nat}{Q:CAct→World→Prop}{a:CAct}{ord done r:List Nat}{i:Nat}{val:Nat→Value}{g:CAct}{listed listed':Array Bool}{w w':World}(hp:zcO ops p)(hord:zfj p.bs bars ord=true)
  (hdst:∀o∈ops.toList,∀d,o.dst=some d→d<a.tmps.size)
  (hC:zkX K ks P ro ops p bars Q a ord done (i :: r) val g listed w) {o:Oper} (ho:ops[i]? = some o) (v:Value) (hcont:GWK K ks P ro ops p.bs bars Q r (g.put o.dst v) w') (hgv:GVal ops val o)
  (hq:∀j∈done,¬Did listed' j→∀q,ops[j]? = some q→j∉bars∧∀c:CAct,zeX ops p val a j q c→∀w2,(Below w'.heap.size w' w2∨(ks.contains j=true∧K w2))→(execOp c.eval q).run P w2 = .ok (.value (val j)) w2)
  (hi:¬Did listed' i→i∉bars∧∀c:CAct,zeX ops p val a i o c→∀w2,(Below w'.heap.size w' w2∨(ks.contains i=true∧K w2))→(execOp c.eval o).run P w2 = .ok (.value v) w2) :
  zkX K ks P ro ops p bars Q a ord (done ++ [i]) r (upd val i v) (g.put o.dst v) listed' w':=by
 have hs:=hC.ord ▸ hord;obtain⟨h1,h2⟩:=zbt hs;have hom:o∈ops.toList:=List.mem_of_getElem? (by simpa using ho);have hagree:∀j q c,(bsAt p.bs j).testBit i=false→zeX ops p (upd val i v) a j q c→zeX ops p val a j q c:=by
  intro j q c hji hA t ht;refine⟨fun k q' hk hq' hd => ?_,(hA t ht).2⟩;have:=(hA t ht).1 k q' hk hq' hd;rw [zej _ _ _ (fun e=>by rw [e]at hk;rw [hk]at hji;cases hji)]at this;exact this
 refine⟨by rw [←hC.ord];simp,by rw [ze3];exact hC.size,by rw [zdC];exact hC.defers,?_,?_,?_,hcont,?_⟩
 ·intro j hj q d hq' hd;by_cases hji:j=i
  ·subst hji;rw [ho]at hq';cases hq';rw [zeY,hd,ze4 (by rw [hC.size];exact hdst o hom d hd)]
  ·rw [zej _ _ _ hji,zbG (fun e=>hji (hp.dsts j i q o d hq' ho hd e))];rcases List.mem_append.1 hj with h|h
   ·exact hC.gW j h q d hq' hd
   ·simp at h;exact absurd h hji
 ·intro t ht;rw [zbG (ht i (by simp) o ho)];exact hC.g0 t fun j hj q hq'=>ht j (by simp [hj]) q hq'
 ·intro j hj hnd q hq';rcases List.mem_append.1 hj with h|h
  ·have hji:=h2 j h;rw [zej _ _ _ hji.2.1];obtain⟨h3,h4⟩:=hq j h hnd q hq';exact⟨h3,fun c hA=>h4 c (hagree j q c hji.1 hA)⟩
  ·have hji:j=i:=by simpa using h
   subst hji;rw [ho]at hq';cases hq';rw [zeY];obtain⟨h3,h4⟩:=hi hnd;refine⟨h3,fun c hA=>h4 c (hagree j o c ?_ hA)⟩
   cases e:(bsAt p.bs j).testBit j with
   | false=>rfl
   | true=>have:=zgA hp j o ho j e;omega
 ·intro j hj q hq';rcases List.mem_append.1 hj with h|h
  ·have hji:=h2 j h;intro x y hx;obtain⟨k1,k2⟩:=hC.gd j h q hq' x y hx;refine⟨k1,?_⟩;rw [zej _ _ _ (fun e => ?_)]
   ·exact k2
   ·have:=hp.guard j q x y hq' hx;rw [e,hji.1]at this
    cases this
  ·have hji:j=i:=by simpa using h
   subst hji;rw [ho]at hq';cases hq';intro x y hx;obtain⟨k1,k2⟩:=hgv x y hx;refine⟨k1,?_⟩;rw [zej _ _ _ (fun e => ?_)]
   ·exact k2
   ·have:=hp.guard j o x y ho hx;rw [e]at this;have:=zgA hp j o ho j this;omega
theorem zd8{K:World→Prop}{ks:List Nat}{ro:Option Nat}{bars:List Nat}{Q:CAct→World→Prop}{a:CAct}{ord:List Nat}{listed:Array Bool}{w:World}(hp:zcO ops p)(hord:zfj p.bs bars ord=true)(hall:∀i,i<ops.size→i∈ord)
  (hnosel:∀o∈ops.toList,∀cs b,o.op ≠ .select cs b) (hdst:∀o∈ops.toList,∀d,o.dst=some d→d<a.tmps.size) :
  ∀(rest done:List Nat) (val:Nat→Value) (g:CAct),zkX K ks P ro ops p bars Q a ord done rest val g listed w →
   ∃done' rest' val' g',zkX K ks P ro ops p bars Q a ord done' rest' val' g' listed w∧(∀e r,rest'=e :: r→e∈bars)∧(∀j,j∈done→j∈done'∧val' j=val j)∧(∀j,j∈done'→j∈bars→j∈done)
 | [],done,val,g,hC=>⟨done,[],val,g,hC,fun e r h=>(by cases h),fun j hj=>⟨hj,rfl⟩,fun j hj _=>hj⟩
 | i :: r,done,val,g,hC=>by
  obtain⟨o,ho,hgo,hh⟩:=hC.cont;rcases hh with⟨hb,hh⟩|⟨hb,v,hv,hcont⟩
  ·exact⟨done,i :: r,val,g,hC,fun e r' h=>by injection h with h1 h2;subst h1;simpa using hb,fun j hj=>⟨hj,rfl⟩,fun j hj _=>hj⟩
  ·have hs:=hC.ord ▸ hord;obtain⟨h1,h2⟩:=zbt hs;have hnb:i∉bars:=by intro h;rw [show bars.contains i=true by simpa using h]at hb;cases hb
   have hA:=ziz hp hord hall hC ho;have hom:o∈ops.toList:=List.mem_of_getElem? (by simpa using ho);have hC':=zlX hp hord hdst hC ho v hcont (ziy hp hord hall hC ho hgo) hC.quiet (listed':=listed) (fun _=>⟨hnb,fun c hAc w2 hb2=>by
    rw [execOp_congr o (hnosel o hom) (hAc.eval hA)];exact hv w2 hb2⟩)
   obtain⟨done',rest',val',g',k1,k2,k3,k4⟩:=zd8 hp hord hall hnosel hdst r (done ++ [i]) _ _ hC';refine⟨done',rest',val',g',k1,k2,fun j hj => ?_,fun j hj hjb => ?_⟩
   ·obtain⟨h3,h4⟩:=k3 j (by simp [hj]);refine⟨h3,?_⟩;rw [h4,zej _ _ _ (h2 j hj).2.1]
   ·have:=k4 j hj hjb;rcases List.mem_append.1 this with h|h
    ·exact h
    ·have:j=i:=by simpa using h
     subst this;exact absurd hjb hnb
structure zs1(K:World→Prop)(ks:List Nat)(P:Program)(ro:Option Nat)(ops:Array Oper)(p:Plan)(bars:List Nat)(Q:CAct→World→Prop)(a:CAct)(ord done rest:List Nat)(val:Nat→Value)(g:CAct)(listed:Array Bool)(c:CAct)(w:World):Prop where
 core:zkX K ks P ro ops p bars Q a ord done rest val g listed w
 kw:K w
 head:∀e r,rest=e :: r→e∈bars
 lsize:listed.size=ops.size
 closed:∀i j,Did listed i→(bsAt p.bs i).testBit j=true→Did listed j
 sub:∀j,Did listed j→j∈done
 cdefers:c.defers=a.defers
 csize:c.tmps.size=a.tmps.size
 cW:∀j o d,Did listed j→ops[j]? = some o→o.dst=some d→c.tmps.getD d undef=val j
 c0:∀t,(∀j o,Did listed j→ops[j]? = some o→o.dst≠some t)→c.tmps.getD t undef=a.tmps.getD t undef
theorem ztk{K:World→Prop}{ks:List Nat}(hKB:∀w w',K w→Below w.heap.size w w'→K w')(hp:zcO ops p){bars ord:List Nat}(hord:zfj p.bs bars ord=true)(hall:∀i,i<ops.size→i∈ord)(hlt:∀i∈ord,i<ops.size)(hpl:∀o∈ops.toList,zjv o=true){a:CAct}{ro:Option Nat}{Q:Exit→CAct→World→Prop}
  (hdst:∀o∈ops.toList,∀d,o.dst=some d→d<a.tmps.size) :
  ∀(fuel:Nat) (done rest:List Nat) (val:Nat→Value) (g:CAct) (listed:Array Bool) (c:CAct) (w:World),zs1 K ks P ro ops p bars (fun a' w'=>Q .normal a' w') a ord done rest val g listed c w→cntF (fun i=>listed.getD i false) ops.size≤fuel→wpAnyIn (Fz ro) 0 P .any ops Q fuel listed c w:=by
 have hnosel:∀o∈ops.toList,∀cs b,o.op ≠ .select cs b:=by
  intro o ho cs b e;have:=hpl o ho;unfold zjv at this;rw [e]at this
  cases this
 have fin:∀{done rest val g listed c w},zs1 K ks P ro ops p bars (fun a' w'=>Q .normal a' w') a ord done rest val g listed c w→Region.ready .any ops listed = []→Q .normal c w:=by
  intro done rest val g listed c w hI hr;have hdid:=zhP hp hI.lsize hr;have hrest:rest = []:=by
   cases hre:rest with
   | nil=>rfl
   | cons e r=>
    exfalso;have hC:=hI.core;rw [hre]at hC;have heo:e∈ord:=by rw [←hC.ord];simp
    have hs:=hC.ord ▸ hord;have:=(zbt hs).2 e (hI.sub e (hdid e (hlt e heo)));exact this.2.1 rfl
  subst hrest;have hQ:=hI.core.cont;have hcg:c=g:=by
   refine zq6 (by rw [hI.csize,hI.core.size]) (fun t ht => ?_) (by rw [hI.cdefers,hI.core.defers]);by_cases hw:∃(j:Nat) (o:Oper),ops[j]? = some o∧o.dst=some t
   ·obtain⟨j,o,ho,hod⟩:=hw;have hj:=hdid j (Array.getElem?_eq_some_iff.1 ho).1;rw [hI.cW j o t hj ho hod,hI.core.gW j (hI.sub j hj) o t ho hod]
   ·rw [hI.c0 t (fun j o _ ho hod=>hw ⟨j,o,ho,hod⟩),hI.core.g0 t (fun j _ o ho hod=>hw ⟨j,o,ho,hod⟩)]
  rw [hcg];exact hQ
 intro fuel;induction fuel with
 | zero=>
  intro done rest val g listed c w hI hcnt;have hz:cntF (fun i=>listed.getD i false) ops.size=0:=by omega
  have hal:=zgd hz;have hr:Region.ready .any ops listed = []:=by
   cases hq:Region.ready .any ops listed with
   | nil=>rfl
   | cons i r=>
    have:=zc5 hI.lsize (i:=i) (by rw [hq];simp);exact absurd (hal i this.1) this.2.1
  exact⟨hr,fin hI hr⟩
 | succ fuel ih=>
  intro done rest val g listed c w hI hcnt;refine⟨fin hI,?_⟩;intro i hi;obtain⟨hin,hnd,o,ho,hedges⟩:=zc5 hI.lsize hi;have hready:=zkA hp hI.closed ho hedges;have hol:ops.toList[i]? = some o:=by simpa using ho
  have hom:o∈ops.toList:=List.mem_of_getElem? hol;have hilt:i<listed.size:=by rw [hI.lsize];exact hin
  have hcnt':cntF (fun j=>(listed.setIfInBounds i true).getD j false) ops.size≤fuel:=by
   have:=zhq (f:=fun j=>listed.getD j false) (g:=fun j=>(listed.setIfInBounds i true).getD j false) (i:=i) hnd (za4 hilt) (by
    intro j hj;simp [Array.getD_eq_getD_getElem?,Ne.symm hj]) hin
   omega
  have hplo:=hpl o hom;have hop:=hplo;unfold zjv at hop;have hnodef:∀q,o.op ≠ .defer q:=by intro q e;rw [e]at hop;cases hop
  have hwantOf:GVal ops val o→Region.wanted o (yielded ops c.tmps)=true:=fun hgv=>by
   unfold Region.wanted
   cases hg:o.guard with
   | none=>rfl
   | some xy=>
    obtain⟨x,y⟩:=xy;obtain⟨⟨q,d,hq,hd⟩,hv⟩:=hgv x y hg;have hcv:=hI.cW x q d (hready x (hp.guard i o x y ho hg)) hq hd;rw [hv]at hcv;have hyv:yielded ops c.tmps x=some y:=by
     unfold yielded;rw [hq];simp only [Option.bind_some,hd];rw [zpy hcv]
    show(yielded ops c.tmps x == some y)=true
    rw [hyv];exact beq_self_eq_true _
  have hclosed':∀x j,Did (listed.setIfInBounds i true) x→(bsAt p.bs x).testBit j=true→Did (listed.setIfInBounds i true) j:=by
   intro x j hx hj;rcases zcR hx with rfl|hx
   ·exact zax (hready j hj)
   ·exact zax (hI.closed x j hx hj)
  have hcA:zeX ops p val a i o c:=by
   intro t ht;refine⟨fun j q hj hq hd=>hI.cW j q t (hready j hj) hq hd,fun hno => ?_⟩;refine hI.c0 t fun j q hj hq hd => ?_
   rcases hp.reads i j o q t ho hq hd ht with rfl|hb|hb
   ·exact hnd hj
   ·exact hno j q hb hq hd
   ·exact hnd (hI.closed j i hj hb)
  have hput:∀(val':Nat→Value) (v:Value),(∀j,Did listed j→val' j=val j)→val' i=v →
    (c.put o.dst v).defers=a.defers∧(c.put o.dst v).tmps.size=a.tmps.size ∧
    (∀j q d,Did (listed.setIfInBounds i true) j→ops[j]? = some q→q.dst=some d→(c.put o.dst v).tmps.getD d undef=val' j) ∧
    (∀t,(∀j q,Did (listed.setIfInBounds i true) j→ops[j]? = some q→q.dst≠some t)→(c.put o.dst v).tmps.getD t undef=a.tmps.getD t undef):=by
   intro val' v hold hnew;refine⟨by rw [zdC];exact hI.cdefers,by rw [ze3];exact hI.csize,?_,?_⟩
   ·intro j q d hj hq hd;by_cases hji:j=i
    ·subst hji;rw [ho]at hq;cases hq;rw [hd,ze4 (by rw [hI.csize];exact hdst o hom d hd),hnew]
    ·rcases zcR hj with e|hj
     ·exact absurd e hji
     ·rw [zbG (fun e=>hji (hp.dsts j i q o d hq ho hd e)),hold j hj];exact hI.cW j q d hj hq hd
   ·intro t ht;rw [zbG (ht i o (za4 hilt) ho)];exact hI.c0 t (fun j q hj hq=>ht j q (zax hj) hq)
  by_cases hid:i∈done
  ·
   obtain⟨hnb,hq⟩:=hI.core.quiet i hid hnd o ho;have hrun:=hq c hcA w (.inl (Below.refl _ _));obtain⟨e1,e2,e3,e4⟩:=hput val (val i) (fun _ _=>rfl) rfl;have hnext:zs1 K ks P ro ops p bars (fun a' w'=>Q .normal a' w') a ord done rest val g (listed.setIfInBounds i true) (c.put o.dst (val i)) w:=
    ⟨⟨hI.core.ord,hI.core.size,hI.core.defers,hI.core.gW,hI.core.g0,fun j hj hnj=>hI.core.quiet j hj (fun h=>hnj (zax h)),hI.core.cont,hI.core.gd⟩,hI.kw,hI.head,by simp [hI.lsize],hclosed',
     fun j hj=>(zcR hj).elim (fun e=>e ▸ hid) (fun hj=>hI.sub j hj),e1,e2,e3,e4⟩
   have hrest:=ih _ _ _ _ _ _ _ hnext hcnt';simp only [wpOpIn,ho];rw [if_pos (hwantOf (hI.core.gd i hid o ho))];refine⟨fun f _=>ziT ro f,?_⟩;rw [Oper.semAt_eq _ _ _ hnodef,hrun];exact hrest
  ·
   have hio:i∈ord:=hall i hin;rw [←hI.core.ord]at hio;have hir:i∈rest:=by
    rcases List.mem_append.1 hio with h|h
    ·exact absurd h hid
    ·exact h
   obtain⟨e,r,hre⟩:∃e r,rest=e :: r:=by
    cases hrest:rest with
    | nil=>rw [hrest]at hir;cases hir
    | cons e r=>exact⟨e,r,rfl⟩
   have heb:=hI.head e r hre;subst hre;have hs:=hI.core.ord ▸ hord;obtain⟨h1,h2⟩:=zbt hs;have hie:i=e:=by
    rcases List.mem_cons.1 hir with h|h
    ·exact h
    ·exfalso;have hm:=(h1 i h).2.2 heb;exact(h2 e (hI.sub e (hready e hm))).2.1 rfl
   subst hie;obtain⟨o',ho',hgo,hh⟩:=hI.core.cont;rw [ho]at ho';have ho':=Option.some.inj ho';subst ho';have hgA:=ziz hp hord hall hI.core ho;have hexec:=execOp_congr o (hnosel o hom) (hcA.eval hgA);have hcontb:bars.contains i=true:=by simpa using heb
   have after:∀(v:Value) (w':World),((zf7 p.bs ks ops.size i=true∧K w')∨Below w.heap.size w w')→GWK K ks P ro ops p.bs bars (fun a' w'=>Q .normal a' w') r (g.put o.dst v) w'→wpAnyIn (Fz ro) 0 P .any ops Q fuel (listed.setIfInBounds i true) (c.put o.dst v) w':=by
    intro v w' hB hcont;have hC':zkX K ks P ro ops p bars (fun a' w'=>Q .normal a' w') a ord (done ++ [i]) r (upd val i v) (g.put o.dst v) (listed.setIfInBounds i true) w':=by
     refine zlX hp hord hdst hI.core ho v hcont (ziy hp hord hall hI.core ho hgo) (fun j hj hnj q hq => ?_) (fun h=>absurd (za4 hilt) h);obtain⟨h3,h4⟩:=hI.core.quiet j hj (fun h=>hnj (zax h)) q hq;rcases hB with⟨hr,hKw⟩|hB
     ·
      have hjl:j<ops.size:=(Array.getElem?_eq_some_iff.1 hq).1;unfold zf7 at hr;rw [List.all_eq_true]at hr;have:=hr j (List.mem_range.2 hjl);rw [Bool.or_eq_true,Bool.or_eq_true,Bool.or_eq_true]at this;rcases this with h|(h|h)|h
      ·exact absurd (Nat.eq_of_beq_eq_true h) (fun e=>hid (e ▸ hj))
      ·exact absurd (zax (hready j h)) hnj
      ·rw [(h2 j hj).1]at h;cases h
      ·exact⟨h3,fun c' hA w2 hb2=>h4 c' hA w2 (.inr ⟨h,hb2.elim (fun q=>hKB _ _ hKw q) (fun q=>q.2)⟩)⟩
     ·exact⟨h3,fun c' hA w2 hb2=>h4 c' hA w2 (hb2.imp (fun q=>hB.trans (q.mono hB.size)) id)⟩
    obtain⟨done',rest',val',g',k1,k2,k3,k4⟩:=zd8 hp hord hall hnosel hdst r _ _ _ hC';obtain⟨e1,e2,e3,e4⟩:=hput val' v (fun j hj=>by
      rw [(k3 j (by simp [hI.sub j hj])).2,zej _ _ _ (fun e:j=i=>hnd (e ▸ hj))]) (by rw [(k3 i (by simp)).2,zeY])
    refine ih done' rest' val' g' _ _ _ ⟨k1,hB.elim (fun q=>q.2) (fun q=>hKB _ _ hI.kw q),k2,by simp [hI.lsize],hclosed',fun j hj => ?_,e1,e2,e3,e4⟩ hcnt';rcases zcR hj with rfl|hj
    ·exact(k3 j (by simp)).1
    ·exact(k3 j (by simp [hI.sub j hj])).1
   simp only [wpOpIn,ho];rw [if_pos (hwantOf (ziy hp hord hall hI.core ho hgo))];refine⟨fun f _=>ziT ro f,?_⟩;rw [Oper.semAt_eq _ _ _ hnodef,hexec];rcases hh with⟨_,hh⟩|⟨hb,_⟩
   ·rcases hh with⟨f,args,hrun,hcalls⟩|⟨w',v,hrun,hB,hcont⟩
    ·rw [hrun];refine⟨fun h=>absurd (zhu ro h) (by omega),?_⟩;refine CallsIn.mono hcalls ?_;rintro e w' ⟨v,rfl,hB,hcont⟩;exact after v w' hB hcont
    ·rcases hrun with hrun|⟨hrun,rfl⟩
     ·rw [hrun];exact after v w' hB hcont
     ·rw [hrun];exact after undef w' hB hcont
   ·rw [hcontb]at hb;cases hb
def zh1(l:List Oper)(bars ord:List Nat)(nt:Nat):Bool:=
 match zgZ l.toArray with
 | none=>false
 | some p=>zfj p.bs bars ord && (List.range l.length).all (fun i=>ord.contains i) && ord.all (fun i=>Nat.blt i l.length) && l.all zjv && l.all (fun o=>match o.dst with|some d=>Nat.blt d nt|none=>true)
theorem zhv{K:World→Prop}(ks:List Nat)(hKB:∀w w',K w→Below w.heap.size w w'→K w'){id:Nat}{l:List Oper}(bars ord:List Nat)(bs:List Nat){a:CAct}{w:World}{ro:Option Nat}{Q:Exit→CAct→World→Prop}(hm:P.follows .mixedOrders=true)
  (nt:Nat) (hnt:a.tmps.size=nt) (hc:zh1 l bars ord nt=true) (hbs:zf5 l []=bs) (hK:K w.drew) (h:GWK K ks P ro l.toArray bs bars (fun a' w'=>Q .normal a' w') ord a w.drew):(Code.region id l.toArray true).wpIn (Fz ro) 0 P Q a w:=by
 subst hnt;unfold zh1 at hc;split at hc
 ·cases hc
 ·rename_i p hplan;have hp:=zmG hplan;have hpbs:p.bs=bs:=by
   have h2:=hplan;unfold zgZ at h2;simp only [Bool.cond_eq_ite]at h2;split at h2
   ·injection h2 with h2;rw [←h2];exact hbs
   ·cases h2
  subst hpbs;simp only [Bool.and_eq_true,List.all_eq_true]at hc;obtain⟨⟨⟨⟨h1,h2⟩,h3⟩,h4⟩,h5⟩:=hc;have hall:∀i,i<l.toArray.size→i∈ord:=fun i hi=>by simpa using h2 i (List.mem_range.2 (by simpa using hi))
  have hlt:∀i∈ord,i<l.toArray.size:=fun i hi=>by simpa using (zbJ _ _).1 (h3 i hi)
  have hpl:∀o∈l.toArray.toList,zjv o=true:=by simpa using h4
  have hdst:∀o∈l.toArray.toList,∀d,o.dst=some d→d<a.tmps.size:=fun o ho d hd=>by
   have:=h5 o (by simpa using ho);rw [hd]at this;exact(zbJ _ _).1 this
  have hno:∀i,¬Did (Array.replicate l.toArray.size false) i:=by
   intro i hi;unfold Did at hi;rw [Array.getD_eq_getD_getElem?,Array.getElem?_replicate]at hi;split at hi <;> simp at hi
  have hnosel:∀o∈l.toArray.toList,∀cs b,o.op ≠ .select cs b:=by
   intro o ho cs b e;have:=hpl o ho;unfold zjv at this;rw [e]at this
   cases this
  have hC:zkX K ks P ro l.toArray p bars (fun a' w'=>Q .normal a' w') a ord [] ord (fun _=>undef) a (Array.replicate l.toArray.size false) w.drew:=
   ⟨rfl,rfl,rfl,fun j hj=>(by cases hj),fun _ _=>rfl,fun j hj=>(by cases hj),h,fun j hj=>(by cases hj)⟩
  obtain⟨done',rest',val',g',k1,k2,k3,k4⟩:=zd8 hp h1 hall hnosel hdst ord [] _ _ hC;refine wpIn_region_any hm (ztk hKB hp h1 hall hlt hpl hdst _ done' rest' val' g' _ _ _ ⟨k1,hK,k2,by simp,fun i j hi=>absurd hi (hno i),fun j hj=>absurd hj (hno j),rfl,rfl,fun j o d hj=>absurd hj (hno j),fun _ _=>rfl⟩ ?_);have:∀(f:Nat→Bool) n,cntF f n≤n:=by
   intro f n;induction n with
   | zero=>exact Nat.le_refl _
   | succ n ih=>simp only [cntF];split <;> omega
  exact this _ _
end
end Go.Eng
namespace Go.Eng
open Go.RowKit Go.Num Go.Proofs Go.Proofs.YtoamcgjbelhnkaaGreatDoor
def GV(K:World→Prop)(ks:List Nat)(P:Program)(nt:Nat)(ops:Array Oper)(bs bars:List Nat)(Q:CAct→World→Prop)(r:List Nat)(a:CAct)(ov:List (Tmp × Value))(w:World):Prop:=
 a.tmps.size=nt→zf8 nt ov→GWK K ks P none ops bs bars Q r (zbo a ov) w
def GOk(ops:Array Oper)(a:CAct)(ov:List (Tmp × Value)):Option (Nat × Bool)→Prop
 | none=>True
 | some (x,y)=>∃q d,ops[x]? = some q∧q.dst=some d∧zqp a ov d = .bool y
section
variable {K:World→Prop} {ks:List Nat} {P:Program} {nt:Nat} {ops:Array Oper} {bs bars r:List Nat} {i:Nat} {a:CAct} {ov:List (Tmp × Value)} {w:World} {Q:CAct→World→Prop} {o:Oper} {gd:Option (Nat × Bool)}
theorem zso(hk:zf8 a.tmps.size ov)(h:GOk ops a ov o.guard):GOn ops (zbo a ov) o:=by
 intro x y hg;rw [hg]at h;obtain⟨q,d,h1,h2,h3⟩:=h;exact⟨q,d,h1,h2,by rw [zgt a ov hk];exact h3⟩
theorem GV.read{d:Tmp}(v:Value)(ho:ops[i]? = some o)(hg:GOk ops a ov o.guard)(hdst:o.dst=some d)(hb:bars.contains i=false)(hd:Nat.blt d nt=true)
  (hrun:∀w',(Below w.heap.size w w'∨(ks.contains i=true∧K w'))→(execOp (look a ov) o).run P w' = .ok (.value v) w') (h:GV K ks P nt ops bs bars Q r a ((d,v) :: ov) w):GV K ks P nt ops bs bars Q (i :: r) a ov w:=by
 intro hn hk;refine⟨o,ho,zso (by rw [hn];exact hk) hg,.inr ⟨hb,v,fun w' hw' => ?_,?_⟩⟩
 ·rw [zbH a ov (by rw [hn];exact hk)];exact hrun w' hw'
 ·rw [hdst];exact h hn (hk.cons hd)
theorem GV.mv{x:Operand}{v:Value}{d:Tmp}{ty:TypeId}{ps:String}{af:Array Edge}(ho:ops[i]? = some {op:=.move x,dst:=some d,type:=ty,pos:=ps,after:=af,guard:=gd})(hg:GOk ops a ov gd)(hb:bars.contains i=false)(hd:Nat.blt d nt=true)
  (hx:look a ov x=v) (h:GV K ks P nt ops bs bars Q r a ((d,v) :: ov) w):GV K ks P nt ops bs bars Q (i :: r) a ov w:=
 GV.read v ho hg rfl hb hd (fun w' _=>by subst hx;rfl) h
theorem GV.pick{c x y:Operand}{b:Bool}{v:Value}{d:Tmp}{ty:TypeId}{ps:String}{af:Array Edge}(hc:look a ov c = .bool b)(hx:look a ov (bif b then x else y)=v)(ho:ops[i]? = some {op:=.pick c x y,dst:=some d,type:=ty,pos:=ps,after:=af,guard:=gd})(hg:GOk ops a ov gd)(hb:bars.contains i=false)(hd:Nat.blt d nt=true)
  (h:GV K ks P nt ops bs bars Q r a ((d,v) :: ov) w):GV K ks P nt ops bs bars Q (i :: r) a ov w:=
 GV.read v ho hg rfl hb hd (fun w' _=>by
  subst hx
  cases b <;> simp [execOp,hc,go_sem]) h
theorem GV.neq{t t2:TypeId}{x y:Operand}{p q:Int}{b:Bool}{d:Tmp}{ty:TypeId}{ps:String}{af:Array Edge}(hpq:decide (p≠q)=b)
  (ho:ops[i]? = some {op:=.binOp .neq t x y t2,dst:=some d,type:=ty,pos:=ps,after:=af,guard:=gd}) (hg:GOk ops a ov gd) (hb:bars.contains i=false) (hd:Nat.blt d nt=true)
  (hx:look a ov x = .int .i64 p) (hy:look a ov y = .int .i64 q) (h:GV K ks Tryz.prog nt ops bs bars Q r a ((d,.bool b) :: ov) w):GV K ks Tryz.prog nt ops bs bars Q (i :: r) a ov w:=
 GV.read _ ho hg rfl hb hd (fun w' _=>by
  rw [←hpq];simp [execOp,hx,hy,binOp,eqGuard,Op.intCmp,Result.andThen,Sem.run_bind,Sem.run_pure,go_sem]
  rfl) h
theorem GV.neqS{t t2:TypeId}{x y:Operand}{p:ByteArray}{d:Tmp}{ty:TypeId}{ps:String}{af:Array Edge}(hp:(p != p)=false)
  (ho:ops[i]? = some {op:=.binOp .neq t x y t2,dst:=some d,type:=ty,pos:=ps,after:=af,guard:=gd}) (hg:GOk ops a ov gd) (hb:bars.contains i=false) (hd:Nat.blt d nt=true)
  (hx:look a ov x = .string p) (hy:look a ov y = .string p) (h:GV K ks P nt ops bs bars Q r a ((d,.bool false) :: ov) w):GV K ks P nt ops bs bars Q (i :: r) a ov w:=
 GV.read _ ho hg rfl hb hd (fun w' _=>by
  unfold execOp;simp only [hx,hy];simp [eqGuard,binOp,Op.stringOp,Sem.run_pure,hp]) h
theorem GV.ldn{t:TypeId}{x:Operand}{p:Addr}{n:Nat}(cs:List Value){d:Tmp}{ty:TypeId}{ps:String}{af:Array Edge}(hL:zht P t n)(hc:∀j v,cs[j]? = some v→w.cell? (p.add j)=some v)(hks:ks.contains i=false)(ho:ops[i]? = some {op:=.load t x,dst:=some d,type:=ty,pos:=ps,after:=af,guard:=gd})(hg:GOk ops a ov gd)(hb:bars.contains i=false)(hd:Nat.blt d nt=true)
  (hn:cs.length=n) (h0:0<n) (hx:look a ov x = .pointer (some p)) (h:GV K ks P nt ops bs bars Q r a ((d,.agg cs.toArray) :: ov) w):GV K ks P nt ops bs bars Q (i :: r) a ov w:=
 GV.read _ ho hg rfl hb hd (fun w' hb'=>by
  rcases hb' with hb'|⟨q,_⟩
  ·have hp:p.block<w.heap.size:=by
    have:=World.block_lt_of_cell? _ _ (hc 0 _ (List.getElem?_eq_getElem (by omega)));rwa [zac]at this
   have h1:=hL p cs w' hn (fun j v hj=>(hb'.cell (p:=p.add j) (by rw [zac];exact hp)).trans (hc j v hj));simp [execOp,hx,h1]
  ·rw [hks]at q;cases q) h
theorem GV.call{f:FuncId}{fn:Func}{xs:Array Operand}{ts:Array TypeId}(args:List Value){d:Tmp}{ty:TypeId}{ps:String}{af:Array Edge}{R:Value→World→Prop}{f':FuncId}(hfn:P.funcs[f]? = some fn)(hbody:fn.body.isSome=true)(hN:zbr P)
  (ho:ops[i]? = some {op:=.call {callee:=.value (.func f),args:=xs,argTypes:=ts},dst:=some d,type:=ty,pos:=ps,after:=af,guard:=gd}) (hg:GOk ops a ov gd) (hb:bars.contains i=true) (hd:Nat.blt d nt=true)
  (ha:xs.toList.map (look a ov)=args) (hf:f=f') (hcall:CallsIn Fence.wide 0 P f' args.toArray w fun e w'=>∃v,e = .returned v∧R v w'∧Below w.heap.size w w')
  (h:∀v w',R v w'→Below w.heap.size w w'→GV K ks P nt ops bs bars Q r a ((d,v) :: ov) w'):GV K ks P nt ops bs bars Q (i :: r) a ov w:=by
 intro hn hk;subst hf;have hk':zf8 a.tmps.size ov:=by rw [hn];exact hk
 refine⟨_,ho,zso hk' hg,.inl ⟨hb,.inl ⟨f,args.toArray,?_,hcall.mono ?_⟩⟩⟩
 ·have ha':xs.map (zbo a ov).eval=args.toArray:=by rw [zbH a ov hk'];subst ha;apply Array.ext';rw [Array.toList_map]
  rw [←ha'];have hbn:fn.body≠none:=by intro q;rw [q]at hbody;simp at hbody
  have hev:(zbo a ov).eval (.func f) = .func (.func f) #[] #[]:=rfl;unfold execOp;simp only [resolve,hev,Deferred.ofValue,Sem.run_bind,Sem.run_pure,Result.andThen_ok,invoke,callFunc,run_program,hfn,hN f fn hfn hbody,Bool.false_eq_true,if_false];have:fn.body.isNone=false:=by cases hq:fn.body <;> simp_all
  rw [this];simp
 ·rintro e w' ⟨v,rfl,hR,hB⟩;exact⟨v,rfl,.inr hB,h v w' hR hB hn (hk.cons hd)⟩
theorem GV.done(h:Q (zbo a ov) w):GV K ks P nt ops bs bars Q [] a ov w:=fun _ _=>h
theorem ziU{id:Nat}{l:List Oper}(bars ord:List Nat)(bs:List Nat){a:CAct}{w:World}{ro:Option Nat}{Q:Exit→CAct→World→Prop}(hm:P.follows .mixedOrders=true)(hro:ro=none)
  (nt:Nat) (hnt:a.tmps.size=nt) (hc:zh1 l bars ord nt=true) (hbs:zf5 l []=bs) (h:GV (fun _=>True) [] P nt l.toArray bs bars (fun a' w'=>Q .normal a' w') ord a [] w.drew):(Code.region id l.toArray true).wpIn (Fz ro) 0 P Q a w:=by
 subst hro;exact zhv [] (fun _ _ _ _=>trivial) bars ord bs hm nt hnt hc hbs trivial (h hnt (fun p hp=>by cases hp))
end
end Go.Eng
