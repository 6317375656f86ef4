/-
  Decimal digits as a number, and back; what is canonical. Digits by limbs of nine: from the highest limb on, and digit by digit from the lowe
  Conditions: see each statement.
-/
import Derived.Test.YtepakfjilnpodaaGreatDoorRDAQ
import Derived.Test.YtepakfjilnpodaaGreatDoorCards
import Derived.Test.YtepakfjilnpodaaGreatDoorTie
import Derived.WalkKit
import Derived.ProofKit
import Derived.OpenShut
import Derived.Deep.DeepHandedRow
import Derived.Lib.LaidTab
import Derived.Stop.LaidErr
import Derived.Test.YtepakfjilnpodaaGreatDoorRDAM
import Derived.Lib.ParseIntBCases
import Derived.Lib.AtoiTie
import Derived.Test.YtepakfjilnpodaaGreatDoorRDAF
import Derived.Lib.IndexMore
import Derived.Test.YtepakfjilnpodaaGreatDoorRDAO
namespace Go.Num
open Go.ChangeShapes Go.WideShapes Go.ChangeAt Go.RowKit Go.Eng Go.Proofs Go.Proofs.YtepakfjilnpodaaGreatDoor
section
variable {H:Type} {enc:TypeId × Value→H} {P:Program}
theorem post_of_below{f:Func}{s:ChangeSpec}{apart fresh handsOn again:Bool}{W W':World}{args:Array Value}{v:Value}{ds gs:List (DataW H)}{before pa pv:List MemPlace}
  (hW:DataW.Whole enc P f.params.toList s.vars apart W args.toList ds gs before)
  (hres:∀(b:Nat) (sp:Nat→Bool) (hd:Bool),DataW.TrodAll enc P W' b sp hd f.resultTypes.toList (v.resultList f.resultTypes.size) (s.fn H (ds ++ gs)).results [])
  (hargs:∀sp:Nat→Bool,(∀p∈before,sp p.block=true)→DataW.TrodAll enc P W' 0 sp true f.params.toList args.toList (s.fn H (ds ++ gs)).args pa)
  (hvars:∀sp:Nat→Bool,(∀p∈before,sp p.block=true)→DataW.TrodVars enc P W' sp s.vars (s.fn H (ds ++ gs)).vars pv)
  (hps:before=pa ++ pv) (hb:Below W.heap.size W W')
  (hok:∀(j:Nat) (t:TypeId) (r:Value),f.resultTypes[j]? = some t→(v.resultList f.resultTypes.size)[j]? = some r→Value.okWide P W' .any 0 t r) :
  s.post enc P f apart fresh handsOn again W args v W':=by
 have hold:∀p∈before,(fun b=>decide (b<W.heap.size)) p.block=true:=fun p hp=>by simpa using hW.lt p hp
 have hlt:=hW.lt
 refine⟨ds,gs,before,[],pa,pv,hW,hres _ _ _,hargs _ hold,hvars _ hold,World.keptBut_mono (fun p hp=>⟨hp,?_⟩) (hb.frame (· ∈ before)),fun _ => ?_⟩
 ·rw [hps,List.mem_append]at hp
  exact Or.inr hp
 ·obtain⟨_,_,_,_,_,hz,hn⟩:=hW
  refine⟨hok,_,_,([] ++ pa) ++ pv,⟨[] ++ pa,pv,trodAll_append (hargs _ (fun _ _=>rfl)) (hres _ _ _),hvars _ (fun _ _=>rfl),rfl,?_,?_⟩,?_⟩
  ·intro b off hp
   have hp':MemPlace.cell b off∈before:=by rw [hps];simpa using hp
   rw [hb.frozen (hlt _ hp')]
   exact hz b off hp'
  ·intro ha
   have:=hn ha
   rw [hps]at this
   simpa using this
  ·intro p hp _
   rw [hps]
   simpa using hp
end
theorem own:ownKnob Tryz.prog.godebug=none:=by kernel_rfl
theorem laidOut:laidOutB Tryz.prog=true:=by kernel_rfl
theorem gPow:Tryz.prog.globalNamed "internal/strconv.uint64pow10" = some 1:=by kernel_rfl
theorem gPowT:(Tryz.prog.globals[1]?).map (·.type)=some 295:=by kernel_rfl
theorem u226:Tryz.prog.underlying 295=some (.array 20 116):=by kernel_rfl
theorem u111:Tryz.prog.underlying 116=some (.int .u64):=by kernel_rfl
theorem cells111:Tryz.prog.cellsOf 116=1:=by kernel_rfl
theorem cells226:Tryz.prog.cellsOf 295=20:=by kernel_rfl
theorem laid_of{l:List (String × DataW Unit)}{a b:String × DataW Unit}{r:List (String × DataW Unit)}{W:World}(e:l=a :: b :: ("internal/strconv.uint64pow10",Lib.tabData .u64 Lib.pow10Tab) :: r)(hf:(l.filter fun x=>x.2.handleName?.isSome) = [])(h:laidMetH Tryz.prog l W)(hs:W.ShapedOpen Tryz.prog):Laid W:=by
 unfold laidMetH at h
 rw [hf]at h
 have h:laidMet Tryz.prog l W:=h
 rw [e]at h
 exact⟨Lib.tabIs_of_head gPow gPowT u226 u111 cells111 cells226 h.tail.tail,Tryz.laysM219.s1_3 W hs⟩
theorem args_stay{H:Type}{enc:TypeId × Value→H}{W W':World}{sp:Nat→Bool}(hl:laidOutB Tryz.prog=true):∀{ts:List TypeId} {vs:List Value} {ds:List (DataW H)} {ps:List MemPlace},
  (∀t∈ts,Tryz.prog.readableRec t=true∧t<Tryz.prog.types.size)→DataW.TrodAll enc Tryz.prog W 0 (fun _=>true) true ts vs ds ps→(∀p∈ps,W.sameAt W' p)→(∀p∈ps,sp p.block=true)→DataW.TrodAll enc Tryz.prog W' 0 sp true ts vs ds ps
 | [],vs,ds,ps,_,h,_,_=>by
  obtain⟨rfl,rfl,rfl⟩:=trodAll_nil h
  exact trodAll_mk0
 | t :: ts,vs,ds,ps,hr,h,h1,h2=>by
  obtain⟨v,vs',d,ds',p,q,rfl,rfl,rfl,hd,hrest⟩:=trodAll_cons h
  exact⟨p,q,WideElems.Trod_stays hl (hr t (by simp)).1 (hr t (by simp)).2 hd (fun x hx=>h1 x (by simp [hx])) (fun x hx=>h2 x (by simp [hx])),
   args_stay hl (fun t' ht'=>hr t' (by simp [ht'])) hrest (fun x hx=>h1 x (by simp [hx])) (fun x hx=>h2 x (by simp [hx])),rfl⟩
def db64:List Int:=[0,1,56,2,57,49,28,3,61,58,42,50,38,29,17,4,62,47,59,36,45,43,51,22,53,39,33,30,24,18,12,5,63,55,48,27,60,41,37,16,46,35,44,21,52,32,23,11,54,26,40,15,34,20,31,10,25,14,19,9,13,8,7,6]
def db32:List Int:=[0,1,28,2,29,14,24,3,30,22,20,15,25,17,4,8,31,27,13,23,21,19,16,7,26,12,18,6,11,5,10,9]
def acc16:List Nat:=[128,191,160,191,128,159,144,191,128,143] ++ List.replicate 22 0
noncomputable def layCells(cs:Array Value):Obj→Obj
 | .cells _ t frozen => .cells cs t frozen
 | o=>o
noncomputable def laidWorld(os:Os):World:=
 let w:=World.holding Tryz.prog os ⟨#[],#[],[]⟩
 let i:=w.heap.size
 let w:=(w.alloc (.cells #[.string ⟨#[105,110,118,97,108,105,100,32,115,121,110,116,97,120]⟩] 313)).alloc (.cells #[.string ⟨#[118,97,108,117,101,32,111,117,116,32,111,102,32,114,97,110,103,101]⟩] 313)
 {w with heap:=(((((((w.heap.modify 2 (layCells #[.iface 311 (.pointer (some ⟨i,0,none⟩))])).modify 3 (layCells #[.iface 311 (.pointer (some ⟨i+1,0,none⟩))])).modify 1 (layCells (Lib.pow10Tab.map (Value.int .u64)).toArray)).modify 4 (layCells (Pinned.utf8FirstZ.map fun (n:Nat)=>Value.int .u8 (n:Int)).toArray)).modify 5 (layCells (acc16.map fun (n:Nat)=>Value.int .u8 (n:Int)).toArray)).modify 6 (layCells (db32.map (Value.int .u8)).toArray)).modify 7 (layCells (db64.map (Value.int .u8)).toArray))}
end Go.Num
namespace Go.Proofs.YtepakfjilnpodaaGreatDoor.walkClasses
open Go.ChangeShapes Go.WideShapes Go.ChangeAt Go.RowKit Go.Eng Go.Num
theorem fa0:(Rows.walkClassesRow.wf (OpenSpec.ofChange (OpenSpec.ofChange Rows.walkClassesSpec).bare))=true:=by kernel_rfl
theorem fa1:(laidOutB Tryz.pinned.checked.prog)=true:=by kernel_rfl
theorem fa2:(mapsRowed Tryz.pinned.checked.prog)=true:=by kernel_rfl
theorem fa3:(Tryz.f8.params.all (Tryz.pinned.checked.prog.readableRec ·))=true:=by kernel_rfl
theorem fa4:(namedTie Tryz.pinned.checked.prog Rows.walkClassesRow.named (OpenSpec.ofChange Rows.walkClassesSpec).bare.vars)=true:=by kernel_rfl
theorem fa5:(Rows.walkClassesRow.stops == [])=true:=by kernel_rfl
theorem fa6:(Tryz.pinned.checked.prog.stops == [])=true:=by kernel_rfl
theorem fa7:(Rows.walkClassesRow.knobs == [])=true:=by kernel_rfl
theorem fa8:(Tryz.pinned.checked.prog.stopKnobs == [])=true:=by kernel_rfl
theorem fa9:(Rows.walkClassesRow.inPlace == Tryz.pinned.checked.prog.inPlace 8)=true:=by kernel_rfl
theorem fa10:(Rows.walkClassesRow.unfollowed == Tryz.pinned.checked.prog.unfollowed 8)=true:=by kernel_rfl
theorem fa11:(Rows.walkClassesRow.recurses == Tryz.pinned.checked.prog.recurses 8)=true:=by kernel_rfl
theorem fa12:(Rows.walkClassesRow.named == Tryz.pinned.checked.prog.varsNamed 8)=true:=by kernel_rfl
theorem fa13:(Rows.walkClassesRow.maps == (Tryz.f8.params.toList ++ (OpenSpec.ofChange Rows.walkClassesSpec).bare.plain.varTypes Tryz.pinned.checked.prog).any (Tryz.pinned.checked.prog.mapsRec ·))=true:=by kernel_rfl
theorem fa14:(Rows.walkClassesRow.ifaces == (Tryz.f8.params.toList ++ (OpenSpec.ofChange Rows.walkClassesSpec).bare.plain.varTypes Tryz.pinned.checked.prog).any (Tryz.pinned.checked.prog.ifacesRec ·))=true:=by kernel_rfl
theorem fa15:(Rows.walkClassesRow.mapsOut == Tryz.pinned.checked.prog.mapsAmong Tryz.f8.resultTypes.toList)=true:=by kernel_rfl
theorem fa16:(Rows.walkClassesRow.loops == (Tryz.f8.params.toList ++ (OpenSpec.ofChange Rows.walkClassesSpec).bare.plain.varTypes Tryz.pinned.checked.prog).any (Tryz.pinned.checked.prog.loopsFrom ·))=true:=by kernel_rfl
theorem fa17:(Rows.walkClassesRow.wideKeys == (Tryz.f8.params.toList ++ (OpenSpec.ofChange Rows.walkClassesSpec).bare.plain.varTypes Tryz.pinned.checked.prog ++ Tryz.f8.resultTypes.toList).any (Tryz.pinned.checked.prog.wideKeysFrom ·))=true:=by kernel_rfl
theorem fa18:((OpenSpec.ofChange Rows.walkClassesSpec).bare.vars.all (Tryz.pinned.checked.prog.varReadable ·))=true:=by kernel_rfl
theorem fa19:(Tryz.f8.resultTypes.all (fun t=>Tryz.pinned.checked.prog.readableRec t && decide (t<Tryz.pinned.checked.prog.types.size)))=true:=by kernel_rfl
theorem fa20:(Rows.walkClassesRow.ifacesOut == Tryz.f8.resultTypes.toList.any (Tryz.pinned.checked.prog.ifacesRec ·))=true:=by kernel_rfl
theorem fa21:(Rows.walkClassesRow.loopsOut == Tryz.f8.resultTypes.toList.any (Tryz.pinned.checked.prog.loopsFrom ·))=true:=by kernel_rfl
theorem fa22:(Rows.walkClassesRow.plainKeys == Tryz.pinned.checked.prog.plainKeys)=true:=by kernel_rfl
theorem fa23:(Rows.walkClassesRow.shortTexts.isNone)=true:=by kernel_rfl
theorem fa24:(Tryz.pinned.checked.prog.stopsHeard)=true:=by kernel_rfl
theorem fa25:(Tryz.pinned.checked.prog.mayEnter)=true:=by kernel_rfl
theorem fa26:(Rows.walkClassesRow.lifted == Tryz.pinned.checked.prog.liftsFinal)=true:=by kernel_rfl
theorem fa27:(Tryz.pinned.checked.prog.make == some Rows.walkClassesRow.make)=true:=by kernel_rfl
theorem fa28:(Rows.walkClassesRow.kinds == (if Rows.walkClassesRow.domain.isEmpty then []else Tryz.f8.params.toList.map fun t=>match Tryz.pinned.checked.prog.underlying t with|some (.int k)=>some k|_=>none))=true:=by kernel_rfl
theorem fa29:(Rows.walkClassesRow.pinned == Rows.walkClassesRow.pinnedBy)=true:=by kernel_rfl
theorem fa30:(Rows.walkClassesRow.veiled == (Tryz.f8.params.toList ++ (OpenSpec.ofChange Rows.walkClassesSpec).bare.plain.varTypes Tryz.pinned.checked.prog ++ Tryz.f8.resultTypes.toList).any (Tryz.pinned.checked.prog.veiledRec ·))=true:=by kernel_rfl
theorem fa31:(Rows.walkClassesRow.veiledFits Tryz.pinned.checked.prog Tryz.f8.params.toList (Tryz.f8.params.toList ++ (OpenSpec.ofChange Rows.walkClassesSpec).bare.plain.varTypes Tryz.pinned.checked.prog ++ Tryz.f8.resultTypes.toList))=true:=by kernel_rfl
end Go.Proofs.YtepakfjilnpodaaGreatDoor.walkClasses
namespace Go.Num
def sumQ(f:Nat→Rat):Nat→Rat
 | 0=>0
 | n+1=>sumQ f n+f n
theorem sumQ_congr{f g:Nat→Rat}:∀{n:Nat},(∀i,i<n→f i=g i)→sumQ f n=sumQ g n
 | 0,_=>rfl
 | n+1,h=>by show sumQ f n+f n=sumQ g n+g n;rw [sumQ_congr fun i hi=>h i (by omega),h n (by omega)]
inductive Way(E:Nat→Nat→Prop):Nat→Nat→Nat→Prop
 | nil (x):Way E x x 0
 | snoc {x y z k}:Way E x y k→E y z→Way E x z (k+1)
theorem Way.app{E:Nat→Nat→Prop}{x y z k m:Nat}(h:Way E x y k)(g:Way E y z m):Way E x z (k+m):=by
 induction g with
 | nil=>exact h
 | snoc _ e ih=>exact .snoc ih e
theorem way_div{E:Nat→Nat→Prop}{i:Nat}{at':Nat→Nat}{d:Int}(hd:∀x y k,Way E i x k→E x y→d∣(at' x:Int)+1-at' y){x k:Nat}(h:Way E i x k) :
  d∣(at' i:Int)+k-at' x:=by
 induction h with
 | nil=>simp
 | @snoc y z k h e ih=>
  have:=Int.dvd_add ih (hd _ _ _ h e)
  rw [show(at' i:Int)+(k+1:Nat)-at' z=(at' i+k-at' y)+(at' y+1-at' z)from by push_cast;omega]
  exact this
theorem back_div{E:Nat→Nat→Prop}{i:Nat}{at':Nat→Nat}{d:Int}(hd:∀x y k,Way E i x k→E x y→d∣(at' x:Int)+1-at' y){k:Nat}(h:Way E i i k):d∣(k:Int):=by
 have:=way_div hd h
 rwa [show(at' i:Int)+k-at' i=k from by omega]at this
theorem edge_div{E:Nat→Nat→Prop}{i K:Nat}{at' back:Nat→Nat}{g:Int}(hg:∀k,0<k→k≤K→Way E i i k→g∣(k:Int))
  (hat:∀x k,Way E i x k→Way E i x (at' x)) (hback:∀x k,Way E i x k→Way E x i (back x)) (hK:∀x y k,Way E i x k→E x y→at' x+1+back y≤K∧at' y+back y≤K)
  {x y k:Nat} (h:Way E i x k) (e:E x y):g∣(at' x:Int)+1-at' y:=by
 have hy:Way E i y (k+1):=.snoc h e
 have h1:Way E i i (at' x+1+back y):=(Way.snoc (hat _ _ h) e).app (hback _ _ hy)
 have h2:Way E i i (at' y+back y):=(hat _ _ hy).app (hback _ _ hy)
 have d1:=hg _ (by omega) (hK _ _ _ h e).1 h1
 have d2:g∣((at' y+back y:Nat):Int):=by
  rcases Nat.eq_zero_or_pos (at' y+back y)with q|q
  ·rw [q];exact Int.dvd_zero g
  ·exact hg _ q (hK _ _ _ h e).2 h2
 have:=Int.dvd_sub d1 d2
 rwa [show((at' x+1+back y:Nat):Int)-(at' y+back y:Nat)=(at' x:Int)+1-at' y from by push_cast;omega]at this
theorem sumQ_scale(f:Nat→Rat)(c:Rat):∀n,sumQ (fun j=>f j*c) n=sumQ f n*c
 | 0=>by show(0:Rat)=0*c;grind
 | n+1=>by have:=sumQ_scale f c n;show sumQ (fun j=>f j*c) n+f n*c=(sumQ f n+f n)*c;grind
end Go.Num
namespace Go.Num
open Go.Eng
theorem nat_ne{M:Nat}(h:0<M):(M:Rat)≠0:=by exact_mod_cast Nat.pos_iff_ne_zero.1 h
def w14(z:Int):Nat:=((IntKind.u64.wrap z).tmod 14-7).toNat
theorem u64_mod14(z:Int):0≤(IntKind.u64.wrap z).tmod 14∧(IntKind.u64.wrap z).tmod 14<14:=by
 have h:IntKind.u64.wrap z=z%18446744073709551616:=by simp [IntKind.wrap,IntKind.bits,IntKind.signed]
 rw [h]
 have h0:0≤z%18446744073709551616:=by omega
 obtain⟨N,hN⟩:=Int.eq_ofNat_of_zero_le h0
 rw [hN]
 have e:(N:Int).tmod 14=((N%14:Nat):Int):=rfl
 rw [e]
 omega
theorem w14_le(z:Int):w14 z≤6:=by
 have:=u64_mod14 z
 unfold w14
 omega
theorem w14_max(z:Int):max 0 ((IntKind.u64.wrap z).tmod 14-7)=(w14 z:Int):=by
 have:=u64_mod14 z
 unfold w14
 omega
def sumN(f:Nat→Nat):Nat→Nat
 | 0=>0
 | n+1=>sumN f n+f n
section
variable (len:Nat) (m:Nat→Nat) (z:Nat→Nat→Int)
def wt0(i k:Nat):Nat:=if i<len∧k<m i then w14 (z i k)else 0
def sm0(n i:Nat):Nat:=sumN (wt0 len m z i) n
def wtF(n i k:Nat):Nat:=if sm0 len m z n i=0 then(if k=(i+1)%n then 1 else 0)else wt0 len m z i k
def smF(n i:Nat):Nat:=if sm0 len m z n i=0 then 1 else sm0 len m z n i
def tmQ(n i k:Nat):Rat:=(((wtF len m z n i k:Nat):Int):Rat)/(((smF len m z n i:Nat):Int):Rat)
end
theorem sumN_le{f:Nat→Nat}{c:Nat}(h:∀k,f k≤c):∀n,sumN f n≤n*c
 | 0=>by simp [sumN]
 | n+1=>by have:=sumN_le h n;have:=h n;show sumN f n+f n≤(n+1)*c;rw [Nat.add_mul];omega
theorem sumN_ge{f:Nat→Nat}:∀{n k:Nat},k<n→f k≤sumN f n
 | 0,k,h=>by omega
 | n+1,k,h=>by
  show f k≤sumN f n+f n
  rcases Nat.lt_or_ge k n with q|q
  ·have:=sumN_ge (f:=f) q;omega
  ·have:k=n:=by omega
   subst this;omega
theorem sumN_congr{f g:Nat→Nat}:∀{n:Nat},(∀k,k<n→f k=g k)→sumN f n=sumN g n
 | 0,_=>rfl
 | n+1,h=>by show sumN f n+f n=sumN g n+g n;rw [sumN_congr fun k hk=>h k (by omega),h n (by omega)]
theorem sumN_zero:∀n,sumN (fun _=>0) n=0
 | 0=>rfl
 | n+1=>by show sumN (fun _=>0) n+0=0;rw [sumN_zero n]
theorem sumN_one{j:Nat}:∀{n:Nat},j<n→sumN (fun k=>if k=j then 1 else 0) n=1
 | 0,h=>by omega
 | n+1,h=>by
  show sumN (fun k=>if k=j then 1 else 0) n+(if n=j then 1 else 0)=1
  rcases Nat.lt_or_ge j n with q|q
  ·rw [sumN_one q,if_neg (by omega)]
  ·have:j=n:=by omega
   subst this
   rw [if_pos rfl,sumN_congr (g:=fun _=>0) (fun k hk=>if_neg (by omega)),sumN_zero]
section
variable {len:Nat} {m:Nat→Nat} {z:Nat→Nat→Int} {n:Nat}
theorem wt0_le(i k:Nat):wt0 len m z i k≤6:=by
 unfold wt0
 split
 ·exact w14_le _
 ·omega
theorem smF_pos(i:Nat):0<smF len m z n i:=by
 unfold smF
 split <;> omega
theorem smF_le(h:0<n)(i:Nat):smF len m z n i≤n*6:=by
 unfold smF
 split
 ·omega
 ·exact sumN_le (fun k=>wt0_le i k) n
theorem wtF_sum(h:0<n)(i:Nat):sumN (wtF len m z n i) n=smF len m z n i:=by
 unfold smF
 split
 ·rename_i h0
  rw [sumN_congr (g:=fun k=>if k=(i+1)%n then 1 else 0) (fun k _=>by unfold wtF;rw [if_pos h0])]
  exact sumN_one (Nat.mod_lt _ h)
 ·rename_i h0
  exact sumN_congr fun k _=>by unfold wtF;rw [if_neg h0]
theorem wtF_le(h:0<n){i k:Nat}(hk:k<n):wtF len m z n i k≤smF len m z n i:=by
 rw [←wtF_sum h i];exact sumN_ge hk
theorem natCast_sumN(f:Nat→Nat):∀n,((sumN f n:Nat):Rat)=sumQ (fun k=>(f k:Rat)) n
 | 0=>rfl
 | n+1=>by
  show((sumN f n+f n:Nat):Rat)=sumQ (fun k=>(f k:Rat)) n+(f n:Rat)
  rw [Rat.natCast_add,natCast_sumN f n]
theorem tmQ_sum(h:0<n)(i:Nat):sumQ (fun k=>tmQ len m z n i k) n=1:=by
 have h1:=nat_ne (smF_pos (len:=len) (m:=m) (z:=z) (n:=n) i)
 have e:∀k,tmQ len m z n i k=(wtF len m z n i k:Rat)*(1/(smF len m z n i:Rat)):=fun k=>by
  unfold tmQ
  rw [Rat.intCast_natCast,Rat.intCast_natCast]
  grind
 rw [sumQ_congr (g:=fun k=>(wtF len m z n i k:Rat)*(1/(smF len m z n i:Rat))) (fun k _=>e k),sumQ_scale,←natCast_sumN,wtF_sum h]
 grind
end
end Go.Num
namespace Go.Num
open Go.Lib
def isDig(b:UInt8):Bool:=decide (48≤b.toNat∧b.toNat≤57)
def decVal(l:List UInt8):Nat:=l.foldl (fun a b=>10*a+(b.toNat-48)) 0
theorem foldl_val(l:List UInt8):∀a:Nat,l.foldl (fun a b=>10*a+(b.toNat-48)) a=a*10^l.length+decVal l:=by
 induction l with
 | nil=>intro a;simp [decVal]
 | cons b r ih=>
  intro a
  show r.foldl _ (10*a+(b.toNat-48))=_
  have e:decVal (b :: r)=(b.toNat-48)*10^r.length+decVal r:=by
   show r.foldl _ (10*0+(b.toNat-48))=_
   rw [ih,Nat.mul_zero,Nat.zero_add]
  rw [ih,e,List.length_cons,Nat.pow_succ,Nat.add_mul,Nat.add_assoc,Nat.mul_comm 10 a,Nat.mul_assoc,Nat.mul_comm 10]
theorem decVal_append(a b:List UInt8):decVal (a ++ b)=decVal a*10^b.length+decVal b:=by
 show(a ++ b).foldl _ 0=_
 rw [List.foldl_append,foldl_val]
 rfl
theorem decVal_one(b:UInt8):decVal [b]=b.toNat-48:=by simp [decVal]
theorem decVal_cons(b:UInt8)(r:List UInt8):decVal (b :: r)=(b.toNat-48)*10^r.length+decVal r:=by
 have:=decVal_append [b] r
 rw [decVal_one]at this
 exact this
theorem decVal_last(a:List UInt8)(b:UInt8):decVal (a ++ [b])=decVal a*10+(b.toNat-48):=by
 rw [decVal_append,decVal_one];simp
theorem isDig_lt{b:UInt8}(h:isDig b=true):b.toNat-48<10:=by
 have:=of_decide_eq_true h;omega
theorem decVal_lt{l:List UInt8}(h:l.all isDig=true):decVal l<10^l.length:=by
 induction l with
 | nil=>simp [decVal]
 | cons b r ih=>
  simp only [List.all_cons,Bool.and_eq_true]at h
  have h1:=isDig_lt h.1
  have h2:=ih h.2
  have e:decVal (b :: r)=(b.toNat-48)*10^r.length+decVal r:=decVal_cons b r
  rw [e,List.length_cons,Nat.pow_succ,Nat.mul_comm _ 10]
  have:(b.toNat-48)*10^r.length≤9*10^r.length:=Nat.mul_le_mul_right _ (by omega)
  omega
theorem all_take{l:List UInt8}(h:l.all isDig=true)(m:Nat):(l.take m).all isDig=true:=by
 rw [List.all_eq_true]at h ⊢
 exact fun x hx=>h x (List.mem_of_mem_take hx)
theorem all_drop{l:List UInt8}(h:l.all isDig=true)(m:Nat):(l.drop m).all isDig=true:=by
 rw [List.all_eq_true]at h ⊢
 exact fun x hx=>h x (List.mem_of_mem_drop hx)
theorem decVal_take{l:List UInt8}(h:l.all isDig=true)(m:Nat):decVal (l.take m)=decVal l/10^(l.length-m):=by
 have e:decVal l=decVal (l.take m)*10^(l.length-m)+decVal (l.drop m):=by
  have:=decVal_append (l.take m) (l.drop m)
  rw [List.take_append_drop,List.length_drop]at this
  exact this
 have h2:=decVal_lt (all_drop h m)
 rw [List.length_drop]at h2
 rw [e,Nat.mul_comm,Nat.mul_add_div (Nat.pow_pos (by decide)),Nat.div_eq_of_lt h2,Nat.add_zero]
theorem decVal_drop{l:List UInt8}(h:l.all isDig=true)(m:Nat):decVal (l.drop m)=decVal l%10^(l.length-m):=by
 have e:decVal l=decVal (l.take m)*10^(l.length-m)+decVal (l.drop m):=by
  have:=decVal_append (l.take m) (l.drop m)
  rw [List.take_append_drop,List.length_drop]at this
  exact this
 have h2:=decVal_lt (all_drop h m)
 rw [List.length_drop]at h2
 rw [e,Nat.mul_comm,Nat.mul_add_mod,Nat.mod_eq_of_lt h2]
def canon(l:List UInt8):Bool:=!l.isEmpty && (l == [48] || !(l.head? == some 48)) && l.all isDig
theorem byte_digit{b:UInt8}(h:isDig b=true):UInt8.ofNat (48+(b.toNat-48))=b:=by
 have:=of_decide_eq_true h
 rw [show 48+(b.toNat-48)=b.toNat by omega]
 exact UInt8.ofNat_toNat
theorem digit_byte{d:Nat}(h:d<10):(UInt8.ofNat (48+d)).toNat=48+d:=by
 rw [UInt8.toNat_ofNat'];omega
theorem canon_dig{l:List UInt8}(h:canon l=true):l.all isDig=true:=by
 unfold canon at h;simp only [Bool.and_eq_true]at h;exact h.2
theorem canon_ne{l:List UInt8}(h:canon l=true):l ≠ []:=by
 rintro rfl;simp [canon]at h
theorem decVal_pos:∀{l:List UInt8} {b:UInt8},(b :: l).all isDig=true→b≠48→0<decVal (b :: l):=by
 intro l b h hb
 have e:decVal (b :: l)=(b.toNat-48)*10^l.length+decVal l:=decVal_cons b l
 simp only [List.all_cons,Bool.and_eq_true]at h
 have h1:=of_decide_eq_true h.1
 have:b.toNat≠48:=fun e=>hb (UInt8.toNat_inj.1 e)
 have h2:0<10^l.length:=Nat.pow_pos (by decide)
 have:1*10^l.length≤(b.toNat-48)*10^l.length:=Nat.mul_le_mul_right _ (by omega)
 omega
theorem dec_of_digits:∀(n:Nat) (l:List UInt8),l.length=n+1→l.all isDig=true→(n=0∨l.head? ≠ some 48)→decDigits (decVal l)=l
 | 0,l,hn,hd,_=>by
  match l,hn with
  | [b],_=>
   simp only [List.all_cons,List.all_nil,Bool.and_true]at hd
   have h1:=isDig_lt hd
   rw [decVal_one,decDigits,dif_pos h1,byte_digit hd]
 | n+1,l,hn,hd,hh=>by
  obtain⟨a,b,rfl⟩:∃a b,l=a ++ [b]:=by
   have hne:l ≠ []:=by rintro rfl;simp at hn
   exact⟨l.dropLast,l.getLast hne,(List.dropLast_concat_getLast hne).symm⟩
  rw [List.length_append,List.length_singleton]at hn
  rw [List.all_append,Bool.and_eq_true]at hd
  have hb:isDig b=true:=by have:=hd.2;simpa using this
  have h1:=isDig_lt hb
  have hah:a.head? ≠ some 48:=by
   rcases hh with hh|hh
   ·omega
   ·intro e
    apply hh
    cases a with
    | nil=>simp at e
    | cons c r=>simpa using e
  have hpos:0<decVal a:=by
   cases a with
   | nil=>simp at hn
   | cons c r=>exact decVal_pos hd.1 (fun e=>hah (by simp [e]))
  rw [decVal_last,decDigits,dif_neg (by omega),show(decVal a*10+(b.toNat-48))/10=decVal a by omega,show(decVal a*10+(b.toNat-48))%10=b.toNat-48 by omega,byte_digit hb]
  rw [dec_of_digits n a (by omega) hd.1 (.inr hah)]
theorem dec_canon{l:List UInt8}(h:canon l=true):decDigits (decVal l)=l:=by
 have hd:=canon_dig h
 have hn:=canon_ne h
 obtain⟨n,hl⟩:∃n,l.length=n+1:=by
  cases l with
  | nil=>exact absurd rfl hn
  | cons a r=>exact⟨r.length,rfl⟩
 refine dec_of_digits n l hl hd ?_
 unfold canon at h
 simp only [Bool.and_eq_true,Bool.or_eq_true]at h
 rcases h.1.2 with h|h
 ·left
  have:l = [48]:=by simpa using h
  rw [this]at hl;simp at hl;omega
 ·right
  intro e
  rw [e]at h
  simp at h
theorem dec_all(u:Nat):(decDigits u).all isDig=true:=by
 induction u using Nat.strongRecOn with
 | _ u ih=>
  rw [decDigits]
  split
  ·rename_i h
   simp only [List.all_cons,List.all_nil,Bool.and_true,isDig,digit_byte h]
   exact decide_eq_true (by omega)
  ·rename_i h
   rw [List.all_append,ih (u/10) (by omega)]
   simp only [List.all_cons,List.all_nil,Bool.and_true,Bool.true_and,isDig,digit_byte (show u%10<10 by omega)]
   exact decide_eq_true (by omega)
theorem val_dec(u:Nat):decVal (decDigits u)=u:=by
 induction u using Nat.strongRecOn with
 | _ u ih=>
  rw [decDigits]
  split
  ·rename_i h
   rw [decVal_one,digit_byte h];omega
  ·rename_i h
   rw [decVal_last,ih (u/10) (by omega),digit_byte (by omega)]
   omega
theorem dec_ne(u:Nat):decDigits u ≠ []:=by
 intro h
 have:=decDigits_length u
 rw [h]at this
 have:=nDigits_pos u
 simp at *
 omega
theorem dec_head(u:Nat)(h:0<u):(decDigits u).head? ≠ some 48:=by
 induction u using Nat.strongRecOn with
 | _ u ih=>
  rw [decDigits]
  split
  ·rename_i h10
   intro e
   have e:UInt8.ofNat (48+u)=48:=by simpa using e
   have:=digit_byte h10
   rw [e]at this
   have:(48:Nat)=48+u:=this
   omega
  ·rename_i h10
   have:=ih (u/10) (by omega) (by omega)
   intro e
   apply this
   cases hc:decDigits (u/10)with
   | nil=>exact absurd hc (dec_ne _)
   | cons c r=>rw [hc]at e;simpa using e
theorem canon_dec(u:Nat):canon (decDigits u)=true:=by
 unfold canon
 simp only [Bool.and_eq_true,Bool.or_eq_true]
 refine⟨⟨?_,?_⟩,dec_all u⟩
 ·cases hc:decDigits u with
  | nil=>exact absurd hc (dec_ne _)
  | cons c r=>rfl
 ·rcases Nat.eq_zero_or_pos u with rfl|h
  ·left;rw [decDigits];rfl
  ·right
   have:=dec_head u h
   cases hc:(decDigits u).head? with
   | none=>rfl
   | some c=>
    rw [hc]at this
    have hne:c≠48:=fun e=>this (by rw [e])
    simp [hne]
theorem decFrom_val:∀(l:List UInt8) (acc:Nat),l.all isDig=true→decFrom acc l=some (acc*10^l.length+decVal l)
 | [],acc,_=>by simp [decFrom,decVal]
 | b :: r,acc,h=>by
  simp only [List.all_cons,Bool.and_eq_true]at h
  have h1:=of_decide_eq_true h.1
  have e:decVal (b :: r)=(b.toNat-48)*10^r.length+decVal r:=decVal_cons b r
  unfold decFrom digitVal
  rw [if_pos h1]
  show decFrom (acc*10+(b.toNat-48)) r=_
  rw [decFrom_val r _ h.2,e,List.length_cons,Nat.pow_succ,Nat.add_mul,Nat.add_assoc,Nat.mul_assoc,Nat.mul_comm 10]
theorem parse_short{l:List UInt8}(h:l.all isDig=true)(hn:l ≠ [])(h9:l.length≤9):parseUintB 64 l = .ok (decVal l):=by
 rw [parseUintB_64]
 unfold parseMag
 rw [if_neg hn,parseUint10_short l 0 0 (by decide) (by omega),decFrom_val l 0 h,Nat.zero_mul,Nat.zero_add]
 rfl
def slashAt(l:List UInt8):Nat:=(l.takeWhile (fun b => !(b == 47))).length
theorem slash_le(l:List UInt8):slashAt l≤l.length:=(List.takeWhile_sublist _).length_le
theorem slash_take(l:List UInt8):l.take (slashAt l)=l.takeWhile (fun b => !(b == 47)):=by
 unfold slashAt
 induction l with
 | nil=>rfl
 | cons b r ih=>
  rw [List.takeWhile_cons]
  split
  ·simp only [List.length_cons,List.take_succ_cons,ih]
  ·simp
theorem slash_before(l:List UInt8){i:Nat}(h:i<slashAt l):l[i]? ≠ some 47:=by
 have h1:(l.take (slashAt l))[i]? = l[i]?:=by rw [List.getElem?_take,if_pos h]
 rw [slash_take]at h1
 intro e
 rw [e]at h1
 have hm:=List.mem_of_getElem? h1
 have:=(List.all_eq_true.1 (List.all_takeWhile (p:=fun b:UInt8 => !(b == 47)) (l:=l))) _ hm
 simp at this
theorem slash_is(l:List UInt8)(h:slashAt l<l.length):l[slashAt l]? = some 47:=by
 unfold slashAt at *
 induction l with
 | nil=>simp at h
 | cons b r ih=>
  rw [List.takeWhile_cons]at h ⊢
  split
  ·rename_i hb
   rw [if_pos hb]at h
   simp only [List.length_cons,List.getElem?_cons_succ]at h ⊢
   exact ih (by omega)
  ·rename_i hb
   have hb':b=47:=by simpa using hb
   rw [hb'];rfl
theorem slash_unique{l:List UInt8}{k:Nat}(h1:∀i,i<k→l[i]? ≠ some 47)(h2:k<l.length→l[k]? = some 47)(h3:k≤l.length):slashAt l=k:=by
 rcases Nat.lt_trichotomy (slashAt l) k with h|h|h
 ·exact absurd (slash_is l (by omega)) (h1 _ h)
 ·exact h
 ·have:=slash_le l
  exact absurd (h2 (by omega)) (slash_before l h)
theorem isPrefix_one(l:List UInt8):List.isPrefixOf [47] l=(l.head? == some 47):=by
 cases l with
 | nil=>rfl
 | cons b r=>
  simp only [List.isPrefixOf,List.head?_cons,Bool.and_true]
  rw [Bool.eq_iff_iff]
  simp
  exact eq_comm
theorem index_slash(l:List UInt8):index l [47]=if slashAt l<l.length then(slashAt l:Int)else -1:=by
 rcases index_spec l [47]with⟨h1,h2⟩|⟨i,h1,h2,h3,h4⟩
 ·rw [h1,if_neg]
  intro h
  have:=h2 (slashAt l) (by omega)
  unfold occAt at this
  rw [isPrefix_one,List.head?_drop,slash_is l h]at this
  simp at this
 ·have hi:l[i]? = some 47:=by
   unfold occAt at h3
   rw [isPrefix_one,List.head?_drop]at h3
   simpa using h3
  have hlt:i<l.length:=by
   apply Classical.byContradiction
   intro hn
   rw [List.getElem?_eq_none (by omega)]at hi
   cases hi
  have hs:slashAt l=i:=slash_unique (fun j hj e=>by
   have:=h4 j hj
   unfold occAt at this
   rw [isPrefix_one,List.head?_drop,e]at this
   simp at this) (fun _=>hi) h2
  rw [h1,hs,if_pos hlt]
theorem cut_slash(l:List UInt8):cut l [47]=if slashAt l<l.length then(l.take (slashAt l),l.drop (slashAt l+1),true)else(l,[],false):=by
 unfold cut
 rw [index_slash]
 by_cases h:slashAt l<l.length
 ·rw [if_pos h,if_pos h,if_pos (by omega)];simp
 ·rw [if_neg h,if_neg h,if_neg (by omega)]
def isNeg(l:List UInt8):Bool:=hasPrefix l [45]
def ownOf(l:List UInt8):List UInt8:=trimPrefix l [45]
def formZ(l:List UInt8):Option Int:=
 if canon (ownOf l) && !(isNeg l && ownOf l == [48])then some (sgn (isNeg l) (decVal (ownOf l)))else none
theorem isNeg_cons(b:UInt8)(r:List UInt8):isNeg (b :: r)=(b == 45):=by
 unfold isNeg hasPrefix
 simp only [List.isPrefixOf,Bool.and_true]
 rw [Bool.eq_iff_iff];simp;exact eq_comm
theorem ownOf_neg(r:List UInt8):ownOf (45 :: r)=r:=by
 unfold ownOf trimPrefix
 rw [if_pos (by rfl)];rfl
theorem ownOf_pos{l:List UInt8}(h:isNeg l=false):ownOf l=l:=by
 unfold ownOf trimPrefix
 rw [if_neg];unfold isNeg at h;rw [h];simp
theorem dec_no45(u:Nat):isNeg (decDigits u)=false:=by
 have:=dec_all u
 cases h:decDigits u with
 | nil=>rfl
 | cons b r=>
  rw [h]at this
  simp only [List.all_cons,Bool.and_eq_true]at this
  have h1:=of_decide_eq_true this.1
  rw [isNeg_cons,beq_eq_false_iff_ne]
  rintro rfl
  have:(45:UInt8).toNat=45:=rfl
  omega
theorem text_formZ(z:Int):formZ (itoa z)=some z:=by
 unfold itoa
 split
 ·rename_i hz
  have hn:isNeg (45 :: decDigits z.natAbs)=true:=by rw [isNeg_cons];rfl
  have hc:(canon (decDigits z.natAbs) && !(decDigits z.natAbs == [48]))=true:=by
   rw [canon_dec]
   have:decDigits z.natAbs ≠ [48]:=by
    intro e
    have:=val_dec z.natAbs
    rw [e,decVal_one]at this
    simp at this
    omega
   simpa using this
  unfold formZ
  rw [hn,ownOf_neg,Bool.true_and,if_pos hc,val_dec]
  unfold sgn
  rw [if_pos rfl]
  congr 1;omega
 ·rename_i hz
  unfold formZ
  rw [dec_no45,ownOf_pos (dec_no45 _),canon_dec]
  simp only [Bool.false_and,Bool.not_false,Bool.and_self,if_true,val_dec,Option.some.injEq]
  unfold sgn
  rw [if_neg (by simp)];omega
theorem itoa_no47(z:Int):∀x∈itoa z,x≠47:=by
 have hd:∀u,∀x∈decDigits u,x≠47:=fun u x hx=>by
  have:=List.all_eq_true.1 (dec_all u) x hx
  have:=of_decide_eq_true this
  rintro rfl
  have:(47:UInt8).toNat=47:=rfl
  omega
 unfold itoa
 split
 ·intro x hx
  rcases List.mem_cons.1 hx with rfl|hx
  ·decide
  ·exact hd _ x hx
 ·exact hd _
def formQ(l:List UInt8):Option Rat:=
 if slashAt l<l.length then
  match formZ (l.take (slashAt l))with
  | none=>none
  | some z=>if canon (l.drop (slashAt l+1)) && decide (2≤decVal (l.drop (slashAt l+1))) && decide (Nat.gcd z.natAbs (decVal (l.drop (slashAt l+1)))=1)
   then some ((z:Rat)/(decVal (l.drop (slashAt l+1)):Rat))else none
 else match formZ l with
  | none=>none
  | some z=>some ((z:Int):Rat)
def textL(q:Rat):List UInt8:=if q.den=1 then itoa q.num else itoa q.num ++ 47 :: decDigits q.den
theorem quot_partsT{z:Int}{d:Nat}(hd:d≠0)(hg:Nat.gcd z.natAbs d=1):((z:Rat)/(d:Rat)).num=z∧((z:Rat)/(d:Rat)).den=d:=by
 have e:(z:Rat)/(d:Rat)=frac (decide (z<0)) z.natAbs d:=by
  unfold frac
  have:sgn (decide (z<0)) z.natAbs=z:=by unfold sgn;simp;omega
  rw [this,Rat.divInt_eq_div];rfl
 have h:=frac_parts (neg:=decide (z<0)) (n:=z.natAbs) hd
 rw [←e,Nat.gcd_comm,hg,Nat.div_one,Nat.div_one]at h
 refine⟨?_,h.2.1⟩
 have h3:=h.2.2
 have h1:=h.1
 by_cases hz:z<0
 ·have:=h3.2 ⟨decide_eq_true hz,by omega⟩
  omega
 ·have:¬((z:Rat)/(d:Rat)).num<0:=fun hh=>hz (of_decide_eq_true (h3.1 hh).1)
  omega
theorem slash_cut{a b:List UInt8}(h:∀x∈a,x≠47):slashAt (a ++ 47 :: b)=a.length:=by
 refine slash_unique (fun i hi e => ?_) (fun _=>by simp) (by simp)
 rw [List.getElem?_append_left hi]at e
 exact h _ (List.mem_of_getElem? e) rfl
theorem slash_none{a:List UInt8}(h:∀x∈a,x≠47):slashAt a=a.length:=
 slash_unique (fun _ _ e=>h _ (List.mem_of_getElem? e) rfl) (fun h=>absurd h (by omega)) (Nat.le_refl _)
theorem text_formQ(q:Rat):formQ (textL q)=some q:=by
 unfold textL
 split
 ·rename_i h1
  have hs:slashAt (itoa q.num)=(itoa q.num).length:=slash_none (itoa_no47 _)
  unfold formQ
  rw [hs,if_neg (by omega),text_formZ]
  show some ((q.num:Rat))=some q
  congr 1
  apply Rat.ext
  ·exact Rat.num_intCast _
  ·rw [h1];exact Rat.den_intCast _
 ·rename_i h1
  have hs:slashAt (itoa q.num ++ 47 :: decDigits q.den)=(itoa q.num).length:=slash_cut (itoa_no47 _)
  have hz:=q.den_nz
  unfold formQ
  rw [hs,if_pos (by simp),List.take_left,text_formZ]
  have e:(itoa q.num ++ 47 :: decDigits q.den).drop ((itoa q.num).length+1)=decDigits q.den:=by
   rw [List.drop_append]
   simp
  rw [e,canon_dec,val_dec]
  have hc:(true && decide (2≤q.den) && decide (Nat.gcd q.num.natAbs q.den=1))=true:=by
   have:Nat.gcd q.num.natAbs q.den=1:=q.reduced
   simp [this];omega
  rw [show(match some q.num with|none=>none|some z=>if(true && decide (2≤q.den) && decide (Nat.gcd z.natAbs q.den=1))=true then some ((z:Rat)/(q.den:Rat))else none)=if(true && decide (2≤q.den) && decide (Nat.gcd q.num.natAbs q.den=1))=true then some ((q.num:Rat)/(q.den:Rat))else none from rfl,if_pos hc]
  congr 1
  have hp:=quot_partsT (z:=q.num) hz q.reduced
  exact Rat.ext hp.1 hp.2
theorem B_pow(k:Nat):B^k=10^(9*k):=by
 rw [Nat.pow_mul];rfl
theorem chunk_limb{l:List UInt8}(h:l.all isDig=true){i m:Nat}(hm:m+9*i=l.length):decVal ((l.take m).drop (m-9))=limb (decVal l) i:=by
 have hlen:(l.take m).length=m:=by rw [List.length_take];omega
 rw [decVal_drop (all_take h m),hlen,decVal_take h m,show l.length-m=9*i by omega,←B_pow]
 unfold limb
 rcases Nat.lt_or_ge m 9 with h9|h9
 ·have h1:decVal l/B^i<10^m:=by
   have:=decVal_lt (all_take h m)
   rw [decVal_take h m,hlen,show l.length-m=9*i by omega,←B_pow]at this
   exact this
  have h2:10^m≤10^9:=Nat.pow_le_pow_right (by decide) (by omega)
  have h3:(10:Nat)^9=B:=by decide
  rw [show m-(m-9)=m by omega,Nat.mod_eq_of_lt h1,Nat.mod_eq_of_lt (by omega)]
 ·rw [show m-(m-9)=9 by omega];rfl
theorem val_limbs{l:List UInt8}(h:l.all isDig=true){k:Nat}(hk:l.length≤9*k):decVal l<B^k:=by
 rw [B_pow]
 exact Nat.lt_of_lt_of_le (decVal_lt h) (Nat.pow_le_pow_right (by decide) hk)
end Go.Num
namespace Go.Num
open Go.Eng Go.Shelf Go.RowKit Go.Sort Go.Proofs Go.Proofs.YtepakfjilnpodaaGreatDoor
abbrev digitsB:ByteArray:={data:=#[48,49,50,51,52,53,54,55,56,57]}
theorem digits_has(b:UInt8):digitsB.data.toList.contains b=isDig b:=by
 have h:digitsB.data.toList = [48,49,50,51,52,53,54,55,56,57]:=rfl
 rw [h,Bool.eq_iff_iff]
 unfold isDig
 simp only [List.contains_eq_mem,List.mem_cons,List.not_mem_nil,or_false,decide_eq_true_eq]
 constructor
 ·rintro (rfl|rfl|rfl|rfl|rfl|rfl|rfl|rfl|rfl|rfl) <;> decide
 ·intro h
  have hb:b.toNat=48∨b.toNat=49∨b.toNat=50∨b.toNat=51∨b.toNat=52∨b.toNat=53∨b.toNat=54∨b.toNat=55∨b.toNat=56∨b.toNat=57:=by omega
  rcases hb with h|h|h|h|h|h|h|h|h|h
  all_goals
   have:b=UInt8.ofNat b.toNat:=UInt8.ofNat_toNat.symm
   rw [this,h]
   decide
theorem dropWhile_nil{p:UInt8→Bool}{l:List UInt8}:l.dropWhile p = []↔l.all p=true:=by
 induction l with
 | nil=>simp
 | cons b r ih=>
  rw [List.dropWhile_cons]
  split
  ·rename_i h;rw [ih];simp [h]
  ·rename_i h;simp [h]
theorem trim_digits(l:List UInt8):(Lib.trimS l digitsB.data.toList = [])↔l.all isDig=true:=by
 have hp:(fun b=>digitsB.data.toList.contains b)=isDig:=funext digits_has
 unfold Lib.trimS Lib.trimLeftS Lib.trimRightS
 rw [hp,dropWhile_nil,List.all_reverse]
 constructor
 ·intro h
  have e:l.reverse=l.reverse.takeWhile isDig ++ l.reverse.dropWhile isDig:=(List.takeWhile_append_dropWhile).symm
  have h2:l.reverse.all isDig=true:=by
   rw [e,List.all_append,List.all_takeWhile,h];rfl
  rwa [List.all_reverse]at h2
 ·intro h
  have h2:l.reverse.dropWhile isDig = []:=dropWhile_nil.2 (by rw [List.all_reverse];exact h)
  rw [h2];rfl
theorem trimD_calls(w:World)(s:ByteArray)(hs:s.size≤100000) :
  CallsIn Fence.wide 0 Tryz.prog 204 #[.string s,.string digitsB] w fun e w'=>∃t:ByteArray,e = .returned (.string t)∧(t.data.toList = []↔s.data.toList.all isDig=true)∧Below w.heap.size w w':=by
 refine callsIn_wide.2 ((Any.strings_Trim_laid Tryz.lays160 (by kernel_rfl) s digitsB w (by omega) (by decide) (ascii_of_all (by decide))).mono ?_)
 rintro e w' ⟨rfl,hB⟩
 exact⟨_,rfl,trim_digits _,hB⟩
theorem empty_is{l:List UInt8}{b:Bool}(h:l = []↔b=true):l.isEmpty=b:=by
 rw [Bool.eq_iff_iff,←h]
 cases l <;> simp
theorem head_of(s:ByteArray)(h:0<s.size):s.data.toList=s[0] :: s.data.toList.tail:=by
 obtain⟨⟨l⟩⟩:=s
 cases l with
 | nil=>exact absurd h (by decide)
 | cons b r=>rfl
theorem canon_zero{b:UInt8}{r:List UInt8}(h:b.toNat=48)(hne:b :: r ≠ [48]):canon (b :: r)=false:=by
 have hb:b=48:=UInt8.toNat_inj.1 h
 subst hb
 unfold canon
 have:(48 :: r == [48])=false:=beq_false_of_ne hne
 rw [this];simp
theorem canon_other{b:UInt8}{r:List UInt8}(h:¬b.toNat=48):canon (b :: r)=(b :: r).all isDig:=by
 have hb:b≠48:=fun e=>h (by rw [e];rfl)
 unfold canon
 have:((b :: r).head? == some 48)=false:=by simp [hb]
 rw [this];simp
theorem canon_zero'(s:ByteArray)(h0:0<s.size)(h:(s[0].toNat:Int)=48)(hne:¬s.toList = [48]):canon s.data.toList=false:=by
 rw [Lib.toList_data]at hne
 rw [head_of s h0]at hne ⊢
 exact canon_zero (by omega) hne
theorem canon_other'(s:ByteArray)(h0:0<s.size)(h:¬(s[0].toNat:Int)=48):canon s.data.toList=s.data.toList.all isDig:=by
 rw [head_of s h0]
 exact canon_other (by omega)
set_option maxRecDepth 100000 in
set_option maxHeartbeats 8000000 in
theorem isDigits_calls(w:World)(s:ByteArray)(hs:s.size≤100000) :
  CallsIn Fence.wide 0 Tryz.prog 165 #[.string s] w fun e w'=>e = .returned (.bool (canon s.data.toList))∧Below w.heap.size w w':=by
 have HS:=Hid.intro hs
 refine callsIn_of_wp Tryz.func165 rfl trivial ?_ rfl
 simp only [Tryz.ntmps165,List.size_toArray,List.length_cons,List.length_nil,Nat.reduceAdd,Nat.reduceSub,Array.replicate_succ,Array.replicate_zero,List.push_toArray,List.append_toArray,List.nil_append,List.cons_append]
 gi_wp2_with (gi_at_call 204;refine stop ?_)
 ·have h:s.toList = []:=by assumption
  all_goals (first|go_returns|go_ret|go_end0)
  rw [Lib.toList_data]at h
  exact⟨by rw [h];rfl,Below.refl _ _⟩
 ·have h:s.toList = [48]:=by assumption
  rw [Lib.toList_data]at h
  have HC:Hid (canon s.data.toList=s.data.toList.all isDig):=Hid.intro (by rw [h];rfl)
  clear h
  unfold Stop
  refine(trimD_calls w s hs).mono ?_
  rintro e w2 ⟨t,rfl,ht,hB⟩
  rw [←Lib.toList_data]at ht
  have HT:=Hid.intro ht
  have HB:=Hid.intro hB
  clear ht hB
  gi_wp2
  all_goals (first|go_returns|go_ret|go_end0)
  refine⟨?_,HB.out⟩
  rw [HC.out]
  show Ending.returned (Value.bool t.toList.isEmpty)=Ending.returned (Value.bool _)
  rw [empty_is HT.out]
 ·have h1:(s[0].toNat:Int)=48:=by assumption
  have h2:¬s.toList = [48]:=by assumption
  all_goals (first|go_returns|go_ret|go_end0)
  exact⟨by rw [canon_zero' s (by assumption) h1 h2];rfl,Below.refl _ _⟩
 ·have h1:¬(s[0].toNat:Int)=48:=by assumption
  have HC:Hid (canon s.data.toList=s.data.toList.all isDig):=Hid.intro (canon_other' s (by assumption) h1)
  clear h1
  unfold Stop
  refine(trimD_calls w s hs).mono ?_
  rintro e w2 ⟨t,rfl,ht,hB⟩
  rw [←Lib.toList_data]at ht
  have HT:=Hid.intro ht
  have HB:=Hid.intro hB
  clear ht hB
  have hne:¬s.toList = []:=by assumption
  have hne':s.toList.isEmpty=false:=by cases hc:s.toList with|nil=>exact absurd hc hne|cons _ _=>rfl
  gi_wp2
  all_goals (first|go_returns|go_ret|go_end0)
  refine⟨?_,HB.out⟩
  rw [HC.out]
  show Ending.returned (Value.bool ((s.toList == [48] || (s[0].toNat:Int) != 48) && t.toList.isEmpty))=Ending.returned (Value.bool _)
  have hx:((s[0].toNat:Int) != 48)=true:=by simpa using (by assumption:¬(s[0].toNat:Int)=48)
  rw [hx,Bool.or_true,Bool.true_and,empty_is HT.out]
 ·exfalso
  have h1:¬s.toList = []:=by assumption
  have h2:¬0<s.size:=by assumption
  rw [Lib.toList_data]at h1
  rw [Lib.size_eq]at h2
  exact h1 (List.eq_nil_of_length_eq_zero (by omega))
theorem parseU_calls(w:World)(s:ByteArray)(l:List UInt8)(hl:s.data.toList=l)(hd:l.all isDig=true)(hn:l ≠ [])(h9:l.length≤9) :
  CallsIn Fence.wide 0 Tryz.prog 205 #[.string s,.int .i64 10,.int .i64 64] w fun e w'=>e = .returned (.tuple #[.int .u64 (decVal l:Int),.nilIface])∧Below w.heap.size w w':=by
 subst hl
 refine callsIn_wide.2 ((Tryz.strconv_ParseUint_10_at64_ok s (by rw [Lib.size_eq];omega) (decVal s.data.toList) (parse_short hd hn h9) w).mono ?_)
 rintro e w' ⟨rfl,rfl|rfl⟩
 ·exact⟨rfl,Below.refl _ _⟩
 ·exact⟨rfl,bytesW_below _ _⟩
theorem ext_take{t:ByteArray}{l:List UInt8}{m k:Nat}(h:t.data.toList=l.take m)(hk:k≤m):(t.extract 0 k).data.toList=l.take k:=by
 rw [Lib.extract_eq]
 show(List.take (k-0) (List.drop 0 t.data.toList))=_
 rw [h,List.drop_zero,Nat.sub_zero,List.take_take,Nat.min_eq_left hk]
theorem ext_drop{t:ByteArray}{l:List UInt8}{m k:Nat}(h:t.data.toList=l.take m)(ht:t.size=m):(t.extract k m).data.toList=(l.take m).drop k:=by
 rw [Lib.extract_eq]
 show(List.take (m-k) (List.drop k t.data.toList))=_
 rw [List.take_of_length_le (by rw [List.length_drop,←Lib.size_eq];omega),h]
theorem ownsRow_below2{w w':World}{base:Nat}{e:TypeId}{size n:Nat}{v:Value}{xs:List Value}(h:w.ownsRow base e size v n xs)(hb:Below w.heap.size w w'):w'.ownsRow base e size v n xs:=by
 refine⟨h.1,?_⟩
 rcases h.2 with h|⟨g,cap,cur,h1,h2,h3,h4⟩
 ·exact .inl h
 ·refine .inr ⟨g,cap,cur,h1,h2,?_,h4⟩
  rw [hb.block g (Array.getElem?_eq_some_iff.1 h3).1];exact h3
def strLen:Value→Nat
 | .string s=>s.size
 | _=>0
set_option maxRecDepth 100000 in
set_option maxHeartbeats 8000000 in
theorem parse_calls(w:World)(s:ByteArray)(l:List UInt8)(hl:s.data.toList=l)(hd:l.all isDig=true)(hn:l.length≤100000) :
  CallsIn Fence.wide 0 Tryz.prog 166 #[.string s] w fun e w'=>∃v',e = .returned v'∧MagAt w' v' (decVal l)∧Below w.heap.size w w':=by
 have hsz:s.size=l.length:=by rw [Lib.size_eq,hl]
 have HD:=Hid.intro hd
 have HL:Hid (s.data.toList=l.take l.length):=Hid.intro (by rw [List.take_length];exact hl)
 clear hl hd
 obtain⟨n,hnl⟩:∃n,l.length=n:=⟨_,rfl⟩
 have HNL:=Hid.intro hnl
 rw [hnl]at hsz hn HL
 clear hnl
 refine callsIn_of_wp Tryz.func166 rfl trivial ?_ rfl
 simp only [Tryz.ntmps166,List.size_toArray,List.length_cons,List.length_nil,Nat.reduceAdd,Nat.reduceSub,Array.replicate_succ,Array.replicate_zero,List.push_toArray,List.append_toArray,List.nil_append,List.cons_append]
 gi_wp2
 gi_loopw [0,3] (fun v0 v3 wr=>∃(i m:Nat) (t:ByteArray),v0 = .string t∧t.size=m∧m≤n∧Hid (t.data.toList=l.take m)∧Hid (m+9*i=n∨m=0∧n≤9*i)∧i≤n∧Hid (wr.ownsRow w.heap.size 116 1 v3 i (firstL (decVal l) i))∧Hid (Below w.heap.size w wr)) (fun v _ _=>strLen v)
 case atStart=>exact⟨0,n,s,rfl,hsz,Nat.le_refl _,HL,Hid.intro (.inl (by omega)),by omega,World.ownsRow_nil _ _ _ _,Below.refl _ w⟩
 case round=>
  obtain⟨i,m,t,rfl,ht,hm,HT,HI,hi,HO,HBr⟩:=hrel
  by_cases h0:0<m
  ·have hMI:m+9*i=n:=by rcases HI.out with h|h <;> omega
   have HC:Hid (decVal ((l.take m).drop (m-9))=limb (decVal l) i):=Hid.intro (chunk_limb HD.out (by rw [HNL.out];exact hMI))
   have hlen:(l.take m).length=m:=by rw [List.length_take,HNL.out];omega
   have HLen:=Hid.intro hlen
   have HMI:=Hid.intro hMI
   clear hlen hMI
   obtain⟨k,hk⟩:∃k,m-9=k:=⟨_,rfl⟩
   have hmx:max (0:Int) ((m:Int)-9)=(k:Int):=by omega
   rw [hk]at HC
   gi_wp2_with (gi_at_call 205;refine stop ?_)
   unfold Stop
   have hkm:k<m:=by omega
   refine(parseU_calls wr (t.extract k m) ((l.take m).drop k) (ext_drop HT.out ht) (all_drop (all_take HD.out m) k) ?_ ?_).mono ?_
   ·intro e
    have:=congrArg List.length e
    rw [List.length_drop,HLen.out]at this
    simp at this;omega
   ·rw [List.length_drop,HLen.out];omega
   rintro e w2 ⟨rfl,hB⟩
   rw [HC.out]
   have HO2:=Hid.intro (ownsRow_below2 HO.out hB)
   have HB2:=Hid.intro (HBr.out.trans (hB.mono HBr.out.size))
   clear hB
   gi_wp2_with (gi_at_builtin;refine stop ?_)
   unfold Stop
   refine append_limb w w2 rfl _ _ rfl u3 i (decVal l) rfl HO2 _ _ rfl rfl (by omega) HB2 ?_
   intro v2 w3 HO3 HB3
   gi_wp2
   have hx:=ext_take HT.out (Nat.le_of_lt hkm)
   have hxs:(t.extract 0 k).size=k:=by rw [Lib.size_eq,hx,List.length_take,HNL.out];omega
   refine⟨⟨i+1,k,_,rfl,hxs,by omega,hx,?_,by have:=HMI.out;omega,HO3,HB3⟩,by simp only [strLen];omega⟩
   have:=HMI.out
   refine Hid.intro ?_
   omega
  ·have hm0:m=0:=by omega
   subst hm0
   have HLT:Hid (decVal l<B^i):=Hid.intro (val_limbs HD.out (by have:=HI.out;rw [HNL.out];omega))
   have HRow:Hid (LimbsAt wr u3 (decVal l) i):=Hid.intro (row_limbs HO.out (by omega))
   gi_wp2_with (gi_at_call 138;refine stop ?_)
   unfold Stop
   refine(trim_calls wr u3 (decVal l) i HRow.out HLT.out).mono ?_
   rintro e w2 ⟨v',rfl,⟨hM,_⟩,hB⟩
   have HM:=Hid.intro hM
   have HB:=Hid.intro (HBr.out.trans (hB.mono HBr.out.size))
   clear hM hB
   gi_wp2
   all_goals (first|go_returns|go_ret|go_end0)
   exact⟨_,rfl,HM.out,HB.out⟩
end Go.Num
