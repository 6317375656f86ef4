/-
  'Cmp' of the program. 'awake' answers true: one run of the machine in the kernel. 'isLong' of a fraction. 'kept' and 'attempt' of a fraction
  Conditions: see each statement.
-/
import Derived.Test.YtepakfjilnpodaaGreatDoorRBAA
import Derived.Test.YtepakfjilnpodaaGreatDoorRBAN
import Derived.Test.YtepakfjilnpodaaGreatDoorRBAK
import Derived.Test.YtepakfjilnpodaaGreatDoorCards
import Derived.Test.YtepakfjilnpodaaGreatDoorTie
import Derived.WalkKit
import Derived.ProofKit
import Derived.OpenShut
import Derived.Deep.DeepHandedRow
import Derived.Lib.LaidTab
import Derived.Stop.LaidErr
set_option maxRecDepth 100000
set_option maxHeartbeats 8000000
namespace Go.Num
open Go.Eng Go.Shelf Go.RowKit Go.Proofs Go.Proofs.YtepakfjilnpodaaGreatDoor
theorem zbL(w:World)(va vb:Value)(p q:Rat)(L:Nat)(ha:zaj w va p)(hb:zaj w vb q)(hp:zad p L)(hq:zad q L)(hL:L≤1000000) :
  CallsIn Fence.wide 0 Tryz.prog 15 #[va,vb] w fun e w'=>e = .returned (.int .i64 (sgnR (p-q)))∧Below w.heap.size w w':=by
 have HA:=zHi ha;have HB:=zHi hb;have HP:=zHi hp;have HQ:=zHi hq;obtain⟨o1,k1,c1,o2,k2,c2,rfl⟩:=ha.form;obtain⟨o3,k3,c3,o4,k4,c4,rfl⟩:=hb.form;obtain⟨sa,hsa⟩:∃sa,decide (p.num<0)=sa:=⟨_,rfl⟩;obtain⟨sb,hsb⟩:∃sb,decide (q.num<0)=sb:=⟨_,rfl⟩;rw [hsa]at HA;rw [hsb]at HB;rw [hsa,hsb];clear ha hb hp hq hsa hsb;obtain⟨W0,hW0⟩:∃W,W=w.alloc (.cells #[.bool sa,.slice o1 k1 c1,.slice o2 k2 c2] 27):=⟨_,rfl⟩;have h0s:W0.heap.size=w.heap.size+1:=by rw [hW0];simp
 obtain⟨W1,hW1⟩:∃W,W=W0.alloc (.cells #[.bool sb,.slice o3 k3 c3,.slice o4 k4 c4] 27):=⟨_,rfl⟩;have HX:Hid (Box3 W1 w.heap.size (.bool sa) (.slice o1 k1 c1) (.slice o2 k2 c2)):=zHi (by rw [hW1];exact Box3.below (by rw [hW0];exact zaK _ _ _ _ _) (zaa _ _));have HY:Hid (Box3 W1 (w.heap.size+1) (.bool sb) (.slice o3 k3 c3) (.slice o4 k4 c4)):=zHi (by rw [hW1,←h0s];exact zaK _ _ _ _ _);have HBW:Hid (Below w.heap.size w W1):=zHi (by rw [hW1,hW0];exact(zaa _ _).alloc (by simp) _);refine callsIn_of_wp Tryz.func15 rfl trivial ?_ rfl;simp only [Tryz.ntmps15,zsj,zsk,zsl,Nat.reduceAdd,Nat.reduceSub,zsm,zsn,zso,zsp,zsq,zsr];gi_wp2;rw [←hW0,←hW1];obtain⟨g,hg⟩:∃g,w.heap.size=g:=⟨_,rfl⟩;rw [hg]at HX HY;rw [hg];clear hW0 hW1 h0s;refine zan (ro:=none) [2,3,4] [0,1,2,3,4,5] [0,0,2,7,15,31] zak 10 rfl (by kernel_rfl) (by kernel_rfl) ?_;replace HX:=zHi (HX.out.below (zab _));replace HY:=zHi (HY.out.below (zab _));replace HBW:=zHi (HBW.out.trans ((zab W1).mono HBW.out.size));refine OW.loadAll rfl rfl l25 (cs:=[.bool sa,.slice o1 k1 c1,.slice o2 k2 c2]) rfl (by decide) HX.out rfl ?_;simp only [Go.Act.put,zss,zst,zsu];refine OW.loadAll rfl rfl l25 (cs:=[.bool sb,.slice o3 k3 c3,.slice o4 k4 c4]) rfl (by decide) HY.out rfl ?_;simp only [Go.Act.put,zss,zst,zsu];refine OW.call rfl rfl Tryz.func66 rfl zac (args:=[.agg #[.bool sb,.slice o3 k3 c3,.slice o4 k4 c4]]) rfl ?_;refine(zhV W1.drew _ q (HB.out.below HBW.out)).mono ?_;rintro e w2 ⟨v2,rfl,hr2,hB⟩;refine⟨v2,rfl,hB,?_⟩;simp only [Go.Act.put,zss,zst,zsu];replace HBW:=zHi (HBW.out.trans (hB.mono HBW.out.size));have HR2:=zHi hr2;clear hr2 hB;refine OW.call rfl rfl Tryz.func71 rfl zac (args:=[.agg #[.bool sa,.slice o1 k1 c1,.slice o2 k2 c2],v2]) rfl ?_;refine(zgC w2 _ v2 p (-q) L (HA.out.below HBW.out) HR2.out HP.out (zat HQ.out) hL).mono ?_;rintro e w3 ⟨v3,rfl,hr3,hB⟩;refine⟨v3,rfl,hB,?_⟩;simp only [Go.Act.put,zss,zst,zsu];replace HBW:=zHi (HBW.out.trans (hB.mono HBW.out.size));have HR3:=zHi hr3;clear hr3 hB;refine OW.call rfl rfl Tryz.func25 rfl zac (args:=[v3]) rfl ?_;refine(zaT w3 v3 _ HR3.out).mono ?_;rintro e w4 ⟨rfl,hB⟩;refine⟨_,rfl,hB,?_⟩;simp only [Go.Act.put,zss,zst,zsu];replace HBW:=zHi (HBW.out.trans (hB.mono HBW.out.size));clear hB;refine OW.assign rfl rfl _ rfl ?_;simp only [Go.Act.put,zss,zst,zsu];refine OW.done ?_;rw [←Rat.sub_eq_add_neg];gi_wp2;all_goals (first|go_returns|go_ret|go_end0)
 exact⟨rfl,HBW.out⟩
def tooL:List PanicEntry:=[{v:=.iface 182 (.agg #[]),recovered:=false}]
theorem zl7(w:World)(v:Value)(q:Rat)(h:zaj w v q)(hq:zad q 100000)(hs:zbR q=false)(htab:zbh w) :
  CallsIn Fence.wide 0 Tryz.prog 74 #[v] w fun e w'=>e = .panicked tooL∧Below w.heap.size w w':=by
 obtain⟨vn,vd,rfl,hn,hd⟩:=h;have HN:=zHi hn;have HD:=zHi hd;obtain⟨sg,hsg⟩:∃sg,decide (q.num<0)=sg:=⟨_,rfl⟩;obtain⟨o1,k1,c1,rfl,_,_⟩:=zaG hn;obtain⟨o2,k2,c2,rfl,_,_⟩:=zaG hd;rw [hsg];obtain⟨W0,hW0⟩:∃W,W=w.alloc (.cells #[.bool sg,.slice o1 k1 c1,.slice o2 k2 c2] 27):=⟨_,rfl⟩;have h0s:W0.heap.size=w.heap.size+1:=by rw [hW0];simp
 obtain⟨W1,hW1⟩:∃W,W=W0.alloc (.cells #[.bool false,.slice none 0 0,.slice none 0 0] 27):=⟨_,rfl⟩;have HX:Hid (Box3 W1 w.heap.size (.bool sg) (.slice o1 k1 c1) (.slice o2 k2 c2)):=zHi (by rw [hW1];exact Box3.below (by rw [hW0];exact zaK _ _ _ _ _) (zaa _ _));have HB0:Hid (Below w.heap.size w W0):=zHi (by rw [hW0];exact zaa _ _);have HBW:Hid (Below w.heap.size w W1):=zHi (HB0.out.trans ((by rw [hW1];exact zaa _ _:Below W0.heap.size W0 W1).mono HB0.out.size));have HP:=zHi hq;have HTab:=zHi htab;have HS:=zHi hs;have y0:=HX.out.c0;have y1:=HX.out.c1;have y2:=HX.out.c2;clear hn hd hsg hq htab hs;refine callsIn_of_wp Tryz.func74 rfl trivial ?_ rfl;simp only [Tryz.ntmps74,zsj,zsk,zsl,Nat.reduceAdd,Nat.reduceSub,zsm,zsn,zso,zsp,zsq,zsr];gi_wp2_with (gi_at_call 140;refine stop ?_)
 unfold Stop;rw [←hW0,←hW1];obtain⟨g,hg⟩:∃g,w.heap.size=g:=⟨_,rfl⟩;rw [hg]at HX h0s y0 y1 y2;rw [hg];clear hW0 hW1 HB0 h0s hg;refine(zdk W1 _ _ (HN.out.below HBW.out) HP.out.1 (HTab.out.below HBW.out)).mono ?_;rintro e w2 ⟨rfl,hB⟩;replace HX:=zHi (HX.out.below hB);replace HBW:=zHi (HBW.out.trans (hB.mono HBW.out.size));replace y0:=HX.out.c0;replace y1:=HX.out.c1;replace y2:=HX.out.c2;clear hB
 cases hs1:zdN q.num.natAbs with
 | false=>
  clear hs1;gi_wp2;exact⟨rfl,rfl,HBW.out⟩
 | true=>
  have HS2:Hid (zdN (if q.den=1 then 0 else q.den)=false):=zHi (by have:=HS.out;unfold zbR at this;rw [hs1,Bool.true_and]at this;exact this);clear hs1;gi_wp2_with (gi_at_call 140;refine stop ?_)
  unfold Stop;refine(zdk w2 _ _ (HD.out.below HBW.out) (by split;exact zar 100000;exact HP.out.2) (HTab.out.below HBW.out)).mono ?_;rintro e w3 ⟨rfl,hB⟩;replace HBW:=zHi (HBW.out.trans (hB.mono HBW.out.size));rw [HS2.out];replace HX:=zHi (HX.out.below hB);replace y0:=HX.out.c0;replace y1:=HX.out.c1;replace y2:=HX.out.c2;clear hB;gi_wp2;exact⟨rfl,rfl,HBW.out⟩
def zgs(w:World)(g:Nat):World:=
 (((((w.alloc (.cells #[] 182)).alloc (.cells #[.bool false,.slice none 0 0,.slice none 0 0] 27)).setCell ⟨g,0,none⟩ (.bool false)).setCell ⟨g,1,none⟩ (.slice none 0 0)).setCell ⟨g,2,none⟩ (.slice none 0 0)).setCell ⟨g+1,0,none⟩ (.int .i64 11)
theorem zpB(g:Nat)(w:World)(f f2:Nat→Value)(hg:g+1<w.heap.size)(hA:zag w g 3 f)(hA2:zag w (g+1) 1 f2) :
  CallsDIn Fence.wide 0 Tryz.prog 139 #[.pointer (some ⟨g,0,none⟩),.pointer (some ⟨g+1,0,none⟩)] (.panicking tooL) w fun e u' w'=>
   e = .returned (.tuple #[])∧u' = .panicking [{v:=.iface 182 (.agg #[]),recovered:=true}]∧w'=zgs w g:=by
 have hB:=(hA.alloc (by omega) (Obj.cells #[] 182)).alloc (by simp;omega) (Obj.cells #[.bool false,.slice none 0 0,.slice none 0 0] 27);have hB2:=(hA2.alloc (by omega) (Obj.cells #[] 182)).alloc (by simp;omega) (Obj.cells #[.bool false,.slice none 0 0,.slice none 0 0] 27);have z0:=(hB 0 (by omega)).1;have z1:=(hB 1 (by omega)).1;have z2:=(hB 2 (by omega)).1;have y0:=(hB 0 (by omega)).2;have y1:=(hB 1 (by omega)).2;have y2:=(hB 2 (by omega)).2;have x0:=(hB2 0 (by omega)).1;have x1:=(hB2 0 (by omega)).2;clear hB hB2;refine callsDIn_of_wpSIn Tryz.func139 rfl trivial fun c₀ cs hu => ?_
 simp only [show Tryz.f139.ntmps=18 from rfl,zsj,zsk,zsl,Nat.reduceAdd,Nat.reduceSub,zsm,zsn,zso,zsp,zsq,zsr];unfold tooL at hu;apply wpSIn_seq
 apply wpSIn_region
 simp [wpOpsSIn,go_sem,recoverD,hu,Exit.thenS]
 apply wpSIn_seq
 apply wpSIn_region
 simp [wpOpsSIn,go_sem,Exit.thenS]
 refine wpSIn_cond (t:=true) (by simp [Act.eval]) ?_;simp only [if_true];refine wpSIn_of_wpIn rfl ?_;clear hA hA2;have hta:∀w:World,(Instr.typeAssert (.iface 182 (.agg #[])) 20 182 true).run Tryz.prog w = .ok (.tuple #[.agg #[],.bool true]) w:=fun w=>by kernel_rfl
 gi_wp2;exact⟨rfl,_,rfl,.tuple #[],by simp [results],rfl,rfl,rfl⟩
theorem ziW(w:World)(v:Value)(q:Rat)(h:zaj w v q)(hq:zad q 100000)(hs:zbR q=false)(htab:zbh w) :
  CallsIn Fence.wide 0 Tryz.prog 73 #[.func (.func 74) #[v] #[]] w fun e w'=>∃v',e = .returned (.tuple #[v',.int .i64 11])∧zaj w' v' 0∧Below w.heap.size w w':=by
 have hmf:∀(fn:Fn) (first cap:Array Value) (w:World),(Instr.makeFunc fn first cap).run Tryz.prog w = .ok (.func fn first cap) w:=fun _ _ _ _=>rfl
 have HR:=zHi h;have HP:=zHi hq;have HS:=zHi hs;have HTab:=zHi htab;obtain⟨o,k,c,o2,k2,c2,rfl⟩:=h.form;clear h hq hs htab;gi_enter_defers Tryz.func73,Tryz.ntmps73
 gi_wp2_with (gi_at_call 74;refine stop ?_)
 unfold Stop;obtain⟨W0,hW0⟩:∃W,W=w.alloc (.cells #[.bool false,.slice none 0 0,.slice none 0 0] 27):=⟨_,rfl⟩;have h0s:W0.heap.size=w.heap.size+1:=by rw [hW0];simp
 obtain⟨W1,hW1⟩:∃W,W=W0.alloc (.cells #[.int .i64 0] 28):=⟨_,rfl⟩;rw [←hW0,←hW1];have HA:Hid (∃f,zag W1 w.heap.size 3 f):=zHi ⟨fun i => [.bool false,.slice none 0 0,.slice none 0 0].getD i (.bool false),by
  rw [hW1];refine zag.alloc ?_ (by omega) _;rw [hW0];exact zag.new _ _ _ fun i hi=>by
   have:i=0∨i=1∨i=2:=by omega
   rcases this with rfl|rfl|rfl <;> rfl⟩
 have HA2:Hid (∃f,zag W1 (w.heap.size+1) 1 f):=zHi ⟨fun i => .int .i64 0,by
  rw [hW1,←h0s];exact zag.new _ _ _ fun i hi=>by
   have:i=0:=by omega
   rw [this];rfl⟩
 have HBW:Hid (Below w.heap.size w W1):=zHi (by rw [hW1,hW0];exact(zaa _ _).alloc (by simp) _);have hl:w.heap.size+1<W1.heap.size:=by rw [hW1];simp;omega
 obtain⟨g,hg⟩:∃g,w.heap.size=g:=⟨_,rfl⟩;rw [hg]at HA HA2 hl;rw [hg];have hgw:w.heap.size≤g:=by omega
 clear hW0 hW1 h0s hg;refine(zl7 W1 _ q (HR.out.below HBW.out) HP.out HS.out (HTab.out.below HBW.out)).mono ?_;rintro e w2 ⟨rfl,hB⟩;replace HBW:=zHi (HBW.out.trans (hB.mono HBW.out.size));obtain⟨f,hf⟩:=HA.out;obtain⟨f2,hf2⟩:=HA2.out;have ha:=hf.below (by omega) hB;have ha2:=hf2.below (by omega) hB;have hl2:g+1<w2.heap.size:=Nat.lt_of_lt_of_le hl hB.size;clear HA HA2 hf hf2 hB;gi_wp2;refine leavesIn_cons (f:=139) (args:=#[.pointer (some ⟨g,0,none⟩),.pointer (some ⟨g+1,0,none⟩)]) (by simp) (by simp) (by simp [go_sem]) (by simp [Target.leads]) ?_;refine(zpB g w2 f f2 hl2 ha ha2).mono ?_;rintro e u' w'' ⟨rfl,rfl,rfl⟩;show LeavesIn _ _ _ _ _ _ _ FrameMode.returning (zgs w2 g)
 have n3:∀j:Nat,(⟨g,j,none⟩:Addr)≠⟨g+1,0,none⟩:=fun j e=>by injection e with e _ _;omega
 have n4:∀j:Nat,(⟨g+1,0,none⟩:Addr)≠⟨g,j,none⟩:=fun j e=>by injection e with e _ _;omega
 have hW:=(ha.alloc (by omega) (Obj.cells #[] 182)).alloc (by simp;omega) (Obj.cells #[.bool false,.slice none 0 0,.slice none 0 0] 27);have hW2:=(ha2.alloc (by omega) (Obj.cells #[] 182)).alloc (by simp;omega) (Obj.cells #[.bool false,.slice none 0 0,.slice none 0 0] 27);have h3:=((hW.set (i:=0) (by omega) (.bool false)).set (i:=1) (by omega) (.slice none 0 0)).set (i:=2) (by omega) (.slice none 0 0);have hsz:=HBW.out.size;have hB3:Below w.heap.size w (zgs w2 g):=by
  unfold zgs;exact(((((HBW.out.alloc hsz _).alloc (by simp;omega) _).setCell hgw _).setCell hgw _).setCell hgw _).setCell (by show w.heap.size≤g+1;omega) _
 have b3:Box3 (zgs w2 g) g (.bool false) (.slice none 0 0) (.slice none 0 0):=fun j v hj=>by
  unfold zgs;rw [World.cell?_setCell_other _ _ _ _ (n4 j)];match j,hj with
  | 0,hj=>rw [←hj];exact(h3 0 (by omega)).1
  | 1,hj=>rw [←hj];exact(h3 1 (by omega)).1
  | 2,hj=>rw [←hj];exact(h3 2 (by omega)).1
  | n+3,hj=>simp at hj
 have c3:(zgs w2 g).cell? ⟨g+1,0,none⟩=some (.int .i64 11):=by
  unfold zgs;exact World.cell?_setCell_same _ _ _ (by rw [World.cell?_setCell_other _ _ _ _ (n3 2),World.cell?_setCell_other _ _ _ _ (n3 1),World.cell?_setCell_other _ _ _ _ (n3 0)];exact(hW2 0 (by omega)).1)
 obtain⟨W,hWW⟩:∃W,zgs w2 g=W:=⟨_,rfl⟩;rw [hWW]at b3 c3 hB3 ⊢;refine⟨.tuple #[.agg #[.bool false,.slice none 0 0,.slice none 0 0],.int .i64 11],?_,_,rfl,zao _,hB3⟩;have e1:=l25 g [.bool false,.slice none 0 0,.slice none 0 0] W rfl b3;have e2:=l26 ⟨g+1,0,none⟩ _ W c3;simp only [Instr.loadAt,Instr.sureAddr,Sem.run_bind,Sem.run_pure,Result.andThen_ok]at e1 e2;simp [results,asAddr,e1,e2]
end Go.Num
namespace Go.Eng
open Go.RowKit
def AT.beq:AT→AT→Bool
 | .tag a,.tag b=>a.beq b
 | .val a,.val b=>a.beq b
 | .agg a,.agg b=>a.beq b
 | .fn f a b,.fn g c d=>Nat.beq f g && a.beq c && b.beq d
 | .nil,.nil=>true
 | .cons a b,.cons c d=>a.beq c && b.beq d
 | _,_=>false
theorem AT.eq_of_beq{a:AT}:∀{b:AT},a.beq b=true→a=b:=by
 induction a with
 | tag t=>intro b h;cases b <;> simp only [AT.beq,Bool.false_eq_true]at h;rw [Tg.eq_of_beq h]
 | val v=>intro b h;cases b <;> simp only [AT.beq,Bool.false_eq_true]at h;rw [AV.beq_eq h]
 | agg a ih=>intro b h;cases b <;> simp only [AT.beq,Bool.false_eq_true]at h;rw [ih h]
 | fn f a c ih1 ih2=>
  intro b h;cases b <;> simp only [AT.beq,Bool.and_eq_true,Bool.false_eq_true]at h;rw [Nat.eq_of_beq_eq_true h.1.1,ih1 h.1.2,ih2 h.2]
 | nil=>intro b h;cases b <;> simp only [AT.beq,Bool.false_eq_true]at h;rfl
 | cons a c ih1 ih2=>
  intro b h;cases b <;> simp only [AT.beq,Bool.and_eq_true,Bool.false_eq_true]at h;rw [ih1 h.1,ih2 h.2]
structure Leaf(res:List TypeId) where
 sh:Sh
 I:Value→World→Prop
 stable:∀v w w',Go.Eng.Kept res w w'→I v w→I v w'
 ok:∀v w,I v w→ShOK sh v
 det:sh = .str→∀v v' w,I v w→I v' w→v=v'
def clsL(S:List Sh):Tg→Sh
 | .leaf k=>S.getD k .one
 | _ => .one
def Leaf.at{res:List TypeId}(env:List (Leaf res))(t:Tg)(v:Value)(w:World):Prop:=
 match t with
 | .leaf k=>match env[k]? with
  | some p=>p.I v w
  | none=>False
 | _=>False
def Gs{res:List TypeId}(env:List (Leaf res)):Sett where
 ids:=[]
 res:=res
 I:=Leaf.at env
 stable:=by
  intro t v w w' hk h;unfold Leaf.at at h ⊢;split at h
  ·split at h
   ·rename_i p hp;exact p.stable v w w' hk h
   ·exact h.elim
  ·exact h.elim
theorem zdz{res:List TypeId}{env:List (Leaf res)}{S:List Sh}(hS:env.map (·.sh)=S):zdf (Gs env) (clsL S) where
 ok:=by
  intro t v w h;replace h:Leaf.at env t v w:=h;unfold Leaf.at at h;split at h
  ·rename_i k;split at h
   ·rename_i p hp;have e:clsL S (.leaf k)=p.sh:=by
     show S.getD k .one=_
     rw [←hS,List.getD_eq_getElem?_getD,List.getElem?_map,hp];rfl
    rw [e];exact p.ok v w h
   ·exact h.elim
  ·exact h.elim
 det:=by
  intro t ht v v' w h h';replace h:Leaf.at env t v w:=h;replace h':Leaf.at env t v' w:=h';unfold Leaf.at at h h';split at h
  ·rename_i k;split at h
   ·rename_i p hp;have e:clsL S (.leaf k)=p.sh:=by
     show S.getD k .one=_
     rw [←hS,List.getD_eq_getElem?_getD,List.getElem?_map,hp];rfl
    rw [e]at ht;simp only [hp]at h';exact p.det ht v v' w h h'
   ·exact h.elim
  ·exact h.elim
abbrev ziI:=FuncId × AT × AT
def zfv:List ziI→TTab
 | [],_,_=>none
 | (g,ts,rs) :: r,f,us=>bif Nat.beq f g && ts.beq us then some rs else zfv r f us
section
variable {P:Program} {B:Nat} {w0:World} {G:Sett}
theorem zdI:zdM P B w0 G (zfv []):=fun _ _ _ q=>by cases q
theorem zkA{g:FuncId}{ts rs:AT}{r:List ziI}(hb:zfb P g)
  (h:∀w (xs:Array Value),Below B w0 w→zbq G ts xs.toList w→Calls P g xs w fun e w'=>∃x,e = .returned x∧zbP G rs x w'∧Below w.heap.size w w')
  (k:zdM P B w0 G (zfv r)):zdM P B w0 G (zfv ((g,ts,rs) :: r)):=by
 intro f us rs' q;unfold zfv at q
 cases hc:Nat.beq f g && ts.beq us with
 | true=>
  rw [hc]at q;simp only [cond_true,Option.some.injEq]at q;simp only [Bool.and_eq_true]at hc;have e1:=Nat.eq_of_beq_eq_true hc.1;have e2:=AT.eq_of_beq hc.2;subst e1;subst e2;subst q;exact⟨hb,h⟩
 | false=>
  rw [hc]at q;exact k f us rs' q
theorem zed{g:FuncId}{a rs:AT}{r:List ziI}(hb:zfb P g)
  (h:∀w v,Below B w0 w→zau G a v w→CallsIn Fence.wide 0 P g #[v] w fun e w'=>∃x,e = .returned x∧zbP G rs x w'∧Below w.heap.size w w')
  (k:zdM P B w0 G (zfv r)):zdM P B w0 G (zfv ((g,.cons a .nil,rs) :: r)):=by
 refine zkA hb (fun w xs hw hx => ?_) k;obtain⟨v,r,e,h1,h2⟩:=hx;have h2:r = []:=h2;subst h2;have:xs=#[v]:=Array.toList_inj.1 (by simpa using e);subst this;exact callsIn_wide.1 (h w v hw h1)
theorem zlK{g:FuncId}{a b rs:AT}{r:List ziI}(hb:zfb P g)
  (h:∀w v u,Below B w0 w→zau G a v w→zau G b u w→CallsIn Fence.wide 0 P g #[v,u] w fun e w'=>∃x,e = .returned x∧zbP G rs x w'∧Below w.heap.size w w')
  (k:zdM P B w0 G (zfv r)):zdM P B w0 G (zfv ((g,.cons a (.cons b .nil),rs) :: r)):=by
 refine zkA hb (fun w xs hw hx => ?_) k;obtain⟨v,r,e,h1,u,r2,e2,h2,h3⟩:=hx;subst e2;have h3:r2 = []:=h3;subst h3;have:xs=#[v,u]:=Array.toList_inj.1 (by simpa using e);subst this;exact callsIn_wide.1 (h w v u hw h1 h2)
theorem zdX{res:List TypeId}{env:List (Leaf res)}{S:List Sh}{L:List ziI}{w:World}(hm:P.follows .mixedOrders=true)(hN:zbi P)(hS:env.map (·.sh)=S)(hT:zdM P w.heap.size w (Gs env) (zfv L))
  {n:Nat} {f:FuncId} {ts rs:AT} (h:runF P (clsL S) (zfv L) res [] n f ts=some rs) {xs:Array Value} (hx:zbq (Gs env) ts xs.toList w) :
  CallsIn Fence.wide 0 P f xs w fun e w'=>∃x,e = .returned x∧zbP (Gs env) rs x w'∧Below w.heap.size w w':=
 callsIn_wide.2 (zjd hm hN (zdz hS) rfl hT (by simp) h hx)
end
end Go.Eng
namespace Go.Num
open Go.Eng Go.Shelf Go.RowKit Go.Proofs Go.Proofs.YtepakfjilnpodaaGreatDoor
abbrev rs3:List TypeId:=[3,116]
theorem zaj.kept{w w':World}{v:Value}{q:Rat}(h:zaj w v q)(hk:Go.Eng.Kept rs3 w w'):zaj w' v q:=by
 obtain⟨vn,vd,e,h1,h2⟩:=h;exact⟨vn,vd,e,h1.kept hk rfl,h2.kept hk rfl⟩
theorem QAt.kept{w w':World}{v:Value}{q:Rat}(h:QAt w v q)(hk:Go.Eng.Kept rs3 w w'):QAt w' v q:=by
 obtain⟨m1,m2,e,h1,h2⟩:=h;exact⟨m1,m2,e,h1.kept hk rfl,h2.kept hk rfl⟩
def zlb(q:Rat):Leaf rs3 where
 sh:=.agg 3
 I:=fun v w=>zaj w v q
 stable:=fun _ _ _ hk h=>h.kept hk
 ok:=by
  rintro v w ⟨vn,vd,rfl,h1,h2⟩;refine⟨_,rfl,rfl,fun x hx => ?_⟩;simp only [List.mem_cons,List.not_mem_nil,or_false]at hx;rcases hx with rfl|rfl|rfl
  ·rfl
  ·exact h1.oneCell
  ·exact h2.oneCell
 det:=fun h=>by cases h
def zq9(q:Rat):Leaf rs3 where
 sh:=.agg 4
 I:=fun v w=>QAt w v q
 stable:=fun _ _ _ hk h=>h.kept hk
 ok:=by
  rintro v w ⟨vn,vd,rfl,h1,h2⟩;refine⟨_,rfl,rfl,fun x hx => ?_⟩;simp only [List.mem_cons,List.not_mem_nil,or_false]at hx;rcases hx with rfl|rfl|rfl|rfl
  ·rfl
  ·exact h1.oneCell
  ·rfl
  ·exact h2.oneCell
 det:=fun h=>by cases h
def zsb(s:ByteArray):Leaf rs3 where
 sh:=.str
 I:=fun v _=>v = .string s
 stable:=fun _ _ _ _ h=>h
 ok:=by rintro v w rfl;exact⟨_,rfl⟩
 det:=by rintro _ v v' w rfl rfl;rfl
abbrev tg(k:Nat):AT:=.tag (.leaf k)
abbrev vi(n:Int):AT:=.val (.sc (.int .i64 n))
abbrev vb(b:Bool):AT:=.val (.sc (.bool b))
abbrev A1(a:AT):AT:=.cons a .nil
abbrev A2(a b:AT):AT:=.cons a (.cons b .nil)
abbrev A3(a b c:AT):AT:=.cons a (.cons b (.cons c .nil))
abbrev shR:Sh:=.agg 3
abbrev shQ:Sh:=.agg 4
def zkc(q:Rat):Rat:=if zbR q=true then q else 0
def zpd(q:Rat):Int:=if zbR q=true then 0 else 11
theorem zeu(w:World)(v:Value)(q:Rat)(h:zaj w v q)(hq:zad q 100000)(htab:zbh w) :
  CallsIn Fence.wide 0 Tryz.prog 73 #[.func (.func 74) #[v] #[]] w fun e w'=>∃v',e = .returned (.tuple #[v',.int .i64 (zpd q)])∧zaj w' v' (zkc q)∧Below w.heap.size w w':=by
 unfold zpd zkc
 cases hs:zbR q with
 | true=>exact zdo w v q h hq hs htab
 | false=>exact ziW w v q h hq hs htab
section
variable {w0:World} {env:List (Leaf rs3)} {r:List ziI}
abbrev TI(w0:World)(env:List (Leaf rs3))(L:List ziI):Prop:=zdM Tryz.prog w0.heap.size w0 (Gs env) (zfv L)
theorem pk2{G:Sett}{w:World}{a b:AT}{x y:Value}(h1:zau G a x w)(h2:zau G b y w):zbP G (A2 a b) (.tuple #[x,y]) w:=⟨_,rfl,_,_,rfl,h1,_,_,rfl,h2,rfl⟩
theorem ps1{G:Sett}{w:World}{a:AT}{x:Value}(h1:zau G a x w):zbq G (A1 a) [x] w:=⟨_,_,rfl,h1,rfl⟩
theorem ps2{G:Sett}{w:World}{a b:AT}{x y:Value}(h1:zau G a x w)(h2:zau G b y w):zbq G (A2 a b) [x,y] w:=⟨_,_,rfl,h1,_,_,rfl,h2,rfl⟩
theorem ps3{G:Sett}{w:World}{a b c:AT}{x y z:Value}(h1:zau G a x w)(h2:zau G b y w)(h3:zau G c z w):zbq G (A3 a b c) [x,y,z] w:=⟨_,_,rfl,h1,_,_,rfl,h2,_,_,rfl,h3,rfl⟩
theorem un3{G:Sett}{w:World}{a b c:AT}{v:Value}(h:zbP G (A3 a b c) v w):∃x y z,v = .tuple #[x,y,z]∧zau G a x w∧zau G b y w∧zau G c z w:=by
 obtain⟨xs,rfl,x,r,e,h1,y,r2,rfl,h2,z,r3,rfl,h3,h4⟩:=h;have h4:r3 = []:=h4;subst h4;have:xs=#[x,y,z]:=Array.toList_inj.1 (by simpa using e);subst this;exact⟨x,y,z,rfl,h1,h2,h3⟩
end
end Go.Num
namespace Go.Num
open Go.Eng Go.Shelf Go.RowKit Go.Sort Go.Proofs Go.Proofs.YtepakfjilnpodaaGreatDoor
def zaU(q:Rat)(d:Nat):Bool:=decide (Lib.nDigits q.num.natAbs≤d) && decide (Lib.nDigits q.den≤d)
theorem zlg(w:World)(v:Value)(q:Rat)(h:zaj w v q)(hq:zad q 100000)(htab:zbh w) :
  CallsIn Fence.wide 0 Tryz.prog 218 #[v] w fun e w'=>e = .returned (.bool (!zaU q 20))∧Below w.heap.size w w':=by
 obtain⟨vn,vd,rfl,hn,hd⟩:=h;have HN:=zHi hn;have HD:=zHi hd;obtain⟨sg,hsg⟩:∃sg,decide (q.num<0)=sg:=⟨_,rfl⟩;obtain⟨o1,k1,c1,rfl,_,_⟩:=zaG hn;obtain⟨o2,k2,c2,rfl,_,_⟩:=zaG hd;rw [hsg];obtain⟨W1,hW1⟩:∃W,W=w.alloc (.cells #[.bool sg,.slice o1 k1 c1,.slice o2 k2 c2] 27):=⟨_,rfl⟩;have HX:Hid (Box3 W1 w.heap.size (.bool sg) (.slice o1 k1 c1) (.slice o2 k2 c2)):=zHi (by rw [hW1];exact zaK _ _ _ _ _);have HBW:Hid (Below w.heap.size w W1):=zHi (by rw [hW1];exact zaa _ _);have HP:=zHi hq;have HTab:=zHi htab;have y0:=HX.out.c0;have y1:=HX.out.c1;have y2:=HX.out.c2;clear hn hd hsg hq htab;refine callsIn_of_wp Tryz.func218 rfl trivial ?_ rfl;simp only [Tryz.ntmps218,zsj,zsk,zsl,Nat.reduceAdd,Nat.reduceSub,zsm,zsn,zso,zsp,zsq,zsr];rw [hW1]at y0 y1 y2;gi_wp2_with (gi_at_call 141;refine stop ?_)
 unfold Stop;rw [←hW1]at y0 y1 y2 ⊢;obtain⟨g,hg⟩:∃g,w.heap.size=g:=⟨_,rfl⟩;rw [hg]at HX y0 y1 y2;rw [hg];clear hW1 hg;refine(zce W1 _ _ (HN.out.below HBW.out) HP.out.1 (HTab.out.below HBW.out)).mono ?_;rintro e w2 ⟨rfl,hB⟩;replace HX:=zHi (HX.out.below hB);replace HBW:=zHi (HBW.out.trans (hB.mono HBW.out.size));replace y0:=HX.out.c0;replace y1:=HX.out.c1;replace y2:=HX.out.c2;obtain⟨S,hS⟩:∃S:ByteArray,(⟨(Lib.decDigits q.num.natAbs).toArray⟩:ByteArray)=S:=⟨_,rfl⟩;have hsz:S.size=Lib.nDigits q.num.natAbs:=by rw [←hS,zch,Lib.decDigits_length]
 rw [hS];obtain⟨d,hd⟩:∃d,Lib.nDigits q.num.natAbs=d:=⟨_,rfl⟩;have HDd:=zHi hd;rw [hd]at hsz;clear hB hS hd;by_cases hd20:20<d
 ·have hdd:decide ((d:Int)>20)=true:=decide_eq_true (by omega);have HS:Hid (zaU q 20=false):=zHi (by unfold zaU;rw [HDd.out,decide_eq_false (by omega)];rfl);gi_wp2_with (exfalso;exact zam (by assumption))
  all_goals (first|go_returns|go_ret|go_end0)
  exact⟨by rw [HS.out];rfl,HBW.out⟩
 ·have hdd:decide ((d:Int)>20)=false:=decide_eq_false (by omega);gi_wp2_with (gi_at_call 141;refine stop ?_)
  unfold Stop;refine(zce w2 _ _ (HD.out.below HBW.out) (by split;exact zar 100000;exact HP.out.2) (HTab.out.below HBW.out)).mono ?_;rintro e w3 ⟨rfl,hB⟩;replace HBW:=zHi (HBW.out.trans (hB.mono HBW.out.size));obtain⟨S2,hS2⟩:∃S:ByteArray,(⟨(Lib.decDigits (if q.den=1 then 0 else q.den)).toArray⟩:ByteArray)=S:=⟨_,rfl⟩;have hsz2:S2.size=Lib.nDigits (if q.den=1 then 0 else q.den):=by rw [←hS2,zch,Lib.decDigits_length]
  rw [hS2];have hde:Lib.nDigits (if q.den=1 then 0 else q.den)=Lib.nDigits q.den:=by
   split
   ·rename_i h1;rw [h1,Lib.nDigits_small (show 0<10 by decide),Lib.nDigits_small (show 1<10 by decide)]
   ·rfl
  rw [hde]at hsz2;obtain⟨d2,hd2⟩:∃d2,Lib.nDigits q.den=d2:=⟨_,rfl⟩;have HS:Hid ((!zaU q 20)=decide (20<d2)):=zHi (by
   unfold zaU;rw [HDd.out,hd2,decide_eq_true (by omega),Bool.true_and];by_cases h:d2≤20
   ·rw [decide_eq_true h,decide_eq_false (by omega)];rfl
   ·rw [decide_eq_false h,decide_eq_true (by omega)];rfl)
  rw [hd2]at hsz2;clear hB hS2 hde hd2 y0 y1 y2;gi_wp2;all_goals (first|go_returns|go_ret|go_end0)
  refine⟨?_,HBW.out⟩;rw [HS.out];show Ending.returned (Value.bool (decide ((20:Int)<(d2:Int))))=_
  rw [show decide ((20:Int)<(d2:Int))=decide (20<d2)from decide_eq_decide.2 (by omega)]
end Go.Num
namespace Go.Num
open Go.Eng Go.Shelf Go.RowKit Go.Proofs Go.Proofs.YtepakfjilnpodaaGreatDoor
def cR(q:Rat):Tg:=match q.num with
 | .ofNat a => .bin 50 (.leaf a) (.leaf q.den)
 | .negSucc a => .bin 51 (.leaf (a+1)) (.leaf q.den)
def dR:Tg→Option Rat
 | .bin k (.leaf a) (.leaf b)=>bif Nat.beq k 50 then some (mkRat (.ofNat a) b)else bif Nat.beq k 51 then some (mkRat (-(.ofNat a)) b)else none
 | _=>none
theorem zsf(q:Rat):dR (cR q)=some q:=by
 have h:mkRat q.num q.den=q:=Rat.mkRat_self q;unfold cR;split
 ·rename_i a e;rw [e]at h;show some (mkRat (.ofNat a) q.den)=some q
  rw [h]
 ·rename_i a e;rw [e]at h;have h2:some (mkRat (Int.negSucc a) q.den)=some q:=by rw [h]
  exact h2
abbrev rs1:List TypeId:=[116]
theorem zaj.kept1{w w':World}{v:Value}{q:Rat}(h:zaj w v q)(hk:Go.Eng.Kept rs1 w w'):zaj w' v q:=by
 obtain⟨vn,vd,e,h1,h2⟩:=h;exact⟨vn,vd,e,h1.kept hk rfl,h2.kept hk rfl⟩
def IR1(t:Tg)(v:Value)(w:World):Prop:=match dR t with
 | some q=>zaj w v q
 | none=>False
def GR:Sett where
 ids:=[]
 res:=rs1
 I:=IR1
 stable:=by
  intro t v w w' hk h;unfold IR1 at h ⊢;split at h
  ·exact h.kept1 hk
  ·exact h.elim
def clsR(t:Tg):Sh:=match dR t with
 | some _ => .agg 3
 | none => .one
theorem zqY:zdf GR clsR where
 ok:=by
  intro t v w h;replace h:IR1 t v w:=h;unfold IR1 at h;unfold clsR;split at h
  ·rename_i q e;exact(zlb q).ok v w h
  ·exact h.elim
 det:=by
  intro t ht;unfold clsR at ht;split at ht <;> cases ht
theorem pR{w:World}{v:Value}{q:Rat}(h:zaj w v q):zau GR (.tag (cR q)) v w:=by
 show IR1 (cR q) v w
 unfold IR1;rw [zsf];exact h
theorem uR{w:World}{v:Value}{t:Tg}{q:Rat}(hq:dR t=some q)(h:zau GR (.tag t) v w):zaj w v q:=by
 have h:IR1 t v w:=h;unfold IR1 at h;rw [hq]at h;exact h
def sm(q:Rat):Bool:=Nat.blt q.num.natAbs 1000000000 && Nat.blt q.den 1000000000
theorem znC{q:Rat}(h:sm q=true):zad q 1:=by
 unfold sm at h;rw [Bool.and_eq_true]at h;exact⟨by rw [Nat.pow_one];exact bltN_lt h.1,by rw [Nat.pow_one];exact bltN_lt h.2⟩
theorem zjO{q:Rat}(h:sm q=true):zbR q=true:=by
 unfold sm at h;rw [Bool.and_eq_true]at h;have h1:=zc3 (bltN_lt h.1);have h2:=zc3 (bltN_lt h.2);unfold zbR zdN;rw [Bool.and_eq_true];refine⟨decide_eq_true (by omega),decide_eq_true ?_⟩;split
 ·have:=zc3 (show 0<1000000000 by decide);omega
 ·omega
def lN(n:Nat):List UInt8:=decF 20 n []
def lZ(z:Int):List UInt8:=match z with
 | .ofNat a=>lN a
 | .negSucc a=>45 :: lN (a+1)
def lQ(q:Rat):List UInt8:=bif Nat.beq q.den 1 then lZ q.num else lZ q.num ++ 47 :: lN q.den
theorem zqc{n:Nat}(h:n<1000000000):lN n=Lib.decDigits n:=zqr (k:=1) (by rw [Nat.pow_one];exact h) (by decide) (by decide)
theorem zrd{z:Int}(h:z.natAbs<1000000000):lZ z=Lib.itoa z:=by
 unfold lZ Lib.itoa;split
 ·rename_i a;have h0:¬(Int.ofNat a<0):=by show ¬((a:Int)<0);omega
  rw [if_neg h0,zqc (by simpa using h)];rfl
 ·rename_i a;rw [if_pos (Int.negSucc_lt_zero a),zqc (by simpa using h)];rfl
theorem zsc{q:Rat}(h:sm q=true):zf5 q=⟨⟨lQ q⟩⟩:=by
 unfold sm at h;rw [Bool.and_eq_true]at h;unfold zf5 lQ zdg
 cases e:Nat.beq q.den 1 with
 | true=>
  rw [if_pos (Nat.eq_of_beq_eq_true e),cond_true,zrd (bltN_lt h.1)]
 | false=>
  rw [if_neg (fun e2=>by rw [e2]at e;cases e),cond_false,zrd (bltN_lt h.1),zqc (bltN_lt h.2)]
def st(l:List UInt8):AT:=.val (.sc (.str ⟨⟨l⟩⟩))
def tR(q:Rat):AT:=.tag (cR q)
def unR(f:FuncId)(p:Rat):Option AT:=
 bif !sm p then none else
 bif Nat.beq f 66 then some (A1 (tR (-p)))else
 bif Nat.beq f 25 then some (A1 (vi (sgnR p)))else
 bif Nat.beq f 18 then some (A1 (st (lQ p)))else
 bif Nat.beq f 74 then some (A1 (tR p))else
 bif Nat.beq f 218 then some (A1 (vb false))else
 bif Nat.beq f 75 then some (A2 (st (lZ p.num)) (st (lN p.den)))else none
def biR(f:FuncId)(p q:Rat):Option AT:=
 bif !(sm p && sm q)then none else
 bif Nat.beq f 17 then(bif sm (p+q)then some (A2 (tR (p+q)) (vi 0))else none)else
 bif Nat.beq f 71 then some (A1 (tR (p+q)))else
 bif Nat.beq f 44 then(bif sm (p*q)then some (A2 (tR (p*q)) (vi 0))else none)else
 bif Nat.beq f 111 then some (A1 (tR (p*q)))else
 bif Nat.beq f 15 then some (A1 (vi (sgnR (p-q))))else
 bif Nat.beq q.num.natAbs 0 then none else
 bif Nat.beq f 45 then(bif sm (p/q)then some (A2 (tR (p/q)) (vi 0))else none)else
 bif Nat.beq f 61 then some (A1 (tR (p/q)))else none
def zAV:AV:=.agg (.cons (.sc (.bool false)) (.cons (.sc .nilSlice) (.cons (.sc .nilSlice) .nil)))
def numT:AT→Option Rat
 | .tag t=>dR t
 | .val (.agg cs)=>bif (AV.agg cs).beq zAV then some 0 else none
 | _=>none
def intT:AT→Option Int
 | .val (.sc (.int .i64 n))=>some n
 | _=>none
def TR:TTab:=fun f ts=>
 match ts with
 | .cons a .nil=>(match numT a with
  | some p=>unR f p
  | none=>match intT a with
   | some n=>bif Nat.beq f 16 && Nat.blt n.natAbs 1000000000 then some (A1 (tR (n:Rat)))else none
   | none=>none)
 | .cons a (.cons b .nil)=>(match numT a,numT b with
  | some p,some q=>biR f p q
  | _,_=>match intT a,intT b with
   | some n,some m=>bif Nat.beq f 13 && Nat.blt n.natAbs 1000000000 && Nat.blt m.natAbs 1000000000 && !Nat.beq m.natAbs 0 then some (A2 (tR ((n:Rat)/(m:Rat))) (vi 0))else none
   | _,_=>none)
 | _=>none
theorem zl5{w:World}{a:AT}{v:Value}{q:Rat}(hq:numT a=some q)(h:zau GR a v w):zaj w v q:=by
 unfold numT at hq;split at hq
 ·exact uR hq h
 ·rename_i cs
  cases e:(AV.agg cs).beq zAV with
  | false=>rw [e]at hq;cases hq
  | true=>
   rw [e]at hq
   cases hq
   have:=AV.beq_eq e;have h:(AV.agg cs).closed=some v:=h;rw [this]at h
   cases h
   exact zao w
 ·cases hq
theorem zl9{w:World}{a:AT}{v:Value}{n:Int}(hq:intT a=some n)(h:zau GR a v w):v = .int .i64 n:=by
 unfold intT at hq;split at hq
 ·cases hq
  have h:some (Value.int .i64 _)=some v:=h
  cases h;rfl
 ·cases hq
theorem zgR{f k:Nat}{a b:Option AT}{r:AT}(h:(bif Nat.beq f k then a else b)=some r):(f=k∧a=some r)∨b=some r:=by
 cases e:Nat.beq f k with
 | true=>rw [e]at h;exact .inl ⟨Nat.eq_of_beq_eq_true e,h⟩
 | false=>rw [e]at h;exact .inr h
theorem zpE{c:Bool}{a:Option AT}{r:AT}(h:(bif c then a else none)=some r):c=true∧a=some r:=by
 cases c with
 | true=>exact⟨rfl,h⟩
 | false=>cases h
theorem zrp{c:Bool}{b:Option AT}{r:AT}(h:(bif c then none else b)=some r):c=false∧b=some r:=by
 cases c with
 | true=>cases h
 | false=>exact⟨rfl,h⟩
abbrev zr3(w:World)(rs:AT)(e:Ending)(w':World):Prop:=∃x,e = .returned x∧zbP GR rs x w'∧Below w.heap.size w w'
theorem zpS{f:FuncId}{p:Rat}{rs:AT}(h:unR f p=some rs):(∃fn:Func,Tryz.prog.funcs[f]? = some fn∧fn.body.isSome=true)∧∀w v,zaj w v p→zbh w→CallsIn Fence.wide 0 Tryz.prog f #[v] w (zr3 w rs):=by
 unfold unR at h;obtain⟨hs,h⟩:=zrp h;have hs:sm p=true:=by simpa using hs
 have hL:zad p 100000:=(znC hs).mono (by decide);rcases zgR h with⟨rfl,h⟩|h
 ·cases h
  refine⟨⟨_,Tryz.func66,rfl⟩,fun w v hv _=>(zhV w v p hv).mono ?_⟩;rintro e w' ⟨x,rfl,hr,hb⟩;exact⟨x,rfl,pR hr,hb⟩
 rcases zgR h with⟨rfl,h⟩|h
 ·cases h
  refine⟨⟨_,Tryz.func25,rfl⟩,fun w v hv _=>(zaT w v p hv).mono ?_⟩;rintro e w' ⟨rfl,hb⟩;exact⟨_,rfl,rfl,hb⟩
 rcases zgR h with⟨rfl,h⟩|h
 ·cases h
  refine⟨⟨_,Tryz.func18,rfl⟩,fun w v hv ht=>(zgW w v p hv hL ht).mono ?_⟩;rintro e w' ⟨rfl,hb⟩;exact⟨_,rfl,by rw [zsc hs];rfl,hb⟩
 rcases zgR h with⟨rfl,h⟩|h
 ·cases h
  refine⟨⟨_,Tryz.func74,rfl⟩,fun w v hv ht=>(zjr w v p hv hL (zjO hs) ht).mono ?_⟩;rintro e w' ⟨x,rfl,hr,hb⟩;exact⟨x,rfl,pR hr,hb⟩
 rcases zgR h with⟨rfl,h⟩|h
 ·cases h
  refine⟨⟨_,Tryz.func218,rfl⟩,fun w v hv ht=>(zlg w v p hv hL ht).mono ?_⟩;rintro e w' ⟨rfl,hb⟩;have hq:zaU p 20=true:=by
   unfold sm at hs;rw [Bool.and_eq_true]at hs;have h1:=zc3 (bltN_lt hs.1);have h2:=zc3 (bltN_lt hs.2);unfold zaU;rw [decide_eq_true (by omega),decide_eq_true (by omega)];rfl
  rw [hq];exact⟨_,rfl,rfl,hb⟩
 rcases zgR h with⟨rfl,h⟩|h
 ·cases h
  refine⟨⟨_,Tryz.func75,rfl⟩,fun w v hv ht=>(zfE w v p hv hL ht).mono ?_⟩;rintro e w' ⟨rfl,hb⟩;unfold sm at hs;rw [Bool.and_eq_true]at hs;refine⟨_,rfl,pk2 ?_ ?_,hb⟩
  ·show some (Value.string ⟨⟨lZ p.num⟩⟩)=_
   rw [zrd (bltN_lt hs.1)];rfl
  ·show some (Value.string ⟨⟨lN p.den⟩⟩)=_
   rw [zqc (bltN_lt hs.2)];rfl
 ·cases h
theorem zqA{f:FuncId}{p q:Rat}{rs:AT}(h:biR f p q=some rs):(∃fn:Func,Tryz.prog.funcs[f]? = some fn∧fn.body.isSome=true)∧∀w v u,zaj w v p→zaj w u q→zbh w→CallsIn Fence.wide 0 Tryz.prog f #[v,u] w (zr3 w rs):=by
 unfold biR at h;obtain⟨hs,h⟩:=zrp h;have hs:sm p=true∧sm q=true:=by simpa using hs
 have hp:=znC hs.1;have hq:=znC hs.2;rcases zgR h with⟨rfl,h⟩|h
 ·obtain⟨h1,h⟩:=zpE h
  cases h
  refine⟨⟨_,Tryz.func17,rfl⟩,fun w v u hv hu ht=>(zjH w v u p q 1 hv hu hp hq (by decide) ((znC h1).mono (by decide)) (zjO h1) ht).mono ?_⟩;rintro e w' ⟨x,rfl,hr,hb⟩;exact⟨_,rfl,pk2 (pR hr) rfl,hb⟩
 rcases zgR h with⟨rfl,h⟩|h
 ·cases h
  refine⟨⟨_,Tryz.func71,rfl⟩,fun w v u hv hu ht=>(zgC w v u p q 1 hv hu hp hq (by decide)).mono ?_⟩;rintro e w' ⟨x,rfl,hr,hb⟩;exact⟨_,rfl,pR hr,hb⟩
 rcases zgR h with⟨rfl,h⟩|h
 ·obtain⟨h1,h⟩:=zpE h
  cases h
  refine⟨⟨_,Tryz.func44,rfl⟩,fun w v u hv hu ht=>(zjn w v u p q 1 hv hu hp hq (by decide) ((znC h1).mono (by decide)) (zjO h1) ht).mono ?_⟩;rintro e w' ⟨x,rfl,hr,hb⟩;exact⟨_,rfl,pk2 (pR hr) rfl,hb⟩
 rcases zgR h with⟨rfl,h⟩|h
 ·cases h
  refine⟨⟨_,Tryz.func111,rfl⟩,fun w v u hv hu ht=>(zhy w v u p q 1 hv hu hp hq (by decide)).mono ?_⟩;rintro e w' ⟨x,rfl,hr,hb⟩;exact⟨_,rfl,pR hr,hb⟩
 rcases zgR h with⟨rfl,h⟩|h
 ·cases h
  refine⟨⟨_,Tryz.func15,rfl⟩,fun w v u hv hu ht=>(zbL w v u p q 1 hv hu hp hq (by decide)).mono ?_⟩;rintro e w' ⟨rfl,hb⟩;exact⟨_,rfl,rfl,hb⟩
 obtain⟨h0,h⟩:=zrp h;have hq0:q.num≠0:=by
  intro e;rw [e]at h0
  cases h0
 rcases zgR h with⟨rfl,h⟩|h
 ·obtain⟨h1,h⟩:=zpE (c:=sm (p/q)) (a:=some (A2 (tR (p/q)) (vi 0))) h
  cases h
  refine⟨⟨_,Tryz.func45,rfl⟩,fun w v u hv hu ht=>(zjg w v u p q 1 hv hu hp hq hq0 (by decide) ((znC h1).mono (by decide)) (zjO h1) ht).mono ?_⟩;rintro e w' ⟨x,rfl,hr,hb⟩;exact⟨_,rfl,pk2 (pR hr) rfl,hb⟩
 rcases zgR h with⟨rfl,h⟩|h
 ·cases h
  refine⟨⟨_,Tryz.func61,rfl⟩,fun w v u hv hu ht=>(zgD w v u p q 1 hv hu hp hq hq0 (by decide)).mono ?_⟩;rintro e w' ⟨x,rfl,hr,hb⟩;exact⟨_,rfl,pR hr,hb⟩
 ·cases h
def ze1{β:Type}:Tg→(Tg→β)→β
 | .leaf n,k=>fN n fun n=>k (.leaf n)
 | .un n a,k=>fN n fun n=>ze1 a fun a=>k (.un n a)
 | .bin n a b,k=>fN n fun n=>ze1 a fun a=>ze1 b fun b=>k (.bin n a b)
theorem zfk{β:Type}:∀(t:Tg) (k:Tg→β),ze1 t k=k t
 | .leaf n,k=>by unfold ze1;rw [fN_eq]
 | .un n a,k=>by unfold ze1;rw [fN_eq,zfk a]
 | .bin n a b,k=>by unfold ze1;rw [fN_eq,zfk a,zfk b]
def zfN{β:Type}:AT→(AT→β)→β
 | .tag t,k=>ze1 t fun t=>k (.tag t)
 | .val v,k=>v.force fun v=>k (.val v)
 | .cons a b,k=>zfN a fun a=>zfN b fun b=>k (.cons a b)
 | t,k=>k t
theorem zgK{β:Type}:∀(t:AT) (k:AT→β),zfN t k=k t
 | .tag t,k=>by unfold zfN;rw [zfk]
 | .val v,k=>by unfold zfN;rw [AV.force_eq]
 | .cons a b,k=>by unfold zfN;rw [zgK a,zgK b]
 | .agg _,_=>rfl
 | .fn _ _ _,_=>rfl
 | .nil,_=>rfl
def TF:TTab:=fun f ts=>match TR f ts with
 | some r=>zfN r some
 | none=>none
theorem zsh:TF=TR:=by
 funext f ts
 unfold TF
 cases TR f ts with
 | none=>rfl
 | some r=>exact zgK r some
theorem zrx{w0:World}(ht:zbh w0):zdM Tryz.prog w0.heap.size w0 GR TF:=by
 rw [zsh];intro f ts rs h;unfold TR at h;split at h
 ·rename_i a;split at h
  ·rename_i p hp;obtain⟨hb,hc⟩:=zpS h;refine⟨hb,fun w xs hw hx => ?_⟩;obtain⟨v,r,e,h1,h2⟩:=hx;have h2:r = []:=h2;subst h2;have:xs=#[v]:=Array.toList_inj.1 (by simpa using e);subst this;exact callsIn_wide.1 (hc w v (zl5 hp h1) (ht.below hw))
  ·split at h
   ·rename_i n hn';obtain⟨hc,h⟩:=zpE h
    cases h
    rw [Bool.and_eq_true]at hc;obtain rfl:=Nat.eq_of_beq_eq_true hc.1;have hn:=bltN_lt hc.2;refine⟨⟨_,Tryz.func16,rfl⟩,fun w xs hw hx => ?_⟩;obtain⟨v,r,e,h1,h2⟩:=hx;have h2:r = []:=h2;subst h2;have:xs=#[v]:=Array.toList_inj.1 (by simpa using e);subst this;obtain rfl:=zl9 hn' h1;refine callsIn_wide.1 ((zbm w n (by omega) (by omega)).mono ?_);rintro e w' ⟨x,rfl,hr,hb⟩;exact⟨_,rfl,pR hr,hb⟩
   ·cases h
 ·rename_i a b;split at h
  ·rename_i p q hp hq;obtain⟨hb,hc⟩:=zqA h;refine⟨hb,fun w xs hw hx => ?_⟩;obtain⟨v,r,e,h1,u,r2,e2,h2,h3⟩:=hx;subst e2;have h3:r2 = []:=h3;subst h3;have:xs=#[v,u]:=Array.toList_inj.1 (by simpa using e);subst this;exact callsIn_wide.1 (hc w v u (zl5 hp h1) (zl5 hq h2) (ht.below hw))
  ·split at h
   ·rename_i n m hn' hm';obtain⟨hc,h⟩:=zpE h
    cases h
    simp only [Bool.and_eq_true]at hc;obtain⟨⟨⟨hf,hn⟩,hm⟩,h0⟩:=hc;obtain rfl:=Nat.eq_of_beq_eq_true hf;have hn:=bltN_lt hn;have hm:=bltN_lt hm;have hm0:m≠0:=by
     intro e;subst e
     cases h0
    refine⟨⟨_,Tryz.func13,rfl⟩,fun w xs hw hx => ?_⟩;obtain⟨v,r,e,h1,u,r2,e2,h2,h3⟩:=hx;subst e2;have h3:r2 = []:=h3;subst h3;have:xs=#[v,u]:=Array.toList_inj.1 (by simpa using e);subst this;obtain rfl:=zl9 hn' h1;obtain rfl:=zl9 hm' h2;refine callsIn_wide.1 ((znQ w n m (by omega) (by omega) (by omega) (by omega) hm0).mono ?_);rintro e w' ⟨x,rfl,hr,hb⟩;exact⟨_,rfl,pk2 (pR hr) rfl,hb⟩
   ·cases h
 ·cases h
def zpg:Option (AV × AH)→Bool
 | some (.sc (.bool true),_)=>true
 | _=>false
theorem zpJ:zpg ((cb Tryz.prog [] (zhR clsR TF) [133,139,143,146,219] 3000).call 19 .nil (bare rs1))=true:=by kernel_rfl
theorem zpf{r:Option (AV × AH)}(h:zpg r=true):∃H,r=some (.sc (.bool true),H):=by
 unfold zpg at h;split at h
 ·exact⟨_,rfl⟩
 ·cases h
theorem zou:∀g ∈ [133,139,143,146,219],zdc Tryz.prog g:=by
 intro g hg;simp at hg
 rcases hg with rfl|rfl|rfl|rfl|rfl
 ·exact zkI
 ·exact zkJ
 ·exact zox
 ·exact zow
 ·exact zov
theorem zmv{w:World}(h:Laid w):Calls Tryz.prog 19 #[] w fun e w'=>e = .returned (.bool true)∧Below w.heap.size w w':=by
 obtain⟨H',hr⟩:=zpf zpJ;refine(zdJ (G:=GR) zak zac (zd1 zqY (zrx h.pow)) zou hr (zkl (G:=GR) rfl w) (by rfl)).mono ?_;rintro e w' ⟨x,μ',rfl,_,hx,hrep⟩;have hx':x = .bool true:=hx;exact⟨by rw [hx'],hrep.below⟩
theorem zn5{w:World}(h:Laid w):zsi w:=fun _w' hb=>callsIn_wide.2 (zmv (h.below hb))
end Go.Num
namespace Go.Num
open Go.ChangeShapes Go.WideShapes Go.ChangeAt Go.RowKit Go.Eng Go.Proofs Go.Proofs.YtepakfjilnpodaaGreatDoor
section
variable {H:Type} {enc:TypeId × Value→H} {P:Program}
theorem zj1{f:Func}{s:ChangeSpec}{apart fresh handsOn again:Bool}{W W':World}{args:Array Value}{v:Value}{ds gs:List (DataW H)}{before pa pv:List MemPlace}
  (hW:DataW.Whole enc P f.params.toList s.vars apart W args.toList ds gs before)
  (hres:∀(b:Nat) (sp:Nat→Bool) (hd:Bool),DataW.TrodAll enc P W' b sp hd f.resultTypes.toList (v.resultList f.resultTypes.size) (s.fn H (ds ++ gs)).results [])
  (hargs:∀sp:Nat→Bool,(∀p∈before,sp p.block=true)→DataW.TrodAll enc P W' 0 sp true f.params.toList args.toList (s.fn H (ds ++ gs)).args pa)
  (hvars:∀sp:Nat→Bool,(∀p∈before,sp p.block=true)→DataW.TrodVars enc P W' sp s.vars (s.fn H (ds ++ gs)).vars pv)
  (hps:before=pa ++ pv) (hb:Below W.heap.size W W')
  (hok:∀(j:Nat) (t:TypeId) (r:Value),f.resultTypes[j]? = some t→(v.resultList f.resultTypes.size)[j]? = some r→Value.okWide P W' .any 0 t r) :
  s.post enc P f apart fresh handsOn again W args v W':=by
 have hold:∀p∈before,(fun b=>decide (b<W.heap.size)) p.block=true:=fun p hp=>by simpa using hW.lt p hp
 have hlt:=hW.lt;refine⟨ds,gs,before,[],pa,pv,hW,hres _ _ _,hargs _ hold,hvars _ hold,World.keptBut_mono (fun p hp=>⟨hp,?_⟩) (hb.frame (· ∈ before)),fun _ => ?_⟩
 ·rw [hps,List.mem_append]at hp;exact Or.inr hp
 ·obtain⟨_,_,_,_,_,hz,hn⟩:=hW;refine⟨hok,_,_,([] ++ pa) ++ pv,⟨[] ++ pa,pv,trodAll_append (hargs _ (fun _ _=>rfl)) (hres _ _ _),hvars _ (fun _ _=>rfl),rfl,?_,?_⟩,?_⟩
  ·intro b off hp;have hp':MemPlace.cell b off∈before:=by rw [hps];simpa using hp
   rw [hb.frozen (hlt _ hp')];exact hz b off hp'
  ·intro ha;have:=hn ha;rw [hps]at this;simpa using this
  ·intro p hp _;rw [hps];simpa using hp
end
theorem own:ownKnob Tryz.prog.godebug=none:=by kernel_rfl
theorem zrc:laidOutB Tryz.prog=true:=by kernel_rfl
theorem gPow:Tryz.prog.globalNamed "internal/strconv.uint64pow10" = some 1:=by kernel_rfl
theorem zsd:(Tryz.prog.globals[1]?).map (·.type)=some 295:=by kernel_rfl
theorem u226:Tryz.prog.underlying 295=some (.array 20 116):=by kernel_rfl
theorem u111:Tryz.prog.underlying 116=some (.int .u64):=by kernel_rfl
theorem zqv:Tryz.prog.cellsOf 116=1:=by kernel_rfl
theorem zqu:Tryz.prog.cellsOf 295=20:=by kernel_rfl
theorem zra{l:List (String × DataW Unit)}{a b:String × DataW Unit}{r:List (String × DataW Unit)}{W:World}(e:l=a :: b :: ("internal/strconv.uint64pow10",Lib.tabData .u64 Lib.pow10Tab) :: r)(hf:(l.filter fun x=>x.2.handleName?.isSome) = [])(h:laidMetH Tryz.prog l W)(hs:W.ShapedOpen Tryz.prog):Laid W:=by
 unfold laidMetH at h;rw [hf]at h;have h:laidMet Tryz.prog l W:=h;rw [e]at h;exact⟨Lib.tabIs_of_head gPow zsd u226 u111 zqv zqu h.tail.tail,Tryz.laysM219.s1_3 W hs⟩
theorem zlw{H:Type}{enc:TypeId × Value→H}{W W':World}{sp:Nat→Bool}(hl:laidOutB Tryz.prog=true):∀{ts:List TypeId} {vs:List Value} {ds:List (DataW H)} {ps:List MemPlace},
  (∀t∈ts,Tryz.prog.readableRec t=true∧t<Tryz.prog.types.size)→DataW.TrodAll enc Tryz.prog W 0 (fun _=>true) true ts vs ds ps→(∀p∈ps,W.sameAt W' p)→(∀p∈ps,sp p.block=true)→DataW.TrodAll enc Tryz.prog W' 0 sp true ts vs ds ps
 | [],vs,ds,ps,_,h,_,_=>by
  obtain⟨rfl,rfl,rfl⟩:=trodAll_nil h;exact trodAll_mk0
 | t :: ts,vs,ds,ps,hr,h,h1,h2=>by
  obtain⟨v,vs',d,ds',p,q,rfl,rfl,rfl,hd,hrest⟩:=trodAll_cons h;exact⟨p,q,WideElems.Trod_stays hl (hr t (by simp)).1 (hr t (by simp)).2 hd (fun x hx=>h1 x (by simp [hx])) (fun x hx=>h2 x (by simp [hx])),
   zlw hl (fun t' ht'=>hr t' (by simp [ht'])) hrest (fun x hx=>h1 x (by simp [hx])) (fun x hx=>h2 x (by simp [hx])),rfl⟩
def db64:List Int:=[0,1,56,2,57,49,28,3,61,58,42,50,38,29,17,4,62,47,59,36,45,43,51,22,53,39,33,30,24,18,12,5,63,55,48,27,60,41,37,16,46,35,44,21,52,32,23,11,54,26,40,15,34,20,31,10,25,14,19,9,13,8,7,6]
def db32:List Int:=[0,1,28,2,29,14,24,3,30,22,20,15,25,17,4,8,31,27,13,23,21,19,16,7,26,12,18,6,11,5,10,9]
def zsg:List Nat:=[128,191,160,191,128,159,144,191,128,143] ++ List.replicate 22 0
noncomputable def zep(cs:Array Value):Obj→Obj
 | .cells _ t frozen => .cells cs t frozen
 | o=>o
noncomputable def zh2(os:Os):World:=
 let w:=World.holding Tryz.prog os ⟨#[],#[],[]⟩
 let i:=w.heap.size
 let w:=(w.alloc (.cells #[.string ⟨#[105,110,118,97,108,105,100,32,115,121,110,116,97,120]⟩] 313)).alloc (.cells #[.string ⟨#[118,97,108,117,101,32,111,117,116,32,111,102,32,114,97,110,103,101]⟩] 313)
 {w with heap:=(((((((w.heap.modify 2 (zep #[.iface 311 (.pointer (some ⟨i,0,none⟩))])).modify 3 (zep #[.iface 311 (.pointer (some ⟨i+1,0,none⟩))])).modify 1 (zep (Lib.pow10Tab.map (Value.int .u64)).toArray)).modify 4 (zep (Pinned.utf8FirstZ.map fun (n:Nat)=>Value.int .u8 (n:Int)).toArray)).modify 5 (zep (zsg.map fun (n:Nat)=>Value.int .u8 (n:Int)).toArray)).modify 6 (zep (db32.map (Value.int .u8)).toArray)).modify 7 (zep (db64.map (Value.int .u8)).toArray))}
section
variable {H:Type} {enc:TypeId × Value→H} {W:World} {v:Value} {d:DataW H} {p:List MemPlace} {b0:Nat}
end
end Go.Num
