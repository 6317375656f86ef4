/-
  'attempt' of a closure that does not panic: four instances. Printed by mkAtt.py. 'slices.Contains' of integers. A row of a matrix of one's o
  Conditions: see each statement.
-/
import Derived.Test.YtoamcgjbelhnkaaGreatDoorWAW
import Derived.Test.YtoamcgjbelhnkaaGreatDoorWAO
import Derived.Test.YtoamcgjbelhnkaaGreatDoorWAA
import Derived.Test.YtoamcgjbelhnkaaGreatDoorWAV
import Derived.Maps.AppendAt
set_option maxRecDepth 100000
set_option maxHeartbeats 8000000
namespace Go.Num
open Go.Eng Go.Shelf Go.RowKit Go.Sort Go.Proofs Go.Proofs.YtoamcgjbelhnkaaGreatDoor
theorem zsa{F:Fence}{n:Nat}{P:Program}{f:FuncId}{args:Array Value}{w:World}{R:Ending→World→Prop}(h:Stop (CallsIn F n P f args w R)):CallsIn F n P f args w R:=h
theorem zeI{w:World}{g i:Nat}{e:TypeId}{v:Value}{X:Nat→TypeId→Prop}(hE:Elem w g e)(hx:X g e):FrX X w (w.setCell ⟨g,i,none⟩ v):=by
 refine⟨by rw [World.size_setCell];exact Nat.le_refl _,fun b cs e' fz hb hx' => ?_⟩;obtain⟨_,_,hE⟩:=hE;rw [heap_setCell_other _ _ _ _ (show b≠g from fun q=>by subst q;rw [hE]at hb;cases hb;exact hx' hx)];exact hb
theorem l55a:zbW Tryz.prog 55:=za9 (by kernel_rfl)
theorem l3a:zbW Tryz.prog 3:=za9 (by kernel_rfl)
theorem zl0(w:World)(f:FuncId)(cap:Array Value)(R:Value→World→Prop)(hce:∀args w,(callFunc f args).run Tryz.prog w = .ok (.enter f args) w)
  (hRs:∀v W W',R v W→FrX (fun _ e=>e=25∨e=26) W W'→R v W')
  (hc:∀W,Below w.heap.size w W→CallsIn Fence.wide 0 Tryz.prog f cap W fun e w'=>∃v',e = .returned v'∧((∃(sg:Bool) (p:Option Addr) (l:Nat) (d:Nat) (p2:Option Addr) (l2:Nat) (d2:Nat),v' = .agg #[.bool sg,.slice p l d,.slice p2 l2 d2])∧R v' w')∧Below W.heap.size W w') :
  CallsIn Fence.wide 0 Tryz.prog 66 #[.func (.func f) #[] cap] w fun e w'=>∃v',e = .returned (.tuple #[v',.int .i64 0])∧R v' w'∧Below w.heap.size w w':=by
 have hmf:∀(fn:Fn) (first cap:Array Value) (w:World),(Instr.makeFunc fn first cap).run Tryz.prog w = .ok (.func fn first cap) w:=fun _ _ _ _=>rfl
 have HC:=zHi hc;have HRS:=zHi hRs;clear hc hRs;gi_enter_defers Tryz.func66,Tryz.ntmps66
 gi_wp2_with (with_reducible refine zsa (f:=f) ?_)
 unfold Stop;obtain⟨W0,hW0⟩:∃W,W=w.alloc (.cells #[.bool false,.slice none 0 0,.slice none 0 0] 25):=⟨_,rfl⟩;have h0s:W0.heap.size=w.heap.size+1:=by rw [hW0];simp
 obtain⟨W1,hW1⟩:∃W,W=W0.alloc (.cells #[.int .i64 0] 26):=⟨_,rfl⟩;rw [←hW0,←hW1];have HA:Hid (∃f,zaf W1 w.heap.size 3 f):=zHi ⟨fun i => [.bool false,.slice none 0 0,.slice none 0 0].getD i (.bool false),by
  rw [hW1];refine zaf.alloc ?_ (by omega) _;rw [hW0];refine zaf.new _ _ _ fun i hi => ?_
  have:i=0∨i=1∨i=2:=by omega
  rcases this with rfl|rfl|rfl <;> rfl⟩
 have HA2:Hid (∃f,zaf W1 (w.heap.size+1) 1 f):=zHi ⟨fun i => .int .i64 0,by
  rw [hW1,←h0s];exact zaf.new _ _ _ fun i hi=>by
   have:i=0:=by omega
   rw [this];rfl⟩
 have HE:Hid (Elem W1 w.heap.size 25):=zHi ((by rw [hW0];exact zas _ _ _:Elem W0 w.heap.size 25).below (by rw [hW1];exact zaa _ _) (by omega));have HE2:Hid (Elem W1 (w.heap.size+1) 26):=zHi (by rw [hW1,←h0s];exact zas _ _ _);have HBW:Hid (Below w.heap.size w W1):=zHi (by rw [hW1,hW0];exact(zaa _ _).alloc (by simp) _);have hl:w.heap.size+1<W1.heap.size:=by rw [hW1];simp;omega
 obtain⟨g,hg⟩:∃g,w.heap.size=g:=⟨_,rfl⟩;rw [hg]at HA HA2 HE HE2 hl;rw [hg];have hgw:w.heap.size≤g:=by omega
 clear hW0 hW1 h0s hg;refine(HC.out W1 HBW.out).mono ?_;rintro e w2 ⟨v2,rfl,⟨⟨sg,p,l,d,p2,l2,d2,rfl⟩,hr2⟩,hB⟩;have HR2:=zHi hr2;replace HBW:=zHi (HBW.out.trans (hB.mono HBW.out.size));replace HE:=zHi (HE.out.below hB (by omega));replace HE2:=zHi (HE2.out.below hB (by omega));obtain⟨f1,hf⟩:=HA.out;obtain⟨f2,hf2⟩:=HA2.out;have ha:=hf.below (by omega) hB;have ha2:=hf2.below (by omega) hB;have z0:=(ha 0 (by omega)).1;have y0:=(ha 0 (by omega)).2;have z1:=(ha 1 (by omega)).1;have y1:=(ha 1 (by omega)).2;have z2:=(ha 2 (by omega)).1;have y2:=(ha 2 (by omega)).2;have x0:=(ha2 0 (by omega)).1;have x1:=(ha2 0 (by omega)).2;have HA9:=zHi ha;have HA8:=zHi ha2;clear hr2 hB ha ha2 hf hf2 HA HA2;gi_wp2;have hB3:Below w.heap.size w ((((w2.setCell ⟨g,0,none⟩ (.bool sg)).setCell ⟨g,1,none⟩ (.slice p l d)).setCell ⟨g,2,none⟩ (.slice p2 l2 d2)).setCell ⟨g+1,0,none⟩ (.int .i64 0)):=
  (((HBW.out.setCell hgw _).setCell hgw _).setCell hgw _).setCell (by show w.heap.size≤g+1;omega) _
 refine leavesIn_cons (f:=109) (args:=#[.pointer (some ⟨g,0,none⟩),.pointer (some ⟨g+1,0,none⟩)]) (by simp) (by simp) (by simp [go_sem]) (by simp [Target.leads]) ?_;refine(zhw.2 _ _).mono ?_;rintro e u' w'' ⟨⟨v3,rfl⟩,rfl,hh,hb⟩;refine⟨.tuple #[.agg #[.bool sg,.slice p l d,.slice p2 l2 d2],.int .i64 0],?_,_,rfl,?_,?_⟩
 ·have h3:=(((HA9.out.set (i:=0) (by omega) (.bool sg)).set (i:=1) (by omega) (.slice p l d)).set (i:=2) (by omega) (.slice p2 l2 d2));have n3:∀j:Nat,(⟨g,j,none⟩:Addr)≠⟨g+1,0,none⟩:=fun j e=>by injection e with e _ _;omega
  have n4:∀j:Nat,(⟨g+1,0,none⟩:Addr)≠⟨g,j,none⟩:=fun j e=>by injection e with e _ _;omega
  have b3:BoxL ((((w2.setCell ⟨g,0,none⟩ (.bool sg)).setCell ⟨g,1,none⟩ (.slice p l d)).setCell ⟨g,2,none⟩ (.slice p2 l2 d2)).setCell ⟨g+1,0,none⟩ (.int .i64 0)) g [.bool sg,.slice p l d,.slice p2 l2 d2]:=⟨by have:=HE.out.lt;simpa using this,fun j v hj=>by
   rw [World.cell?_setCell_other _ _ _ _ (n4 j)];match j,hj with
   | 0,hj=>rw [←hj];exact(h3 0 (by omega)).1
   | 1,hj=>rw [←hj];exact(h3 1 (by omega)).1
   | 2,hj=>rw [←hj];exact(h3 2 (by omega)).1
   | n+3,hj=>simp at hj⟩
  have c3:((((w2.setCell ⟨g,0,none⟩ (.bool sg)).setCell ⟨g,1,none⟩ (.slice p l d)).setCell ⟨g,2,none⟩ (.slice p2 l2 d2)).setCell ⟨g+1,0,none⟩ (.int .i64 0)).cell? ⟨g+1,0,none⟩=some (.int .i64 0):=
   World.cell?_setCell_same _ _ _ (by rw [World.cell?_setCell_other _ _ _ _ (n3 2),World.cell?_setCell_other _ _ _ _ (n3 1),World.cell?_setCell_other _ _ _ _ (n3 0)];exact x0)
  have e1:=l25 g [.bool sg,.slice p l d,.slice p2 l2 d2] w'' rfl (fun j v hj=>(hb.cell (p:=⟨g,j,none⟩) b3.1).trans (b3.2 j v hj));have e2:=l26 ⟨g+1,0,none⟩ _ w'' ((hb.cell (World.block_lt_of_cell? _ _ c3)).trans c3);simp only [Instr.loadAt,Instr.sureAddr,Sem.run_bind,Sem.run_pure,Result.andThen_ok]at e1 e2;simp [results,asAddr,e1,e2]
 ·exact HRS.out _ _ _ HR2.out (((zeI (i:=0) (v:=.bool sg) HE.out (.inl rfl)).trans ((zeI (i:=1) (v:=.slice p l d) (HE.out.setCell _ _) (.inl rfl)).trans ((zeI (i:=2) (v:=.slice p2 l2 d2) ((HE.out.setCell _ _).setCell _ _) (.inl rfl)).trans (zeI (i:=0) (v:=.int .i64 0) (((HE2.out.setCell _ _).setCell _ _).setCell _ _) (.inr rfl))))).trans (FrX.of_below hb))
 ·exact hB3.trans (hb.mono hB3.size)
theorem zlZ(w:World)(f:FuncId)(cap:Array Value)(R:Value→World→Prop)(hce:∀args w,(callFunc f args).run Tryz.prog w = .ok (.enter f args) w)
  (hRs:∀v W W',R v W→FrX (fun _ e=>e=55∨e=26) W W'→R v W')
  (hc:∀W,Below w.heap.size w W→CallsIn Fence.wide 0 Tryz.prog f cap W fun e w'=>∃v',e = .returned v'∧((∃(p:Option Addr) (l:Nat) (d:Nat),v' = .slice p l d)∧R v' w')∧Below W.heap.size W w') :
  CallsIn Fence.wide 0 Tryz.prog 78 #[.func (.func f) #[] cap] w fun e w'=>∃v',e = .returned (.tuple #[v',.int .i64 0])∧R v' w'∧Below w.heap.size w w':=by
 have hmf:∀(fn:Fn) (first cap:Array Value) (w:World),(Instr.makeFunc fn first cap).run Tryz.prog w = .ok (.func fn first cap) w:=fun _ _ _ _=>rfl
 have HC:=zHi hc;have HRS:=zHi hRs;clear hc hRs;gi_enter_defers Tryz.func78,Tryz.ntmps78
 gi_wp2_with (with_reducible refine zsa (f:=f) ?_)
 unfold Stop;obtain⟨W0,hW0⟩:∃W,W=w.alloc (.cells #[.slice none 0 0] 55):=⟨_,rfl⟩;have h0s:W0.heap.size=w.heap.size+1:=by rw [hW0];simp
 obtain⟨W1,hW1⟩:∃W,W=W0.alloc (.cells #[.int .i64 0] 26):=⟨_,rfl⟩;rw [←hW0,←hW1];have HA:Hid (∃f,zaf W1 w.heap.size 1 f):=zHi ⟨fun i => [.slice none 0 0].getD i (.bool false),by
  rw [hW1];refine zaf.alloc ?_ (by omega) _;rw [hW0];refine zaf.new _ _ _ fun i hi => ?_
  have:i=0:=by omega
  rw [this];rfl⟩
 have HA2:Hid (∃f,zaf W1 (w.heap.size+1) 1 f):=zHi ⟨fun i => .int .i64 0,by
  rw [hW1,←h0s];exact zaf.new _ _ _ fun i hi=>by
   have:i=0:=by omega
   rw [this];rfl⟩
 have HE:Hid (Elem W1 w.heap.size 55):=zHi ((by rw [hW0];exact zas _ _ _:Elem W0 w.heap.size 55).below (by rw [hW1];exact zaa _ _) (by omega));have HE2:Hid (Elem W1 (w.heap.size+1) 26):=zHi (by rw [hW1,←h0s];exact zas _ _ _);have HBW:Hid (Below w.heap.size w W1):=zHi (by rw [hW1,hW0];exact(zaa _ _).alloc (by simp) _);have hl:w.heap.size+1<W1.heap.size:=by rw [hW1];simp;omega
 obtain⟨g,hg⟩:∃g,w.heap.size=g:=⟨_,rfl⟩;rw [hg]at HA HA2 HE HE2 hl;rw [hg];have hgw:w.heap.size≤g:=by omega
 clear hW0 hW1 h0s hg;refine(HC.out W1 HBW.out).mono ?_;rintro e w2 ⟨v2,rfl,⟨⟨p,l,d,rfl⟩,hr2⟩,hB⟩;have HR2:=zHi hr2;replace HBW:=zHi (HBW.out.trans (hB.mono HBW.out.size));replace HE:=zHi (HE.out.below hB (by omega));replace HE2:=zHi (HE2.out.below hB (by omega));obtain⟨f1,hf⟩:=HA.out;obtain⟨f2,hf2⟩:=HA2.out;have ha:=hf.below (by omega) hB;have ha2:=hf2.below (by omega) hB;have z0:=(ha 0 (by omega)).1;have y0:=(ha 0 (by omega)).2;have x0:=(ha2 0 (by omega)).1;have x1:=(ha2 0 (by omega)).2;have HA9:=zHi ha;have HA8:=zHi ha2;clear hr2 hB ha ha2 hf hf2 HA HA2;gi_wp2;have hB3:Below w.heap.size w ((w2.setCell ⟨g,0,none⟩ (.slice p l d)).setCell ⟨g+1,0,none⟩ (.int .i64 0)):=
  (HBW.out.setCell hgw _).setCell (by show w.heap.size≤g+1;omega) _
 refine leavesIn_cons (f:=120) (args:=#[.pointer (some ⟨g,0,none⟩),.pointer (some ⟨g+1,0,none⟩)]) (by simp) (by simp) (by simp [go_sem]) (by simp [Target.leads]) ?_;refine(zk3.2 _ _).mono ?_;rintro e u' w'' ⟨⟨v3,rfl⟩,rfl,hh,hb⟩;refine⟨.tuple #[.slice p l d,.int .i64 0],?_,_,rfl,?_,?_⟩
 ·have h3:=(HA9.out.set (i:=0) (by omega) (.slice p l d));have n3:∀j:Nat,(⟨g,j,none⟩:Addr)≠⟨g+1,0,none⟩:=fun j e=>by injection e with e _ _;omega
  have n4:∀j:Nat,(⟨g+1,0,none⟩:Addr)≠⟨g,j,none⟩:=fun j e=>by injection e with e _ _;omega
  have b3:BoxL ((w2.setCell ⟨g,0,none⟩ (.slice p l d)).setCell ⟨g+1,0,none⟩ (.int .i64 0)) g [.slice p l d]:=⟨by have:=HE.out.lt;simpa using this,fun j v hj=>by
   rw [World.cell?_setCell_other _ _ _ _ (n4 j)];match j,hj with
   | 0,hj=>rw [←hj];exact(h3 0 (by omega)).1
   | n+1,hj=>simp at hj⟩
  have c3:((w2.setCell ⟨g,0,none⟩ (.slice p l d)).setCell ⟨g+1,0,none⟩ (.int .i64 0)).cell? ⟨g+1,0,none⟩=some (.int .i64 0):=
   World.cell?_setCell_same _ _ _ (by rw [World.cell?_setCell_other _ _ _ _ (n3 0)];exact x0)
  have e1:=l55a ⟨g,0,none⟩ _ w'' ((hb.cell (p:=⟨g,0,none⟩) b3.1).trans (b3.2 0 _ rfl));have e2:=l26 ⟨g+1,0,none⟩ _ w'' ((hb.cell (World.block_lt_of_cell? _ _ c3)).trans c3);simp only [Instr.loadAt,Instr.sureAddr,Sem.run_bind,Sem.run_pure,Result.andThen_ok]at e1 e2;simp [results,asAddr,e1,e2]
 ·exact HRS.out _ _ _ HR2.out (((zeI (i:=0) (v:=.slice p l d) HE.out (.inl rfl)).trans (zeI (i:=0) (v:=.int .i64 0) (HE2.out.setCell _ _) (.inr rfl))).trans (FrX.of_below hb))
 ·exact hB3.trans (hb.mono hB3.size)
theorem zkE(w:World)(f:FuncId)(cap:Array Value)(R:Value→World→Prop)(hce:∀args w,(callFunc f args).run Tryz.prog w = .ok (.enter f args) w)
  (hRs:∀v W W',R v W→FrX (fun _ e=>e=3∨e=26) W W'→R v W')
  (hc:∀W,Below w.heap.size w W→CallsIn Fence.wide 0 Tryz.prog f cap W fun e w'=>∃v',e = .returned v'∧((∃(nn:Int),v' = .int .i64 nn)∧R v' w')∧Below W.heap.size W w') :
  CallsIn Fence.wide 0 Tryz.prog 100 #[.func (.func f) #[] cap] w fun e w'=>∃v',e = .returned (.tuple #[v',.int .i64 0])∧R v' w'∧Below w.heap.size w w':=by
 have hmf:∀(fn:Fn) (first cap:Array Value) (w:World),(Instr.makeFunc fn first cap).run Tryz.prog w = .ok (.func fn first cap) w:=fun _ _ _ _=>rfl
 have HC:=zHi hc;have HRS:=zHi hRs;clear hc hRs;gi_enter_defers Tryz.func100,Tryz.ntmps100
 gi_wp2_with (with_reducible refine zsa (f:=f) ?_)
 unfold Stop;obtain⟨W0,hW0⟩:∃W,W=w.alloc (.cells #[.int .i64 0] 3):=⟨_,rfl⟩;have h0s:W0.heap.size=w.heap.size+1:=by rw [hW0];simp
 obtain⟨W1,hW1⟩:∃W,W=W0.alloc (.cells #[.int .i64 0] 26):=⟨_,rfl⟩;rw [←hW0,←hW1];have HA:Hid (∃f,zaf W1 w.heap.size 1 f):=zHi ⟨fun i => [.int .i64 0].getD i (.bool false),by
  rw [hW1];refine zaf.alloc ?_ (by omega) _;rw [hW0];refine zaf.new _ _ _ fun i hi => ?_
  have:i=0:=by omega
  rw [this];rfl⟩
 have HA2:Hid (∃f,zaf W1 (w.heap.size+1) 1 f):=zHi ⟨fun i => .int .i64 0,by
  rw [hW1,←h0s];exact zaf.new _ _ _ fun i hi=>by
   have:i=0:=by omega
   rw [this];rfl⟩
 have HE:Hid (Elem W1 w.heap.size 3):=zHi ((by rw [hW0];exact zas _ _ _:Elem W0 w.heap.size 3).below (by rw [hW1];exact zaa _ _) (by omega));have HE2:Hid (Elem W1 (w.heap.size+1) 26):=zHi (by rw [hW1,←h0s];exact zas _ _ _);have HBW:Hid (Below w.heap.size w W1):=zHi (by rw [hW1,hW0];exact(zaa _ _).alloc (by simp) _);have hl:w.heap.size+1<W1.heap.size:=by rw [hW1];simp;omega
 obtain⟨g,hg⟩:∃g,w.heap.size=g:=⟨_,rfl⟩;rw [hg]at HA HA2 HE HE2 hl;rw [hg];have hgw:w.heap.size≤g:=by omega
 clear hW0 hW1 h0s hg;refine(HC.out W1 HBW.out).mono ?_;rintro e w2 ⟨v2,rfl,⟨⟨nn,rfl⟩,hr2⟩,hB⟩;have HR2:=zHi hr2;replace HBW:=zHi (HBW.out.trans (hB.mono HBW.out.size));replace HE:=zHi (HE.out.below hB (by omega));replace HE2:=zHi (HE2.out.below hB (by omega));obtain⟨f1,hf⟩:=HA.out;obtain⟨f2,hf2⟩:=HA2.out;have ha:=hf.below (by omega) hB;have ha2:=hf2.below (by omega) hB;have z0:=(ha 0 (by omega)).1;have y0:=(ha 0 (by omega)).2;have x0:=(ha2 0 (by omega)).1;have x1:=(ha2 0 (by omega)).2;have HA9:=zHi ha;have HA8:=zHi ha2;clear hr2 hB ha ha2 hf hf2 HA HA2;gi_wp2;have hB3:Below w.heap.size w ((w2.setCell ⟨g,0,none⟩ (.int .i64 nn)).setCell ⟨g+1,0,none⟩ (.int .i64 0)):=
  (HBW.out.setCell hgw _).setCell (by show w.heap.size≤g+1;omega) _
 refine leavesIn_cons (f:=137) (args:=#[.pointer (some ⟨g,0,none⟩),.pointer (some ⟨g+1,0,none⟩)]) (by simp) (by simp) (by simp [go_sem]) (by simp [Target.leads]) ?_;refine(zk2.2 _ _).mono ?_;rintro e u' w'' ⟨⟨v3,rfl⟩,rfl,hh,hb⟩;refine⟨.tuple #[.int .i64 nn,.int .i64 0],?_,_,rfl,?_,?_⟩
 ·have h3:=(HA9.out.set (i:=0) (by omega) (.int .i64 nn));have n3:∀j:Nat,(⟨g,j,none⟩:Addr)≠⟨g+1,0,none⟩:=fun j e=>by injection e with e _ _;omega
  have n4:∀j:Nat,(⟨g+1,0,none⟩:Addr)≠⟨g,j,none⟩:=fun j e=>by injection e with e _ _;omega
  have b3:BoxL ((w2.setCell ⟨g,0,none⟩ (.int .i64 nn)).setCell ⟨g+1,0,none⟩ (.int .i64 0)) g [.int .i64 nn]:=⟨by have:=HE.out.lt;simpa using this,fun j v hj=>by
   rw [World.cell?_setCell_other _ _ _ _ (n4 j)];match j,hj with
   | 0,hj=>rw [←hj];exact(h3 0 (by omega)).1
   | n+1,hj=>simp at hj⟩
  have c3:((w2.setCell ⟨g,0,none⟩ (.int .i64 nn)).setCell ⟨g+1,0,none⟩ (.int .i64 0)).cell? ⟨g+1,0,none⟩=some (.int .i64 0):=
   World.cell?_setCell_same _ _ _ (by rw [World.cell?_setCell_other _ _ _ _ (n3 0)];exact x0)
  have e1:=l3a ⟨g,0,none⟩ _ w'' ((hb.cell (p:=⟨g,0,none⟩) b3.1).trans (b3.2 0 _ rfl));have e2:=l26 ⟨g+1,0,none⟩ _ w'' ((hb.cell (World.block_lt_of_cell? _ _ c3)).trans c3);simp only [Instr.loadAt,Instr.sureAddr,Sem.run_bind,Sem.run_pure,Result.andThen_ok]at e1 e2;simp [results,asAddr,e1,e2]
 ·exact HRS.out _ _ _ HR2.out (((zeI (i:=0) (v:=.int .i64 nn) HE.out (.inl rfl)).trans (zeI (i:=0) (v:=.int .i64 0) (HE2.out.setCell _ _) (.inr rfl))).trans (FrX.of_below hb))
 ·exact hB3.trans (hb.mono hB3.size)
theorem zfr{w:World}{v:Value}{m N:Nat}{A:Nat→Nat→Rat}(h:MatR w v (tab m N A))(h0:0<m)(hN:0<N):∃a c a0 c0,v = .slice (some a) m c∧w.cell? (a.add (0*1))=some (.slice (some a0) N c0):=by
 obtain⟨a,c,rfl⟩:=zag.some h (by rw [zak];exact h0);rw [zak]at h;obtain⟨_,row,hrl,hcell,u,rfl,hu⟩:=zag.at' h (zbD (A:=A) h0);obtain⟨a0,c0,rfl⟩:=zag.some hu (by simpa using hN);have:=hcell 0 _ rfl;rw [Addr.add_add,Nat.add_zero]at this;refine⟨a,c,a0,c0,by rw [zak],?_⟩;simpa using this
theorem OV.neq{K:World→Prop}{ks:List Nat}{nt:Nat}{ops:Array Oper}{bs bars r:List Nat}{i:Nat}{a:CAct}{ov:List (Tmp × Value)}{w:World}{Q:CAct→World→Prop}{t t2:TypeId}{x y:Operand}{p q:Int}{b:Bool}{d:Tmp}{ty:TypeId}{ps:String}{af:Array Edge}(hpq:decide (p≠q)=b)
  (ho:ops[i]? = some {op:=.binOp .neq t x y t2,dst:=some d,type:=ty,pos:=ps,after:=af,guard:=none}) (hb:bars.contains i=false) (hd:Nat.blt d nt=true)
  (hx:Go.Eng.look a ov x = .int .i64 p) (hy:Go.Eng.look a ov y = .int .i64 q) (h:OV K ks Tryz.prog nt ops bs bars Q r a ((d,.bool b) :: ov) w):OV K ks Tryz.prog nt ops bs bars Q (i :: r) a ov w:=
 OV.read _ ho rfl hb hd (fun w' _=>by
  rw [←hpq];simp [execOp,hx,hy,binOp,eqGuard,Op.intCmp,Result.andThen,Sem.run_bind,Sem.run_pure,go_sem]
  rfl) h
theorem zm3{w W:World}{g1:Nat}{f:Nat→Value}{a b c:Value}(hf:zaf W g1 3 f)(hB:Below w.heap.size w W)(hs:w.heap.size≤g1) :
  Below w.heap.size w (((W.setCell ⟨g1,0,none⟩ a).setCell ⟨g1,1,none⟩ b).setCell ⟨g1,2,none⟩ c)∧Box3 (((W.setCell ⟨g1,0,none⟩ a).setCell ⟨g1,1,none⟩ b).setCell ⟨g1,2,none⟩ c) g1 a b c:=by
 have ha:=((hf.set (i:=0) (by omega) a).set (i:=1) (by omega) b).set (i:=2) (by omega) c;refine⟨((hB.setCell (p:=⟨g1,0,none⟩) hs a).setCell (p:=⟨g1,1,none⟩) hs b).setCell (p:=⟨g1,2,none⟩) hs c,fun j v hj => ?_⟩;match j,hj with
 | 0,hj=>rw [←hj];exact(ha 0 (by omega)).1
 | 1,hj=>rw [←hj];exact(ha 1 (by omega)).1
 | 2,hj=>rw [←hj];exact(ha 2 (by omega)).1
 | n+3,hj=>simp at hj
theorem it55:zgi Tryz.prog 55 1:=zdg (e:=64) (inf:=Tryz.t64) (by kernel_rfl) (by kernel_rfl) (by kernel_rfl)
def zix(m N:Nat)(A:Nat→Nat→Rat):Prop:=∀i j,i<m→j<N→zaw (A i j) 100000
theorem zf9{m N:Nat}{A:Nat→Nat→Rat}(h:zix m N A):∀r∈tab m N A,∀q∈r,zaw q 100000:=by
 intro r hr q hq;obtain⟨i,hi,rfl⟩:=List.mem_map.1 hr;obtain⟨j,hj,rfl⟩:=List.mem_map.1 hq;exact h i j (List.mem_range.1 hi) (List.mem_range.1 hj)
theorem zqs(w:World)(v:Value)(m N:Nat)(A:Nat→Nat→Rat)(hm:MatR w v (tab m N A))(h0:0<m)(hN:0<N)(h9:m≤8∧N≤8)(hc:za5 (tab m N A)=0)(hq:zix m N A)(hT:zaS w)(hne:m≠N) :
  CallsIn Fence.wide 0 Tryz.prog 50 #[v] w fun e w'=>e = .returned (.tuple #[ztd,.int .i64 7])∧Below w.heap.size w w':=by
 obtain⟨a,c,a0,c0,rfl,hx⟩:=zfr hm h0 hN;have HM:=zHi hm;have HQ:=zHi (zf9 hq);have HT:=zHi hT;have HC:=zHi hc;have HX:=zHi hx;clear hm hq hT hc hx;refine callsIn_of_wp Tryz.func50 rfl trivial ?_ rfl;simp only [Tryz.ntmps50,ztr,zts,ztt,Nat.reduceAdd,Nat.reduceSub,ztu,ztv,ztw,ztx,zty,ztz];obtain⟨g1,hg1⟩:∃g,w.heap.size=g:=⟨_,rfl⟩;obtain⟨W1,hW1⟩:∃W,(w.alloc (.cells #[.slice (some a) m c] 55)).alloc (.cells #[.bool false,.slice none 0 0,.slice none 0 0] 25)=W:=⟨_,rfl⟩;have hb0:Below w.heap.size w W1:=by rw [←hW1];exact(zaa _ _).alloc (by simp) _
 have y0:W1.cell? ⟨g1,0,none⟩=some (.slice (some a) m c):=by
  rw [←hW1,←hg1];exact((zaz w [.slice (some a) m c] 55).below (zaa _ _)).2 0 _ rfl
 have ha:zaf W1 (g1+1) 3 (fun i => [.bool false,.slice none 0 0,.slice none 0 0].getD i (.bool false)):=by
  rw [←hW1,←hg1];have:=zaf.new (w.alloc (.cells #[.slice (some a) m c] 55)) #[.bool false,.slice none 0 0,.slice none 0 0] 25 (n:=3) (f:=fun i => [.bool false,.slice none 0 0,.slice none 0 0].getD i (.bool false)) (fun i hi=>by
   have:i=0∨i=1∨i=2:=by omega
   rcases this with rfl|rfl|rfl <;> rfl)
  rw [World.size_alloc]at this;exact this
 have he:Elem W1 (g1+1) 25:=by
  rw [←hW1,←hg1];have:=zas (w.alloc (.cells #[.slice (some a) m c] 55)) #[.bool false,.slice none 0 0,.slice none 0 0] 25;rw [World.size_alloc]at this;exact this
 have HB0:=zHi hb0;have HA:=zHi ha;have HE:=zHi he;have HS:Hid (W1.heap.size=g1+2):=zHi (by rw [←hW1,←hg1];simp);have HY:=zHi y0;have HG1:=zHi hg1;clear hb0 ha he;gi_wp2_with (gi_at_call 49;refine stop ?_)
 unfold Stop;refine(zdi W1 _ _ (zag.below HM.out HB0.out (zbv.below HB0.out)) HQ.out (HT.out.below HB0.out)).mono ?_;rintro e w2 ⟨rfl,hB2⟩;rw [HC.out];have y2:=(hB2.cell (World.block_lt_of_cell? _ _ y0)).trans y0;have HB2:=zHi hB2;have HY2:=zHi y2;clear y0 hB2 y2 hW1 hg1;gi_wp2;have hB3:=zab w2;have hy3:=(hB3.cell (World.block_lt_of_cell? _ _ HY2.out)).trans HY2.out;have hb3:=HB0.out.trans ((HB2.out.trans (hB3.mono HB2.out.size)).mono HB0.out.size);have hx3:=(hb3.cell (World.block_lt_of_cell? _ _ HX.out)).trans HX.out;have HB3:=zHi (HB2.out.trans (hB3.mono HB2.out.size));have HB3':=zHi hb3;refine zap (ro:=none) [] [0,1,2,3,4,5,6] [0,1,0,4,12,28,63] zaq rfl 23 rfl (by kernel_rfl) (by kernel_rfl) ?_;refine OV.ld lo55 hy3 rfl rfl rfl rfl rfl ?_;refine OV.len u55 rfl rfl rfl rfl ?_;refine OV.ld lo55 hy3 rfl rfl rfl rfl rfl ?_;refine OV.idx it55 (k:=0) h0 rfl rfl rfl rfl rfl ?_;refine OV.ld lo64 hx3 rfl rfl rfl rfl rfl ?_;refine OV.len Go.Num.u64 rfl rfl rfl rfl ?_;refine OV.neq (p:=(m:Int)) (q:=(N:Int)) (b:=true) (by simp;omega) rfl rfl rfl rfl rfl ?_;refine OV.done ?_;obtain⟨w3,hw3⟩:∃W,w2.drew=W:=⟨_,rfl⟩;simp only [za4,Go.Act.put,ztA,ztB,ztC];rw [hw3];rw [hw3]at HB3 HB3';clear hw3 hB3 hy3 hb3 hx3;have ha3:=HA.out.below (B:=W1.heap.size) HE.out.lt HB3.out;have t0:=(ha3 0 (by omega)).1;have t1:=(ha3 1 (by omega)).1;have t2:=(ha3 2 (by omega)).1;have s0:=(ha3 0 (by omega)).2;have s1:=(ha3 1 (by omega)).2;have s2:=(ha3 2 (by omega)).2;gi_wp2;obtain⟨q1,q2⟩:=zm3 (a:=.bool false) (b:=.slice none 0 0) (c:=.slice none 0 0) ha3 HB3'.out (by have:=HG1.out;omega);refine⟨rfl,.tuple #[.agg #[.bool false,.slice none 0 0,.slice none 0 0],.int .i64 7],?_,rfl,q1⟩;have e1:=l25 (g1+1) [.bool false,.slice none 0 0,.slice none 0 0] _ rfl q2;simp only [Instr.loadAt,Instr.sureAddr,Sem.run_bind,Sem.run_pure,Result.andThen_ok]at e1;simp [results,asAddr,e1]
theorem zqu(w:World)(v:Value)(n:Nat)(A:Nat→Nat→Rat)(hm:MatR w v (tab n n A))(h0:0<n)(h9:n≤8)(hc:za5 (tab n n A)=0)(hq:zix n n A)(hT:zaS w)
  (hG:∀c,c≤n→Good n n (pRun n A c).P) (hK:(pRun n A n).k=n→zaw (zc0 (zbq n A n)) 700) :
  CallsIn Fence.wide 0 Tryz.prog 50 #[v] w fun e w'=>∃v',e = .returned (.tuple #[v',.int .i64 0])∧zax w' v' (if(pRun n A n).k<n then 0 else zc0 (zbq n A n))∧Below w.heap.size w w':=by
 obtain⟨a,c,a0,c0,rfl,hx⟩:=zfr hm h0 h0;have HM:=zHi hm;have HQ:=zHi (zf9 hq);have HT:=zHi hT;have HC:=zHi hc;have HX:=zHi hx;have HG:=zHi hG;have HK:=zHi hK;obtain⟨D,hD⟩:∃D,(if(pRun n A n).k<n then 0 else zc0 (zbq n A n))=D:=⟨_,rfl⟩;have HD:=zHi hD;rw [hD];clear hm hq hT hc hx hG hK hD;refine callsIn_of_wp Tryz.func50 rfl trivial ?_ rfl;simp only [Tryz.ntmps50,ztr,zts,ztt,Nat.reduceAdd,Nat.reduceSub,ztu,ztv,ztw,ztx,zty,ztz];obtain⟨g1,hg1⟩:∃g,w.heap.size=g:=⟨_,rfl⟩;obtain⟨W1,hW1⟩:∃W,(w.alloc (.cells #[.slice (some a) n c] 55)).alloc (.cells #[.bool false,.slice none 0 0,.slice none 0 0] 25)=W:=⟨_,rfl⟩;have hb0:Below w.heap.size w W1:=by rw [←hW1];exact(zaa _ _).alloc (by simp) _
 have y0:W1.cell? ⟨g1,0,none⟩=some (.slice (some a) n c):=by
  rw [←hW1,←hg1];exact((zaz w [.slice (some a) n c] 55).below (zaa _ _)).2 0 _ rfl
 have ha:zaf W1 (g1+1) 3 (fun i => [.bool false,.slice none 0 0,.slice none 0 0].getD i (.bool false)):=by
  rw [←hW1,←hg1];have:=zaf.new (w.alloc (.cells #[.slice (some a) n c] 55)) #[.bool false,.slice none 0 0,.slice none 0 0] 25 (n:=3) (f:=fun i => [.bool false,.slice none 0 0,.slice none 0 0].getD i (.bool false)) (fun i hi=>by
   have:i=0∨i=1∨i=2:=by omega
   rcases this with rfl|rfl|rfl <;> rfl)
  rw [World.size_alloc]at this;exact this
 have he:Elem W1 (g1+1) 25:=by
  rw [←hW1,←hg1];have:=zas (w.alloc (.cells #[.slice (some a) n c] 55)) #[.bool false,.slice none 0 0,.slice none 0 0] 25;rw [World.size_alloc]at this;exact this
 have HB0:=zHi hb0;have HA:=zHi ha;have HE:=zHi he;have HS:Hid (W1.heap.size=g1+2):=zHi (by rw [←hW1,←hg1];simp);have HY:=zHi y0;have HG1:=zHi hg1;clear hb0 ha he;gi_wp2_with (gi_at_call 49;refine stop ?_)
 unfold Stop;refine(zdi W1 _ _ (zag.below HM.out HB0.out (zbv.below HB0.out)) HQ.out (HT.out.below HB0.out)).mono ?_;rintro e w2 ⟨rfl,hB2⟩;rw [HC.out];have y2:=(hB2.cell (World.block_lt_of_cell? _ _ y0)).trans y0;have HB2:=zHi hB2;have HY2:=zHi y2;clear y0 hB2 y2 hW1 hg1;gi_wp2;have hB3:=zab w2;have hy3:=(hB3.cell (World.block_lt_of_cell? _ _ HY2.out)).trans HY2.out;have hb3:=HB0.out.trans ((HB2.out.trans (hB3.mono HB2.out.size)).mono HB0.out.size);have hx3:=(hb3.cell (World.block_lt_of_cell? _ _ HX.out)).trans HX.out;have HB3:=zHi (HB2.out.trans (hB3.mono HB2.out.size));have HB3':=zHi hb3;refine zap (ro:=none) [] [0,1,2,3,4,5,6] [0,1,0,4,12,28,63] zaq rfl 23 rfl (by kernel_rfl) (by kernel_rfl) ?_;refine OV.ld lo55 hy3 rfl rfl rfl rfl rfl ?_;refine OV.len u55 rfl rfl rfl rfl ?_;refine OV.ld lo55 hy3 rfl rfl rfl rfl rfl ?_;refine OV.idx it55 (k:=0) h0 rfl rfl rfl rfl rfl ?_;refine OV.ld lo64 hx3 rfl rfl rfl rfl rfl ?_;refine OV.len Go.Num.u64 rfl rfl rfl rfl ?_;refine OV.neq (p:=(n:Int)) (q:=(n:Int)) (b:=false) (by simp) rfl rfl rfl rfl rfl ?_;refine OV.done ?_;obtain⟨w3,hw3⟩:∃W,w2.drew=W:=⟨_,rfl⟩;simp only [za4,Go.Act.put,ztA,ztB,ztC];rw [hw3];rw [hw3]at HB3 HB3';clear hw3 hB3 hy3 hb3 hx3;have h16:Below w3.heap.size w3 w3:=Below.refl _ _;have hy4:=(HB3.out.cell (World.block_lt_of_cell? _ _ HY.out)).trans HY.out;have HY4:=zHi hy4;clear hy4 h16;have hmf:∀(fn:Fn) (first cap:Array Value) (w:World),(Instr.makeFunc fn first cap).run Tryz.prog w = .ok (.func fn first cap) w:=fun _ _ _ _=>rfl
 gi_wp2_with (gi_at_call 66;refine stop ?_)
 unfold Stop;refine(zl0 w3 98 #[.pointer (some ⟨g1,0,none⟩)] (fun v' w'=>zax w' v' D) (ec 98 _ Tryz.func98 rfl) (fun v W W' h hf=>zax.kept h (fun b cs e fz hb hc=>hf.2 b cs e fz hb (fun q=>by rcases q with rfl|rfl <;> cases hc))) (fun W hW => ?_)).mono ?_
 ·have hbW:=HB3'.out.trans (hW.mono HB3'.out.size);refine(zoX W g1 n (.slice (some a) n c) A ((hW.cell (World.block_lt_of_cell? _ _ HY4.out)).trans HY4.out) (zag.below HM.out hbW (zbv.below hbW)) h0 h9 (HT.out.below hbW) HG.out HK.out).mono ?_;rintro e w' ⟨v',rfl,h1,h2⟩;rw [HD.out]at h1;obtain⟨o1,k1,c1,o2,k2,c2,e⟩:=h1.form;exact⟨v',rfl,⟨⟨_,_,_,_,_,_,_,e⟩,h1⟩,h2⟩
 rintro e w4 ⟨v4,rfl,hr4,hB4⟩;obtain⟨o4,k4,c4,o5,k5,c5,rfl⟩:=hr4.form;obtain⟨sb,hsb⟩:∃sb,decide (D.num<0)=sb:=⟨_,rfl⟩;rw [hsb]at hr4;rw [hsb];have HR4:=zHi hr4;have hbb:=HB3'.out.trans (hB4.mono HB3'.out.size);have HBB:=zHi hbb;have hb14:=HB3.out.trans (hB4.mono HB3.out.size);have ha3:=HA.out.below (B:=W1.heap.size) HE.out.lt hb14;have HE4:=zHi (HE.out.below hb14 HE.out.lt);have HA3:=zHi ha3;have t0:=(ha3 0 (by omega)).1;have t1:=(ha3 1 (by omega)).1;have t2:=(ha3 2 (by omega)).1;have s0:=(ha3 0 (by omega)).2;have s1:=(ha3 1 (by omega)).2;have s2:=(ha3 2 (by omega)).2;clear hr4 hB4 hbb hb14 ha3 hsb;gi_wp2;obtain⟨q1,q2⟩:=zm3 (a:=.bool sb) (b:=.slice o4 k4 c4) (c:=.slice o5 k5 c5) HA3.out HBB.out (by have:=HG1.out;omega);refine⟨rfl,.tuple #[.agg #[.bool sb,.slice o4 k4 c4,.slice o5 k5 c5],.int .i64 0],?_,_,rfl,?_,q1⟩
 ·have e1:=l25 (g1+1) [.bool sb,.slice o4 k4 c4,.slice o5 k5 c5] _ rfl q2;simp only [Instr.loadAt,Instr.sureAddr,Sem.run_bind,Sem.run_pure,Result.andThen_ok]at e1;simp [results,asAddr,e1]
 ·exact((HR4.out.setElem (i:=0) (u:=.bool sb) HE4.out (by decide)).setElem (i:=1) (u:=.slice o4 k4 c4) (HE4.out.setCell _ _) (by decide)).setElem (i:=2) (u:=.slice o5 k5 c5) ((HE4.out.setCell _ _).setCell _ _) (by decide)
end Go.Num
namespace Go.Num
open Go.Eng Go.Shelf Go.RowKit Go.Sort Go.Proofs Go.Proofs.YtoamcgjbelhnkaaGreatDoor
end Go.Num
namespace Go.Num
structure Fine(m N columns:Nat)(A:Nat→Nat→Rat):Prop where
 run:∀c,c≤columns→Good m N (pRun m A c).P
 unit:Good m N (zeh (pRun m A columns).P (za3 m A columns))
 piv:∀(i c:Nat),(za3 m A columns)[i]? = some c→(pRun m A columns).P i c≠0
structure Ends(m N columns:Nat)(g0:Nat→Rat)(P0:Nat→Nat→Rat)(A0:Nat→Nat→Int):Prop where
 k:(rRun m A0 columns).k=(pRun m P0 columns).k
 last:(rRun m A0 columns).last≠0
 piv:∀(i c:Nat),(za3 m P0 columns)[i]? = some c→i<m∧(rRun m A0 columns).A i c=(rRun m A0 columns).last
 unit:∀(i c:Nat),(za3 m P0 columns)[i]? = some c→∀j,j<N→(pRun m P0 columns).P i j/(pRun m P0 columns).P i c=((rRun m A0 columns).A i j:Rat)/((rRun m A0 columns).last:Rat)
 zero:∀i,(pRun m P0 columns).k≤i→i<m→∀j,j<N→((pRun m P0 columns).P i j=0↔(rRun m A0 columns).A i j=0)
 det:(pRun m P0 columns).k=m→zc0 (zbq m P0 columns)=pm (rRun m A0 columns).turns*zcA g0 m*((rRun m A0 columns).last:Rat)
theorem zj5{X Y L:Nat}{q:Rat}(h:RatB X Y q)(hx:X<B^L)(hy:Y<B^L):zaw q L:=by
 have:=h.size;exact⟨Nat.lt_of_le_of_lt this.1 hx,Nat.lt_of_le_of_lt this.2 hy⟩
section
variable {m N X F columns:Nat} {g0:Nat→Rat} {U0 P0:Nat→Nat→Rat} {A0:Nat→Nat→Int}
theorem zl9.at'{c:Nat}{s:PS}{t:RS}{cs:List Nat}{ps:List Rat}{U:Nat→Nat→Rat}{cf:Nat→Nat}{g:Nat→Rat}(h:zl9 N m X F g0 c s t cs ps U cf g){i x:Nat}(hi:cs[i]? = some x):i<s.k∧cf i=x:=by
 have h1:i<s.k:=by rw [←h.csl];exact(List.getElem?_eq_some_iff.1 hi).1
 have:=h.col i h1;rw [hi]at this;exact⟨h1,(Option.some.inj this).symm⟩
theorem zmV(hA:∀i,i<m→∀j,j<N→(A0 i j:Rat)=U0 i j)(hX:∀i,i<m→∀j,j<N→(A0 i j).natAbs≤X)(hg:∀i,i<m→g0 i≠0)(hgF:∀i,i<m→RatB 1 F (g0 i))
  (hP:∀i,i<m→∀j,j<N→P0 i j=g0 i*U0 i j) (hcN:columns≤N):Ends m N columns g0 P0 A0:=by
 obtain⟨U,cf,g,h⟩:=zmG hA hX hg hgF hP columns hcN;have hk:=h.E.hk;have hd:zaG U cf (pRun m P0 columns).k≠0:=zdY h.E.piv;have hl0:(rRun m A0 columns).last≠0:=by
  intro e;have:=h.R.last;rw [e]at this;exact hd this.symm
 refine⟨h.k,hl0,fun i c hi => ?_,fun i c hi j hj => ?_,fun i h1 h2 j hj => ?_,fun e => ?_⟩
 ·obtain⟨h1,h2⟩:=h.at' hi;refine⟨by omega,?_⟩;have hcN':c<N:=by rw [←h2];exact h.E.lt i h1
  rw [←intCast_inj,h.R.held i h1 c hcN',h.R.last,←h2];have:=h.E.piv i h1;grind
 ·obtain⟨h1,h2⟩:=h.at' hi;have hcN':c<N:=by rw [←h2];exact h.E.lt i h1
  have him:i<m:=by omega
  rw [h.P.row i him j hj,h.P.row i him c hcN',h.R.held i h1 j hj,h.R.last,←h2];have:=h.E.piv i h1;have:=h.P.ne i him;grind
 ·exact(zdr.zero h.P h2 hj).trans (zdu.zero h.E h.R h1 h2 hj).symm
 ·rw [h.prod,e,h.gs,h.R.last,e]
theorem zsv(hA:∀i,i<m→∀j,j<N→(A0 i j:Rat)=U0 i j)(hX:∀i,i<m→∀j,j<N→(A0 i j).natAbs≤X)(hg:∀i,i<m→g0 i≠0)(hgF:∀i,i<m→RatB 1 F (g0 i))
  (hP:∀i,i<m→∀j,j<N→P0 i j=g0 i*U0 i j) (hcN:columns≤N) (hNX:1≤N*X) (hF:1≤F) (hb:F*((N*X)^m*(N*X)^m)<B^700):Fine m N columns P0:=by
 have h1:1≤(N*X)^m:=Nat.one_le_pow _ _ hNX;have hb1:(N*X)^m*(N*X)^m<B^700:=Nat.lt_of_le_of_lt (Nat.le_mul_of_pos_left _ hF) hb;have hb2:(N*X)^m<B^700:=Nat.lt_of_le_of_lt (Nat.le_mul_of_pos_left _ h1) hb1;have hrun:∀c,c≤columns→Good m N (pRun m P0 c).P:=fun c hc i j hi hj=>by
  obtain⟨U,cf,g,h⟩:=zmG hA hX hg hgF hP c (by omega);exact zj5 (zdr.bound h.E h.P hNX hF h.g1 hi hj) hb1 hb
 obtain⟨U,cf,g,h⟩:=zmG hA hX hg hgF hP columns hcN;have hE:=zmV hA hX hg hgF hP hcN;have hbd:=zdu.bound h.E h.R hNX;refine⟨hrun,fun i j hi hj => ?_,fun i c hi => ?_⟩
 ·unfold zeh
  cases e:(za3 m P0 columns)[i]? with
  | none=>exact hrun columns (Nat.le_refl _) i j hi hj
  | some c=>
   show zaw ((pRun m P0 columns).P i j/(pRun m P0 columns).P i c) 700
   rw [hE.unit i c e j hj];exact zj5 ⟨_,_,hE.last,rfl,hbd.2 i hi j hj,hbd.1⟩ hb2 hb2
 ·obtain⟨h1,h2⟩:=h.at' hi;have:=h.E.piv i h1;rw [h2]at this;have him:i<m:=by have:=h.E.hk;omega
  have hcN':c<N:=by rw [←h2];exact h.E.lt i h1
  exact fun q=>this ((h.P.zero him hcN').1 q)
theorem zs5(hA:∀i,i<m→∀j,j<N→(A0 i j:Rat)=U0 i j)(hX:∀i,i<m→∀j,j<N→(A0 i j).natAbs≤X)(hg:∀i,i<m→g0 i≠0)(hgF:∀i,i<m→RatB 1 F (g0 i))
  (hP:∀i,i<m→∀j,j<N→P0 i j=g0 i*U0 i j) (hcN:columns≤N) (hNX:1≤N*X) (hF:1≤F) (hb:F^m*(N*X)^m<B^700) (hk:(pRun m P0 columns).k=m):zaw (zc0 (zbq m P0 columns)) 700:=by
 obtain⟨U,cf,g,h⟩:=zmG hA hX hg hgF hP columns hcN;have hE:=zmV hA hX hg hgF hP hcN;have hbd:=(zdu.bound h.E h.R hNX).1;have hF1:1≤F^m:=Nat.one_le_pow _ _ hF;have hgm:∀l,l≤m→RatB 1 (F^l) (zcA g l):=by
  intro l;induction l with
  | zero=>intro _;exact⟨1,1,by decide,by show(1:Rat)=((1:Int):Rat)/((1:Int):Rat);grind,Nat.le_refl _,Nat.le_refl _⟩
  | succ l ih=>
   intro hl;have:=(ih (by omega)).mul (h.g1 l (by omega));rw [Nat.one_mul,←Nat.pow_succ]at this;exact this
 rw [h.prod,hk,←show((rRun m A0 columns).last:Rat)=zaG U cf m by rw [h.R.last,hk]];have h2:RatB ((N*X)^m) 1 ((rRun m A0 columns).last:Rat):=⟨(rRun m A0 columns).last,1,by decide,by show _=_/((1:Int):Rat);grind,hbd,Nat.le_refl _⟩;have h3:=(hgm m (Nat.le_refl _)).mul h2;rw [Nat.one_mul,Nat.mul_one]at h3;refine zj5 h3 (Nat.lt_of_le_of_lt (Nat.le_mul_of_pos_left _ hF1) hb) (Nat.lt_of_le_of_lt (Nat.le_mul_of_pos_right _ (Nat.one_le_pow _ _ hNX)) hb)
end
end Go.Num
namespace Go.Num
open Go.Eng Go.Shelf Go.RowKit Go.Sort Go.Proofs Go.Proofs.YtoamcgjbelhnkaaGreatDoor
attribute [local go_sem] Oper.semAt_some
theorem zan.at'{w:World}{base m N:Nat}{A:Nat→Nat→Rat}{v:Value}{rvs:List Value}(h:zan w base 64 25 3 IR v rvs (tab m N A))(h0:0<m):∃g c,v = .slice (some ⟨g,0,none⟩) m c∧base≤g:=by
 have hl:rvs.length=m:=by rw [←h.len,zak]
 obtain⟨g',c',e,h1,_⟩:=h.top.own (by omega);exact⟨g',c',by rw [e,hl],h1⟩
theorem zmt(w:World)(gb m N:Nat)(v:Value)(A:Nat→Nat→Rat)(hb:w.cell? ⟨gb,0,none⟩=some v)(hm:MatR w v (tab m N A))(h0:0<m)(hN:0<N)(h9:m≤1000∧N≤1000)(hT:zaS w)(hF:Fine m N N A) :
  CallsIn Fence.wide 0 Tryz.prog 101 #[.pointer (some ⟨gb,0,none⟩)] w fun e w'=>e = .returned (.int .i64 ((pRun m A N).k:Int))∧Below w.heap.size w w':=by
 obtain⟨a,c,a0,c0,rfl,hx⟩:=zfr hm h0 hN;have HM:=zHi hm;have HT:=zHi hT;have HF:=zHi hF;have HB:=zHi hb;have HX:=zHi hx;clear hm hT hF hb hx;refine callsIn_of_wp Tryz.func101 rfl trivial ?_ rfl;simp only [Tryz.ntmps101,ztr,zts,ztt,Nat.reduceAdd,Nat.reduceSub,ztu,ztv,ztw,ztx,zty,ztz];gi_wp2;have hB3:=zab w;have hy3:=(hB3.cell (World.block_lt_of_cell? _ _ HB.out)).trans HB.out;have hx3:=(hB3.cell (World.block_lt_of_cell? _ _ HX.out)).trans HX.out;refine zap (ro:=none) [1,6] [0,2,3,4,5,1,6,7,8] [0,1,0,4,12,28,63,127,255] zaq rfl 10 rfl (by kernel_rfl) (by kernel_rfl) ?_;obtain⟨W5,hW5⟩:∃W,w.drew=W:=⟨_,rfl⟩;rw [hW5]at hB3 hy3 hx3;rw [hW5];clear hW5;refine OV.ld lo55 hy3 rfl rfl rfl rfl rfl ?_;refine OV.ld lo55 hy3 rfl rfl rfl rfl rfl ?_;refine OV.idx it55 (k:=0) h0 rfl rfl rfl rfl rfl ?_;refine OV.ld lo64 hx3 rfl rfl rfl rfl rfl ?_;refine OV.len Go.Num.u64 rfl rfl rfl rfl ?_;refine OV.call (R:=fun v' w'=>∃rvs,zan w' W5.heap.size 64 25 3 IR v' rvs (tab m N A)) [.slice (some a) m c,.slice none 0 0] Tryz.func80 rfl zai rfl rfl rfl rfl rfl ((zfB W5 _ _ (tab m N A) [] (zag.below HM.out hB3 (zbv.below hB3)) (.inl ⟨rfl,none,0,rfl⟩) (by rw [zak];exact h0) (by rw [zak];omega) (fun l hl=>by rw [zgm hl];omega) (by simp)).mono (by
  rintro e w' ⟨v',rvs,h1,h2,h3⟩;rw [zgG]at h2;exact⟨v',h1,⟨rvs,h2⟩,h3⟩)) fun v6 w6 hm6 hB6 => ?_
 obtain⟨gm,cm,rfl,hgm1⟩:∃g c,v6 = .slice (some ⟨g,0,none⟩) m c∧W5.heap.size≤g:=by
  obtain⟨rvs,hm⟩:=hm6;exact hm.at' h0
 have hb06:=hB3.trans (hB6.mono hB3.size);refine OV.callL (R:=fun v' w'=>(∃b,OwnR w' b 3 1 II v' (za3 m A N))∧Below W5.heap.size w6 w') [.slice (some ⟨gm,0,none⟩) m cm,.int .i64 (N:Int)] Tryz.func81 rfl zai rfl rfl rfl rfl rfl rfl ((zfZ w6 W5.heap.size gm cm m N N A h0 h9.1 hN h9.2 (Nat.le_refl _) (by
  have:=HT.out.two;have:=hB3.size;omega) hm6 (HT.out.below hb06) HF.out.run HF.out.unit HF.out.piv).mono (by
  rintro e w' ⟨v',h1,h2,h3,h4⟩;exact⟨v',h1,⟨⟨_,h2⟩,h4⟩,trivial⟩)) fun v7 w7 h7 => ?_
 obtain⟨⟨b7,h7⟩,hB7⟩:=h7;obtain⟨o7,c7,rfl⟩:=h7.form;have hb07:Below w.heap.size w w7:=hB3.trans ((hB6.trans hB7).mono hB3.size);refine OV.len u29' rfl rfl rfl rfl ?_;refine OV.asg (v:=.int .i64 ((za3 m A N).length:Int)) rfl rfl rfl rfl ?_;refine OV.done ?_;simp only [za4,Go.Act.put,ztA,ztB,ztC];have HBB:=zHi hb07;clear hb07 hB7 h7 hb06 hm6 hgm1 hB6 hB3 hy3 hx3;gi_wp2;all_goals (first|go_returns|go_ret|go_end0)
 exact⟨by rw [zdE];rfl,HBB.out⟩
theorem zje(w:World)(v:Value)(m N:Nat)(A:Nat→Nat→Rat)(hm:MatR w v (tab m N A))(h0:0<m)(hN:0<N)(h9:m≤1000∧N≤1000)(hc:za5 (tab m N A)=0)(hq:zix m N A)(hT:zaS w)(hF:Fine m N N A) :
  CallsIn Fence.wide 0 Tryz.prog 51 #[v] w fun e w'=>e = .returned (.tuple #[.int .i64 ((pRun m A N).k:Int),.int .i64 0])∧Below w.heap.size w w':=by
 obtain⟨a,c,a0,c0,rfl,hx⟩:=zfr hm h0 hN;have HM:=zHi hm;have HQ:=zHi (zf9 hq);have HT:=zHi hT;have HC:=zHi hc;have HF:=zHi hF;clear hm hq hT hc hx hF;refine callsIn_of_wp Tryz.func51 rfl trivial ?_ rfl;simp only [Tryz.ntmps51,ztr,zts,ztt,Nat.reduceAdd,Nat.reduceSub,ztu,ztv,ztw,ztx,zty,ztz];obtain⟨g1,hg1⟩:∃g,w.heap.size=g:=⟨_,rfl⟩;obtain⟨W1,hW1⟩:∃W,w.alloc (.cells #[.slice (some a) m c] 55)=W:=⟨_,rfl⟩;have hb0:Below w.heap.size w W1:=by rw [←hW1];exact zaa _ _
 have y0:W1.cell? ⟨g1,0,none⟩=some (.slice (some a) m c):=by
  rw [←hW1,←hg1];exact(zaz w [.slice (some a) m c] 55).2 0 _ rfl
 have HB0:=zHi hb0;have HY:=zHi y0;clear hb0;gi_wp2_with (gi_at_call 49;refine stop ?_)
 unfold Stop;refine(zdi W1 _ _ (zag.below HM.out HB0.out (zbv.below HB0.out)) HQ.out (HT.out.below HB0.out)).mono ?_;rintro e w2 ⟨rfl,hB2⟩;rw [HC.out];have HB2:=zHi (HB0.out.trans (hB2.mono HB0.out.size));have HY2:=zHi ((hB2.cell (World.block_lt_of_cell? _ _ y0)).trans y0);clear y0 hB2 hW1 hg1;have hmf:∀(fn:Fn) (first cap:Array Value) (w:World),(Instr.makeFunc fn first cap).run Tryz.prog w = .ok (.func fn first cap) w:=fun _ _ _ _=>rfl
 gi_wp2_with (gi_at_call 100;refine stop ?_)
 unfold Stop;refine(zkE w2 101 #[.pointer (some ⟨g1,0,none⟩)] (fun v' _=>v' = .int .i64 ((pRun m A N).k:Int)) (ec 101 _ Tryz.func101 rfl) (fun v W W' h hf=>h) (fun W hW => ?_)).mono ?_
 ·have hbW:=HB2.out.trans (hW.mono HB2.out.size);refine(zmt W g1 m N (.slice (some a) m c) A ((hW.cell (World.block_lt_of_cell? _ _ HY2.out)).trans HY2.out) (zag.below HM.out hbW (zbv.below hbW)) h0 hN h9 (HT.out.below hbW) HF.out).mono ?_;rintro e w' ⟨rfl,h2⟩;exact⟨_,rfl,⟨⟨_,rfl⟩,rfl⟩,h2⟩
 rintro e w4 ⟨v4,rfl,rfl,hB4⟩;have HBB:=zHi (HB2.out.trans (hB4.mono HB2.out.size));clear hB4;gi_wp2;all_goals (first|go_returns|go_ret|go_end0)
 exact⟨rfl,HBB.out⟩
end Go.Num
namespace Go.Num
open Go.Eng Go.Shelf Go.RowKit Go.Sort Go.Proofs Go.Proofs.YtoamcgjbelhnkaaGreatDoor
theorem zbe{F:Fence}{n:Nat}{P:Program}{ops:Array Oper}{rest:List Oper}{t:TypeId}{x y:Operand}{ty:TypeId}{ps:String}{af:Array Edge}{a:CAct}{Q:Exit→CAct→World→Prop}{w:World}(w':World){p v:Value}(hx:a.eval x=p)(hy:a.eval y=v)(hrun:(Instr.storeAt t p v).run P w = .ok () w')
  (h:wpListIn F n P ops Q rest a w'):wpListIn F n P ops Q ({op:=.store t x y,dst:=none,type:=ty,pos:=ps,after:=af,guard:=none} :: rest) a w:=by
 refine wpListIn_plain rfl fun K hK => ?_
 unfold Oper.wpIn;refine⟨by simp [Oper.about],?_⟩;rw [Oper.semAt_plain F _ _ (by intro c hc';cases hc')];simp [execOp,hx,hy,hrun,Result.andThen]
 exact hK _ _ h
theorem zag.frx{β:Type}{w w':World}{ty sz:Nat}{I:β→List Value→World→Prop}{v:Value}{bs:List β}{X:Nat→TypeId→Prop}(h:zag w ty sz I v bs)(hf:FrX X w w')(hx:∀b,¬X b ty)(hI:∀b r,I b r w→I b r w'):zag w' ty sz I v bs:=by
 rcases h with h|⟨a,cap,xs,h1,h2,h3,⟨cs,fz,h4⟩,h5,h6,h7,h8⟩
 ·exact .inl h
 ·have hb:=hf.2 _ _ _ _ h4 (hx _);exact .inr ⟨a,cap,xs,h1,h2,h3,⟨cs,fz,hb⟩,h5,h6,fun i row hr j x hx=>(World.cell?_of_block (by rw [zac,hb,h4])).trans (h7 i row hr j x hx),fun i row b hr hb'=>hI _ _ (h8 i row b hr hb')⟩
theorem MatR.frx{w w':World}{v:Value}{m:List (List Rat)}{X:Nat→TypeId→Prop}(h:MatR w v m)(hf:FrX X w w')(h1:∀b,¬X b 64)(h2:∀b,¬X b 25)(h3:∀b e,rs3.contains e=true→¬X b e):MatR w' v m:=
 zag.frx h hf h1 (fun _ _ ⟨v,e,k⟩=>⟨v,e,zag.frx k hf h2 (fun _ _ q=>zax.kept q (fun b cs e fz hb hc=>hf.2 b cs e fz hb (h3 b e hc)))⟩)
end Go.Num
namespace Go.Num
open Go.Eng Go.Shelf Go.RowKit Go.Sort Go.Proofs Go.Proofs.YtoamcgjbelhnkaaGreatDoor
attribute [local go_sem] Oper.semAt_some
section
variable {β:Type} {w w':World} {base tyO tyI sz:Nat} {I:β→List Value→World→Prop} {v:Value} {rvs:List Value} {rows:List (List β)}
theorem zan.regrow(h:zan w base tyO tyI sz I v rvs rows)(hne:tyO≠tyI){g cap i:Nat}(hv:v = .slice (some ⟨g,0,none⟩) rvs.length cap){u u':Value}{l l':List β}(hu:rvs[i]? = some u)(hul:rows[i]? = some l)
  (hk:∀b,b<w.heap.size→some b≠u.ownBlock→w'.heap[b]? = w.heap[b]?) (hu':OwnR w' base tyI sz I u' l') (hl':0<l'.length) (hd:u'.ownBlock=u.ownBlock∨∃b,u'.ownBlock=some b∧w.heap.size≤b)
  (hI:∀b r,I b r w→I b r w') (hI2:∀b r,I b r w'→I b r (w'.setCells g (i*1) [u'])) :
  zan (w'.setCells g (i*1) [u']) base tyO tyI sz I v (rvs.set i u') (rows.set i l')∧w'.there g (i*1) 1:=by
 have hi:i<rvs.length:=(List.getElem?_eq_some_iff.1 hu).1;obtain⟨gu,cu,eu,gu1,gu2,curu,gu3⟩:=(h.row i u l hu hul).own (h.ne l (List.mem_of_getElem? hul));subst hv;have hgb:∃cur,w.heap[g]? = some (.cells cur tyO (0,0)):=by
  obtain⟨g',cap',e,_,_,cur,hc⟩:=h.top.own (by omega);injection e with e;injection e with e;injection e with e;subst e;exact⟨cur,hc⟩
 obtain⟨cur,hgb⟩:=hgb;have hgu:u.ownBlock=some gu:=by rw [eu];rfl
 have htop:OwnR w' base tyO 1 (fun u r _=>r = [u]) (.slice (some ⟨g,0,none⟩) rvs.length cap) rvs:=h.top.keep (fun b hb hlt=>hk b hlt (fun e=>by
  rw [hgu]at e
  cases e
  have e2:gu=g:=by simpa [Value.ownBlock]using hb.symm
  subst e2;rw [hgb]at gu3
  cases gu3
  exact hne rfl)) (fun _ _ q=>q)
 obtain⟨h1,h2⟩:=htop.store (by decide) hi (row:=[u']) (b:=u') rfl (fun _ _ q=>q) rfl;have hgb':w'.heap[g]? = some (.cells cur tyO (0,0)):=by
  rw [hk g (Array.getElem?_eq_some_iff.1 hgb).1 (fun e=>by
   rw [hgu]at e
   cases e
   rw [hgb]at gu3
   cases gu3
   exact hne rfl)]
  exact hgb
 have far:∀{u1:Value} {l1:List β},OwnR w' base tyI sz I u1 l1→0<l1.length→OwnR (w'.setCells g (i*1) [u']) base tyI sz I u1 l1:=by
  intro u1 l1 hu hl;obtain⟨b,cb,e,_,_,cur',hcb⟩:=hu.own hl;refine hu.keep (fun k hk hlt => ?_) hI2;rw [e]at hk;cases hk;refine(zah g [u'] (i*1) w').blk b hlt (fun e => ?_);subst e;rw [hgb']at hcb
  cases hcb
  exact hne rfl
 have hne':∀(j:Nat) (u1:Value),rvs[j]? = some u1→j≠i→u'.ownBlock≠u1.ownBlock:=fun j u1 hj hji e=>by
  rcases hd with hd|⟨b,hd,hb⟩
  ·exact hji (h.inj j i u1 u hj hu (by rw [←e,hd]))
  ·have hjl:j<rows.length:=by rw [h.len];exact(List.getElem?_eq_some_iff.1 hj).1
   have:=(h.row j u1 _ hj (List.getElem?_eq_getElem hjl)).lt (k:=b) (by rw [←e,hd]);omega
 refine⟨⟨h1,by simp [h.len],?_,?_,?_⟩,h2⟩
 ·intro j u1 l1 hj hl1;by_cases hji:j=i
  ·subst hji;rw [List.getElem?_set_self hi]at hj;rw [List.getElem?_set_self (by rw [h.len];exact hi)]at hl1
   cases hj;cases hl1
   exact far hu' hl'
  ·rw [List.getElem?_set_ne (Ne.symm hji)]at hj hl1;have hr:=h.row j u1 l1 hj hl1;have hln:=h.ne l1 (List.mem_of_getElem? hl1);refine far (hr.keep (fun b hb hlt=>hk b hlt (fun e=>hji (h.inj j i u1 u hj hu (by rw [hb,e])))) hI) hln
 ·intro l1 hl1;rcases List.mem_or_eq_of_mem_set hl1 with q|q
  ·exact h.ne l1 q
  ·rw [q];exact hl'
 ·intro a c u1 u2 ha hc e;by_cases hai:a=i
  ·by_cases hci:c=i
   ·rw [hai,hci]
   ·subst hai;rw [List.getElem?_set_self hi]at ha;rw [List.getElem?_set_ne (Ne.symm hci)]at hc
    cases ha
    exact absurd e (hne' c u2 hc hci)
  ·rw [List.getElem?_set_ne (Ne.symm hai)]at ha;by_cases hci:c=i
   ·subst hci;rw [List.getElem?_set_self hi]at hc
    cases hc
    exact absurd e.symm (hne' a u1 ha hai)
   ·rw [List.getElem?_set_ne (Ne.symm hci)]at hc;exact h.inj a c u1 u2 ha hc e
end
theorem zan.grow{w:World}{base:Nat}{v:Value}{rvs:List Value}{rows:List (List Rat)}(h:zan w base 64 25 3 IR v rvs rows){g cap i:Nat}(hv:v = .slice (some ⟨g,0,none⟩) rvs.length cap){u:Value}{l:List Rat}(hu:rvs[i]? = some u)(hul:rows[i]? = some l)(hb:base≤w.heap.size)(h9:l.length<500000000)
  {row:List Value} {x:Rat} (hrow:row.length=3) (hx:IR x row w) (tx:TypeId) :
  ∃u' w',(Builtin.append_ #[64,64] tx #[u,.slice (some ⟨w.heap.size,0,none⟩) 1 1]).run Tryz.prog (w.alloc (.cells row.toArray 25)) = .ok u' w' ∧
   zan (w'.setCells g (i*1) [u']) base 64 25 3 IR v (rvs.set i u') (rows.set i (l ++ [x]))∧w'.there g (i*1) 1∧base≤g∧(∀B0 w0,Below B0 w0 w→B0≤base→Below B0 w0 (w'.setCells g (i*1) [u']))∧(∃o k c,u' = .slice o k c)∧Elem w g 64 ∧
   (∃b,u.ownBlock=some b∧∃cur,w.heap[b]? = some (.cells cur 25 (0,0)))∧(∀b,b<w.heap.size→some b≠u.ownBlock→w'.heap[b]? = w.heap[b]?)∧w.heap.size≤w'.heap.size:=by
 have HO:=h.row i u l hu hul;obtain⟨gu,cu,eu,gu1,gu2,curu,gu3⟩:=HO.own (h.ne l (List.mem_of_getElem? hul));obtain⟨xs,h1,h2,h3,h4⟩:=HO;obtain⟨u',w',hrun,g1,g2,_,g4⟩:=run_append_own_at (P:=Tryz.prog) (w:=w.alloc (.cells row.toArray 25)) base 64 tx 25 Tryz.t25 _ 3 56 Go.Num.u64 i25' i25z i25s i25b rfl (by decide) u l.length xs.flatten (World.ownsRow.alloc h1 _) ⟨w.heap.size,0,none⟩ 1 1 row (by rw [hrow]) (fun j y hy=>by rw [Addr.add_lit,Nat.zero_add,World.cell?_alloc_new];simpa using hy) (IR.one hx) (by unfold maxLen;omega) (by omega) (by simp;omega);have hgu:u.ownBlock=some gu:=by rw [eu];rfl
 have hk:∀b,b<w.heap.size→some b≠u.ownBlock→w'.heap[b]? = w.heap[b]?:=fun b hb hne=>by
  rw [g2.block b (by simp;omega) (fun e=>hne e),(zaa w _).block b hb]
 have hsz:w.heap.size≤w'.heap.size:=Nat.le_trans (by simp) g2.size;have hT:Touch 25 w w':=⟨hsz,fun b cs e fz hb hne=>by
  rw [hk b (Array.getElem?_eq_some_iff.1 hb).1 (fun q=>by
   rw [hgu]at q
   cases q
   rw [gu3]at hb;cases hb;exact hne rfl)]
  exact hb⟩
 have hIw:∀b r,IR b r w→IR b r w':=fun b r q=>IR.touch hT rfl b r q
 have hO':OwnR w' base 25 3 IR u' (l ++ [x]):=by
  refine⟨xs ++ [row],?_,by simp [h2],fun r hr => ?_,fun k r b' hr hb' => ?_⟩
  ·rw [List.flatten_append,List.length_append];simpa using g1
  ·rcases List.mem_append.1 hr with q|q
   ·exact h3 r q
   ·rw [List.mem_singleton.1 q,hrow]
  ·rcases Nat.lt_or_ge k l.length with hi|hi
   ·rw [List.getElem?_append_left (by omega)]at hr hb';exact hIw _ _ (h4 k r b' hr hb')
   ·rw [List.getElem?_append_right (by omega)]at hr hb';rw [h2]at hr;rcases Nat.eq_zero_or_pos (k-l.length)with q|q
    ·rw [q]at hr hb';have hr:row=r:=by simpa using hr
     have hb':x=b':=by simpa using hb'
     rw [←hr,←hb'];exact hIw _ _ hx
    ·rw [List.getElem?_eq_none (by simp;omega)]at hr
     cases hr
 obtain⟨gt,ct,et,gt1,_,curt,gt3⟩:=h.top.own (by have:=(List.getElem?_eq_some_iff.1 hu).1;omega);rw [hv]at et;injection et with et;injection et with et;injection et with et;subst et;have hgb':Elem w' g 64:=by
  refine⟨curt,(0,0),?_⟩;rw [hk g (Array.getElem?_eq_some_iff.1 gt3).1 (fun e=>by
   rw [hgu]at e
   cases e
   rw [gt3]at gu3;cases gu3)]
  exact gt3
 have hr:=h.regrow (by decide) hv hu hul hk hO' (by simp) (by
  rcases g4 with g4|g4
  ·exact .inl g4
  ·exact .inr ⟨_,g4,by simp⟩) hIw (fun b r q=>zax.kept (show zax w' (.agg r.toArray) b from q) ((zah g [u'] (i*1) w').kept hgb' rfl))
 refine⟨u',w',hrun,hr.1,hr.2,gt1,fun B0 w0 hb0 hB => ?_,?_,⟨curt,_,gt3⟩,⟨gu,hgu,curu,gu3⟩,hk,hsz⟩
 ·refine(zaF (by omega) _ _ _ ?_);refine⟨g2.os.trans hb0.os,g2.tape.trans hb0.tape,g2.output.trans hb0.output,Nat.le_trans hb0.size hsz,fun k hk' => ?_⟩;have hks:k<w.heap.size:=Nat.lt_of_lt_of_le hk' (Nat.le_trans hB hb);rw [hk k hks (fun e=>by rw [hgu]at e;cases e;omega),hb0.block k hk']
 ·obtain⟨o,c,e⟩:=hO'.form;exact⟨o,_,c,e⟩
end Go.Num
