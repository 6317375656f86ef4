/-
  'attempt' of a closure that does not panic: four instances. Printed by mkAtt.py. 'slices.Contains' of integers. The program's 'Det' of a mat
  Conditions: see each statement.
-/
import Derived.Test.YtoamcgjbelhnkaaGreatDoorPAW
import Derived.Test.YtoamcgjbelhnkaaGreatDoorPAO
import Derived.Test.YtoamcgjbelhnkaaGreatDoorPAA
import Derived.Test.YtoamcgjbelhnkaaGreatDoorPAV
set_option maxRecDepth 100000
set_option maxHeartbeats 16000000
namespace Go.Num
open Go.Eng Go.Shelf Go.RowKit Go.Sort Go.Proofs Go.Proofs.YtoamcgjbelhnkaaGreatDoor
theorem zsz{F:Fence}{n:Nat}{P:Program}{f:FuncId}{args:Array Value}{w:World}{R:Ending→World→Prop}(h:Stop (CallsIn F n P f args w R)):CallsIn F n P f args w R:=h
theorem zeK{w:World}{g i:Nat}{e:TypeId}{v:Value}{X:Nat→TypeId→Prop}(hE:Elem w g e)(hx:X g e):FrX X w (w.setCell ⟨g,i,none⟩ v):=by
 refine⟨by rw [World.size_setCell];exact Nat.le_refl _,fun b cs e' fz hb hx' => ?_⟩;obtain⟨_,_,hE⟩:=hE;rw [heap_setCell_other _ _ _ _ (show b≠g from fun q=>by subst q;rw [hE]at hb;cases hb;exact hx' hx)];exact hb
theorem l55a:zcB Tryz.prog 55:=zbP (by kernel_rfl)
theorem l3a:zcB Tryz.prog 3:=zbP (by kernel_rfl)
theorem zl2(w:World)(f:FuncId)(cap:Array Value)(R:Value→World→Prop)(hce:∀args w,(callFunc f args).run Tryz.prog w = .ok (.enter f args) w)
  (hRs:∀v W W',R v W→FrX (fun _ e=>e=25∨e=26) W W'→R v W')
  (hc:∀W,Below w.heap.size w W→CallsIn Fence.wide 0 Tryz.prog f cap W fun e w'=>∃v',e = .returned v'∧((∃(sg:Bool) (p:Option Addr) (l:Nat) (d:Nat) (p2:Option Addr) (l2:Nat) (d2:Nat),v' = .agg #[.bool sg,.slice p l d,.slice p2 l2 d2])∧R v' w')∧Below W.heap.size W w') :
  CallsIn Fence.wide 0 Tryz.prog 66 #[.func (.func f) #[] cap] w fun e w'=>∃v',e = .returned (.tuple #[v',.int .i64 0])∧R v' w'∧Below w.heap.size w w':=by
 have hmf:∀(fn:Fn) (first cap:Array Value) (w:World),(Instr.makeFunc fn first cap).run Tryz.prog w = .ok (.func fn first cap) w:=fun _ _ _ _=>rfl
 have HC:=zHi hc;have HRS:=zHi hRs;clear hc hRs;gi_enter_defers Tryz.func66,Tryz.ntmps66
 gi_wp2_with (with_reducible refine zsz (f:=f) ?_)
 unfold Stop;obtain⟨W0,hW0⟩:∃W,W=w.alloc (.cells #[.bool false,.slice none 0 0,.slice none 0 0] 25):=⟨_,rfl⟩;have h0s:W0.heap.size=w.heap.size+1:=by rw [hW0];simp
 obtain⟨W1,hW1⟩:∃W,W=W0.alloc (.cells #[.int .i64 0] 26):=⟨_,rfl⟩;rw [←hW0,←hW1];have HA:Hid (∃f,zaf W1 w.heap.size 3 f):=zHi ⟨fun i => [.bool false,.slice none 0 0,.slice none 0 0].getD i (.bool false),by
  rw [hW1];refine zaf.alloc ?_ (by omega) _;rw [hW0];refine zaf.new _ _ _ fun i hi => ?_
  have:i=0∨i=1∨i=2:=by omega
  rcases this with rfl|rfl|rfl <;> rfl⟩
 have HA2:Hid (∃f,zaf W1 (w.heap.size+1) 1 f):=zHi ⟨fun i => .int .i64 0,by
  rw [hW1,←h0s];exact zaf.new _ _ _ fun i hi=>by
   have:i=0:=by omega
   rw [this];rfl⟩
 have HE:Hid (Elem W1 w.heap.size 25):=zHi ((by rw [hW0];exact zaA _ _ _:Elem W0 w.heap.size 25).below (by rw [hW1];exact zaa _ _) (by omega));have HE2:Hid (Elem W1 (w.heap.size+1) 26):=zHi (by rw [hW1,←h0s];exact zaA _ _ _);have HBW:Hid (Below w.heap.size w W1):=zHi (by rw [hW1,hW0];exact(zaa _ _).alloc (by simp) _);have hl:w.heap.size+1<W1.heap.size:=by rw [hW1];simp;omega
 obtain⟨g,hg⟩:∃g,w.heap.size=g:=⟨_,rfl⟩;rw [hg]at HA HA2 HE HE2 hl;rw [hg];have hgw:w.heap.size≤g:=by omega
 clear hW0 hW1 h0s hg;refine(HC.out W1 HBW.out).mono ?_;rintro e w2 ⟨v2,rfl,⟨⟨sg,p,l,d,p2,l2,d2,rfl⟩,hr2⟩,hB⟩;have HR2:=zHi hr2;replace HBW:=zHi (HBW.out.trans (hB.mono HBW.out.size));replace HE:=zHi (HE.out.below hB (by omega));replace HE2:=zHi (HE2.out.below hB (by omega));obtain⟨f1,hf⟩:=HA.out;obtain⟨f2,hf2⟩:=HA2.out;have ha:=hf.below (by omega) hB;have ha2:=hf2.below (by omega) hB;have z0:=(ha 0 (by omega)).1;have y0:=(ha 0 (by omega)).2;have z1:=(ha 1 (by omega)).1;have y1:=(ha 1 (by omega)).2;have z2:=(ha 2 (by omega)).1;have y2:=(ha 2 (by omega)).2;have x0:=(ha2 0 (by omega)).1;have x1:=(ha2 0 (by omega)).2;have HA9:=zHi ha;have HA8:=zHi ha2;clear hr2 hB ha ha2 hf hf2 HA HA2;gi_wp2;have hB3:Below w.heap.size w ((((w2.setCell ⟨g,0,none⟩ (.bool sg)).setCell ⟨g,1,none⟩ (.slice p l d)).setCell ⟨g,2,none⟩ (.slice p2 l2 d2)).setCell ⟨g+1,0,none⟩ (.int .i64 0)):=
  (((HBW.out.setCell hgw _).setCell hgw _).setCell hgw _).setCell (by show w.heap.size≤g+1;omega) _
 refine leavesIn_cons (f:=109) (args:=#[.pointer (some ⟨g,0,none⟩),.pointer (some ⟨g+1,0,none⟩)]) (by simp) (by simp) (by simp [go_sem]) (by simp [Target.leads]) ?_;refine(zhG.2 _ _).mono ?_;rintro e u' w'' ⟨⟨v3,rfl⟩,rfl,hh,hb⟩;refine⟨.tuple #[.agg #[.bool sg,.slice p l d,.slice p2 l2 d2],.int .i64 0],?_,_,rfl,?_,?_⟩
 ·have h3:=(((HA9.out.set (i:=0) (by omega) (.bool sg)).set (i:=1) (by omega) (.slice p l d)).set (i:=2) (by omega) (.slice p2 l2 d2));have n3:∀j:Nat,(⟨g,j,none⟩:Addr)≠⟨g+1,0,none⟩:=fun j e=>by injection e with e _ _;omega
  have n4:∀j:Nat,(⟨g+1,0,none⟩:Addr)≠⟨g,j,none⟩:=fun j e=>by injection e with e _ _;omega
  have b3:BoxL ((((w2.setCell ⟨g,0,none⟩ (.bool sg)).setCell ⟨g,1,none⟩ (.slice p l d)).setCell ⟨g,2,none⟩ (.slice p2 l2 d2)).setCell ⟨g+1,0,none⟩ (.int .i64 0)) g [.bool sg,.slice p l d,.slice p2 l2 d2]:=⟨by have:=HE.out.lt;simpa using this,fun j v hj=>by
   rw [World.cell?_setCell_other _ _ _ _ (n4 j)];match j,hj with
   | 0,hj=>rw [←hj];exact(h3 0 (by omega)).1
   | 1,hj=>rw [←hj];exact(h3 1 (by omega)).1
   | 2,hj=>rw [←hj];exact(h3 2 (by omega)).1
   | n+3,hj=>simp at hj⟩
  have c3:((((w2.setCell ⟨g,0,none⟩ (.bool sg)).setCell ⟨g,1,none⟩ (.slice p l d)).setCell ⟨g,2,none⟩ (.slice p2 l2 d2)).setCell ⟨g+1,0,none⟩ (.int .i64 0)).cell? ⟨g+1,0,none⟩=some (.int .i64 0):=
   World.cell?_setCell_same _ _ _ (by rw [World.cell?_setCell_other _ _ _ _ (n3 2),World.cell?_setCell_other _ _ _ _ (n3 1),World.cell?_setCell_other _ _ _ _ (n3 0)];exact x0)
  have e1:=l25 g [.bool sg,.slice p l d,.slice p2 l2 d2] w'' rfl (fun j v hj=>(hb.cell (p:=⟨g,j,none⟩) b3.1).trans (b3.2 j v hj));have e2:=l26 ⟨g+1,0,none⟩ _ w'' ((hb.cell (World.block_lt_of_cell? _ _ c3)).trans c3);simp only [Instr.loadAt,Instr.sureAddr,Sem.run_bind,Sem.run_pure,Result.andThen_ok]at e1 e2;simp [results,asAddr,e1,e2]
 ·exact HRS.out _ _ _ HR2.out (((zeK (i:=0) (v:=.bool sg) HE.out (.inl rfl)).trans ((zeK (i:=1) (v:=.slice p l d) (HE.out.setCell _ _) (.inl rfl)).trans ((zeK (i:=2) (v:=.slice p2 l2 d2) ((HE.out.setCell _ _).setCell _ _) (.inl rfl)).trans (zeK (i:=0) (v:=.int .i64 0) (((HE2.out.setCell _ _).setCell _ _).setCell _ _) (.inr rfl))))).trans (FrX.of_below hb))
 ·exact hB3.trans (hb.mono hB3.size)
theorem zhc(w:World)(f:FuncId)(cap:Array Value)(R:Value→World→Prop)(hce:∀args w,(callFunc f args).run Tryz.prog w = .ok (.enter f args) w)
  (hRs:∀v W W',R v W→FrX (fun _ e=>e=55∨e=26) W W'→R v W')
  (hc:∀W,Below w.heap.size w W→CallsIn Fence.wide 0 Tryz.prog f cap W fun e w'=>∃v',e = .returned v'∧((∃(p:Option Addr) (l:Nat) (d:Nat),v' = .slice p l d)∧R v' w')∧Below W.heap.size W w') :
  CallsIn Fence.wide 0 Tryz.prog 78 #[.func (.func f) #[] cap] w fun e w'=>∃v',e = .returned (.tuple #[v',.int .i64 0])∧R v' w'∧Below w.heap.size w w':=by
 have hmf:∀(fn:Fn) (first cap:Array Value) (w:World),(Instr.makeFunc fn first cap).run Tryz.prog w = .ok (.func fn first cap) w:=fun _ _ _ _=>rfl
 have HC:=zHi hc;have HRS:=zHi hRs;clear hc hRs;gi_enter_defers Tryz.func78,Tryz.ntmps78
 gi_wp2_with (with_reducible refine zsz (f:=f) ?_)
 unfold Stop;obtain⟨W0,hW0⟩:∃W,W=w.alloc (.cells #[.slice none 0 0] 55):=⟨_,rfl⟩;have h0s:W0.heap.size=w.heap.size+1:=by rw [hW0];simp
 obtain⟨W1,hW1⟩:∃W,W=W0.alloc (.cells #[.int .i64 0] 26):=⟨_,rfl⟩;rw [←hW0,←hW1];have HA:Hid (∃f,zaf W1 w.heap.size 1 f):=zHi ⟨fun i => [.slice none 0 0].getD i (.bool false),by
  rw [hW1];refine zaf.alloc ?_ (by omega) _;rw [hW0];refine zaf.new _ _ _ fun i hi => ?_
  have:i=0:=by omega
  rw [this];rfl⟩
 have HA2:Hid (∃f,zaf W1 (w.heap.size+1) 1 f):=zHi ⟨fun i => .int .i64 0,by
  rw [hW1,←h0s];exact zaf.new _ _ _ fun i hi=>by
   have:i=0:=by omega
   rw [this];rfl⟩
 have HE:Hid (Elem W1 w.heap.size 55):=zHi ((by rw [hW0];exact zaA _ _ _:Elem W0 w.heap.size 55).below (by rw [hW1];exact zaa _ _) (by omega));have HE2:Hid (Elem W1 (w.heap.size+1) 26):=zHi (by rw [hW1,←h0s];exact zaA _ _ _);have HBW:Hid (Below w.heap.size w W1):=zHi (by rw [hW1,hW0];exact(zaa _ _).alloc (by simp) _);have hl:w.heap.size+1<W1.heap.size:=by rw [hW1];simp;omega
 obtain⟨g,hg⟩:∃g,w.heap.size=g:=⟨_,rfl⟩;rw [hg]at HA HA2 HE HE2 hl;rw [hg];have hgw:w.heap.size≤g:=by omega
 clear hW0 hW1 h0s hg;refine(HC.out W1 HBW.out).mono ?_;rintro e w2 ⟨v2,rfl,⟨⟨p,l,d,rfl⟩,hr2⟩,hB⟩;have HR2:=zHi hr2;replace HBW:=zHi (HBW.out.trans (hB.mono HBW.out.size));replace HE:=zHi (HE.out.below hB (by omega));replace HE2:=zHi (HE2.out.below hB (by omega));obtain⟨f1,hf⟩:=HA.out;obtain⟨f2,hf2⟩:=HA2.out;have ha:=hf.below (by omega) hB;have ha2:=hf2.below (by omega) hB;have z0:=(ha 0 (by omega)).1;have y0:=(ha 0 (by omega)).2;have x0:=(ha2 0 (by omega)).1;have x1:=(ha2 0 (by omega)).2;have HA9:=zHi ha;have HA8:=zHi ha2;clear hr2 hB ha ha2 hf hf2 HA HA2;gi_wp2;have hB3:Below w.heap.size w ((w2.setCell ⟨g,0,none⟩ (.slice p l d)).setCell ⟨g+1,0,none⟩ (.int .i64 0)):=
  (HBW.out.setCell hgw _).setCell (by show w.heap.size≤g+1;omega) _
 refine leavesIn_cons (f:=120) (args:=#[.pointer (some ⟨g,0,none⟩),.pointer (some ⟨g+1,0,none⟩)]) (by simp) (by simp) (by simp [go_sem]) (by simp [Target.leads]) ?_;refine(zlb.2 _ _).mono ?_;rintro e u' w'' ⟨⟨v3,rfl⟩,rfl,hh,hb⟩;refine⟨.tuple #[.slice p l d,.int .i64 0],?_,_,rfl,?_,?_⟩
 ·have h3:=(HA9.out.set (i:=0) (by omega) (.slice p l d));have n3:∀j:Nat,(⟨g,j,none⟩:Addr)≠⟨g+1,0,none⟩:=fun j e=>by injection e with e _ _;omega
  have n4:∀j:Nat,(⟨g+1,0,none⟩:Addr)≠⟨g,j,none⟩:=fun j e=>by injection e with e _ _;omega
  have b3:BoxL ((w2.setCell ⟨g,0,none⟩ (.slice p l d)).setCell ⟨g+1,0,none⟩ (.int .i64 0)) g [.slice p l d]:=⟨by have:=HE.out.lt;simpa using this,fun j v hj=>by
   rw [World.cell?_setCell_other _ _ _ _ (n4 j)];match j,hj with
   | 0,hj=>rw [←hj];exact(h3 0 (by omega)).1
   | n+1,hj=>simp at hj⟩
  have c3:((w2.setCell ⟨g,0,none⟩ (.slice p l d)).setCell ⟨g+1,0,none⟩ (.int .i64 0)).cell? ⟨g+1,0,none⟩=some (.int .i64 0):=
   World.cell?_setCell_same _ _ _ (by rw [World.cell?_setCell_other _ _ _ _ (n3 0)];exact x0)
  have e1:=l55a ⟨g,0,none⟩ _ w'' ((hb.cell (p:=⟨g,0,none⟩) b3.1).trans (b3.2 0 _ rfl));have e2:=l26 ⟨g+1,0,none⟩ _ w'' ((hb.cell (World.block_lt_of_cell? _ _ c3)).trans c3);simp only [Instr.loadAt,Instr.sureAddr,Sem.run_bind,Sem.run_pure,Result.andThen_ok]at e1 e2;simp [results,asAddr,e1,e2]
 ·exact HRS.out _ _ _ HR2.out (((zeK (i:=0) (v:=.slice p l d) HE.out (.inl rfl)).trans (zeK (i:=0) (v:=.int .i64 0) (HE2.out.setCell _ _) (.inr rfl))).trans (FrX.of_below hb))
 ·exact hB3.trans (hb.mono hB3.size)
theorem zkO(w:World)(f:FuncId)(cap:Array Value)(R:Value→World→Prop)(hce:∀args w,(callFunc f args).run Tryz.prog w = .ok (.enter f args) w)
  (hRs:∀v W W',R v W→FrX (fun _ e=>e=3∨e=26) W W'→R v W')
  (hc:∀W,Below w.heap.size w W→CallsIn Fence.wide 0 Tryz.prog f cap W fun e w'=>∃v',e = .returned v'∧((∃(nn:Int),v' = .int .i64 nn)∧R v' w')∧Below W.heap.size W w') :
  CallsIn Fence.wide 0 Tryz.prog 100 #[.func (.func f) #[] cap] w fun e w'=>∃v',e = .returned (.tuple #[v',.int .i64 0])∧R v' w'∧Below w.heap.size w w':=by
 have hmf:∀(fn:Fn) (first cap:Array Value) (w:World),(Instr.makeFunc fn first cap).run Tryz.prog w = .ok (.func fn first cap) w:=fun _ _ _ _=>rfl
 have HC:=zHi hc;have HRS:=zHi hRs;clear hc hRs;gi_enter_defers Tryz.func100,Tryz.ntmps100
 gi_wp2_with (with_reducible refine zsz (f:=f) ?_)
 unfold Stop;obtain⟨W0,hW0⟩:∃W,W=w.alloc (.cells #[.int .i64 0] 3):=⟨_,rfl⟩;have h0s:W0.heap.size=w.heap.size+1:=by rw [hW0];simp
 obtain⟨W1,hW1⟩:∃W,W=W0.alloc (.cells #[.int .i64 0] 26):=⟨_,rfl⟩;rw [←hW0,←hW1];have HA:Hid (∃f,zaf W1 w.heap.size 1 f):=zHi ⟨fun i => [.int .i64 0].getD i (.bool false),by
  rw [hW1];refine zaf.alloc ?_ (by omega) _;rw [hW0];refine zaf.new _ _ _ fun i hi => ?_
  have:i=0:=by omega
  rw [this];rfl⟩
 have HA2:Hid (∃f,zaf W1 (w.heap.size+1) 1 f):=zHi ⟨fun i => .int .i64 0,by
  rw [hW1,←h0s];exact zaf.new _ _ _ fun i hi=>by
   have:i=0:=by omega
   rw [this];rfl⟩
 have HE:Hid (Elem W1 w.heap.size 3):=zHi ((by rw [hW0];exact zaA _ _ _:Elem W0 w.heap.size 3).below (by rw [hW1];exact zaa _ _) (by omega));have HE2:Hid (Elem W1 (w.heap.size+1) 26):=zHi (by rw [hW1,←h0s];exact zaA _ _ _);have HBW:Hid (Below w.heap.size w W1):=zHi (by rw [hW1,hW0];exact(zaa _ _).alloc (by simp) _);have hl:w.heap.size+1<W1.heap.size:=by rw [hW1];simp;omega
 obtain⟨g,hg⟩:∃g,w.heap.size=g:=⟨_,rfl⟩;rw [hg]at HA HA2 HE HE2 hl;rw [hg];have hgw:w.heap.size≤g:=by omega
 clear hW0 hW1 h0s hg;refine(HC.out W1 HBW.out).mono ?_;rintro e w2 ⟨v2,rfl,⟨⟨nn,rfl⟩,hr2⟩,hB⟩;have HR2:=zHi hr2;replace HBW:=zHi (HBW.out.trans (hB.mono HBW.out.size));replace HE:=zHi (HE.out.below hB (by omega));replace HE2:=zHi (HE2.out.below hB (by omega));obtain⟨f1,hf⟩:=HA.out;obtain⟨f2,hf2⟩:=HA2.out;have ha:=hf.below (by omega) hB;have ha2:=hf2.below (by omega) hB;have z0:=(ha 0 (by omega)).1;have y0:=(ha 0 (by omega)).2;have x0:=(ha2 0 (by omega)).1;have x1:=(ha2 0 (by omega)).2;have HA9:=zHi ha;have HA8:=zHi ha2;clear hr2 hB ha ha2 hf hf2 HA HA2;gi_wp2;have hB3:Below w.heap.size w ((w2.setCell ⟨g,0,none⟩ (.int .i64 nn)).setCell ⟨g+1,0,none⟩ (.int .i64 0)):=
  (HBW.out.setCell hgw _).setCell (by show w.heap.size≤g+1;omega) _
 refine leavesIn_cons (f:=137) (args:=#[.pointer (some ⟨g,0,none⟩),.pointer (some ⟨g+1,0,none⟩)]) (by simp) (by simp) (by simp [go_sem]) (by simp [Target.leads]) ?_;refine(zla.2 _ _).mono ?_;rintro e u' w'' ⟨⟨v3,rfl⟩,rfl,hh,hb⟩;refine⟨.tuple #[.int .i64 nn,.int .i64 0],?_,_,rfl,?_,?_⟩
 ·have h3:=(HA9.out.set (i:=0) (by omega) (.int .i64 nn));have n3:∀j:Nat,(⟨g,j,none⟩:Addr)≠⟨g+1,0,none⟩:=fun j e=>by injection e with e _ _;omega
  have n4:∀j:Nat,(⟨g+1,0,none⟩:Addr)≠⟨g,j,none⟩:=fun j e=>by injection e with e _ _;omega
  have b3:BoxL ((w2.setCell ⟨g,0,none⟩ (.int .i64 nn)).setCell ⟨g+1,0,none⟩ (.int .i64 0)) g [.int .i64 nn]:=⟨by have:=HE.out.lt;simpa using this,fun j v hj=>by
   rw [World.cell?_setCell_other _ _ _ _ (n4 j)];match j,hj with
   | 0,hj=>rw [←hj];exact(h3 0 (by omega)).1
   | n+1,hj=>simp at hj⟩
  have c3:((w2.setCell ⟨g,0,none⟩ (.int .i64 nn)).setCell ⟨g+1,0,none⟩ (.int .i64 0)).cell? ⟨g+1,0,none⟩=some (.int .i64 0):=
   World.cell?_setCell_same _ _ _ (by rw [World.cell?_setCell_other _ _ _ _ (n3 0)];exact x0)
  have e1:=l3a ⟨g,0,none⟩ _ w'' ((hb.cell (p:=⟨g,0,none⟩) b3.1).trans (b3.2 0 _ rfl));have e2:=l26 ⟨g+1,0,none⟩ _ w'' ((hb.cell (World.block_lt_of_cell? _ _ c3)).trans c3);simp only [Instr.loadAt,Instr.sureAddr,Sem.run_bind,Sem.run_pure,Result.andThen_ok]at e1 e2;simp [results,asAddr,e1,e2]
 ·exact HRS.out _ _ _ HR2.out (((zeK (i:=0) (v:=.int .i64 nn) HE.out (.inl rfl)).trans (zeK (i:=0) (v:=.int .i64 0) (HE2.out.setCell _ _) (.inr rfl))).trans (FrX.of_below hb))
 ·exact hB3.trans (hb.mono hB3.size)
theorem zfu{w:World}{v:Value}{m N:Nat}{A:Nat→Nat→Rat}(h:MatR w v (tab m N A))(h0:0<m)(hN:0<N):∃a c a0 c0,v = .slice (some a) m c∧w.cell? (a.add (0*1))=some (.slice (some a0) N c0):=by
 obtain⟨a,c,rfl⟩:=zah.some h (by rw [zaq];exact h0);rw [zaq]at h;obtain⟨_,row,hrl,hcell,u,rfl,hu⟩:=zah.at' h (zek (A:=A) h0);obtain⟨a0,c0,rfl⟩:=zah.some hu (by simpa using hN);have:=hcell 0 _ rfl;rw [Addr.add_add,Nat.add_zero]at this;refine⟨a,c,a0,c0,by rw [zaq],?_⟩;simpa using this
theorem OV.neq{K:World→Prop}{ks:List Nat}{nt:Nat}{ops:Array Oper}{bs bars r:List Nat}{i:Nat}{a:CAct}{ov:List (Tmp × Value)}{w:World}{Q:CAct→World→Prop}{t t2:TypeId}{x y:Operand}{p q:Int}{b:Bool}{d:Tmp}{ty:TypeId}{ps:String}{af:Array Edge}(hpq:decide (p≠q)=b)
  (ho:ops[i]? = some {op:=.binOp .neq t x y t2,dst:=some d,type:=ty,pos:=ps,after:=af,guard:=none}) (hb:bars.contains i=false) (hd:Nat.blt d nt=true)
  (hx:Go.Eng.look a ov x = .int .i64 p) (hy:Go.Eng.look a ov y = .int .i64 q) (h:OV K ks Tryz.prog nt ops bs bars Q r a ((d,.bool b) :: ov) w):OV K ks Tryz.prog nt ops bs bars Q (i :: r) a ov w:=
 OV.read _ ho rfl hb hd (fun w' _=>by
  rw [←hpq];simp [execOp,hx,hy,binOp,eqGuard,Op.intCmp,Result.andThen,Sem.run_bind,Sem.run_pure,go_sem]
  rfl) h
theorem zqW{w W:World}{g1:Nat}{f:Nat→Value}{a b c:Value}(hf:zaf W g1 3 f)(hB:Below w.heap.size w W)(hs:w.heap.size≤g1) :
  Below w.heap.size w (((W.setCell ⟨g1,0,none⟩ a).setCell ⟨g1,1,none⟩ b).setCell ⟨g1,2,none⟩ c)∧Box3 (((W.setCell ⟨g1,0,none⟩ a).setCell ⟨g1,1,none⟩ b).setCell ⟨g1,2,none⟩ c) g1 a b c:=by
 have ha:=((hf.set (i:=0) (by omega) a).set (i:=1) (by omega) b).set (i:=2) (by omega) c;refine⟨((hB.setCell (p:=⟨g1,0,none⟩) hs a).setCell (p:=⟨g1,1,none⟩) hs b).setCell (p:=⟨g1,2,none⟩) hs c,fun j v hj => ?_⟩;match j,hj with
 | 0,hj=>rw [←hj];exact(ha 0 (by omega)).1
 | 1,hj=>rw [←hj];exact(ha 1 (by omega)).1
 | 2,hj=>rw [←hj];exact(ha 2 (by omega)).1
 | n+3,hj=>simp at hj
theorem it55:zmc Tryz.prog 55 1:=zif (e:=64) (inf:=Tryz.t64) (by kernel_rfl) (by kernel_rfl) (by kernel_rfl)
def ziS(m N:Nat)(A:Nat→Nat→Rat):Prop:=∀i j,i<m→j<N→zar (A i j) 100000
theorem zhk{m N:Nat}{A:Nat→Nat→Rat}(h:ziS m N A):∀r∈tab m N A,∀q∈r,zar q 100000:=by
 intro r hr q hq;obtain⟨i,hi,rfl⟩:=List.mem_map.1 hr;obtain⟨j,hj,rfl⟩:=List.mem_map.1 hq;exact h i j (List.mem_range.1 hi) (List.mem_range.1 hj)
theorem ziw(w:World)(v:Value)(n:Nat)(A:Nat→Nat→Rat)(hm:MatR w v (tab n n A))(h0:0<n)(h9:n≤8)(hc:zb8 (tab n n A)=0)(hq:ziS n n A)(hT:zaU w)
  (hG:∀c,c≤n→Good n n (pRun n A c).P) (hK:(pRun n A n).k=n→zar (zca (zbc n A n)) 700) :
  CallsIn Fence.wide 0 Tryz.prog 50 #[v] w fun e w'=>∃v',e = .returned (.tuple #[v',.int .i64 0])∧zao w' v' (if(pRun n A n).k<n then 0 else zca (zbc n A n))∧Below w.heap.size w w':=by
 obtain⟨a,c,a0,c0,rfl,hx⟩:=zfu hm h0 h0;have HM:=zHi hm;have HQ:=zHi (zhk hq);have HT:=zHi hT;have HC:=zHi hc;have HX:=zHi hx;have HG:=zHi hG;have HK:=zHi hK;obtain⟨D,hD⟩:∃D,(if(pRun n A n).k<n then 0 else zca (zbc n A n))=D:=⟨_,rfl⟩;have HD:=zHi hD;rw [hD];clear hm hq hT hc hx hG hK hD;refine callsIn_of_wp Tryz.func50 rfl trivial ?_ rfl;simp only [Tryz.ntmps50,ztE,ztF,ztG,Nat.reduceAdd,Nat.reduceSub,ztH,ztI,ztJ,ztK,ztL,ztM];obtain⟨g1,hg1⟩:∃g,w.heap.size=g:=⟨_,rfl⟩;obtain⟨W1,hW1⟩:∃W,(w.alloc (.cells #[.slice (some a) n c] 55)).alloc (.cells #[.bool false,.slice none 0 0,.slice none 0 0] 25)=W:=⟨_,rfl⟩;have hb0:Below w.heap.size w W1:=by rw [←hW1];exact(zaa _ _).alloc (by simp) _
 have y0:W1.cell? ⟨g1,0,none⟩=some (.slice (some a) n c):=by
  rw [←hW1,←hg1];exact((zaP w [.slice (some a) n c] 55).below (zaa _ _)).2 0 _ rfl
 have ha:zaf W1 (g1+1) 3 (fun i => [.bool false,.slice none 0 0,.slice none 0 0].getD i (.bool false)):=by
  rw [←hW1,←hg1];have:=zaf.new (w.alloc (.cells #[.slice (some a) n c] 55)) #[.bool false,.slice none 0 0,.slice none 0 0] 25 (n:=3) (f:=fun i => [.bool false,.slice none 0 0,.slice none 0 0].getD i (.bool false)) (fun i hi=>by
   have:i=0∨i=1∨i=2:=by omega
   rcases this with rfl|rfl|rfl <;> rfl)
  rw [World.size_alloc]at this;exact this
 have he:Elem W1 (g1+1) 25:=by
  rw [←hW1,←hg1];have:=zaA (w.alloc (.cells #[.slice (some a) n c] 55)) #[.bool false,.slice none 0 0,.slice none 0 0] 25;rw [World.size_alloc]at this;exact this
 have HB0:=zHi hb0;have HA:=zHi ha;have HE:=zHi he;have HS:Hid (W1.heap.size=g1+2):=zHi (by rw [←hW1,←hg1];simp);have HY:=zHi y0;have HG1:=zHi hg1;clear hb0 ha he;gi_wp2_with (gi_at_call 49;refine stop ?_)
 unfold Stop;refine(zea W1 _ _ (zah.below HM.out HB0.out (zaF.below HB0.out)) HQ.out (HT.out.below HB0.out)).mono ?_;rintro e w2 ⟨rfl,hB2⟩;rw [HC.out];have y2:=(hB2.cell (World.block_lt_of_cell? _ _ y0)).trans y0;have HB2:=zHi hB2;have HY2:=zHi y2;clear y0 hB2 y2 hW1 hg1;gi_wp2;have hB3:=zab w2;have hy3:=(hB3.cell (World.block_lt_of_cell? _ _ HY2.out)).trans HY2.out;have hb3:=HB0.out.trans ((HB2.out.trans (hB3.mono HB2.out.size)).mono HB0.out.size);have hx3:=(hb3.cell (World.block_lt_of_cell? _ _ HX.out)).trans HX.out;have HB3:=zHi (HB2.out.trans (hB3.mono HB2.out.size));have HB3':=zHi hb3;refine zbf (ro:=none) [] [0,1,2,3,4,5,6] [0,1,0,4,12,28,63] zaz rfl 23 rfl (by kernel_rfl) (by kernel_rfl) ?_;refine OV.ld lo55 hy3 rfl rfl rfl rfl rfl ?_;refine OV.len u55 rfl rfl rfl rfl ?_;refine OV.ld lo55 hy3 rfl rfl rfl rfl rfl ?_;refine OV.idx it55 (k:=0) h0 rfl rfl rfl rfl rfl ?_;refine OV.ld lo64 hx3 rfl rfl rfl rfl rfl ?_;refine OV.len Go.Num.u64 rfl rfl rfl rfl ?_;refine OV.neq (p:=(n:Int)) (q:=(n:Int)) (b:=false) (by simp) rfl rfl rfl rfl rfl ?_;refine OV.done ?_;obtain⟨w3,hw3⟩:∃W,w2.drew=W:=⟨_,rfl⟩;simp only [zbo,Go.Act.put,ztN,ztO,ztP];rw [hw3];rw [hw3]at HB3 HB3';clear hw3 hB3 hy3 hb3 hx3;have h16:Below w3.heap.size w3 w3:=Below.refl _ _;have hy4:=(HB3.out.cell (World.block_lt_of_cell? _ _ HY.out)).trans HY.out;have HY4:=zHi hy4;clear hy4 h16;have hmf:∀(fn:Fn) (first cap:Array Value) (w:World),(Instr.makeFunc fn first cap).run Tryz.prog w = .ok (.func fn first cap) w:=fun _ _ _ _=>rfl
 gi_wp2_with (gi_at_call 66;refine stop ?_)
 unfold Stop;refine(zl2 w3 98 #[.pointer (some ⟨g1,0,none⟩)] (fun v' w'=>zao w' v' D) (ec 98 _ Tryz.func98 rfl) (fun v W W' h hf=>zao.kept h (fun b cs e fz hb hc=>hf.2 b cs e fz hb (fun q=>by rcases q with rfl|rfl <;> cases hc))) (fun W hW => ?_)).mono ?_
 ·have hbW:=HB3'.out.trans (hW.mono HB3'.out.size);refine(zpg W g1 n (.slice (some a) n c) A ((hW.cell (World.block_lt_of_cell? _ _ HY4.out)).trans HY4.out) (zah.below HM.out hbW (zaF.below hbW)) h0 h9 (HT.out.below hbW) HG.out HK.out).mono ?_;rintro e w' ⟨v',rfl,h1,h2⟩;rw [HD.out]at h1;obtain⟨o1,k1,c1,o2,k2,c2,e⟩:=h1.form;exact⟨v',rfl,⟨⟨_,_,_,_,_,_,_,e⟩,h1⟩,h2⟩
 rintro e w4 ⟨v4,rfl,hr4,hB4⟩;obtain⟨o4,k4,c4,o5,k5,c5,rfl⟩:=hr4.form;obtain⟨sb,hsb⟩:∃sb,decide (D.num<0)=sb:=⟨_,rfl⟩;rw [hsb]at hr4;rw [hsb];have HR4:=zHi hr4;have hbb:=HB3'.out.trans (hB4.mono HB3'.out.size);have HBB:=zHi hbb;have hb14:=HB3.out.trans (hB4.mono HB3.out.size);have ha3:=HA.out.below (B:=W1.heap.size) HE.out.lt hb14;have HE4:=zHi (HE.out.below hb14 HE.out.lt);have HA3:=zHi ha3;have t0:=(ha3 0 (by omega)).1;have t1:=(ha3 1 (by omega)).1;have t2:=(ha3 2 (by omega)).1;have s0:=(ha3 0 (by omega)).2;have s1:=(ha3 1 (by omega)).2;have s2:=(ha3 2 (by omega)).2;clear hr4 hB4 hbb hb14 ha3 hsb;gi_wp2;obtain⟨q1,q2⟩:=zqW (a:=.bool sb) (b:=.slice o4 k4 c4) (c:=.slice o5 k5 c5) HA3.out HBB.out (by have:=HG1.out;omega);refine⟨rfl,.tuple #[.agg #[.bool sb,.slice o4 k4 c4,.slice o5 k5 c5],.int .i64 0],?_,_,rfl,?_,q1⟩
 ·have e1:=l25 (g1+1) [.bool sb,.slice o4 k4 c4,.slice o5 k5 c5] _ rfl q2;simp only [Instr.loadAt,Instr.sureAddr,Sem.run_bind,Sem.run_pure,Result.andThen_ok]at e1;simp [results,asAddr,e1]
 ·exact((HR4.out.setElem (i:=0) (u:=.bool sb) HE4.out (by decide)).setElem (i:=1) (u:=.slice o4 k4 c4) (HE4.out.setCell _ _) (by decide)).setElem (i:=2) (u:=.slice o5 k5 c5) ((HE4.out.setCell _ _).setCell _ _) (by decide)
theorem zlJ(w:World)(v:Value)(cs:List Nat)(x:Nat)(h:zah w 3 1 II v cs)(h9:cs.length≤1000) :
  CallsIn Fence.wide 0 Tryz.prog 122 #[v,.int .i64 (x:Int)] w fun e w'=>∃r:Int,e = .returned (.int .i64 r)∧(0≤r↔x∈cs)∧w'=w:=by
 obtain⟨o,c,rfl,_⟩:=zah.form h;have HR:=zHi h;obtain⟨n,hn⟩:∃n,cs.length=n:=⟨_,rfl⟩;have HN:=zHi hn;rw [hn]at HR h9;rw [hn];clear h hn;refine callsIn_of_wp Tryz.func122 rfl trivial ?_ rfl;simp only [Tryz.ntmps122,ztE,ztF,ztG,Nat.reduceAdd,Nat.reduceSub,ztH,ztI,ztJ,ztK,ztL,ztM];gi_wp2;gi_loopw [8] (fun x8 wr=>∃i:Nat,x8 = .int .i64 (i:Int)∧i≤n∧wr=w∧Hid (∀j,j<i→cs[j]? ≠ some x)) (fun x _=>n-(intOf x).toNat)
 case atStart=>exact⟨0,rfl,by omega,rfl,zHi (fun j hj=>absurd hj (Nat.not_lt_zero _))⟩
 case round=>
  obtain⟨i,rfl,hi,rfl,HS⟩:=hrel;by_cases hin:i<n
  ·obtain⟨q,hq⟩:∃q,cs[i]? = some q:=⟨_,List.getElem?_eq_getElem (by rw [HN.out];exact hin)⟩;obtain⟨a,rfl⟩:∃a,o=some a:=by
    rcases HR.out with⟨h0,_⟩|⟨a,cap,xs,e,_⟩
    ·rw [h0]at hq;simp at hq
    ·injection e with e _ _;exact⟨a,e⟩
   obtain⟨_,row,hrl,hcell,hII⟩:=zah.at' HR.out hq;have hII:row = [.int .i64 (q:Int)]:=hII;subst hII;have x0:=hcell 0 _ rfl;rw [Addr.add_add,Nat.add_zero,Nat.mul_one]at x0;have HQ:=zHi hq;clear hcell hq hrl;by_cases hxq:x=q
   ·have hd:((x:Int) == (q:Int))=true:=by rw [hxq];exact beq_self_eq_true _
    have hd':decide ((x:Int)=(q:Int))=true:=decide_eq_true (by rw [hxq]);gi_wp2;all_goals (first|go_returns|go_ret|go_end0)
    exact⟨_,rfl,⟨fun _=>List.mem_of_getElem? (by rw [HQ.out,hxq]),fun _=>by omega⟩,by trivial⟩
   ·have hd:((x:Int) == (q:Int))=false:=by rw [beq_eq_false_iff_ne];omega
    have hd':decide ((x:Int)=(q:Int))=false:=decide_eq_false (by omega);gi_wp2;exact⟨⟨i+1,by go_num,by omega,by trivial,zHi (fun j hj=>by
     rcases Nat.lt_or_ge j i with h|h
     ·exact HS.out j h
     ·have:j=i:=by omega
      rw [this,HQ.out];exact fun e=>hxq (Option.some.inj e).symm)⟩,by simp only [intOf];omega⟩
  ·have hin2:i=n:=by omega
   have hno:Hid (x∉cs):=zHi (fun hm=>by
    obtain⟨j,hj,e⟩:=List.getElem_of_mem hm;exact HS.out j (by rw [hin2,←HN.out];exact hj) (by rw [List.getElem?_eq_getElem hj,e]))
   gi_wp2;all_goals (first|go_returns|go_ret|go_end0)
   exact⟨_,rfl,⟨fun h=>by omega,fun h=>absurd h hno.out⟩,rfl⟩
theorem ziD(w:World)(v:Value)(cs:List Nat)(x:Nat)(h:zah w 3 1 II v cs)(h9:cs.length≤1000) :
  CallsIn Fence.wide 0 Tryz.prog 82 #[v,.int .i64 (x:Int)] w fun e w'=>e = .returned (.bool (decide (x∈cs)))∧w'=w:=by
 obtain⟨o,c,rfl,_⟩:=zah.form h;have HR:=zHi h;clear h;refine callsIn_of_wp Tryz.func82 rfl trivial ?_ rfl;simp only [Tryz.ntmps82,ztE,ztF,ztG,Nat.reduceAdd,Nat.reduceSub,ztH,ztI,ztJ,ztK,ztL,ztM];gi_wp2_with (gi_at_call 122;refine stop ?_)
 unfold Stop;refine(zlJ w _ cs x HR.out h9).mono ?_;rintro e w2 ⟨r,rfl,hr,rfl⟩;have hd:decide (r≥0)=decide (x∈cs):=decide_eq_decide.2 hr;gi_wp2;all_goals (first|go_returns|go_ret|go_end0)
 exact⟨rfl,rfl⟩
end Go.Num
namespace Go.Num
structure Fine(m N columns:Nat)(A:Nat→Nat→Rat):Prop where
 run:∀c,c≤columns→Good m N (pRun m A c).P
 unit:Good m N (zcl (pRun m A columns).P (zay m A columns))
 piv:∀(i c:Nat),(zay m A columns)[i]? = some c→(pRun m A columns).P i c≠0
structure Ends(m N columns:Nat)(g0:Nat→Rat)(P0:Nat→Nat→Rat)(A0:Nat→Nat→Int):Prop where
 k:(rRun m A0 columns).k=(pRun m P0 columns).k
 last:(rRun m A0 columns).last≠0
 piv:∀(i c:Nat),(zay m P0 columns)[i]? = some c→i<m∧(rRun m A0 columns).A i c=(rRun m A0 columns).last
 unit:∀(i c:Nat),(zay m P0 columns)[i]? = some c→∀j,j<N→(pRun m P0 columns).P i j/(pRun m P0 columns).P i c=((rRun m A0 columns).A i j:Rat)/((rRun m A0 columns).last:Rat)
 zero:∀i,(pRun m P0 columns).k≤i→i<m→∀j,j<N→((pRun m P0 columns).P i j=0↔(rRun m A0 columns).A i j=0)
 det:(pRun m P0 columns).k=m→zca (zbc m P0 columns)=pm (rRun m A0 columns).turns*zcQ g0 m*((rRun m A0 columns).last:Rat)
theorem zhh{X Y L:Nat}{q:Rat}(h:RatB X Y q)(hx:X<B^L)(hy:Y<B^L):zar q L:=by
 have:=h.size;exact⟨Nat.lt_of_le_of_lt this.1 hx,Nat.lt_of_le_of_lt this.2 hy⟩
section
variable {m N X F columns:Nat} {g0:Nat→Rat} {U0 P0:Nat→Nat→Rat} {A0:Nat→Nat→Int}
theorem zmb.at'{c:Nat}{s:PS}{t:RS}{cs:List Nat}{ps:List Rat}{U:Nat→Nat→Rat}{cf:Nat→Nat}{g:Nat→Rat}(h:zmb N m X F g0 c s t cs ps U cf g){i x:Nat}(hi:cs[i]? = some x):i<s.k∧cf i=x:=by
 have h1:i<s.k:=by rw [←h.csl];exact(List.getElem?_eq_some_iff.1 hi).1
 have:=h.col i h1;rw [hi]at this;exact⟨h1,(Option.some.inj this).symm⟩
theorem zm9(hA:∀i,i<m→∀j,j<N→(A0 i j:Rat)=U0 i j)(hX:∀i,i<m→∀j,j<N→(A0 i j).natAbs≤X)(hg:∀i,i<m→g0 i≠0)(hgF:∀i,i<m→RatB 1 F (g0 i))
  (hP:∀i,i<m→∀j,j<N→P0 i j=g0 i*U0 i j) (hcN:columns≤N):Ends m N columns g0 P0 A0:=by
 obtain⟨U,cf,g,h⟩:=zmT hA hX hg hgF hP columns hcN;have hk:=h.E.hk;have hd:zaJ U cf (pRun m P0 columns).k≠0:=zd2 h.E.piv;have hl0:(rRun m A0 columns).last≠0:=by
  intro e;have:=h.R.last;rw [e]at this;exact hd this.symm
 refine⟨h.k,hl0,fun i c hi => ?_,fun i c hi j hj => ?_,fun i h1 h2 j hj => ?_,fun e => ?_⟩
 ·obtain⟨h1,h2⟩:=h.at' hi;refine⟨by omega,?_⟩;have hcN':c<N:=by rw [←h2];exact h.E.lt i h1
  rw [←intCast_inj,h.R.held i h1 c hcN',h.R.last,←h2];have:=h.E.piv i h1;grind
 ·obtain⟨h1,h2⟩:=h.at' hi;have hcN':c<N:=by rw [←h2];exact h.E.lt i h1
  have him:i<m:=by omega
  rw [h.P.row i him j hj,h.P.row i him c hcN',h.R.held i h1 j hj,h.R.last,←h2];have:=h.E.piv i h1;have:=h.P.ne i him;grind
 ·exact(zdq.zero h.P h2 hj).trans (zdu.zero h.E h.R h1 h2 hj).symm
 ·rw [h.prod,e,h.gs,h.R.last,e]
theorem zsS(hA:∀i,i<m→∀j,j<N→(A0 i j:Rat)=U0 i j)(hX:∀i,i<m→∀j,j<N→(A0 i j).natAbs≤X)(hg:∀i,i<m→g0 i≠0)(hgF:∀i,i<m→RatB 1 F (g0 i))
  (hP:∀i,i<m→∀j,j<N→P0 i j=g0 i*U0 i j) (hcN:columns≤N) (hNX:1≤N*X) (hF:1≤F) (hb:F*((N*X)^m*(N*X)^m)<B^700):Fine m N columns P0:=by
 have h1:1≤(N*X)^m:=Nat.one_le_pow _ _ hNX;have hb1:(N*X)^m*(N*X)^m<B^700:=Nat.lt_of_le_of_lt (Nat.le_mul_of_pos_left _ hF) hb;have hb2:(N*X)^m<B^700:=Nat.lt_of_le_of_lt (Nat.le_mul_of_pos_left _ h1) hb1;have hrun:∀c,c≤columns→Good m N (pRun m P0 c).P:=fun c hc i j hi hj=>by
  obtain⟨U,cf,g,h⟩:=zmT hA hX hg hgF hP c (by omega);exact zhh (zdq.bound h.E h.P hNX hF h.g1 hi hj) hb1 hb
 obtain⟨U,cf,g,h⟩:=zmT hA hX hg hgF hP columns hcN;have hE:=zm9 hA hX hg hgF hP hcN;have hbd:=zdu.bound h.E h.R hNX;refine⟨hrun,fun i j hi hj => ?_,fun i c hi => ?_⟩
 ·unfold zcl
  cases e:(zay m P0 columns)[i]? with
  | none=>exact hrun columns (Nat.le_refl _) i j hi hj
  | some c=>
   show zar ((pRun m P0 columns).P i j/(pRun m P0 columns).P i c) 700
   rw [hE.unit i c e j hj];exact zhh ⟨_,_,hE.last,rfl,hbd.2 i hi j hj,hbd.1⟩ hb2 hb2
 ·obtain⟨h1,h2⟩:=h.at' hi;have:=h.E.piv i h1;rw [h2]at this;have him:i<m:=by have:=h.E.hk;omega
  have hcN':c<N:=by rw [←h2];exact h.E.lt i h1
  exact fun q=>this ((h.P.zero him hcN').1 q)
theorem ztm(hA:∀i,i<m→∀j,j<N→(A0 i j:Rat)=U0 i j)(hX:∀i,i<m→∀j,j<N→(A0 i j).natAbs≤X)(hg:∀i,i<m→g0 i≠0)(hgF:∀i,i<m→RatB 1 F (g0 i))
  (hP:∀i,i<m→∀j,j<N→P0 i j=g0 i*U0 i j) (hcN:columns≤N) (hNX:1≤N*X) (hF:1≤F) (hb:F^m*(N*X)^m<B^700) (hk:(pRun m P0 columns).k=m):zar (zca (zbc m P0 columns)) 700:=by
 obtain⟨U,cf,g,h⟩:=zmT hA hX hg hgF hP columns hcN;have hE:=zm9 hA hX hg hgF hP hcN;have hbd:=(zdu.bound h.E h.R hNX).1;have hF1:1≤F^m:=Nat.one_le_pow _ _ hF;have hgm:∀l,l≤m→RatB 1 (F^l) (zcQ g l):=by
  intro l;induction l with
  | zero=>intro _;exact⟨1,1,by decide,by show(1:Rat)=((1:Int):Rat)/((1:Int):Rat);grind,Nat.le_refl _,Nat.le_refl _⟩
  | succ l ih=>
   intro hl;have:=(ih (by omega)).mul (h.g1 l (by omega));rw [Nat.one_mul,←Nat.pow_succ]at this;exact this
 rw [h.prod,hk,←show((rRun m A0 columns).last:Rat)=zaJ U cf m by rw [h.R.last,hk]];have h2:RatB ((N*X)^m) 1 ((rRun m A0 columns).last:Rat):=⟨(rRun m A0 columns).last,1,by decide,by show _=_/((1:Int):Rat);grind,hbd,Nat.le_refl _⟩;have h3:=(hgm m (Nat.le_refl _)).mul h2;rw [Nat.one_mul,Nat.mul_one]at h3;refine zhh h3 (Nat.lt_of_le_of_lt (Nat.le_mul_of_pos_left _ hF1) hb) (Nat.lt_of_le_of_lt (Nat.le_mul_of_pos_right _ (Nat.one_le_pow _ _ hNX)) hb)
end
end Go.Num
namespace Go.Num
open Go.Eng Go.Shelf Go.RowKit Go.Sort Go.Proofs Go.Proofs.YtoamcgjbelhnkaaGreatDoor
attribute [local go_sem] Oper.semAt_some
theorem zav.at'{w:World}{base m N:Nat}{A:Nat→Nat→Rat}{v:Value}{rvs:List Value}(h:zav w base 64 25 3 IR v rvs (tab m N A))(h0:0<m):∃g c,v = .slice (some ⟨g,0,none⟩) m c∧base≤g:=by
 have hl:rvs.length=m:=by rw [←h.len,zaq]
 obtain⟨g',c',e,h1,_⟩:=h.top.own (by omega);exact⟨g',c',by rw [e,hl],h1⟩
theorem zmE(w:World)(gb m N:Nat)(v:Value)(A:Nat→Nat→Rat)(hb:w.cell? ⟨gb,0,none⟩=some v)(hm:MatR w v (tab m N A))(h0:0<m)(hN:0<N)(h9:m≤1000∧N≤1000)(hT:zaU w)(hF:Fine m N N A) :
  CallsIn Fence.wide 0 Tryz.prog 101 #[.pointer (some ⟨gb,0,none⟩)] w fun e w'=>e = .returned (.int .i64 ((pRun m A N).k:Int))∧Below w.heap.size w w':=by
 obtain⟨a,c,a0,c0,rfl,hx⟩:=zfu hm h0 hN;have HM:=zHi hm;have HT:=zHi hT;have HF:=zHi hF;have HB:=zHi hb;have HX:=zHi hx;clear hm hT hF hb hx;refine callsIn_of_wp Tryz.func101 rfl trivial ?_ rfl;simp only [Tryz.ntmps101,ztE,ztF,ztG,Nat.reduceAdd,Nat.reduceSub,ztH,ztI,ztJ,ztK,ztL,ztM];gi_wp2;have hB3:=zab w;have hy3:=(hB3.cell (World.block_lt_of_cell? _ _ HB.out)).trans HB.out;have hx3:=(hB3.cell (World.block_lt_of_cell? _ _ HX.out)).trans HX.out;refine zbf (ro:=none) [1,6] [0,2,3,4,5,1,6,7,8] [0,1,0,4,12,28,63,127,255] zaz rfl 10 rfl (by kernel_rfl) (by kernel_rfl) ?_;obtain⟨W5,hW5⟩:∃W,w.drew=W:=⟨_,rfl⟩;rw [hW5]at hB3 hy3 hx3;rw [hW5];clear hW5;refine OV.ld lo55 hy3 rfl rfl rfl rfl rfl ?_;refine OV.ld lo55 hy3 rfl rfl rfl rfl rfl ?_;refine OV.idx it55 (k:=0) h0 rfl rfl rfl rfl rfl ?_;refine OV.ld lo64 hx3 rfl rfl rfl rfl rfl ?_;refine OV.len Go.Num.u64 rfl rfl rfl rfl ?_;refine OV.call (R:=fun v' w'=>∃rvs,zav w' W5.heap.size 64 25 3 IR v' rvs (tab m N A)) [.slice (some a) m c,.slice none 0 0] Tryz.func80 rfl zai rfl rfl rfl rfl rfl ((zd9 W5 _ _ (tab m N A) [] (zah.below HM.out hB3 (zaF.below hB3)) (.inl ⟨rfl,none,0,rfl⟩) (by rw [zaq];exact h0) (by rw [zaq];omega) (fun l hl=>by rw [zgm hl];omega) (by simp)).mono (by
  rintro e w' ⟨v',rvs,h1,h2,h3⟩;rw [zff]at h2;exact⟨v',h1,⟨rvs,h2⟩,h3⟩)) fun v6 w6 hm6 hB6 => ?_
 obtain⟨gm,cm,rfl,hgm1⟩:∃g c,v6 = .slice (some ⟨g,0,none⟩) m c∧W5.heap.size≤g:=by
  obtain⟨rvs,hm⟩:=hm6;exact hm.at' h0
 have hb06:=hB3.trans (hB6.mono hB3.size);refine OV.callL (R:=fun v' w'=>(∃b,OwnR w' b 3 1 II v' (zay m A N))∧Below W5.heap.size w6 w') [.slice (some ⟨gm,0,none⟩) m cm,.int .i64 (N:Int)] Tryz.func81 rfl zai rfl rfl rfl rfl rfl rfl ((zdY w6 W5.heap.size gm cm m N N A h0 h9.1 hN h9.2 (Nat.le_refl _) (by
  have:=HT.out.two;have:=hB3.size;omega) hm6 (HT.out.below hb06) HF.out.run HF.out.unit HF.out.piv).mono (by
  rintro e w' ⟨v',h1,h2,h3,h4⟩;exact⟨v',h1,⟨⟨_,h2⟩,h4⟩,trivial⟩)) fun v7 w7 h7 => ?_
 obtain⟨⟨b7,h7⟩,hB7⟩:=h7;obtain⟨o7,c7,rfl⟩:=h7.form;have hb07:Below w.heap.size w w7:=hB3.trans ((hB6.trans hB7).mono hB3.size);refine OV.len u29' rfl rfl rfl rfl ?_;refine OV.asg (v:=.int .i64 ((zay m A N).length:Int)) rfl rfl rfl rfl ?_;refine OV.done ?_;simp only [zbo,Go.Act.put,ztN,ztO,ztP];have HBB:=zHi hb07;clear hb07 hB7 h7 hb06 hm6 hgm1 hB6 hB3 hy3 hx3;gi_wp2;all_goals (first|go_returns|go_ret|go_end0)
 exact⟨by rw [zdH];rfl,HBB.out⟩
theorem ze2(w:World)(v:Value)(m N:Nat)(A:Nat→Nat→Rat)(hm:MatR w v (tab m N A))(h0:0<m)(hN:0<N)(h9:m≤1000∧N≤1000)(hc:zb8 (tab m N A)=0)(hq:ziS m N A)(hT:zaU w)(hF:Fine m N N A) :
  CallsIn Fence.wide 0 Tryz.prog 51 #[v] w fun e w'=>e = .returned (.tuple #[.int .i64 ((pRun m A N).k:Int),.int .i64 0])∧Below w.heap.size w w':=by
 obtain⟨a,c,a0,c0,rfl,hx⟩:=zfu hm h0 hN;have HM:=zHi hm;have HQ:=zHi (zhk hq);have HT:=zHi hT;have HC:=zHi hc;have HF:=zHi hF;clear hm hq hT hc hx hF;refine callsIn_of_wp Tryz.func51 rfl trivial ?_ rfl;simp only [Tryz.ntmps51,ztE,ztF,ztG,Nat.reduceAdd,Nat.reduceSub,ztH,ztI,ztJ,ztK,ztL,ztM];obtain⟨g1,hg1⟩:∃g,w.heap.size=g:=⟨_,rfl⟩;obtain⟨W1,hW1⟩:∃W,w.alloc (.cells #[.slice (some a) m c] 55)=W:=⟨_,rfl⟩;have hb0:Below w.heap.size w W1:=by rw [←hW1];exact zaa _ _
 have y0:W1.cell? ⟨g1,0,none⟩=some (.slice (some a) m c):=by
  rw [←hW1,←hg1];exact(zaP w [.slice (some a) m c] 55).2 0 _ rfl
 have HB0:=zHi hb0;have HY:=zHi y0;clear hb0;gi_wp2_with (gi_at_call 49;refine stop ?_)
 unfold Stop;refine(zea W1 _ _ (zah.below HM.out HB0.out (zaF.below HB0.out)) HQ.out (HT.out.below HB0.out)).mono ?_;rintro e w2 ⟨rfl,hB2⟩;rw [HC.out];have HB2:=zHi (HB0.out.trans (hB2.mono HB0.out.size));have HY2:=zHi ((hB2.cell (World.block_lt_of_cell? _ _ y0)).trans y0);clear y0 hB2 hW1 hg1;have hmf:∀(fn:Fn) (first cap:Array Value) (w:World),(Instr.makeFunc fn first cap).run Tryz.prog w = .ok (.func fn first cap) w:=fun _ _ _ _=>rfl
 gi_wp2_with (gi_at_call 100;refine stop ?_)
 unfold Stop;refine(zkO w2 101 #[.pointer (some ⟨g1,0,none⟩)] (fun v' _=>v' = .int .i64 ((pRun m A N).k:Int)) (ec 101 _ Tryz.func101 rfl) (fun v W W' h hf=>h) (fun W hW => ?_)).mono ?_
 ·have hbW:=HB2.out.trans (hW.mono HB2.out.size);refine(zmE W g1 m N (.slice (some a) m c) A ((hW.cell (World.block_lt_of_cell? _ _ HY2.out)).trans HY2.out) (zah.below HM.out hbW (zaF.below hbW)) h0 hN h9 (HT.out.below hbW) HF.out).mono ?_;rintro e w' ⟨rfl,h2⟩;exact⟨_,rfl,⟨⟨_,rfl⟩,rfl⟩,h2⟩
 rintro e w4 ⟨v4,rfl,rfl,hB4⟩;have HBB:=zHi (HB2.out.trans (hB4.mono HB2.out.size));clear hB4;gi_wp2;all_goals (first|go_returns|go_ret|go_end0)
 exact⟨rfl,HBB.out⟩
end Go.Num
namespace Go.Num
open Go.Eng Go.Shelf Go.RowKit Go.Sort Go.Proofs Go.Proofs.YtoamcgjbelhnkaaGreatDoor
theorem zmq{F:Fence}{n:Nat}{P:Program}{ops:Array Oper}{rest:List Oper}{x y:Operand}{ty:TypeId}{ps:String}{af:Array Edge}{a:CAct}{Q:Exit→CAct→World→Prop}{w:World}
  (h:Stop (wpListIn F n P ops Q ({op:=.store 25 x y,dst:=none,type:=ty,pos:=ps,after:=af,guard:=none} :: rest) a w)):wpListIn F n P ops Q ({op:=.store 25 x y,dst:=none,type:=ty,pos:=ps,after:=af,guard:=none} :: rest) a w:=h
theorem zdr{F:Fence}{n:Nat}{P:Program}{ops:Array Oper}{rest:List Oper}{t:TypeId}{x y:Operand}{ty:TypeId}{ps:String}{af:Array Edge}{a:CAct}{Q:Exit→CAct→World→Prop}{w:World}(w':World){p v:Value}(hx:a.eval x=p)(hy:a.eval y=v)(hrun:(Instr.storeAt t p v).run P w = .ok () w')
  (h:wpListIn F n P ops Q rest a w'):wpListIn F n P ops Q ({op:=.store t x y,dst:=none,type:=ty,pos:=ps,after:=af,guard:=none} :: rest) a w:=by
 refine wpListIn_plain rfl fun K hK => ?_
 unfold Oper.wpIn;refine⟨by simp [Oper.about],?_⟩;rw [Oper.semAt_plain F _ _ (by intro c hc';cases hc')];simp [execOp,hx,hy,hrun,Result.andThen]
 exact hK _ _ h
theorem ztw(x y z:Value)(m:Nat):(madeCells #[x,y,z] (m*3)).toList=(List.replicate m [x,y,z]).flatten:=by
 refine List.ext_getElem? fun i => ?_
 have hlen:(List.replicate m [x,y,z]).flatten.length=m*3:=by
  induction m with
  | zero=>rfl
  | succ m ih=>rw [List.replicate_succ,List.flatten_cons,List.length_append,ih];show 3+m*3=(m+1)*3;omega
 rcases Nat.lt_or_ge i (m*3)with hi|hi
 ·have h1:(List.replicate m [x,y,z])[i/3]? = some [x,y,z]:=by
   rw [List.getElem?_replicate,if_pos (by omega)]
  have hm:i%3 < [x,y,z].length:=Nat.mod_lt _ (by decide);have h2:=zb7 (sz:=3) (xs:=List.replicate m [x,y,z]) (fun r hr=>by rw [List.eq_of_mem_replicate hr];rfl) h1 (List.getElem?_eq_getElem hm);rw [Nat.div_add_mod' i 3]at h2;rw [h2];have h3:i%3=0∨i%3=1∨i%3=2:=by omega
  simp only [madeCells,Array.toList_map,Array.toList_range,List.getElem?_map,List.getElem?_range hi,Option.map_some];rcases h3 with h3|h3|h3 <;> simp [h3]
 ·rw [List.getElem?_eq_none (by simp [size_madeCells];omega),List.getElem?_eq_none (by rw [hlen];exact hi)]
theorem OwnR.made{w:World}{base g m:Nat}(h:w.ownsRow base 25 3 (.slice (some ⟨g,0,none⟩) m m) m (madeCells #[.bool false,.slice none 0 0,.slice none 0 0] (m*3)).toList):OwnR w base 25 3 IR (.slice (some ⟨g,0,none⟩) m m) (rowF (fun _=>0) m):=by
 refine⟨List.replicate m [.bool false,.slice none 0 0,.slice none 0 0],?_,by rw [List.length_replicate,zan],fun r hr=>by rw [List.eq_of_mem_replicate hr];rfl,fun i r b hr hb => ?_⟩
 ·rw [zan,←ztw];exact h
 ·have h1:r = [.bool false,.slice none 0 0,.slice none 0 0]:=by
   rw [List.getElem?_replicate]at hr;split at hr
   ·exact(Option.some.inj hr).symm
   ·cases hr
  have h2:b=0:=by
   have hi:i<m:=by
    have:=(List.getElem?_eq_some_iff.1 hb).1;rwa [zan]at this
   rw [zdV hi]at hb;exact(Option.some.inj hb).symm
  rw [h1,h2];exact zaL w
def kvec(P:Nat→Nat→Rat)(cs:List Nat)(c:Nat):Nat→Nat→Rat
 | 0=>fun j=>if j=c then 1 else 0
 | i+1=>match cs[i]? with|some p=>fun j=>if j=p then -(P i c)else kvec P cs c i j|none=>kvec P cs c i
def kern(P:Nat→Nat→Rat)(cs:List Nat)(N c:Nat):List (List Rat):=((List.range c).filter (fun x=>decide (x∉cs))).map fun x=>rowF (kvec P cs x cs.length) N
theorem zqt{P:Nat→Nat→Rat}{cs:List Nat}{N c:Nat}(h:c∈cs):kern P cs N (c+1)=kern P cs N c:=by
 unfold kern;rw [List.range_succ,List.filter_append];simp [h]
theorem zn8{P:Nat→Nat→Rat}{cs:List Nat}{N c:Nat}(h:c∉cs):kern P cs N (c+1)=kern P cs N c ++ [rowF (kvec P cs c cs.length) N]:=by
 unfold kern;rw [List.range_succ,List.filter_append];simp [h]
theorem zhl{P:Nat→Nat→Rat}{cs:List Nat}{N:Nat}:∀c,(kern P cs N c).length≤c
 | 0=>Nat.le_refl _
 | c+1=>by
  by_cases h:c∈cs
  ·rw [zqt h];exact Nat.le_succ_of_le (zhl c)
  ·rw [zn8 h,List.length_append];exact Nat.succ_le_succ (zhl c)
theorem zqs{P:Nat→Nat→Rat}{cs:List Nat}{c i p:Nat}(h:cs[i]? = some p):kvec P cs c (i+1)=fun j=>if j=p then -(P i c)else kvec P cs c i j:=by
 show(match cs[i]? with|some p=>fun j=>if j=p then -(P i c)else kvec P cs c i j|none=>kvec P cs c i)=_
 rw [h]
theorem OwnR.put{w:World}{base g cap N i:Nat}{a:Nat→Rat}{row:List Value}{x:Rat}(h:OwnR w base 25 3 IR (.slice (some ⟨g,0,none⟩) N cap) (rowF a N))(hi:i<N)(hrow:row.length=3)(hx:IR x row w) :
  OwnR (w.setCells g (i*3) row) base 25 3 IR (.slice (some ⟨g,0,none⟩) N cap) (rowF (fun j=>if j=i then x else a j) N)∧w.there g (i*3) 3∧base≤g∧Below g w (w.setCells g (i*3) row):=by
 have hl:(rowF a N).length=N:=zan a N;obtain⟨g',c',e,hb,_,cur,hcur⟩:=h.own (by rw [hl];omega);injection e with e;injection e with e;injection e with e;subst e;have hE:Elem w g 25:=⟨cur,_,hcur⟩;have hK:=(zal g row (i*3) w).kept hE rfl;have h':OwnR w base 25 3 IR (.slice (some ⟨g,0,none⟩) (rowF a N).length cap) (rowF a N):=by rw [hl];exact h
 rw [←hl]at hi;have:=OwnR.store (I:=IR) h' (by decide) (i:=i) hi (row:=row) (b:=x) hrow (fun b r q=>zao.kept (show zao w (.agg r.toArray) b from q) hK) (show IR x row _ from zao.kept hx hK);rw [hl,znJ]at this;exact⟨this.1,this.2,hb,zbU (Nat.le_refl _) _ _ _ (Below.refl _ _)⟩
theorem zkc{w:World}{b o:Nat}{x y z:Value}(ht:w.there b o 3)(h1:#[x,y,z].all (·.oneCell')=true):(Instr.storeAt 25 (.pointer (some ⟨b,o,none⟩)) (.agg #[x,y,z])).run Tryz.prog w = .ok () (w.setCells b o [x,y,z]):=by
 have:=znB ht h1;rwa [Addr.add_lit,Nat.zero_add]at this
theorem zja{w w':World}(h:w.grownBy w' none):Below w.heap.size w w':=⟨h.os,h.tape,h.output,h.size,fun k hk=>h.block k hk (by simp)⟩
theorem zav.mat{w:World}{base:Nat}{v:Value}{rvs:List Value}{rows:List (List Rat)}(h:zav w base 64 25 3 IR v rvs rows)(h9:rows.length≤1000000000)(h8:∀l∈rows,l.length≤1000000000):MatR w v rows:=by
 have hl:=h.len;rcases h.top.row (by omega)with⟨e,o,c,e2⟩|⟨a,cap,xs,e,h2,h3,h4,h5,h6,h7,h10⟩
 ·refine .inl ⟨List.eq_nil_of_length_eq_zero (by rw [hl,e];rfl),o,c,e2⟩
 ·refine .inr ⟨a,cap,xs,by rw [e,hl],by omega,by omega,h4,by omega,h6,h7,fun i row b hr hb => ?_⟩;have hi:i<rvs.length:=by rw [←hl];exact(List.getElem?_eq_some_iff.1 hb).1
  have hu:rvs[i]? = some rvs[i]:=List.getElem?_eq_getElem hi;have hrow:row = [rvs[i]]:=h10 i row _ hr hu;exact⟨_,hrow,(h.row i _ b hu hb).row (h8 b (List.mem_of_getElem? hb))⟩
theorem zkE(w:World)(gb m N:Nat)(v:Value)(A:Nat→Nat→Rat)(hb:w.cell? ⟨gb,0,none⟩=some v)(hm:MatR w v (tab m N A))(h0:0<m)(hN:0<N)(h9:m≤1000∧N≤1000)(hT:zaU w)(hF:Fine m N N A) :
  CallsIn Fence.wide 0 Tryz.prog 79 #[.pointer (some ⟨gb,0,none⟩)] w fun e w'=>∃v',e = .returned v'∧MatR w' v' (kern (zcl (pRun m A N).P (zay m A N)) (zay m A N) N N)∧Below w.heap.size w w':=by
 obtain⟨a,c,a0,c0,rfl,hx⟩:=zfu hm h0 hN;have HM:=zHi hm;have HT:=zHi hT;have HF:=zHi hF;have HB:=zHi hb;have HX:=zHi hx;obtain⟨cs,hcs⟩:∃cs,zay m A N=cs:=⟨_,rfl⟩;obtain⟨P,hP⟩:∃P,zcl (pRun m A N).P cs=P:=⟨_,rfl⟩;rw [hcs,hP];have HP:=zHi hP;have HCS:=zHi hcs;clear hm hT hF hx hP hcs;refine callsIn_of_wp Tryz.func79 rfl trivial ?_ rfl;simp only [Tryz.ntmps79,ztE,ztF,ztG,Nat.reduceAdd,Nat.reduceSub,ztH,ztI,ztJ,ztK,ztL,ztM];gi_wp2_with (gi_at_call 80;refine stop ?_)
 unfold Stop;refine(zd9 w _ _ (tab m N A) [] HM.out (.inl ⟨rfl,none,0,rfl⟩) (by rw [zaq];exact h0) (by rw [zaq];omega) (fun l hl=>by rw [zgm hl];omega) (by simp)).mono ?_;rintro e w6 ⟨v6,rvs,rfl,hm6,hB6⟩;rw [zff]at hm6;obtain⟨gm,cm,rfl,hgm1⟩:=hm6.at' h0;have HM6:Hid (∃rvs,zav w6 w.heap.size 64 25 3 IR (.slice (some ⟨gm,0,none⟩) m cm) rvs (tab m N A)):=zHi ⟨rvs,hm6⟩;have HB6:=zHi hB6;have hb6:=(hB6.cell (World.block_lt_of_cell? _ _ hb)).trans hb;have hx6:=(hB6.cell (World.block_lt_of_cell? _ _ HX.out)).trans HX.out;rw [show a.add (0*1)=a by simp [Addr.add]]at hx6;clear hm6 hB6 hb;gi_wp2_with (gi_at_call 81;refine stop ?_)
 unfold Stop;refine(zdY w6 w.heap.size gm cm m N N A h0 h9.1 hN h9.2 (Nat.le_refl _) HT.out.two HM6.out (HT.out.below HB6.out) HF.out.run HF.out.unit HF.out.piv).mono ?_;rintro e w7 ⟨vc,rfl,hl7,⟨rvs7,hm7⟩,hB7⟩;rw [HCS.out,HP.out]at hm7;rw [HCS.out]at hl7;have hk9:cs.length≤m:=by rw [←HCS.out,zdH];exact(zdG m A N).1
 have HCLT:Hid (∀x∈cs,x<N):=zHi (by rw [←HCS.out];exact zko _ _ _);have hb07:=HB6.out.trans hB7;have HB07:=zHi hb07;have HM7:=zHi (hm7.mat (by rw [zaq];omega) (fun l hl=>by rw [zgm hl];omega));have HL7:=zHi (hl7.row (by omega));obtain⟨oc,cc,hvc⟩:=hl7.form;obtain⟨K,hK⟩:∃K,cs.length=K:=⟨_,rfl⟩;have HK:=zHi hK;rw [hK]at hvc hk9;have hb7:=(hb07.cell (World.block_lt_of_cell? _ _ HB.out)).trans HB.out;have hx7:=(hb07.cell (World.block_lt_of_cell? _ _ HX.out)).trans HX.out;rw [show a.add (0*1)=a by simp [Addr.add]]at hx7;have HB7:=zHi hb7;have HX7:=zHi hx7;subst hvc;clear hB7 hm7 hl7 hb07 hK hb6 hx6;gi_wp2;gi_loopw [4,21] (fun x4 x21 wr=>∃i:Nat,x21 = .int .i64 (i:Int)∧i≤N∧Hid (OwnR wr w7.heap.size 64 1 zaF x4 (kern P cs N i))∧Hid (Below w7.heap.size w7 wr)) (fun _ x _=>N-(intOf x).toNat)
 case atStart=>exact⟨0,rfl,by omega,OwnR.nil _ _ _ _ _,Below.refl _ _⟩
 case round=>
  obtain⟨i,rfl,hi,HO,HBr⟩:=hrel;clear hb7 hx7;by_cases hin:i<N
  ·gi_wp2_with (gi_at_call 82;refine stop ?_)
   unfold Stop;refine(ziD wr _ cs i (zah.below HL7.out HBr.out (fun _ _ q=>q)) (by rw [HK.out];omega)).mono ?_;rintro e w8 ⟨rfl,rfl⟩;by_cases hic:i∈cs
   ·have hd:decide (i∈cs)=true:=decide_eq_true hic;have HKI:Hid (kern P cs N (i+1)=kern P cs N i):=zHi (zqt hic);rw [hd];gi_wp2;exact⟨⟨i+1,by go_num,by omega,zHi (by rw [HKI.out];exact HO.out),HBr⟩,by simp only [intOf];omega⟩
   ·have hd:decide (i∈cs)=false:=decide_eq_false hic;have HKI:=zHi (zn8 (P:=P) (cs:=cs) (N:=N) hic);rw [hd];have hb8:=(HBr.out.cell (World.block_lt_of_cell? _ _ HB7.out)).trans HB7.out;have hx8:=(HBr.out.cell (World.block_lt_of_cell? _ _ HX7.out)).trans HX7.out;gi_wp2_with (gi_at_make;refine stop ?_)
    unfold Stop;refine zaQ _ rfl _ _ _ rfl w8.heap.size 25 Tryz.t25 _ 3 Go.Num.u64 i25' i25z i25s _ _ _ _ N rfl rfl rfl rfl (by rw [i25b];omega) (by unfold maxLen;omega) (Nat.le_refl _) ?_;intro w9 hr9 hg9;have hb89:=zja hg9;have ho9:=OwnR.made hr9;obtain⟨gx,hgx⟩:∃g,w8.heap.size=g:=⟨_,rfl⟩;rw [hgx]at ho9;have HGX:=zHi hgx;have HB89:=zHi hb89;have HO9:=zHi ho9;rw [hgx];clear hr9 hg9 hb89 ho9 hgx hb8 hx8;gi_wp2_with (first|(gi_at_call 20;refine stop ?_)|(with_reducible refine zmq ?_))
    unfold Stop;refine(zh4 w9 1 (by decide) (by decide)).mono ?_;rintro e w10 ⟨v10,rfl,hr10,hB10⟩;have ho10:=HO9.out.below hB10 (IR.below hB10);obtain⟨o1,k1,c1,o2,k2,c2,rfl⟩:=hr10.form;obtain⟨sg,hsg⟩:∃sg,decide ((((1:Int):Rat)).num<0)=sg:=⟨_,rfl⟩;rw [hsg]at hr10;rw [hsg];obtain⟨p1,p2,p3,p4⟩:=ho10.put (i:=i) (row:=[.bool sg,.slice o1 k1 c1,.slice o2 k2 c2]) hin rfl hr10;have hb811:Below w8.heap.size w8 (w10.setCells gx (i*3) [.bool sg,.slice o1 k1 c1,.slice o2 k2 c2]):=(HB89.out.trans (hB10.mono HB89.out.size)).trans (p4.mono (by rw [HGX.out];exact Nat.le_refl _));have HP2:=zHi p2;obtain⟨W11,hW11⟩:∃W,w10.setCells gx (i*3) [.bool sg,.slice o1 k1 c1,.slice o2 k2 c2]=W:=⟨_,rfl⟩;rw [hW11]at p1 hb811;have HO11:Hid (OwnR W11 gx 25 3 IR (.slice (some ⟨gx,0,none⟩) N N) (rowF (kvec P cs i 0) N)):=zHi p1;have HB811:=zHi hb811;clear hr10 hB10 ho10 p1 p2 p3 p4 hsg hb811;gi_wp2_with (with_reducible refine zmq ?_)
    unfold Stop;refine zdr _ rfl rfl (zkc HP2.out (by simp [Value.oneCell'])) ?_;rw [hW11];clear hW11 HP2;gi_wp2;gi_loopw [38] (fun x38 wi=>∃k:Nat,x38 = .int .i64 (k:Int)∧k≤K∧Hid (OwnR wi gx 25 3 IR (.slice (some ⟨gx,0,none⟩) N N) (rowF (kvec P cs i k) N))∧Hid (Below w8.heap.size w8 wi)) (fun x _=>K-(intOf x).toNat)
    case atStart=>exact⟨0,rfl,by omega,HO11,HB811⟩
    case round=>
     obtain⟨k,rfl,hk,HOx,HBx⟩:=hrel;clear HO11 HB811;have HB7x:=zHi (HBr.out.trans (HBx.out.mono HBr.out.size));by_cases hkK:k<K
     ·obtain⟨p,hp⟩:∃p,cs[k]? = some p:=⟨_,List.getElem?_eq_getElem (by rw [HK.out];exact hkK)⟩;have hpN:=HCLT.out p (List.mem_of_getElem? hp);have hlx:=zah.below HL7.out HB7x.out (fun _ _ q=>q);obtain⟨ac,rfl⟩:∃a,oc=some a:=by
       rcases HL7.out with⟨h0,_⟩|⟨a,cap,xs,e,_⟩
       ·rw [h0]at hp;simp at hp
       ·injection e with e _ _;exact⟨a,e⟩
      obtain⟨_,row,hrl,hcell,hII⟩:=zah.at' hlx hp;have hII:row = [.int .i64 (p:Int)]:=hII;subst hII;have x0:=hcell 0 _ rfl;rw [Addr.add_add,Nat.add_zero,Nat.mul_one]at x0;have hkm:k<m:=by omega
      have hmx:=zah.below HM7.out HB7x.out (zaF.below HB7x.out);obtain⟨_,row2,_,hcell2,u,rfl,hu⟩:=zah.at' hmx (zek (A:=P) hkm);have x1:=hcell2 0 _ rfl;rw [Addr.add_add,Nat.add_zero,Nat.mul_one,Addr.add_lit,Nat.zero_add]at x1;obtain⟨ar,cr,rfl⟩:=zah.some hu (by simpa using hN);rw [List.length_map,List.length_range]at x1 hu;have hpi:((List.range N).map (P k))[i]? = some (P k i):=by simp [hin]
      obtain⟨hal,sg3,o3,k3,c3,o4,k4,c4,z0,z1,z2,hra⟩:=zah.item hu hpi;have HRA:=zHi hra;have HPP:=zHi hp;clear hcell hcell2 hrl hu hlx hmx hp hra hpi;gi_wp2_with (gi_at_call 46;refine stop ?_)
      unfold Stop;refine(zh7 wr _ _ HRA.out).mono ?_;rintro e w12 ⟨v12,rfl,hr12,hB12⟩;have ho12:=HOx.out.below hB12 (IR.below hB12);obtain⟨o5,k5,c5,o6,k6,c6,rfl⟩:=hr12.form;obtain⟨sh,hsh⟩:∃sh,decide ((-(P k i)).num<0)=sh:=⟨_,rfl⟩;rw [hsh]at hr12;rw [hsh];obtain⟨p1,p2,p3,p4⟩:=ho12.put (i:=p) (row:=[.bool sh,.slice o5 k5 c5,.slice o6 k6 c6]) hpN rfl hr12;rw [←zqs HPP.out]at p1;have hb813:Below w8.heap.size w8 (w12.setCells gx (p*3) [.bool sh,.slice o5 k5 c5,.slice o6 k6 c6]):=(HBx.out.trans (hB12.mono HBx.out.size)).trans (p4.mono (by rw [HGX.out];exact Nat.le_refl _));have HP1:=zHi p1;have HP2:=zHi p2;have HB813:=zHi hb813;clear hr12 hB12 ho12 p1 p2 p3 p4 hsh hb813 x0 x1 z0 z1 z2 hal;gi_wp2_with (with_reducible refine zmq ?_)
      unfold Stop;refine zdr _ rfl rfl (zkc HP2.out (by simp [Value.oneCell'])) ?_;gi_wp2;exact⟨⟨k+1,by go_num,by omega,HP1,HB813⟩,by simp only [intOf];omega⟩
     ·have hkK2:k=K:=by omega
      subst hkK2;have ho:=HO.out.below HBx.out (zaF.below HBx.out);obtain⟨oo,co,hof⟩:=ho.form;obtain⟨nk,hnk⟩:∃nk,(kern P cs N i).length=nk:=⟨_,rfl⟩;have hnk9:nk≤i:=by rw [←hnk];exact zhl i
      have HNK:=zHi hnk;rw [hnk]at hof;subst hof;have HO2:=zHi ho;clear ho hnk;gi_wp2_with (gi_at_builtin;refine stop ?_)
      unfold Stop;have hrow:RowR wr (.slice (some ⟨gx,0,none⟩) N N) (rowF (kvec P cs i k) N):=HOx.out.row (by rw [zan];omega);refine zdi (ty:=64) (sz:=1) (bytes:=24) wr rfl _ _ rfl Go.Num.u55 i64i i64z i64s i64b rfl (by decide) (by decide) w7.heap.size (Nat.le_trans HBr.out.size HBx.out.size) (.slice oo nk co) _ rfl HO2.out (rowF (kvec P cs i k) N) [.slice (some ⟨gx,0,none⟩) N N] _ rfl rfl (by simp [Value.oneCell']) ⟨_,rfl,hrow⟩ (fun b r w1 w2 ht=>zaF.touch ht rfl (by decide) b r) (by rw [HNK.out];omega) ?_;intro v13 w13 HO13 HK13 HB13;have HB14:=zHi (HB13.out w7.heap.size w7 HB7x.out (Nat.le_refl _));have HO14:Hid (OwnR w13 w7.heap.size 64 1 zaF v13 (kern P cs N (i+1))):=zHi (by rw [HKI.out,HK.out];exact HO13.out);gi_wp2;exact⟨⟨i+1,by go_num,by omega,HO14,HB14⟩,by simp only [intOf];omega⟩
  ·have hi2:i=N:=by omega
   subst hi2;gi_wp2;all_goals (first|go_returns|go_ret|go_end0)
   exact⟨_,rfl,HO.out.row (by have:=zhl (P:=P) (cs:=cs) (N:=i) i;omega),HB07.out.trans (HBr.out.mono HB07.out.size)⟩
theorem zah.frx{β:Type}{w w':World}{ty sz:Nat}{I:β→List Value→World→Prop}{v:Value}{bs:List β}{X:Nat→TypeId→Prop}(h:zah w ty sz I v bs)(hf:FrX X w w')(hx:∀b,¬X b ty)(hI:∀b r,I b r w→I b r w'):zah w' ty sz I v bs:=by
 rcases h with h|⟨a,cap,xs,h1,h2,h3,⟨cs,fz,h4⟩,h5,h6,h7,h8⟩
 ·exact .inl h
 ·have hb:=hf.2 _ _ _ _ h4 (hx _);exact .inr ⟨a,cap,xs,h1,h2,h3,⟨cs,fz,hb⟩,h5,h6,fun i row hr j x hx=>(World.cell?_of_block (by rw [zac,hb,h4])).trans (h7 i row hr j x hx),fun i row b hr hb'=>hI _ _ (h8 i row b hr hb')⟩
theorem MatR.frx{w w':World}{v:Value}{m:List (List Rat)}{X:Nat→TypeId→Prop}(h:MatR w v m)(hf:FrX X w w')(h1:∀b,¬X b 64)(h2:∀b,¬X b 25)(h3:∀b e,rs3.contains e=true→¬X b e):MatR w' v m:=
 zah.frx h hf h1 (fun _ _ ⟨v,e,k⟩=>⟨v,e,zah.frx k hf h2 (fun _ _ q=>zao.kept q (fun b cs e fz hb hc=>hf.2 b cs e fz hb (h3 b e hc)))⟩)
theorem zlD(w:World)(v:Value)(m N:Nat)(A:Nat→Nat→Rat)(hm:MatR w v (tab m N A))(h0:0<m)(hN:0<N)(h9:m≤1000∧N≤1000)(hc:zb8 (tab m N A)=0)(hq:ziS m N A)(hT:zaU w)(hF:Fine m N N A) :
  CallsIn Fence.wide 0 Tryz.prog 27 #[v] w fun e w'=>∃v',e = .returned (.tuple #[v',.int .i64 0])∧MatR w' v' (kern (zcl (pRun m A N).P (zay m A N)) (zay m A N) N N)∧Below w.heap.size w w':=by
 obtain⟨a,c,a0,c0,rfl,hx⟩:=zfu hm h0 hN;have HM:=zHi hm;have HQ:=zHi (zhk hq);have HT:=zHi hT;have HC:=zHi hc;have HF:=zHi hF;obtain⟨D,hD⟩:∃D,kern (zcl (pRun m A N).P (zay m A N)) (zay m A N) N N=D:=⟨_,rfl⟩;have HD:=zHi hD;rw [hD];clear hm hq hT hc hx hF hD;refine callsIn_of_wp Tryz.func27 rfl trivial ?_ rfl;simp only [Tryz.ntmps27,ztE,ztF,ztG,Nat.reduceAdd,Nat.reduceSub,ztH,ztI,ztJ,ztK,ztL,ztM];obtain⟨g1,hg1⟩:∃g,w.heap.size=g:=⟨_,rfl⟩;obtain⟨W1,hW1⟩:∃W,w.alloc (.cells #[.slice (some a) m c] 55)=W:=⟨_,rfl⟩;have hb0:Below w.heap.size w W1:=by rw [←hW1];exact zaa _ _
 have y0:W1.cell? ⟨g1,0,none⟩=some (.slice (some a) m c):=by
  rw [←hW1,←hg1];exact(zaP w [.slice (some a) m c] 55).2 0 _ rfl
 have HB0:=zHi hb0;have HY:=zHi y0;clear hb0;gi_wp2_with (gi_at_call 49;refine stop ?_)
 unfold Stop;refine(zea W1 _ _ (zah.below HM.out HB0.out (zaF.below HB0.out)) HQ.out (HT.out.below HB0.out)).mono ?_;rintro e w2 ⟨rfl,hB2⟩;rw [HC.out];have HB2:=zHi (HB0.out.trans (hB2.mono HB0.out.size));have HY2:=zHi ((hB2.cell (World.block_lt_of_cell? _ _ y0)).trans y0);clear y0 hB2 hW1 hg1;have hmf:∀(fn:Fn) (first cap:Array Value) (w:World),(Instr.makeFunc fn first cap).run Tryz.prog w = .ok (.func fn first cap) w:=fun _ _ _ _=>rfl
 gi_wp2_with (gi_at_call 78;refine stop ?_)
 unfold Stop;refine(zhc w2 79 #[.pointer (some ⟨g1,0,none⟩)] (fun v' w'=>MatR w' v' D) (ec 79 _ Tryz.func79 rfl) (fun v W W' h hf=>MatR.frx h hf (fun b=>by decide) (fun b=>by decide) (fun b e he q=>by rcases q with rfl|rfl <;> cases he)) (fun W hW => ?_)).mono ?_
 ·have hbW:=HB2.out.trans (hW.mono HB2.out.size);refine(zkE W g1 m N (.slice (some a) m c) A ((hW.cell (World.block_lt_of_cell? _ _ HY2.out)).trans HY2.out) (zah.below HM.out hbW (zaF.below hbW)) h0 hN h9 (HT.out.below hbW) HF.out).mono ?_;rintro e w' ⟨v',rfl,h1,h2⟩;rw [HD.out]at h1;obtain⟨p,d,e,_⟩:=zah.form h1;exact⟨_,rfl,⟨⟨_,_,_,e⟩,h1⟩,h2⟩
 rintro e w4 ⟨v4,rfl,hr4,hB4⟩;have HBB:=zHi (HB2.out.trans (hB4.mono HB2.out.size));have HR4:=zHi hr4;obtain⟨p,d,rfl,_⟩:=zah.form hr4;clear hB4 hr4;gi_wp2;all_goals (first|go_returns|go_ret|go_end0)
 exact⟨_,rfl,HR4.out,HBB.out⟩
end Go.Num
