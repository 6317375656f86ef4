/-
  'Cmp' of the program. 'attempt' where nothing panics. 'isLong' of a fraction. 'kept' and 'attempt' of a fraction that is too long. Add, Mul 
  Conditions: see each statement.
-/
import Derived.Test.YtepakfjilnpodaaGreatDoorRDAO
import Derived.Test.YtepakfjilnpodaaGreatDoorRDAM
namespace Go.Num
open Go.Eng Go.Shelf Go.RowKit Go.Proofs Go.Proofs.YtepakfjilnpodaaGreatDoor
theorem l26:LoadOne Tryz.prog 28:=loadOne_of (by kernel_rfl)
set_option maxRecDepth 100000 in
set_option maxHeartbeats 8000000 in
theorem attempt_calls(w:World)(v:Value)(q:Rat)(h:RatAt w v q)(hq:RatLe q 100000)(hs:Kept1 q=true)(htab:Pow10 w) :
  CallsIn Fence.wide 0 Tryz.prog 73 #[.func (.func 74) #[v] #[]] w fun e w'=>∃v',e = .returned (.tuple #[v',.int .i64 0])∧RatAt w' v' q∧Below w.heap.size w w':=by
 have hmf:∀(fn:Fn) (first cap:Array Value) (w:World),(Instr.makeFunc fn first cap).run Tryz.prog w = .ok (.func fn first cap) w:=fun _ _ _ _=>rfl
 have HR:=Hid.intro h
 have HP:=Hid.intro hq
 have HS:=Hid.intro hs
 have HTab:=Hid.intro htab
 obtain⟨o,k,c,o2,k2,c2,rfl⟩:=h.form
 clear h hq hs htab
 gi_enter_defers Tryz.func73,Tryz.ntmps73
 gi_wp2_with (gi_at_call 74;refine stop ?_)
 unfold Stop
 obtain⟨W0,hW0⟩:∃W,W=w.alloc (.cells #[.bool false,.slice none 0 0,.slice none 0 0] 27):=⟨_,rfl⟩
 have h0s:W0.heap.size=w.heap.size+1:=by rw [hW0];simp
 obtain⟨W1,hW1⟩:∃W,W=W0.alloc (.cells #[.int .i64 0] 28):=⟨_,rfl⟩
 rw [←hW0,←hW1]
 have HA:Hid (∃f,ArrAt W1 w.heap.size 3 f):=Hid.intro ⟨fun i => [.bool false,.slice none 0 0,.slice none 0 0].getD i (.bool false),by
  rw [hW1]
  refine ArrAt.alloc ?_ (by omega) _
  rw [hW0]
  exact ArrAt.new _ _ _ fun i hi=>by
   have:i=0∨i=1∨i=2:=by omega
   rcases this with rfl|rfl|rfl <;> rfl⟩
 have HA2:Hid (∃f,ArrAt W1 (w.heap.size+1) 1 f):=Hid.intro ⟨fun i => .int .i64 0,by
  rw [hW1,←h0s]
  exact ArrAt.new _ _ _ fun i hi=>by
   have:i=0:=by omega
   rw [this];rfl⟩
 have HE:Hid (Elem W1 w.heap.size 27):=Hid.intro ((by rw [hW0];exact elem_new _ _ _:Elem W0 w.heap.size 27).below (by rw [hW1];exact alloc_below _ _) (by omega))
 have HE2:Hid (Elem W1 (w.heap.size+1) 28):=Hid.intro (by rw [hW1,←h0s];exact elem_new _ _ _)
 have HBW:Hid (Below w.heap.size w W1):=Hid.intro (by rw [hW1,hW0];exact(alloc_below _ _).alloc (by simp) _)
 have hl:w.heap.size+1<W1.heap.size:=by rw [hW1];simp;omega
 obtain⟨g,hg⟩:∃g,w.heap.size=g:=⟨_,rfl⟩
 rw [hg]at HA HA2 HE HE2 hl
 rw [hg]
 have hgw:w.heap.size≤g:=by omega
 clear hW0 hW1 h0s hg
 refine(kept_calls W1 _ q (HR.out.below HBW.out) HP.out HS.out (HTab.out.below HBW.out)).mono ?_
 rintro e w2 ⟨v2,rfl,hr2,hB⟩
 obtain⟨p,l,d,p2,l2,d2,rfl⟩:=hr2.form
 have HR2:=Hid.intro hr2
 replace HBW:=Hid.intro (HBW.out.trans (hB.mono HBW.out.size))
 replace HE:=Hid.intro (HE.out.below hB (by omega))
 replace HE2:=Hid.intro (HE2.out.below hB (by omega))
 obtain⟨f,hf⟩:=HA.out
 obtain⟨f2,hf2⟩:=HA2.out
 have ha:=hf.below (by omega) hB
 have ha2:=hf2.below (by omega) hB
 have z0:=(ha 0 (by omega)).1
 have z1:=(ha 1 (by omega)).1
 have z2:=(ha 2 (by omega)).1
 have y0:=(ha 0 (by omega)).2
 have y1:=(ha 1 (by omega)).2
 have y2:=(ha 2 (by omega)).2
 have x0:=(ha2 0 (by omega)).1
 have x1:=(ha2 0 (by omega)).2
 have HA9:=Hid.intro ha
 have HA8:=Hid.intro ha2
 clear hr2 hB ha ha2 hf hf2 HA HA2
 obtain⟨sg,hsg⟩:∃sg,decide (q.num<0)=sg:=⟨_,rfl⟩
 rw [hsg]at HR2
 rw [hsg]
 gi_wp2
 have hB3:Below w.heap.size w ((((w2.setCell ⟨g,0,none⟩ (.bool sg)).setCell ⟨g,1,none⟩ (.slice p l d)).setCell ⟨g,2,none⟩ (.slice p2 l2 d2)).setCell ⟨g+1,0,none⟩ (.int .i64 0)):=
  (((HBW.out.setCell hgw _).setCell hgw _).setCell hgw _).setCell (by show w.heap.size≤g+1;omega) _
 refine leavesIn_cons (f:=139) (args:=#[.pointer (some ⟨g,0,none⟩),.pointer (some ⟨g+1,0,none⟩)]) (by simp) (by simp) (by simp [go_sem]) (by simp [Target.leads]) ?_
 refine(still_109.2 _ _).mono ?_
 rintro e u' w'' ⟨⟨v3,rfl⟩,rfl,hh,hb⟩
 refine⟨.tuple #[.agg #[.bool sg,.slice p l d,.slice p2 l2 d2],.int .i64 0],?_,_,rfl,?_,?_⟩
 ·have h3:=((HA9.out.set (i:=0) (by omega) (.bool sg)).set (i:=1) (by omega) (.slice p l d)).set (i:=2) (by omega) (.slice p2 l2 d2)
  have n3:∀j:Nat,(⟨g,j,none⟩:Addr)≠⟨g+1,0,none⟩:=fun j e=>by injection e with e _ _;omega
  have n4:∀j:Nat,(⟨g+1,0,none⟩:Addr)≠⟨g,j,none⟩:=fun j e=>by injection e with e _ _;omega
  have b3:Box3 ((((w2.setCell ⟨g,0,none⟩ (.bool sg)).setCell ⟨g,1,none⟩ (.slice p l d)).setCell ⟨g,2,none⟩ (.slice p2 l2 d2)).setCell ⟨g+1,0,none⟩ (.int .i64 0)) g (.bool sg) (.slice p l d) (.slice p2 l2 d2):=fun j v hj=>by
   rw [World.cell?_setCell_other _ _ _ _ (n4 j)]
   match j,hj with
   | 0,hj=>rw [←hj];exact(h3 0 (by omega)).1
   | 1,hj=>rw [←hj];exact(h3 1 (by omega)).1
   | 2,hj=>rw [←hj];exact(h3 2 (by omega)).1
   | n+3,hj=>simp at hj
  have c3:((((w2.setCell ⟨g,0,none⟩ (.bool sg)).setCell ⟨g,1,none⟩ (.slice p l d)).setCell ⟨g,2,none⟩ (.slice p2 l2 d2)).setCell ⟨g+1,0,none⟩ (.int .i64 0)).cell? ⟨g+1,0,none⟩=some (.int .i64 0):=
   World.cell?_setCell_same _ _ _ (by rw [World.cell?_setCell_other _ _ _ _ (n3 2),World.cell?_setCell_other _ _ _ _ (n3 1),World.cell?_setCell_other _ _ _ _ (n3 0)];exact x0)
  have e1:=l25 g [.bool sg,.slice p l d,.slice p2 l2 d2] w'' rfl (b3.below hb)
  have e2:=l26 ⟨g+1,0,none⟩ _ w'' ((hb.cell (World.block_lt_of_cell? _ _ c3)).trans c3)
  simp only [Instr.loadAt,Instr.sureAddr,Sem.run_bind,Sem.run_pure,Result.andThen_ok]at e1 e2
  simp [results,asAddr,e1,e2]
 ·have h4:=(((HR2.out.setElem (i:=0) (u:=.bool sg) HE.out (by decide)).setElem (i:=1) (u:=.slice p l d) (HE.out.setCell _ _) (by decide)).setElem (i:=2) (u:=.slice p2 l2 d2) ((HE.out.setCell _ _).setCell _ _) (by decide)).setElem (i:=0) (u:=.int .i64 0) (((HE2.out.setCell _ _).setCell _ _).setCell _ _) (by decide)
  exact h4.below hb
 ·exact hB3.trans (hb.mono hB3.size)
set_option maxRecDepth 100000 in
set_option maxHeartbeats 8000000 in
theorem addR_calls(w:World)(va vb:Value)(p q:Rat)(L:Nat)(ha:RatAt w va p)(hb:RatAt w vb q)(hp:RatLe p L)(hq:RatLe q L)(hL:L≤1000000)(hr:RatLe (p+q) 100000)(hs:Kept1 (p+q)=true)(htab:Pow10 w) :
  CallsIn Fence.wide 0 Tryz.prog 17 #[va,vb] w fun e w'=>∃v',e = .returned (.tuple #[v',.int .i64 0])∧RatAt w' v' (p+q)∧Below w.heap.size w w':=by
 have HA:=Hid.intro ha
 have HB:=Hid.intro hb
 have HP:=Hid.intro hp
 have HQ:=Hid.intro hq
 have HR:=Hid.intro hr
 have HS:=Hid.intro hs
 have HTab:=Hid.intro htab
 obtain⟨o1,k1,c1,o2,k2,c2,rfl⟩:=ha.form
 obtain⟨o3,k3,c3,o4,k4,c4,rfl⟩:=hb.form
 obtain⟨sa,hsa⟩:∃sa,decide (p.num<0)=sa:=⟨_,rfl⟩
 obtain⟨sb,hsb⟩:∃sb,decide (q.num<0)=sb:=⟨_,rfl⟩
 rw [hsa]at HA
 rw [hsb]at HB
 rw [hsa,hsb]
 clear ha hb hp hq hr hs htab hsa hsb
 refine callsIn_of_wp Tryz.func17 rfl trivial ?_ rfl
 simp only [Tryz.ntmps17,List.size_toArray,List.length_cons,List.length_nil,Nat.reduceAdd,Nat.reduceSub,Array.replicate_succ,Array.replicate_zero,List.push_toArray,List.append_toArray,List.nil_append,List.cons_append]
 gi_wp2_with (gi_at_call 71;refine stop ?_)
 unfold Stop
 obtain⟨W,hW⟩:∃W,W=((w.alloc (Obj.cells #[Value.bool sa,.slice o1 k1 c1,.slice o2 k2 c2] 27)).alloc (Obj.cells #[Value.bool sb,.slice o3 k3 c3,.slice o4 k4 c4] 27)).alloc (Obj.cells #[Value.bool false,Value.slice none 0 0,Value.slice none 0 0] 27):=⟨_,rfl⟩
 rw [←hW]
 have HK:Hid (RatKept w W w.heap.size (.bool sa) (.slice o1 k1 c1) (.slice o2 k2 c2) (.bool sb) (.slice o3 k3 c3) (.slice o4 k4 c4)):=by
  rw [hW];exact ratKept_new w _ _ _ _ _ _ _ _ _ _
 obtain⟨g,hg⟩:∃g,w.heap.size=g:=⟨_,rfl⟩
 rw [hg]at HK
 rw [hg]
 clear hW
 refine(plus_calls W _ _ p q L (HA.out.below HK.out.below) (HB.out.below HK.out.below) HP.out HQ.out hL).mono ?_
 rintro e w2 ⟨v2,rfl,hr2,hB⟩
 replace HK:=Hid.intro (HK.out.step hB)
 have HR2:=Hid.intro hr2
 clear hr2 hB
 gi_wp2_with (gi_at_call 73;refine stop ?_)
 unfold Stop
 refine(attempt_calls w2 v2 (p+q) HR2.out HR.out HS.out (HTab.out.below HK.out.below)).mono ?_
 rintro e w3 ⟨v3,rfl,hr3,hB⟩
 replace HK:=Hid.intro (HK.out.step hB)
 obtain⟨o5,k5,c5,o6,k6,c6,rfl⟩:=hr3.form
 have HR3:=Hid.intro hr3
 clear hr3 hB HR2
 obtain⟨sg,hsg⟩:∃sg,decide ((p+q).num<0)=sg:=⟨_,rfl⟩
 rw [hsg]at HR3
 rw [hsg]
 obtain⟨f,hf⟩:=HK.out.res
 have z0:=(hf 0 (by omega)).1
 have z1:=(hf 1 (by omega)).1
 have z2:=(hf 2 (by omega)).1
 have y0:=(hf 0 (by omega)).2
 have y1:=(hf 1 (by omega)).2
 have y2:=(hf 2 (by omega)).2
 have HE:=Hid.intro HK.out.el
 have hle:w.heap.size≤g+1+1:=by omega
 clear hf
 gi_wp2
 refine ret_rat_two rfl rfl (g+1+1) rfl rfl z0 z1 z2 ?_
 refine⟨_,rfl,?_,((HK.out.below.setCell hle _).setCell hle _).setCell hle _⟩
 exact((HR3.out.setElem HE.out (by decide)).setElem (HE.out.setCell _ _) (by decide)).setElem ((HE.out.setCell _ _).setCell _ _) (by decide)
set_option maxRecDepth 100000 in
set_option maxHeartbeats 8000000 in
theorem mulR_calls(w:World)(va vb:Value)(p q:Rat)(L:Nat)(ha:RatAt w va p)(hb:RatAt w vb q)(hp:RatLe p L)(hq:RatLe q L)(hL:L≤1000000)(hr:RatLe (p*q) 100000)(hs:Kept1 (p*q)=true)(htab:Pow10 w) :
  CallsIn Fence.wide 0 Tryz.prog 44 #[va,vb] w fun e w'=>∃v',e = .returned (.tuple #[v',.int .i64 0])∧RatAt w' v' (p*q)∧Below w.heap.size w w':=by
 have HA:=Hid.intro ha
 have HB:=Hid.intro hb
 have HP:=Hid.intro hp
 have HQ:=Hid.intro hq
 have HR:=Hid.intro hr
 have HS:=Hid.intro hs
 have HTab:=Hid.intro htab
 obtain⟨o1,k1,c1,o2,k2,c2,rfl⟩:=ha.form
 obtain⟨o3,k3,c3,o4,k4,c4,rfl⟩:=hb.form
 obtain⟨sa,hsa⟩:∃sa,decide (p.num<0)=sa:=⟨_,rfl⟩
 obtain⟨sb,hsb⟩:∃sb,decide (q.num<0)=sb:=⟨_,rfl⟩
 rw [hsa]at HA
 rw [hsb]at HB
 rw [hsa,hsb]
 clear ha hb hp hq hr hs htab hsa hsb
 refine callsIn_of_wp Tryz.func44 rfl trivial ?_ rfl
 simp only [Tryz.ntmps44,List.size_toArray,List.length_cons,List.length_nil,Nat.reduceAdd,Nat.reduceSub,Array.replicate_succ,Array.replicate_zero,List.push_toArray,List.append_toArray,List.nil_append,List.cons_append]
 gi_wp2_with (gi_at_call 111;refine stop ?_)
 unfold Stop
 obtain⟨W,hW⟩:∃W,W=((w.alloc (Obj.cells #[Value.bool sa,.slice o1 k1 c1,.slice o2 k2 c2] 27)).alloc (Obj.cells #[Value.bool sb,.slice o3 k3 c3,.slice o4 k4 c4] 27)).alloc (Obj.cells #[Value.bool false,Value.slice none 0 0,Value.slice none 0 0] 27):=⟨_,rfl⟩
 rw [←hW]
 have HK:Hid (RatKept w W w.heap.size (.bool sa) (.slice o1 k1 c1) (.slice o2 k2 c2) (.bool sb) (.slice o3 k3 c3) (.slice o4 k4 c4)):=by
  rw [hW];exact ratKept_new w _ _ _ _ _ _ _ _ _ _
 obtain⟨g,hg⟩:∃g,w.heap.size=g:=⟨_,rfl⟩
 rw [hg]at HK
 rw [hg]
 clear hW
 refine(times_calls W _ _ p q L (HA.out.below HK.out.below) (HB.out.below HK.out.below) HP.out HQ.out hL).mono ?_
 rintro e w2 ⟨v2,rfl,hr2,hB⟩
 replace HK:=Hid.intro (HK.out.step hB)
 have HR2:=Hid.intro hr2
 clear hr2 hB
 gi_wp2_with (gi_at_call 73;refine stop ?_)
 unfold Stop
 refine(attempt_calls w2 v2 (p*q) HR2.out HR.out HS.out (HTab.out.below HK.out.below)).mono ?_
 rintro e w3 ⟨v3,rfl,hr3,hB⟩
 replace HK:=Hid.intro (HK.out.step hB)
 obtain⟨o5,k5,c5,o6,k6,c6,rfl⟩:=hr3.form
 have HR3:=Hid.intro hr3
 clear hr3 hB HR2
 obtain⟨sg,hsg⟩:∃sg,decide ((p*q).num<0)=sg:=⟨_,rfl⟩
 rw [hsg]at HR3
 rw [hsg]
 obtain⟨f,hf⟩:=HK.out.res
 have z0:=(hf 0 (by omega)).1
 have z1:=(hf 1 (by omega)).1
 have z2:=(hf 2 (by omega)).1
 have y0:=(hf 0 (by omega)).2
 have y1:=(hf 1 (by omega)).2
 have y2:=(hf 2 (by omega)).2
 have HE:=Hid.intro HK.out.el
 have hle:w.heap.size≤g+1+1:=by omega
 clear hf
 gi_wp2
 refine ret_rat_two rfl rfl (g+1+1) rfl rfl z0 z1 z2 ?_
 refine⟨_,rfl,?_,((HK.out.below.setCell hle _).setCell hle _).setCell hle _⟩
 exact((HR3.out.setElem HE.out (by decide)).setElem (HE.out.setCell _ _) (by decide)).setElem ((HE.out.setCell _ _).setCell _ _) (by decide)
theorem sgnR_ne{q:Rat}(h:q.num≠0):sgnR q≠0:=by
 unfold sgnR
 split
 ·decide
 ·decide
set_option maxRecDepth 100000 in
set_option maxHeartbeats 8000000 in
theorem quoR_calls(w:World)(va vb:Value)(p q:Rat)(L:Nat)(ha:RatAt w va p)(hb:RatAt w vb q)(hp:RatLe p L)(hq:RatLe q L)(hq0:q.num≠0)(hL:L≤1000000)(hr:RatLe (p/q) 100000)(hs:Kept1 (p/q)=true)(htab:Pow10 w) :
  CallsIn Fence.wide 0 Tryz.prog 45 #[va,vb] w fun e w'=>∃v',e = .returned (.tuple #[v',.int .i64 0])∧RatAt w' v' (p/q)∧Below w.heap.size w w':=by
 have HA:=Hid.intro ha
 have HB:=Hid.intro hb
 have HP:=Hid.intro hp
 have HQ:=Hid.intro hq
 have HR:=Hid.intro hr
 have HS:=Hid.intro hs
 have HTab:=Hid.intro htab
 obtain⟨o1,k1,c1,o2,k2,c2,rfl⟩:=ha.form
 obtain⟨o3,k3,c3,o4,k4,c4,rfl⟩:=hb.form
 obtain⟨sa,hsa⟩:∃sa,decide (p.num<0)=sa:=⟨_,rfl⟩
 obtain⟨sb,hsb⟩:∃sb,decide (q.num<0)=sb:=⟨_,rfl⟩
 rw [hsa]at HA
 rw [hsb]at HB
 rw [hsa,hsb]
 clear ha hb hp hq hr hs htab hsa hsb
 refine callsIn_of_wp Tryz.func45 rfl trivial ?_ rfl
 simp only [Tryz.ntmps45,List.size_toArray,List.length_cons,List.length_nil,Nat.reduceAdd,Nat.reduceSub,Array.replicate_succ,Array.replicate_zero,List.push_toArray,List.append_toArray,List.nil_append,List.cons_append]
 have hsg0:(sgnR q == 0)=false:=beq_false_of_ne (sgnR_ne hq0)
 gi_wp2_with (gi_at_call 25;refine stop ?_)
 unfold Stop
 obtain⟨W,hW⟩:∃W,W=((w.alloc (Obj.cells #[Value.bool sa,.slice o1 k1 c1,.slice o2 k2 c2] 27)).alloc (Obj.cells #[Value.bool sb,.slice o3 k3 c3,.slice o4 k4 c4] 27)).alloc (Obj.cells #[Value.bool false,Value.slice none 0 0,Value.slice none 0 0] 27):=⟨_,rfl⟩
 rw [←hW]
 have HK:Hid (RatKept w W w.heap.size (.bool sa) (.slice o1 k1 c1) (.slice o2 k2 c2) (.bool sb) (.slice o3 k3 c3) (.slice o4 k4 c4)):=by
  rw [hW];exact ratKept_new w _ _ _ _ _ _ _ _ _ _
 obtain⟨g,hg⟩:∃g,w.heap.size=g:=⟨_,rfl⟩
 rw [hg]at HK
 rw [hg]
 clear hW
 refine(sign_calls W _ q (HB.out.below HK.out.below)).mono ?_
 rintro e W2 ⟨rfl,hB⟩
 replace HK:=Hid.intro (HK.out.step hB)
 have y0:=HK.out.bx.c0
 have y1:=HK.out.bx.c1
 have y2:=HK.out.bx.c2
 have z0:=HK.out.by'.c0
 have z1:=HK.out.by'.c1
 have z2:=HK.out.by'.c2
 clear hB
 gi_wp2_with (gi_at_call 61;refine stop ?_)
 unfold Stop
 refine(over_calls W2 _ _ p q L (HA.out.below HK.out.below) (HB.out.below HK.out.below) HP.out HQ.out hq0 hL).mono ?_
 rintro e w2 ⟨v2,rfl,hr2,hB⟩
 replace HK:=Hid.intro (HK.out.step hB)
 have HR2:=Hid.intro hr2
 clear hr2 hB y0 y1 y2 z0 z1 z2
 gi_wp2_with (gi_at_call 73;refine stop ?_)
 unfold Stop
 refine(attempt_calls w2 v2 (p/q) HR2.out HR.out HS.out (HTab.out.below HK.out.below)).mono ?_
 rintro e w3 ⟨v3,rfl,hr3,hB⟩
 replace HK:=Hid.intro (HK.out.step hB)
 obtain⟨o5,k5,c5,o6,k6,c6,rfl⟩:=hr3.form
 have HR3:=Hid.intro hr3
 clear hr3 hB HR2
 obtain⟨sg,hsg⟩:∃sg,decide ((p/q).num<0)=sg:=⟨_,rfl⟩
 rw [hsg]at HR3
 rw [hsg]
 obtain⟨f,hf⟩:=HK.out.res
 have z0:=(hf 0 (by omega)).1
 have z1:=(hf 1 (by omega)).1
 have z2:=(hf 2 (by omega)).1
 have y0:=(hf 0 (by omega)).2
 have y1:=(hf 1 (by omega)).2
 have y2:=(hf 2 (by omega)).2
 have HE:=Hid.intro HK.out.el
 have hle:w.heap.size≤g+1+1:=by omega
 clear hf
 gi_wp2
 refine ret_rat_two rfl rfl (g+1+1) rfl rfl z0 z1 z2 ?_
 refine⟨_,rfl,?_,((HK.out.below.setCell hle _).setCell hle _).setCell hle _⟩
 exact((HR3.out.setElem HE.out (by decide)).setElem (HE.out.setCell _ _) (by decide)).setElem ((HE.out.setCell _ _).setCell _ _) (by decide)
set_option maxRecDepth 100000 in
set_option maxHeartbeats 8000000 in
theorem cmpR_calls(w:World)(va vb:Value)(p q:Rat)(L:Nat)(ha:RatAt w va p)(hb:RatAt w vb q)(hp:RatLe p L)(hq:RatLe q L)(hL:L≤1000000) :
  CallsIn Fence.wide 0 Tryz.prog 15 #[va,vb] w fun e w'=>e = .returned (.int .i64 (sgnR (p-q)))∧Below w.heap.size w w':=by
 have HA:=Hid.intro ha
 have HB:=Hid.intro hb
 have HP:=Hid.intro hp
 have HQ:=Hid.intro hq
 obtain⟨o1,k1,c1,o2,k2,c2,rfl⟩:=ha.form
 obtain⟨o3,k3,c3,o4,k4,c4,rfl⟩:=hb.form
 obtain⟨sa,hsa⟩:∃sa,decide (p.num<0)=sa:=⟨_,rfl⟩
 obtain⟨sb,hsb⟩:∃sb,decide (q.num<0)=sb:=⟨_,rfl⟩
 rw [hsa]at HA
 rw [hsb]at HB
 rw [hsa,hsb]
 clear ha hb hp hq hsa hsb
 obtain⟨W0,hW0⟩:∃W,W=w.alloc (.cells #[.bool sa,.slice o1 k1 c1,.slice o2 k2 c2] 27):=⟨_,rfl⟩
 have h0s:W0.heap.size=w.heap.size+1:=by rw [hW0];simp
 obtain⟨W1,hW1⟩:∃W,W=W0.alloc (.cells #[.bool sb,.slice o3 k3 c3,.slice o4 k4 c4] 27):=⟨_,rfl⟩
 have HX:Hid (Box3 W1 w.heap.size (.bool sa) (.slice o1 k1 c1) (.slice o2 k2 c2)):=Hid.intro (by rw [hW1];exact Box3.below (by rw [hW0];exact box3_new _ _ _ _ _) (alloc_below _ _))
 have HY:Hid (Box3 W1 (w.heap.size+1) (.bool sb) (.slice o3 k3 c3) (.slice o4 k4 c4)):=Hid.intro (by rw [hW1,←h0s];exact box3_new _ _ _ _ _)
 have HBW:Hid (Below w.heap.size w W1):=Hid.intro (by rw [hW1,hW0];exact(alloc_below _ _).alloc (by simp) _)
 refine callsIn_of_wp Tryz.func15 rfl trivial ?_ rfl
 simp only [Tryz.ntmps15,List.size_toArray,List.length_cons,List.length_nil,Nat.reduceAdd,Nat.reduceSub,Array.replicate_succ,Array.replicate_zero,List.push_toArray,List.append_toArray,List.nil_append,List.cons_append]
 gi_wp2
 rw [←hW0,←hW1]
 obtain⟨g,hg⟩:∃g,w.heap.size=g:=⟨_,rfl⟩
 rw [hg]at HX HY
 rw [hg]
 clear hW0 hW1 h0s
 refine wpIn_region_ow (ro:=none) [2,3,4] [0,1,2,3,4,5] [0,0,2,7,15,31] follows 10 rfl (by kernel_rfl) (by kernel_rfl) ?_
 replace HX:=Hid.intro (HX.out.below (drew_below _))
 replace HY:=Hid.intro (HY.out.below (drew_below _))
 replace HBW:=Hid.intro (HBW.out.trans ((drew_below W1).mono HBW.out.size))
 refine OW.loadAll rfl rfl l25 (cs:=[.bool sa,.slice o1 k1 c1,.slice o2 k2 c2]) rfl (by decide) HX.out rfl ?_
 simp only [Go.Act.put,List.setIfInBounds_toArray,List.set_cons_succ,List.set_cons_zero]
 refine OW.loadAll rfl rfl l25 (cs:=[.bool sb,.slice o3 k3 c3,.slice o4 k4 c4]) rfl (by decide) HY.out rfl ?_
 simp only [Go.Act.put,List.setIfInBounds_toArray,List.set_cons_succ,List.set_cons_zero]
 refine OW.call rfl rfl Tryz.func66 rfl namesOK (args:=[.agg #[.bool sb,.slice o3 k3 c3,.slice o4 k4 c4]]) rfl ?_
 refine(neg_calls W1.drew _ q (HB.out.below HBW.out)).mono ?_
 rintro e w2 ⟨v2,rfl,hr2,hB⟩
 refine⟨v2,rfl,hB,?_⟩
 simp only [Go.Act.put,List.setIfInBounds_toArray,List.set_cons_succ,List.set_cons_zero]
 replace HBW:=Hid.intro (HBW.out.trans (hB.mono HBW.out.size))
 have HR2:=Hid.intro hr2
 clear hr2 hB
 refine OW.call rfl rfl Tryz.func71 rfl namesOK (args:=[.agg #[.bool sa,.slice o1 k1 c1,.slice o2 k2 c2],v2]) rfl ?_
 refine(plus_calls w2 _ v2 p (-q) L (HA.out.below HBW.out) HR2.out HP.out (ratLe_neg HQ.out) hL).mono ?_
 rintro e w3 ⟨v3,rfl,hr3,hB⟩
 refine⟨v3,rfl,hB,?_⟩
 simp only [Go.Act.put,List.setIfInBounds_toArray,List.set_cons_succ,List.set_cons_zero]
 replace HBW:=Hid.intro (HBW.out.trans (hB.mono HBW.out.size))
 have HR3:=Hid.intro hr3
 clear hr3 hB
 refine OW.call rfl rfl Tryz.func25 rfl namesOK (args:=[v3]) rfl ?_
 refine(sign_calls w3 v3 _ HR3.out).mono ?_
 rintro e w4 ⟨rfl,hB⟩
 refine⟨_,rfl,hB,?_⟩
 simp only [Go.Act.put,List.setIfInBounds_toArray,List.set_cons_succ,List.set_cons_zero]
 replace HBW:=Hid.intro (HBW.out.trans (hB.mono HBW.out.size))
 clear hB
 refine OW.assign rfl rfl _ rfl ?_
 simp only [Go.Act.put,List.setIfInBounds_toArray,List.set_cons_succ,List.set_cons_zero]
 refine OW.done ?_
 rw [←Rat.sub_eq_add_neg]
 gi_wp2
 all_goals (first|go_returns|go_ret|go_end0)
 exact⟨rfl,HBW.out⟩
def tooL:List PanicEntry:=[{v:=.iface 182 (.agg #[]),recovered:=false}]
set_option maxRecDepth 100000 in
set_option maxHeartbeats 8000000 in
theorem kept_panics(w:World)(v:Value)(q:Rat)(h:RatAt w v q)(hq:RatLe q 100000)(hs:Kept1 q=false)(htab:Pow10 w) :
  CallsIn Fence.wide 0 Tryz.prog 74 #[v] w fun e w'=>e = .panicked tooL∧Below w.heap.size w w':=by
 obtain⟨vn,vd,rfl,hn,hd⟩:=h
 have HN:=Hid.intro hn
 have HD:=Hid.intro hd
 obtain⟨sg,hsg⟩:∃sg,decide (q.num<0)=sg:=⟨_,rfl⟩
 obtain⟨o1,k1,c1,rfl,_,_⟩:=mag_len hn
 obtain⟨o2,k2,c2,rfl,_,_⟩:=mag_len hd
 rw [hsg]
 obtain⟨W0,hW0⟩:∃W,W=w.alloc (.cells #[.bool sg,.slice o1 k1 c1,.slice o2 k2 c2] 27):=⟨_,rfl⟩
 have h0s:W0.heap.size=w.heap.size+1:=by rw [hW0];simp
 obtain⟨W1,hW1⟩:∃W,W=W0.alloc (.cells #[.bool false,.slice none 0 0,.slice none 0 0] 27):=⟨_,rfl⟩
 have HX:Hid (Box3 W1 w.heap.size (.bool sg) (.slice o1 k1 c1) (.slice o2 k2 c2)):=Hid.intro (by rw [hW1];exact Box3.below (by rw [hW0];exact box3_new _ _ _ _ _) (alloc_below _ _))
 have HB0:Hid (Below w.heap.size w W0):=Hid.intro (by rw [hW0];exact alloc_below _ _)
 have HBW:Hid (Below w.heap.size w W1):=Hid.intro (HB0.out.trans ((by rw [hW1];exact alloc_below _ _:Below W0.heap.size W0 W1).mono HB0.out.size))
 have HP:=Hid.intro hq
 have HTab:=Hid.intro htab
 have HS:=Hid.intro hs
 have y0:=HX.out.c0
 have y1:=HX.out.c1
 have y2:=HX.out.c2
 clear hn hd hsg hq htab hs
 refine callsIn_of_wp Tryz.func74 rfl trivial ?_ rfl
 simp only [Tryz.ntmps74,List.size_toArray,List.length_cons,List.length_nil,Nat.reduceAdd,Nat.reduceSub,Array.replicate_succ,Array.replicate_zero,List.push_toArray,List.append_toArray,List.nil_append,List.cons_append]
 gi_wp2_with (gi_at_call 140;refine stop ?_)
 unfold Stop
 rw [←hW0,←hW1]
 obtain⟨g,hg⟩:∃g,w.heap.size=g:=⟨_,rfl⟩
 rw [hg]at HX h0s y0 y1 y2
 rw [hg]
 clear hW0 hW1 HB0 h0s hg
 refine(isSmall_calls W1 _ _ (HN.out.below HBW.out) HP.out.1 (HTab.out.below HBW.out)).mono ?_
 rintro e w2 ⟨rfl,hB⟩
 replace HX:=Hid.intro (HX.out.below hB)
 replace HBW:=Hid.intro (HBW.out.trans (hB.mono HBW.out.size))
 replace y0:=HX.out.c0
 replace y1:=HX.out.c1
 replace y2:=HX.out.c2
 clear hB
 cases hs1:SmallN q.num.natAbs with
 | false=>
  clear hs1
  gi_wp2
  exact⟨rfl,rfl,HBW.out⟩
 | true=>
  have HS2:Hid (SmallN (if q.den=1 then 0 else q.den)=false):=Hid.intro (by have:=HS.out;unfold Kept1 at this;rw [hs1,Bool.true_and]at this;exact this)
  clear hs1
  gi_wp2_with (gi_at_call 140;refine stop ?_)
  unfold Stop
  refine(isSmall_calls w2 _ _ (HD.out.below HBW.out) (by split;exact pow_pos' 100000;exact HP.out.2) (HTab.out.below HBW.out)).mono ?_
  rintro e w3 ⟨rfl,hB⟩
  replace HBW:=Hid.intro (HBW.out.trans (hB.mono HBW.out.size))
  rw [HS2.out]
  replace HX:=Hid.intro (HX.out.below hB)
  replace y0:=HX.out.c0
  replace y1:=HX.out.c1
  replace y2:=HX.out.c2
  clear hB
  gi_wp2
  exact⟨rfl,rfl,HBW.out⟩
def caught(w:World)(g:Nat):World:=
 (((((w.alloc (.cells #[] 182)).alloc (.cells #[.bool false,.slice none 0 0,.slice none 0 0] 27)).setCell ⟨g,0,none⟩ (.bool false)).setCell ⟨g,1,none⟩ (.slice none 0 0)).setCell ⟨g,2,none⟩ (.slice none 0 0)).setCell ⟨g+1,0,none⟩ (.int .i64 11)
set_option maxRecDepth 100000 in
set_option maxHeartbeats 8000000 in
theorem catch_109(g:Nat)(w:World)(f f2:Nat→Value)(hg:g+1<w.heap.size)(hA:ArrAt w g 3 f)(hA2:ArrAt w (g+1) 1 f2) :
  CallsDIn Fence.wide 0 Tryz.prog 139 #[.pointer (some ⟨g,0,none⟩),.pointer (some ⟨g+1,0,none⟩)] (.panicking tooL) w fun e u' w'=>
   e = .returned (.tuple #[])∧u' = .panicking [{v:=.iface 182 (.agg #[]),recovered:=true}]∧w'=caught w g:=by
 have hB:=(hA.alloc (by omega) (Obj.cells #[] 182)).alloc (by simp;omega) (Obj.cells #[.bool false,.slice none 0 0,.slice none 0 0] 27)
 have hB2:=(hA2.alloc (by omega) (Obj.cells #[] 182)).alloc (by simp;omega) (Obj.cells #[.bool false,.slice none 0 0,.slice none 0 0] 27)
 have z0:=(hB 0 (by omega)).1
 have z1:=(hB 1 (by omega)).1
 have z2:=(hB 2 (by omega)).1
 have y0:=(hB 0 (by omega)).2
 have y1:=(hB 1 (by omega)).2
 have y2:=(hB 2 (by omega)).2
 have x0:=(hB2 0 (by omega)).1
 have x1:=(hB2 0 (by omega)).2
 clear hB hB2
 refine callsDIn_of_wpSIn Tryz.func139 rfl trivial fun c₀ cs hu => ?_
 simp only [show Tryz.f139.ntmps=18 from rfl,List.size_toArray,List.length_cons,List.length_nil,Nat.reduceAdd,Nat.reduceSub,Array.replicate_succ,Array.replicate_zero,List.push_toArray,List.append_toArray,List.nil_append,List.cons_append]
 unfold tooL at hu
 apply wpSIn_seq
 apply wpSIn_region
 simp [wpOpsSIn,go_sem,recoverD,hu,Exit.thenS]
 apply wpSIn_seq
 apply wpSIn_region
 simp [wpOpsSIn,go_sem,Exit.thenS]
 refine wpSIn_cond (t:=true) (by simp [Act.eval]) ?_
 simp only [if_true]
 refine wpSIn_of_wpIn rfl ?_
 clear hA hA2
 have hta:∀w:World,(Instr.typeAssert (.iface 182 (.agg #[])) 20 182 true).run Tryz.prog w = .ok (.tuple #[.agg #[],.bool true]) w:=fun w=>by kernel_rfl
 gi_wp2
 exact⟨rfl,_,rfl,.tuple #[],by simp [results],rfl,rfl,rfl⟩
set_option maxRecDepth 100000 in
set_option maxHeartbeats 8000000 in
theorem attempt_panics(w:World)(v:Value)(q:Rat)(h:RatAt w v q)(hq:RatLe q 100000)(hs:Kept1 q=false)(htab:Pow10 w) :
  CallsIn Fence.wide 0 Tryz.prog 73 #[.func (.func 74) #[v] #[]] w fun e w'=>∃v',e = .returned (.tuple #[v',.int .i64 11])∧RatAt w' v' 0∧Below w.heap.size w w':=by
 have hmf:∀(fn:Fn) (first cap:Array Value) (w:World),(Instr.makeFunc fn first cap).run Tryz.prog w = .ok (.func fn first cap) w:=fun _ _ _ _=>rfl
 have HR:=Hid.intro h
 have HP:=Hid.intro hq
 have HS:=Hid.intro hs
 have HTab:=Hid.intro htab
 obtain⟨o,k,c,o2,k2,c2,rfl⟩:=h.form
 clear h hq hs htab
 gi_enter_defers Tryz.func73,Tryz.ntmps73
 gi_wp2_with (gi_at_call 74;refine stop ?_)
 unfold Stop
 obtain⟨W0,hW0⟩:∃W,W=w.alloc (.cells #[.bool false,.slice none 0 0,.slice none 0 0] 27):=⟨_,rfl⟩
 have h0s:W0.heap.size=w.heap.size+1:=by rw [hW0];simp
 obtain⟨W1,hW1⟩:∃W,W=W0.alloc (.cells #[.int .i64 0] 28):=⟨_,rfl⟩
 rw [←hW0,←hW1]
 have HA:Hid (∃f,ArrAt W1 w.heap.size 3 f):=Hid.intro ⟨fun i => [.bool false,.slice none 0 0,.slice none 0 0].getD i (.bool false),by
  rw [hW1]
  refine ArrAt.alloc ?_ (by omega) _
  rw [hW0]
  exact ArrAt.new _ _ _ fun i hi=>by
   have:i=0∨i=1∨i=2:=by omega
   rcases this with rfl|rfl|rfl <;> rfl⟩
 have HA2:Hid (∃f,ArrAt W1 (w.heap.size+1) 1 f):=Hid.intro ⟨fun i => .int .i64 0,by
  rw [hW1,←h0s]
  exact ArrAt.new _ _ _ fun i hi=>by
   have:i=0:=by omega
   rw [this];rfl⟩
 have HBW:Hid (Below w.heap.size w W1):=Hid.intro (by rw [hW1,hW0];exact(alloc_below _ _).alloc (by simp) _)
 have hl:w.heap.size+1<W1.heap.size:=by rw [hW1];simp;omega
 obtain⟨g,hg⟩:∃g,w.heap.size=g:=⟨_,rfl⟩
 rw [hg]at HA HA2 hl
 rw [hg]
 have hgw:w.heap.size≤g:=by omega
 clear hW0 hW1 h0s hg
 refine(kept_panics W1 _ q (HR.out.below HBW.out) HP.out HS.out (HTab.out.below HBW.out)).mono ?_
 rintro e w2 ⟨rfl,hB⟩
 replace HBW:=Hid.intro (HBW.out.trans (hB.mono HBW.out.size))
 obtain⟨f,hf⟩:=HA.out
 obtain⟨f2,hf2⟩:=HA2.out
 have ha:=hf.below (by omega) hB
 have ha2:=hf2.below (by omega) hB
 have hl2:g+1<w2.heap.size:=Nat.lt_of_lt_of_le hl hB.size
 clear HA HA2 hf hf2 hB
 gi_wp2
 refine leavesIn_cons (f:=139) (args:=#[.pointer (some ⟨g,0,none⟩),.pointer (some ⟨g+1,0,none⟩)]) (by simp) (by simp) (by simp [go_sem]) (by simp [Target.leads]) ?_
 refine(catch_109 g w2 f f2 hl2 ha ha2).mono ?_
 rintro e u' w'' ⟨rfl,rfl,rfl⟩
 show LeavesIn _ _ _ _ _ _ _ FrameMode.returning (caught w2 g)
 have n3:∀j:Nat,(⟨g,j,none⟩:Addr)≠⟨g+1,0,none⟩:=fun j e=>by injection e with e _ _;omega
 have n4:∀j:Nat,(⟨g+1,0,none⟩:Addr)≠⟨g,j,none⟩:=fun j e=>by injection e with e _ _;omega
 have hW:=(ha.alloc (by omega) (Obj.cells #[] 182)).alloc (by simp;omega) (Obj.cells #[.bool false,.slice none 0 0,.slice none 0 0] 27)
 have hW2:=(ha2.alloc (by omega) (Obj.cells #[] 182)).alloc (by simp;omega) (Obj.cells #[.bool false,.slice none 0 0,.slice none 0 0] 27)
 have h3:=((hW.set (i:=0) (by omega) (.bool false)).set (i:=1) (by omega) (.slice none 0 0)).set (i:=2) (by omega) (.slice none 0 0)
 have hsz:=HBW.out.size
 have hB3:Below w.heap.size w (caught w2 g):=by
  unfold caught
  exact(((((HBW.out.alloc hsz _).alloc (by simp;omega) _).setCell hgw _).setCell hgw _).setCell hgw _).setCell (by show w.heap.size≤g+1;omega) _
 have b3:Box3 (caught w2 g) g (.bool false) (.slice none 0 0) (.slice none 0 0):=fun j v hj=>by
  unfold caught
  rw [World.cell?_setCell_other _ _ _ _ (n4 j)]
  match j,hj with
  | 0,hj=>rw [←hj];exact(h3 0 (by omega)).1
  | 1,hj=>rw [←hj];exact(h3 1 (by omega)).1
  | 2,hj=>rw [←hj];exact(h3 2 (by omega)).1
  | n+3,hj=>simp at hj
 have c3:(caught w2 g).cell? ⟨g+1,0,none⟩=some (.int .i64 11):=by
  unfold caught
  exact World.cell?_setCell_same _ _ _ (by rw [World.cell?_setCell_other _ _ _ _ (n3 2),World.cell?_setCell_other _ _ _ _ (n3 1),World.cell?_setCell_other _ _ _ _ (n3 0)];exact(hW2 0 (by omega)).1)
 obtain⟨W,hWW⟩:∃W,caught w2 g=W:=⟨_,rfl⟩
 rw [hWW]at b3 c3 hB3 ⊢
 refine⟨.tuple #[.agg #[.bool false,.slice none 0 0,.slice none 0 0],.int .i64 11],?_,_,rfl,ratAt_zero _,hB3⟩
 have e1:=l25 g [.bool false,.slice none 0 0,.slice none 0 0] W rfl b3
 have e2:=l26 ⟨g+1,0,none⟩ _ W c3
 simp only [Instr.loadAt,Instr.sureAddr,Sem.run_bind,Sem.run_pure,Result.andThen_ok]at e1 e2
 simp [results,asAddr,e1,e2]
end Go.Num
namespace Go.Eng
open Go.RowKit
def AT.beq:AT→AT→Bool
 | .tag a,.tag b=>a.beq b
 | .val a,.val b=>a.beq b
 | .agg a,.agg b=>a.beq b
 | .fn f a b,.fn g c d=>Nat.beq f g && a.beq c && b.beq d
 | .nil,.nil=>true
 | .cons a b,.cons c d=>a.beq c && b.beq d
 | _,_=>false
theorem AT.eq_of_beq{a:AT}:∀{b:AT},a.beq b=true→a=b:=by
 induction a with
 | tag t=>intro b h;cases b <;> simp only [AT.beq,Bool.false_eq_true]at h;rw [Tg.eq_of_beq h]
 | val v=>intro b h;cases b <;> simp only [AT.beq,Bool.false_eq_true]at h;rw [AV.beq_eq h]
 | agg a ih=>intro b h;cases b <;> simp only [AT.beq,Bool.false_eq_true]at h;rw [ih h]
 | fn f a c ih1 ih2=>
  intro b h;cases b <;> simp only [AT.beq,Bool.and_eq_true,Bool.false_eq_true]at h
  rw [Nat.eq_of_beq_eq_true h.1.1,ih1 h.1.2,ih2 h.2]
 | nil=>intro b h;cases b <;> simp only [AT.beq,Bool.false_eq_true]at h;rfl
 | cons a c ih1 ih2=>
  intro b h;cases b <;> simp only [AT.beq,Bool.and_eq_true,Bool.false_eq_true]at h
  rw [ih1 h.1,ih2 h.2]
structure Leaf(res:List TypeId) where
 sh:Sh
 I:Value→World→Prop
 stable:∀v w w',Go.Eng.Kept res w w'→I v w→I v w'
 ok:∀v w,I v w→ShOK sh v
 det:sh = .str→∀v v' w,I v w→I v' w→v=v'
def clsL(S:List Sh):Tg→Sh
 | .leaf k=>S.getD k .one
 | _ => .one
def Leaf.at{res:List TypeId}(env:List (Leaf res))(t:Tg)(v:Value)(w:World):Prop:=
 match t with
 | .leaf k=>match env[k]? with
  | some p=>p.I v w
  | none=>False
 | _=>False
def Gs{res:List TypeId}(env:List (Leaf res)):Sett where
 ids:=[]
 res:=res
 I:=Leaf.at env
 stable:=by
  intro t v w w' hk h
  unfold Leaf.at at h ⊢
  split at h
  ·split at h
   ·rename_i p hp
    exact p.stable v w w' hk h
   ·exact h.elim
  ·exact h.elim
theorem shapedS{res:List TypeId}{env:List (Leaf res)}{S:List Sh}(hS:env.map (·.sh)=S):Shaped (Gs env) (clsL S) where
 ok:=by
  intro t v w h
  replace h:Leaf.at env t v w:=h
  unfold Leaf.at at h
  split at h
  ·rename_i k
   split at h
   ·rename_i p hp
    have e:clsL S (.leaf k)=p.sh:=by
     show S.getD k .one=_
     rw [←hS,List.getD_eq_getElem?_getD,List.getElem?_map,hp];rfl
    rw [e]
    exact p.ok v w h
   ·exact h.elim
  ·exact h.elim
 det:=by
  intro t ht v v' w h h'
  replace h:Leaf.at env t v w:=h
  replace h':Leaf.at env t v' w:=h'
  unfold Leaf.at at h h'
  split at h
  ·rename_i k
   split at h
   ·rename_i p hp
    have e:clsL S (.leaf k)=p.sh:=by
     show S.getD k .one=_
     rw [←hS,List.getD_eq_getElem?_getD,List.getElem?_map,hp];rfl
    rw [e]at ht
    simp only [hp]at h'
    exact p.det ht v v' w h h'
   ·exact h.elim
  ·exact h.elim
abbrev Entry:=FuncId × AT × AT
def lookT:List Entry→TTab
 | [],_,_=>none
 | (g,ts,rs) :: r,f,us=>bif Nat.beq f g && ts.beq us then some rs else lookT r f us
section
variable {P:Program} {B:Nat} {w0:World} {G:Sett}
theorem told_nil:ToldIn P B w0 G (lookT []):=fun _ _ _ q=>by cases q
theorem told_cons{g:FuncId}{ts rs:AT}{r:List Entry}(hb:HasBody P g)
  (h:∀w (xs:Array Value),Below B w0 w→PiecesOK G ts xs.toList w→Calls P g xs w fun e w'=>∃x,e = .returned x∧PackOK G rs x w'∧Below w.heap.size w w')
  (k:ToldIn P B w0 G (lookT r)):ToldIn P B w0 G (lookT ((g,ts,rs) :: r)):=by
 intro f us rs' q
 unfold lookT at q
 cases hc:Nat.beq f g && ts.beq us with
 | true=>
  rw [hc]at q
  simp only [cond_true,Option.some.injEq]at q
  simp only [Bool.and_eq_true]at hc
  have e1:=Nat.eq_of_beq_eq_true hc.1
  have e2:=AT.eq_of_beq hc.2
  subst e1;subst e2;subst q
  exact⟨hb,h⟩
 | false=>
  rw [hc]at q
  exact k f us rs' q
theorem told_e1{g:FuncId}{a rs:AT}{r:List Entry}(hb:HasBody P g)
  (h:∀w v,Below B w0 w→PieceOK G a v w→CallsIn Fence.wide 0 P g #[v] w fun e w'=>∃x,e = .returned x∧PackOK G rs x w'∧Below w.heap.size w w')
  (k:ToldIn P B w0 G (lookT r)):ToldIn P B w0 G (lookT ((g,.cons a .nil,rs) :: r)):=by
 refine told_cons hb (fun w xs hw hx => ?_) k
 obtain⟨v,r,e,h1,h2⟩:=hx
 have h2:r = []:=h2
 subst h2
 have:xs=#[v]:=Array.toList_inj.1 (by simpa using e)
 subst this
 exact callsIn_wide.1 (h w v hw h1)
theorem run_script{res:List TypeId}{env:List (Leaf res)}{S:List Sh}{L:List Entry}{w:World}(hm:P.follows .mixedOrders=true)(hN:NamesOK P)(hS:env.map (·.sh)=S)(hT:ToldIn P w.heap.size w (Gs env) (lookT L))
  {n:Nat} {f:FuncId} {ts rs:AT} (h:runF P (clsL S) (lookT L) res [] n f ts=some rs) {xs:Array Value} (hx:PiecesOK (Gs env) ts xs.toList w) :
  CallsIn Fence.wide 0 P f xs w fun e w'=>∃x,e = .returned x∧PackOK (Gs env) rs x w'∧Below w.heap.size w w':=
 callsIn_wide.2 (run_soundW hm hN (shapedS hS) rfl hT (by simp) h hx)
end
end Go.Eng
namespace Go.Num
open Go.Eng Go.Shelf Go.RowKit Go.Proofs Go.Proofs.YtepakfjilnpodaaGreatDoor
abbrev rs3:List TypeId:=[3,116]
theorem RatAt.kept{w w':World}{v:Value}{q:Rat}(h:RatAt w v q)(hk:Go.Eng.Kept rs3 w w'):RatAt w' v q:=by
 obtain⟨vn,vd,e,h1,h2⟩:=h
 exact⟨vn,vd,e,h1.kept hk rfl,h2.kept hk rfl⟩
theorem QAt.kept{w w':World}{v:Value}{q:Rat}(h:QAt w v q)(hk:Go.Eng.Kept rs3 w w'):QAt w' v q:=by
 obtain⟨m1,m2,e,h1,h2⟩:=h
 exact⟨m1,m2,e,h1.kept hk rfl,h2.kept hk rfl⟩
def leafR(q:Rat):Leaf rs3 where
 sh:=.agg 3
 I:=fun v w=>RatAt w v q
 stable:=fun _ _ _ hk h=>h.kept hk
 ok:=by
  rintro v w ⟨vn,vd,rfl,h1,h2⟩
  refine⟨_,rfl,rfl,fun x hx => ?_⟩
  simp only [List.mem_cons,List.not_mem_nil,or_false]at hx
  rcases hx with rfl|rfl|rfl
  ·rfl
  ·exact h1.oneCell
  ·exact h2.oneCell
 det:=fun h=>by cases h
def leafQ(q:Rat):Leaf rs3 where
 sh:=.agg 4
 I:=fun v w=>QAt w v q
 stable:=fun _ _ _ hk h=>h.kept hk
 ok:=by
  rintro v w ⟨vn,vd,rfl,h1,h2⟩
  refine⟨_,rfl,rfl,fun x hx => ?_⟩
  simp only [List.mem_cons,List.not_mem_nil,or_false]at hx
  rcases hx with rfl|rfl|rfl|rfl
  ·rfl
  ·exact h1.oneCell
  ·rfl
  ·exact h2.oneCell
 det:=fun h=>by cases h
def leafS(s:ByteArray):Leaf rs3 where
 sh:=.str
 I:=fun v _=>v = .string s
 stable:=fun _ _ _ _ h=>h
 ok:=by rintro v w rfl;exact⟨_,rfl⟩
 det:=by rintro _ v v' w rfl rfl;rfl
abbrev tg(k:Nat):AT:=.tag (.leaf k)
abbrev vi(n:Int):AT:=.val (.sc (.int .i64 n))
abbrev vb(b:Bool):AT:=.val (.sc (.bool b))
abbrev A1(a:AT):AT:=.cons a .nil
abbrev A2(a b:AT):AT:=.cons a (.cons b .nil)
abbrev shR:Sh:=.agg 3
abbrev shQ:Sh:=.agg 4
def keptQ(q:Rat):Rat:=if Kept1 q=true then q else 0
def keptE(q:Rat):Int:=if Kept1 q=true then 0 else 11
theorem attempt_any(w:World)(v:Value)(q:Rat)(h:RatAt w v q)(hq:RatLe q 100000)(htab:Pow10 w) :
  CallsIn Fence.wide 0 Tryz.prog 73 #[.func (.func 74) #[v] #[]] w fun e w'=>∃v',e = .returned (.tuple #[v',.int .i64 (keptE q)])∧RatAt w' v' (keptQ q)∧Below w.heap.size w w':=by
 unfold keptE keptQ
 cases hs:Kept1 q with
 | true=>exact attempt_calls w v q h hq hs htab
 | false=>exact attempt_panics w v q h hq hs htab
section
variable {w0:World} {env:List (Leaf rs3)} {r:List Entry}
abbrev TI(w0:World)(env:List (Leaf rs3))(L:List Entry):Prop:=ToldIn Tryz.prog w0.heap.size w0 (Gs env) (lookT L)
theorem pk2{G:Sett}{w:World}{a b:AT}{x y:Value}(h1:PieceOK G a x w)(h2:PieceOK G b y w):PackOK G (A2 a b) (.tuple #[x,y]) w:=⟨_,rfl,_,_,rfl,h1,_,_,rfl,h2,rfl⟩
theorem ps1{G:Sett}{w:World}{a:AT}{x:Value}(h1:PieceOK G a x w):PiecesOK G (A1 a) [x] w:=⟨_,_,rfl,h1,rfl⟩
theorem ps2{G:Sett}{w:World}{a b:AT}{x y:Value}(h1:PieceOK G a x w)(h2:PieceOK G b y w):PiecesOK G (A2 a b) [x,y] w:=⟨_,_,rfl,h1,_,_,rfl,h2,rfl⟩
end
end Go.Num
namespace Go.Num
open Go.Eng Go.Shelf Go.RowKit Go.Sort Go.Proofs Go.Proofs.YtepakfjilnpodaaGreatDoor
def SmallQ(q:Rat)(d:Nat):Bool:=decide (Lib.nDigits q.num.natAbs≤d) && decide (Lib.nDigits q.den≤d)
set_option maxRecDepth 100000 in
set_option maxHeartbeats 8000000 in
theorem isLong_calls(w:World)(v:Value)(q:Rat)(h:RatAt w v q)(hq:RatLe q 100000)(htab:Pow10 w) :
  CallsIn Fence.wide 0 Tryz.prog 218 #[v] w fun e w'=>e = .returned (.bool (!SmallQ q 20))∧Below w.heap.size w w':=by
 obtain⟨vn,vd,rfl,hn,hd⟩:=h
 have HN:=Hid.intro hn
 have HD:=Hid.intro hd
 obtain⟨sg,hsg⟩:∃sg,decide (q.num<0)=sg:=⟨_,rfl⟩
 obtain⟨o1,k1,c1,rfl,_,_⟩:=mag_len hn
 obtain⟨o2,k2,c2,rfl,_,_⟩:=mag_len hd
 rw [hsg]
 obtain⟨W1,hW1⟩:∃W,W=w.alloc (.cells #[.bool sg,.slice o1 k1 c1,.slice o2 k2 c2] 27):=⟨_,rfl⟩
 have HX:Hid (Box3 W1 w.heap.size (.bool sg) (.slice o1 k1 c1) (.slice o2 k2 c2)):=Hid.intro (by rw [hW1];exact box3_new _ _ _ _ _)
 have HBW:Hid (Below w.heap.size w W1):=Hid.intro (by rw [hW1];exact alloc_below _ _)
 have HP:=Hid.intro hq
 have HTab:=Hid.intro htab
 have y0:=HX.out.c0
 have y1:=HX.out.c1
 have y2:=HX.out.c2
 clear hn hd hsg hq htab
 refine callsIn_of_wp Tryz.func218 rfl trivial ?_ rfl
 simp only [Tryz.ntmps218,List.size_toArray,List.length_cons,List.length_nil,Nat.reduceAdd,Nat.reduceSub,Array.replicate_succ,Array.replicate_zero,List.push_toArray,List.append_toArray,List.nil_append,List.cons_append]
 rw [hW1]at y0 y1 y2
 gi_wp2_with (gi_at_call 141;refine stop ?_)
 unfold Stop
 rw [←hW1]at y0 y1 y2 ⊢
 obtain⟨g,hg⟩:∃g,w.heap.size=g:=⟨_,rfl⟩
 rw [hg]at HX y0 y1 y2
 rw [hg]
 clear hW1 hg
 refine(mString_calls W1 _ _ (HN.out.below HBW.out) HP.out.1 (HTab.out.below HBW.out)).mono ?_
 rintro e w2 ⟨rfl,hB⟩
 replace HX:=Hid.intro (HX.out.below hB)
 replace HBW:=Hid.intro (HBW.out.trans (hB.mono HBW.out.size))
 replace y0:=HX.out.c0
 replace y1:=HX.out.c1
 replace y2:=HX.out.c2
 obtain⟨S,hS⟩:∃S:ByteArray,(⟨(Lib.decDigits q.num.natAbs).toArray⟩:ByteArray)=S:=⟨_,rfl⟩
 have hsz:S.size=Lib.nDigits q.num.natAbs:=by rw [←hS,bytes_size,Lib.decDigits_length]
 rw [hS]
 obtain⟨d,hd⟩:∃d,Lib.nDigits q.num.natAbs=d:=⟨_,rfl⟩
 have HDd:=Hid.intro hd
 rw [hd]at hsz
 clear hB hS hd
 by_cases hd20:20<d
 ·have hdd:decide ((d:Int)>20)=true:=decide_eq_true (by omega)
  have HS:Hid (SmallQ q 20=false):=Hid.intro (by unfold SmallQ;rw [HDd.out,decide_eq_false (by omega)];rfl)
  gi_wp2_with (exfalso;exact undef_no (by assumption))
  all_goals (first|go_returns|go_ret|go_end0)
  exact⟨by rw [HS.out];rfl,HBW.out⟩
 ·have hdd:decide ((d:Int)>20)=false:=decide_eq_false (by omega)
  gi_wp2_with (gi_at_call 141;refine stop ?_)
  unfold Stop
  refine(mString_calls w2 _ _ (HD.out.below HBW.out) (by split;exact pow_pos' 100000;exact HP.out.2) (HTab.out.below HBW.out)).mono ?_
  rintro e w3 ⟨rfl,hB⟩
  replace HBW:=Hid.intro (HBW.out.trans (hB.mono HBW.out.size))
  obtain⟨S2,hS2⟩:∃S:ByteArray,(⟨(Lib.decDigits (if q.den=1 then 0 else q.den)).toArray⟩:ByteArray)=S:=⟨_,rfl⟩
  have hsz2:S2.size=Lib.nDigits (if q.den=1 then 0 else q.den):=by rw [←hS2,bytes_size,Lib.decDigits_length]
  rw [hS2]
  have hde:Lib.nDigits (if q.den=1 then 0 else q.den)=Lib.nDigits q.den:=by
   split
   ·rename_i h1;rw [h1,Lib.nDigits_small (show 0<10 by decide),Lib.nDigits_small (show 1<10 by decide)]
   ·rfl
  rw [hde]at hsz2
  obtain⟨d2,hd2⟩:∃d2,Lib.nDigits q.den=d2:=⟨_,rfl⟩
  have HS:Hid ((!SmallQ q 20)=decide (20<d2)):=Hid.intro (by
   unfold SmallQ
   rw [HDd.out,hd2,decide_eq_true (by omega),Bool.true_and]
   by_cases h:d2≤20
   ·rw [decide_eq_true h,decide_eq_false (by omega)];rfl
   ·rw [decide_eq_false h,decide_eq_true (by omega)];rfl)
  rw [hd2]at hsz2
  clear hB hS2 hde hd2 y0 y1 y2
  gi_wp2
  all_goals (first|go_returns|go_ret|go_end0)
  refine⟨?_,HBW.out⟩
  rw [HS.out]
  show Ending.returned (Value.bool (decide ((20:Int)<(d2:Int))))=_
  rw [show decide ((20:Int)<(d2:Int))=decide (20<d2)from decide_eq_decide.2 (by omega)]
end Go.Num
namespace Go.Num
open Go.Eng Go.Shelf Go.RowKit Go.Proofs Go.Proofs.YtepakfjilnpodaaGreatDoor
def cR(q:Rat):Tg:=match q.num with
 | .ofNat a => .bin 50 (.leaf a) (.leaf q.den)
 | .negSucc a => .bin 51 (.leaf (a+1)) (.leaf q.den)
def dR:Tg→Option Rat
 | .bin k (.leaf a) (.leaf b)=>bif Nat.beq k 50 then some (mkRat (.ofNat a) b)else bif Nat.beq k 51 then some (mkRat (-(.ofNat a)) b)else none
 | _=>none
theorem dR_cR(q:Rat):dR (cR q)=some q:=by
 have h:mkRat q.num q.den=q:=Rat.mkRat_self q
 unfold cR
 split
 ·rename_i a e
  rw [e]at h
  show some (mkRat (.ofNat a) q.den)=some q
  rw [h]
 ·rename_i a e
  rw [e]at h
  have h2:some (mkRat (Int.negSucc a) q.den)=some q:=by rw [h]
  exact h2
abbrev rs1:List TypeId:=[116]
theorem RatAt.kept1{w w':World}{v:Value}{q:Rat}(h:RatAt w v q)(hk:Go.Eng.Kept rs1 w w'):RatAt w' v q:=by
 obtain⟨vn,vd,e,h1,h2⟩:=h
 exact⟨vn,vd,e,h1.kept hk rfl,h2.kept hk rfl⟩
def IR1(t:Tg)(v:Value)(w:World):Prop:=match dR t with
 | some q=>RatAt w v q
 | none=>False
def GR:Sett where
 ids:=[]
 res:=rs1
 I:=IR1
 stable:=by
  intro t v w w' hk h
  unfold IR1 at h ⊢
  split at h
  ·exact h.kept1 hk
  ·exact h.elim
def clsR(t:Tg):Sh:=match dR t with
 | some _ => .agg 3
 | none => .one
theorem shapedR:Shaped GR clsR where
 ok:=by
  intro t v w h
  replace h:IR1 t v w:=h
  unfold IR1 at h
  unfold clsR
  split at h
  ·rename_i q e
   exact(leafR q).ok v w h
  ·exact h.elim
 det:=by
  intro t ht
  unfold clsR at ht
  split at ht <;> cases ht
theorem pR{w:World}{v:Value}{q:Rat}(h:RatAt w v q):PieceOK GR (.tag (cR q)) v w:=by
 show IR1 (cR q) v w
 unfold IR1
 rw [dR_cR]
 exact h
theorem uR{w:World}{v:Value}{t:Tg}{q:Rat}(hq:dR t=some q)(h:PieceOK GR (.tag t) v w):RatAt w v q:=by
 have h:IR1 t v w:=h
 unfold IR1 at h
 rw [hq]at h
 exact h
def sm(q:Rat):Bool:=Nat.blt q.num.natAbs 1000000000 && Nat.blt q.den 1000000000
theorem sm_le{q:Rat}(h:sm q=true):RatLe q 1:=by
 unfold sm at h
 rw [Bool.and_eq_true]at h
 exact⟨by rw [Nat.pow_one];exact bltN_lt h.1,by rw [Nat.pow_one];exact bltN_lt h.2⟩
theorem sm_kept{q:Rat}(h:sm q=true):Kept1 q=true:=by
 unfold sm at h
 rw [Bool.and_eq_true]at h
 have h1:=nDigits_9 (bltN_lt h.1)
 have h2:=nDigits_9 (bltN_lt h.2)
 unfold Kept1 SmallN
 rw [Bool.and_eq_true]
 refine⟨decide_eq_true (by omega),decide_eq_true ?_⟩
 split
 ·have:=nDigits_9 (show 0<1000000000 by decide);omega
 ·omega
def lN(n:Nat):List UInt8:=decF 20 n []
def lZ(z:Int):List UInt8:=match z with
 | .ofNat a=>lN a
 | .negSucc a=>45 :: lN (a+1)
def lQ(q:Rat):List UInt8:=bif Nat.beq q.den 1 then lZ q.num else lZ q.num ++ 47 :: lN q.den
theorem lN_is{n:Nat}(h:n<1000000000):lN n=Lib.decDigits n:=dec_fuel (k:=1) (by rw [Nat.pow_one];exact h) (by decide) (by decide)
theorem lZ_is{z:Int}(h:z.natAbs<1000000000):lZ z=Lib.itoa z:=by
 unfold lZ Lib.itoa
 split
 ·rename_i a
  have h0:¬(Int.ofNat a<0):=by show ¬((a:Int)<0);omega
  rw [if_neg h0,lN_is (by simpa using h)]
  rfl
 ·rename_i a
  rw [if_pos (Int.negSucc_lt_zero a),lN_is (by simpa using h)]
  rfl
theorem lQ_is{q:Rat}(h:sm q=true):textQ q=⟨⟨lQ q⟩⟩:=by
 unfold sm at h
 rw [Bool.and_eq_true]at h
 unfold textQ lQ textZ
 cases e:Nat.beq q.den 1 with
 | true=>
  rw [if_pos (Nat.eq_of_beq_eq_true e),cond_true,lZ_is (bltN_lt h.1)]
 | false=>
  rw [if_neg (fun e2=>by rw [e2]at e;cases e),cond_false,lZ_is (bltN_lt h.1),lN_is (bltN_lt h.2)]
def st(l:List UInt8):AT:=.val (.sc (.str ⟨⟨l⟩⟩))
def tR(q:Rat):AT:=.tag (cR q)
def unR(f:FuncId)(p:Rat):Option AT:=
 bif !sm p then none else
 bif Nat.beq f 66 then some (A1 (tR (-p)))else
 bif Nat.beq f 25 then some (A1 (vi (sgnR p)))else
 bif Nat.beq f 18 then some (A1 (st (lQ p)))else
 bif Nat.beq f 74 then some (A1 (tR p))else
 bif Nat.beq f 218 then some (A1 (vb false))else
 bif Nat.beq f 75 then some (A2 (st (lZ p.num)) (st (lN p.den)))else none
def biR(f:FuncId)(p q:Rat):Option AT:=
 bif !(sm p && sm q)then none else
 bif Nat.beq f 17 then(bif sm (p+q)then some (A2 (tR (p+q)) (vi 0))else none)else
 bif Nat.beq f 71 then some (A1 (tR (p+q)))else
 bif Nat.beq f 44 then(bif sm (p*q)then some (A2 (tR (p*q)) (vi 0))else none)else
 bif Nat.beq f 111 then some (A1 (tR (p*q)))else
 bif Nat.beq f 15 then some (A1 (vi (sgnR (p-q))))else
 bif Nat.beq q.num.natAbs 0 then none else
 bif Nat.beq f 45 then(bif sm (p/q)then some (A2 (tR (p/q)) (vi 0))else none)else
 bif Nat.beq f 61 then some (A1 (tR (p/q)))else none
def zAV:AV:=.agg (.cons (.sc (.bool false)) (.cons (.sc .nilSlice) (.cons (.sc .nilSlice) .nil)))
def numT:AT→Option Rat
 | .tag t=>dR t
 | .val (.agg cs)=>bif (AV.agg cs).beq zAV then some 0 else none
 | _=>none
def intT:AT→Option Int
 | .val (.sc (.int .i64 n))=>some n
 | _=>none
def TR:TTab:=fun f ts=>
 match ts with
 | .cons a .nil=>(match numT a with
  | some p=>unR f p
  | none=>match intT a with
   | some n=>bif Nat.beq f 16 && Nat.blt n.natAbs 1000000000 then some (A1 (tR (n:Rat)))else none
   | none=>none)
 | .cons a (.cons b .nil)=>(match numT a,numT b with
  | some p,some q=>biR f p q
  | _,_=>match intT a,intT b with
   | some n,some m=>bif Nat.beq f 13 && Nat.blt n.natAbs 1000000000 && Nat.blt m.natAbs 1000000000 && !Nat.beq m.natAbs 0 then some (A2 (tR ((n:Rat)/(m:Rat))) (vi 0))else none
   | _,_=>none)
 | _=>none
theorem numT_ok{w:World}{a:AT}{v:Value}{q:Rat}(hq:numT a=some q)(h:PieceOK GR a v w):RatAt w v q:=by
 unfold numT at hq
 split at hq
 ·exact uR hq h
 ·rename_i cs
  cases e:(AV.agg cs).beq zAV with
  | false=>rw [e]at hq;cases hq
  | true=>
   rw [e]at hq
   cases hq
   have:=AV.beq_eq e
   have h:(AV.agg cs).closed=some v:=h
   rw [this]at h
   cases h
   exact ratAt_zero w
 ·cases hq
theorem intT_ok{w:World}{a:AT}{v:Value}{n:Int}(hq:intT a=some n)(h:PieceOK GR a v w):v = .int .i64 n:=by
 unfold intT at hq
 split at hq
 ·cases hq
  have h:some (Value.int .i64 _)=some v:=h
  cases h;rfl
 ·cases hq
theorem bif_f{f k:Nat}{a b:Option AT}{r:AT}(h:(bif Nat.beq f k then a else b)=some r):(f=k∧a=some r)∨b=some r:=by
 cases e:Nat.beq f k with
 | true=>rw [e]at h;exact .inl ⟨Nat.eq_of_beq_eq_true e,h⟩
 | false=>rw [e]at h;exact .inr h
theorem bif_t{c:Bool}{a:Option AT}{r:AT}(h:(bif c then a else none)=some r):c=true∧a=some r:=by
 cases c with
 | true=>exact⟨rfl,h⟩
 | false=>cases h
theorem bif_n{c:Bool}{b:Option AT}{r:AT}(h:(bif c then none else b)=some r):c=false∧b=some r:=by
 cases c with
 | true=>cases h
 | false=>exact⟨rfl,h⟩
abbrev RetOK(w:World)(rs:AT)(e:Ending)(w':World):Prop:=∃x,e = .returned x∧PackOK GR rs x w'∧Below w.heap.size w w'
theorem unR_told{f:FuncId}{p:Rat}{rs:AT}(h:unR f p=some rs):(∃fn:Func,Tryz.prog.funcs[f]? = some fn∧fn.body.isSome=true)∧∀w v,RatAt w v p→Pow10 w→CallsIn Fence.wide 0 Tryz.prog f #[v] w (RetOK w rs):=by
 unfold unR at h
 obtain⟨hs,h⟩:=bif_n h
 have hs:sm p=true:=by simpa using hs
 have hL:RatLe p 100000:=(sm_le hs).mono (by decide)
 rcases bif_f h with⟨rfl,h⟩|h
 ·cases h
  refine⟨⟨_,Tryz.func66,rfl⟩,fun w v hv _=>(neg_calls w v p hv).mono ?_⟩
  rintro e w' ⟨x,rfl,hr,hb⟩
  exact⟨x,rfl,pR hr,hb⟩
 rcases bif_f h with⟨rfl,h⟩|h
 ·cases h
  refine⟨⟨_,Tryz.func25,rfl⟩,fun w v hv _=>(sign_calls w v p hv).mono ?_⟩
  rintro e w' ⟨rfl,hb⟩
  exact⟨_,rfl,rfl,hb⟩
 rcases bif_f h with⟨rfl,h⟩|h
 ·cases h
  refine⟨⟨_,Tryz.func18,rfl⟩,fun w v hv ht=>(string_calls w v p hv hL ht).mono ?_⟩
  rintro e w' ⟨rfl,hb⟩
  exact⟨_,rfl,by rw [lQ_is hs];rfl,hb⟩
 rcases bif_f h with⟨rfl,h⟩|h
 ·cases h
  refine⟨⟨_,Tryz.func74,rfl⟩,fun w v hv ht=>(kept_calls w v p hv hL (sm_kept hs) ht).mono ?_⟩
  rintro e w' ⟨x,rfl,hr,hb⟩
  exact⟨x,rfl,pR hr,hb⟩
 rcases bif_f h with⟨rfl,h⟩|h
 ·cases h
  refine⟨⟨_,Tryz.func218,rfl⟩,fun w v hv ht=>(isLong_calls w v p hv hL ht).mono ?_⟩
  rintro e w' ⟨rfl,hb⟩
  have hq:SmallQ p 20=true:=by
   unfold sm at hs
   rw [Bool.and_eq_true]at hs
   have h1:=nDigits_9 (bltN_lt hs.1)
   have h2:=nDigits_9 (bltN_lt hs.2)
   unfold SmallQ
   rw [decide_eq_true (by omega),decide_eq_true (by omega)];rfl
  rw [hq]
  exact⟨_,rfl,rfl,hb⟩
 rcases bif_f h with⟨rfl,h⟩|h
 ·cases h
  refine⟨⟨_,Tryz.func75,rfl⟩,fun w v hv ht=>(parts_calls w v p hv hL ht).mono ?_⟩
  rintro e w' ⟨rfl,hb⟩
  unfold sm at hs
  rw [Bool.and_eq_true]at hs
  refine⟨_,rfl,pk2 ?_ ?_,hb⟩
  ·show some (Value.string ⟨⟨lZ p.num⟩⟩)=_
   rw [lZ_is (bltN_lt hs.1)];rfl
  ·show some (Value.string ⟨⟨lN p.den⟩⟩)=_
   rw [lN_is (bltN_lt hs.2)];rfl
 ·cases h
theorem biR_told{f:FuncId}{p q:Rat}{rs:AT}(h:biR f p q=some rs):(∃fn:Func,Tryz.prog.funcs[f]? = some fn∧fn.body.isSome=true)∧∀w v u,RatAt w v p→RatAt w u q→Pow10 w→CallsIn Fence.wide 0 Tryz.prog f #[v,u] w (RetOK w rs):=by
 unfold biR at h
 obtain⟨hs,h⟩:=bif_n h
 have hs:sm p=true∧sm q=true:=by simpa using hs
 have hp:=sm_le hs.1
 have hq:=sm_le hs.2
 rcases bif_f h with⟨rfl,h⟩|h
 ·obtain⟨h1,h⟩:=bif_t h
  cases h
  refine⟨⟨_,Tryz.func17,rfl⟩,fun w v u hv hu ht=>(addR_calls w v u p q 1 hv hu hp hq (by decide) ((sm_le h1).mono (by decide)) (sm_kept h1) ht).mono ?_⟩
  rintro e w' ⟨x,rfl,hr,hb⟩
  exact⟨_,rfl,pk2 (pR hr) rfl,hb⟩
 rcases bif_f h with⟨rfl,h⟩|h
 ·cases h
  refine⟨⟨_,Tryz.func71,rfl⟩,fun w v u hv hu ht=>(plus_calls w v u p q 1 hv hu hp hq (by decide)).mono ?_⟩
  rintro e w' ⟨x,rfl,hr,hb⟩
  exact⟨_,rfl,pR hr,hb⟩
 rcases bif_f h with⟨rfl,h⟩|h
 ·obtain⟨h1,h⟩:=bif_t h
  cases h
  refine⟨⟨_,Tryz.func44,rfl⟩,fun w v u hv hu ht=>(mulR_calls w v u p q 1 hv hu hp hq (by decide) ((sm_le h1).mono (by decide)) (sm_kept h1) ht).mono ?_⟩
  rintro e w' ⟨x,rfl,hr,hb⟩
  exact⟨_,rfl,pk2 (pR hr) rfl,hb⟩
 rcases bif_f h with⟨rfl,h⟩|h
 ·cases h
  refine⟨⟨_,Tryz.func111,rfl⟩,fun w v u hv hu ht=>(times_calls w v u p q 1 hv hu hp hq (by decide)).mono ?_⟩
  rintro e w' ⟨x,rfl,hr,hb⟩
  exact⟨_,rfl,pR hr,hb⟩
 rcases bif_f h with⟨rfl,h⟩|h
 ·cases h
  refine⟨⟨_,Tryz.func15,rfl⟩,fun w v u hv hu ht=>(cmpR_calls w v u p q 1 hv hu hp hq (by decide)).mono ?_⟩
  rintro e w' ⟨rfl,hb⟩
  exact⟨_,rfl,rfl,hb⟩
 obtain⟨h0,h⟩:=bif_n h
 have hq0:q.num≠0:=by
  intro e
  rw [e]at h0
  cases h0
 rcases bif_f h with⟨rfl,h⟩|h
 ·obtain⟨h1,h⟩:=bif_t (c:=sm (p/q)) (a:=some (A2 (tR (p/q)) (vi 0))) h
  cases h
  refine⟨⟨_,Tryz.func45,rfl⟩,fun w v u hv hu ht=>(quoR_calls w v u p q 1 hv hu hp hq hq0 (by decide) ((sm_le h1).mono (by decide)) (sm_kept h1) ht).mono ?_⟩
  rintro e w' ⟨x,rfl,hr,hb⟩
  exact⟨_,rfl,pk2 (pR hr) rfl,hb⟩
 rcases bif_f h with⟨rfl,h⟩|h
 ·cases h
  refine⟨⟨_,Tryz.func61,rfl⟩,fun w v u hv hu ht=>(over_calls w v u p q 1 hv hu hp hq hq0 (by decide)).mono ?_⟩
  rintro e w' ⟨x,rfl,hr,hb⟩
  exact⟨_,rfl,pR hr,hb⟩
 ·cases h
def forceTg{β:Type}:Tg→(Tg→β)→β
 | .leaf n,k=>fN n fun n=>k (.leaf n)
 | .un n a,k=>fN n fun n=>forceTg a fun a=>k (.un n a)
 | .bin n a b,k=>fN n fun n=>forceTg a fun a=>forceTg b fun b=>k (.bin n a b)
theorem forceTg_eq{β:Type}:∀(t:Tg) (k:Tg→β),forceTg t k=k t
 | .leaf n,k=>by unfold forceTg;rw [fN_eq]
 | .un n a,k=>by unfold forceTg;rw [fN_eq,forceTg_eq a]
 | .bin n a b,k=>by unfold forceTg;rw [fN_eq,forceTg_eq a,forceTg_eq b]
def forceAT{β:Type}:AT→(AT→β)→β
 | .tag t,k=>forceTg t fun t=>k (.tag t)
 | .val v,k=>v.force fun v=>k (.val v)
 | .cons a b,k=>forceAT a fun a=>forceAT b fun b=>k (.cons a b)
 | t,k=>k t
theorem forceAT_eq{β:Type}:∀(t:AT) (k:AT→β),forceAT t k=k t
 | .tag t,k=>by unfold forceAT;rw [forceTg_eq]
 | .val v,k=>by unfold forceAT;rw [AV.force_eq]
 | .cons a b,k=>by unfold forceAT;rw [forceAT_eq a,forceAT_eq b]
 | .agg _,_=>rfl
 | .fn _ _ _,_=>rfl
 | .nil,_=>rfl
def TF:TTab:=fun f ts=>match TR f ts with
 | some r=>forceAT r some
 | none=>none
theorem TF_eq:TF=TR:=by
 funext f ts
 unfold TF
 cases TR f ts with
 | none=>rfl
 | some r=>exact forceAT_eq r some
theorem told_R{w0:World}(ht:Pow10 w0):ToldIn Tryz.prog w0.heap.size w0 GR TF:=by
 rw [TF_eq]
 intro f ts rs h
 unfold TR at h
 split at h
 ·rename_i a
  split at h
  ·rename_i p hp
   obtain⟨hb,hc⟩:=unR_told h
   refine⟨hb,fun w xs hw hx => ?_⟩
   obtain⟨v,r,e,h1,h2⟩:=hx
   have h2:r = []:=h2
   subst h2
   have:xs=#[v]:=Array.toList_inj.1 (by simpa using e)
   subst this
   exact callsIn_wide.1 (hc w v (numT_ok hp h1) (ht.below hw))
  ·split at h
   ·rename_i n hn'
    obtain⟨hc,h⟩:=bif_t h
    cases h
    rw [Bool.and_eq_true]at hc
    obtain rfl:=Nat.eq_of_beq_eq_true hc.1
    have hn:=bltN_lt hc.2
    refine⟨⟨_,Tryz.func16,rfl⟩,fun w xs hw hx => ?_⟩
    obtain⟨v,r,e,h1,h2⟩:=hx
    have h2:r = []:=h2
    subst h2
    have:xs=#[v]:=Array.toList_inj.1 (by simpa using e)
    subst this
    obtain rfl:=intT_ok hn' h1
    refine callsIn_wide.1 ((ofN_calls w n (by omega) (by omega)).mono ?_)
    rintro e w' ⟨x,rfl,hr,hb⟩
    exact⟨_,rfl,pR hr,hb⟩
   ·cases h
 ·rename_i a b
  split at h
  ·rename_i p q hp hq
   obtain⟨hb,hc⟩:=biR_told h
   refine⟨hb,fun w xs hw hx => ?_⟩
   obtain⟨v,r,e,h1,u,r2,e2,h2,h3⟩:=hx
   subst e2
   have h3:r2 = []:=h3
   subst h3
   have:xs=#[v,u]:=Array.toList_inj.1 (by simpa using e)
   subst this
   exact callsIn_wide.1 (hc w v u (numT_ok hp h1) (numT_ok hq h2) (ht.below hw))
  ·split at h
   ·rename_i n m hn' hm'
    obtain⟨hc,h⟩:=bif_t h
    cases h
    simp only [Bool.and_eq_true]at hc
    obtain⟨⟨⟨hf,hn⟩,hm⟩,h0⟩:=hc
    obtain rfl:=Nat.eq_of_beq_eq_true hf
    have hn:=bltN_lt hn
    have hm:=bltN_lt hm
    have hm0:m≠0:=by
     intro e
     subst e
     cases h0
    refine⟨⟨_,Tryz.func13,rfl⟩,fun w xs hw hx => ?_⟩
    obtain⟨v,r,e,h1,u,r2,e2,h2,h3⟩:=hx
    subst e2
    have h3:r2 = []:=h3
    subst h3
    have:xs=#[v,u]:=Array.toList_inj.1 (by simpa using e)
    subst this
    obtain rfl:=intT_ok hn' h1
    obtain rfl:=intT_ok hm' h2
    refine callsIn_wide.1 ((make_calls w n m (by omega) (by omega) (by omega) (by omega) hm0).mono ?_)
    rintro e w' ⟨x,rfl,hr,hb⟩
    exact⟨_,rfl,pk2 (pR hr) rfl,hb⟩
   ·cases h
 ·cases h
end Go.Num
