/-
  What 'open' makes of a chain: its rows, and who leads to whom.
  Conditions: none.
-/
import Derived.Test.YtepakfjilnpodaaGreatDoorRDAY
import Derived.Test.YtepakfjilnpodaaGreatDoorRDAW
namespace Go.Num
open Go.Eng Go.Shelf Go.RowKit Go.Sort Go.Proofs Go.Proofs.YtepakfjilnpodaaGreatDoor
def chL(v:Value)(S:Nat→Nat→Bool):List Value:=v :: (List.range 64).map fun k=>Value.bool (S (k/8) (k%8))
theorem chL_at{v:Value}{S:Nat→Nat→Bool}{a b:Nat}(ha:a<8)(hb:b<8):(chL v S)[1+a*8+b]? = some (.bool (S a b)):=by
 rw [show 1+a*8+b=(a*8+b)+1 by omega]
 show((List.range 64).map fun k=>Value.bool (S (k/8) (k%8)))[a*8+b]? = _
 rw [List.getElem?_map,List.getElem?_range (by omega)]
 show some (Value.bool (S ((a*8+b)/8) ((a*8+b)%8)))=_
 rw [show(a*8+b)/8=a by omega,show(a*8+b)%8=b by omega]
theorem chL_set{v:Value}{S:Nat→Nat→Bool}{a b:Nat}(x:Bool)(ha:a<8)(hb:b<8):(chL v S).set (1+a*8+b) (.bool x)=chL v fun a' b'=>if a'=a∧b'=b then x else S a' b':=by
 refine List.ext_getElem? fun j => ?_
 rw [List.getElem?_set]
 have hlen:∀T,(chL v T).length=65:=fun T=>by simp [chL]
 rw [hlen]
 rcases Nat.lt_or_ge j 65 with hj|hj
 ·match j,hj with
  | 0,_=>rw [if_neg (by omega)];rfl
  | k+1,hj=>
   obtain⟨c,d,hc,hd,rfl⟩:∃c d,c<8∧d<8∧k=c*8+d:=⟨k/8,k%8,by omega,by omega,by omega⟩
   rw [show c*8+d+1=1+c*8+d by omega,chL_at hc hd,chL_at hc hd]
   by_cases h:c=a∧d=b
   ·obtain⟨rfl,rfl⟩:=h
    rw [if_pos rfl,if_pos (by omega),if_pos ⟨rfl,rfl⟩]
   ·rw [if_neg (by omega),if_neg h]
 ·rw [List.getElem?_eq_none (by rw [hlen];exact hj),List.getElem?_eq_none (by rw [hlen];exact hj),if_neg (by omega)]
def ChP(w:World)(g:Nat)(v:Value)(D:Nat→Nat→Prop)(L:Nat→Nat→Bool):Prop:=∃S,Cel w g 133 (chL v S)∧∀a b,D a b→S a b=L a b
section
variable {w w':World} {g:Nat} {v:Value} {D D':Nat→Nat→Prop} {L L':Nat→Nat→Bool}
theorem ChP.below(h:ChP w g v D L)(hb:Below w.heap.size w w'):ChP w' g v D L:=h.elim fun S h=>⟨S,h.1.below hb,h.2⟩
theorem ChP.top(h:ChP w g v D L):w.cell? ⟨g,0,none⟩=some v:=h.elim fun _ h=>h.1.cell rfl
theorem ChP.cell(h:ChP w g v D L){a b:Nat}(ha:a<8)(hb:b<8)(hD:D a b):w.cell? ⟨g,1+a*8+b,none⟩=some (.bool (L a b)):=h.elim fun S h=>by
 rw [←h.2 a b hD];exact h.1.cell (chL_at ha hb)
theorem ChP.some(h:ChP w g v D L){a b:Nat}(ha:a<8)(hb:b<8):∃x,w.cell? ⟨g,1+a*8+b,none⟩=some (.bool x):=h.elim fun S h=>⟨S a b,h.1.cell (chL_at ha hb)⟩
theorem ChP.frozen(h:ChP w g v D L)(j:Nat):w.frozen? ⟨g,j,none⟩=false:=h.elim fun _ h=>h.1.frozen j
theorem ChP.put(h:ChP w g v D L){a b:Nat}(ha:a<8)(hb:b<8)(x:Bool)(hD:∀a' b',D' a' b'→(a'=a∧b'=b∧L' a' b'=x)∨(¬(a'=a∧b'=b)∧D a' b'∧L a' b'=L' a' b')) :
  ChP (w.setCell ⟨g,1+a*8+b,none⟩ (.bool x)) g v D' L':=by
 obtain⟨S,h1,h2⟩:=h
 refine⟨fun a' b'=>if a'=a∧b'=b then x else S a' b',?_,fun a' b' hd => ?_⟩
 ·have:=cel_set (o:=1+a*8+b) (.bool x) h1
  unfold Cel
  rw [this,←chL_set x ha hb]
  simp
 ·rcases hD a' b' hd with⟨e1,e2,e3⟩|⟨e1,e2,e3⟩
  ·show(if a'=a∧b'=b then x else S a' b')=_
   rw [if_pos ⟨e1,e2⟩,e3]
  ·show(if a'=a∧b'=b then x else S a' b')=_
   rw [if_neg e1,h2 a' b' e2,e3]
theorem ChP.new(w:World)(v:Value):ChP (w.alloc (.cells (chL v fun _ _=>false).toArray 133)) w.heap.size v (fun _ _=>False) L:=⟨_,Cel.new w 133 _,fun _ _ h=>h.elim⟩
theorem ChP.mono(h:ChP w g v D L)(hD:∀a b,D' a b→D a b∧L a b=L' a b):ChP w g v D' L':=h.elim fun S h=>⟨S,h.1,fun a b k=>by rw [h.2 a b (hD a b k).1,(hD a b k).2]⟩
end
def edM(M:List (List Rat))(i j:Nat):Bool:=decide (i=j) || decide (0<sgnR ((M.getD i []).getD j 0))
theorem good_rows{M:List (List Rat)}{n:Nat}:∀{k:Nat},firstBad M n k=false→∀i,i<k→(M.getD i []).length=n∧dsB (M.getD i [])=true
 | 0,_,i,hi=>by omega
 | k+1,h,i,hi=>by
  have h:(firstBad M n k || (decide ((M.getD k []).length≠n) || !dsB (M.getD k [])))=false:=h
  rw [Bool.or_eq_false_iff,Bool.or_eq_false_iff]at h
  rcases Nat.lt_or_ge i k with q|q
  ·exact good_rows h.1 i q
  ·have:i=k:=by omega
   subst this
   exact⟨by simpa using h.2.1,by simpa using h.2.2⟩
theorem l27:LoadMany Tryz.prog 27 3:=loadMany_of (by kernel_rfl) (by kernel_rfl)
theorem fld133b:FieldIn Tryz.prog 133 1 1:=fieldIn_of (by kernel_rfl)
theorem arr131:ItemArr Tryz.prog 131 8 8:=itemArr_of (e:=130) (inf:=Tryz.t130) (by kernel_rfl) (by kernel_rfl) (by kernel_rfl)
theorem arr130:ItemArr Tryz.prog 130 8 1:=itemArr_of (e:=4) (inf:=Tryz.t4) (by kernel_rfl) (by kernel_rfl) (by kernel_rfl)
theorem ch_addr(g a b:Nat):(((⟨g,0,none⟩:Addr).add 1).add (a*8)).add (b*1)=⟨g,1+a*8+b,none⟩:=by
 unfold Addr.add
 by_cases ha:a*8=0 <;> by_cases hb:b*1=0 <;> simp [ha,hb] <;> omega
theorem run_store1{w:World}{b o:Nat}{ty:TypeId}{v x:Value}(hv:v.cells=#[v])(h1:v.oneCell'=true)(hc:w.cell? ⟨b,o,none⟩=some x)(hf:w.frozen? ⟨b,o,none⟩=false)(hi:(Tryz.prog.info? ty).map (·.size)=some 1) :
  (Instr.storeAt ty (.pointer (some ⟨b,o,none⟩)) v).run Tryz.prog w = .ok () (w.setCell ⟨b,o,none⟩ v):=by
 have:=run_storeCells_cells (P:=Tryz.prog) b o [v] 0 w (fun j hj=>by
   have:j=0:=by simpa using hj
   subst this
   simp [hc]) (fun j hj=>by
   have:j=0:=by simpa using hj
   subst this
   simpa using hf) (fun u hu=>by rw [List.mem_singleton.1 hu];exact h1)
 cases hq:Tryz.prog.info? ty with
 | none=>simp [hq]at hi
 | some i=>
  have hs:i.size=1:=by simpa [hq]using hi
  simp only [Nat.add_zero]at this
  simp [Instr.storeAt,Instr.sureAddr,storeVar,sizeOf,typeInfo,hq,hv,hs,this,Sem.run_bind,Sem.run_pure,World.setCells]
theorem sign_c{w:World}{v:Value}{q:Rat}(h:RatAt w v q):CallsIn Fence.wide 0 Tryz.prog 25 #[v] w fun e w'=>∃v,e = .returned v∧v = .int .i64 (sgnR q)∧Below w.heap.size w w':=
 (sign_calls w v q h).mono (by rintro e w' ⟨rfl,hb⟩;exact⟨_,rfl,rfl,hb⟩)
set_option maxRecDepth 100000 in
set_option maxHeartbeats 4000000 in
theorem open_calls(w:World)(v:Value)(M:List (List Rat))(n:Nat)(h:MtC w v M)(hn:M.length=n)(h1:1≤n)(h8:n≤8)(hb:firstBad M n n=false)(hL:∀i,i<n→∀j,j<(M.getD i []).length→RatLe ((M.getD i []).getD j 0) 100000)(htab:Pow10 w) :
  CallsIn Fence.wide 0 Tryz.prog 103 #[v] w fun e w'=>∃g,e = .returned (.tuple #[.pointer (some ⟨g,0,none⟩),.int .i64 0])∧w.heap.size≤g∧ChP w' g v (fun a b=>a<n∧b<n) (ldW (edM M) n)∧Below w.heap.size w w':=by
 have HR:=Hid.intro h
 have HL:=Hid.intro hL
 have HT:=Hid.intro htab
 have HN:=Hid.intro hn
 have HG:=Hid.intro (good_rows hb)
 have HFB:=Hid.intro hb
 obtain⟨hk9,rv,⟨o,c,rfl,hn9,htop⟩,hrow⟩:=h
 rw [hn]at hk9 hn9 htop hrow ⊢
 obtain⟨am,rfl,ham,hcm⟩:=htop (by omega)
 have HTop:=Hid.intro hcm
 have HRow:=Hid.intro hrow
 clear hL htab hn hb htop hrow hcm
 refine callsIn_of_wp Tryz.func103 rfl trivial ?_ rfl
 simp only [Tryz.ntmps103,List.size_toArray,List.length_cons,List.length_nil,Nat.reduceAdd,Nat.reduceSub,Array.replicate_succ,Array.replicate_zero,List.push_toArray,List.append_toArray,List.nil_append,List.cons_append]
 gi_wp2_with (gi_at_call 169;refine stop ?_)
 unfold Stop
 rw [HN.out]at HR
 obtain⟨W0,hW0⟩:∃W,W=w.alloc (.cells #[.int .i64 (n:Int)] 3):=⟨_,rfl⟩
 rw [←hW0]
 have hb0:Below w.heap.size w W0:=by rw [hW0];exact alloc_below _ _
 have hc0:W0.cell? ⟨w.heap.size,0,none⟩=some (.int .i64 (n:Int)):=by rw [hW0];exact World.cell?_alloc_new _ _ _ _
 have HB0:=Hid.intro hb0
 have HC0:=Hid.intro hc0
 obtain⟨g4,hg4⟩:∃g,w.heap.size=g:=⟨_,rfl⟩
 rw [hg4]at HC0
 rw [hg4]
 have hg4w:w.heap.size≤g4:=by omega
 clear hW0 hb0 hc0 hg4
 refine(containsBad_calls W0 _ M n g4 n (HR.out.below HB0.out) HN.out (fun i hi=>by rw [(HG.out i hi).1];omega) HL.out HC0.out (HT.out.below HB0.out)).mono ?_
 rintro e w2 ⟨rfl,hB2⟩
 rw [HFB.out]
 have HB2:=Hid.intro (HB0.out.trans (hB2.mono HB0.out.size))
 clear hB2 HB0 HC0
 gi_wp2
 generalize hW5:w2.alloc (Obj.cells _ 133)=W5
 have hc5:ChP W5 w2.heap.size (.slice (some am) n c) (fun a b=>a<0∧b<n) (edM M):=by rw [←hW5];exact(ChP.new (L:=edM M) w2 _).mono (fun a b h=>absurd h.1 (Nat.not_lt_zero _))
 have hb5:Below w2.heap.size w2 W5:=by rw [←hW5];exact alloc_below _ _
 have HB5:=Hid.intro (HB2.out.trans (hb5.mono HB2.out.size))
 have hg5w:w.heap.size≤w2.heap.size:=HB2.out.size
 obtain⟨g5,hg5⟩:∃g,w2.heap.size=g:=⟨_,rfl⟩
 rw [hg5]at hc5 hg5w
 rw [hg5]
 have HC5:=Hid.intro hc5
 clear hW5 hb5 hc5 hg5 HB2
 gi_loopw [30] (fun x30 wr=>∃i:Nat,x30 = .int .i64 (i:Int)∧i≤n∧Hid (ChP wr g5 (.slice (some am) n c) (fun a b=>a<i∧b<n) (edM M))∧Hid (Below w.heap.size w wr)) (fun x _=>n-(intOf x).toNat)
 case atStart=>exact⟨0,rfl,by omega,HC5,HB5⟩
 case round=>
  obtain⟨i,rfl,hi,HCP,HB⟩:=hrel
  clear HC5 HB5
  by_cases hin:i<n
  ·obtain⟨oi,ci,hrv,_,hitem⟩:=HRow.out i hin
   rw [(HG.out i hin).1]at hrv
   have y0:wr.cell? (am.add i)=some (.slice oi n ci):=by rw [←hrv];exact(HB.out.cell (p:=am.add i) (by rw [add_block];exact ham)).trans (HTop.out i hin)
   obtain⟨x1,y1⟩:=HCP.out.some (a:=i) (b:=i) (by omega) (by omega)
   have y2:=HCP.out.frozen (1+i*8+i)
   have y3:(wr.setCell ⟨g5,1+i*8+i,none⟩ (.bool true)).cell? (am.add i)=some (.slice oi n ci):=by
    rw [World.cell?_setCell_other _ _ _ _ (fun e=>by have:=congrArg Addr.block e;rw [add_block]at this;have h2:g5=am.block:=this;omega)]
    exact y0
   clear hitem
   gi_wp2
   have HC1:Hid (ChP (wr.setCell ⟨g5,1+i*8+i,none⟩ (.bool true)) g5 (.slice (some am) n c) (fun a b=>(a<i∧b<n)∨(a=i∧b<0)) (edM M)):=Hid.intro (HCP.out.put (by omega) (by omega) true fun a b h => .inr ⟨by omega,by omega,rfl⟩)
   have HB1:=Hid.intro (HB.out.setCell (p:=⟨g5,1+i*8+i,none⟩) hg5w (.bool true))
   generalize wr.setCell ⟨g5,1+i*8+i,none⟩ (.bool true)=W6 at HC1 HB1 y3 ⊢
   clear y0 y1 y2 HCP HB
   gi_loopw [45] (fun x45 wi=>∃j:Nat,x45 = .int .i64 (j:Int)∧j≤n∧Hid (ChP wi g5 (.slice (some am) n c) (fun a b=>(a<i∧b<n)∨(a=i∧b<j)) (edM M))∧Hid (Below w.heap.size w wi)) (fun x _=>n-(intOf x).toNat)
   case atStart=>exact⟨0,rfl,by omega,HC1,HB1⟩
   case round=>
    obtain⟨j,rfl,hj,HCP,HB⟩:=hrel
    clear HC1 HB1 y3
    by_cases hjn:j<n
    ·obtain⟨q,hq⟩:∃q,(M.getD i [])[j]? = some q:=⟨_,getD_at (by rw [(HG.out i hin).1];exact hjn)⟩
     have hrc:=(HRow.out i hin).below HB.out
     rw [hrv]at hrc
     obtain⟨a',rfl,ha',sf,of1,kf1,cf1,of2,kf2,cf2,y0,y1,y2,hrf⟩:=hrc.item hq
     have HRF:=Hid.intro hrf
     have HQE:Hid ((M.getD i []).getD j 0=q):=Hid.intro (by rw [getD_at (by rw [(HG.out i hin).1];exact hjn)]at hq;injection hq)
     clear hq hrc hrf
     gi_wp2
     obtain⟨W7,hW7⟩:∃W,W=wr.alloc (Obj.cells #[Value.bool sf,Value.slice of1 kf1 cf1,Value.slice of2 kf2 cf2] 27):=⟨_,rfl⟩
     have hb7:Below wr.heap.size wr W7:=by rw [hW7];exact alloc_below _ _
     have hc8:Cel W7 wr.heap.size 27 [Value.bool sf,Value.slice of1 kf1 cf1,Value.slice of2 kf2 cf2]:=by rw [hW7];exact Cel.new _ _ _
     have hbd:Below wr.heap.size wr W7.drew:=hb7.trans ((drew_below W7).mono hb7.size)
     have HB7:=Hid.intro (HB.out.trans (hbd.mono HB.out.size))
     have HC8:=Hid.intro (hc8.below (drew_below W7))
     have HRF7:=Hid.intro (HRF.out.below hbd)
     have HCP7:=Hid.intro (HCP.out.below hbd)
     obtain⟨g8,hg8⟩:∃g,wr.heap.size=g:=⟨_,rfl⟩
     rw [←hW7]
     rw [hg8]at HC8
     rw [hg8]
     clear hb7 hc8 hbd hW7 hg8 y0 y1 y2 HCP HB HRF
     by_cases hij:i=j
     ·subst hij
      have HIJ:Hid (decide ((i:Int)=(i:Int))=true):=Hid.intro (by simp)
      obtain⟨x9,hx9⟩:=HCP7.out.some (a:=i) (b:=i) (by omega) (by omega)
      have HX9:=Hid.intro hx9
      clear hx9
      refine wpIn_region_gs (ro:=none) [8,15] [0,1,2,3,4,5,6,7,11,12,13,8,9,10,14,15] [0,0,0,0,0,24,56,120,248,504,1016,1,2049,6147,16383,32767] follows rfl 121 rfl (by kernel_rfl) (by kernel_rfl) ?_
      refine GS.mv (v:=.pointer (some ⟨g5,0,none⟩)) rfl rfl rfl rfl rfl ?_
      refine GS.mv (v:=.int .i64 (i:Int)) rfl rfl rfl rfl rfl ?_
      refine GS.mv (v:=.int .i64 (i:Int)) rfl rfl rfl rfl rfl ?_
      refine GS.mv (v:=.int .i64 (i:Int)) rfl rfl rfl rfl rfl ?_
      refine GS.mv (v:=.int .i64 (i:Int)) rfl rfl rfl rfl rfl ?_
      refine GS.eql (p:=(i:Int)) (q:=(i:Int)) (b:=true) HIJ.out rfl rfl rfl rfl rfl rfl ?_
      refine GS.mv (v:=.bool true) rfl rfl rfl rfl rfl ?_
      refine GS.skip rfl rfl rfl ⟨_,_,_,rfl,rfl,rfl,rfl⟩ ?_
      refine GS.nil rfl rfl rfl rfl rfl ?_
      refine GS.fld fld133b rfl rfl rfl rfl rfl ?_
      refine GS.ixA arr131 (k:=i) (by omega) rfl rfl rfl rfl rfl rfl ?_
      refine GS.skip rfl rfl rfl ⟨_,_,_,rfl,rfl,rfl,rfl⟩ ?_
      refine GS.skip rfl rfl rfl ⟨_,_,_,rfl,rfl,rfl,rfl⟩ ?_
      refine GS.pick (b:=true) (v:=.bool true) rfl rfl rfl rfl rfl rfl ?_
      refine GS.ixA arr130 (k:=i) (by omega) rfl rfl rfl rfl rfl rfl ?_
      refine GS.st (w':=_) trivial (by rw [ch_addr];exact run_store1 (x:=.bool x9) rfl rfl (HX9.out) (HCP7.out.frozen _) (by kernel_rfl)) rfl rfl rfl rfl rfl rfl ?_
      refine GS.done ?_
      have HC9:Hid (ChP (W7.drew.setCell ⟨g5,1+i*8+i,none⟩ (.bool true)) g5 (.slice (some am) n c) (fun a b=>(a<i∧b<n)∨(a=i∧b<i+1)) (edM M)):=Hid.intro (HCP7.out.put (by omega) (by omega) true fun a b h=>by
       by_cases e:a=i∧b=i
       ·obtain⟨rfl,rfl⟩:=e
        exact .inl ⟨rfl,rfl,by unfold edM;simp⟩
       ·exact .inr ⟨e,by omega,rfl⟩)
      have HB9:=Hid.intro (HB7.out.setCell (p:=⟨g5,1+i*8+i,none⟩) hg5w (.bool true))
      simp only [putAll,Go.Act.put,List.setIfInBounds_toArray,List.set_cons_succ,List.set_cons_zero]
      clear HCP7 HB7 HX9 HC8
      gi_wp2
      exact⟨⟨i+1,by go_num,by omega,HC9,HB9⟩,by simp only [intOf];omega⟩
     ·have HIJ:Hid (decide ((i:Int)=(j:Int))=false):=Hid.intro (decide_eq_false (by omega))
      refine wpIn_region_gs (ro:=none) [8,15] [0,1,2,3,4,5,6,7,11,12,13,8,9,10,14,15] [0,0,0,0,0,24,56,120,248,504,1016,1,2049,6147,16383,32767] follows rfl 121 rfl (by kernel_rfl) (by kernel_rfl) ?_
      refine GS.mv (v:=.pointer (some ⟨g5,0,none⟩)) rfl rfl rfl rfl rfl ?_
      refine GS.mv (v:=.int .i64 (i:Int)) rfl rfl rfl rfl rfl ?_
      refine GS.mv (v:=.int .i64 (j:Int)) rfl rfl rfl rfl rfl ?_
      refine GS.mv (v:=.int .i64 (i:Int)) rfl rfl rfl rfl rfl ?_
      refine GS.mv (v:=.int .i64 (j:Int)) rfl rfl rfl rfl rfl ?_
      refine GS.eql (p:=(i:Int)) (q:=(j:Int)) (b:=false) HIJ.out rfl rfl rfl rfl rfl rfl ?_
      refine GS.mv (v:=.bool false) rfl rfl rfl rfl rfl ?_
      refine GS.ldn (p:=⟨g8,0,none⟩) [.bool sf,.slice of1 kf1 cf1,.slice of2 kf2 cf2] l27 HC8.out.box.at9 rfl rfl ⟨_,_,_,rfl,rfl,rfl,rfl⟩ rfl rfl rfl (by decide) rfl ?_
      refine GS.nil rfl rfl rfl rfl rfl ?_
      refine GS.fld fld133b rfl rfl rfl rfl rfl ?_
      refine GS.ixA arr131 (k:=i) (by omega) rfl rfl rfl rfl rfl rfl ?_
      refine GS.call [.agg #[.bool sf,.slice of1 kf1 cf1,.slice of2 kf2 cf2]] Tryz.func25 rfl namesOK rfl ⟨_,_,_,rfl,rfl,rfl,rfl⟩ rfl rfl rfl rfl (sign_c HRF7.out) fun v2 w2 hv2 hB2 => ?_
      subst hv2
      have HC2:=Hid.intro (HCP7.out.below hB2)
      have HB2:=Hid.intro (HB7.out.trans (hB2.mono HB7.out.size))
      clear hB2
      refine GS.gtr (p:=sgnR q) (q:=0) (b:=decide (sgnR q>0)) rfl rfl ⟨_,_,_,rfl,rfl,rfl,rfl⟩ rfl rfl rfl rfl ?_
      refine GS.pick (b:=false) (v:=.bool (decide (sgnR q>0))) rfl rfl rfl rfl rfl rfl ?_
      refine GS.ixA arr130 (k:=j) (by omega) rfl rfl rfl rfl rfl rfl ?_
      refine GS.st (w':=_) trivial (by rw [ch_addr];exact run_store1 (x:=.bool _) rfl rfl ((HC2.out.some (a:=i) (b:=j) (by omega) (by omega)).choose_spec) (HC2.out.frozen _) (by kernel_rfl)) rfl rfl rfl rfl rfl rfl ?_
      refine GS.done ?_
      have HC9:Hid (ChP (w2.setCell ⟨g5,1+i*8+j,none⟩ (.bool (decide (sgnR q>0)))) g5 (.slice (some am) n c) (fun a b=>(a<i∧b<n)∨(a=i∧b<j+1)) (edM M)):=Hid.intro (HC2.out.put (by omega) (by omega) _ fun a b h=>by
       by_cases e:a=i∧b=j
       ·obtain⟨rfl,rfl⟩:=e
        exact .inl ⟨rfl,rfl,by unfold edM;rw [decide_eq_false hij,HQE.out];rfl⟩
       ·exact .inr ⟨e,by omega,rfl⟩)
      have HB9:=Hid.intro (HB2.out.setCell (p:=⟨g5,1+i*8+j,none⟩) hg5w (.bool (decide (sgnR q>0))))
      simp only [putAll,Go.Act.put,List.setIfInBounds_toArray,List.set_cons_succ,List.set_cons_zero]
      clear HCP7 HB7 HC8 HC2 HB2
      gi_wp2
      exact⟨⟨j+1,by go_num,by omega,HC9,HB9⟩,by simp only [intOf];omega⟩
    ·obtain rfl:j=n:=by omega
     gi_wp2
     exact⟨⟨i+1,by go_num,by omega,Hid.intro (HCP.out.mono fun a b h=>⟨by omega,rfl⟩),HB⟩,by simp only [intOf];omega⟩
  ·obtain rfl:i=n:=by omega
   have HC10:Hid (ChP wr g5 (.slice (some am) i c) (fun a b=>a<i∧b<i) (ldW (edM M) 0)):=HCP
   have HB10:=HB
   gi_wp2
   clear HCP HB
   gi_loopw [69] (fun x69 wr=>∃k:Nat,x69 = .int .i64 (k:Int)∧k≤i∧Hid (ChP wr g5 (.slice (some am) i c) (fun a b=>a<i∧b<i) (ldW (edM M) k))∧Hid (Below w.heap.size w wr)) (fun x _=>i-(intOf x).toNat)
   case atStart=>exact⟨0,rfl,by omega,HC10,HB10⟩
   case round=>
    obtain⟨k,rfl,hk,HCk,HBk⟩:=hrel
    clear HC10 HB10
    obtain⟨n,hn⟩:∃n,n=i:=⟨_,rfl⟩
    subst hn
    by_cases hkn:k<n
    ·gi_wp2
     have HC11:Hid (ChP wr g5 (.slice (some am) n c) (fun a b=>a<n∧b<n) (ldM (edM M) k 0 0)):=Hid.intro (HCk.out.mono fun a b h=>⟨h,(ldM_zero k a b).symm⟩)
     gi_loopw [74] (fun x74 wi=>∃i:Nat,x74 = .int .i64 (i:Int)∧i≤n∧Hid (ChP wi g5 (.slice (some am) n c) (fun a b=>a<n∧b<n) (ldM (edM M) k i 0))∧Hid (Below w.heap.size w wi)) (fun x _=>n-(intOf x).toNat)
     case atStart=>exact⟨0,rfl,by omega,HC11,HBk⟩
     case round=>
      obtain⟨i,rfl,hi,HCi,HBi⟩:=hrel
      clear HC11 HCk HBk
      by_cases hin:i<n
      ·gi_wp2
       gi_loopw [79] (fun x79 wi=>∃j:Nat,x79 = .int .i64 (j:Int)∧j≤n∧Hid (ChP wi g5 (.slice (some am) n c) (fun a b=>a<n∧b<n) (ldM (edM M) k i j))∧Hid (Below w.heap.size w wi)) (fun x _=>n-(intOf x).toNat)
       case atStart=>exact⟨0,rfl,by omega,HCi,HBi⟩
       case round=>
        obtain⟨j,rfl,hj,HCj,HBj⟩:=hrel
        clear HCi HBi
        by_cases hjn:j<n
        ·gi_wp2
         have HCd:=Hid.intro (HCj.out.below (drew_below wr))
         have HBd:=Hid.intro (HBj.out.trans ((drew_below wr).mono HBj.out.size))
         have y1:=HCd.out.cell (a:=i) (b:=j) (by omega) (by omega) ⟨hin,hjn⟩
         have HX9:=Hid.intro y1
         have y2:=HCd.out.cell (a:=i) (b:=k) (by omega) (by omega) ⟨hin,hkn⟩
         have y3:=HCd.out.cell (a:=k) (b:=j) (by omega) (by omega) ⟨hkn,hjn⟩
         rw [ldM_cur,←ch_addr]at y1
         rw [ldM_row,←ch_addr]at y2
         rw [ldM_col,←ch_addr]at y3
         have HEQ:Hid (ldW (edM M) (k+1) i j=(ldW (edM M) k i j || (ldW (edM M) k i k && ldW (edM M) k k j))):=Hid.intro rfl
         obtain⟨x,hx⟩:∃x,ldW (edM M) k k j=x:=⟨_,rfl⟩
         rw [hx]at y3 HEQ
         have key:∀z:Bool,ldW (edM M) (k+1) i j=z→ChP (wr.drew.setCell ⟨g5,1+i*8+j,none⟩ (.bool z)) g5 (.slice (some am) n c) (fun a b=>a<n∧b<n) (ldM (edM M) k i (j+1)):=fun z hz=>HCd.out.put (by omega) (by omega) z fun a b h=>by
          rw [ldM_next]
          by_cases e:a=i∧b=j
          ·exact .inl ⟨e.1,e.2,by rw [if_pos e,hz]⟩
          ·exact .inr ⟨e,h,by rw [if_neg e]⟩
         have HKey:=Hid.intro key
         clear HCj HBj key hx
         cases h1:ldW (edM M) k i j with
         | true=>
          rw [h1]at y1
          have HC9:=Hid.intro (HKey.out true (by rw [HEQ.out,h1];rfl))
          clear h1
          refine wpIn_region_gs (ro:=none) [35] [0,1,2,3,4,5,6,7,8,9,10,11,12,13,14,15,16,17,18,19,20,21,22,23,24,25,26,27,28,29,30,31,32,33,34,35] [0,0,0,0,0,0,8,72,216,504,1016,2040,4088,4088,4088,8184,40952,114680,262136,524280,1048568,2097144,2097144,2097144,4194296,20971512,58720248,134217720,268435448,536870904,1073741816,1,2147483649,6442450947,17179869183,34359738367] follows rfl 121 rfl (by kernel_rfl) (by kernel_rfl) ?_
          refine GS.mv (v:=.pointer (some ⟨g5,0,none⟩)) rfl rfl rfl rfl rfl ?_
          refine GS.mv (v:=.int .i64 (i:Int)) rfl rfl rfl rfl rfl ?_
          refine GS.mv (v:=.int .i64 (j:Int)) rfl rfl rfl rfl rfl ?_
          refine GS.mv (v:=.pointer (some ⟨g5,0,none⟩)) rfl rfl rfl rfl rfl ?_
          refine GS.mv (v:=.int .i64 (i:Int)) rfl rfl rfl rfl rfl ?_
          refine GS.mv (v:=.int .i64 (j:Int)) rfl rfl rfl rfl rfl ?_
          refine GS.nil rfl rfl rfl rfl rfl ?_
          refine GS.fld fld133b rfl rfl rfl rfl rfl ?_
          refine GS.ixA arr131 (k:=i) (by omega) rfl rfl rfl rfl rfl rfl ?_
          refine GS.ixA arr130 (k:=j) (by omega) rfl rfl rfl rfl rfl rfl ?_
          refine GS.ld1 (p:=(((⟨g5,0,none⟩:Addr).add 1).add (i*8)).add (j*1)) (v:=.bool true) l4 y1 rfl rfl rfl rfl rfl rfl ?_
          refine GS.mv (v:=.bool true) rfl rfl rfl rfl rfl ?_
          refine GS.skip rfl rfl rfl ⟨_,_,_,rfl,rfl,rfl,rfl⟩ ?_
          refine GS.skip rfl rfl rfl ⟨_,_,_,rfl,rfl,rfl,rfl⟩ ?_
          refine GS.skip rfl rfl rfl ⟨_,_,_,rfl,rfl,rfl,rfl⟩ ?_
          refine GS.skip rfl rfl rfl ⟨_,_,_,rfl,rfl,rfl,rfl⟩ ?_
          refine GS.skip rfl rfl rfl ⟨_,_,_,rfl,rfl,rfl,rfl⟩ ?_
          refine GS.skip rfl rfl rfl ⟨_,_,_,rfl,rfl,rfl,rfl⟩ ?_
          refine GS.skip rfl rfl rfl ⟨_,_,_,rfl,rfl,rfl,rfl⟩ ?_
          refine GS.skip rfl rfl rfl ⟨_,_,_,rfl,rfl,rfl,rfl⟩ ?_
          refine GS.skip rfl rfl rfl ⟨_,_,_,rfl,rfl,rfl,rfl⟩ ?_
          refine GS.skipU rfl rfl rfl rfl rfl rfl rfl ?_
          refine GS.skipU rfl rfl rfl rfl rfl rfl rfl ?_
          refine GS.skipU rfl rfl rfl rfl rfl rfl rfl ?_
          refine GS.skipU rfl rfl rfl rfl rfl rfl rfl ?_
          refine GS.skipU rfl rfl rfl rfl rfl rfl rfl ?_
          refine GS.skipU rfl rfl rfl rfl rfl rfl rfl ?_
          refine GS.skipU rfl rfl rfl rfl rfl rfl rfl ?_
          refine GS.skipU rfl rfl rfl rfl rfl rfl rfl ?_
          refine GS.skip rfl rfl rfl ⟨_,_,_,rfl,rfl,rfl,rfl⟩ ?_
          refine GS.pick (b:=true) (v:=.bool true) rfl rfl rfl rfl rfl rfl ?_
          refine GS.nil rfl rfl rfl rfl rfl ?_
          refine GS.fld fld133b rfl rfl rfl rfl rfl ?_
          refine GS.ixA arr131 (k:=i) (by omega) rfl rfl rfl rfl rfl rfl ?_
          refine GS.ixA arr130 (k:=j) (by omega) rfl rfl rfl rfl rfl rfl ?_
          refine GS.st (w':=_) trivial (by rw [ch_addr];exact run_store1 (x:=.bool _) rfl rfl (HX9.out) (HCd.out.frozen _) (by kernel_rfl)) rfl rfl rfl rfl rfl rfl ?_
          refine GS.done ?_
          have HB9:=Hid.intro (HBd.out.setCell (p:=⟨g5,1+i*8+j,none⟩) hg5w (.bool true))
          simp only [putAll,Go.Act.put,List.setIfInBounds_toArray,List.set_cons_succ,List.set_cons_zero]
          clear y1 y2 y3 HX9 HCd HBd
          gi_wp2
          exact⟨⟨j+1,by go_num,by omega,HC9,HB9⟩,by simp only [intOf];omega⟩
         | false=>
          rw [h1]at y1
          cases h2:ldW (edM M) k i k with
          | false=>
           rw [h2]at y2
           have HC9:=Hid.intro (HKey.out false (by rw [HEQ.out,h1,h2];rfl))
           clear h1 h2
           refine wpIn_region_gs (ro:=none) [35] [0,1,2,3,4,5,6,7,8,9,10,11,12,13,14,15,16,17,18,19,20,21,22,23,24,25,26,27,28,29,30,31,32,33,34,35] [0,0,0,0,0,0,8,72,216,504,1016,2040,4088,4088,4088,8184,40952,114680,262136,524280,1048568,2097144,2097144,2097144,4194296,20971512,58720248,134217720,268435448,536870904,1073741816,1,2147483649,6442450947,17179869183,34359738367] follows rfl 121 rfl (by kernel_rfl) (by kernel_rfl) ?_
           refine GS.mv (v:=.pointer (some ⟨g5,0,none⟩)) rfl rfl rfl rfl rfl ?_
           refine GS.mv (v:=.int .i64 (i:Int)) rfl rfl rfl rfl rfl ?_
           refine GS.mv (v:=.int .i64 (j:Int)) rfl rfl rfl rfl rfl ?_
           refine GS.mv (v:=.pointer (some ⟨g5,0,none⟩)) rfl rfl rfl rfl rfl ?_
           refine GS.mv (v:=.int .i64 (i:Int)) rfl rfl rfl rfl rfl ?_
           refine GS.mv (v:=.int .i64 (j:Int)) rfl rfl rfl rfl rfl ?_
           refine GS.nil rfl rfl rfl rfl rfl ?_
           refine GS.fld fld133b rfl rfl rfl rfl rfl ?_
           refine GS.ixA arr131 (k:=i) (by omega) rfl rfl rfl rfl rfl rfl ?_
           refine GS.ixA arr130 (k:=j) (by omega) rfl rfl rfl rfl rfl rfl ?_
           refine GS.ld1 (p:=(((⟨g5,0,none⟩:Addr).add 1).add (i*8)).add (j*1)) (v:=.bool false) l4 y1 rfl rfl rfl rfl rfl rfl ?_
           refine GS.mv (v:=.bool false) rfl rfl rfl rfl rfl ?_
           refine GS.mv (v:=.pointer (some ⟨g5,0,none⟩)) rfl ⟨_,_,_,rfl,rfl,rfl,rfl⟩ rfl rfl rfl ?_
           refine GS.mv (v:=.int .i64 (i:Int)) rfl ⟨_,_,_,rfl,rfl,rfl,rfl⟩ rfl rfl rfl ?_
           refine GS.mv (v:=.int .i64 (k:Int)) rfl ⟨_,_,_,rfl,rfl,rfl,rfl⟩ rfl rfl rfl ?_
           refine GS.nil rfl ⟨_,_,_,rfl,rfl,rfl,rfl⟩ rfl rfl rfl ?_
           refine GS.fld fld133b rfl ⟨_,_,_,rfl,rfl,rfl,rfl⟩ rfl rfl rfl ?_
           refine GS.ixA arr131 (k:=i) (by omega) rfl ⟨_,_,_,rfl,rfl,rfl,rfl⟩ rfl rfl rfl rfl ?_
           refine GS.ixA arr130 (k:=k) (by omega) rfl ⟨_,_,_,rfl,rfl,rfl,rfl⟩ rfl rfl rfl rfl ?_
           refine GS.ld1 (p:=(((⟨g5,0,none⟩:Addr).add 1).add (i*8)).add (k*1)) (v:=.bool false) l4 y2 rfl rfl ⟨_,_,_,rfl,rfl,rfl,rfl⟩ rfl rfl rfl ?_
           refine GS.mv (v:=.bool false) rfl ⟨_,_,_,rfl,rfl,rfl,rfl⟩ rfl rfl rfl ?_
           refine GS.skip rfl rfl rfl ⟨_,_,_,rfl,rfl,rfl,rfl⟩ ?_
           refine GS.skip rfl rfl rfl ⟨_,_,_,rfl,rfl,rfl,rfl⟩ ?_
           refine GS.skip rfl rfl rfl ⟨_,_,_,rfl,rfl,rfl,rfl⟩ ?_
           refine GS.skip rfl rfl rfl ⟨_,_,_,rfl,rfl,rfl,rfl⟩ ?_
           refine GS.skip rfl rfl rfl ⟨_,_,_,rfl,rfl,rfl,rfl⟩ ?_
           refine GS.skip rfl rfl rfl ⟨_,_,_,rfl,rfl,rfl,rfl⟩ ?_
           refine GS.skip rfl rfl rfl ⟨_,_,_,rfl,rfl,rfl,rfl⟩ ?_
           refine GS.skip rfl rfl rfl ⟨_,_,_,rfl,rfl,rfl,rfl⟩ ?_
           refine GS.pick (b:=false) (v:=.bool false) rfl rfl rfl ⟨_,_,_,rfl,rfl,rfl,rfl⟩ rfl rfl ?_
           refine GS.pick (b:=false) (v:=.bool false) rfl rfl rfl rfl rfl rfl ?_
           refine GS.nil rfl rfl rfl rfl rfl ?_
           refine GS.fld fld133b rfl rfl rfl rfl rfl ?_
           refine GS.ixA arr131 (k:=i) (by omega) rfl rfl rfl rfl rfl rfl ?_
           refine GS.ixA arr130 (k:=j) (by omega) rfl rfl rfl rfl rfl rfl ?_
           refine GS.st (w':=_) trivial (by rw [ch_addr];exact run_store1 (x:=.bool _) rfl rfl (HX9.out) (HCd.out.frozen _) (by kernel_rfl)) rfl rfl rfl rfl rfl rfl ?_
           refine GS.done ?_
           have HB9:=Hid.intro (HBd.out.setCell (p:=⟨g5,1+i*8+j,none⟩) hg5w (.bool false))
           simp only [putAll,Go.Act.put,List.setIfInBounds_toArray,List.set_cons_succ,List.set_cons_zero]
           clear y1 y2 y3 HX9 HCd HBd
           gi_wp2
           exact⟨⟨j+1,by go_num,by omega,HC9,HB9⟩,by simp only [intOf];omega⟩
          | true=>
           rw [h2]at y2
           have HC9:=Hid.intro (HKey.out x (by rw [HEQ.out,h1,h2];rfl))
           clear h1 h2
           refine wpIn_region_gs (ro:=none) [35] [0,1,2,3,4,5,6,7,8,9,10,11,12,13,14,15,16,17,18,19,20,21,22,23,24,25,26,27,28,29,30,31,32,33,34,35] [0,0,0,0,0,0,8,72,216,504,1016,2040,4088,4088,4088,8184,40952,114680,262136,524280,1048568,2097144,2097144,2097144,4194296,20971512,58720248,134217720,268435448,536870904,1073741816,1,2147483649,6442450947,17179869183,34359738367] follows rfl 121 rfl (by kernel_rfl) (by kernel_rfl) ?_
           refine GS.mv (v:=.pointer (some ⟨g5,0,none⟩)) rfl rfl rfl rfl rfl ?_
           refine GS.mv (v:=.int .i64 (i:Int)) rfl rfl rfl rfl rfl ?_
           refine GS.mv (v:=.int .i64 (j:Int)) rfl rfl rfl rfl rfl ?_
           refine GS.mv (v:=.pointer (some ⟨g5,0,none⟩)) rfl rfl rfl rfl rfl ?_
           refine GS.mv (v:=.int .i64 (i:Int)) rfl rfl rfl rfl rfl ?_
           refine GS.mv (v:=.int .i64 (j:Int)) rfl rfl rfl rfl rfl ?_
           refine GS.nil rfl rfl rfl rfl rfl ?_
           refine GS.fld fld133b rfl rfl rfl rfl rfl ?_
           refine GS.ixA arr131 (k:=i) (by omega) rfl rfl rfl rfl rfl rfl ?_
           refine GS.ixA arr130 (k:=j) (by omega) rfl rfl rfl rfl rfl rfl ?_
           refine GS.ld1 (p:=(((⟨g5,0,none⟩:Addr).add 1).add (i*8)).add (j*1)) (v:=.bool false) l4 y1 rfl rfl rfl rfl rfl rfl ?_
           refine GS.mv (v:=.bool false) rfl rfl rfl rfl rfl ?_
           refine GS.mv (v:=.pointer (some ⟨g5,0,none⟩)) rfl ⟨_,_,_,rfl,rfl,rfl,rfl⟩ rfl rfl rfl ?_
           refine GS.mv (v:=.int .i64 (i:Int)) rfl ⟨_,_,_,rfl,rfl,rfl,rfl⟩ rfl rfl rfl ?_
           refine GS.mv (v:=.int .i64 (k:Int)) rfl ⟨_,_,_,rfl,rfl,rfl,rfl⟩ rfl rfl rfl ?_
           refine GS.nil rfl ⟨_,_,_,rfl,rfl,rfl,rfl⟩ rfl rfl rfl ?_
           refine GS.fld fld133b rfl ⟨_,_,_,rfl,rfl,rfl,rfl⟩ rfl rfl rfl ?_
           refine GS.ixA arr131 (k:=i) (by omega) rfl ⟨_,_,_,rfl,rfl,rfl,rfl⟩ rfl rfl rfl rfl ?_
           refine GS.ixA arr130 (k:=k) (by omega) rfl ⟨_,_,_,rfl,rfl,rfl,rfl⟩ rfl rfl rfl rfl ?_
           refine GS.ld1 (p:=(((⟨g5,0,none⟩:Addr).add 1).add (i*8)).add (k*1)) (v:=.bool true) l4 y2 rfl rfl ⟨_,_,_,rfl,rfl,rfl,rfl⟩ rfl rfl rfl ?_
           refine GS.mv (v:=.bool true) rfl ⟨_,_,_,rfl,rfl,rfl,rfl⟩ rfl rfl rfl ?_
           refine GS.mv (v:=.pointer (some ⟨g5,0,none⟩)) rfl ⟨_,_,_,rfl,rfl,rfl,rfl⟩ rfl rfl rfl ?_
           refine GS.mv (v:=.int .i64 (k:Int)) rfl ⟨_,_,_,rfl,rfl,rfl,rfl⟩ rfl rfl rfl ?_
           refine GS.mv (v:=.int .i64 (j:Int)) rfl ⟨_,_,_,rfl,rfl,rfl,rfl⟩ rfl rfl rfl ?_
           refine GS.nil rfl ⟨_,_,_,rfl,rfl,rfl,rfl⟩ rfl rfl rfl ?_
           refine GS.fld fld133b rfl ⟨_,_,_,rfl,rfl,rfl,rfl⟩ rfl rfl rfl ?_
           refine GS.ixA arr131 (k:=k) (by omega) rfl ⟨_,_,_,rfl,rfl,rfl,rfl⟩ rfl rfl rfl rfl ?_
           refine GS.ixA arr130 (k:=j) (by omega) rfl ⟨_,_,_,rfl,rfl,rfl,rfl⟩ rfl rfl rfl rfl ?_
           refine GS.ld1 (p:=(((⟨g5,0,none⟩:Addr).add 1).add (k*8)).add (j*1)) (v:=.bool x) l4 y3 rfl rfl ⟨_,_,_,rfl,rfl,rfl,rfl⟩ rfl rfl rfl ?_
           refine GS.pick (b:=true) (v:=.bool x) rfl rfl rfl ⟨_,_,_,rfl,rfl,rfl,rfl⟩ rfl rfl ?_
           refine GS.pick (b:=false) (v:=.bool x) rfl rfl rfl rfl rfl rfl ?_
           refine GS.nil rfl rfl rfl rfl rfl ?_
           refine GS.fld fld133b rfl rfl rfl rfl rfl ?_
           refine GS.ixA arr131 (k:=i) (by omega) rfl rfl rfl rfl rfl rfl ?_
           refine GS.ixA arr130 (k:=j) (by omega) rfl rfl rfl rfl rfl rfl ?_
           refine GS.st (w':=_) trivial (by rw [ch_addr];exact run_store1 (x:=.bool _) rfl rfl (HX9.out) (HCd.out.frozen _) (by kernel_rfl)) rfl rfl rfl rfl rfl rfl ?_
           refine GS.done ?_
           have HB9:=Hid.intro (HBd.out.setCell (p:=⟨g5,1+i*8+j,none⟩) hg5w (.bool x))
           simp only [putAll,Go.Act.put,List.setIfInBounds_toArray,List.set_cons_succ,List.set_cons_zero]
           clear y1 y2 y3 HX9 HCd HBd
           gi_wp2
           exact⟨⟨j+1,by go_num,by omega,HC9,HB9⟩,by simp only [intOf];omega⟩
        ·obtain rfl:j=n:=by omega
         gi_wp2
         exact⟨⟨i+1,by go_num,by omega,Hid.intro (HCj.out.mono fun a b h=>⟨h,ldM_turn k i a h.2⟩),HBj⟩,by simp only [intOf];omega⟩
      ·obtain rfl:i=n:=by omega
       gi_wp2
       exact⟨⟨k+1,by go_num,by omega,Hid.intro (HCi.out.mono fun a b h=>⟨h,by rw [ldM_round k b h.1,ldM_zero]⟩),HBi⟩,by simp only [intOf];omega⟩
    ·obtain rfl:k=n:=by omega
     gi_wp2
     all_goals (first|go_returns|go_ret|go_end0)
     exact⟨g5,rfl,hg5w,HCk.out,HBk.out⟩
end Go.Num
