/-
  A row of a matrix of one's own grows; the program's 'Inverse'. Rows of fractions brought to integers. Small matrices: what the two eliminati
  Conditions: see each statement.
-/
import Derived.Test.YtoamcgjbelhnkaaGreatDoorPAX
import Derived.Maps.AppendAt
import Derived.Test.YtoamcgjbelhnkaaGreatDoorPAA
import Derived.Test.YtoamcgjbelhnkaaGreatDoorPAR
import Derived.Test.YtoamcgjbelhnkaaGreatDoorPAW
import Derived.Test.YtoamcgjbelhnkaaGreatDoorPAS
set_option maxRecDepth 100000
set_option maxHeartbeats 16000000
namespace Go.Num
open Go.Eng Go.Shelf Go.RowKit Go.Sort Go.Proofs Go.Proofs.YtoamcgjbelhnkaaGreatDoor
attribute [local go_sem] Oper.semAt_some
section
variable {β:Type} {w w':World} {base tyO tyI sz:Nat} {I:β→List Value→World→Prop} {v:Value} {rvs:List Value} {rows:List (List β)}
theorem zav.regrow(h:zav w base tyO tyI sz I v rvs rows)(hne:tyO≠tyI){g cap i:Nat}(hv:v = .slice (some ⟨g,0,none⟩) rvs.length cap){u u':Value}{l l':List β}(hu:rvs[i]? = some u)(hul:rows[i]? = some l)
  (hk:∀b,b<w.heap.size→some b≠u.ownBlock→w'.heap[b]? = w.heap[b]?) (hu':OwnR w' base tyI sz I u' l') (hl':0<l'.length) (hd:u'.ownBlock=u.ownBlock∨∃b,u'.ownBlock=some b∧w.heap.size≤b)
  (hI:∀b r,I b r w→I b r w') (hI2:∀b r,I b r w'→I b r (w'.setCells g (i*1) [u'])) :
  zav (w'.setCells g (i*1) [u']) base tyO tyI sz I v (rvs.set i u') (rows.set i l')∧w'.there g (i*1) 1:=by
 have hi:i<rvs.length:=(List.getElem?_eq_some_iff.1 hu).1;obtain⟨gu,cu,eu,gu1,gu2,curu,gu3⟩:=(h.row i u l hu hul).own (h.ne l (List.mem_of_getElem? hul));subst hv;have hgb:∃cur,w.heap[g]? = some (.cells cur tyO (0,0)):=by
  obtain⟨g',cap',e,_,_,cur,hc⟩:=h.top.own (by omega);injection e with e;injection e with e;injection e with e;subst e;exact⟨cur,hc⟩
 obtain⟨cur,hgb⟩:=hgb;have hgu:u.ownBlock=some gu:=by rw [eu];rfl
 have htop:OwnR w' base tyO 1 (fun u r _=>r = [u]) (.slice (some ⟨g,0,none⟩) rvs.length cap) rvs:=h.top.keep (fun b hb hlt=>hk b hlt (fun e=>by
  rw [hgu]at e
  cases e
  have e2:gu=g:=by simpa [Value.ownBlock]using hb.symm
  subst e2;rw [hgb]at gu3
  cases gu3
  exact hne rfl)) (fun _ _ q=>q)
 obtain⟨h1,h2⟩:=htop.store (by decide) hi (row:=[u']) (b:=u') rfl (fun _ _ q=>q) rfl;have hgb':w'.heap[g]? = some (.cells cur tyO (0,0)):=by
  rw [hk g (Array.getElem?_eq_some_iff.1 hgb).1 (fun e=>by
   rw [hgu]at e
   cases e
   rw [hgb]at gu3
   cases gu3
   exact hne rfl)]
  exact hgb
 have far:∀{u1:Value} {l1:List β},OwnR w' base tyI sz I u1 l1→0<l1.length→OwnR (w'.setCells g (i*1) [u']) base tyI sz I u1 l1:=by
  intro u1 l1 hu hl;obtain⟨b,cb,e,_,_,cur',hcb⟩:=hu.own hl;refine hu.keep (fun k hk hlt => ?_) hI2;rw [e]at hk;cases hk;refine(zal g [u'] (i*1) w').blk b hlt (fun e => ?_);subst e;rw [hgb']at hcb
  cases hcb
  exact hne rfl
 have hne':∀(j:Nat) (u1:Value),rvs[j]? = some u1→j≠i→u'.ownBlock≠u1.ownBlock:=fun j u1 hj hji e=>by
  rcases hd with hd|⟨b,hd,hb⟩
  ·exact hji (h.inj j i u1 u hj hu (by rw [←e,hd]))
  ·have hjl:j<rows.length:=by rw [h.len];exact(List.getElem?_eq_some_iff.1 hj).1
   have:=(h.row j u1 _ hj (List.getElem?_eq_getElem hjl)).lt (k:=b) (by rw [←e,hd]);omega
 refine⟨⟨h1,by simp [h.len],?_,?_,?_⟩,h2⟩
 ·intro j u1 l1 hj hl1;by_cases hji:j=i
  ·subst hji;rw [List.getElem?_set_self hi]at hj;rw [List.getElem?_set_self (by rw [h.len];exact hi)]at hl1
   cases hj;cases hl1
   exact far hu' hl'
  ·rw [List.getElem?_set_ne (Ne.symm hji)]at hj hl1;have hr:=h.row j u1 l1 hj hl1;have hln:=h.ne l1 (List.mem_of_getElem? hl1);refine far (hr.keep (fun b hb hlt=>hk b hlt (fun e=>hji (h.inj j i u1 u hj hu (by rw [hb,e])))) hI) hln
 ·intro l1 hl1;rcases List.mem_or_eq_of_mem_set hl1 with q|q
  ·exact h.ne l1 q
  ·rw [q];exact hl'
 ·intro a c u1 u2 ha hc e;by_cases hai:a=i
  ·by_cases hci:c=i
   ·rw [hai,hci]
   ·subst hai;rw [List.getElem?_set_self hi]at ha;rw [List.getElem?_set_ne (Ne.symm hci)]at hc
    cases ha
    exact absurd e (hne' c u2 hc hci)
  ·rw [List.getElem?_set_ne (Ne.symm hai)]at ha;by_cases hci:c=i
   ·subst hci;rw [List.getElem?_set_self hi]at hc
    cases hc
    exact absurd e.symm (hne' a u1 ha hai)
   ·rw [List.getElem?_set_ne (Ne.symm hci)]at hc;exact h.inj a c u1 u2 ha hc e
end
theorem zav.grow{w:World}{base:Nat}{v:Value}{rvs:List Value}{rows:List (List Rat)}(h:zav w base 64 25 3 IR v rvs rows){g cap i:Nat}(hv:v = .slice (some ⟨g,0,none⟩) rvs.length cap){u:Value}{l:List Rat}(hu:rvs[i]? = some u)(hul:rows[i]? = some l)(hb:base≤w.heap.size)(h9:l.length<500000000)
  {row:List Value} {x:Rat} (hrow:row.length=3) (hx:IR x row w) (tx:TypeId) :
  ∃u' w',(Builtin.append_ #[64,64] tx #[u,.slice (some ⟨w.heap.size,0,none⟩) 1 1]).run Tryz.prog (w.alloc (.cells row.toArray 25)) = .ok u' w' ∧
   zav (w'.setCells g (i*1) [u']) base 64 25 3 IR v (rvs.set i u') (rows.set i (l ++ [x]))∧w'.there g (i*1) 1∧base≤g∧(∀B0 w0,Below B0 w0 w→B0≤base→Below B0 w0 (w'.setCells g (i*1) [u']))∧(∃o k c,u' = .slice o k c)∧Elem w g 64 ∧
   (∃b,u.ownBlock=some b∧∃cur,w.heap[b]? = some (.cells cur 25 (0,0)))∧(∀b,b<w.heap.size→some b≠u.ownBlock→w'.heap[b]? = w.heap[b]?)∧w.heap.size≤w'.heap.size:=by
 have HO:=h.row i u l hu hul;obtain⟨gu,cu,eu,gu1,gu2,curu,gu3⟩:=HO.own (h.ne l (List.mem_of_getElem? hul));obtain⟨xs,h1,h2,h3,h4⟩:=HO;obtain⟨u',w',hrun,g1,g2,_,g4⟩:=run_append_own_at (P:=Tryz.prog) (w:=w.alloc (.cells row.toArray 25)) base 64 tx 25 Tryz.t25 _ 3 56 Go.Num.u64 i25' i25z i25s i25b rfl (by decide) u l.length xs.flatten (World.ownsRow.alloc h1 _) ⟨w.heap.size,0,none⟩ 1 1 row (by rw [hrow]) (fun j y hy=>by rw [Addr.add_lit,Nat.zero_add,World.cell?_alloc_new];simpa using hy) (IR.one hx) (by unfold maxLen;omega) (by omega) (by simp;omega);have hgu:u.ownBlock=some gu:=by rw [eu];rfl
 have hk:∀b,b<w.heap.size→some b≠u.ownBlock→w'.heap[b]? = w.heap[b]?:=fun b hb hne=>by
  rw [g2.block b (by simp;omega) (fun e=>hne e),(zaa w _).block b hb]
 have hsz:w.heap.size≤w'.heap.size:=Nat.le_trans (by simp) g2.size;have hT:Touch 25 w w':=⟨hsz,fun b cs e fz hb hne=>by
  rw [hk b (Array.getElem?_eq_some_iff.1 hb).1 (fun q=>by
   rw [hgu]at q
   cases q
   rw [gu3]at hb;cases hb;exact hne rfl)]
  exact hb⟩
 have hIw:∀b r,IR b r w→IR b r w':=fun b r q=>IR.touch hT rfl b r q
 have hO':OwnR w' base 25 3 IR u' (l ++ [x]):=by
  refine⟨xs ++ [row],?_,by simp [h2],fun r hr => ?_,fun k r b' hr hb' => ?_⟩
  ·rw [List.flatten_append,List.length_append];simpa using g1
  ·rcases List.mem_append.1 hr with q|q
   ·exact h3 r q
   ·rw [List.mem_singleton.1 q,hrow]
  ·rcases Nat.lt_or_ge k l.length with hi|hi
   ·rw [List.getElem?_append_left (by omega)]at hr hb';exact hIw _ _ (h4 k r b' hr hb')
   ·rw [List.getElem?_append_right (by omega)]at hr hb';rw [h2]at hr;rcases Nat.eq_zero_or_pos (k-l.length)with q|q
    ·rw [q]at hr hb';have hr:row=r:=by simpa using hr
     have hb':x=b':=by simpa using hb'
     rw [←hr,←hb'];exact hIw _ _ hx
    ·rw [List.getElem?_eq_none (by simp;omega)]at hr
     cases hr
 obtain⟨gt,ct,et,gt1,_,curt,gt3⟩:=h.top.own (by have:=(List.getElem?_eq_some_iff.1 hu).1;omega);rw [hv]at et;injection et with et;injection et with et;injection et with et;subst et;have hgb':Elem w' g 64:=by
  refine⟨curt,(0,0),?_⟩;rw [hk g (Array.getElem?_eq_some_iff.1 gt3).1 (fun e=>by
   rw [hgu]at e
   cases e
   rw [gt3]at gu3;cases gu3)]
  exact gt3
 have hr:=h.regrow (by decide) hv hu hul hk hO' (by simp) (by
  rcases g4 with g4|g4
  ·exact .inl g4
  ·exact .inr ⟨_,g4,by simp⟩) hIw (fun b r q=>zao.kept (show zao w' (.agg r.toArray) b from q) ((zal g [u'] (i*1) w').kept hgb' rfl))
 refine⟨u',w',hrun,hr.1,hr.2,gt1,fun B0 w0 hb0 hB => ?_,?_,⟨curt,_,gt3⟩,⟨gu,hgu,curu,gu3⟩,hk,hsz⟩
 ·refine(zbU (by omega) _ _ _ ?_);refine⟨g2.os.trans hb0.os,g2.tape.trans hb0.tape,g2.output.trans hb0.output,Nat.le_trans hb0.size hsz,fun k hk' => ?_⟩;have hks:k<w.heap.size:=Nat.lt_of_lt_of_le hk' (Nat.le_trans hB hb);rw [hk k hks (fun e=>by rw [hgu]at e;cases e;omega),hb0.block k hk']
 ·obtain⟨o,c,e⟩:=hO'.form;exact⟨o,_,c,e⟩
def zaj(A:Nat→Nat→Rat)(n:Nat):Nat→Nat→Rat:=fun i j=>if j<n then A i j else if j-n=i then 1 else 0
def aug(A:Nat→Nat→Rat)(n i j:Nat):List (List Rat):=(List.range n).map fun i'=>rowF (zaj A n i') (if i'<i then n+n else if i'=i then n+j else n)
theorem zoQ{a b:Nat→Rat}{n:Nat}(h:∀j,j<n→a j=b j):rowF a n=rowF b n:=List.map_congr_left fun j hj=>h j (List.mem_range.1 hj)
theorem zhN(a:Nat→Rat)(n:Nat):rowF a (n+1)=rowF a n ++ [a n]:=by simp [rowF,List.range_succ]
theorem zse(A:Nat→Nat→Rat)(n:Nat):aug A n 0 0=tab n n A:=by
 refine List.map_congr_left fun i _ => ?_
 show rowF (zaj A n i) (if i<0 then n+n else if i=0 then n+0 else n)=rowF (A i) n
 rw [if_neg (Nat.not_lt_zero _),Nat.add_zero,ite_self];exact zoQ fun j hj=>by unfold zaj;rw [if_pos hj]
theorem zq3{A:Nat→Nat→Rat}{n i j k:Nat}(h:k<n):(aug A n i j)[k]? = some (rowF (zaj A n k) (if k<i then n+n else if k=i then n+j else n)):=by simp [aug,h]
theorem znk{A:Nat→Nat→Rat}{n i j:Nat}(h:i<n):(aug A n i j)[i]? = some (rowF (zaj A n i) (n+j)):=by
 rw [zq3 h,if_neg (Nat.lt_irrefl _),if_pos rfl]
theorem ziQ(A:Nat→Nat→Rat)(n i j:Nat):(aug A n i j).length=n:=by simp [aug]
theorem zox{A:Nat→Nat→Rat}{n i j:Nat}(h:i<n):(aug A n i j).set i (rowF (zaj A n i) (n+j) ++ [zaj A n i (n+j)])=aug A n i (j+1):=by
 refine List.ext_getElem? fun k => ?_
 rcases Nat.lt_or_ge k n with hk|hk
 ·by_cases e:k=i
  ·subst e;rw [List.getElem?_set_self (by rw [ziQ];exact hk),znk hk,←zhN];rfl
  ·rw [List.getElem?_set_ne (Ne.symm e),zq3 hk,zq3 hk,if_neg e,if_neg e]
 ·rw [List.getElem?_eq_none (by rw [List.length_set,ziQ];exact hk),List.getElem?_eq_none (by rw [ziQ];exact hk)]
theorem zsf{A:Nat→Nat→Rat}{n i:Nat}:aug A n i n=aug A n (i+1) 0:=by
 refine List.map_congr_left fun k _ => ?_
 show rowF _ (if k<i then n+n else if k=i then n+n else n)=rowF _ (if k<i+1 then n+n else if k=i+1 then n+0 else n)
 congr 1
 by_cases h1:k<i
 ·rw [if_pos h1,if_pos (by omega)]
 ·rw [if_neg h1];by_cases h2:k=i
  ·rw [if_pos h2,if_pos (by omega)]
  ·rw [if_neg h2,if_neg (by omega)];split <;> rfl
theorem zsZ(A:Nat→Nat→Rat)(n:Nat):aug A n n 0=tab n (n+n) (zaj A n):=by
 refine List.map_congr_left fun i hi => ?_
 show rowF _ (if i<n then n+n else if i=n then n+0 else n)=rowF _ (n+n)
 rw [if_pos (List.mem_range.1 hi)]
theorem OV.lss{K:World→Prop}{ks:List Nat}{nt:Nat}{ops:Array Oper}{bs bars r:List Nat}{i:Nat}{a:CAct}{ov:List (Tmp × Value)}{w:World}{Q:CAct→World→Prop}{t t2:TypeId}{x y:Operand}{p q:Int}{b:Bool}{d:Tmp}{ty:TypeId}{ps:String}{af:Array Edge}(hpq:decide (p<q)=b)
  (ho:ops[i]? = some {op:=.binOp .lss t x y t2,dst:=some d,type:=ty,pos:=ps,after:=af,guard:=none}) (hb:bars.contains i=false) (hd:Nat.blt d nt=true)
  (hx:Go.Eng.look a ov x = .int .i64 p) (hy:Go.Eng.look a ov y = .int .i64 q) (h:OV K ks Tryz.prog nt ops bs bars Q r a ((d,.bool b) :: ov) w):OV K ks Tryz.prog nt ops bs bars Q (i :: r) a ov w:=
 OV.read _ ho rfl hb hd (fun w' _=>by
  rw [←hpq];simp [execOp,hx,hy,binOp,eqGuard,Op.intCmp,Result.andThen,Sem.run_bind,Sem.run_pure,go_sem]) h
theorem lo3:zcB Tryz.prog 3:=zbP (by kernel_rfl)
theorem OwnR.back{w:World}{base b n k cu:Nat}{a:Nat→Rat}(h:OwnR w base 25 3 IR (.slice (some ⟨b,0,none⟩) (n+k) cu) (rowF a (n+k)))(h0:0<k)(h9:k≤1000000000):RowR w (.slice (some ⟨b,n*3,none⟩) k (cu-n)) (rowF (fun j=>a (n+j)) k):=by
 obtain⟨xs,h1,h2,h3,h4⟩:=h;rw [zan]at h1 h2;rcases h1.2 with⟨e,_⟩|⟨g,cap,cur,e,g1,g2,g3,g4,g5,g6⟩
 ·cases e
 injection e with e _ e3;injection e with e;injection e with e _ _;subst e;subst e3;refine .inr ⟨⟨b,n*3,none⟩,cu-n,xs.drop n,by rw [zan],by rw [zan];exact h0,by rw [zan];omega,⟨cur,_,g2⟩,by rw [List.length_drop,h2,zan];omega,fun r hr=>h3 r (List.mem_of_mem_drop hr),fun i row hr j x hx => ?_,fun i row q hr hq => ?_⟩
 ·rw [List.getElem?_drop]at hr;have:=zb7 h3 hr hx;have hc:=h1.cells rfl _ _ this;rw [Addr.add_lit];rw [Addr.add_lit]at hc;rw [show n*3+(i*3+j)=0+((n+i)*3+j)by omega];exact hc
 ·rw [List.getElem?_drop]at hr;have hi:i<k:=by
   have:=(List.getElem?_eq_some_iff.1 hq).1;rwa [zan]at this
  rw [zdV hi]at hq
  cases hq
  exact h4 (n+i) row _ hr (zdV (by omega))
theorem zi3(w:World)(gb gn n:Nat)(v:Value)(A:Nat→Nat→Rat)(hb:w.cell? ⟨gb,0,none⟩=some v)(hn:w.cell? ⟨gn,0,none⟩=some (.int .i64 (n:Int)))(hm:MatR w v (tab n n A))(h0:0<n)(h9:n≤500)(hT:zaU w)(hF:Fine n (n+n) n (zaj A n)) :
  CallsIn Fence.wide 0 Tryz.prog 102 #[.pointer (some ⟨gb,0,none⟩),.pointer (some ⟨gn,0,none⟩)] w fun e w'=>∃v',e = .returned v'∧(if(pRun n (zaj A n) n).k<n then v' = .slice none 0 0 else(∃a k c,v' = .slice (some a) k c)∧MatR w' v' (tab n n fun i j=>zcl (pRun n (zaj A n) n).P (zay n (zaj A n) n) i (n+j)))∧Below w.heap.size w w':=by
 have HM:=zHi hm;have HT:=zHi hT;have HF:=zHi hF;have HB:=zHi hb;have HN:=zHi hn;obtain⟨cs,hcs⟩:∃cs,zay n (zaj A n) n=cs:=⟨_,rfl⟩;obtain⟨P,hP⟩:∃P,zcl (pRun n (zaj A n) n).P cs=P:=⟨_,rfl⟩;obtain⟨kk,hkk⟩:∃kk,(pRun n (zaj A n) n).k=kk:=⟨_,rfl⟩;rw [hcs,hP,hkk];have HP:=zHi hP;have HCS:=zHi hcs;have HKK:=zHi hkk;obtain⟨a,c,a0,c0,rfl,hx⟩:=zfu hm h0 h0;obtain⟨R0,hR0⟩:∃R:Value→World→Prop,∀v' w',R v' w'↔(if kk<n then v' = .slice none 0 0 else(∃a k c,v' = .slice (some a) k c)∧MatR w' v' (tab n n fun i j=>P i (n+j))):=⟨_,fun _ _=>Iff.rfl⟩;simp only [←hR0];have HR0:=zHi hR0;clear hm hT hF hP hcs hx hkk hR0;refine callsIn_of_wp Tryz.func102 rfl trivial ?_ rfl;simp only [Tryz.ntmps102,ztE,ztF,ztG,Nat.reduceAdd,Nat.reduceSub,ztH,ztI,ztJ,ztK,ztL,ztM];gi_wp2_with (gi_at_call 80;refine stop ?_)
 unfold Stop;refine(zd9 w _ _ (tab n n A) [] HM.out (.inl ⟨rfl,none,0,rfl⟩) (by rw [zaq];exact h0) (by rw [zaq];omega) (fun l hl=>by rw [zgm hl];omega) (by simp)).mono ?_;rintro e w6 ⟨v6,rvs,rfl,hm6,hB6⟩;rw [zff]at hm6;obtain⟨gm,cm,rfl,hgm1⟩:=hm6.at' h0;have HM6:Hid (∃rvs,zav w6 w.heap.size 64 25 3 IR (.slice (some ⟨gm,0,none⟩) n cm) rvs (aug A n 0 0)):=zHi ⟨rvs,by rw [zse];exact hm6⟩;have HB6:=zHi hB6;clear hm6 hB6 hb hn;gi_wp2;gi_loopw [14] (fun x14 wr=>∃i:Nat,x14 = .int .i64 (i:Int)∧i≤n∧Hid (∃rvs,zav wr w.heap.size 64 25 3 IR (.slice (some ⟨gm,0,none⟩) n cm) rvs (aug A n i 0))∧Hid (Below w.heap.size w wr)) (fun x _=>n-(intOf x).toNat)
 case atStart=>exact⟨0,rfl,by omega,HM6,HB6⟩
 case round=>
  obtain⟨i,rfl,hi,HMr,HBr⟩:=hrel;clear HM6 HB6;by_cases hin:i<n
  ·have hn2:=(HBr.out.cell (World.block_lt_of_cell? _ _ HN.out)).trans HN.out;gi_wp2;gi_loopw [18] (fun x18 wi=>∃j:Nat,x18 = .int .i64 (j:Int)∧j≤n∧Hid (∃rvs,zav wi w.heap.size 64 25 3 IR (.slice (some ⟨gm,0,none⟩) n cm) rvs (aug A n i j))∧Hid (Below w.heap.size w wi)) (fun x _=>n-(intOf x).toNat)
   case atStart=>exact⟨0,rfl,by omega,HMr,HBr⟩
   case round=>
    obtain⟨j,rfl,hj,HMi,HBi⟩:=hrel;clear HMr HBr;by_cases hjn:j<n
    ·by_cases hij:i=j
     ·subst hij;have hd:((i:Int) == (i:Int))=true:=beq_self_eq_true _;have hd':decide ((i:Int)=(i:Int))=true:=decide_eq_true rfl;gi_wp2_with (gi_at_call 20;refine stop ?_)
      unfold Stop;refine(zh4 _ 1 (by decide) (by decide)).mono ?_;rintro e w8 ⟨v8,rfl,hr8,hB8⟩;obtain⟨o1,k1,c1,o2,k2,c2,rfl⟩:=hr8.form;obtain⟨sx,hsx⟩:∃sx,decide ((((1:Int):Rat)).num<0)=sx:=⟨_,rfl⟩;rw [hsx]at hr8;rw [hsx];obtain⟨gx,hgx⟩:∃g,wr.heap.size=g:=⟨_,rfl⟩;have hb0:=zaa wr (.cells #[.bool false,.slice none 0 0,.slice none 0 0] 25);have ha:zaf w8 gx 3 (fun i => [.bool false,.slice none 0 0,.slice none 0 0].getD i (.bool false)):=by
       rw [←hgx];exact(zaf.new wr #[.bool false,.slice none 0 0,.slice none 0 0] 25 (fun i hi=>by
        have:i=0∨i=1∨i=2:=by omega
        rcases this with rfl|rfl|rfl <;> rfl)).below (by simp) hB8
      have hE:Elem w8 gx 25:=by
       rw [←hgx];exact(zaA wr #[.bool false,.slice none 0 0,.slice none 0 0] 25).below hB8 (by simp)
      have hb8:Below wr.heap.size wr w8:=hb0.trans (hB8.mono hb0.size);have x0:=(ha 0 (by omega)).1;have x1:=(ha 1 (by omega)).1;have x2:=(ha 2 (by omega)).1;have y0:=(ha 0 (by omega)).2;have y1:=(ha 1 (by omega)).2;have y2:=(ha 2 (by omega)).2;have HA:=zHi ha;have HE:=zHi hE;have HR8:=zHi hr8;have HB8:=zHi hb8;have HGX:=zHi hgx;rw [hgx];clear ha hE hr8 hB8 hb0 hb8 hgx hsx;gi_wp2;obtain⟨W5,hW5⟩:∃W,((w8.setCell ⟨gx,0,none⟩ (.bool sx)).setCell ⟨gx,1,none⟩ (.slice o1 k1 c1)).setCell ⟨gx,2,none⟩ (.slice o2 k2 c2)=W:=⟨_,rfl⟩;have hend:=zqW (w:=wr) (W:=w8) (a:=.bool sx) (b:=.slice o1 k1 c1) (c:=.slice o2 k2 c2) HA.out HB8.out (by rw [HGX.out];exact Nat.le_refl _);rw [hW5]at hend;have HMx:Hid (∃rvs,zav W5 w.heap.size 64 25 3 IR (.slice (some ⟨gm,0,none⟩) n cm) rvs (aug A n i i)):=zHi (by
       obtain⟨rvs,hm⟩:=HMi.out;exact⟨rvs,hm.below hend.1 (IR.below hend.1)⟩)
      have HBx:=zHi (HBi.out.trans (hend.1.mono HBi.out.size));have HXx:Hid (BoxL W5 gx [.bool sx,.slice o1 k1 c1,.slice o2 k2 c2]):=zHi ⟨hend.2.lt,hend.2⟩;have HRx:Hid (zao W5 (.agg #[.bool sx,.slice o1 k1 c1,.slice o2 k2 c2]) (zaj A n i (n+i))):=zHi (by
       have e:zaj A n i (n+i)=((1:Int):Rat):=by unfold zaj;rw [if_neg (by omega),if_pos (by omega)];rfl
       rw [e,←hW5];exact((HR8.out.setElem (i:=0) (u:=.bool sx) HE.out (by decide)).setElem (i:=1) (u:=.slice o1 k1 c1) (HE.out.setCell _ _) (by decide)).setElem (i:=2) (u:=.slice o2 k2 c2) ((HE.out.setCell _ _).setCell _ _) (by decide))
      rw [hW5];clear hend hW5 x0 x1 x2 y0 y1 y2;have hbd:=zab W5;obtain⟨rvs5,hm5⟩:=HMx.out;have hmd:=hm5.below hbd (IR.below hbd);have hbD:=HBx.out.trans (hbd.mono HBx.out.size);have hXd:=HXx.out.below hbd;have hRd:=HRx.out.below hbd;have hl:rvs5.length=n:=by rw [←hm5.len,ziQ]
      obtain⟨WD,hWD⟩:∃W',W5.drew=W':=⟨_,rfl⟩;rw [hWD]at hmd hbD hXd hRd;obtain⟨u,hu⟩:∃u,rvs5[i]? = some u:=⟨_,List.getElem?_eq_getElem (by omega)⟩;obtain⟨g',c',e,_,_,hcu⟩:=hmd.cell hu;injection e with e _ _;injection e with e;injection e with e;subst e;obtain⟨u',w',hrun,hm2,hth,_,hbel,⟨ou,ku,cu,huf⟩,_,_,_,_⟩:=hmd.grow (by rw [hl]) hu (znk hin) hbD.size (by rw [zan];omega) (row:=[.bool sx,.slice o1 k1 c1,.slice o2 k2 c2]) (x:=zaj A n i (n+i)) rfl hRd 64;subst huf;refine zbD (fun _=>True) [0,1] (fun _ _ _ _=>trivial) (ro:=none) [7,8,10] [0,1,2,3,4,5,6,7,8,9,10] [0,0,0,0,12,28,0,64,252,511,1023] zaz rfl 58 rfl (by kernel_rfl) (by kernel_rfl) trivial ?_;rw [hWD];refine OV.mv (v:=.slice (some ⟨gm,0,none⟩) n cm) rfl rfl rfl rfl ?_;refine OV.mv (v:=.int .i64 (i:Int)) rfl rfl rfl rfl ?_;refine OV.mv (v:=.slice (some ⟨gm,0,none⟩) n cm) rfl rfl rfl rfl ?_;refine OV.mv (v:=.int .i64 (i:Int)) rfl rfl rfl rfl ?_;refine OV.idx zgF hin rfl rfl rfl rfl rfl ?_;refine OV.ld lo64 hcu rfl rfl rfl rfl rfl ?_;refine OV.ldn [.bool sx,.slice o1 k1 c1,.slice o2 k2 c2] lm25 hXd.at' rfl rfl rfl rfl rfl (by decide) rfl ?_;refine OV.put1 (zsJ _ _ _ _) (zaa _ _) rfl rfl rfl rfl ?_;refine OV.app trivial hrun rfl rfl rfl rfl rfl rfl ?_;refine OV.idx zgF hin rfl rfl rfl rfl rfl ?_;refine OV.st (w':=w'.setCells gm (i*1) [.slice ou ku cu]) trivial (zdU (by kernel_rfl) rfl rfl hth) rfl rfl rfl rfl rfl ?_;refine OV.done ?_;rw [zox hin]at hm2;have hb7:=hbel w.heap.size w hbD (Nat.le_refl _);obtain⟨W7,hW7⟩:∃W,w'.setCells gm (i*1) [.slice ou ku cu]=W:=⟨_,rfl⟩;rw [hW7]at hm2 hb7;have HM7:Hid (∃rvs,zav W7 w.heap.size 64 25 3 IR (.slice (some ⟨gm,0,none⟩) n cm) rvs (aug A n i (i+1))):=zHi ⟨_,hm2⟩;have HB7:=zHi hb7;rw [hW7];simp only [zbo,Go.Act.put,ztN,ztO,ztP];clear hW7 hm2 hb7 hbel hth hrun hcu hu hRd hXd hbD hmd hm5 hbd hWD;gi_wp2;exact⟨⟨i+1,by go_num,by omega,HM7,HB7⟩,by simp only [intOf];omega⟩
     ·have hd:((i:Int) == (j:Int))=false:=by rw [beq_eq_false_iff_ne];omega
      have hd':decide ((i:Int)=(j:Int))=false:=decide_eq_false (by omega);gi_wp2;obtain⟨W5,hW5⟩:∃W,wr.alloc (.cells #[.bool false,.slice none 0 0,.slice none 0 0] 25)=W:=⟨_,rfl⟩;have hb0:Below wr.heap.size wr W5:=by rw [←hW5];exact zaa _ _
      have HMx:Hid (∃rvs,zav W5 w.heap.size 64 25 3 IR (.slice (some ⟨gm,0,none⟩) n cm) rvs (aug A n i j)):=zHi (by
       obtain⟨rvs,hm⟩:=HMi.out;exact⟨rvs,hm.below hb0 (IR.below hb0)⟩)
      have HBx:=zHi (HBi.out.trans (hb0.mono HBi.out.size));have HXx:Hid (BoxL W5 wr.heap.size [.bool false,.slice none 0 0,.slice none 0 0]):=zHi (by rw [←hW5];exact zaP _ _ _);have HRx:Hid (zao W5 (.agg #[.bool false,.slice none 0 0,.slice none 0 0]) (zaj A n i (n+j))):=zHi (by
       have e:zaj A n i (n+j)=0:=by unfold zaj;rw [if_neg (by omega),if_neg (by omega)]
       rw [e];exact zaL _)
      rw [hW5];clear hb0 hW5;have hbd:=zab W5;obtain⟨rvs5,hm5⟩:=HMx.out;have hmd:=hm5.below hbd (IR.below hbd);have hbD:=HBx.out.trans (hbd.mono HBx.out.size);have hXd:=HXx.out.below hbd;have hRd:=HRx.out.below hbd;have hl:rvs5.length=n:=by rw [←hm5.len,ziQ]
      obtain⟨WD,hWD⟩:∃W',W5.drew=W':=⟨_,rfl⟩;rw [hWD]at hmd hbD hXd hRd;obtain⟨u,hu⟩:∃u,rvs5[i]? = some u:=⟨_,List.getElem?_eq_getElem (by omega)⟩;obtain⟨g',c',e,_,_,hcu⟩:=hmd.cell hu;injection e with e _ _;injection e with e;injection e with e;subst e;obtain⟨u',w',hrun,hm2,hth,_,hbel,⟨ou,ku,cu,huf⟩,_,_,_,_⟩:=hmd.grow (by rw [hl]) hu (znk hin) hbD.size (by rw [zan];omega) (row:=[.bool false,.slice none 0 0,.slice none 0 0]) (x:=zaj A n i (n+j)) rfl hRd 64;subst huf;refine zbD (fun _=>True) [0,1] (fun _ _ _ _=>trivial) (ro:=none) [7,8,10] [0,1,2,3,4,5,6,7,8,9,10] [0,0,0,0,12,28,0,64,252,511,1023] zaz rfl 58 rfl (by kernel_rfl) (by kernel_rfl) trivial ?_;rw [hWD];refine OV.mv (v:=.slice (some ⟨gm,0,none⟩) n cm) rfl rfl rfl rfl ?_;refine OV.mv (v:=.int .i64 (i:Int)) rfl rfl rfl rfl ?_;refine OV.mv (v:=.slice (some ⟨gm,0,none⟩) n cm) rfl rfl rfl rfl ?_;refine OV.mv (v:=.int .i64 (i:Int)) rfl rfl rfl rfl ?_;refine OV.idx zgF hin rfl rfl rfl rfl rfl ?_;refine OV.ld lo64 hcu rfl rfl rfl rfl rfl ?_;refine OV.ldn [.bool false,.slice none 0 0,.slice none 0 0] lm25 hXd.at' rfl rfl rfl rfl rfl (by decide) rfl ?_;refine OV.put1 (zsJ _ _ _ _) (zaa _ _) rfl rfl rfl rfl ?_;refine OV.app trivial hrun rfl rfl rfl rfl rfl rfl ?_;refine OV.idx zgF hin rfl rfl rfl rfl rfl ?_;refine OV.st (w':=w'.setCells gm (i*1) [.slice ou ku cu]) trivial (zdU (by kernel_rfl) rfl rfl hth) rfl rfl rfl rfl rfl ?_;refine OV.done ?_;rw [zox hin]at hm2;have hb7:=hbel w.heap.size w hbD (Nat.le_refl _);obtain⟨W7,hW7⟩:∃W,w'.setCells gm (i*1) [.slice ou ku cu]=W:=⟨_,rfl⟩;rw [hW7]at hm2 hb7;have HM7:Hid (∃rvs,zav W7 w.heap.size 64 25 3 IR (.slice (some ⟨gm,0,none⟩) n cm) rvs (aug A n i (j+1))):=zHi ⟨_,hm2⟩;have HB7:=zHi hb7;rw [hW7];simp only [zbo,Go.Act.put,ztN,ztO,ztP];clear hW7 hm2 hb7 hbel hth hrun hcu hu hRd hXd hbD hmd hm5 hbd hWD;gi_wp2;exact⟨⟨j+1,by go_num,by omega,HM7,HB7⟩,by simp only [intOf];omega⟩
    ·have hj2:n=j:=by omega
     subst hj2;gi_wp2;exact⟨⟨i+1,by go_num,by omega,zHi (by rw [←zsf];exact HMi.out),HBi⟩,by simp only [intOf];omega⟩
  ·have hi2:n=i:=by omega
   subst hi2;gi_wp2;have hbd:=zab wr;obtain⟨rvs5,hm5⟩:=HMr.out;rw [zsZ]at hm5;have hmd:=hm5.below hbd (IR.below hbd);have hbD:=HBr.out.trans (hbd.mono HBr.out.size);obtain⟨WD,hWD⟩:∃W',wr.drew=W':=⟨_,rfl⟩;rw [hWD]at hmd hbD;have hnD:=(hbD.cell (World.block_lt_of_cell? _ _ HN.out)).trans HN.out;refine zbD (fun W=>W.cell? ⟨gn,0,none⟩=some (.int .i64 (n:Int))) [4] (fun W W' h hb=>(hb.cell (World.block_lt_of_cell? _ _ h)).trans h) (ro:=none) [2] [0,1,4,2,3,5] [0,0,3,7,0,31] zaz rfl 58 rfl (by kernel_rfl) (by kernel_rfl) (by rw [hWD];exact hnD) ?_;rw [hWD];refine OV.mv (v:=.slice (some ⟨gm,0,none⟩) n cm) rfl rfl rfl rfl ?_;refine OV.ld lo3 hnD rfl rfl rfl rfl rfl ?_;refine OV.ldK lo3 hnD (fun _ h=>h) rfl rfl rfl rfl ?_;refine OV.callL (R:=fun v' w'=>(∃b,OwnR w' b 3 1 II v' cs)∧(∃rvs,zav w' w.heap.size 64 25 3 IR (.slice (some ⟨gm,0,none⟩) n cm) rvs (tab n (n+n) P))∧Below w.heap.size w w') [.slice (some ⟨gm,0,none⟩) n cm,.int .i64 (n:Int)] Tryz.func81 rfl zai rfl rfl rfl rfl rfl rfl ((zdY WD w.heap.size gm cm n (n+n) n (zaj A n) h0 (by omega) (by omega) (by omega) (by omega) HT.out.two ⟨_,hmd⟩ (HT.out.below hbD) HF.out.run HF.out.unit HF.out.piv).mono (by
    rintro e w' ⟨v',h1,h2,h3,h4⟩;rw [HCS.out]at h2 h3;rw [HP.out]at h3;exact⟨v',h1,⟨⟨_,h2⟩,h3,hbD.trans h4⟩,((hbD.trans h4).cell (World.block_lt_of_cell? _ _ HN.out)).trans HN.out⟩)) fun v7 w7 h7 => ?_
   obtain⟨⟨b7,hl7⟩,hm7,hb07⟩:=h7;obtain⟨o7,c7,rfl⟩:=hl7.form;have hkl:cs.length=kk:=by rw [←HCS.out,zdH,HKK.out]
   have hk9:kk≤n:=by rw [←HKK.out];exact(zdG _ _ _).1
   rw [hkl];refine OV.len u29' rfl rfl rfl rfl ?_;have HM7:=zHi hm7;have HB07:=zHi hb07;clear hl7 hm7 hb07 hnD hbD hmd hm5 hbd hWD hkl;by_cases hkn:kk<n
   ·refine OV.lss (p:=(kk:Int)) (q:=(n:Int)) (b:=true) (decide_eq_true (by omega)) rfl rfl rfl rfl rfl ?_;refine OV.done ?_;simp only [zbo,Go.Act.put,ztN,ztO,ztP];gi_wp2;all_goals (first|go_returns|go_ret|go_end0)
    exact⟨_,rfl,(HR0.out _ _).2 (by rw [if_pos hkn];rfl),HB07.out⟩
   ·refine OV.lss (p:=(kk:Int)) (q:=(n:Int)) (b:=false) (decide_eq_false (by omega)) rfl rfl rfl rfl rfl ?_;refine OV.done ?_;simp only [zbo,Go.Act.put,ztN,ztO,ztP];gi_wp2;gi_loopw [7,46] (fun x7 x46 wr=>∃i:Nat,x46 = .int .i64 (i:Int)∧i≤n∧Hid (OwnR wr w7.heap.size 64 1 zaF x7 ((tab n n fun i j=>P i (n+j)).take i))∧Hid (Below w7.heap.size w7 wr)) (fun _ x _=>n-(intOf x).toNat)
    case atStart=>exact⟨0,rfl,by omega,OwnR.nil _ _ _ _ _,Below.refl _ _⟩
    case round=>
     obtain⟨i,rfl,hi,HO,HBr⟩:=hrel;by_cases hin:i<n
     ·obtain⟨rvs8,hm8⟩:=HM7.out;have hmr:=hm8.below HBr.out (IR.below HBr.out);have hl:rvs8.length=n:=by rw [←hm8.len,zaq]
      obtain⟨u,hu⟩:∃u,rvs8[i]? = some u:=⟨_,List.getElem?_eq_getElem (by omega)⟩;obtain⟨g',c',e,_,_,hcu⟩:=hmr.cell hu;rw [hl]at e;injection e with e _ ec;subst ec;injection e with e;injection e with e;subst e;have hru:=hmr.row i u _ hu (zek hin);obtain⟨bu,cu,euf,_,_,curu,hcuru⟩:=hru.own (by simp;omega);rw [List.length_map,List.length_range]at euf;subst euf;have hcap:n+n≤cu:=by
       obtain⟨xs,q1,_⟩:=hru;rcases q1.2 with⟨e,_⟩|⟨_,_,_,e,_,_,q2,_⟩
       ·cases e
       ·injection e with e1 e2 e3;rw [←e3]at q2;simpa using q2
      have hback:=OwnR.back (k:=n) hru h0 (by omega);rw [Addr.add_lit,Nat.zero_add,Nat.mul_one]at hcu;have hnr:=((HB07.out.trans (HBr.out.mono HB07.out.size)).cell (World.block_lt_of_cell? _ _ HN.out)).trans HN.out;have HBK:=zHi hback;clear hm8 hmr hl hru hu hback hcuru;have ho:=HO.out;obtain⟨oo,co,hof⟩:=ho.form;have hlen:((tab n n fun i j=>P i (n+j)).take i).length=i:=by rw [List.length_take,zaq];omega
      rw [hlen]at hof;have HLen:=zHi hlen;have hnx:(tab n n fun i j=>P i (n+j)).take (i+1)=(tab n n fun i j=>P i (n+j)).take i ++ [rowF (fun j=>P i (n+j)) n]:=by
       rw [List.take_add_one,zek hin];rfl
      have HNX:=zHi hnx;have HB7x:=zHi HBr.out;subst hof;clear ho hlen hnx;gi_wp2_with (gi_at_builtin;refine stop ?_)
      unfold Stop;refine zdi (ty:=64) (sz:=1) (bytes:=24) wr rfl _ _ rfl Go.Num.u55 i64i i64z i64s i64b rfl (by decide) (by decide) w7.heap.size HBr.out.size (.slice oo i co) _ rfl HO.out (rowF (fun j=>P i (n+j)) n) [.slice (some ⟨bu,n*3,none⟩) n (cu-n)] _ rfl rfl (by simp [Value.oneCell']) ⟨_,rfl,HBK.out⟩ (fun b r w1 w2 ht=>zaF.touch ht rfl (by decide) b r) (by rw [HLen.out];omega) ?_;intro v13 w13 HO13 HK13 HB13;have HB14:=zHi (HB13.out w7.heap.size w7 HB7x.out (Nat.le_refl _));have HO14:Hid (OwnR w13 w7.heap.size 64 1 zaF v13 ((tab n n fun i j=>P i (n+j)).take (i+1))):=zHi (by rw [HNX.out];exact HO13.out);gi_wp2;exact⟨⟨i+1,by go_num,by omega,HO14,HB14⟩,by simp only [intOf];omega⟩
     ·have hi2:n=i:=by omega
      subst hi2;have ho:=HO.out;rw [show(tab n n fun i j=>P i (n+j)).take n=tab n n fun i j=>P i (n+j)by rw [List.take_of_length_le (by rw [zaq];exact Nat.le_refl _)]]at ho;have HO2:=zHi ho;clear ho;gi_wp2;all_goals (first|go_returns|go_ret|go_end0)
      obtain⟨g,cap,e,_⟩:=HO2.out.own (by rw [zaq];exact h0);exact⟨_,rfl,(HR0.out _ _).2 (by rw [if_neg hkn];exact⟨⟨_,_,_,e⟩,HO2.out.row (by rw [zaq];omega)⟩),HB07.out.trans (HBr.out.mono HB07.out.size)⟩
end Go.Num
namespace Go.Num
open Go.Eng Go.Shelf Go.RowKit Go.Sort Go.Proofs Go.Proofs.YtoamcgjbelhnkaaGreatDoor
@[local go_sem] theorem eq55 (a:Addr) (n c:Nat) (W:World):(binOp .eql 55 (.slice (some a) n c) (.slice none 0 0)).run Tryz.prog W = .ok (.bool false) W:=by kernel_rfl
@[local go_sem] theorem eq55n (W:World):(binOp .eql 55 (.slice none 0 0) (.slice none 0 0)).run Tryz.prog W = .ok (.bool true) W:=by kernel_rfl
theorem zf9(w:World)(v:Value)(n:Nat)(A:Nat→Nat→Rat)(hm:MatR w v (tab n n A))(h0:0<n)(h9:n≤8)(hc:zb8 (tab n n A)=0)(hq:ziS n n A)(hT:zaU w)(hF:Fine n (n+n) n (zaj A n)) :
  CallsIn Fence.wide 0 Tryz.prog 52 #[v] w fun e w'=>∃v',(if(pRun n (zaj A n) n).k<n then e = .returned (.tuple #[.slice none 0 0,.int .i64 4])else e = .returned (.tuple #[v',.int .i64 0])∧MatR w' v' (tab n n fun i j=>zcl (pRun n (zaj A n) n).P (zay n (zaj A n) n) i (n+j)))∧Below w.heap.size w w':=by
 obtain⟨a,c,a0,c0,rfl,hx⟩:=zfu hm h0 h0;have HM:=zHi hm;have HQ:=zHi (zhk hq);have HT:=zHi hT;have HC:=zHi hc;have HX:=zHi hx;have HF:=zHi hF;obtain⟨R0,hR0⟩:∃R:Value→World→Prop,∀v' w',R v' w'↔(if(pRun n (zaj A n) n).k<n then v' = .slice none 0 0 else(∃a k c,v' = .slice (some a) k c)∧MatR w' v' (tab n n fun i j=>zcl (pRun n (zaj A n) n).P (zay n (zaj A n) n) i (n+j))):=⟨_,fun _ _=>Iff.rfl⟩;obtain⟨Q0,hQ0⟩:∃R:Ending→World→Prop,∀e w',R e w'↔∃v',(if(pRun n (zaj A n) n).k<n then e = .returned (.tuple #[.slice none 0 0,.int .i64 4])else e = .returned (.tuple #[v',.int .i64 0])∧MatR w' v' (tab n n fun i j=>zcl (pRun n (zaj A n) n).P (zay n (zaj A n) n) i (n+j)))∧Below w.heap.size w w':=⟨_,fun _ _=>Iff.rfl⟩;simp only [←hQ0];have HR0:=zHi hR0;have HQ0:=zHi hQ0;clear hm hq hT hc hx hF hR0 hQ0;refine callsIn_of_wp Tryz.func52 rfl trivial ?_ rfl;simp only [Tryz.ntmps52,ztE,ztF,ztG,Nat.reduceAdd,Nat.reduceSub,ztH,ztI,ztJ,ztK,ztL,ztM];obtain⟨g1,hg1⟩:∃g,w.heap.size=g:=⟨_,rfl⟩;obtain⟨W1,hW1⟩:∃W,w.alloc (.cells #[.slice (some a) n c] 55)=W:=⟨_,rfl⟩;have hb0:Below w.heap.size w W1:=by rw [←hW1];exact zaa _ _
 have y0:W1.cell? ⟨g1,0,none⟩=some (.slice (some a) n c):=by
  rw [←hW1,←hg1];exact(zaP w [.slice (some a) n c] 55).2 0 _ rfl
 have HB0:=zHi hb0;have HY:=zHi y0;clear hb0;gi_wp2_with (gi_at_call 49;refine stop ?_)
 unfold Stop;refine(zea W1 _ _ (zah.below HM.out HB0.out (zaF.below HB0.out)) HQ.out (HT.out.below HB0.out)).mono ?_;rintro e w2 ⟨rfl,hB2⟩;rw [HC.out];have y2:=(hB2.cell (World.block_lt_of_cell? _ _ y0)).trans y0;have HB2:=zHi (HB0.out.trans (hB2.mono HB0.out.size));have HY2:=zHi y2;clear y0 hB2 hW1 hg1;gi_wp2;obtain⟨W4,hW4⟩:∃W,w2.alloc (.cells #[.int .i64 (n:Int)] 3)=W:=⟨_,rfl⟩;obtain⟨g2,hg2⟩:∃g,w2.heap.size=g:=⟨_,rfl⟩;have hb24:Below w2.heap.size w2 W4:=by rw [←hW4];exact zaa _ _
 have hz4:W4.cell? ⟨g2,0,none⟩=some (.int .i64 (n:Int)):=by
  rw [←hW4,←hg2];exact(zaP w2 [.int .i64 (n:Int)] 3).2 0 _ rfl
 rw [hW4,hg2];have hbd:=zab W4;have hb25:=hb24.trans (hbd.mono hb24.size);have hz5:=(hbd.cell (World.block_lt_of_cell? _ _ hz4)).trans hz4;have hy5:=(hb25.cell (World.block_lt_of_cell? _ _ HY2.out)).trans HY2.out;have hb5:=HB2.out.trans (hb25.mono HB2.out.size);have hx5:=(hb5.cell (World.block_lt_of_cell? _ _ HX.out)).trans HX.out;obtain⟨w5,hw5⟩:∃W,W4.drew=W:=⟨_,rfl⟩;rw [hw5]at hz5 hy5 hx5 hb5;have HB5:=zHi hb5;refine zbf (ro:=none) [] [0,1,2,3,4,5] [0,0,2,6,14,31] zaz rfl 34 rfl (by kernel_rfl) (by kernel_rfl) ?_;rw [hw5];clear hw5 hb5 hb25 hbd hz4 hb24 hW4 hg2;refine OV.ld lo3 hz5 rfl rfl rfl rfl rfl ?_;refine OV.ld lo55 hy5 rfl rfl rfl rfl rfl ?_;refine OV.idx it55 (k:=0) h0 rfl rfl rfl rfl rfl ?_;refine OV.ld lo64 hx5 rfl rfl rfl rfl rfl ?_;refine OV.len Go.Num.u64 rfl rfl rfl rfl ?_;refine OV.neq (p:=(n:Int)) (q:=(n:Int)) (b:=false) (by simp) rfl rfl rfl rfl rfl ?_;refine OV.done ?_;simp only [zbo,Go.Act.put,ztN,ztO,ztP];have hmf:∀(fn:Fn) (first cap:Array Value) (w:World),(Instr.makeFunc fn first cap).run Tryz.prog w = .ok (.func fn first cap) w:=fun _ _ _ _=>rfl
 have HY5:=zHi hy5;have HZ5:=zHi hz5;clear hy5 hz5;gi_wp2_with (gi_at_call 78;refine stop ?_)
 unfold Stop;refine(zhc w5 102 #[.pointer (some ⟨g1,0,none⟩),.pointer (some ⟨g2,0,none⟩)] (fun v' w'=>R0 v' w') (ec 102 _ Tryz.func102 rfl) (fun v W W' h hf=>(HR0.out _ _).2 (by
   have h:=(HR0.out _ _).1 h;split at h
   ·rename_i q;rw [if_pos q];exact h
   ·rename_i q;rw [if_neg q];exact⟨h.1,MatR.frx h.2 hf (fun b=>by decide) (fun b=>by decide) (fun b e he q=>by rcases q with rfl|rfl <;> cases he)⟩)) (fun W hW => ?_)).mono ?_
 ·have hbW:=HB5.out.trans (hW.mono HB5.out.size);refine(zi3 W g1 g2 n (.slice (some a) n c) A ((hW.cell (World.block_lt_of_cell? _ _ HY5.out)).trans HY5.out) ((hW.cell (World.block_lt_of_cell? _ _ HZ5.out)).trans HZ5.out) (zah.below HM.out hbW (zaF.below hbW)) h0 (by omega) (HT.out.below hbW) HF.out).mono ?_;rintro e w' ⟨v',rfl,h1,h2⟩;refine⟨v',rfl,⟨?_,(HR0.out _ _).2 h1⟩,h2⟩;split at h1
  ·exact⟨_,_,_,h1⟩
  ·obtain⟨⟨a,k,c,e⟩,_⟩:=h1;exact⟨_,_,_,e⟩
 rintro e w6 ⟨v6,rfl,hr6,hB6⟩;have HB6:=zHi (HB5.out.trans (hB6.mono HB5.out.size));have hr:=(HR0.out _ _).1 hr6;by_cases hk:(pRun n (zaj A n) n).k<n
 ·rw [if_pos hk]at hr;subst hr;clear hB6 hr6;gi_wp2;exact(HQ0.out _ _).2 ⟨.slice none 0 0,by rw [if_pos hk];rfl,HB6.out⟩
 ·rw [if_neg hk]at hr;obtain⟨⟨a6,k6,c6,rfl⟩,hmr⟩:=hr;have HMR:=zHi hmr;clear hB6 hr6 hmr;gi_wp2;exact(HQ0.out _ _).2 ⟨_,by rw [if_neg hk];exact⟨rfl,HMR.out⟩,HB6.out⟩
end Go.Num
namespace Go.Num
open Go.Eng Go.Shelf Go.RowKit Go.Proofs Go.Proofs.YtoamcgjbelhnkaaGreatDoor
end Go.Num
namespace Go.Num
def facF(q:Nat→Rat):Nat→Nat
 | 0=>1
 | j+1=>facF q j*((q j).den/Nat.gcd (facF q j) (q j).den)
theorem zof(q:Nat→Rat):∀n,0<facF q n
 | 0=>Nat.one_pos
 | n+1=>by
  have h1:=zof q n;have h2:=(q n).den_pos;refine Nat.mul_pos h1 (Nat.div_pos (Nat.le_of_dvd h2 (Nat.gcd_dvd_right _ _)) (Nat.gcd_pos_of_pos_left _ h1))
theorem zrV(q:Nat→Rat)(n:Nat):facF q (n+1)=Nat.lcm (facF q n) (q n).den:=by
 show facF q n*((q n).den/Nat.gcd (facF q n) (q n).den)=_
 unfold Nat.lcm;rw [Nat.mul_div_assoc _ (Nat.gcd_dvd_right _ _)]
theorem zog(q:Nat→Rat):∀{n j:Nat},j<n→(q j).den∣facF q n
 | n+1,j,h=>by
  rw [zrV];rcases Nat.lt_or_ge j n with hj|hj
  ·exact Nat.dvd_trans (zog q hj) (Nat.dvd_lcm_left _ _)
  ·have:j=n:=by omega
   rw [this];exact Nat.dvd_lcm_right _ _
theorem zm6{q:Nat→Rat}{D:Nat}:∀{n:Nat},(∀j,j<n→(q j).den≤D)→facF q n≤D^n
 | 0,_=>Nat.le_refl _
 | n+1,h=>by
  rw [Nat.pow_succ];exact Nat.mul_le_mul (zm6 fun j hj=>h j (by omega)) (Nat.le_trans (Nat.div_le_self _ _) (h n (Nat.lt_succ_self _)))
def zgr(q:Nat→Rat)(n j:Nat):Int:=(q j).num*((facF q n/(q j).den:Nat):Int)
theorem zoN(q:Nat→Rat){n j:Nat}(h:j<n):(zgr q n j:Rat)=(facF q n:Rat)*q j:=by
 obtain⟨d,hd⟩:=zog q h;have hp:=(q j).den_pos;unfold zgr;rw [hd,Nat.mul_div_cancel_left _ hp,Rat.intCast_mul];have e:q j=((q j).num:Rat)/(((q j).den:Int):Rat):=by rw [←Rat.divInt_eq_div,Rat.num_divInt_den]
 have hden:(((q j).den:Int):Rat)≠0:=fun h0=>by
  have:((q j).den:Int)=0:=Rat.intCast_inj.1 (by rw [h0];rfl);omega
 have h2:(((q j).den*d:Nat):Rat)=(((q j).den:Int):Rat)*((d:Int):Rat):=by
  rw [←Rat.intCast_mul];rfl
 rw [h2];generalize ((q j).num:Rat)=a at *
 generalize (((q j).den:Int):Rat)=b at *
 generalize ((d:Int):Rat)=c at *
 rw [e];grind
theorem znH{q:Nat→Rat}{n j D X:Nat}(h:j<n)(hD:∀j,j<n→(q j).den≤D)(hX:(q j).num.natAbs≤X):(zgr q n j).natAbs≤X*D^n:=by
 unfold zgr;rw [Int.natAbs_mul,Int.natAbs_natCast];exact Nat.mul_le_mul hX (Nat.le_trans (Nat.div_le_self _ _) (zm6 hD))
theorem zm5{q:Nat→Rat}{n:Nat}:RatB 1 (facF q n) (1/(facF q n:Rat))∧(1/(facF q n:Rat))≠0:=by
 have hp:=zof q n;have h0:(facF q n:Rat)≠0:=fun h=>by
  have:((facF q n:Int):Rat)=((0:Int):Rat):=h;have:=Rat.intCast_inj.1 this;omega
 refine⟨⟨1,(facF q n:Int),by omega,rfl,Nat.le_refl _,by rw [Int.natAbs_natCast];exact Nat.le_refl _⟩,?_⟩;grind
end Go.Num
namespace Go.Num
open Go.Eng Go.Shelf Go.RowKit Go.Sort Go.Proofs Go.Proofs.YtoamcgjbelhnkaaGreatDoor
attribute [local go_sem] Oper.semAt_some
theorem up{x a b:Nat}(h:x<B^a)(hab:a≤b):x<B^b:=Nat.lt_of_lt_of_le h (zag hab)
end Go.Num
namespace Go.Num
open Go.Eng Go.Shelf Go.RowKit Go.Sort Go.Proofs Go.Proofs.YtoamcgjbelhnkaaGreatDoor
attribute [local go_sem] Oper.semAt_some
end Go.Num
namespace Go.Num
open Go.Eng Go.Shelf Go.RowKit Go.Sort Go.Proofs Go.Proofs.YtoamcgjbelhnkaaGreatDoor
attribute [local go_sem] Oper.semAt_some
section
variable {w0 w w':World} {g4 g8 base g cv m N:Nat} {vp:Value} {P:Option Nat} {t:RS} {cs:List Nat}
end
section
variable {w0 w w':World} {g4 g8 base g cv m N:Nat} {vp:Value} {P:Option Nat} {t:RS} {cs:List Nat}
end
end Go.Num
namespace Go.Num
open Go.Eng Go.Shelf Go.RowKit Go.Sort Go.Proofs Go.Proofs.YtoamcgjbelhnkaaGreatDoor
theorem zoI{β:Type}{m N:Nat}{A A':Nat→Nat→β}(h:∀i j,i<m→j<N→A i j=A' i j):tab m N A=tab m N A':=by
 unfold tab;refine List.map_congr_left fun i hi => ?_
 refine List.map_congr_left fun j hj => ?_
 exact h i j (List.mem_range.1 hi) (List.mem_range.1 hj)
section
variable {w0 W w w':World} {g4 g8 base g cv m N g13 kp cp kk cc i j:Nat} {vp:Value} {P:Option Nat} {t:RS} {cs:List Nat} {sp:Bool} {op:Option Addr}
end
end Go.Num
namespace Go.Num
open Go.Eng Go.Shelf Go.RowKit Go.Sort Go.Proofs Go.Proofs.YtoamcgjbelhnkaaGreatDoor
attribute [local go_sem] Oper.semAt_some
def zoS(m:Nat)(A0:Nat→Nat→Int):Nat→List Nat
 | 0 => []
 | c+1=>if rRow m c (rRun m A0 c)=m then zoS m A0 c else zoS m A0 c ++ [c]
end Go.Num
namespace Go.Num
theorem zru:RatB 1 1 (1:Rat):=⟨1,1,by decide,by show(1:Rat)=((1:Int):Rat)/((1:Int):Rat);grind,by decide,by decide⟩
section
variable {m N X columns:Nat} {A0:Nat→Nat→Int}
theorem zlj{L:Nat}(hX:∀i,i<m→∀j,j<N→(A0 i j).natAbs≤X)(hNX:1≤N*X)(hb:(N*X)^m<B^L)(hcN:columns≤N) :
  ∀c,c≤columns→(rRun m A0 c).last≠0∧(rRun m A0 c).last.natAbs<B^L∧∀i j,i<m→j<N→((rRun m A0 c).A i j).natAbs<B^L:=by
 intro c hc;obtain⟨U,cf,g,h⟩:=zmT (N:=N) (m:=m) (X:=X) (F:=1) (g0:=fun _=>1) (U0:=fun i j=>(A0 i j:Rat)) (P0:=fun i j=>(A0 i j:Rat)) (A0:=A0) (fun _ _ _ _=>rfl) hX (fun _ _=>by decide) (fun _ _=>zru) (fun _ _ _ _=>by grind) c (by omega);have hd:zaJ U cf (pRun m (fun i j=>(A0 i j:Rat)) c).k≠0:=zd2 h.E.piv;have hbd:=zdu.bound h.E h.R hNX;refine⟨fun e => ?_,Nat.lt_of_le_of_lt hbd.1 hb,fun i j hi hj=>Nat.lt_of_le_of_lt (hbd.2 i hi j hj) hb⟩;have:=h.R.last;rw [e]at this;exact hd this.symm
theorem znN{F:Nat}{g0:Nat→Rat}{U0 P0:Nat→Nat→Rat}(hA:∀i,i<m→∀j,j<N→(A0 i j:Rat)=U0 i j)(hX:∀i,i<m→∀j,j<N→(A0 i j).natAbs≤X)(hg:∀i,i<m→g0 i≠0)(hgF:∀i,i<m→RatB 1 F (g0 i))
  (hP:∀i,i<m→∀j,j<N→P0 i j=g0 i*U0 i j):∀c,c≤N→zoS m A0 c=zay m P0 c
 | 0,_=>rfl
 | c+1,hc=>by
  obtain⟨U,cf,g,h⟩:=zmT hA hX hg hgF hP c (by omega);have ih:=znN hA hX hg hgF hP c (by omega);show(if rRow m c (rRun m A0 c)=m then zoS m A0 c else zoS m A0 c ++ [c])=(if pRow m c (pRun m P0 c)=m then zay m P0 c else zay m P0 c ++ [c])
  rw [h.row (by omega),ih]
end
end Go.Num
namespace Go.Num
open Go.Eng Go.Shelf Go.RowKit Go.Sort Go.Proofs Go.Proofs.YtoamcgjbelhnkaaGreatDoor
attribute [local go_sem] Oper.semAt_some
structure OBox(w:World)(g:Nat)(ty:TypeId)(xs:List Value):Prop where
 box:BoxL w g xs
 free:∀j,j<xs.length→w.frozen? ⟨g,j,none⟩=false
 el:Elem w g ty
section
variable {w w':World} {g:Nat} {ty:TypeId} {xs ys:List Value}
theorem OBox.new(w:World)(xs:List Value)(ty:TypeId):OBox (w.alloc (.cells xs.toArray ty)) w.heap.size ty xs:=⟨zaP w xs ty,fun j _=>World.frozen?_alloc_new _ _ _ _,zaA _ _ _⟩
theorem OBox.below(h:OBox w g ty xs)(hb:Below w.heap.size w w'):OBox w' g ty xs:=⟨h.box.below hb,fun j hj=>(hb.frozen (p:=⟨g,j,none⟩) h.el.lt).trans (h.free j hj),h.el.below hb h.el.lt⟩
theorem OBox.there(h:OBox w g ty xs):w.there g 0 xs.length:=fun j hj=>by
 rw [Nat.zero_add];exact⟨by rw [h.box.2 j _ (List.getElem?_eq_getElem hj)];rfl,h.free j hj⟩
theorem OBox.store(h:OBox w g ty xs)(hl:ys.length=xs.length):OBox (w.setCells g 0 ys) g ty ys:=by
 have hb:=zal g ys 0 w;have hr:=World.rangeAt_setCells_same w g 0 ys (by rw [hl];exact h.there);refine⟨⟨Nat.lt_of_lt_of_le h.el.lt hb.size,fun j v hj=>by have:=hr j v hj;rwa [Nat.zero_add]at this⟩,fun j hj=>by rw [World.frozen?_setCells];exact h.free j (by omega),?_⟩;suffices H:∀(ys:List Value) (o:Nat) (w:World),Elem w g ty→Elem (w.setCells g o ys) g ty from H ys 0 w h.el
 intro ys;induction ys with
 | nil=>intro o w hc;exact hc
 | cons y ys ih=>intro o w hc;exact ih (o+1) (w.setCell ⟨g,o,none⟩ y) (hc.setCell _ _)
end
section
variable {w w':World} {g m N:Nat} {A:Nat→Nat→Int} {cs:List Nat} {ar:Addr} {cr:Nat} {op:Option Addr} {cp:Nat}
end
theorem zl6(g k:Nat):(⟨g,0,none⟩:Addr).add k=⟨g,k,none⟩:=by rw [Addr.add_lit,Nat.zero_add]
end Go.Num
namespace Go.Num
open Go.Eng Go.Shelf Go.RowKit Go.Sort Go.Proofs Go.Proofs.YtoamcgjbelhnkaaGreatDoor
attribute [local go_sem] Oper.semAt_some
end Go.Num
namespace Go.Num
def Dig(q:Rat):Prop:=q.num.natAbs<10^20∧q.den≤10^20
theorem zte{a b:Nat}(h:a≤b):10^a≤10^b:=Nat.pow_le_pow_right (by decide) h
theorem ztd{a b:Nat}(h:a<b):10^a<10^b:=Nat.pow_lt_pow_right (by decide) h
theorem Dig.le{q:Rat}(h:Dig q){L:Nat}(hL:3≤L):zar q L:=by
 have h1:(10:Nat)^20<B^3:=by decide
 exact⟨up (Nat.lt_trans h.1 h1) hL,up (Nat.lt_of_le_of_lt h.2 h1) hL⟩
structure Set1(m N columns:Nat)(P0:Nat→Nat→Rat)(A0:Nat→Nat→Int)(g0:Nat→Rat):Prop where
 fine:Fine m N columns P0
 ends:Ends m N columns g0 P0 A0
 sizes:∀c,c≤columns→(rRun m A0 c).last≠0∧(rRun m A0 c).last.natAbs<B^700∧∀i j,i<m→j<N→((rRun m A0 c).A i j).natAbs<B^700
 cols:zoS m A0 columns=zay m P0 columns
 det:(pRun m P0 columns).k=m→zar (zca (zbc m P0 columns)) 700
def ten(a:Nat):Nat:=10^a
theorem zri(k:Nat):B^k=ten (9*k):=zmd k
theorem znu{a b:Nat}(h:a≤b):ten a≤ten b:=zte h
theorem znt{a b:Nat}(h:a<b):ten a<ten b:=ztd h
theorem zmn(a:Nat):1≤ten a:=Nat.pow_pos (by decide)
theorem zgl{a b x y:Nat}(hx:x≤ten a)(hy:y≤ten b):x*y≤ten (a+b):=by
 unfold ten at *;rw [Nat.pow_add];exact Nat.mul_le_mul hx hy
theorem zhC{a x m:Nat}(hx:x≤ten a):x^m≤ten (a*m):=by
 unfold ten at *;rw [Nat.pow_mul];exact Nat.pow_le_pow_left hx m
theorem znG{m N columns:Nat}{P0:Nat→Nat→Rat}(hm:m≤8)(h0:0<N)(hN:N≤16)(hD:∀i j,i<m→j<N→Dig (P0 i j))(hcN:columns≤N) :
  Set1 m N columns P0 (fun i=>zgr (P0 i) N) (fun i=>1/(facF (P0 i) N:Rat)):=by
 have hA:∀i,i<m→∀j,j<N→((zgr (P0 i) N j:Int):Rat)=(fun i j=>((zgr (P0 i) N j:Int):Rat)) i j:=fun _ _ _ _=>rfl
 have hX:∀i,i<m→∀j,j<N→(zgr (P0 i) N j).natAbs≤ten 340:=fun i hi j hj=>by
  have h1:=znH (X:=ten 20) (D:=ten 20) hj (fun j hj=>(hD i j hi hj).2) (Nat.le_of_lt (hD i j hi hj).1);refine Nat.le_trans h1 ?_;have h2:(ten 20)^N≤ten (20*N):=zhC (Nat.le_refl _);exact Nat.le_trans (zgl (Nat.le_refl _) h2) (znu (by omega))
 have hFF:∀i,i<m→facF (P0 i) N≤ten 320:=fun i hi=>by
  have h1:=zm6 (q:=P0 i) (D:=ten 20) (n:=N) (fun j hj=>(hD i j hi hj).2);exact Nat.le_trans (Nat.le_trans h1 (zhC (Nat.le_refl _))) (znu (by omega))
 have hg:∀i,i<m→(fun i=>1/(facF (P0 i) N:Rat)) i≠0:=fun i _=>zm5.2
 have hgF:∀i,i<m→RatB 1 (ten 320) ((fun i=>1/(facF (P0 i) N:Rat)) i):=fun i hi=>zm5.1.mono (Nat.le_refl _) (hFF i hi)
 have hP:∀i,i<m→∀j,j<N→P0 i j=(fun i=>1/(facF (P0 i) N:Rat)) i*(fun i j=>((zgr (P0 i) N j:Int):Rat)) i j:=fun i _ j hj=>by
  show P0 i j=1/(facF (P0 i) N:Rat)*((zgr (P0 i) N j:Int):Rat)
  rw [zoN (P0 i) hj];have:=(zm5 (q:=P0 i) (n:=N)).2;have h2:(facF (P0 i) N:Rat)≠0:=fun e=>by rw [e]at this;exact this (by grind)
  grind
 have hNX:1≤N*ten 340:=Nat.mul_pos h0 (zmn _);have hNX2:N*ten 340≤ten 342:=zgl (a:=2) (b:=340) (show N≤ten 2 from Nat.le_trans hN (by decide)) (Nat.le_refl _);have hp:(N*ten 340)^m≤ten 2736:=Nat.le_trans (zhC hNX2) (znu (by omega));have hF:1≤ten 320:=zmn _;have hb:ten 320*((N*ten 340)^m*(N*ten 340)^m)<B^700:=by
  rw [zri 700];exact Nat.lt_of_le_of_lt (zgl (Nat.le_refl _) (zgl hp hp)) (znt (by omega))
 have hb2:(N*ten 340)^m<B^700:=by
  rw [zri 700];exact Nat.lt_of_le_of_lt hp (znt (by omega))
 have hb3:(ten 320)^m*(N*ten 340)^m<B^700:=by
  rw [zri 700];have h2:(ten 320)^m≤ten 2560:=Nat.le_trans (zhC (Nat.le_refl _)) (znu (by omega));exact Nat.lt_of_le_of_lt (zgl h2 hp) (znt (by omega))
 exact⟨zsS hA hX hg hgF hP hcN hNX hF hb,zm9 hA hX hg hgF hP hcN,zlj (L:=700) hX hNX hb2 hcN,znN hA hX hg hgF hP columns hcN,fun hk=>ztm hA hX hg hgF hP hcN hNX hF hb3 hk⟩
end Go.Num
namespace Go.Num
open Go.Eng Go.Shelf Go.RowKit Go.Sort Go.Proofs Go.Proofs.YtoamcgjbelhnkaaGreatDoor
section
variable {w:World} {o1 o2:Option Addr} {n1 k1 n2 k2:Nat} {m:List (List Rat)} {c:Int}
end
end Go.Num
namespace Go.Num
open Go.Eng Go.Shelf Go.RowKit Go.Sort Go.Proofs Go.Proofs.YtoamcgjbelhnkaaGreatDoor
attribute [local go_sem] Oper.semAt_some
end Go.Num
namespace Go.Num
open Go.Eng Go.Shelf Go.RowKit Go.Sort Go.Proofs Go.Proofs.YtoamcgjbelhnkaaGreatDoor
attribute [local go_sem] Oper.semAt_some
theorem znv(m N:Nat)(A:Nat→Nat→Rat):tab (m+1) N A=tab m N A ++ [rowF (A m) N]:=by
 simp [tab,rowF,List.range_succ]
theorem zk3(w:World)(v:Value)(n:Nat)(Q:Nat→Nat→Rat)(h:MatR w v (tab n n Q))(h0:0<n)(h9:n≤1000) :
  CallsIn Fence.wide 0 Tryz.prog 58 #[v] w fun e w'=>∃v',e = .returned v'∧MatR w' v' (tab n n fun i j=>Q j i)∧Below w.heap.size w w':=by
 obtain⟨a,c,rfl⟩:=zah.some h (by rw [zaq];exact h0);have HM:=zHi h;rw [zaq]at HM ⊢;clear h;refine callsIn_of_wp Tryz.func58 rfl trivial ?_ rfl;simp only [Tryz.ntmps58,ztE,ztF,ztG,Nat.reduceAdd,Nat.reduceSub,ztH,ztI,ztJ,ztK,ztL,ztM];gi_wp2;gi_loopw [3,4] (fun x3 x4 wr=>∃i:Nat,x4 = .int .i64 (i:Int)∧i≤n∧Hid (OwnR wr w.heap.size 64 1 zaF x3 (tab i n fun i j=>Q j i))∧Hid (Below w.heap.size w wr)) (fun _ x _=>n-(intOf x).toNat)
 case atStart=>exact⟨0,rfl,by omega,OwnR.nil _ _ _ _ _,Below.refl _ w⟩
 case round=>
  obtain⟨ws,hws⟩:∃ws,ws=wr:=⟨_,rfl⟩;subst hws;obtain⟨i,rfl,hi,HO,HBr⟩:=hrel;obtain⟨oo,co,hof⟩:=HO.out.form;rw [zaq]at hof;subst hof;by_cases hin:i<n
  ·gi_wp2;gi_loopw [5,6] (fun x5 x6 wi=>∃j:Nat,x6 = .int .i64 (j:Int)∧j≤n∧Hid (OwnR wi ws.heap.size 25 3 IR x5 (rowF (fun j=>Q j i) j))∧Hid (Below ws.heap.size ws wi)) (fun _ x _=>n-(intOf x).toNat)
   case atStart=>exact⟨0,rfl,by omega,OwnR.nil _ _ _ _ _,Below.refl _ ws⟩
   case round=>
    obtain⟨j,rfl,hj,HOi,HBi⟩:=hrel;obtain⟨oi,ci,hif⟩:=HOi.out.form;rw [zan]at hif;subst hif;have HBw:=zHi (HBr.out.trans (HBi.out.mono HBr.out.size));by_cases hjn:j<n
    ·obtain⟨_,row,_,hcell,u,rfl,hu⟩:=zah.at' (zah.below HM.out HBw.out (zaF.below HBw.out)) (zek (A:=Q) hjn);have x0:=hcell 0 u rfl;rw [Addr.add_add,Nat.add_zero,Nat.mul_one]at x0;obtain⟨al,cl,rfl⟩:=zah.some hu (by simp;omega);rw [List.length_map,List.length_range]at x0 hu;obtain⟨hal,sg,o1,k1,c1,o2,k2,c2,y0,y1,y2,hra⟩:=zah.item hu (i:=i) (q:=Q j i) (by simp [hin]);have HRA:=zHi hra;clear hra hu hcell hal;gi_wp2_with (gi_at_builtin;refine stop ?_)
     unfold Stop;refine zaN (ty:=25) (sz:=3) (bytes:=56) ws wr rfl _ _ rfl Go.Num.u64 i25' i25z i25s i25b rfl (by decide) (by decide) (.slice oi j ci) (rowF (fun j=>Q j i) j) rfl HOi.out (Q j i) [.bool sg,.slice o1 k1 c1,.slice o2 k2 c2] _ rfl rfl (by simp [Value.oneCell']) HRA.out (fun b r w1 w2 ht=>IR.touch ht rfl b r) (by rw [zan];omega) HBi.out ?_;intro v5 w4 HO5 HB4 HT4 _;rw [←zhN (fun j=>Q j i) j]at HO5;clear x0 y0 y1 y2;gi_wp2;exact⟨⟨j+1,by go_num,by omega,HO5,HB4⟩,by simp only [intOf];omega⟩
    ·obtain rfl:j=n:=by omega
     have H3:=zHi (HO.out.below HBi.out (zaF.below HBi.out));gi_wp2_with (gi_at_builtin;refine stop ?_)
     unfold Stop;refine zaN (ty:=64) (sz:=1) (bytes:=24) w wr rfl _ _ rfl Go.Num.u55 i64i i64z i64s i64b rfl (by decide) (by decide) (.slice oo i co) (tab i j fun i j=>Q j i) rfl H3.out (rowF (fun j=>Q j i) j) [.slice oi j ci] _ rfl rfl (by simp [Value.oneCell']) ⟨_,rfl,HOi.out.row (by rw [zan];omega)⟩ (fun b r w1 w2 ht=>zaF.touch ht rfl (by decide) b r) (by rw [zaq];omega) HBw.out ?_;intro v7 w5 HO7 HB5 HT5 _;rw [←znv i j fun i j=>Q j i]at HO7;gi_wp2;exact⟨⟨i+1,by go_num,by omega,HO7,HB5⟩,by simp only [intOf];omega⟩
  ·obtain rfl:i=n:=by omega
   gi_wp2;all_goals (first|go_returns|go_ret|go_end0)
   exact⟨_,rfl,HO.out.row (by rw [zaq];omega),HBr.out⟩
end Go.Num
