/-
  A range over a function whose body ends normally, by the function's own walk.
  Conditions: see each statement.
-/
import Derived.Test.YtoamcgjbelhnkaaGreatDoorSAI
import Derived.RangeFuncNested
import Derived.BigFrameIn
import Derived.Test.YtoamcgjbelhnkaaGreatDoorSAA
import Derived.RangeFuncLeaves
set_option maxRecDepth 100000
set_option maxHeartbeats 16000000
namespace Go.Num
open Go.Eng Go.Shelf Go.RowKit Go.Sort Go.Proofs Go.Proofs.YtoamcgjbelhnkaaGreatDoor
structure ButB(g:Nat)(w w':World):Prop where
 size:w.heap.size≤w'.heap.size
 blk:∀k,k<w.heap.size→k≠g→w'.heap[k]? = w.heap[k]?
 os:w'.os=w.os
 tape:w'.tape=w.tape
 output:w'.output=w.output
def putCells:Array Value→Nat→List Value→Array Value
 | cur,_,[]=>cur
 | cur,o,v :: r=>putCells (cur.setIfInBounds o v) (o+1) r
theorem zd6:∀(vs:List Value) (o:Nat) (cur:Array Value),(putCells cur o vs).size=cur.size
 | [],_,_=>rfl
 | v :: r,o,cur=>by rw [putCells,zd6 r];simp
theorem zeG:∀(vs:List Value) (o:Nat) (cur:Array Value) (k:Nat),(k<o∨o+vs.length≤k)→(putCells cur o vs)[k]? = cur[k]?
 | [],_,_,_,_=>rfl
 | v :: r,o,cur,k,h=>by
  have h':k≠o:=by intro e;subst e;simp at h;omega
  rw [putCells,zeG r (o+1) _ k (by simp at h;omega)];simp [Ne.symm h']
theorem zhu:∀(vs:List Value) (o:Nat) (cur:Array Value) (j:Nat) (x:Value),vs[j]? = some x→o+j<cur.size→(putCells cur o vs)[o+j]? = some x
 | [],_,_,_,_,h,_=>by simp at h
 | v :: r,o,cur,0,x,h,hs=>by
  have h:v=x:=by simpa using h
  subst h;have hs:o<cur.size:=by omega
  rw [putCells,zeG r (o+1) _ (o+0) (by omega)];simp [hs]
 | v :: r,o,cur,j+1,x,h,hs=>by
  have h:r[j]? = some x:=by simpa using h
  rw [putCells,show o+(j+1)=o+1+j by omega];exact zhu r (o+1) _ j x h (by simp;omega)
theorem zcm{g:Nat}{t:TypeId}:∀(vs:List Value) (o:Nat) (w:World) (cur:Array Value),w.heap[g]? = some (.cells cur t (0,0))→(w.setCells g o vs).heap[g]? = some (.cells (putCells cur o vs) t (0,0))
 | [],_,_,_,h=>h
 | v :: r,o,w,cur,h=>by
  rw [World.setCells];exact zcm r (o+1) _ _ (heap_setCell_same w g o cur t v h)
theorem zai(g:Nat):∀(vs:List Value) (o:Nat) (w:World),ButB g w (w.setCells g o vs)
 | [],_,w=>⟨Nat.le_refl _,fun _ _ _=>rfl,rfl,rfl,rfl⟩
 | v :: r,o,w=>by
  rw [World.setCells];have ih:=zai g r (o+1) (w.setCell ⟨g,o,none⟩ v);refine⟨by simpa using ih.size,fun k hk hne => ?_,ih.os,ih.tape,ih.output⟩;rw [ih.blk k (by simpa using hk) hne,heap_setCell_other _ _ _ _ hne]
theorem zax{B g:Nat}{a:World}(hg:B≤g):∀(vs:List Value) (o:Nat) (w:World),Below B a w→Below B a (w.setCells g o vs)
 | [],_,_,h=>h
 | v :: r,o,w,h=>zax hg r (o+1) _ (h.setCell (p:=⟨g,o,none⟩) hg v)
theorem zqJ{sz n:Nat}{cur:List Value}{xs:List (List Value)}(hl:xs.length=n)(hr:∀r∈xs,r.length=sz)(hsz:0<sz)(hc:n*sz≤cur.length)(h:∀(i:Nat) (row:List Value) (j:Nat) (x:Value),xs[i]? = some row→row[j]? = some x→cur[i*sz+j]? = some x):cur.take (n*sz)=xs.flatten:=by
 have hfl:xs.flatten.length=n*sz:=by
  rw [List.length_flatten];have:xs.map List.length=List.replicate xs.length sz:=by
   refine List.ext_getElem? fun k => ?_
   rw [List.getElem?_map,List.getElem?_replicate];by_cases hk:k<xs.length
   ·rw [if_pos hk,List.getElem?_eq_getElem hk];exact congrArg some (hr _ (List.getElem_mem hk))
   ·rw [if_neg hk,List.getElem?_eq_none (by omega)];rfl
  rw [this,List.sum_replicate_nat,hl]
 refine List.ext_getElem? fun k => ?_
 by_cases hk:k<n*sz
 ·have hq:k/sz<n:=(Nat.div_lt_iff_lt_mul hsz).2 hk;have hm:=Nat.mod_lt k hsz;have hdm:k/sz*sz+k%sz=k:=by rw [Nat.mul_comm];exact Nat.div_add_mod k sz
  obtain⟨row,hrow⟩:∃row,xs[k/sz]? = some row:=⟨_,List.getElem?_eq_getElem (by omega)⟩;obtain⟨x,hx⟩:∃x,row[k%sz]? = some x:=⟨_,List.getElem?_eq_getElem (by rw [hr row (List.mem_of_getElem? hrow)];exact hm)⟩;have h1:=h _ _ _ _ hrow hx;have h2:=zcD hr hrow hx;rw [hdm]at h1 h2;rw [List.getElem?_take,if_pos hk,h1,h2]
 ·rw [List.getElem?_eq_none (by simp;omega),List.getElem?_eq_none (by omega)]
section
variable {β:Type} {w w':World} {base ty sz:Nat} {I:β→List Value→World→Prop} {v:Value} {bs:List β}
theorem OwnR.keep(h:OwnR w base ty sz I v bs)(hk:∀b,v.ownBlock=some b→b<w.heap.size→w'.heap[b]? = w.heap[b]?)(hI:∀b r,I b r w→I b r w'):OwnR w' base ty sz I v bs:=by
 obtain⟨xs,h1,h2,h3,h4⟩:=h;refine⟨xs,⟨h1.1,?_⟩,h2,h3,fun i row b hr hb=>hI _ _ (h4 i row b hr hb)⟩;rcases h1.2 with e|⟨g,cap,cur,e,g1,g2,g3⟩
 ·exact .inl e
 ·exact .inr ⟨g,cap,cur,e,g1,by rw [hk g (by rw [e];rfl) (Array.getElem?_eq_some_iff.1 g2).1];exact g2,g3⟩
theorem OwnR.own(h:OwnR w base ty sz I v bs)(h0:0<bs.length):∃g cap,v = .slice (some ⟨g,0,none⟩) bs.length cap∧base≤g∧g<w.heap.size∧∃cur,w.heap[g]? = some (.cells cur ty (0,0)):=by
 obtain⟨xs,h1,h2,h3,h4⟩:=h;rcases h1.2 with⟨_,e⟩|⟨g,cap,cur,rfl,g1,g2,_⟩
 ·omega
 ·exact⟨g,cap,rfl,g1,(Array.getElem?_eq_some_iff.1 g2).1,cur,g2⟩
theorem OwnR.store{g cap:Nat}(h:OwnR w base ty sz I (.slice (some ⟨g,0,none⟩) bs.length cap) bs)(hsz:0<sz){i:Nat}(hi:i<bs.length){row:List Value}{b:β}(hrow:row.length=sz)(hI:∀b r,I b r w→I b r (w.setCells g (i*sz) row))(hb:I b row (w.setCells g (i*sz) row)) :
  OwnR (w.setCells g (i*sz) row) base ty sz I (.slice (some ⟨g,0,none⟩) bs.length cap) (bs.set i b)∧w.there g (i*sz) sz:=by
 obtain⟨xs,h1,h2,h3,h4⟩:=h;rcases h1.2 with⟨e,_⟩|⟨g',cap',cur,e,g1,g2,g3,g4,g5,g6⟩
 ·cases e
 ·injection e with e _ e3;injection e with e;injection e with e _ _;subst e;subst e3;have hle:i*sz+sz≤bs.length*sz:=by
   have:(i+1)*sz≤bs.length*sz:=Nat.mul_le_mul_right _ (by omega);rw [Nat.add_mul]at this;omega
  have hcs:bs.length*sz≤cur.size:=by rw [g5];exact Nat.mul_le_mul_right _ g3
  have hL:(putCells cur (i*sz) row).toList.length=cur.size:=by rw [←zd6 row (i*sz) cur];exact Array.length_toList
  have hTake:(putCells cur (i*sz) row).toList.take (bs.length*sz)=(xs.set i row).flatten:=by
   refine zqJ (by simp [h2]) (fun r hr => ?_) hsz (by rw [hL];exact hcs) ?_
   ·rcases List.mem_or_eq_of_mem_set hr with h|h
    ·exact h3 r h
    ·rw [h];exact hrow
   ·intro k r j x hk hx;rw [Array.getElem?_toList];by_cases hki:k=i
    ·subst hki;rw [List.getElem?_set_self (by omega)]at hk
     cases hk
     exact zhu _ _ _ j x hx (by have:=(List.getElem?_eq_some_iff.1 hx).1;omega)
    ·rw [List.getElem?_set_ne (Ne.symm hki)]at hk;have hj:j<sz:=by rw [←h3 r (List.mem_of_getElem? hk)];exact(List.getElem?_eq_some_iff.1 hx).1
     rw [zeG _ _ _ _ (by
      rcases Nat.lt_or_ge k i with hlt|hge
      ·left;have:(k+1)*sz≤i*sz:=Nat.mul_le_mul_right _ hlt;rw [Nat.add_mul]at this;omega
      ·right;have:(i+1)*sz≤k*sz:=Nat.mul_le_mul_right _ (by omega);rw [Nat.add_mul]at this;omega)]
     have h5:=zcD h3 hk hx;rw [←g6,List.getElem?_take]at h5;split at h5
     ·rwa [Array.getElem?_toList]at h5
     ·cases h5
  refine⟨⟨xs.set i row,⟨?_,.inr ⟨g,cap,putCells cur (i*sz) row,by rw [List.length_set],g1,zcm _ _ _ _ g2,by rw [List.length_set];exact g3,g4,by rw [zd6];exact g5,?_⟩⟩,by simp [h2],?_,?_⟩,?_⟩
  ·rw [←hTake,List.length_take,hL,List.length_set];omega
  ·rw [List.length_set];exact hTake
  ·intro r hr;rcases List.mem_or_eq_of_mem_set hr with h|h
   ·exact h3 r h
   ·rw [h];exact hrow
  ·intro k r b' hk hb';by_cases hki:k=i
   ·subst hki;rw [List.getElem?_set_self (by omega)]at hk hb'
    cases hk;cases hb'
    exact hb
   ·rw [List.getElem?_set_ne (Ne.symm hki)]at hk hb';exact hI _ _ (h4 k r b' hk hb')
  ·intro j hj;have hlt:i*sz+j<cur.size:=by omega
   refine⟨?_,?_⟩
   ·rw [cell?_of g2,Array.getElem?_eq_getElem hlt];rfl
   ·simp [World.frozen?,g2]
end
structure zav{β:Type}(w:World)(base tyO tyI sz:Nat)(I:β→List Value→World→Prop)(v:Value)(rvs:List Value)(rows:List (List β)):Prop where
 top:OwnR w base tyO 1 (fun u r _=>r = [u]) v rvs
 len:rows.length=rvs.length
 row:∀(i:Nat) (u:Value) (l:List β),rvs[i]? = some u→rows[i]? = some l→OwnR w base tyI sz I u l
 ne:∀l∈rows,0<l.length
 inj:∀(i j:Nat) (u u':Value),rvs[i]? = some u→rvs[j]? = some u'→u.ownBlock=u'.ownBlock→i=j
section
variable {β:Type} {w w':World} {base tyO tyI sz:Nat} {I:β→List Value→World→Prop} {v:Value} {rvs:List Value} {rows:List (List β)}
theorem zav.keep(h:zav w base tyO tyI sz I v rvs rows)(hk:∀(b:Nat) (cs:Array Value) (e:TypeId),base≤b→e=tyO∨e=tyI→w.heap[b]? = some (.cells cs e (0,0))→w'.heap[b]? = w.heap[b]?)(hI:∀b r,I b r w→I b r w'):zav w' base tyO tyI sz I v rvs rows:=by
 refine⟨h.top.keep (fun b hb _ => ?_) (fun _ _ q=>q),h.len,fun i u l hu hl=>(h.row i u l hu hl).keep (fun b hb _ => ?_) hI,h.ne,h.inj⟩
 ·rcases Nat.eq_zero_or_pos rvs.length with h0|h0
  ·obtain⟨xs,h1,_⟩:=h.top;rcases h1.2 with⟨e,_⟩|⟨g,cap,cur,e,g1,g2,_⟩
   ·rw [e]at hb;cases hb
   ·rw [e]at hb;cases hb;exact hk g cur tyO g1 (.inl rfl) g2
  ·obtain⟨g,cap,e,g1,_,cur,g2⟩:=h.top.own h0;rw [e]at hb;cases hb;exact hk g cur tyO g1 (.inl rfl) g2
 ·obtain⟨g,cap,e,g1,_,cur,g2⟩:=(h.row i u l hu hl).own (h.ne l (List.mem_of_getElem? hl));rw [e]at hb;cases hb;exact hk g cur tyI g1 (.inr rfl) g2
theorem zav.below(h:zav w base tyO tyI sz I v rvs rows)(hb:Below w.heap.size w w')(hI:∀b r,I b r w→I b r w'):zav w' base tyO tyI sz I v rvs rows:=
 h.keep (fun b cs e _ _ hc=>hb.block b (Array.getElem?_eq_some_iff.1 hc).1) hI
theorem zav.cell(h:zav w base tyO tyI sz I v rvs rows){i:Nat}{u:Value}(hu:rvs[i]? = some u):∃g cap,v = .slice (some ⟨g,0,none⟩) rvs.length cap∧base≤g∧i<rvs.length∧w.cell? ((⟨g,0,none⟩:Addr).add (i*1))=some u:=by
 obtain⟨g,cap,row,e,hg,_,_,hc,rfl⟩:=h.top.item hu;refine⟨g,cap,e,hg,(List.getElem?_eq_some_iff.1 hu).1,?_⟩;have:=hc 0 u rfl;rwa [Addr.add_add,Nat.add_zero]at this
theorem zav.setRow(h:zav w base tyO tyI sz I v rvs rows)(hne:tyO≠tyI){g cap i:Nat}(hv:v = .slice (some ⟨g,0,none⟩) rvs.length cap)(hi:i<rvs.length){u:Value}{l:List β}(hu:OwnR w base tyI sz I u l)(hl:0<l.length)
  (hd:∀(j:Nat) (u':Value),rvs[j]? = some u'→j≠i→u.ownBlock≠u'.ownBlock) (hI:∀b r,I b r w→I b r (w.setCells g (i*1) [u])) :
  zav (w.setCells g (i*1) [u]) base tyO tyI sz I v (rvs.set i u) (rows.set i l)∧w.there g (i*1) 1:=by
 subst hv;obtain⟨h1,h2⟩:=h.top.store (by decide) hi (row:=[u]) (b:=u) rfl (fun _ _ q=>q) rfl;have hgb:∃cur,w.heap[g]? = some (.cells cur tyO (0,0)):=by
  obtain⟨g',cap',e,_,_,cur,hc⟩:=h.top.own (by omega);injection e with e;injection e with e;injection e with e;subst e;exact⟨cur,hc⟩
 obtain⟨cur,hgb⟩:=hgb;have far:∀{u':Value} {l:List β},OwnR w base tyI sz I u' l→0<l.length→OwnR (w.setCells g (i*1) [u]) base tyI sz I u' l:=by
  intro u' l hu hl;obtain⟨b,cb,e,_,_,cur',hcb⟩:=hu.own hl;refine hu.keep (fun k hk hlt => ?_) hI;rw [e]at hk;cases hk;refine(zai g [u] (i*1) w).blk b hlt (fun e => ?_);subst e;rw [hgb]at hcb
  cases hcb
  exact hne rfl
 refine⟨⟨h1,by simp [h.len],?_,?_,?_⟩,h2⟩
 ·intro j u' l' hj hl';by_cases hji:j=i
  ·subst hji;rw [List.getElem?_set_self hi]at hj;rw [List.getElem?_set_self (by rw [h.len];exact hi)]at hl'
   cases hj;cases hl'
   exact far hu hl
  ·rw [List.getElem?_set_ne (Ne.symm hji)]at hj hl';exact far (h.row j u' l' hj hl') (h.ne l' (List.mem_of_getElem? hl'))
 ·intro l' hl';rcases List.mem_or_eq_of_mem_set hl' with q|q
  ·exact h.ne l' q
  ·rw [q];exact hl
 ·intro a c u1 u2 ha hc e;by_cases hai:a=i
  ·by_cases hci:c=i
   ·rw [hai,hci]
   ·subst hai;rw [List.getElem?_set_self hi]at ha;rw [List.getElem?_set_ne (Ne.symm hci)]at hc
    cases ha
    exact absurd e (hd c u2 hc hci)
  ·rw [List.getElem?_set_ne (Ne.symm hai)]at ha;by_cases hci:c=i
   ·subst hci;rw [List.getElem?_set_self hi]at hc
    cases hc
    exact absurd e.symm (hd a u1 ha hai)
   ·rw [List.getElem?_set_ne (Ne.symm hci)]at hc;exact h.inj a c u1 u2 ha hc e
theorem zav.two(h:zav w base tyO tyI sz I v rvs rows)(hne:tyO≠tyI){g cap i k:Nat}(hv:v = .slice (some ⟨g,0,none⟩) rvs.length cap){uk u':Value}{lk l':List β}(hil:i<rvs.length)(hk:rvs[k]? = some uk)(hlk:rows[k]? = some lk)(hik:i≠k)
  (hu':OwnR w base tyI sz I u' l') (hl':0<l'.length) (hd:∀(j:Nat) (u:Value),rvs[j]? = some u→j≠i→u'.ownBlock≠u.ownBlock)
  (hI:∀b r,I b r w→I b r ((w.setCells g (i*1) [uk]).setCells g (k*1) [u'])) :
  zav ((w.setCells g (i*1) [uk]).setCells g (k*1) [u']) base tyO tyI sz I v ((rvs.set i uk).set k u') ((rows.set i lk).set k l')∧w.there g (i*1) 1∧(w.setCells g (i*1) [uk]).there g (k*1) 1:=by
 have hkl:k<rvs.length:=(List.getElem?_eq_some_iff.1 hk).1;subst hv;obtain⟨h1,h2⟩:=h.top.store (by decide) hil (row:=[uk]) (b:=uk) rfl (fun _ _ q=>q) rfl;have h1':OwnR (w.setCells g (i*1) [uk]) base tyO 1 (fun u r _=>r = [u]) (.slice (some ⟨g,0,none⟩) (rvs.set i uk).length cap) (rvs.set i uk):=by rw [List.length_set];exact h1
 obtain⟨h3,h4⟩:=h1'.store (by decide) (i:=k) (by rw [List.length_set];exact hkl) (row:=[u']) (b:=u') rfl (fun _ _ q=>q) rfl;rw [List.length_set]at h3;have hgb:∃cur,w.heap[g]? = some (.cells cur tyO (0,0)):=by
  obtain⟨g',cap',e,_,_,cur,hc⟩:=h.top.own (by omega);injection e with e;injection e with e;injection e with e;subst e;exact⟨cur,hc⟩
 obtain⟨cur,hgb⟩:=hgb;have far:∀{u:Value} {l:List β},OwnR w base tyI sz I u l→0<l.length→OwnR ((w.setCells g (i*1) [uk]).setCells g (k*1) [u']) base tyI sz I u l:=by
  intro u l hu hl;obtain⟨b,cb,e,_,_,cur',hcb⟩:=hu.own hl;refine hu.keep (fun k' hk' hlt => ?_) hI;rw [e]at hk';cases hk';have hbg:b≠g:=fun e=>by
   subst e;rw [hgb]at hcb
   cases hcb
   exact hne rfl
  rw [(zai g [u'] (k*1) _).blk b (Nat.lt_of_lt_of_le hlt (zai g [uk] (i*1) w).size) hbg];exact(zai g [uk] (i*1) w).blk b hlt hbg
 have who:∀(j:Nat) (u:Value),((rvs.set i uk).set k u')[j]? = some u→(j=k∧u=u'∧∀l,((rows.set i lk).set k l')[j]? = some l→l=l')∨(j=i∧j≠k∧u=uk∧∀l,((rows.set i lk).set k l')[j]? = some l→l=lk) ∨
   (j≠k∧j≠i∧rvs[j]? = some u∧∀l,((rows.set i lk).set k l')[j]? = some l→rows[j]? = some l):=by
  intro j u hj;by_cases hjk:j=k
  ·subst hjk;rw [List.getElem?_set_self (by simpa using hkl)]at hj
   cases hj
   refine .inl ⟨rfl,rfl,fun l hl => ?_⟩;rw [List.getElem?_set_self (by simp [h.len];exact hkl)]at hl
   cases hl;rfl
  ·rw [List.getElem?_set_ne (Ne.symm hjk)]at hj;by_cases hji:j=i
   ·subst hji;rw [List.getElem?_set_self hil]at hj
    cases hj
    refine .inr (.inl ⟨rfl,hjk,rfl,fun l hl => ?_⟩);rw [List.getElem?_set_ne (Ne.symm hjk),List.getElem?_set_self (by rw [h.len];exact hil)]at hl
    cases hl;rfl
   ·rw [List.getElem?_set_ne (Ne.symm hji)]at hj;refine .inr (.inr ⟨hjk,hji,hj,fun l hl => ?_⟩);rw [List.getElem?_set_ne (Ne.symm hjk),List.getElem?_set_ne (Ne.symm hji)]at hl;exact hl
 refine⟨⟨h3,by simp [h.len],?_,?_,?_⟩,h2,h4⟩
 ·intro j u l hj hl;rcases who j u hj with⟨_,rfl,q⟩|⟨_,_,rfl,q⟩|⟨_,_,q1,q2⟩
  ·rw [q l hl];exact far hu' hl'
  ·rw [q l hl];exact far (h.row k _ _ hk hlk) (h.ne _ (List.mem_of_getElem? hlk))
  ·exact far (h.row j u l q1 (q2 l hl)) (h.ne l (List.mem_of_getElem? (q2 l hl)))
 ·intro l hl;rcases List.mem_or_eq_of_mem_set hl with q|q
  ·rcases List.mem_or_eq_of_mem_set q with q|q
   ·exact h.ne l q
   ·rw [q];exact h.ne lk (List.mem_of_getElem? hlk)
  ·rw [q];exact hl'
 ·intro a c u1 u2 ha hc e;rcases who a u1 ha with⟨ea,e1,_⟩|⟨ea,_,e1,_⟩|⟨na,na2,e1,_⟩ <;> rcases who c u2 hc with⟨ec,e2,_⟩|⟨ec,_,e2,_⟩|⟨nc,nc2,e2,_⟩
  ·omega
  ·subst e1 e2;exact absurd e (hd k _ hk (Ne.symm hik))
  ·subst e1;exact absurd e (hd c u2 e2 nc2)
  ·subst e1 e2;exact absurd e.symm (hd k _ hk (Ne.symm hik))
  ·omega
  ·subst e1;exact absurd (h.inj k c _ u2 hk e2 e) (Ne.symm nc)
  ·subst e2;exact absurd e.symm (hd a u1 e1 na2)
  ·subst e2;exact absurd (h.inj a k u1 _ e1 hk e) na
  ·exact h.inj a c u1 u2 e1 e2 e
theorem zav.setItem(h:zav w base tyO tyI sz I v rvs rows)(hne:tyO≠tyI)(hsz:0<sz){i j b cap:Nat}{l:List β}(hu:rvs[i]? = some (.slice (some ⟨b,0,none⟩) l.length cap))(hl:rows[i]? = some l)(hj:j<l.length){row:List Value}{x:β}(hrow:row.length=sz)
  (hI:∀b' r,I b' r w→I b' r (w.setCells b (j*sz) row)) (hx:I x row (w.setCells b (j*sz) row)) :
  zav (w.setCells b (j*sz) row) base tyO tyI sz I v rvs (rows.set i (l.set j x))∧w.there b (j*sz) sz:=by
 have hil:i<rvs.length:=(List.getElem?_eq_some_iff.1 hu).1;have hR:=h.row i _ l hu hl;obtain⟨h1,h2⟩:=hR.store hsz hj hrow hI hx;obtain⟨b',cb,e,_,_,cur',hcb⟩:=hR.own (h.ne l (List.mem_of_getElem? hl));injection e with e;injection e with e;injection e with e;subst e;refine⟨⟨h.top.keep (fun k hk hlt => ?_) (fun _ _ q=>q),by simp [h.len],?_,?_,h.inj⟩,h2⟩
 ·obtain⟨g,cg,e,_,_,cur,hcg⟩:=h.top.own (by omega);rw [e]at hk;cases hk;refine(zai b row (j*sz) w).blk g hlt (fun e => ?_);subst e;rw [hcb]at hcg
  cases hcg
  exact hne rfl
 ·intro a u' l' ha hl';by_cases hai:a=i
  ·subst hai;rw [List.getElem?_set_self (by rw [h.len];exact hil)]at hl';rw [hu]at ha
   cases ha;cases hl'
   exact h1
  ·rw [List.getElem?_set_ne (Ne.symm hai)]at hl';refine(h.row a u' l' ha hl').keep (fun k hk hlt => ?_) hI;refine(zai b row (j*sz) w).blk k hlt (fun e => ?_);subst e;exact hai (h.inj a i _ _ ha hu hk)
 ·intro l' hl';rcases List.mem_or_eq_of_mem_set hl' with q|q
  ·exact h.ne l' q
  ·rw [q,List.length_set];exact h.ne l (List.mem_of_getElem? hl)
end
end Go.Num
namespace Go.Num
def sumQ(f:Nat→Rat):Nat→Rat
 | 0=>0
 | n+1=>sumQ f n+f n
theorem zby{f g:Nat→Rat}:∀{n:Nat},(∀i,i<n→f i=g i)→sumQ f n=sumQ g n
 | 0,_=>rfl
 | n+1,h=>by show sumQ f n+f n=sumQ g n+g n;rw [zby fun i hi=>h i (by omega),h n (by omega)]
theorem zjN(f g:Nat→Rat):∀n,sumQ (fun i=>f i+g i) n=sumQ f n+sumQ g n
 | 0=>by simp only [sumQ];grind
 | n+1=>by show sumQ (fun i=>f i+g i) n+(f n+g n)=(sumQ f n+f n)+(sumQ g n+g n);rw [zjN f g n];grind
theorem zfM:∀n,sumQ (fun _=>0) n=0
 | 0=>rfl
 | n+1=>by show sumQ (fun _=>0) n+0=0;rw [zfM n];grind
theorem zfN(c:Rat)(f:Nat→Rat):∀n,sumQ (fun i=>c*f i) n=c*sumQ f n
 | 0=>by simp only [sumQ];grind
 | n+1=>by show sumQ (fun i=>c*f i) n+c*f n=c*(sumQ f n+f n);rw [zfN c f n];grind
theorem znv(f:Nat→Rat)(n:Nat):sumQ (fun i => - f i) n = - sumQ f n:=by
 have:=zfN (-1) f n;rw [zby (g:=fun i => -1*f i) fun i _=>by grind,this];grind
theorem zkZ(f:Nat→Nat→Rat)(m:Nat):∀n,sumQ (fun i=>sumQ (fun j=>f i j) m) n=sumQ (fun j=>sumQ (fun i=>f i j) n) m
 | 0=>by show 0=sumQ (fun _=>0) m;rw [zfM]
 | n+1=>by
  show sumQ (fun i=>sumQ (fun j=>f i j) m) n+sumQ (fun j=>f n j) m=sumQ (fun j=>sumQ (fun i=>f i j) n+f n j) m
  rw [zkZ f m n,zjN]
theorem znu{f:Nat→Rat}{a:Nat}:∀{n:Nat},a<n→(∀i,i<n→i≠a→f i=0)→sumQ f n=f a
 | n+1,h,h0=>by
  show sumQ f n+f n=f a
  by_cases e:a=n
  ·subst e;rw [zby (g:=fun _=>0) fun i hi=>h0 i (by omega) (by omega),zfM];grind
  ·rw [znu (n:=n) (by omega) fun i hi hn=>h0 i (by omega) hn,h0 n (by omega) (Ne.symm e)];grind
def lieB(S:Nat→Bool):Nat→Nat
 | 0=>0
 | n+1=>lieB S n+(if S n=true then 1 else 0)
def wo(S:Nat→Bool)(j:Nat):Nat→Bool:=fun i=>S i && decide (i≠j)
theorem zkj{S:Nat→Bool}{j:Nat}:∀{n:Nat},n≤j→lieB (wo S j) n=lieB S n
 | 0,_=>rfl
 | n+1,h=>by
  have hw:wo S j n=S n:=by
   have:n≠j:=by omega
   simp [wo,this]
  unfold lieB;rw [hw,zkj (n:=n) (by omega)]
theorem zmK{S:Nat→Bool}{j:Nat}(hj:S j=true):∀{n:Nat},j<n→lieB S n=lieB (wo S j) n+1
 | n+1,h=>by
  unfold lieB;by_cases e:n=j
  ·subst e;have hw:wo S n n=false:=by simp [wo]
   rw [hw,hj,zkj (Nat.le_refl n)];simp
  ·have hw:wo S j n=S n:=by simp [wo,e]
   rw [hw,zmK hj (n:=n) (by omega)];omega
def pm(k:Nat):Rat:=if k%2=0 then 1 else -1
theorem zj4(k:Nat):pm (k+1) = - pm k:=by
 unfold pm;rcases Nat.mod_two_eq_zero_or_one k with h|h
 ·rw [if_neg (by omega),if_pos h]
 ·rw [if_pos (by omega),if_neg (by omega)];grind
theorem znM(k:Nat):pm k=1∨pm k = -1:=by
 unfold pm;split
 ·exact .inl rfl
 ·exact .inr rfl
abbrev Fam:=(Nat→Bool)→Rat
def zbX(N:Nat)(v:Nat→Rat)(w:Fam):Fam:=fun S=>sumQ (fun j=>if S j=true then pm (lieB S j)*v j*w (wo S j)else 0) N
theorem zsj(S:Nat→Bool)(j k:Nat):wo (wo S j) k=wo (wo S k) j:=by
 funext i
 unfold wo
 cases S i <;> simp [Bool.and_comm]
theorem zdD(N:Nat)(u v:Nat→Rat)(w:Fam)(S:Nat→Bool):zbX N u (zbX N v w) S = - zbX N v (zbX N u w) S:=by
 have ex:∀(u v:Nat→Rat),zbX N u (zbX N v w) S=sumQ (fun j=>sumQ (fun k=>if S j=true∧S k=true∧k≠j then pm (lieB S j)*pm (lieB (wo S j) k)*(u j*v k*w (wo (wo S j) k))else 0) N) N:=fun u v=>by
  unfold zbX;refine zby fun j _ => ?_
  by_cases hj:S j=true
  ·rw [if_pos hj,←zfN];refine zby fun k _ => ?_
   by_cases hk:S k=true∧k≠j
   ·have:wo S j k=true:=by simp [wo,hk.1,hk.2]
    rw [if_pos this,if_pos ⟨hj,hk⟩];grind
   ·have:¬wo S j k=true:=by
     intro h;simp [wo]at h
     exact hk h
    rw [if_neg this,if_neg (fun h=>hk h.2)];grind
  ·rw [if_neg hj];exact(zfM N).symm.trans (zby fun k _=>(if_neg (fun h=>hj h.1)).symm)
 rw [ex u v,ex v u,zkZ,←znv];refine zby fun k _ => ?_
 rw [←znv];refine zby fun j _ => ?_
 by_cases h:S j=true∧S k=true∧k≠j
 ·obtain⟨hj,hk,hne⟩:=h;rw [if_pos ⟨hj,hk,hne⟩,if_pos ⟨hk,hj,Ne.symm hne⟩,zsj S j k];have key:pm (lieB S j)*pm (lieB (wo S j) k) = - (pm (lieB S k)*pm (lieB (wo S k) j)):=by
   rcases Nat.lt_or_gt_of_ne hne with hlt|hlt
   ·rw [zkj (S:=S) (j:=j) (n:=k) (by omega),zmK hk hlt,zj4];grind
   ·rw [zkj (S:=S) (j:=k) (n:=j) (by omega),zmK hj hlt,zj4];grind
  rw [key];grind
 ·rw [if_neg h,if_neg (fun q=>h ⟨q.2.1,q.1,Ne.symm q.2.2⟩)];grind
theorem zmh(N:Nat)(v:Nat→Rat)(w:Fam)(S:Nat→Bool):zbX N v (zbX N v w) S=0:=by
 have:=zdD N v v w S;grind
theorem zpl(N:Nat)(u v:Nat→Rat)(c:Rat)(w:Fam)(S:Nat→Bool):zbX N (fun j=>u j+c*v j) w S=zbX N u w S+c*zbX N v w S:=by
 unfold zbX;rw [←zfN,←zjN];refine zby fun j _ => ?_
 by_cases hj:S j=true
 ·rw [if_pos hj,if_pos hj,if_pos hj];grind
 ·rw [if_neg hj,if_neg hj,if_neg hj];grind
theorem zkO(N:Nat)(u:Nat→Rat)(c:Rat)(w:Fam):zbX N u (fun S=>c*w S)=fun S=>c*zbX N u w S:=by
 funext S
 unfold zbX;rw [←zfN];refine zby fun j _ => ?_
 by_cases hj:S j=true
 ·rw [if_pos hj,if_pos hj];grind
 ·rw [if_neg hj,if_neg hj];grind
def oneF(N:Nat):Fam:=fun S=>if lieB S N=0 then 1 else 0
def zaP(N:Nat):List (Nat→Rat)→Fam
 | []=>oneF N
 | u :: r=>zbX N u (zaP N r)
theorem zet(N:Nat)(u:Nat→Rat)(B:List (Nat→Rat)):∀A,zaP N (A ++ u :: B)=fun S=>pm A.length*zaP N (u :: (A ++ B)) S
 | []=>by
  funext S
  show zaP N (u :: B) S=pm 0*zaP N (u :: B) S
  rw [show pm 0=1 from rfl];grind
 | a :: A=>by
  funext S
  show zbX N a (zaP N (A ++ u :: B)) S=pm (A.length+1)*zbX N u (zbX N a (zaP N (A ++ B))) S
  rw [zet N u B A,zkO,zj4,zdD N u a];show pm A.length*zbX N a (zbX N u (zaP N (A ++ B))) S=_
  grind
inductive Differ(u:Nat→Rat):List (Nat→Rat)→List (Nat→Rat)→Prop
 | nil:Differ u [] []
 | cons {x y:Nat→Rat} {A B:List (Nat→Rat)} (t:Rat) (h:∀j,y j=x j+t*u j) (r:Differ u A B):Differ u (x :: A) (y :: B)
theorem Differ.len{u:Nat→Rat}{A B:List (Nat→Rat)}(h:Differ u A B):A.length=B.length:=by
 induction h with
 | nil=>rfl
 | cons t h r ih=>simp [ih]
theorem Differ.append{u:Nat→Rat}{A B C D:List (Nat→Rat)}(h:Differ u A B)(k:Differ u C D):Differ u (A ++ C) (B ++ D):=by
 induction h with
 | nil=>exact k
 | cons t h r ih=>exact .cons t h ih
theorem zjG(N:Nat){u:Nat→Rat}{A B:List (Nat→Rat)}(h:Differ u A B):zaP N (u :: B)=zaP N (u :: A):=by
 induction h with
 | nil=>rfl
 | @cons x y A B t h r ih=>
  funext S
  have hy:y=fun j=>x j+t*u j:=funext h
  show zbX N u (zbX N y (zaP N B)) S=zbX N u (zbX N x (zaP N A)) S
  rw [zdD N u y,zdD N u x];show-zbX N y (zaP N (u :: B)) S = - zbX N x (zaP N (u :: A)) S
  rw [ih,hy,zpl];have:zbX N u (zaP N (u :: A)) S=0:=zmh N u _ S;rw [this];grind
theorem zoy(N:Nat){u:Nat→Rat}{A A' B B':List (Nat→Rat)}(hA:Differ u A A')(hB:Differ u B B'):zaP N (A' ++ u :: B')=zaP N (A ++ u :: B):=by
 rw [zet,zet,hA.len,zjG N (hA.append hB)]
def setL(l:List Nat):Nat→Bool:=fun j=>l.contains j
theorem zsi{c:Nat}{l:List Nat}(h:c∉l):wo (setL (c :: l)) c=setL l:=by
 funext j
 show((c :: l).contains j && decide (j≠c))=l.contains j
 rw [List.contains_cons];by_cases e:j=c
 ·subst e;have:l.contains j=false:=by
   cases hc:l.contains j with
   | false=>rfl
   | true=>exact absurd (List.contains_iff_mem.1 hc) h
  rw [this];simp
 ·have:(j == c)=false:=by simp [e]
  rw [this];simp [e]
theorem zn1:∀n,lieB (setL []) n=0
 | 0=>rfl
 | n+1=>by
  unfold lieB;rw [zn1 n];rfl
inductive Tri(N:Nat):List (Nat→Rat)→List Nat→Rat→Prop
 | nil:Tri N [] [] 1
 | cons {u:Nat→Rat} {c:Nat} {A:List (Nat→Rat)} {l:List Nat} {p:Rat} (hc:c<N) (hn:c∉l) (h0:∀k∈l,u k=0) (r:Tri N A l p):Tri N (u :: A) (c :: l) (u c*p)
theorem Tri.wedges{N:Nat}{A:List (Nat→Rat)}{l:List Nat}{p:Rat}(h:Tri N A l p):Go.Num.zaP N A (setL l)=p∨Go.Num.zaP N A (setL l) = -p:=by
 induction h with
 | nil=>
  left;show(if lieB (setL []) N=0 then(1:Rat)else 0)=1
  rw [zn1,if_pos rfl]
 | @cons u c A l p hc hn h0 r ih=>
  have e:Go.Num.zaP N (u :: A) (setL (c :: l))=pm (lieB (setL (c :: l)) c)*u c*Go.Num.zaP N A (setL l):=by
   show sumQ (fun j=>if setL (c :: l) j=true then pm (lieB (setL (c :: l)) j)*u j*Go.Num.zaP N A (wo (setL (c :: l)) j)else 0) N=_
   rw [znu hc]
   ·rw [if_pos (show setL (c :: l) c=true by simp [setL]),zsi hn]
   ·intro i _ hi;by_cases hm:setL (c :: l) i=true
    ·have:i∈l:=by
      have:i∈c :: l:=List.contains_iff_mem.1 hm;simpa [hi]using this
     rw [if_pos hm,h0 i this];grind
    ·rw [if_neg hm]
  rw [e];rcases znM (lieB (setL (c :: l)) c)with hp|hp <;> rcases ih with hi|hi <;> rw [hp,hi]
  ·left;grind
  ·right;grind
  ·right;grind
  ·left;grind
def IsB(b:Nat)(x:Rat):Prop:=∃z:Int,x=(z:Rat)∧z.natAbs≤b
theorem IsB.mono{b b':Nat}{x:Rat}(h:IsB b x)(hb:b≤b'):IsB b' x:=by
 obtain⟨z,h1,h2⟩:=h;exact⟨z,h1,Nat.le_trans h2 hb⟩
theorem IsB.zero{b:Nat}:IsB b 0:=⟨0,rfl,Nat.zero_le _⟩
theorem IsB.neg{b:Nat}{x:Rat}(h:IsB b x):IsB b (-x):=by
 obtain⟨z,rfl,h2⟩:=h;exact⟨-z,by rw [Rat.intCast_neg],by omega⟩
theorem IsB.add{b c:Nat}{x y:Rat}(h:IsB b x)(k:IsB c y):IsB (b+c) (x+y):=by
 obtain⟨z,rfl,h2⟩:=h;obtain⟨u,rfl,k2⟩:=k;exact⟨z+u,by rw [Rat.intCast_add],by omega⟩
theorem IsB.mul{b c:Nat}{x y:Rat}(h:IsB b x)(k:IsB c y):IsB (b*c) (x*y):=by
 obtain⟨z,rfl,h2⟩:=h;obtain⟨u,rfl,k2⟩:=k;exact⟨z*u,by rw [Rat.intCast_mul],by rw [Int.natAbs_mul];exact Nat.mul_le_mul h2 k2⟩
theorem IsB.sum{b:Nat}{f:Nat→Rat}:∀{n:Nat},(∀i,i<n→IsB b (f i))→IsB (n*b) (sumQ f n)
 | 0,_=>IsB.zero
 | n+1,h=>by
  rw [Nat.succ_mul];exact(IsB.sum fun i hi=>h i (by omega)).add (h n (by omega))
theorem IsB.pm{b:Nat}{x y:Rat}(h:IsB b x)(e:x=y∨x = -y):IsB b y:=by
 rcases e with rfl|rfl
 ·exact h
 ·have:=h.neg;rwa [Rat.neg_neg]at this
theorem IsB.wedge{N b X:Nat}{u:Nat→Rat}{w:Fam}(hu:∀j,j<N→IsB X (u j))(hw:∀S,IsB b (w S))(S:Nat→Bool):IsB (N*X*b) (zbX N u w S):=by
 rw [Nat.mul_assoc];refine IsB.sum fun j hj => ?_
 split
 ·have h1:=(hu j hj).mul (hw (wo S j));rcases znM (lieB S j)with hp|hp <;> rw [hp]
  ·rw [show(1:Rat)*u j*w (wo S j)=u j*w (wo S j)by grind];exact h1
  ·rw [show(-1:Rat)*u j*w (wo S j) = -(u j*w (wo S j))by grind];exact h1.neg
 ·exact IsB.zero
theorem IsB.wedges{N X:Nat}{U:Nat→Nat→Rat}:∀{L:List Nat},(∀i∈L,∀j,j<N→IsB X (U i j))→∀S,IsB ((N*X)^L.length) (zaP N (L.map U) S)
 | [],_,S=>by
  show IsB _ (if lieB S N=0 then(1:Rat)else 0)
  split
  ·exact⟨1,rfl,by show 1≤_;simp⟩
  ·exact IsB.zero
 | i :: L,h,S=>by
  show IsB ((N*X)^(L.length+1)) _
  rw [Nat.pow_succ,Nat.mul_comm];exact IsB.wedge (h i (List.mem_cons_self ..)) (fun S=>IsB.wedges (fun i hi=>h i (List.mem_cons_of_mem _ hi)) S) S
def zcV(U:Nat→Nat→Rat):Nat→List (Nat→Rat)
 | 0 => []
 | k+1=>U k :: zcV U k
def cols(c:Nat→Nat):Nat→List Nat
 | 0 => []
 | k+1=>c k :: cols c k
def zaE(U:Nat→Nat→Rat)(c:Nat→Nat):Nat→Rat
 | 0=>1
 | k+1=>U k (c k)*zaE U c k
theorem ze3{c:Nat→Nat}{j:Nat}:∀{k:Nat},j∈cols c k↔∃l,l<k∧c l=j
 | 0=>by simp [cols]
 | k+1=>by
  unfold cols;rw [List.mem_cons,ze3];constructor
  ·rintro (rfl|⟨l,h1,h2⟩)
   ·exact⟨k,by omega,rfl⟩
   ·exact⟨l,by omega,h2⟩
  ·rintro⟨l,h1,rfl⟩;by_cases e:l=k
   ·subst e;exact .inl rfl
   ·exact .inr ⟨l,by omega,rfl⟩
theorem zhY{U V:Nat→Nat→Rat}:∀{k:Nat},(∀i,i<k→U i=V i)→zcV U k=zcV V k
 | 0,_=>rfl
 | k+1,h=>by show U k :: zcV U k=V k :: zcV V k;rw [h k (by omega),zhY fun i hi=>h i (by omega)]
theorem zcA{U V:Nat→Nat→Rat}{c c':Nat→Nat}:∀{k:Nat},(∀i,i<k→U i (c i)=V i (c' i))→zaE U c k=zaE V c' k
 | 0,_=>rfl
 | k+1,h=>by show U k (c k)*zaE U c k=V k (c' k)*zaE V c' k;rw [h k (by omega),zcA fun i hi=>h i (by omega)]
theorem zd7{U:Nat→Nat→Rat}{c:Nat→Nat}:∀{k:Nat},(∀i,i<k→U i (c i)≠0)→zaE U c k≠0
 | 0,_=>by show(1:Rat)≠0;decide
 | k+1,h=>by
  show U k (c k)*zaE U c k≠0
  intro e;rcases Rat.mul_eq_zero.1 e with e|e
  ·exact h k (by omega) e
  ·exact zd7 (fun i hi=>h i (by omega)) e
structure Elim(N m X:Nat)(U:Nat→Nat→Rat)(c:Nat→Nat)(k:Nat):Prop where
 hk:k≤m
 lt:∀l,l<k→c l<N
 inc:∀l l',l<l'→l'<k→c l<c l'
 piv:∀l,l<k→U l (c l)≠0
 zero:∀i,i<m→∀l,l<k→i≠l→U i (c l)=0
 int:∀L:List Nat,L.Nodup→(∀i∈L,k≤i∧i<m)→∀S,IsB ((N*X)^(L.length+k)) (zaP N (L.map U ++ zcV U k) S)
 pre:∀l,l≤k→IsB ((N*X)^l) (zaE U c l)
theorem Elim.start{N m X:Nat}{U:Nat→Nat→Rat}{c:Nat→Nat}(h:∀i,i<m→∀j,j<N→IsB X (U i j)):Elim N m X U c 0 where
 hk:=Nat.zero_le _
 lt:=fun l h=>absurd h (by omega)
 inc:=fun l l' _ h=>absurd h (by omega)
 piv:=fun l h=>absurd h (by omega)
 zero:=fun i _ l h=>absurd h (by omega)
 int:=fun L _ hL S=>by
  show IsB _ (zaP N (L.map U ++ []) S)
  rw [List.append_nil];exact IsB.wedges (fun i hi=>h i (hL i hi).2) S
 pre:=fun l hl=>by
  have:l=0:=by omega
  subst this;exact⟨1,rfl,by show 1≤1;omega⟩
section
variable {N m X:Nat} {U:Nat→Nat→Rat} {c:Nat→Nat} {k:Nat}
theorem Elim.cols_notin(h:Elim N m X U c k):∀{l:Nat},l<k→c l∉cols c l:=by
 intro l hl hm;obtain⟨l',h1,h2⟩:=ze3.1 hm;have:=h.inc l' l h1 hl;omega
theorem Elim.tri(h:Elim N m X U c k):∀{l:Nat},l≤k→Tri N (zcV U l) (cols c l) (zaE U c l)
 | 0,_ => .nil
 | l+1,hl => .cons (h.lt l (by omega)) (h.cols_notin (by omega)) (fun j hj=>by
   obtain⟨l',h1,rfl⟩:=ze3.1 hj;exact h.zero l (by have:=h.hk;omega) l' (by omega) (by omega)) (h.tri (by omega))
theorem Elim.last(h:Elim N m X U c k):IsB ((N*X)^k) (zaE U c k):=h.pre k (Nat.le_refl _)
theorem Elim.free(h:Elim N m X U c k){i j:Nat}(hi:k≤i)(him:i<m)(hj:j<N):IsB ((N*X)^(k+1)) (zaE U c k*U i j):=by
 by_cases hc:j∈cols c k
 ·obtain⟨l,h1,rfl⟩:=ze3.1 hc;rw [h.zero i him l h1 (by omega),show zaE U c k*0=0 by grind];exact IsB.zero
 ·have ht:Tri N (U i :: zcV U k) (j :: cols c k) (U i j*zaE U c k):=.cons hj hc (fun q hq=>by
   obtain⟨l,h1,rfl⟩:=ze3.1 hq;exact h.zero i him l h1 (by omega)) (h.tri (Nat.le_refl _))
  have hb:=h.int [i] (by simp) (by intro q hq;rw [show q=i by simpa using hq];exact⟨hi,him⟩) (setL (j :: cols c k));have e:=hb.pm ht.wedges;rw [show zaE U c k*U i j=U i j*zaE U c k by grind];rw [Nat.add_comm k 1];exact e
def zem(U:Nat→Nat→Rat)(i:Nat):Nat→List (Nat→Rat)
 | 0 => []
 | k+1=>if k=i then zcV U k else U k :: zem U i k
def zkw(c:Nat→Nat)(i:Nat):Nat→List Nat
 | 0 => []
 | k+1=>if k=i then cols c k else c k :: zkw c i k
def zmB(U:Nat→Nat→Rat)(c:Nat→Nat)(i:Nat):Nat→Rat
 | 0=>1
 | k+1=>if k=i then zaE U c k else U k (c k)*zmB U c i k
theorem znK{i:Nat}:∀{l:Nat},i<l→U i (c i)*zmB U c i l=zaE U c l
 | l+1,h=>by
  show U i (c i)*(if l=i then zaE U c l else U l (c l)*zmB U c i l)=U l (c l)*zaE U c l
  by_cases e:l=i
  ·subst e;rw [if_pos rfl]
  ·rw [if_neg e,←znK (i:=i) (l:=l) (by omega)];grind
theorem zlU{i:Nat}:∀{l:Nat},i<l→(∀S,zaP N (U i :: zem U i l) S=zaP N (zcV U l) S)∨(∀S,zaP N (U i :: zem U i l) S = - zaP N (zcV U l) S)
 | l+1,h=>by
  have ed:zcV U (l+1)=U l :: zcV U l:=rfl;rw [ed];unfold zem;by_cases e:l=i
  ·subst e;rw [if_pos rfl];exact .inl fun S=>rfl
  ·rw [if_neg e];have hs:∀S,zaP N (U i :: U l :: zem U i l) S = - zbX N (U l) (zaP N (U i :: zem U i l)) S:=fun S=>zdD N _ _ _ S
   rcases zlU (i:=i) (l:=l) (by omega)with ih|ih
   ·right;intro S;rw [hs,show zaP N (U i :: zem U i l)=zaP N (zcV U l)from funext ih];rfl
   ·left;intro S;rw [hs,show zaP N (U i :: zem U i l)=fun S=>(-1)*zaP N (zcV U l) S from funext fun S=>by rw [ih S];grind,zkO];show -(-1*zbX N (U l) (zaP N (zcV U l)) S)=zbX N (U l) (zaP N (zcV U l)) S
    grind
theorem zeH{i j:Nat}:∀{k:Nat},j∈zkw c i k→∃l,l<k∧l≠i∧c l=j
 | k+1,h=>by
  unfold zkw at h;by_cases e:k=i
  ·rw [if_pos e]at h;obtain⟨l,h1,h2⟩:=ze3.1 h;exact⟨l,by omega,by omega,h2⟩
  ·rw [if_neg e,List.mem_cons]at h;rcases h with rfl|h
   ·exact⟨k,by omega,e,rfl⟩
   ·obtain⟨l,h1,h2,h3⟩:=zeH h;exact⟨l,by omega,h2,h3⟩
theorem Elim.triW(h:Elim N m X U c k)(i:Nat):∀{l:Nat},l≤k→Tri N (zem U i l) (zkw c i l) (zmB U c i l)
 | 0,_ => .nil
 | l+1,hl=>by
  unfold zem zkw zmB;by_cases e:l=i
  ·rw [if_pos e,if_pos e,if_pos e];exact h.tri (by omega)
  ·rw [if_neg e,if_neg e,if_neg e];refine .cons (h.lt l (by omega)) (fun hm => ?_) (fun j hj => ?_) (h.triW i (by omega))
   ·obtain⟨l',h1,_,h2⟩:=zeH hm;have:=h.inc l' l h1 (by omega);omega
   ·obtain⟨l',h1,_,rfl⟩:=zeH hj;exact h.zero l (by have:=h.hk;omega) l' (by omega) (by omega)
theorem Elim.held(h:Elim N m X U c k){i j:Nat}(hi:i<k)(hj:j<N):IsB ((N*X)^k) (zaE U c k*U i j/U i (c i)):=by
 have hp:=h.piv i hi;have him:i<m:=by have:=h.hk;omega
 by_cases hc:∃l,l<k∧c l=j
 ·obtain⟨l,h1,rfl⟩:=hc;by_cases e:i=l
  ·subst e;rw [show zaE U c k*U i (c i)/U i (c i)=zaE U c k by grind];exact h.last
  ·rw [h.zero i him l h1 e,show zaE U c k*0/U i (c i)=0 by grind];exact IsB.zero
 ·have ht:Tri N (U i :: zem U i k) (j :: zkw c i k) (U i j*zmB U c i k):=.cons hj (fun hm=>by
   obtain⟨l,h1,_,h2⟩:=zeH hm;exact hc ⟨l,h1,h2⟩) (fun q hq=>by
   obtain⟨l,h1,h2,rfl⟩:=zeH hq;exact h.zero i him l h1 (Ne.symm h2)) (h.triW i (Nat.le_refl _))
  have hb:=h.int [] (by simp) (by intro q hq;cases hq) (setL (j :: zkw c i k));have hb:IsB ((N*X)^k) (zaP N (zcV U k) (setL (j :: zkw c i k))):=by
   rw [List.length_nil,Nat.zero_add]at hb;exact hb
  have hb2:IsB ((N*X)^k) (zaP N (U i :: zem U i k) (setL (j :: zkw c i k))):=by
   rcases zlU (N:=N) (U:=U) hi with e|e
   ·rw [e];exact hb
   ·rw [e];exact hb.neg
  have e:=hb2.pm ht.wedges;rw [show zaE U c k*U i j/U i (c i)=U i j*zmB U c i k by rw [←znK (U:=U) (c:=c) hi];grind];exact e
def zaM(k r i:Nat):Nat:=if i=k then r else if i=r then k else i
theorem zkY{k r i j:Nat}(h:zaM k r i=zaM k r j):i=j:=by
 unfold zaM at h;split at h <;> split at h <;> (try split at h) <;> (try split at h) <;> omega
theorem Elim.swap(h:Elim N m X U c k){r:Nat}(hk:k≤r)(hr:r<m):Elim N m X (fun i=>U (zaM k r i)) c k:=by
 have lo:∀i,i<k→zaM k r i=i:=fun i hi=>by unfold zaM;rw [if_neg (by omega),if_neg (by omega)]
 have hi:∀i,k≤i→i<m→k≤zaM k r i∧zaM k r i<m:=fun i h1 h2=>by unfold zaM;split <;> (try split) <;> omega
 have hp:∀l,l≤k→zaE (fun i=>U (zaM k r i)) c l=zaE U c l:=fun l hl=>zcA fun i hi=>by rw [lo i (by omega)]
 refine⟨h.hk,h.lt,h.inc,fun l hl => ?_,fun i him l hl hne => ?_,fun L hL hLm S => ?_,fun l hl => ?_⟩
 ·show U (zaM k r l) (c l)≠0
  rw [lo l hl];exact h.piv l hl
 ·show U (zaM k r i) (c l)=0
  by_cases hik:i<k
  ·rw [lo i hik];exact h.zero i him l hl hne
  ·have:=hi i (by omega) him;exact h.zero _ this.2 l hl (by omega)
 ·have e1:zcV (fun i=>U (zaM k r i)) k=zcV U k:=zhY fun i hi=>by rw [lo i hi]
  have e2:L.map (fun i=>U (zaM k r i))=(L.map (zaM k r)).map U:=by rw [List.map_map];rfl
  rw [e1,e2];have:=h.int (L.map (zaM k r)) ?_ ?_ S
  ·rw [List.length_map]at this;exact this
  ·unfold List.Nodup;rw [List.pairwise_map];exact List.Pairwise.imp (fun hne e=>hne (zkY e)) hL
  ·intro i hi';obtain⟨j,hj,rfl⟩:=List.mem_map.1 hi';exact hi j (hLm j hj).1 (hLm j hj).2
 ·rw [hp l hl];exact h.pre l hl
def zaT(U:Nat→Nat→Rat)(k cc:Nat):Nat→Nat→Rat:=fun i=>if i=k then U k else fun j=>U i j + -(U i cc/U k cc)*U k j
def colP(c:Nat→Nat)(k cc:Nat):Nat→Nat:=fun l=>if l=k then cc else c l
theorem zjp{k cc:Nat}:∀{L:List Nat},(∀i∈L,i≠k)→Differ (U k) (L.map U) (L.map (zaT U k cc))
 | [],_ => .nil
 | i :: L,h => .cons (-(U i cc/U k cc)) (fun j=>by
   have:i≠k:=h i (List.mem_cons_self ..);unfold zaT;rw [if_neg this]) (zjp fun i hi=>h i (List.mem_cons_of_mem _ hi))
theorem zgQ{k cc:Nat}:∀{l:Nat},l≤k→Differ (U k) (zcV U l) (zcV (zaT U k cc) l)
 | 0,_ => .nil
 | l+1,h => .cons (-(U l cc/U k cc)) (fun j=>by
   have:l≠k:=by omega
   unfold zaT;rw [if_neg this]) (zgQ (by omega))
theorem Elim.step(h:Elim N m X U c k){cc:Nat}(hkm:k<m)(hcc:cc<N)(hc:∀l,l<k→c l<cc)(hp:U k cc≠0):Elim N m X (zaT U k cc) (colP c k cc) (k+1):=by
 have ec:∀l,l<k→colP c k cc l=c l:=fun l hl=>by unfold colP;rw [if_neg (by omega)]
 have ek:colP c k cc k=cc:=by unfold colP;rw [if_pos rfl]
 have eV:zaT U k cc k=U k:=by unfold zaT;rw [if_pos rfl]
 have eL:∀l,l<k→zaT U k cc l (c l)=U l (c l):=fun l hl=>by
  unfold zaT;rw [if_neg (by omega),h.zero k hkm l hl (by omega)];grind
 have hlt:∀l,l<k+1→colP c k cc l<N:=fun l hl=>by
  by_cases e:l=k
  ·subst e;rw [ek];exact hcc
  ·rw [ec l (by omega)];exact h.lt l (by omega)
 have hinc:∀l l',l<l'→l'<k+1→colP c k cc l<colP c k cc l':=fun l l' h1 h2=>by
  by_cases e:l'=k
  ·subst e;rw [ek,ec l (by omega)];exact hc l (by omega)
  ·rw [ec l (by omega),ec l' (by omega)];exact h.inc l l' h1 (by omega)
 have hpiv:∀l,l<k+1→zaT U k cc l (colP c k cc l)≠0:=fun l hl=>by
  by_cases e:l=k
  ·subst e;rw [ek,eV];exact hp
  ·rw [ec l (by omega),eL l (by omega)];exact h.piv l (by omega)
 have hzero:∀i,i<m→∀l,l<k+1→i≠l→zaT U k cc i (colP c k cc l)=0:=fun i him l hl hne=>by
  by_cases e:l=k
  ·subst e;rw [ek];unfold zaT;rw [if_neg hne];grind
  ·rw [ec l (by omega)];by_cases ei:i=k
   ·subst ei;rw [eV];exact h.zero _ hkm l (by omega) hne
   ·unfold zaT;rw [if_neg ei,h.zero i him l (by omega) hne,h.zero k hkm l (by omega) (by omega)];grind
 have hint:∀L:List Nat,L.Nodup→(∀i∈L,k+1≤i∧i<m)→∀S,IsB ((N*X)^(L.length+(k+1))) (zaP N (L.map (zaT U k cc) ++ zcV (zaT U k cc) (k+1)) S):=fun L hL hLm S=>by
  have e:zaP N (L.map (zaT U k cc) ++ zcV (zaT U k cc) (k+1))=zaP N (L.map U ++ U k :: zcV U k):=by
   show zaP N (L.map (zaT U k cc) ++ zaT U k cc k :: zcV (zaT U k cc) k)=_
   rw [eV];exact zoy N (zjp fun i hi=>by have:=(hLm i hi).1;omega) (zgQ (Nat.le_refl _))
  rw [e];have:=h.int (L ++ [k]) ?_ ?_ S
  ·rw [List.map_append,List.append_assoc,List.length_append]at this;rw [show L.length+(k+1)=L.length + [k].length+k by simp;omega];exact this
  ·rw [List.nodup_append];refine⟨hL,by simp,fun a ha b hb e => ?_⟩;have:b=k:=by simpa using hb
   have:=(hLm a ha).1;omega
  ·intro i hi;rcases List.mem_append.1 hi with hi|hi
   ·have:=hLm i hi;omega
   ·have:i=k:=by simpa using hi
    omega
 have hP:∀l,l≤k→zaE (zaT U k cc) (colP c k cc) l=zaE U c l:=fun l hl=>zcA fun i hi=>by rw [ec i (by omega),eL i (by omega)]
 have hpre:∀l,l≤k→IsB ((N*X)^l) (zaE (zaT U k cc) (colP c k cc) l):=fun l hl=>by
  rw [hP l hl];exact h.pre l hl
 refine⟨hkm,hlt,hinc,hpiv,hzero,hint,fun l hl => ?_⟩;by_cases e:l=k+1
 ·subst e;show IsB _ (zaT U k cc k (colP c k cc k)*zaE (zaT U k cc) (colP c k cc) k)
  rw [hP k (Nat.le_refl _),ek,eV,show U k cc*zaE U c k=zaE U c k*U k cc by grind];exact h.free (Nat.le_refl _) hkm hcc
 ·exact hpre l (by omega)
end
structure zdB(N m:Nat)(U:Nat→Nat→Rat)(c:Nat→Nat)(k:Nat)(A:Nat→Nat→Int)(last:Int):Prop where
 last:(last:Rat)=zaE U c k
 free:∀i,k≤i→i<m→∀j,j<N→(A i j:Rat)=zaE U c k*U i j
 held:∀i,i<k→∀j,j<N→(A i j:Rat)=zaE U c k*U i j/U i (c i)
structure zdx(N m:Nat)(U:Nat→Nat→Rat)(g:Nat→Rat)(P:Nat→Nat→Rat):Prop where
 ne:∀i,i<m→g i≠0
 row:∀i,i<m→∀j,j<N→P i j=g i*U i j
theorem intCast_inj{a b:Int}:((a:Rat)=(b:Rat))↔a=b:=Rat.intCast_inj
def zcX(A:Nat→Nat→Int)(k cc:Nat)(last:Int):Nat→Nat→Int:=fun i=>if i=k then A k else fun j=>(A k cc*A i j-A i cc*A k j).tdiv last
def zb6(P:Nat→Nat→Rat)(k cc:Nat):Nat→Nat→Rat:=fun i=>if i=k∨P i cc=0 then P i else fun j=>P i j + -(P i cc/P k cc*P k j)
section
variable {N m X:Nat} {U:Nat→Nat→Rat} {c:Nat→Nat} {k:Nat} {A:Nat→Nat→Int} {last:Int} {g:Nat→Rat} {P:Nat→Nat→Rat}
theorem zdB.start(h:∀i,i<m→∀j,j<N→(A i j:Rat)=U i j):zdB N m U c 0 A 1 where
 last:=rfl
 free:=fun i _ hi j hj=>by rw [h i hi j hj];show _=(1:Rat)*_;grind
 held:=fun i hi=>absurd hi (by omega)
theorem zdB.swap(h:zdB N m U c k A last){r:Nat}(hk:k≤r)(hr:r<m):zdB N m (fun i=>U (zaM k r i)) c k (fun i=>A (zaM k r i)) last:=by
 have lo:∀i,i<k→zaM k r i=i:=fun i hi=>by unfold zaM;rw [if_neg (by omega),if_neg (by omega)]
 have hi:∀i,k≤i→i<m→k≤zaM k r i∧zaM k r i<m:=fun i h1 h2=>by unfold zaM;split <;> (try split) <;> omega
 have hp:zaE (fun i=>U (zaM k r i)) c k=zaE U c k:=zcA fun i hi=>by rw [lo i (by omega)]
 refine⟨by rw [hp];exact h.last,fun i h1 h2 j hj => ?_,fun i h1 j hj => ?_⟩
 ·rw [hp];exact h.free _ (hi i h1 h2).1 (hi i h1 h2).2 j hj
 ·rw [hp];show(A (zaM k r i) j:Rat)=zaE U c k*U (zaM k r i) j/U (zaM k r i) (c i)
  rw [lo i h1];exact h.held i h1 j hj
theorem zdB.step(hE:Elim N m X U c k)(h:zdB N m U c k A last){cc:Nat}(hkm:k<m)(hcc:cc<N)(hc:∀l,l<k→c l<cc)(hp:U k cc≠0) :
  zdB N m (zaT U k cc) (colP c k cc) (k+1) (zcX A k cc last) (A k cc)∧∀i,i<m→i≠k→∀j,j<N→∃z,A k cc*A i j-A i cc*A k j=last*z∧zcX A k cc last i j=z:=by
 have hS:=hE.step hkm hcc hc hp;have ec:∀l,l<k→colP c k cc l=c l:=fun l hl=>by unfold colP;rw [if_neg (by omega)]
 have ek:colP c k cc k=cc:=by unfold colP;rw [if_pos rfl]
 have eV:zaT U k cc k=U k:=by unfold zaT;rw [if_pos rfl]
 have eL:∀l,l<k→zaT U k cc l (c l)=U l (c l):=fun l hl=>by
  unfold zaT;rw [if_neg (by omega),hE.zero k hkm l hl (by omega)];grind
 have hP:zaE (zaT U k cc) (colP c k cc) k=zaE U c k:=zcA fun i hi=>by rw [ec i (by omega),eL i (by omega)]
 have hP1:zaE (zaT U k cc) (colP c k cc) (k+1)=U k cc*zaE U c k:=by
  show zaT U k cc k (colP c k cc k)*zaE (zaT U k cc) (colP c k cc) k=_
  rw [hP,ek,eV]
 have hd:zaE U c k≠0:=zd7 hE.piv;have hl0:last≠0:=by
  rintro rfl;exact hd (by rw [←h.last];rfl)
 have hkk:=fun j hj=>h.free k (Nat.le_refl _) hkm j hj
 have key:∀i,i<m→i≠k→∀j,j<N→∃z:Int,A k cc*A i j-A i cc*A k j=last*z∧(z:Rat)=if i<k then zaE (zaT U k cc) (colP c k cc) (k+1)*zaT U k cc i j/zaT U k cc i (c i)else zaE (zaT U k cc) (colP c k cc) (k+1)*zaT U k cc i j:=by
  intro i him hik j hj;have ei:zaT U k cc i j=U i j + -(U i cc/U k cc)*U k j:=by unfold zaT;rw [if_neg hik]
  by_cases hlt:i<k
  ·obtain⟨z,hz,_⟩:=hS.held (i:=i) (by omega) hj;rw [ec i hlt]at hz;refine⟨z,?_,by rw [if_pos hlt];exact hz.symm⟩;rw [←intCast_inj,Rat.intCast_mul,Rat.intCast_sub,Rat.intCast_mul,Rat.intCast_mul,←hz,h.last,hkk cc hcc,hkk j hj,h.held i hlt j hj,h.held i hlt cc hcc,hP1,ei,eL i hlt];have:=hE.piv i hlt;grind
  ·obtain⟨z,hz,_⟩:=hS.free (i:=i) (by omega) him hj;refine⟨z,?_,by rw [if_neg hlt];exact hz.symm⟩;rw [←intCast_inj,Rat.intCast_mul,Rat.intCast_sub,Rat.intCast_mul,Rat.intCast_mul,←hz,h.last,hkk cc hcc,hkk j hj,h.free i (by omega) him j hj,h.free i (by omega) him cc hcc,hP1,ei];grind
 have keyz:∀i,i<m→i≠k→∀j,j<N→∃z:Int,A k cc*A i j-A i cc*A k j=last*z∧zcX A k cc last i j=z∧(z:Rat)=if i<k then zaE (zaT U k cc) (colP c k cc) (k+1)*zaT U k cc i j/zaT U k cc i (c i)else zaE (zaT U k cc) (colP c k cc) (k+1)*zaT U k cc i j:=by
  intro i him hik j hj;obtain⟨z,h1,h2⟩:=key i him hik j hj;refine⟨z,h1,?_,h2⟩;unfold zcX;rw [if_neg hik];show(A k cc*A i j-A i cc*A k j).tdiv last=z
  rw [h1];exact Int.mul_tdiv_cancel_left z hl0
 refine⟨⟨?_,fun i h1 h2 j hj => ?_,fun i h1 j hj => ?_⟩,fun i him hik j hj => ?_⟩
 ·rw [hP1,hkk cc hcc];grind
 ·obtain⟨z,_,h4,h5⟩:=keyz i h2 (by omega) j hj;rw [h4,h5,if_neg (by omega)]
 ·by_cases e:i=k
  ·subst e;rw [show zcX A i cc last i=A i by unfold zcX;rw [if_pos rfl],hkk j hj,hP1,ek,eV];grind
  ·obtain⟨z,_,h4,h5⟩:=keyz i (by omega) e j hj;rw [h4,h5,if_pos (by omega),ec i (by omega)]
 ·obtain⟨z,h3,h4,_⟩:=keyz i him hik j hj;exact⟨z,h3,h4⟩
theorem zdB.bound(hE:Elim N m X U c k)(h:zdB N m U c k A last)(hN:1≤N*X):last.natAbs≤(N*X)^m∧∀i,i<m→∀j,j<N→(A i j).natAbs≤(N*X)^m:=by
 have hk:=hE.hk;have out:∀{b:Nat} {z:Int},IsB b (z:Rat)→z.natAbs≤b:=fun⟨u,h1,h2⟩=>by rw [intCast_inj.1 h1];exact h2
 refine⟨?_,fun i hi j hj => ?_⟩
 ·refine out ?_;rw [h.last];exact hE.last.mono (Nat.pow_le_pow_right hN hk)
 ·refine out ?_;by_cases hik:i<k
  ·rw [h.held i hik j hj];exact(hE.held hik hj).mono (Nat.pow_le_pow_right hN hk)
  ·rw [h.free i (by omega) hi j hj];exact(hE.free (by omega) hi hj).mono (Nat.pow_le_pow_right hN (by omega))
theorem zdB.zero(hE:Elim N m X U c k)(h:zdB N m U c k A last){i j:Nat}(hi:k≤i)(him:i<m)(hj:j<N):A i j=0↔U i j=0:=by
 have hd:zaE U c k≠0:=zd7 hE.piv;rw [←intCast_inj,h.free i hi him j hj];constructor
 ·intro e;rcases Rat.mul_eq_zero.1 (show zaE U c k*U i j=0 from e)with e|e
  ·exact absurd e hd
  ·exact e
 ·intro e;rw [e];show zaE U c k*0=0
  grind
theorem zdx.zero(h:zdx N m U g P){i j:Nat}(hi:i<m)(hj:j<N):P i j=0↔U i j=0:=by
 have:=h.ne i hi;rw [h.row i hi j hj];constructor
 ·intro e;rcases Rat.mul_eq_zero.1 e with e|e
  ·exact absurd e this
  ·exact e
 ·intro e;rw [e];grind
def zeO(g:Nat→Rat)(k r i:Nat):Rat:=if k=r then g i else if i=k then g r else if i=r then-g k else g i
def zlq(P:Nat→Nat→Rat)(k r i:Nat):Nat→Rat:=if k=r then P i else if i=k then P r else if i=r then(fun j => - P k j)else P i
theorem zdx.swap(h:zdx N m U g P){r:Nat}(hk:k<m)(hr:r<m):zdx N m (fun i=>U (zaM k r i)) (zeO g k r) (zlq P k r):=by
 refine⟨fun i hi => ?_,fun i hi j hj => ?_⟩
 ·unfold zeO;have h1:=h.ne i hi;have h2:=h.ne r hr;have h3:=h.ne k hk;split
  ·exact h1
  ·split
   ·exact h2
   ·split
    ·grind
    ·exact h1
 ·unfold zeO zlq zaM;have h1:=h.row i hi j hj;have h2:=h.row r hr j hj;have h3:=h.row k hk j hj;split
  ·rename_i e;subst e;split
   ·rename_i e;subst e;exact h1
   ·exact h1
  ·split
   ·exact h2
   ·split
    ·show-P k j = - g k*U k j
     rw [h3];grind
    ·exact h1
theorem zdx.step(h:zdx N m U g P){cc:Nat}(hkm:k<m)(hcc:cc<N)(hp:U k cc≠0):zdx N m (zaT U k cc) g (zb6 P k cc):=by
 refine⟨h.ne,fun i hi j hj => ?_⟩;have h1:=h.row i hi j hj;have h2:=h.row i hi cc hcc;have h3:=h.row k hkm cc hcc;have h4:=h.row k hkm j hj;have n1:=h.ne i hi;have n2:=h.ne k hkm;unfold zb6 zaT;by_cases e:i=k
 ·subst e;rw [if_pos (.inl rfl),if_pos rfl];exact h1
 ·rw [if_neg e];by_cases e0:P i cc=0
  ·rw [if_pos (.inr e0)];have:=(h.zero hi hcc).1 e0;rw [h1,this];show g i*U i j=g i*(U i j + -(0/U k cc)*U k j)
   grind
  ·rw [if_neg (fun q=>q.elim e e0)];show P i j + -(P i cc/P k cc*P k j)=_
   rw [h1,h2,h3,h4];grind
end
def RatB(X Y:Nat)(q:Rat):Prop:=∃x y:Int,y≠0∧q=(x:Rat)/(y:Rat)∧x.natAbs≤X∧y.natAbs≤Y
theorem zdR{y:Int}(h:y≠0):(y:Rat)≠0:=fun e=>h (intCast_inj.1 (by rw [e];rfl))
theorem RatB.mul{X Y X' Y':Nat}{p q:Rat}(h:RatB X Y p)(k:RatB X' Y' q):RatB (X*X') (Y*Y') (p*q):=by
 obtain⟨x,y,h1,rfl,h2,h3⟩:=h;obtain⟨u,v,k1,rfl,k2,k3⟩:=k;refine⟨x*u,y*v,Int.mul_ne_zero h1 k1,?_,by rw [Int.natAbs_mul];exact Nat.mul_le_mul h2 k2,by rw [Int.natAbs_mul];exact Nat.mul_le_mul h3 k3⟩;rw [Rat.intCast_mul,Rat.intCast_mul];have:=zdR h1;have:=zdR k1;grind
theorem RatB.of_is{X Y:Nat}{p q:Rat}(h:IsB X p)(k:IsB Y q)(hq:q≠0):RatB X Y (p/q):=by
 obtain⟨x,rfl,h1⟩:=h;obtain⟨y,rfl,k1⟩:=k;exact⟨x,y,fun e=>hq (by rw [e];rfl),rfl,h1,k1⟩
theorem RatB.mono{X Y X' Y':Nat}{q:Rat}(h:RatB X Y q)(hx:X≤X')(hy:Y≤Y'):RatB X' Y' q:=by
 obtain⟨x,y,h1,h2,h3,h4⟩:=h;exact⟨x,y,h1,h2,Nat.le_trans h3 hx,Nat.le_trans h4 hy⟩
theorem RatB.size{X Y:Nat}{q:Rat}(h:RatB X Y q):q.num.natAbs≤X∧q.den≤Y:=by
 obtain⟨x,y,h1,h2,h3,h4⟩:=h;have hy:=zdR h1;have e:(q.num:Rat)/(((q.den:Nat):Int):Rat)=(x:Rat)/(y:Rat):=by rw [←Rat.divInt_eq_div,Rat.num_divInt_den];exact h2
 have hd:((q.den:Int):Rat)≠0:=zdR (by have:=q.den_nz;omega);have e2:q.num*y=x*q.den:=by
  rw [←intCast_inj,Rat.intCast_mul,Rat.intCast_mul];grind
 have hcop:=q.reduced;have e3:q.num.natAbs*y.natAbs=x.natAbs*q.den:=by
  have:=congrArg Int.natAbs e2;rw [Int.natAbs_mul,Int.natAbs_mul,Int.natAbs_natCast]at this;exact this
 have d1:q.den∣y.natAbs:=Nat.Coprime.dvd_of_dvd_mul_left (Nat.Coprime.symm hcop) ⟨x.natAbs,by rw [e3,Nat.mul_comm]⟩;refine⟨?_,Nat.le_trans (Nat.le_of_dvd (by omega) d1) h4⟩;obtain⟨t,ht⟩:=d1;have ht0:0<t:=by
  rcases Nat.eq_zero_or_pos t with h0|h0
  ·rw [h0]at ht;omega
  ·exact h0
 have:x.natAbs=q.num.natAbs*t:=by
  have hdp:0<q.den:=q.den_pos;have:q.num.natAbs*t*q.den=x.natAbs*q.den:=by rw [←e3,ht,Nat.mul_assoc,Nat.mul_comm t]
  exact(Nat.eq_of_mul_eq_mul_right hdp this).symm
 rw [this]at h3;exact Nat.le_trans (Nat.le_mul_of_pos_right _ ht0) h3
section
variable {N m X F:Nat} {U:Nat→Nat→Rat} {c:Nat→Nat} {k:Nat} {g:Nat→Rat} {P:Nat→Nat→Rat}
theorem zdx.bound(hE:Elim N m X U c k)(h:zdx N m U g P)(hN:1≤N*X)(hF:1≤F)(hg:∀i,i<m→RatB 1 F (g i)){i j:Nat}(hi:i<m)(hj:j<N):RatB ((N*X)^m*(N*X)^m) (F*((N*X)^m*(N*X)^m)) (P i j):=by
 have hk:=hE.hk;have hpow:∀l,l≤m→(N*X)^l≤(N*X)^m:=fun l hl=>Nat.pow_le_pow_right hN hl
 have h1:1≤(N*X)^m:=Nat.one_le_pow _ _ hN;have hd:zaE U c k≠0:=zd7 hE.piv;rw [h.row i hi j hj];have key:RatB ((N*X)^m*(N*X)^m) ((N*X)^m*(N*X)^m) (U i j):=by
  by_cases hik:i<k
  ·have hz:=(hE.held hik hj).mono (hpow k hk);have hp:=(hE.pre (i+1) (by omega)).mono (hpow (i+1) (by omega));have hq:=(hE.pre i (by omega)).mono (hpow i (by omega));have hi0:zaE U c i≠0:=zd7 fun l hl=>hE.piv l (by omega)
   have:=hE.piv i hik;have e:U i j=(zaE U c k*U i j/U i (c i))/zaE U c k*(zaE U c (i+1)/zaE U c i):=by
    show _=_*(U i (c i)*zaE U c i/zaE U c i)
    grind
   rw [e];exact(RatB.of_is hz (hE.last.mono (hpow k hk)) hd).mul (RatB.of_is hp hq hi0)
  ·have hz:=(hE.free (i:=i) (by omega) hi hj).mono (hpow (k+1) (by omega));have e:U i j=(zaE U c k*U i j)/zaE U c k:=by grind
   rw [e];exact(RatB.of_is hz (hE.last.mono (hpow k hk)) hd).mono (Nat.le_mul_of_pos_right _ h1) (Nat.le_mul_of_pos_right _ h1)
 have:=(hg i hi).mul key;rwa [Nat.one_mul]at this
def zcY(g:Nat→Rat):Nat→Rat
 | 0=>1
 | m+1=>zcY g m*g m
theorem zd8{g g':Nat→Rat}:∀{m:Nat},(∀i,i<m→g i=g' i)→zcY g m=zcY g' m
 | 0,_=>rfl
 | m+1,h=>by show zcY g m*g m=zcY g' m*g' m;rw [h m (by omega),zd8 fun i hi=>h i (by omega)]
theorem zhw(g:Nat→Rat)(r:Nat)(x:Rat):∀{m:Nat},r<m→zcY (fun i=>if i=r then x else g i) m*g r=zcY g m*x
 | m+1,h=>by
  show zcY (fun i=>if i=r then x else g i) m*(if m=r then x else g m)*g r=zcY g m*g m*x
  by_cases e:m=r
  ·subst e;rw [if_pos rfl,zd8 (g:=fun i=>if i=m then x else g i) (g':=g) fun i hi=>by rw [if_neg (by omega)]];grind
  ·rw [if_neg e];have:=zhw g r x (m:=m) (by omega);grind
theorem zoO{g:Nat→Rat}{k r:Nat}(hk:k<m)(hr:r<m)(hkr:k≠r)(h0:∀i,i<m→g i≠0):zcY (zeO g k r) m = - zcY g m:=by
 have e:zeO g k r=fun i=>if i=k then g r else(fun i=>if i=r then-g k else g i) i:=by
  funext i
  unfold zeO;rw [if_neg hkr]
 have a1:=zhw (fun i=>if i=r then-g k else g i) k (g r) hk;have a2:=zhw g r (- g k) hr;simp only [if_neg hkr]at a1;have n1:=h0 k hk;have n2:=h0 r hr;rw [e];grind
end
def fnz(p:Nat→Bool):Nat→Nat→Nat
 | 0,r=>r
 | n+1,r=>bif p r then r else fnz p n (r+1)
theorem zn9(p:Nat→Bool):∀(n r:Nat),r≤fnz p n r∧fnz p n r≤r+n
 | 0,r=>⟨Nat.le_refl _,Nat.le_refl _⟩
 | n+1,r=>by
  unfold fnz
  cases p r with
  | true=>exact⟨Nat.le_refl _,by simp⟩
  | false=>have:=zn9 p n (r+1);exact⟨by simp only [cond_false];omega,by simp only [cond_false];omega⟩
theorem zn8{p:Nat→Bool}:∀{n r q:Nat},r≤q→q≤r+n→(∀i,r≤i→i<q→p i=false)→(q=r+n∨p q=true)→fnz p n r=q
 | 0,r,q,h1,h2,_,_=>by unfold fnz;omega
 | n+1,r,q,h1,h2,h3,h4=>by
  unfold fnz;by_cases e:r=q
  ·subst e;rcases h4 with h4|h4
   ·omega
   ·rw [h4];rfl
  ·rw [h3 r (Nat.le_refl _) (by omega)];exact zn8 (by omega) (by omega) (fun i h5 h6=>h3 i (by omega) h6) (h4.imp (fun h=>by omega) id)
theorem zqI{p:Nat→Bool}:∀{n r:Nat},fnz p n r<r+n→p (fnz p n r)=true
 | 0,r,h=>by unfold fnz at h;omega
 | n+1,r,h=>by
  unfold fnz at h ⊢
  cases e:p r with
  | true=>exact e
  | false=>
   rw [e]at h;exact zqI (by simp only [cond_false]at h;omega)
structure PS where
 P:Nat→Nat→Rat
 k:Nat
def nzP(P:Nat→Nat→Rat)(cc i:Nat):Bool:=decide (P i cc≠0)
def pRow(m cc:Nat)(s:PS):Nat:=fnz (nzP s.P cc) (m-s.k) s.k
def zf2(m cc:Nat)(s:PS):PS:=if pRow m cc s=m then s else⟨zb6 (zlq s.P s.k (pRow m cc s)) s.k cc,s.k+1⟩
def pRun(m:Nat)(P0:Nat→Nat→Rat):Nat→PS
 | 0=>⟨P0,0⟩
 | c+1=>zf2 m c (pRun m P0 c)
theorem zf3(m:Nat)(P0:Nat→Nat→Rat):∀c,(pRun m P0 c).k≤m∧(pRun m P0 c).k≤c
 | 0=>⟨Nat.zero_le _,Nat.zero_le _⟩
 | c+1=>by
  have ih:=zf3 m P0 c;show(zf2 m c (pRun m P0 c)).k≤m∧(zf2 m c (pRun m P0 c)).k≤c+1
  unfold zf2;split
  ·omega
  ·rename_i h;have:=(zn9 (nzP (pRun m P0 c).P c) (m-(pRun m P0 c).k) (pRun m P0 c).k);unfold pRow at h;refine⟨?_,Nat.succ_le_succ ih.2⟩;show(pRun m P0 c).k+1≤m
   omega
def zf1(P:Nat→Nat→Rat)(k cc i:Nat):Nat→Nat→Rat:=fun j=>if j<i then zb6 P k cc j else P j
theorem zoT(P:Nat→Nat→Rat)(k cc:Nat):zf1 P k cc 0=P:=by
 funext j
 unfold zf1;rw [if_neg (by omega)]
theorem zi5(P:Nat→Nat→Rat)(k cc i:Nat):zf1 P k cc (i+1)=fun j=>if j=i then zb6 P k cc i else zf1 P k cc i j:=by
 funext j
 unfold zf1;by_cases e:j=i
 ·subst e;rw [if_pos rfl,if_pos (by omega)]
 ·rw [if_neg e];by_cases h:j<i
  ·rw [if_pos h,if_pos (by omega)]
  ·rw [if_neg h,if_neg (by omega)]
theorem zoU(P:Nat→Nat→Rat)(k cc i:Nat):zf1 P k cc i k=P k:=by
 unfold zf1;split
 ·unfold zb6;rw [if_pos (.inl rfl)]
 ·rfl
theorem zj5(P:Nat→Nat→Rat)(k cc i:Nat):zf1 P k cc i i=P i:=by
 unfold zf1;rw [if_neg (by omega)]
theorem zi6{P:Nat→Nat→Rat}{k cc i:Nat}(h:i=k∨P i cc=0):zf1 P k cc (i+1)=zf1 P k cc i:=by
 rw [zi5]
 funext j
 by_cases e:j=i
 ·subst e;rw [if_pos rfl,zj5];unfold zb6;rw [if_pos h]
 ·rw [if_neg e]
def zaF(m:Nat)(P0:Nat→Nat→Rat):Nat→List Nat
 | 0 => []
 | c+1=>if pRow m c (pRun m P0 c)=m then zaF m P0 c else zaF m P0 c ++ [c]
theorem zdl(m:Nat)(P0:Nat→Nat→Rat):∀c,(zaF m P0 c).length=(pRun m P0 c).k
 | 0=>rfl
 | c+1=>by
  have ih:=zdl m P0 c;show(if pRow m c (pRun m P0 c)=m then zaF m P0 c else zaF m P0 c ++ [c]).length=(zf2 m c (pRun m P0 c)).k
  unfold zf2;split
  ·exact ih
  ·rw [List.length_append,ih];rfl
theorem zg4(m:Nat)(P0:Nat→Nat→Rat):∀c,∀x∈zaF m P0 c,x<c
 | 0,x,h=>by cases h
 | c+1,x,h=>by
  have ih:=zg4 m P0 c;unfold zaF at h;split at h
  ·have:=ih x h;omega
  ·rcases List.mem_append.1 h with h|h
   ·have:=ih x h;omega
   ·have:=List.mem_singleton.1 h;omega
theorem zlr(m:Nat)(P0:Nat→Nat→Rat)(c:Nat):∀d,∃t,zaF m P0 (c+d)=zaF m P0 c ++ t
 | 0=>⟨[],by simp⟩
 | d+1=>by
  obtain⟨t,ht⟩:=zlr m P0 c d;show ∃t',(if pRow m (c+d) (pRun m P0 (c+d))=m then zaF m P0 (c+d)else zaF m P0 (c+d) ++ [c+d])=_
  split
  ·exact⟨t,ht⟩
  ·exact⟨t ++ [c+d],by rw [ht,List.append_assoc]⟩
theorem zi8{m:Nat}{P0:Nat→Nat→Rat}{c n:Nat}(h:c≤n):(zaF m P0 n).take (pRun m P0 c).k=zaF m P0 c:=by
 obtain⟨t,ht⟩:=zlr m P0 c (n-c);rw [show c+(n-c)=n by omega]at ht;rw [ht,←zdl,List.take_left]
theorem zoX{m:Nat}{P0:Nat→Nat→Rat}{c n:Nat}(h:c<n)(hr:pRow m c (pRun m P0 c)<m):(zaF m P0 n).take ((pRun m P0 c).k+1)=(zaF m P0 n).take (pRun m P0 c).k ++ [c]:=by
 have h1:=zi8 (m:=m) (P0:=P0) (c:=c+1) (n:=n) h;have e:(pRun m P0 (c+1)).k=(pRun m P0 c).k+1:=by
  show(zf2 m c (pRun m P0 c)).k=_
  unfold zf2;rw [if_neg (by omega)]
 rw [e]at h1;rw [h1,zi8 (by omega)];show(if pRow m c (pRun m P0 c)=m then zaF m P0 c else zaF m P0 c ++ [c])=_
 rw [if_neg (by omega)]
def zbS(P:Nat→Nat→Rat)(cs:List Nat)(i:Nat):Nat→Rat:=match cs[i]? with|some c=>fun j=>P i j/P i c|none=>P i
end Go.Num
namespace Go.Eng
open Go.RowKit
section
variable {F:Fence} {n:Nat} {P:Program}
def zgn(fn:FuncId)(tmps:Array Value)(ps:Array Tmp)(assign body:Code)(D:Nat)(st:LoopState)(pe:Option Code):Loop:={state:=st,pending:=pe,fn,tmps,params:=ps,assign,body,defers:=D}
def zgh(B:Nat)(rec:LoopState→Option Code→Loop)(W:World):Prop:=W.heap[B+1]? = some (.loop (rec .ready none))∧W.heap[B]? = some (.deferred (some []))
theorem zrr{B:Nat}{fn:FuncId}{tmps:Array Value}{ps:Array Tmp}{assign body:Code}{W:World}{xs:Array Value}{R:Ending→World→Prop}(hF:F.fn fn)(hps:xs.size=ps.size)
  (hb:zgh B (zgn fn tmps ps assign body B) W)
  (h:assign.wpIn (F.inRound (B+1)) n P (Exit.then (fun a' Wa=>zgh B (zgn fn tmps ps assign body B) Wa∧body.wpIn (F.inRound (B+1)) n P (fun e _ W3=>e = .normal∧W3.heap[B+1]? = some (.loop (zgn fn tmps ps assign body B .busy none))∧W3.heap[B]? = some (.deferred (some []))∧R (.returned (.bool true)) (W3.putObj (B+1) (.loop (zgn fn tmps ps assign body B .ready none)))) a' (Wa.putObj (B+1) (.loop (zgn fn tmps ps assign body B .busy none)))) (fun _ _ _=>False))
   {tmps:=(ps.zip xs).foldl (fun t (p,v)=>t.setIfInBounds p v) tmps,defers:=[]} W) :
  YieldAt F n P (B+1) xs W R:=by
 have hy:=run_yield (P:=P) (args:=xs) hb.1 hps;refine⟨fn,_,assign,body,hy,roundIn_of_wpIn hF (wpIn_mono h ?_)⟩;rintro e a' Wa hx
 cases e with
 | normal=>
  obtain⟨hbk,hbody⟩:=hx;refine⟨_,run_beginRound hbk.1 rfl,wpIn_mono hbody ?_⟩;rintro e3 a3 W3 ⟨rfl,h1,h2,h3⟩;have:=run_endRound (P:=P) none h1;exact⟨_,_,this,h3⟩
 | _=>exact hx.elim
theorem zrt{g:Operand}{ps:Array Tmp}{assign body:Code}{Q:Exit→CAct→World→Prop}{a:CAct}{w:World}
  (hro:F.round=none) (h1:1≤n) {gf:Nat} {lb:Array Value} (hg:a.eval g = .func (.func gf) #[] lb) (hFg:F.fn gf) (eg:∀args w,(callFunc gf args).run P w = .ok (.enter gf args) w)
  (h:∀fn,F.fn fn→CallsIn F (n-1) P gf (#[.func (.yield (w.heap.size+1)) #[] #[]] ++ lb) ((w.alloc (.deferred (some []))).alloc (.loop (zgn fn a.tmps ps assign body w.heap.size .ready none))) fun e W2=>
   (∃v,e = .returned v)∧zgh w.heap.size (zgn fn a.tmps ps assign body w.heap.size) W2∧Q .normal {a with defers:={target:=.collected w.heap.size,args:=#[]} :: a.defers} (W2.putObj (w.heap.size+1) (.loop (zgn fn a.tmps ps assign body w.heap.size .exhausted none)))) :
  (Code.rangeFunc g ps assign body).wpIn F n P Q a w:=by
 refine wpIn_rangeFunc ?_;intro fn hfn;rw [hro];have h:=h fn hfn;obtain⟨W1,hW1⟩:∃W1,(w.alloc (.deferred (some []))).alloc (.loop (zgn fn a.tmps ps assign body w.heap.size .ready none))=W1:=⟨_,rfl⟩;rw [hW1]at h;refine⟨w.heap.size+1,[{target:=.collected w.heap.size,args:=#[]}],W1,{target:=.fn (.func gf) lb,args:=#[.func (.yield (w.heap.size+1)) #[] #[]]},W1,gf,
  #[.func (.yield (w.heap.size+1)) #[] #[]] ++ lb,W1,?_,?_,?_,?_,fun _=>h1,?_⟩
 ·rw [←hW1];exact run_enterLoop_outer _ _ _ _ _
 ·simp only [resolve,hg];simp [go_sem]
 ·intro f' hf';simp [Target.leads]at hf';subst hf';exact hFg
 ·simp [invoke,go_sem,eg]
 ·refine h.mono ?_;rintro e W2 ⟨⟨v,rfl⟩,hb,hq⟩;exact⟨none,_,by have:=run_endLoop (P:=P) hb.1 (by simp [zgn]);exact this,hq⟩
end
end Go.Eng
namespace Go.Num
open Go.Eng Go.Shelf Go.RowKit Go.Sort Go.Proofs Go.Proofs.YtoamcgjbelhnkaaGreatDoor
theorem zgv{q:Rat}{L:Nat}(h:zan q L)(h0:0<L)(hL:L≤2222):zb5 q=true:=by
 rw [←zdG];unfold zbq;have h1:=zd9 h0 h.1;have h2:=zd9 h0 h.2;rw [decide_eq_true (by omega),decide_eq_true (by omega)];rfl
theorem zau.kept'{res:List TypeId}{w w':World}{v:Value}{q:Rat}(h:zau w v q)(hk:Go.Eng.Kept res w w')(he:res.contains 111=true):zau w' v q:=by
 obtain⟨vn,vd,e,h1,h2⟩:=h;exact⟨vn,vd,e,h1.kept hk he,h2.kept hk he⟩
def tab{β:Type}(m N:Nat)(A:Nat→Nat→β):List (List β):=(List.range m).map fun i=>(List.range N).map (A i)
theorem zbG{β:Type}{m N:Nat}{A:Nat→Nat→β}{i:Nat}(h:i<m):(tab m N A)[i]? = some ((List.range N).map (A i)):=by simp [tab,h]
theorem zal{β:Type}(m N:Nat)(A:Nat→Nat→β):(tab m N A).length=m:=by simp [tab]
theorem zfk{β:Type}{m N:Nat}{A:Nat→Nat→β}{l:List β}(h:l∈tab m N A):l.length=N:=by
 unfold tab at h;obtain⟨i,_,rfl⟩:=List.mem_map.1 h;simp
theorem zhh{β:Type}{m N:Nat}{A:Nat→Nat→β}{i:Nat}(a:Nat→β):(tab m N A).set i ((List.range N).map a)=tab m N fun j=>if j=i then a else A j:=by
 refine List.ext_getElem? fun k => ?_
 by_cases hk:k<m
 ·rw [zbG hk];by_cases e:k=i
  ·subst e;rw [List.getElem?_set_self (by rw [zal];exact hk),if_pos rfl]
  ·rw [List.getElem?_set_ne (Ne.symm e),zbG hk,if_neg e]
 ·rw [List.getElem?_eq_none (by rw [List.length_set,zal];omega),List.getElem?_eq_none (by rw [zal];omega)]
theorem zkX{β:Type}{m N:Nat}{A A':Nat→Nat→β}(h:∀i,i<m→A i=A' i):tab m N A=tab m N A':=by
 unfold tab;refine List.map_congr_left fun i hi => ?_
 rw [h i (List.mem_range.1 hi)]
theorem ButB.of_below{g:Nat}{w w':World}(h:Below w.heap.size w w'):ButB g w w':=⟨h.size,fun k hk _=>h.block k hk,h.os,h.tape,h.output⟩
theorem ButB.trans{g:Nat}{w w' w'':World}(h:ButB g w w')(k:ButB g w' w''):ButB g w w'':=⟨Nat.le_trans h.size k.size,fun i hi hne=>by rw [k.blk i (Nat.lt_of_lt_of_le hi h.size) hne,h.blk i hi hne],k.os.trans h.os,k.tape.trans h.tape,k.output.trans h.output⟩
theorem ButB.elem{g b:Nat}{e:TypeId}{w w':World}(h:ButB g w w')(hE:Elem w b e)(hne:b≠g):Elem w' b e:=hE.of_block (h.blk b hE.lt hne)
theorem ButB.cell{g:Nat}{w w':World}(h:ButB g w w'){p:Addr}(hp:p.block<w.heap.size)(hne:p.block≠g):w'.cell? p=w.cell? p:=World.cell?_of_block (h.blk _ hp hne)
theorem ButB.kept{g:Nat}{w w':World}{e:TypeId}(h:ButB g w w')(hE:Elem w g e)(he:rs3.contains e=false):Go.Eng.Kept rs3 w w':=fun b cs t fz q hc=>by
 rw [h.blk b (Array.getElem?_eq_some_iff.1 q).1 (fun e'=>by
  subst e';obtain⟨cs',fz',hE⟩:=hE;rw [hE]at q
  cases q
  rw [he]at hc;cases hc)]
 exact q
theorem zqb:Tryz.prog.globalNamed "internal/strconv.uint64pow10" = some 3:=by kernel_rfl
theorem zaY.but{g:Nat}{w w':World}(h:zaY w)(hb:ButB g w w')(hg:4≤g):zaY w':=by
 unfold zaY Lib.TabIs World.var? at h ⊢;rw [zqb]at h ⊢;simp only [Option.bind_some]at h ⊢;have hlt:3<w.heap.size:=by
  rcases Nat.lt_or_ge 3 w.heap.size with h'|h'
  ·exact h'
  ·rw [Array.getElem?_eq_none h']at h;cases h
 rw [hb.blk 3 hlt (by omega)];exact h
theorem zaY.two{w:World}(h:zaY w):4≤w.heap.size:=by
 unfold zaY Lib.TabIs World.var? at h;rw [zqb]at h;simp only [Option.bind_some]at h;rcases Nat.lt_or_ge 3 w.heap.size with h'|h'
 ·exact h'
 ·rw [Array.getElem?_eq_none h']at h;cases h
abbrev Inv':=Nat→World→Prop
structure PvS(base b2 g cv:Nat)(m N:Nat)(Inv:Inv')(A:Nat→Nat→Rat)(k:Nat)(w:World):Prop where
 mat:∃rvs,zav w base 64 25 3 IR (.slice (some ⟨g,0,none⟩) m cv) rvs (tab m N A)
 box:w.cell? ⟨b2,0,none⟩=some (.slice (some ⟨g,0,none⟩) m cv)
 eb:Elem w b2 116
 eg:Elem w g 64
 tab:zaY w
 two:4≤base
 inv:Inv k w
section
variable {base b2 g cv m N:Nat} {Inv:Inv'} {A A':Nat→Nat→Rat} {k:Nat} {w w':World}
theorem PvS.but(h:PvS base b2 g cv m N Inv A k w)(hb:ButB g w w')(hK:Go.Eng.Kept rs3 w w')(hp:zaY w')(hI:∀k w w',Inv k w→ButB g w w'→Elem w g 64→Inv k w')(hE:Elem w' g 64)(hm:∃rvs,zav w' base 64 25 3 IR (.slice (some ⟨g,0,none⟩) m cv) rvs (Go.Num.tab m N A')):PvS base b2 g cv m N Inv A' k w':=
 ⟨hm,(hb.cell (p:=⟨b2,0,none⟩) h.eb.lt (h.eb.ne h.eg (by decide))).trans h.box,hb.elem h.eb (h.eb.ne h.eg (by decide)),hE,hp,h.two,hI _ _ _ h.inv hb h.eg⟩
theorem PvS.gge(h:PvS base b2 g cv m N Inv A k w)(hm:0<m):4≤g:=by
 obtain⟨rvs,hm'⟩:=h.mat;have hl:rvs.length=m:=by rw [←hm'.len,zal]
 obtain⟨g',cv',e,hg,_⟩:=hm'.top.own (by omega);injection e with e;injection e with e;injection e with e;have:=h.two;omega
theorem PvS.below(h:PvS base b2 g cv m N Inv A k w)(hb:Below w.heap.size w w')(hI:∀k w w',Inv k w→ButB g w w'→Elem w g 64→Inv k w'):PvS base b2 g cv m N Inv A k w':=by
 obtain⟨rvs,hm⟩:=h.mat;exact h.but (.of_below hb) (.of_below hb) (h.tab.below hb) hI (h.eg.below hb h.eg.lt) ⟨rvs,hm.below hb (IR.below hb)⟩
theorem PvS.congr(h:PvS base b2 g cv m N Inv A k w)(e:∀i,i<m→A i=A' i):PvS base b2 g cv m N Inv A' k w:=by
 obtain⟨rvs,hm⟩:=h.mat;exact⟨⟨rvs,by rw [←zkX e];exact hm⟩,h.box,h.eb,h.eg,h.tab,h.two,h.inv⟩
theorem PvS.row(h:PvS base b2 g cv m N Inv A k w){i:Nat}(hi:i<m)(hN:0<N):∃rvs b c,zav w base 64 25 3 IR (.slice (some ⟨g,0,none⟩) m cv) rvs (Go.Num.tab m N A)∧rvs.length=m∧rvs[i]? = some (.slice (some ⟨b,0,none⟩) N c)∧w.cell? ((⟨g,0,none⟩:Addr).add (i*1))=some (.slice (some ⟨b,0,none⟩) N c) ∧
  OwnR w base 25 3 IR (.slice (some ⟨b,0,none⟩) N c) (rowF (A i) N):=by
 obtain⟨rvs,hm⟩:=h.mat;have hl:rvs.length=m:=by rw [←hm.len,zal]
 obtain⟨u,hu⟩:∃u,rvs[i]? = some u:=⟨_,List.getElem?_eq_getElem (by omega)⟩;have hr:=hm.row i u _ hu (zbG hi);obtain⟨b,c,e,_⟩:=hr.own (by simp;exact hN);simp only [List.length_map,List.length_range]at e;subst e;obtain⟨g',cap,e,_,_,hc⟩:=hm.cell hu;injection e with e e2 e3;injection e with e;injection e with e;subst e;exact⟨rvs,b,c,hm,hl,hu,hc,hr⟩
theorem PvS.item(h:PvS base b2 g cv m N Inv A k w){i j:Nat}(hi:i<m)(hj:j<N)(hN9:N≤1000):∃ra rc sg o1 k1 c1 o2 k2 c2,w.cell? ⟨g,i,none⟩=some (.slice (some ra) N rc) ∧
  w.cell? (ra.add (j*3))=some (.bool sg)∧w.cell? ⟨(ra.add (j*3)).block,(ra.add (j*3)).off+1,none⟩=some (.slice o1 k1 c1)∧w.cell? ⟨(ra.add (j*3)).block,(ra.add (j*3)).off+2,none⟩=some (.slice o2 k2 c2)∧zau w (.agg #[.bool sg,.slice o1 k1 c1,.slice o2 k2 c2]) (A i j):=by
 obtain⟨rvs,b,c,hm,hl,hu,hc,hr⟩:=h.row hi (by omega);have hR:RowR w (.slice (some ⟨b,0,none⟩) N c) (rowF (A i) N):=hr.row (by rw [zak];omega);obtain⟨_,sg,o1,k1,c1,o2,k2,c2,x0,x1,x2,hra⟩:=zad.item hR (zdf (a:=A i) hj);rw [Nat.mul_one,Addr.add_lit,Nat.zero_add]at hc;exact⟨_,c,sg,o1,k1,c1,o2,k2,c2,hc,x0,x1,x2,hra⟩
theorem PvS.set(h:PvS base b2 g cv m N Inv A k w)(hN:0<N){i:Nat}(hi:i<m){u:Value}{a:Nat→Rat}(hu:OwnR w base 25 3 IR u (rowF a N))(hf:∀rvs,zav w base 64 25 3 IR (.slice (some ⟨g,0,none⟩) m cv) rvs (Go.Num.tab m N A)→∀(j:Nat) (u':Value),rvs[j]? = some u'→j≠i→u.ownBlock≠u'.ownBlock)(hI:∀k w w',Inv k w→ButB g w w'→Elem w g 64→Inv k w') :
  PvS base b2 g cv m N Inv (fun j=>if j=i then a else A j) k (w.setCells g (i*1) [u])∧w.there g (i*1) 1:=by
 obtain⟨rvs,hm⟩:=h.mat;have hl:rvs.length=m:=by rw [←hm.len,zal]
 have hbut:=zai g [u] (i*1) w;have hK:=hbut.kept h.eg rfl;obtain⟨h1,h2⟩:=hm.setRow (by decide) (by rw [hl]) (by omega) hu (by rw [zak];exact hN) (hf rvs hm) (fun _ _ q=>zau.kept q hK);have hE:Elem (w.setCells g (i*1) [u]) g 64:=by
  obtain⟨g',cv',e,_,_,cur,hc⟩:=hm.top.own (by omega);injection e with e;injection e with e;injection e with e;subst e;exact⟨_,_,zcm _ _ _ _ hc⟩
 have e1:=zhh (m:=m) (N:=N) (A:=A) (i:=i) a;rw [show(Go.Num.tab m N A).set i (rowF a N)=_ from e1]at h1;exact⟨h.but hbut hK (h.tab.but hbut (h.gge (by omega))) hI hE ⟨_,h1⟩,h2⟩
theorem PvS.both(h:PvS base b2 g cv m N Inv A k w)(hN:0<N){i r:Nat}(hi:i<m)(hr:r<m)(hir:i≠r){ur u:Value}{a:Nat→Rat}(hur:∀rvs,zav w base 64 25 3 IR (.slice (some ⟨g,0,none⟩) m cv) rvs (Go.Num.tab m N A)→rvs[r]? = some ur)(hu:OwnR w base 25 3 IR u (rowF a N))(hf:∀rvs,zav w base 64 25 3 IR (.slice (some ⟨g,0,none⟩) m cv) rvs (Go.Num.tab m N A)→∀(j:Nat) (u':Value),rvs[j]? = some u'→j≠i→u.ownBlock≠u'.ownBlock)(hI:∀k w w',Inv k w→ButB g w w'→Elem w g 64→Inv k w') :
  PvS base b2 g cv m N Inv (fun j=>if j=r then a else if j=i then A r else A j) k ((w.setCells g (i*1) [ur]).setCells g (r*1) [u])∧w.there g (i*1) 1∧(w.setCells g (i*1) [ur]).there g (r*1) 1:=by
 obtain⟨rvs,hm⟩:=h.mat;have hl:rvs.length=m:=by rw [←hm.len,zal]
 have hbut:=(zai g [ur] (i*1) w).trans (zai g [u] (r*1) _);have hK:=hbut.kept h.eg rfl;obtain⟨h1,h2,h3⟩:=hm.two (by decide) (by rw [hl]) (by omega) (hur rvs hm) (zbG hr) hir hu (by rw [zak];exact hN) (hf rvs hm) (fun _ _ q=>zau.kept q hK);have hE:Elem ((w.setCells g (i*1) [ur]).setCells g (r*1) [u]) g 64:=by
  obtain⟨g',cv',e,_,_,cur,hc⟩:=hm.top.own (by omega);injection e with e;injection e with e;injection e with e;subst e;exact⟨_,_,zcm _ _ _ _ (zcm _ _ _ _ hc)⟩
 have e1:=zhh (m:=m) (N:=N) (A:=A) (i:=i) (A r);have e2:=zhh (m:=m) (N:=N) (A:=fun j=>if j=i then A r else A j) (i:=r) a;rw [show((Go.Num.tab m N A).set i ((List.range N).map (A r))).set r (rowF a N)=_ from(congrArg (fun t=>t.set r ((List.range N).map a)) e1).trans e2]at h1;exact⟨h.but hbut hK (h.tab.but hbut (h.gge (by omega))) hI hE ⟨_,h1⟩,h2,h3⟩
theorem zj6{w:World}{rvs:List Value}{A:Nat→Nat→Rat}(h:zav w base 64 25 3 IR (.slice (some ⟨g,0,none⟩) m cv) rvs (Go.Num.tab m N A)){i:Nat}{u:Value}(hi:i<m)(hc:w.cell? ((⟨g,0,none⟩:Addr).add (i*1))=some u):rvs[i]? = some u:=by
 have hl:rvs.length=m:=by rw [←h.len,zal]
 obtain⟨u',hu'⟩:∃u',rvs[i]? = some u':=⟨_,List.getElem?_eq_getElem (by omega)⟩;obtain⟨g',cap,e,_,_,hc'⟩:=h.cell hu';injection e with e;injection e with e;injection e with e;subst e;rw [hc]at hc';rw [hu',hc']
theorem PvS.old(h:PvS base b2 g cv m N Inv A k w)(hb:Below w.heap.size w w')(hN:0<N):∀rvs,zav w' base 64 25 3 IR (.slice (some ⟨g,0,none⟩) m cv) rvs (Go.Num.tab m N A')→∀(j:Nat) (u':Value),rvs[j]? = some u'→∀b,u'.ownBlock=some b→b<w.heap.size:=by
 intro rvs hm j u' hj b hub;have hjm:j<m:=by
  have:=(List.getElem?_eq_some_iff.1 hj).1;rw [←hm.len,zal]at this;exact this
 obtain⟨rvs0,b0,c0,_,_,_,hc,hr⟩:=h.row hjm hN;have hc':w'.cell? ((⟨g,0,none⟩:Addr).add (j*1))=some (.slice (some ⟨b0,0,none⟩) N c0):=by
  rw [hb.cell (by rw [zac];exact h.eg.lt)];exact hc
 have:=zj6 hm hjm hc';rw [hj]at this
 cases this
 obtain⟨g',c',e,_,hlt,_⟩:=hr.own (by rw [zak];exact hN);injection e with e;injection e with e;injection e with e
 cases hub
 rw [e];exact hlt
theorem PvS.le(h:PvS base b2 g cv m N Inv A k w)(hm:0<m):base≤w.heap.size:=by
 obtain⟨rvs,hm'⟩:=h.mat;have hl:rvs.length=m:=by rw [←hm'.len,zal]
 obtain⟨g',cv',e,hg,hlt,_⟩:=hm'.top.own (by omega);omega
theorem PvS.put(h:PvS base b2 g cv m N Inv A k w)(hb:Below w.heap.size w w')(hN:0<N){i:Nat}(hi:i<m){u:Value}{a:Nat→Rat}(hu:OwnR w' w.heap.size 25 3 IR u (rowF a N))(hI:∀k w w',Inv k w→ButB g w w'→Elem w g 64→Inv k w') :
  PvS base b2 g cv m N Inv (fun j=>if j=i then a else A j) k (w'.setCells g (i*1) [u])∧w'.there g (i*1) 1:=by
 refine(h.below hb hI).set hN hi (hu.base (h.le (by omega))) (fun rvs hm j u' hj hji e => ?_) hI;obtain⟨b5,c5,e5,h5,_⟩:=hu.own (by rw [zak];exact hN);have:=h.old hb hN rvs hm j u' hj b5 (by rw [←e,e5];rfl);omega
theorem PvS.turn(h:PvS base b2 g cv m N Inv A k w)(hb:Below w.heap.size w w')(hN:0<N){i r:Nat}(hi:i<m)(hr:r<m)(hir:i≠r){ur u:Value}{a:Nat→Rat}(hur:w.cell? ((⟨g,0,none⟩:Addr).add (r*1))=some ur)(hu:OwnR w' w.heap.size 25 3 IR u (rowF a N))(hI:∀k w w',Inv k w→ButB g w w'→Elem w g 64→Inv k w') :
  PvS base b2 g cv m N Inv (fun j=>if j=r then a else if j=i then A r else A j) k ((w'.setCells g (i*1) [ur]).setCells g (r*1) [u])∧w'.there g (i*1) 1∧(w'.setCells g (i*1) [ur]).there g (r*1) 1:=by
 refine(h.below hb hI).both hN hi hr hir (fun rvs hm=>zj6 hm hr ((hb.cell (by rw [zac];exact h.eg.lt)).trans hur)) (hu.base (h.le (by omega))) (fun rvs hm j u' hj hji e => ?_) hI;obtain⟨b5,c5,e5,h5,_⟩:=hu.own (by rw [zak];exact hN);have:=h.old hb hN rvs hm j u' hj b5 (by rw [←e,e5];rfl);omega
end
def FrX(X:Nat→TypeId→Prop)(w w':World):Prop:=w.heap.size≤w'.heap.size∧∀(b:Nat) (cs:Array Value) (e:TypeId) (fz:Nat × Nat),w.heap[b]? = some (.cells cs e fz)→¬X b e→w'.heap[b]? = some (.cells cs e fz)
theorem zaY.frx{X:Nat→TypeId→Prop}{w w':World}(h:zaY w)(hF:FrX X w w')(hX:∀e,¬X 3 e):zaY w':=by
 unfold zaY Lib.TabIs World.var? at h ⊢;rw [zqb]at h ⊢;simp only [Option.bind_some]at h ⊢
 cases hc:w.heap[3]? with
 | none=>rw [hc]at h;cases h
 | some o=>
  cases o with
  | cells cs e fz=>rw [hF.2 3 cs e fz hc (hX e)];rw [hc]at h;exact h
  | _=>rw [hc]at h;cases h
theorem PvS.frx{base b2 g cv m N:Nat}{Inv:Inv'}{A:Nat→Nat→Rat}{k k':Nat}{w w':World}{X:Nat→TypeId→Prop}(h:PvS base b2 g cv m N Inv A k w)(hm:0<m)(hF:FrX X w w')(hX:∀b e,base≤b→(e=25∨e=64∨e=116)→¬X b e)(hX1:∀b,¬X b 111)(hXp:∀e,¬X 3 e)(hb2:base≤b2)(hI:Inv k' w'):PvS base b2 g cv m N Inv A k' w':=by
 obtain⟨rvs,hmat⟩:=h.mat;have hl:rvs.length=m:=by rw [←hmat.len,zal]
 have hK:Go.Eng.Kept [111] w w':=fun b cs e fz q hc=>hF.2 b cs e fz q (by
  have:e=111:=by simpa using hc
  rw [this];exact hX1 b)
 obtain⟨cs2,fz2,he2⟩:=h.eb;have he2':=hF.2 b2 cs2 116 fz2 he2 (hX b2 116 hb2 (.inr (.inr rfl)));obtain⟨g',cv',e,hg,_,cur,hc⟩:=hmat.top.own (by omega);injection e with e;injection e with e;injection e with e;subst e;refine⟨⟨rvs,hmat.keep (fun b cs e hb he hc => ?_) (fun _ _ q=>zau.kept' q hK rfl)⟩,?_,⟨cs2,fz2,he2'⟩,⟨_,_,hF.2 g cur 64 (0,0) hc (hX g 64 hg (.inr (.inl rfl)))⟩,h.tab.frx hF hXp,h.two,hI⟩
 ·rw [hF.2 b cs e (0,0) hc (hX b e hb (by rcases he with rfl|rfl <;> simp)),hc]
 ·exact(World.cell?_of_block (a:=⟨b2,0,none⟩) (by show w'.heap[b2]? = w.heap[b2]?;rw [he2',he2])).trans h.box
theorem zkp:zff Tryz.prog 116 1:=zcR (e:=64) (inf:=Tryz.t64) (by kernel_rfl) (by kernel_rfl) (by kernel_rfl)
theorem zmJ:zcc Tryz.prog 116:=zbm (by kernel_rfl)
theorem lo64:zcc Tryz.prog 64:=zbm (by kernel_rfl)
theorem zd2{t:TypeId}{w:World}{g o:Nat}{v:Value}(hi:(Tryz.prog.info? t).map (·.size)=some 1)(hv:v.cells=#[v])(h1:v.oneCell'=true)(ht:w.there g o 1):(Instr.storeAt t (.pointer (some ((⟨g,0,none⟩:Addr).add o))) v).run Tryz.prog w = .ok () (w.setCells g o [v]):=by
 rw [Addr.add_lit,Nat.zero_add];have:=run_storeCells_cells (P:=Tryz.prog) g o [v] 0 w (fun j hj=>by simpa using (ht j (by simpa using hj)).1) (fun j hj=>by simpa using (ht j (by simpa using hj)).2) (fun u hu=>by rw [List.mem_singleton.1 hu];exact h1)
 cases hq:Tryz.prog.info? t with
 | none=>simp [hq]at hi
 | some i=>
  have hs:i.size=1:=by simpa [hq]using hi
  simp only [Nat.add_zero]at this;simp [Instr.storeAt,Instr.sureAddr,storeVar,sizeOf,typeInfo,hq,hv,hs,this]
theorem zmo{w:World}{g o:Nat}{v:Value}(hv:v.cells=#[v])(h1:v.oneCell'=true)(ht:w.there g o 1):(Instr.storeAt 64 (.pointer (some ((⟨g,0,none⟩:Addr).add o))) v).run Tryz.prog w = .ok () (w.setCells g o [v]):=zd2 (by kernel_rfl) hv h1 ht
theorem BoxL.but{w w':World}{g b:Nat}{xs:List Value}(h:BoxL w b xs)(hb:ButB g w w')(hne:b≠g):BoxL w' b xs:=⟨Nat.lt_of_lt_of_le h.1 hb.size,fun j v hj=>(hb.cell (p:=⟨b,j,none⟩) h.1 hne).trans (h.2 j v hj)⟩
theorem zrq(a:Nat→Rat)(n:Nat):((rowF a n).map fun q => -q)=rowF (fun c => -(a c)) n:=by simp [rowF,Function.comp_def]
theorem anyN{n:Nat}{P:Program}{f:FuncId}{args:Array Value}{w:World}{R:Ending→World→Prop}(h:CallsIn Fence.wide 0 P f args w R):CallsIn Fence.wide n P f args w R:=callsIn_wide.2 (callsIn_wide.1 h)
def Good(m N:Nat)(A:Nat→Nat→Rat):Prop:=∀i j,i<m→j<N→zan (A i j) 700
theorem zoR(l b1 b2 base g cv m N columns:Nat)(Inv:Inv')(X:Nat→TypeId→Prop)(A0:Nat→Nat→Rat)(W:World)(h0:0<m)(hm9:m≤1000)(hN:0<N)(hN9:N≤1000)(hcN:columns≤N)
  (hI:∀k w w',Inv k w→ButB g w w'→Elem w g 64→Inv k w') (hX:∀b e,base≤b→(e=25∨e=64∨e=116)→¬X b e) (hX1:∀b,¬X b 111) (hXp:∀e,¬X 3 e) (hb2:base≤b2)
  (hG:∀c,c≤columns→Good m N (pRun m A0 c).P)
  (hY:∀cc w1 v q,cc<columns→pRow m cc (pRun m A0 cc)<m→q=(pRun m A0 cc).P (pRow m cc (pRun m A0 cc)) cc→q≠0→zan q 700→zau w1 v q→zaY w1→Inv (pRun m A0 cc).k w1 →
   YieldAt Fence.wide 0 Tryz.prog l #[.int .i64 (cc:Int),v] w1 fun e w2=>e = .returned (.bool true)∧Inv ((pRun m A0 cc).k+1) w2∧FrX X w1 w2)
  (hS:PvS base b2 g cv m N Inv A0 0 W) (hb1:W.cell? ⟨b1,0,none⟩=some (.int .i64 (columns:Int))) :
  CallsIn Fence.wide 0 Tryz.prog 134 #[.func (.yield l) #[] #[],.pointer (some ⟨b1,0,none⟩),.pointer (some ⟨b2,0,none⟩)] W fun e W'=>(∃v,e = .returned v)∧PvS base b2 g cv m N Inv (pRun m A0 columns).P (pRun m A0 columns).k W':=by
 have HI:=zHi hI;have HX:=zHi hX;have HX1:=zHi hX1;have HG:=zHi hG;have HY:=zHi hY;have HS0:=zHi hS;clear hI hX hX1 hG hY hS;refine callsIn_of_wp Tryz.func134 rfl trivial ?_ rfl;simp only [Tryz.ntmps134,ztH,ztI,ztJ,Nat.reduceAdd,Nat.reduceSub,ztK,ztL,ztM,ztN,ztO,ztP];refine Go.Eng.zow (wpIn_mono (Q:=fun e a' w'=>e = .normal∧a'.defers = []∧PvS base b2 g cv m N Inv (pRun m A0 columns).P (pRun m A0 columns).k w') ?_ ?_);rotate_left
 ·rintro e a' w' ⟨rfl,hd,hS⟩;unfold Go.Eng.ztf;exact Go.bodyPost_end (v:=.tuple #[]) (Go.results_none rfl _ _ _) hd ⟨⟨_,rfl⟩,hS⟩
 gi_wp2;refine Go.wpIn_label ?_;gi_wp2;clear hb1;gi_loopw [4,11] (fun x4 x11 wr=>∃cc:Nat,x11 = .int .i64 (cc:Int)∧cc≤columns∧x4 = .int .i64 (((pRun m A0 cc).k:Nat):Int)∧Hid (PvS base b2 g cv m N Inv (pRun m A0 cc).P (pRun m A0 cc).k wr)) (fun _ x _=>columns-(intOf x).toNat)
 case atStart=>exact⟨0,rfl,by omega,rfl,HS0.out⟩
 case round=>
  obtain⟨cc,rfl,hcc,rfl,HS⟩:=hrel;clear HS0;have hkk:=zf3 m A0 cc;have HGs:=zHi (HG.out cc hcc);obtain⟨s,hs⟩:∃s,pRun m A0 cc=s:=⟨_,rfl⟩;have HSE:=zHi hs;rw [hs]at HS hkk HGs;rw [hs];obtain⟨P,k⟩:=s;dsimp only at HS hkk HGs ⊢;clear hs;have hk:=hkk.1;by_cases hcl:cc<columns
  ·gi_wp2;gi_loopw [6] (fun x6 wi=>∃r:Nat,x6 = .int .i64 (r:Int)∧k≤r∧r≤m∧Hid (∀i,k≤i→i<r→P i cc=0)∧Hid (PvS base b2 g cv m N Inv P k wi)) (fun x _=>m-(intOf x).toNat)
   case atStart=>exact⟨k,rfl,Nat.le_refl _,hk,zHi (fun i h1 h2=>by omega),HS⟩
   case round=>
    obtain⟨r,rfl,hkr,hrm,HZ,HSi⟩:=hrel;have hbox:=HSi.out.box;by_cases hrl:r<m
    ·obtain⟨ra,rc,sg,o1,k1,c1,o2,k2,c2,p0,p1,p2,p3,hra⟩:=HSi.out.item hrl (show cc<N by omega) hN9;have HRA:=zHi hra;clear hra;by_cases hz:P r cc=0
     ·have hq0:(sgnR (P r cc) == 0)=true:=by rw [zk6 (by rw [hz];rfl)];rfl
      gi_wp2_with (first|(exfalso;exact zae (by assumption))|(gi_at_call 17;refine stop ?_))
      refine(zdI _ _ _ HRA.out).mono ?_;rintro e w1 ⟨rfl,hB1⟩;have HS1:=zHi (HSi.out.below hB1 HI.out);clear hB1 p0 p1 p2 p3 hbox;gi_wp2_with (exfalso;exact zae (by assumption))
      exact⟨⟨r+1,by go_num,by omega,by omega,zHi (fun i h1 h2=>by
       by_cases e:i=r
       ·rw [e];exact hz
       ·exact HZ.out i h1 (by omega)),HS1⟩,by simp only [intOf];omega⟩
     ·have hq0:(sgnR (P r cc) == 0)=false:=by
       rw [beq_eq_false_iff_ne];exact zpM (fun e=>hz (Rat.num_eq_zero.1 e))
      have hnm:((r:Int) == (m:Int))=false:=by rw [beq_eq_false_iff_ne];omega
      gi_wp2_with (first|(exfalso;exact zae (by assumption))|(gi_at_call 17;refine stop ?_))
      refine(zdI _ _ _ HRA.out).mono ?_;rintro e w1 ⟨rfl,hB1⟩;have HS1:=zHi (HSi.out.below hB1 HI.out);clear hB1 p0 p1 p2 p3 hbox HRA;have hbox:=HS1.out.box;have hb2l:=HS1.out.eb.lt;obtain⟨ra,rc,sg,o1,k1,c1,o2,k2,c2,p0,p1,p2,p3,hra⟩:=HS1.out.item hrl (show cc<N by omega) hN9;have HRA:=zHi hra;have HPR:Hid (pRow m cc (pRun m A0 cc)=r):=zHi (by
       unfold pRow;rw [HSE.out];refine zn8 hkr (by omega) (fun i h1 h2 => ?_) (.inr ?_)
       ·show decide (P i cc≠0)=false;rw [HZ.out i h1 h2];rfl
       ·exact decide_eq_true hz)
      clear hra;have hkm:k<m:=by omega
      obtain⟨P1,hP1⟩:∃P1,zlq P k r=P1:=⟨_,rfl⟩;have hq1:P1 k cc=P r cc:=by
       rw [←hP1];unfold zlq;split
       ·rename_i e;rw [e]
       ·rw [if_pos rfl]
      have HE1:Hid (r=k→P1=P):=zHi (fun e=>by
       rw [←hP1]
       funext j
       unfold zlq;rw [if_pos e.symm])
      have HE2:Hid (r≠k→(fun j=>if j=r then(fun c => -(P k c))else if j=k then P r else P j)=P1):=zHi (fun e=>by
       rw [←hP1]
       funext j
       unfold zlq;rw [if_neg (Ne.symm e)];by_cases h1:j=r
       ·rw [if_pos h1,if_neg (by omega),if_pos h1]
       ·rw [if_neg h1,if_neg h1])
      have HN1:Hid (pRun m A0 (cc+1)=⟨zb6 P1 k cc,k+1⟩):=zHi (by
       show zf2 m cc (pRun m A0 cc)=_
       unfold zf2;rw [HPR.out,if_neg (by omega),HSE.out,←hP1])
      have HG1:Hid (Good m N P1):=zHi (fun i j h1 h2=>by
       rw [←hP1];unfold zlq;split
       ·exact HGs.out i j h1 h2
       ·split
        ·exact HGs.out r j hrl h2
        ·split
         ·exact zeE (HGs.out k j hkm h2)
         ·exact HGs.out i j h1 h2)
      have HG2:Hid (Good m N (zb6 P1 k cc)):=zHi (by
       have:=HG.out (cc+1) hcl;rw [HN1.out]at this;exact this)
      have hq0':P1 k cc≠0:=by rw [hq1];exact hz
      have HYY:Hid (∀w1 v,zau w1 v (P1 k cc)→zaY w1→Inv k w1→YieldAt Fence.wide 0 Tryz.prog l #[.int .i64 (cc:Int),v] w1 fun e w2=>e = .returned (.bool true)∧Inv (k+1) w2∧FrX X w1 w2):=zHi (fun w v h1 h2 h3=>by
       have:=HY.out cc w v (P1 k cc) hcl (by rw [HPR.out];exact hrl) (by rw [HPR.out,HSE.out];exact hq1) hq0' (HG1.out k cc hkm (by omega)) h1 h2 (by rw [HSE.out];exact h3);rw [HSE.out]at this;exact this)
      rw [←hq1]at HRA;clear hP1 hq1 HPR;by_cases hrk:r=k
      focus
       obtain⟨W4,hW4⟩:∃W,W=w1.alloc (.cells #[.bool sg,.slice o1 k1 c1,.slice o2 k2 c2] 25):=⟨_,rfl⟩;have hB4:Below w1.heap.size w1 W4:=by rw [hW4];exact zaa _ _
       have HBX:Hid (BoxL W4 w1.heap.size [.bool sg,.slice o1 k1 c1,.slice o2 k2 c2]):=zHi (by rw [hW4];exact zaU _ _ _);have HS4:Hid (PvS base b2 g cv m N Inv P1 k W4):=zHi (by rw [HE1.out hrk];exact HS1.out.below hB4 HI.out);have HR4:=zHi (HRA.out.below hB4);have hgl:g<w1.heap.size:=HS1.out.eg.lt;have hrk':=hrk.symm;subst hrk';have hne:((k:Int) != (k:Int))=false:=by simp
       clear hrk;gi_wp2_with (exfalso;exact zae (by assumption))
       rw [←hW4];obtain⟨g7,hg7⟩:∃g7,w1.heap.size=g7:=⟨_,rfl⟩;rw [hg7]at HBX hgl;rw [hg7];clear hg7;clear hW4 hB4 hbox hb2l p0 p1 p2 p3 HE1 HE2 HS1 HRA HZ
      rotate_left
      focus
       have hne:((r:Int) != (k:Int))=true:=by simp;omega
       gi_wp2_with (exfalso;exact zae (by assumption))
       obtain⟨W2,hW2⟩:∃W,W=w1.alloc (.cells #[.bool sg,.slice o1 k1 c1,.slice o2 k2 c2] 25):=⟨_,rfl⟩;have hB2:Below w1.heap.size w1 W2:=by rw [hW2];exact zaa _ _
       have HBX:Hid (BoxL W2 w1.heap.size [.bool sg,.slice o1 k1 c1,.slice o2 k2 c2]):=zHi (by rw [hW2];exact zaU _ _ _);have hB3:=hB2.trans ((zab W2).mono hB2.size);have HS3:=zHi (HS1.out.below hB3 HI.out);have HRA3:=zHi (HRA.out.below hB3);have HBX3:=zHi (HBX.out.below (zab W2));rw [←hW2];obtain⟨_,br,cr,_,_,_,hcr,hrr⟩:=HS3.out.row hrl hN;obtain⟨_,bk,ck,_,_,_,hck,hrk2⟩:=HS3.out.row hkm hN;have hRk:RowR W2.drew (.slice (some ⟨bk,0,none⟩) N ck) (rowF (P k) N):=hrk2.row (by rw [zak];omega);clear hbox hb2l p0 p1 p2 p3 hW2 hB2 hB3;refine zes (fun w'=>w'.cell? ⟨b2,0,none⟩=some (.slice (some ⟨g,0,none⟩) m cv)) [2,3] (fun w w' q hb=>(hb.cell (World.block_lt_of_cell? _ _ q)).trans q) [12,14,16] [0,1,2,3,4,5,6,7,8,9,10,11,12,13,14,15,16] [0,0,0,0,0,0,48,112,0,0,768,1792,3840,8179,16371,32767,65535] zaq rfl 105 rfl (by kernel_rfl) (by kernel_rfl) HS3.out.box ?_;refine OV.ld zmJ HS3.out.box rfl rfl rfl rfl rfl ?_;refine OV.mv (v:=.int .i64 (k:Int)) rfl rfl rfl rfl ?_;refine OV.ldK zmJ HS3.out.box (fun _ q=>q) rfl rfl rfl rfl ?_;refine OV.mv (v:=.int .i64 (r:Int)) rfl rfl rfl rfl ?_;refine OV.ld zmJ HS3.out.box rfl rfl rfl rfl rfl ?_;refine OV.mv (v:=.int .i64 (r:Int)) rfl rfl rfl rfl ?_;refine OV.idx zkp hrl rfl rfl rfl rfl rfl ?_;refine OV.ld lo64 hcr rfl rfl rfl rfl rfl ?_;refine OV.ld zmJ HS3.out.box rfl rfl rfl rfl rfl ?_;refine OV.mv (v:=.int .i64 (k:Int)) rfl rfl rfl rfl ?_;refine OV.idx zkp hkm rfl rfl rfl rfl rfl ?_;refine OV.ld lo64 hck rfl rfl rfl rfl rfl ?_;refine OV.call [.slice (some ⟨bk,0,none⟩) N ck] Tryz.func135 rfl zah rfl rfl rfl rfl rfl (zkc _ _ _ hRk (by rw [zak];omega)) fun v5 w3 h5 hB => ?_
       rw [zrq]at h5;obtain⟨b5,c5,rfl,_⟩:=h5.own (by rw [zak];exact hN);rw [zak]at h5 ⊢;obtain⟨h6,h7,h8⟩:=HS3.out.turn hB hN hkm hrl (Ne.symm hrk) hcr h5 HI.out;refine OV.idx zkp hkm rfl rfl rfl rfl rfl ?_;refine OV.st (((zai g _ _ _).cell (p:=⟨b2,0,none⟩) (HS3.out.below hB HI.out).eb.lt ((HS3.out.below hB HI.out).eb.ne (HS3.out.below hB HI.out).eg (by decide))).trans (HS3.out.below hB HI.out).box) (zmo rfl rfl h7) rfl rfl rfl rfl rfl ?_;refine OV.idx zkp hrl rfl rfl rfl rfl rfl ?_;refine OV.st h6.box (zmo rfl rfl h8) rfl rfl rfl rfl rfl ?_;refine OV.done ?_;obtain⟨W4,hW4⟩:∃W,W=((w3.setCells g (k*1) [.slice (some ⟨br,0,none⟩) N cr]).setCells g (r*1) [.slice (some ⟨b5,0,none⟩) N c5]):=⟨_,rfl⟩;have hgl:g<w1.heap.size:=HS1.out.eg.lt;have hbut:ButB g w3 W4:=by rw [hW4];exact(zai g _ _ _).trans (zai g _ _ _)
       have HBX:Hid (BoxL W4 w1.heap.size [.bool sg,.slice o1 k1 c1,.slice o2 k2 c2]):=zHi ((HBX3.out.below hB).but hbut (by omega));have HS4:Hid (PvS base b2 g cv m N Inv P1 k W4):=zHi (by rw [HE2.out hrk]at h6;rw [hW4];exact h6);have HR4:=zHi ((HRA3.out.below hB).kept (hbut.kept (HS3.out.below hB HI.out).eg rfl));rw [←hW4];simp only [zbo,Go.Act.put,ztQ,ztR,ztS,Addr.add_lit,Nat.mul_one,Nat.zero_add];have hbox:=HS4.out.box;clear hW4 HS3 HRA3 HBX3 HRA HE1 HE2 hcr hck hrr hrk2 hRk h5 h6 h7 h8 hB hbut HS1 HZ;gi_wp2_with (exfalso;exact zae (by assumption))
       obtain⟨g7,hg7⟩:∃g7,w1.heap.size=g7:=⟨_,rfl⟩;rw [hg7]at HBX hgl;rw [hg7];clear hg7;clear hbox hrk
      all_goals
       gi_loopw [63] (fun x63 wi=>∃i:Nat,x63 = .int .i64 (i:Int)∧i≤m∧Hid (PvS base b2 g cv m N Inv (zf1 P1 k cc i) k wi)∧Hid (BoxL wi g7 [.bool sg,.slice o1 k1 c1,.slice o2 k2 c2])∧Hid (zau wi (.agg #[.bool sg,.slice o1 k1 c1,.slice o2 k2 c2]) (P1 k cc))) (fun x _=>m-(intOf x).toNat)
       case atStart=>exact⟨0,rfl,by omega,zHi (by rw [zoT];exact HS4.out),HBX,HR4⟩
       case round=>
        obtain⟨i,rfl,him,HS5,HBi,HRi⟩:=hrel;clear HS4 HBX HR4;have hbox:=HS5.out.box;have hb25:=HS5.out.eb.lt;by_cases hil:i<m
        ·obtain⟨ra5,rc5,sg5,o3,k3,c3,o4,k4,c4,p0,p1,p2,p3,hra5⟩:=HS5.out.item hil (show cc<N by omega) hN9;rw [zj5]at hra5;have HR5:=zHi hra5;clear hra5;by_cases hik:i=k
         ·subst hik;have hne5:((i:Int) != (i:Int))=false:=by simp
          gi_wp2_with (exfalso;exact zae (by assumption))
          trace_state
          exact⟨⟨i+1,by go_num,by omega,zHi (by rw [zi6 (.inl rfl)];exact HS5.out.below (zaa _ _) HI.out),zHi (HBi.out.below (zaa _ _)),zHi (HRi.out.below (zaa _ _))⟩,by simp only [intOf];omega⟩
         ·have hne5:((i:Int) != (k:Int))=true:=by simp;omega
          by_cases hz5:P1 i cc=0
          ·have hq5:(sgnR (P1 i cc) != 0)=false:=by rw [zk6 (by rw [hz5];rfl)];rfl
           gi_wp2_with (first|(exfalso;exact zae (by assumption))|(gi_at_call 17;refine stop ?_))
           refine(zdI _ _ _ (HR5.out.below (zaa _ _))).mono ?_;rintro e w8 ⟨rfl,hB8⟩;have hB9:=(zaa _ _).trans (hB8.mono (zaa wr _).size);have HS8:=zHi (HS5.out.below hB9 HI.out);have HB8:=zHi (HBi.out.below hB9);have HR8:=zHi (HRi.out.below hB9);clear hB8 hB9 p0 p1 p2 p3 hbox hb25;gi_wp2_with (exfalso;exact zae (by assumption))
           exact⟨⟨i+1,by go_num,by omega,zHi (by rw [zi6 (.inr hz5)];exact HS8.out),HB8,HR8⟩,by simp only [intOf];omega⟩
          ·have hq5:(sgnR (P1 i cc) != 0)=true:=by
            rw [bne_iff_ne];exact zpM (fun e=>hz5 (Rat.num_eq_zero.1 e))
           gi_wp2_with (first|(exfalso;exact zae (by assumption))|(gi_at_call 17;refine stop ?_))
           refine(zdI _ _ _ (HR5.out.below (zaa _ _))).mono ?_;rintro e w8 ⟨rfl,hB8⟩;have hB9:=((zaa _ _).trans (hB8.mono (zaa wr _).size)).trans ((zab w8).mono (Nat.le_trans (zaa wr _).size hB8.size));have HS8:=zHi (HS5.out.below hB9 HI.out);have HB7:=zHi (HBi.out.below hB9);have HR7:=zHi (HRi.out.below hB9);have HB9:=zHi (((zaU wr [.bool sg5,.slice o3 k3 c3,.slice o4 k4 c4] 25).below hB8).below (zab w8));have HR9:=zHi (HR5.out.below hB9);have hg7:g≠g7:=by omega
           clear hB8 hB9 p0 p1 p2 p3 hbox hb25;gi_wp2_with (exfalso;exact zae (by assumption))
           obtain⟨_,bi,ci,_,_,_,hci,hri⟩:=HS8.out.row hil hN;obtain⟨_,bk,ck,_,_,_,hck,hrk⟩:=HS8.out.row hkm hN;rw [zj5]at hri;rw [zoU]at hrk;have hRi:RowR w8.drew (.slice (some ⟨bi,0,none⟩) N ci) (rowF (P1 i) N):=hri.row (by rw [zak];omega);have hRk:RowR w8.drew (.slice (some ⟨bk,0,none⟩) N ck) (rowF (P1 k) N):=hrk.row (by rw [zak];omega);have hst:zb6 P1 k cc i=fun j=>P1 i j + -(P1 i cc/P1 k cc*P1 k j):=by unfold zb6;rw [if_neg (fun q=>q.elim hik hz5)]
           have HLK:Hid (∀j,j<N→zan (P1 i j + -(P1 i cc/P1 k cc*P1 k j)) 100000∧zb5 (P1 i j + -(P1 i cc/P1 k cc*P1 k j))=true):=zHi (fun j hj=>by
            have:=HG2.out i j hil hj;rw [hst]at this;exact⟨this.mono (by omega),zgv this (by omega) (by omega)⟩)
           refine zap (ro:=none) [12,13,15] [0,1,2,3,4,5,6,7,8,9,10,11,12,13,14,15] [0,0,0,0,12,28,0,0,192,448,0,0,3072,8188,16383,32767] zaq rfl 105 rfl (by kernel_rfl) (by kernel_rfl) ?_;refine OV.ld zmJ HS8.out.box rfl rfl rfl rfl rfl ?_;refine OV.mv (v:=.int .i64 (i:Int)) rfl rfl rfl rfl ?_;refine OV.ld zmJ HS8.out.box rfl rfl rfl rfl rfl ?_;refine OV.mv (v:=.int .i64 (i:Int)) rfl rfl rfl rfl ?_;refine OV.idx zkp hil rfl rfl rfl rfl rfl ?_;refine OV.ld lo64 hci rfl rfl rfl rfl rfl ?_;refine OV.ld zmJ HS8.out.box rfl rfl rfl rfl rfl ?_;refine OV.mv (v:=.int .i64 (k:Int)) rfl rfl rfl rfl ?_;refine OV.idx zkp hkm rfl rfl rfl rfl rfl ?_;refine OV.ld lo64 hck rfl rfl rfl rfl rfl ?_;refine OV.ldn [.bool sg5,.slice o3 k3 c3,.slice o4 k4 c4] lm25 HB9.out.at' rfl rfl rfl rfl rfl (by decide) rfl ?_;refine OV.ldn [.bool sg,.slice o1 k1 c1,.slice o2 k2 c2] lm25 HB7.out.at' rfl rfl rfl rfl rfl (by decide) rfl ?_;refine OV.call [.agg #[.bool sg5,.slice o3 k3 c3,.slice o4 k4 c4],.agg #[.bool sg,.slice o1 k1 c1,.slice o2 k2 c2]] Tryz.func76 rfl zah rfl rfl rfl rfl rfl (zi9 _ _ _ (P1 i cc) (P1 k cc) 700 HR9.out HR7.out (HG1.out i cc hil (by omega)) (HG1.out k cc hkm (by omega)) (fun e=>hq0' (Rat.num_eq_zero.1 e)) (by omega)) fun vf w9 hf hB => ?_
           have HS9:=zHi (HS8.out.below hB HI.out);replace HB7:=zHi (HB7.out.below hB);replace HR7:=zHi (HR7.out.below hB);have hRi9:=zad.below hRi hB (IR.below hB);have hRk9:=zad.below hRk hB (IR.below hB);clear hB;refine OV.call [.slice (some ⟨bi,0,none⟩) N ci,.slice (some ⟨bk,0,none⟩) N ck,vf] Tryz.func136 rfl zah rfl rfl rfl rfl rfl (ziD _ _ _ _ (P1 i cc/P1 k cc) (P1 i) (P1 k) N 2100 hN hN9 hRi9 hRk9 hf (by omega) (fun j hj=>(HG1.out i j hil hj).mono (by omega)) (fun j hj=>(HG1.out k j hkm hj).mono (by omega)) ((zfY (HG1.out i cc hil (by omega)) (HG1.out k cc hkm (by omega))).mono (by omega)) (fun j hj=>(zfX (zfY (HG1.out i cc hil (by omega)) (HG1.out k cc hkm (by omega))) (HG1.out k j hkm hj)).mono (by omega)) HLK.out HS9.out.tab) fun v5 w10 h5 hB => ?_
           obtain⟨b5,c5,rfl,_⟩:=h5.own (by rw [zh6];exact hN);rw [zh6]at h5 ⊢;obtain⟨h6,h7⟩:=HS9.out.put hB hN hil h5 HI.out;refine OV.idx zkp hil rfl rfl rfl rfl rfl ?_;refine OV.st (w':=w10.setCells g (i*1) [.slice (some ⟨b5,0,none⟩) N c5]) trivial (zmo rfl rfl h7) rfl rfl rfl rfl rfl ?_;refine OV.done ?_;obtain⟨W6,hW6⟩:∃W,W=w10.setCells g (i*1) [.slice (some ⟨b5,0,none⟩) N c5]:=⟨_,rfl⟩;have hbut:ButB g w10 W6:=by rw [hW6];exact zai g _ _ _
           have HS6:Hid (PvS base b2 g cv m N Inv (zf1 P1 k cc (i+1)) k W6):=zHi (by
            rw [zi5,hst,hW6];exact h6)
           have HB6:=zHi ((HB7.out.below hB).but hbut (Ne.symm hg7));have HR6:=zHi ((HR7.out.below hB).kept (hbut.kept (HS9.out.below hB HI.out).eg rfl));rw [←hW6];simp only [zbo,Go.Act.put,ztQ,ztR,ztS,Addr.add_lit,Nat.mul_one,Nat.zero_add];clear hW6 h5 h6 h7 hB hRi hRk hRi9 hRk9 hri hrk hci hck HS8 HS9 HB7 HB9 HR7 HR9 hf hst;gi_wp2;exact⟨⟨i+1,by go_num,by omega,HS6,HB6,HR6⟩,by simp only [intOf];omega⟩
        ·have him2:i=m:=by omega
         subst him2;obtain⟨fn,tmps,assign,body,hy,hR⟩:=HYY.out wr _ HRi.out HS5.out.tab HS5.out.inv;have d0:=HBi.out.2 0 _ rfl;have d1:=HBi.out.2 1 _ rfl;have d2:=HBi.out.2 2 _ rfl;gi_wp2_with (exfalso;exact zae (by assumption))
         refine hR.mono ?_;rintro e w2 ⟨rfl,hI2,hF⟩;have HS2:Hid (PvS base b2 g cv i N Inv (zb6 P1 k cc) (k+1) w2):=zHi ((HS5.out.congr (fun j hj=>by unfold zf1;rw [if_pos hj])).frx h0 hF HX.out HX1.out hXp hb2 hI2);clear hy hR d0 d1 d2 hI2 hF HYY;gi_wp2_with (exfalso;exact zae (by assumption))
         exact⟨⟨cc+1,by go_num,by omega,by rw [HN1.out];simp,by rw [HN1.out];exact HS2⟩,by simp only [intOf];omega⟩
    ·have hrm2:r=m:=by omega
     subst hrm2;have HPR:Hid (pRun r A0 (cc+1)=⟨P,k⟩):=zHi (by
      show zf2 r cc (pRun r A0 cc)=_
      rw [HSE.out];unfold zf2;rw [if_pos];show fnz (nzP P cc) (r-k) k=r
      refine zn8 hkr (by omega) (fun i h1 h2 => ?_) (.inl (by omega));show decide (P i cc≠0)=false;rw [HZ.out i h1 h2];rfl)
     gi_wp2_with (exfalso;exact zae (by assumption))
     refine⟨⟨cc+1,by go_num,by omega,by rw [HPR.out],by rw [HPR.out];exact HSi⟩,by simp only [intOf];omega⟩
  ·have hcc2:cc=columns:=by omega
   subst hcc2;gi_wp2;rw [HSE.out];exact HS.out
theorem zre{n k:Nat}{P:Program}{c:Code}{Q:Exit→CAct→World→Prop}{a:CAct}{w:World}(h:c.wpIn Fence.wide n P Q a w):c.wpIn Fence.wide k P Q a w:=
 fun b kk cs h1 h2 _=>h b kk cs h1 h2 (fun d hd=>by cases hd)
def II(c:Nat)(r:List Value)(_:World):Prop:=r = [.int .i64 (c:Int)]
theorem u29':Tryz.prog.underlying 29=some (.slice 3):=by kernel_rfl
theorem ec(f:Nat)(fn:Func)(hf:Tryz.prog.funcs[f]? = some fn)(hb:fn.body.isSome=true):∀args w,(callFunc f args).run Tryz.prog w = .ok (.enter f args) w:=by
 intro args w;have hbn:fn.body≠none:=by intro q;rw [q]at hb;simp at hb
 simp only [callFunc,run_program,hf,Sem.run_bind,Sem.run_pure,Result.andThen_ok,zah f fn hf hb,Bool.false_eq_true,if_false];have:fn.body.isNone=false:=by cases hq:fn.body <;> simp_all
 simp [this]
theorem zlj(w:World)(v:Value)(n:Nat)(hv:∃o k c,v = .slice o k c) :
  CallsIn Fence.wide 0 Tryz.prog 99 #[v,.int .i64 (n:Int)] w fun e w'=>e = .returned (.func (.func 134) #[] #[.pointer (some ⟨w.heap.size+1,0,none⟩),.pointer (some ⟨w.heap.size,0,none⟩)])∧w'=(w.alloc (.cells #[v] 116)).alloc (.cells #[.int .i64 (n:Int)] 3):=by
 obtain⟨o,k,c,rfl⟩:=hv;refine callsIn_of_wp Tryz.func99 rfl trivial ?_ rfl;simp only [Tryz.ntmps99,ztH,ztI,ztJ,Nat.reduceAdd,Nat.reduceSub,ztK,ztL,ztM,ztN,ztO,ztP];gi_wp2;all_goals (first|go_returns|go_ret|go_end0)
 exact⟨rfl,rfl⟩
theorem zaJ{β:Type}{F:Fence}{n:Nat}(wr:World){ops:Array Oper}{rest:List Oper}{o:Oper}{a:CAct}{Q:Exit→CAct→World→Prop}{ty sz t bytes:Nat}{inf:TypeInfo}{z:Value}{I:β→List Value→World→Prop}
  (hg:o.guard=none) (s x:Operand) (hop:o.op=Op.call {callee:=Callee.builtin Builtin.append,args:=#[s,x],argTypes:=#[t,t]})
  (e1:Tryz.prog.underlying t=some (.slice ty)) (e2:Tryz.prog.info? ty=some inf) (e3:inf.zero=some z) (e4:inf.size=sz) (e5:inf.bytes=bytes) (e6:z.cells.size=sz) (e7:0<sz) (e8:bytes≤100)
  (base:Nat) (hbase:base≤wr.heap.size) (v:Value) (bs:List β) (hs:a.eval s=v) (HO:OwnR wr base ty sz I v bs) (b:β) (row:List Value) (tt:TypeId) (hx:a.eval x = .slice (some ⟨wr.heap.size,0,none⟩) 1 1) (hrow:row.length=sz) (h1c:∀u∈row,u.oneCell'=true) (hIb:I b row wr) (hI:∀b r w1 w2,Touch ty w1 w2→I b r w1→I b r w2) (hn:bs.length<500000000)
  (hK:∀v' w',Hid (OwnR w' base ty sz I v' (bs ++ [b]))→Hid (wr.heap.size≤w'.heap.size∧∀k,k<wr.heap.size→some k≠v.ownBlock→w'.heap[k]? = wr.heap[k]?)→Hid (∀B0 w0,Below B0 w0 wr→B0≤base→Below B0 w0 w')→wpListIn F n Tryz.prog ops Q rest (a.put o.dst v') w') :
  wpListIn F n Tryz.prog ops Q (o :: rest) a (wr.alloc (.cells row.toArray tt)):=by
 obtain⟨xs,h1,h2,h3,h4⟩:=HO;refine wpListIn_append_own _ hg s x t hop base ty inf z sz bytes e1 e2 e3 e4 e5 e6 e7 v bs.length xs.flatten hs (World.ownsRow.alloc h1 _) ⟨wr.heap.size,0,none⟩ 1 1 row hx (by rw [hrow];omega) (fun j u hu=>by rw [Addr.add_lit,Nat.zero_add,World.cell?_alloc_new];simpa using hu) h1c (by unfold maxLen;omega) (by
  have:(bs.length+1)*bytes≤500000000*100:=Nat.mul_le_mul (by omega) e8;omega) (by simp;omega) ?_
 intro v' w' g1 g2 _;have hT:Touch ty wr w':=by
  refine⟨Nat.le_trans (by simp) g2.size,fun k cs e fz hk hne => ?_⟩;have hlt:k<wr.heap.size:=(Array.getElem?_eq_some_iff.1 hk).1;have hal:(wr.alloc (.cells row.toArray tt)).heap[k]? = wr.heap[k]?:=(zaa wr _).block k hlt;rw [g2.block k (by simp;omega) (fun hk' => ?_),hal]
  ·exact hk
  ·rcases h1.2 with⟨rfl,_⟩|⟨g,cap,cur,rfl,q1,q2,_⟩
   ·cases hk'
   ·have:k=g:=by simpa [Value.ownBlock]using hk'
    subst this;rw [q2]at hk;injection hk with hk;injection hk with _ hk _;exact hne hk.symm
 refine hK v' w' ⟨xs ++ [row],?_,by simp [h2],fun r hr => ?_,fun i r b' hr hb' => ?_⟩ ⟨hT.1,?_⟩ ?_
 ·rw [List.flatten_append,List.length_append];simpa using g1
 ·rcases List.mem_append.1 hr with h|h
  ·exact h3 r h
  ·rw [List.mem_singleton.1 h,hrow]
 ·rcases Nat.lt_or_ge i bs.length with hi|hi
  ·rw [List.getElem?_append_left (by omega)]at hr hb';exact hI _ _ _ _ hT (h4 i r b' hr hb')
  ·rw [List.getElem?_append_right (by omega)]at hr hb';rw [h2]at hr;rcases Nat.eq_zero_or_pos (i-bs.length)with h0|h0
   ·rw [h0]at hr hb';have hr:row=r:=by simpa using hr
    have hb':b=b':=by simpa using hb'
    rw [←hr,←hb'];exact hI _ _ _ _ hT hIb
   ·rw [List.getElem?_eq_none (by simp;omega)]at hr
    cases hr
 ·intro k hk hne;rw [g2.block k (by simp;omega) hne,(zaa wr _).block k hk]
 ·intro B0 w0 hB h0;refine(hB.trans ((zaa wr _).mono (Nat.le_trans h0 hbase))).grown g2 (by simp;omega) fun k hk => ?_
  rcases h1.2 with⟨rfl,_⟩|⟨g,cap,cur,rfl,q1,q2,_⟩
  ·cases hk
  ·have:g=k:=by simpa [Value.ownBlock]using hk
   omega
theorem PvS.congr2{base b2 g cv m N:Nat}{Inv:Inv'}{A A':Nat→Nat→Rat}{k:Nat}{w:World}(h:PvS base b2 g cv m N Inv A k w)(e:∀i j,i<m→j<N→A i j=A' i j):PvS base b2 g cv m N Inv A' k w:=by
 obtain⟨rvs,hm⟩:=h.mat;have:Go.Num.tab m N A=Go.Num.tab m N A':=by
  unfold Go.Num.tab;refine List.map_congr_left fun i hi=>List.map_congr_left fun j hj=>e i j (List.mem_range.1 hi) (List.mem_range.1 hj)
 exact⟨⟨rvs,by rw [←this];exact hm⟩,h.box,h.eb,h.eg,h.tab,h.two,h.inv⟩
theorem zjV{a:Nat→Rat}{N j:Nat}(x:Rat):(rowF a N).set j x=rowF (fun c=>if c=j then x else a c) N:=by
 refine List.ext_getElem? fun k => ?_
 by_cases hk:k<N
 ·rw [zdf hk];by_cases e:k=j
  ·subst e;rw [List.getElem?_set_self (by rw [zak];exact hk),if_pos rfl]
  ·rw [List.getElem?_set_ne (Ne.symm e),zdf hk,if_neg e]
 ·rw [List.getElem?_eq_none (by rw [List.length_set,zak];omega),List.getElem?_eq_none (by rw [zak];omega)]
theorem PvS.store{base b2 g cv m N:Nat}{Inv:Inv'}{A:Nat→Nat→Rat}{k:Nat}{w:World}(h:PvS base b2 g cv m N Inv A k w){i j b c:Nat}(hi:i<m)(hj:j<N)(hc:w.cell? ((⟨g,0,none⟩:Addr).add (i*1))=some (.slice (some ⟨b,0,none⟩) N c)){row:List Value}{x:Rat}(hrow:row.length=3)(hx:IR x row w)
  (hI:∀b k w w',base≤b→Inv k w→ButB b w w'→Elem w b 25→Inv k w') :
  PvS base b2 g cv m N Inv (fun i'=>if i'=i then(fun j'=>if j'=j then x else A i j')else A i') k (w.setCells b (j*3) row)∧w.there b (j*3) 3:=by
 obtain⟨rvs,hm⟩:=h.mat;have hu:=zj6 hm hi hc;have hr:=hm.row i _ _ hu (zbG hi);obtain⟨b',c',e,hbb,_,cur,hcur⟩:=hr.own (by simp;omega);injection e with e;injection e with e;injection e with e;subst e;have hE:Elem w b 25:=⟨cur,_,hcur⟩;have hbut:=zai b row (j*3) w;have hK:=hbut.kept hE rfl;obtain⟨h1,h2⟩:=hm.setItem (by decide) (by decide) (l:=rowF (A i) N) (by rw [zak];exact hu) (zbG hi) (by rw [zak];exact hj) hrow (fun _ _ q=>zau.kept q hK) (zau.kept hx hK);rw [zjV]at h1;have e1:=zhh (m:=m) (N:=N) (A:=A) (i:=i) (fun j'=>if j'=j then x else A i j');rw [show(Go.Num.tab m N A).set i (rowF (fun j'=>if j'=j then x else A i j') N)=_ from e1]at h1;have hbg:b≠g:=hE.ne h.eg (by decide);refine⟨⟨⟨_,h1⟩,(hbut.cell (p:=⟨b2,0,none⟩) h.eb.lt (h.eb.ne hE (by decide))).trans h.box,hbut.elem h.eb (h.eb.ne hE (by decide)),hbut.elem h.eg (Ne.symm hbg),h.tab.but hbut ?_,h.two,hI b _ _ _ hbb h.inv hbut hE⟩,h2⟩;have:=h.two;omega
structure znk(g l:Nat)(w w':World):Prop where
 size:w.heap.size≤w'.heap.size
 blk:∀b,b<w.heap.size→b≠g→b≠l→w'.heap[b]? = w.heap[b]?
 rcd:(∃L,w.heap[l]? = some (.loop L))→∃L,w'.heap[l]? = some (.loop L)
 os:w'.os=w.os
 tape:w'.tape=w.tape
 output:w'.output=w.output
 kept:Go.Eng.Kept rs3 w w'
theorem ButB.keepC{g l:Nat}{w w':World}(h:ButB g w w')(hl:l≠g)(hk:Go.Eng.Kept rs3 w w'):znk g l w w':=⟨h.size,fun b hb hg _=>h.blk b hb hg,fun⟨L,q⟩=>⟨L,(h.blk l (Array.getElem?_eq_some_iff.1 q).1 hl).trans q⟩,h.os,h.tape,h.output,hk⟩
theorem znk.below{g l base:Nat}{w0 w w':World}(h:znk g l w w')(hb:Below base w0 w)(hg:base≤g)(hl:base≤l)(hs:base≤w.heap.size):Below base w0 w':=⟨h.os.trans hb.os,h.tape.trans hb.tape,h.output.trans hb.output,Nat.le_trans hb.size h.size,fun k hk=>(h.blk k (by omega) (by omega) (by omega)).trans (hb.block k hk)⟩
def NoC(w w':World):Prop:=∀(b:Nat) (o:Obj),w.heap[b]? = some o→o.isCells=false→w'.heap[b]? = some o
theorem NoC.of_below{w w':World}(h:Below w.heap.size w w'):NoC w w':=fun b o hb _=>(h.block b (Array.getElem?_eq_some_iff.1 hb).1).trans hb
theorem ButB.noC{g:Nat}{w w':World}(h:ButB g w w'){cs:Array Value}{e:TypeId}{fz:Nat × Nat}(hg:w.heap[g]? = some (.cells cs e fz)):NoC w w':=fun b o hb ho=>(h.blk b (Array.getElem?_eq_some_iff.1 hb).1 (fun e=>by
 subst e;rw [hg]at hb
 cases hb
 cases ho)).trans hb
structure PutC(w w':World):Prop where
 size:w'.heap.size=w.heap.size
 blk:∀(b:Nat) (cs:Array Value) (e:TypeId) (fz:Nat × Nat),w.heap[b]? = some (.cells cs e fz)→w'.heap[b]? = some (.cells cs e fz)
 os:w'.os=w.os
 tape:w'.tape=w.tape
 output:w'.output=w.output
theorem zj2{w:World}{l:Nat}{o o':Obj}(h:w.heap[l]? = some o)(ho:o.isCells=false):PutC w (w.putObj l o'):=by
 have hg:=grownBy_putObj' w l o';refine⟨by simp [World.putObj],fun b cs e fz hb => ?_,hg.os,hg.tape,hg.output⟩;rw [World.putObj_heap_other (fun e=>by
  subst e;rw [h]at hb
  cases hb
  cases ho)]
 exact hb
theorem zhK(g l:Nat)(w:World)(L:Loop){o:Obj}(ho:w.heap[l]? = some o)(hc:o.isCells=false):znk g l w (w.putObj l (.loop L)):=by
 have hg:=grownBy_putObj' w l (.loop L);exact⟨by simp [World.putObj],fun b _ _ hl=>World.putObj_heap_other hl,fun⟨_,q⟩=>⟨L,World.putObj_heap_same (Array.getElem?_eq_some_iff.1 q).1⟩,hg.os,hg.tape,hg.output,fun b cs e fz hb _=>(zj2 ho hc).blk b cs e fz hb⟩
theorem PutC.frx{w w':World}(h:PutC w w'):FrX (fun _ _=>False) w w':=⟨Nat.le_of_eq h.size.symm,fun b cs e fz hb _=>h.blk b cs e fz hb⟩
theorem FrX.trans{X:Nat→TypeId→Prop}{w w' w'':World}(h:FrX X w w')(k:FrX X w' w''):FrX X w w'':=⟨Nat.le_trans h.1 k.1,fun b cs e fz hb hx=>k.2 b cs e fz (h.2 b cs e fz hb hx) hx⟩
theorem FrX.mono{X Y:Nat→TypeId→Prop}{w w':World}(h:FrX X w w')(k:∀b e,X b e→Y b e):FrX Y w w':=⟨h.1,fun b cs e fz hb hy=>h.2 b cs e fz hb (fun q=>hy (k b e q))⟩
theorem FrX.of_below{X:Nat→TypeId→Prop}{w w':World}(h:Below w.heap.size w w'):FrX X w w':=⟨h.size,fun b cs e fz hb _=>(h.block b (Array.getElem?_eq_some_iff.1 hb).1).trans hb⟩
theorem zsl{P:Program}{F:Fence}{n:Nat}{x:Code}{K:CAct→World→Prop}{Q:Exit→CAct→World→Prop}{a:CAct}{w:World}{A:CAct}{W:World}(hx:x.wpIn F n P (fun e a' w'=>e = .normal∧a'=A∧w'=W) a w)(h:K A W):x.wpIn F n P (Exit.then K Q) a w:=
 wpIn_mono hx (by rintro e a' w' ⟨rfl,rfl,rfl⟩;exact h)
theorem zlg{gop:Operand}{ps:Array Tmp}{assign body:Code}{Q:Exit→CAct→World→Prop}{a:CAct}{w w0:World}(hw0:w0=w)(b1 b2 base g cv m N columns:Nat)(Inv:Inv')(X:Nat→TypeId→Prop)(A0:Nat→Nat→Rat)
  (hps:ps.size=2) (hg:a.eval gop = .func (.func 134) #[] #[.pointer (some ⟨b1,0,none⟩),.pointer (some ⟨b2,0,none⟩)]) (h0:0<m) (hm9:m≤1000) (hN:0<N) (hN9:N≤1000) (hcN:columns≤N)
  (hI:∀k w w',Inv k w→znk g (w0.heap.size+1) w w'→Inv k w') (hX:∀b e,base≤b→(e=25∨e=64∨e=116)→¬X b e) (hX1:∀b,¬X b 111) (hXp:∀e,¬X 3 e) (hb2:base≤b2)
  (hG:∀c,c≤columns→Good m N (pRun m A0 c).P)
  (hround:∀cc W v q,cc<columns→pRow m cc (pRun m A0 cc)<m→q=(pRun m A0 cc).P (pRow m cc (pRun m A0 cc)) cc→q≠0→zan q 700→zau W v q→zaY W→w.heap.size+2≤W.heap.size→Inv (pRun m A0 cc).k W →
   assign.wpIn (Fence.wide.inRound (w.heap.size+1)) 0 Tryz.prog (Exit.then (fun a' Wa=>Below W.heap.size W Wa∧∀Wp,PutC Wa Wp→znk g (w0.heap.size+1) Wa Wp→body.wpIn (Fence.wide.inRound (w.heap.size+1)) 0 Tryz.prog (fun e _ W3=>e = .normal∧NoC Wp W3∧Inv ((pRun m A0 cc).k+1) W3∧FrX X Wp W3) a' Wp) (fun _ _ _=>False))
    {tmps:=(ps.zip #[.int .i64 (cc:Int),v]).foldl (fun t (p,v)=>t.setIfInBounds p v) a.tmps,defers:=[]} W)
  (hS:PvS base b2 g cv m N (fun _ _=>True) A0 0 w) (hInv0:∀w',Below w.heap.size w w'→(∃L,w'.heap[w.heap.size+1]? = some (.loop L))→Inv 0 w') (hb1:w.cell? ⟨b1,0,none⟩=some (.int .i64 (columns:Int)))
  (hfin:∀W2,PvS base b2 g cv m N Inv (pRun m A0 columns).P (pRun m A0 columns).k W2→W2.heap[w.heap.size]? = some (.deferred (some []))→Q .normal {a with defers:={target:=.collected w.heap.size,args:=#[]} :: a.defers} W2) :
  (Code.rangeFunc gop ps assign body).wpIn Fence.wide 0 Tryz.prog Q a w:=by
 refine zre (n:=1) (zrt rfl (by omega) hg trivial (ec 134 _ Tryz.func134 rfl) ?_);intro fn hfn;obtain⟨B,hB⟩:∃B,w.heap.size=B:=⟨_,rfl⟩;obtain⟨rec,hrec⟩:∃rec,zgn fn a.tmps ps assign body B=rec:=⟨_,rfl⟩;obtain⟨WB,hWB⟩:∃W,(w.alloc (.deferred (some []))).alloc (.loop (zgn fn a.tmps ps assign body B .ready none))=W:=⟨_,rfl⟩;have hbw:Below w.heap.size w WB:=by rw [←hWB];exact((zaa w _).alloc (by simp) _)
 have hbk:zgh B rec WB:=by
  rw [←hWB,hrec];refine⟨?_,?_⟩
  ·have:=heap_alloc_new (w.alloc (.deferred (some []))) (.loop (rec .ready none));rw [World.size_alloc,hB]at this;exact this
  ·have:=heap_alloc_new w (.deferred (some []));rw [hB]at this;exact Go.Eng.heap_alloc_old _ _ this
 have hI1:∀k w w',(Inv k w∧zgh B rec w)→ButB g w w'→Elem w g 64→(Inv k w'∧zgh B rec w'):=by
  rintro k w w' ⟨h1,h2⟩ hb hE;obtain⟨ce,fze,hE'⟩:=hE;have hn:=hb.noC hE';exact⟨hI k w w' h1 (hb.keepC (fun e=>by rw [hw0,hB]at e;rw [←e,h2.1]at hE';cases hE') (hb.kept ⟨ce,fze,hE'⟩ rfl)),hn _ _ h2.1 rfl,hn _ _ h2.2 rfl⟩
 have hSB:PvS base b2 g cv m N (fun k w=>Inv k w∧zgh B rec w) A0 0 WB:=by
  have h1:=hS.below hbw (fun _ _ _ _ _ _=>trivial);exact⟨h1.mat,h1.box,h1.eb,h1.eg,h1.tab,h1.two,hInv0 WB hbw ⟨_,by rw [hB];exact hbk.1⟩,hbk⟩
 rw [hB,hWB];refine(anyN (zoR (B+1) b1 b2 base g cv m N columns (fun k w=>Inv k w∧zgh B rec w) X A0 WB h0 hm9 hN hN9 hcN hI1 hX hX1 hXp hb2 hG ?_ hSB ((hbw.cell (World.block_lt_of_cell? _ _ hb1)).trans hb1))).mono ?_
 ·rintro cc W v q h1 h2 h3 h4 h5 h6 h7 ⟨h8,h9⟩;have hsz:w.heap.size+2≤W.heap.size:=by
   have:=(Array.getElem?_eq_some_iff.1 h9.1).1;omega
  refine zrr (F:=Fence.wide) (fn:=fn) (tmps:=a.tmps) (ps:=ps) (assign:=assign) (body:=body) trivial (by rw [hps];rfl) (by rw [hrec];exact h9) ?_;have hr:=hround cc W v q h1 h2 h3 h4 h5 h6 h7 hsz h8;rw [hB]at hr;refine wpIn_mono hr ?_;rintro e a' Wa hx
  cases e with
  | normal=>
   obtain⟨hBa,hbody⟩:=hx;have ba:zgh B rec Wa:=⟨NoC.of_below hBa _ _ h9.1 rfl,NoC.of_below hBa _ _ h9.2 rfl⟩;rw [hrec];refine⟨ba,?_⟩;have hpc:=zj2 (o':=.loop (rec .busy none)) ba.1 rfl;refine wpIn_mono (hbody _ hpc (by rw [hw0,hB];exact zhK g (B+1) _ _ ba.1 rfl)) ?_;rintro e3 a3 W3 ⟨rfl,hn,hI3,hF3⟩;have hp1:(Wa.putObj (B+1) (.loop (rec .busy none))).heap[B+1]? = some (.loop (rec .busy none)):=World.putObj_heap_same (Array.getElem?_eq_some_iff.1 ba.1).1;have hp2:(Wa.putObj (B+1) (.loop (rec .busy none))).heap[B]? = some (.deferred (some [])):=(World.putObj_heap_other (by omega)).trans ba.2;have q1:=hn _ _ hp1 rfl;have q2:=hn _ _ hp2 rfl;have hpc3:=zj2 (o':=.loop (rec .ready none)) q1 rfl;refine⟨rfl,q1,q2,rfl,⟨hI _ _ _ hI3 (by rw [hw0,hB];exact zhK g (B+1) _ _ q1 rfl),World.putObj_heap_same (Array.getElem?_eq_some_iff.1 q1).1,(World.putObj_heap_other (by omega)).trans q2⟩,?_⟩;exact(FrX.of_below hBa).trans ((hpc.frx.mono (fun _ _ q=>q.elim)).trans (hF3.trans (hpc3.frx.mono (fun _ _ q=>q.elim))))
  | _=>exact hx.elim
 ·rintro e W2 ⟨hv,hP⟩;obtain⟨h1,h2⟩:=hP.inv;refine⟨hv,by rw [hrec];exact h2,?_⟩;have hpc:=zj2 (o':=.loop (zgn fn a.tmps ps assign body B .exhausted none)) h2.1 rfl;rw [hrec]at hpc ⊢;have hP':PvS base b2 g cv m N Inv (pRun m A0 columns).P (pRun m A0 columns).k W2:=⟨hP.mat,hP.box,hP.eb,hP.eg,hP.tab,hP.two,h1⟩;have:=hfin _ (hP'.frx h0 hpc.frx (fun _ _ _ _ q=>q) (fun _ q=>q) (fun _ q=>q) hb2 (hI _ _ _ h1 (by rw [hw0,hB];exact zhK g (B+1) _ _ h2.1 rfl))) (by rw [hB];exact(World.putObj_heap_other (by omega)).trans h2.2);rw [hB]at this;exact this
end Go.Num
