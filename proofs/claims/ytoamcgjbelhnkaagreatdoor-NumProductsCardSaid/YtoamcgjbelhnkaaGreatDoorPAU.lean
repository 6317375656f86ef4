/-
  A range over a function whose body ends normally, by the function's own walk. Sizes of the program's fractions while rows are eliminated; th
  Conditions: see each statement.
-/
import Derived.Test.YtoamcgjbelhnkaaGreatDoorPAT
import Derived.Test.YtoamcgjbelhnkaaGreatDoorPAR
import Derived.RangeFuncNested
import Derived.BigFrameIn
namespace Go.Num
def IsB(b:Nat)(x:Rat):Prop:=∃z:Int,x=(z:Rat)∧z.natAbs≤b
theorem IsB.mono{b b':Nat}{x:Rat}(h:IsB b x)(hb:b≤b'):IsB b' x:=by
 obtain⟨z,h1,h2⟩:=h;exact⟨z,h1,Nat.le_trans h2 hb⟩
theorem IsB.zero{b:Nat}:IsB b 0:=⟨0,rfl,Nat.zero_le _⟩
theorem IsB.neg{b:Nat}{x:Rat}(h:IsB b x):IsB b (-x):=by
 obtain⟨z,rfl,h2⟩:=h;exact⟨-z,by rw [Rat.intCast_neg],by omega⟩
theorem IsB.add{b c:Nat}{x y:Rat}(h:IsB b x)(k:IsB c y):IsB (b+c) (x+y):=by
 obtain⟨z,rfl,h2⟩:=h;obtain⟨u,rfl,k2⟩:=k;exact⟨z+u,by rw [Rat.intCast_add],by omega⟩
theorem IsB.mul{b c:Nat}{x y:Rat}(h:IsB b x)(k:IsB c y):IsB (b*c) (x*y):=by
 obtain⟨z,rfl,h2⟩:=h;obtain⟨u,rfl,k2⟩:=k;exact⟨z*u,by rw [Rat.intCast_mul],by rw [Int.natAbs_mul];exact Nat.mul_le_mul h2 k2⟩
theorem IsB.sum{b:Nat}{f:Nat→Rat}:∀{n:Nat},(∀i,i<n→IsB b (f i))→IsB (n*b) (sumQ f n)
 | 0,_=>IsB.zero
 | n+1,h=>by
  rw [Nat.succ_mul];exact(IsB.sum fun i hi=>h i (by omega)).add (h n (by omega))
theorem IsB.pm{b:Nat}{x y:Rat}(h:IsB b x)(e:x=y∨x = -y):IsB b y:=by
 rcases e with rfl|rfl
 ·exact h
 ·have:=h.neg;rwa [Rat.neg_neg]at this
theorem IsB.wedge{N b X:Nat}{u:Nat→Rat}{w:Fam}(hu:∀j,j<N→IsB X (u j))(hw:∀S,IsB b (w S))(S:Nat→Bool):IsB (N*X*b) (zba N u w S):=by
 rw [Nat.mul_assoc];refine IsB.sum fun j hj => ?_
 split
 ·have h1:=(hu j hj).mul (hw (wo S j));rcases znQ (lieB S j)with hp|hp <;> rw [hp]
  ·rw [show(1:Rat)*u j*w (wo S j)=u j*w (wo S j)by grind];exact h1
  ·rw [show(-1:Rat)*u j*w (wo S j) = -(u j*w (wo S j))by grind];exact h1.neg
 ·exact IsB.zero
theorem IsB.wedges{N X:Nat}{U:Nat→Nat→Rat}:∀{L:List Nat},(∀i∈L,∀j,j<N→IsB X (U i j))→∀S,IsB ((N*X)^L.length) (zaH N (L.map U) S)
 | [],_,S=>by
  show IsB _ (if lieB S N=0 then(1:Rat)else 0)
  split
  ·exact⟨1,rfl,by show 1≤_;simp⟩
  ·exact IsB.zero
 | i :: L,h,S=>by
  show IsB ((N*X)^(L.length+1)) _
  rw [Nat.pow_succ,Nat.mul_comm];exact IsB.wedge (h i (List.mem_cons_self ..)) (fun S=>IsB.wedges (fun i hi=>h i (List.mem_cons_of_mem _ hi)) S) S
def zcN(U:Nat→Nat→Rat):Nat→List (Nat→Rat)
 | 0 => []
 | k+1=>U k :: zcN U k
def cols(c:Nat→Nat):Nat→List Nat
 | 0 => []
 | k+1=>c k :: cols c k
def zaJ(U:Nat→Nat→Rat)(c:Nat→Nat):Nat→Rat
 | 0=>1
 | k+1=>U k (c k)*zaJ U c k
theorem ze6{c:Nat→Nat}{j:Nat}:∀{k:Nat},j∈cols c k↔∃l,l<k∧c l=j
 | 0=>by simp [cols]
 | k+1=>by
  unfold cols;rw [List.mem_cons,ze6];constructor
  ·rintro (rfl|⟨l,h1,h2⟩)
   ·exact⟨k,by omega,rfl⟩
   ·exact⟨l,by omega,h2⟩
  ·rintro⟨l,h1,rfl⟩;by_cases e:l=k
   ·subst e;exact .inl rfl
   ·exact .inr ⟨l,by omega,rfl⟩
theorem ziu{U V:Nat→Nat→Rat}:∀{k:Nat},(∀i,i<k→U i=V i)→zcN U k=zcN V k
 | 0,_=>rfl
 | k+1,h=>by show U k :: zcN U k=V k :: zcN V k;rw [h k (by omega),ziu fun i hi=>h i (by omega)]
theorem zcs{U V:Nat→Nat→Rat}{c c':Nat→Nat}:∀{k:Nat},(∀i,i<k→U i (c i)=V i (c' i))→zaJ U c k=zaJ V c' k
 | 0,_=>rfl
 | k+1,h=>by show U k (c k)*zaJ U c k=V k (c' k)*zaJ V c' k;rw [h k (by omega),zcs fun i hi=>h i (by omega)]
theorem zd2{U:Nat→Nat→Rat}{c:Nat→Nat}:∀{k:Nat},(∀i,i<k→U i (c i)≠0)→zaJ U c k≠0
 | 0,_=>by show(1:Rat)≠0;decide
 | k+1,h=>by
  show U k (c k)*zaJ U c k≠0
  intro e;rcases Rat.mul_eq_zero.1 e with e|e
  ·exact h k (by omega) e
  ·exact zd2 (fun i hi=>h i (by omega)) e
structure Elim(N m X:Nat)(U:Nat→Nat→Rat)(c:Nat→Nat)(k:Nat):Prop where
 hk:k≤m
 lt:∀l,l<k→c l<N
 inc:∀l l',l<l'→l'<k→c l<c l'
 piv:∀l,l<k→U l (c l)≠0
 zero:∀i,i<m→∀l,l<k→i≠l→U i (c l)=0
 int:∀L:List Nat,L.Nodup→(∀i∈L,k≤i∧i<m)→∀S,IsB ((N*X)^(L.length+k)) (zaH N (L.map U ++ zcN U k) S)
 pre:∀l,l≤k→IsB ((N*X)^l) (zaJ U c l)
theorem Elim.start{N m X:Nat}{U:Nat→Nat→Rat}{c:Nat→Nat}(h:∀i,i<m→∀j,j<N→IsB X (U i j)):Elim N m X U c 0 where
 hk:=Nat.zero_le _
 lt:=fun l h=>absurd h (by omega)
 inc:=fun l l' _ h=>absurd h (by omega)
 piv:=fun l h=>absurd h (by omega)
 zero:=fun i _ l h=>absurd h (by omega)
 int:=fun L _ hL S=>by
  show IsB _ (zaH N (L.map U ++ []) S)
  rw [List.append_nil];exact IsB.wedges (fun i hi=>h i (hL i hi).2) S
 pre:=fun l hl=>by
  have:l=0:=by omega
  subst this;exact⟨1,rfl,by show 1≤1;omega⟩
section
variable {N m X:Nat} {U:Nat→Nat→Rat} {c:Nat→Nat} {k:Nat}
theorem Elim.cols_notin(h:Elim N m X U c k):∀{l:Nat},l<k→c l∉cols c l:=by
 intro l hl hm;obtain⟨l',h1,h2⟩:=ze6.1 hm;have:=h.inc l' l h1 hl;omega
theorem Elim.tri(h:Elim N m X U c k):∀{l:Nat},l≤k→Tri N (zcN U l) (cols c l) (zaJ U c l)
 | 0,_ => .nil
 | l+1,hl => .cons (h.lt l (by omega)) (h.cols_notin (by omega)) (fun j hj=>by
   obtain⟨l',h1,rfl⟩:=ze6.1 hj;exact h.zero l (by have:=h.hk;omega) l' (by omega) (by omega)) (h.tri (by omega))
theorem Elim.last(h:Elim N m X U c k):IsB ((N*X)^k) (zaJ U c k):=h.pre k (Nat.le_refl _)
theorem Elim.free(h:Elim N m X U c k){i j:Nat}(hi:k≤i)(him:i<m)(hj:j<N):IsB ((N*X)^(k+1)) (zaJ U c k*U i j):=by
 by_cases hc:j∈cols c k
 ·obtain⟨l,h1,rfl⟩:=ze6.1 hc;rw [h.zero i him l h1 (by omega),show zaJ U c k*0=0 by grind];exact IsB.zero
 ·have ht:Tri N (U i :: zcN U k) (j :: cols c k) (U i j*zaJ U c k):=.cons hj hc (fun q hq=>by
   obtain⟨l,h1,rfl⟩:=ze6.1 hq;exact h.zero i him l h1 (by omega)) (h.tri (Nat.le_refl _))
  have hb:=h.int [i] (by simp) (by intro q hq;rw [show q=i by simpa using hq];exact⟨hi,him⟩) (setL (j :: cols c k));have e:=hb.pm ht.wedges;rw [show zaJ U c k*U i j=U i j*zaJ U c k by grind];rw [Nat.add_comm k 1];exact e
def zem(U:Nat→Nat→Rat)(i:Nat):Nat→List (Nat→Rat)
 | 0 => []
 | k+1=>if k=i then zcN U k else U k :: zem U i k
def zkK(c:Nat→Nat)(i:Nat):Nat→List Nat
 | 0 => []
 | k+1=>if k=i then cols c k else c k :: zkK c i k
def zmF(U:Nat→Nat→Rat)(c:Nat→Nat)(i:Nat):Nat→Rat
 | 0=>1
 | k+1=>if k=i then zaJ U c k else U k (c k)*zmF U c i k
theorem znO{i:Nat}:∀{l:Nat},i<l→U i (c i)*zmF U c i l=zaJ U c l
 | l+1,h=>by
  show U i (c i)*(if l=i then zaJ U c l else U l (c l)*zmF U c i l)=U l (c l)*zaJ U c l
  by_cases e:l=i
  ·subst e;rw [if_pos rfl]
  ·rw [if_neg e,←znO (i:=i) (l:=l) (by omega)];grind
theorem zlU{i:Nat}:∀{l:Nat},i<l→(∀S,zaH N (U i :: zem U i l) S=zaH N (zcN U l) S)∨(∀S,zaH N (U i :: zem U i l) S = - zaH N (zcN U l) S)
 | l+1,h=>by
  have ed:zcN U (l+1)=U l :: zcN U l:=rfl;rw [ed];unfold zem;by_cases e:l=i
  ·subst e;rw [if_pos rfl];exact .inl fun S=>rfl
  ·rw [if_neg e];have hs:∀S,zaH N (U i :: U l :: zem U i l) S = - zba N (U l) (zaH N (U i :: zem U i l)) S:=fun S=>zdw N _ _ _ S
   rcases zlU (i:=i) (l:=l) (by omega)with ih|ih
   ·right;intro S;rw [hs,show zaH N (U i :: zem U i l)=zaH N (zcN U l)from funext ih];rfl
   ·left;intro S;rw [hs,show zaH N (U i :: zem U i l)=fun S=>(-1)*zaH N (zcN U l) S from funext fun S=>by rw [ih S];grind,zhw];show -(-1*zba N (U l) (zaH N (zcN U l)) S)=zba N (U l) (zaH N (zcN U l)) S
    grind
theorem zeC{i j:Nat}:∀{k:Nat},j∈zkK c i k→∃l,l<k∧l≠i∧c l=j
 | k+1,h=>by
  unfold zkK at h;by_cases e:k=i
  ·rw [if_pos e]at h;obtain⟨l,h1,h2⟩:=ze6.1 h;exact⟨l,by omega,by omega,h2⟩
  ·rw [if_neg e,List.mem_cons]at h;rcases h with rfl|h
   ·exact⟨k,by omega,e,rfl⟩
   ·obtain⟨l,h1,h2,h3⟩:=zeC h;exact⟨l,by omega,h2,h3⟩
theorem Elim.triW(h:Elim N m X U c k)(i:Nat):∀{l:Nat},l≤k→Tri N (zem U i l) (zkK c i l) (zmF U c i l)
 | 0,_ => .nil
 | l+1,hl=>by
  unfold zem zkK zmF;by_cases e:l=i
  ·rw [if_pos e,if_pos e,if_pos e];exact h.tri (by omega)
  ·rw [if_neg e,if_neg e,if_neg e];refine .cons (h.lt l (by omega)) (fun hm => ?_) (fun j hj => ?_) (h.triW i (by omega))
   ·obtain⟨l',h1,_,h2⟩:=zeC hm;have:=h.inc l' l h1 (by omega);omega
   ·obtain⟨l',h1,_,rfl⟩:=zeC hj;exact h.zero l (by have:=h.hk;omega) l' (by omega) (by omega)
theorem Elim.held(h:Elim N m X U c k){i j:Nat}(hi:i<k)(hj:j<N):IsB ((N*X)^k) (zaJ U c k*U i j/U i (c i)):=by
 have hp:=h.piv i hi;have him:i<m:=by have:=h.hk;omega
 by_cases hc:∃l,l<k∧c l=j
 ·obtain⟨l,h1,rfl⟩:=hc;by_cases e:i=l
  ·subst e;rw [show zaJ U c k*U i (c i)/U i (c i)=zaJ U c k by grind];exact h.last
  ·rw [h.zero i him l h1 e,show zaJ U c k*0/U i (c i)=0 by grind];exact IsB.zero
 ·have ht:Tri N (U i :: zem U i k) (j :: zkK c i k) (U i j*zmF U c i k):=.cons hj (fun hm=>by
   obtain⟨l,h1,_,h2⟩:=zeC hm;exact hc ⟨l,h1,h2⟩) (fun q hq=>by
   obtain⟨l,h1,h2,rfl⟩:=zeC hq;exact h.zero i him l h1 (Ne.symm h2)) (h.triW i (Nat.le_refl _))
  have hb:=h.int [] (by simp) (by intro q hq;cases hq) (setL (j :: zkK c i k));have hb:IsB ((N*X)^k) (zaH N (zcN U k) (setL (j :: zkK c i k))):=by
   rw [List.length_nil,Nat.zero_add]at hb;exact hb
  have hb2:IsB ((N*X)^k) (zaH N (U i :: zem U i k) (setL (j :: zkK c i k))):=by
   rcases zlU (N:=N) (U:=U) hi with e|e
   ·rw [e];exact hb
   ·rw [e];exact hb.neg
  have e:=hb2.pm ht.wedges;rw [show zaJ U c k*U i j/U i (c i)=U i j*zmF U c i k by rw [←znO (U:=U) (c:=c) hi];grind];exact e
def zaY(k r i:Nat):Nat:=if i=k then r else if i=r then k else i
theorem zpK{k r i j:Nat}(h:zaY k r i=zaY k r j):i=j:=by
 unfold zaY at h;split at h <;> split at h <;> (try split at h) <;> (try split at h) <;> omega
theorem Elim.swap(h:Elim N m X U c k){r:Nat}(hk:k≤r)(hr:r<m):Elim N m X (fun i=>U (zaY k r i)) c k:=by
 have lo:∀i,i<k→zaY k r i=i:=fun i hi=>by unfold zaY;rw [if_neg (by omega),if_neg (by omega)]
 have hi:∀i,k≤i→i<m→k≤zaY k r i∧zaY k r i<m:=fun i h1 h2=>by unfold zaY;split <;> (try split) <;> omega
 have hp:∀l,l≤k→zaJ (fun i=>U (zaY k r i)) c l=zaJ U c l:=fun l hl=>zcs fun i hi=>by rw [lo i (by omega)]
 refine⟨h.hk,h.lt,h.inc,fun l hl => ?_,fun i him l hl hne => ?_,fun L hL hLm S => ?_,fun l hl => ?_⟩
 ·show U (zaY k r l) (c l)≠0
  rw [lo l hl];exact h.piv l hl
 ·show U (zaY k r i) (c l)=0
  by_cases hik:i<k
  ·rw [lo i hik];exact h.zero i him l hl hne
  ·have:=hi i (by omega) him;exact h.zero _ this.2 l hl (by omega)
 ·have e1:zcN (fun i=>U (zaY k r i)) k=zcN U k:=ziu fun i hi=>by rw [lo i hi]
  have e2:L.map (fun i=>U (zaY k r i))=(L.map (zaY k r)).map U:=by rw [List.map_map];rfl
  rw [e1,e2];have:=h.int (L.map (zaY k r)) ?_ ?_ S
  ·rw [List.length_map]at this;exact this
  ·unfold List.Nodup;rw [List.pairwise_map];exact List.Pairwise.imp (fun hne e=>hne (zpK e)) hL
  ·intro i hi';obtain⟨j,hj,rfl⟩:=List.mem_map.1 hi';exact hi j (hLm j hj).1 (hLm j hj).2
 ·rw [hp l hl];exact h.pre l hl
def zaV(U:Nat→Nat→Rat)(k cc:Nat):Nat→Nat→Rat:=fun i=>if i=k then U k else fun j=>U i j + -(U i cc/U k cc)*U k j
def colP(c:Nat→Nat)(k cc:Nat):Nat→Nat:=fun l=>if l=k then cc else c l
theorem zjN{k cc:Nat}:∀{L:List Nat},(∀i∈L,i≠k)→Differ (U k) (L.map U) (L.map (zaV U k cc))
 | [],_ => .nil
 | i :: L,h => .cons (-(U i cc/U k cc)) (fun j=>by
   have:i≠k:=h i (List.mem_cons_self ..);unfold zaV;rw [if_neg this]) (zjN fun i hi=>h i (List.mem_cons_of_mem _ hi))
theorem zg6{k cc:Nat}:∀{l:Nat},l≤k→Differ (U k) (zcN U l) (zcN (zaV U k cc) l)
 | 0,_ => .nil
 | l+1,h => .cons (-(U l cc/U k cc)) (fun j=>by
   have:l≠k:=by omega
   unfold zaV;rw [if_neg this]) (zg6 (by omega))
theorem Elim.step(h:Elim N m X U c k){cc:Nat}(hkm:k<m)(hcc:cc<N)(hc:∀l,l<k→c l<cc)(hp:U k cc≠0):Elim N m X (zaV U k cc) (colP c k cc) (k+1):=by
 have ec:∀l,l<k→colP c k cc l=c l:=fun l hl=>by unfold colP;rw [if_neg (by omega)]
 have ek:colP c k cc k=cc:=by unfold colP;rw [if_pos rfl]
 have eV:zaV U k cc k=U k:=by unfold zaV;rw [if_pos rfl]
 have eL:∀l,l<k→zaV U k cc l (c l)=U l (c l):=fun l hl=>by
  unfold zaV;rw [if_neg (by omega),h.zero k hkm l hl (by omega)];grind
 have hlt:∀l,l<k+1→colP c k cc l<N:=fun l hl=>by
  by_cases e:l=k
  ·subst e;rw [ek];exact hcc
  ·rw [ec l (by omega)];exact h.lt l (by omega)
 have hinc:∀l l',l<l'→l'<k+1→colP c k cc l<colP c k cc l':=fun l l' h1 h2=>by
  by_cases e:l'=k
  ·subst e;rw [ek,ec l (by omega)];exact hc l (by omega)
  ·rw [ec l (by omega),ec l' (by omega)];exact h.inc l l' h1 (by omega)
 have hpiv:∀l,l<k+1→zaV U k cc l (colP c k cc l)≠0:=fun l hl=>by
  by_cases e:l=k
  ·subst e;rw [ek,eV];exact hp
  ·rw [ec l (by omega),eL l (by omega)];exact h.piv l (by omega)
 have hzero:∀i,i<m→∀l,l<k+1→i≠l→zaV U k cc i (colP c k cc l)=0:=fun i him l hl hne=>by
  by_cases e:l=k
  ·subst e;rw [ek];unfold zaV;rw [if_neg hne];grind
  ·rw [ec l (by omega)];by_cases ei:i=k
   ·subst ei;rw [eV];exact h.zero _ hkm l (by omega) hne
   ·unfold zaV;rw [if_neg ei,h.zero i him l (by omega) hne,h.zero k hkm l (by omega) (by omega)];grind
 have hint:∀L:List Nat,L.Nodup→(∀i∈L,k+1≤i∧i<m)→∀S,IsB ((N*X)^(L.length+(k+1))) (zaH N (L.map (zaV U k cc) ++ zcN (zaV U k cc) (k+1)) S):=fun L hL hLm S=>by
  have e:zaH N (L.map (zaV U k cc) ++ zcN (zaV U k cc) (k+1))=zaH N (L.map U ++ U k :: zcN U k):=by
   show zaH N (L.map (zaV U k cc) ++ zaV U k cc k :: zcN (zaV U k cc) k)=_
   rw [eV];exact zje N (zjN fun i hi=>by have:=(hLm i hi).1;omega) (zg6 (Nat.le_refl _))
  rw [e];have:=h.int (L ++ [k]) ?_ ?_ S
  ·rw [List.map_append,List.append_assoc,List.length_append]at this;rw [show L.length+(k+1)=L.length + [k].length+k by simp;omega];exact this
  ·rw [List.nodup_append];refine⟨hL,by simp,fun a ha b hb e => ?_⟩;have:b=k:=by simpa using hb
   have:=(hLm a ha).1;omega
  ·intro i hi;rcases List.mem_append.1 hi with hi|hi
   ·have:=hLm i hi;omega
   ·have:i=k:=by simpa using hi
    omega
 have hP:∀l,l≤k→zaJ (zaV U k cc) (colP c k cc) l=zaJ U c l:=fun l hl=>zcs fun i hi=>by rw [ec i (by omega),eL i (by omega)]
 have hpre:∀l,l≤k→IsB ((N*X)^l) (zaJ (zaV U k cc) (colP c k cc) l):=fun l hl=>by
  rw [hP l hl];exact h.pre l hl
 refine⟨hkm,hlt,hinc,hpiv,hzero,hint,fun l hl => ?_⟩;by_cases e:l=k+1
 ·subst e;show IsB _ (zaV U k cc k (colP c k cc k)*zaJ (zaV U k cc) (colP c k cc) k)
  rw [hP k (Nat.le_refl _),ek,eV,show U k cc*zaJ U c k=zaJ U c k*U k cc by grind];exact h.free (Nat.le_refl _) hkm hcc
 ·exact hpre l (by omega)
end
structure zdu(N m:Nat)(U:Nat→Nat→Rat)(c:Nat→Nat)(k:Nat)(A:Nat→Nat→Int)(last:Int):Prop where
 last:(last:Rat)=zaJ U c k
 free:∀i,k≤i→i<m→∀j,j<N→(A i j:Rat)=zaJ U c k*U i j
 held:∀i,i<k→∀j,j<N→(A i j:Rat)=zaJ U c k*U i j/U i (c i)
structure zdq(N m:Nat)(U:Nat→Nat→Rat)(g:Nat→Rat)(P:Nat→Nat→Rat):Prop where
 ne:∀i,i<m→g i≠0
 row:∀i,i<m→∀j,j<N→P i j=g i*U i j
theorem intCast_inj{a b:Int}:((a:Rat)=(b:Rat))↔a=b:=Rat.intCast_inj
def zeA(A:Nat→Nat→Int)(k cc:Nat)(last:Int):Nat→Nat→Int:=fun i=>if i=k then A k else fun j=>(A k cc*A i j-A i cc*A k j).tdiv last
def zaG(P:Nat→Nat→Rat)(k cc:Nat):Nat→Nat→Rat:=fun i=>if i=k∨P i cc=0 then P i else fun j=>P i j + -(P i cc/P k cc*P k j)
section
variable {N m X:Nat} {U:Nat→Nat→Rat} {c:Nat→Nat} {k:Nat} {A:Nat→Nat→Int} {last:Int} {g:Nat→Rat} {P:Nat→Nat→Rat}
theorem zdu.start(h:∀i,i<m→∀j,j<N→(A i j:Rat)=U i j):zdu N m U c 0 A 1 where
 last:=rfl
 free:=fun i _ hi j hj=>by rw [h i hi j hj];show _=(1:Rat)*_;grind
 held:=fun i hi=>absurd hi (by omega)
theorem zdu.swap(h:zdu N m U c k A last){r:Nat}(hk:k≤r)(hr:r<m):zdu N m (fun i=>U (zaY k r i)) c k (fun i=>A (zaY k r i)) last:=by
 have lo:∀i,i<k→zaY k r i=i:=fun i hi=>by unfold zaY;rw [if_neg (by omega),if_neg (by omega)]
 have hi:∀i,k≤i→i<m→k≤zaY k r i∧zaY k r i<m:=fun i h1 h2=>by unfold zaY;split <;> (try split) <;> omega
 have hp:zaJ (fun i=>U (zaY k r i)) c k=zaJ U c k:=zcs fun i hi=>by rw [lo i (by omega)]
 refine⟨by rw [hp];exact h.last,fun i h1 h2 j hj => ?_,fun i h1 j hj => ?_⟩
 ·rw [hp];exact h.free _ (hi i h1 h2).1 (hi i h1 h2).2 j hj
 ·rw [hp];show(A (zaY k r i) j:Rat)=zaJ U c k*U (zaY k r i) j/U (zaY k r i) (c i)
  rw [lo i h1];exact h.held i h1 j hj
theorem zdu.step(hE:Elim N m X U c k)(h:zdu N m U c k A last){cc:Nat}(hkm:k<m)(hcc:cc<N)(hc:∀l,l<k→c l<cc)(hp:U k cc≠0) :
  zdu N m (zaV U k cc) (colP c k cc) (k+1) (zeA A k cc last) (A k cc)∧∀i,i<m→i≠k→∀j,j<N→∃z,A k cc*A i j-A i cc*A k j=last*z∧zeA A k cc last i j=z:=by
 have hS:=hE.step hkm hcc hc hp;have ec:∀l,l<k→colP c k cc l=c l:=fun l hl=>by unfold colP;rw [if_neg (by omega)]
 have ek:colP c k cc k=cc:=by unfold colP;rw [if_pos rfl]
 have eV:zaV U k cc k=U k:=by unfold zaV;rw [if_pos rfl]
 have eL:∀l,l<k→zaV U k cc l (c l)=U l (c l):=fun l hl=>by
  unfold zaV;rw [if_neg (by omega),hE.zero k hkm l hl (by omega)];grind
 have hP:zaJ (zaV U k cc) (colP c k cc) k=zaJ U c k:=zcs fun i hi=>by rw [ec i (by omega),eL i (by omega)]
 have hP1:zaJ (zaV U k cc) (colP c k cc) (k+1)=U k cc*zaJ U c k:=by
  show zaV U k cc k (colP c k cc k)*zaJ (zaV U k cc) (colP c k cc) k=_
  rw [hP,ek,eV]
 have hd:zaJ U c k≠0:=zd2 hE.piv;have hl0:last≠0:=by
  rintro rfl;exact hd (by rw [←h.last];rfl)
 have hkk:=fun j hj=>h.free k (Nat.le_refl _) hkm j hj
 have key:∀i,i<m→i≠k→∀j,j<N→∃z:Int,A k cc*A i j-A i cc*A k j=last*z∧(z:Rat)=if i<k then zaJ (zaV U k cc) (colP c k cc) (k+1)*zaV U k cc i j/zaV U k cc i (c i)else zaJ (zaV U k cc) (colP c k cc) (k+1)*zaV U k cc i j:=by
  intro i him hik j hj;have ei:zaV U k cc i j=U i j + -(U i cc/U k cc)*U k j:=by unfold zaV;rw [if_neg hik]
  by_cases hlt:i<k
  ·obtain⟨z,hz,_⟩:=hS.held (i:=i) (by omega) hj;rw [ec i hlt]at hz;refine⟨z,?_,by rw [if_pos hlt];exact hz.symm⟩;rw [←intCast_inj,Rat.intCast_mul,Rat.intCast_sub,Rat.intCast_mul,Rat.intCast_mul,←hz,h.last,hkk cc hcc,hkk j hj,h.held i hlt j hj,h.held i hlt cc hcc,hP1,ei,eL i hlt];have:=hE.piv i hlt;grind
  ·obtain⟨z,hz,_⟩:=hS.free (i:=i) (by omega) him hj;refine⟨z,?_,by rw [if_neg hlt];exact hz.symm⟩;rw [←intCast_inj,Rat.intCast_mul,Rat.intCast_sub,Rat.intCast_mul,Rat.intCast_mul,←hz,h.last,hkk cc hcc,hkk j hj,h.free i (by omega) him j hj,h.free i (by omega) him cc hcc,hP1,ei];grind
 have keyz:∀i,i<m→i≠k→∀j,j<N→∃z:Int,A k cc*A i j-A i cc*A k j=last*z∧zeA A k cc last i j=z∧(z:Rat)=if i<k then zaJ (zaV U k cc) (colP c k cc) (k+1)*zaV U k cc i j/zaV U k cc i (c i)else zaJ (zaV U k cc) (colP c k cc) (k+1)*zaV U k cc i j:=by
  intro i him hik j hj;obtain⟨z,h1,h2⟩:=key i him hik j hj;refine⟨z,h1,?_,h2⟩;unfold zeA;rw [if_neg hik];show(A k cc*A i j-A i cc*A k j).tdiv last=z
  rw [h1];exact Int.mul_tdiv_cancel_left z hl0
 refine⟨⟨?_,fun i h1 h2 j hj => ?_,fun i h1 j hj => ?_⟩,fun i him hik j hj => ?_⟩
 ·rw [hP1,hkk cc hcc];grind
 ·obtain⟨z,_,h4,h5⟩:=keyz i h2 (by omega) j hj;rw [h4,h5,if_neg (by omega)]
 ·by_cases e:i=k
  ·subst e;rw [show zeA A i cc last i=A i by unfold zeA;rw [if_pos rfl],hkk j hj,hP1,ek,eV];grind
  ·obtain⟨z,_,h4,h5⟩:=keyz i (by omega) e j hj;rw [h4,h5,if_pos (by omega),ec i (by omega)]
 ·obtain⟨z,h3,h4,_⟩:=keyz i him hik j hj;exact⟨z,h3,h4⟩
theorem zdu.bound(hE:Elim N m X U c k)(h:zdu N m U c k A last)(hN:1≤N*X):last.natAbs≤(N*X)^m∧∀i,i<m→∀j,j<N→(A i j).natAbs≤(N*X)^m:=by
 have hk:=hE.hk;have out:∀{b:Nat} {z:Int},IsB b (z:Rat)→z.natAbs≤b:=fun⟨u,h1,h2⟩=>by rw [intCast_inj.1 h1];exact h2
 refine⟨?_,fun i hi j hj => ?_⟩
 ·refine out ?_;rw [h.last];exact hE.last.mono (Nat.pow_le_pow_right hN hk)
 ·refine out ?_;by_cases hik:i<k
  ·rw [h.held i hik j hj];exact(hE.held hik hj).mono (Nat.pow_le_pow_right hN hk)
  ·rw [h.free i (by omega) hi j hj];exact(hE.free (by omega) hi hj).mono (Nat.pow_le_pow_right hN (by omega))
theorem zdu.zero(hE:Elim N m X U c k)(h:zdu N m U c k A last){i j:Nat}(hi:k≤i)(him:i<m)(hj:j<N):A i j=0↔U i j=0:=by
 have hd:zaJ U c k≠0:=zd2 hE.piv;rw [←intCast_inj,h.free i hi him j hj];constructor
 ·intro e;rcases Rat.mul_eq_zero.1 (show zaJ U c k*U i j=0 from e)with e|e
  ·exact absurd e hd
  ·exact e
 ·intro e;rw [e];show zaJ U c k*0=0
  grind
theorem zdq.zero(h:zdq N m U g P){i j:Nat}(hi:i<m)(hj:j<N):P i j=0↔U i j=0:=by
 have:=h.ne i hi;rw [h.row i hi j hj];constructor
 ·intro e;rcases Rat.mul_eq_zero.1 e with e|e
  ·exact absurd e this
  ·exact e
 ·intro e;rw [e];grind
def zeJ(g:Nat→Rat)(k r i:Nat):Rat:=if k=r then g i else if i=k then g r else if i=r then-g k else g i
def zfq(P:Nat→Nat→Rat)(k r i:Nat):Nat→Rat:=if k=r then P i else if i=k then P r else if i=r then(fun j => - P k j)else P i
theorem zdq.swap(h:zdq N m U g P){r:Nat}(hk:k<m)(hr:r<m):zdq N m (fun i=>U (zaY k r i)) (zeJ g k r) (zfq P k r):=by
 refine⟨fun i hi => ?_,fun i hi j hj => ?_⟩
 ·unfold zeJ;have h1:=h.ne i hi;have h2:=h.ne r hr;have h3:=h.ne k hk;split
  ·exact h1
  ·split
   ·exact h2
   ·split
    ·grind
    ·exact h1
 ·unfold zeJ zfq zaY;have h1:=h.row i hi j hj;have h2:=h.row r hr j hj;have h3:=h.row k hk j hj;split
  ·rename_i e;subst e;split
   ·rename_i e;subst e;exact h1
   ·exact h1
  ·split
   ·exact h2
   ·split
    ·show-P k j = - g k*U k j
     rw [h3];grind
    ·exact h1
theorem zdq.step(h:zdq N m U g P){cc:Nat}(hkm:k<m)(hcc:cc<N)(hp:U k cc≠0):zdq N m (zaV U k cc) g (zaG P k cc):=by
 refine⟨h.ne,fun i hi j hj => ?_⟩;have h1:=h.row i hi j hj;have h2:=h.row i hi cc hcc;have h3:=h.row k hkm cc hcc;have h4:=h.row k hkm j hj;have n1:=h.ne i hi;have n2:=h.ne k hkm;unfold zaG zaV;by_cases e:i=k
 ·subst e;rw [if_pos (.inl rfl),if_pos rfl];exact h1
 ·rw [if_neg e];by_cases e0:P i cc=0
  ·rw [if_pos (.inr e0)];have:=(h.zero hi hcc).1 e0;rw [h1,this];show g i*U i j=g i*(U i j + -(0/U k cc)*U k j)
   grind
  ·rw [if_neg (fun q=>q.elim e e0)];show P i j + -(P i cc/P k cc*P k j)=_
   rw [h1,h2,h3,h4];grind
end
def RatB(X Y:Nat)(q:Rat):Prop:=∃x y:Int,y≠0∧q=(x:Rat)/(y:Rat)∧x.natAbs≤X∧y.natAbs≤Y
theorem zb6{y:Int}(h:y≠0):(y:Rat)≠0:=fun e=>h (intCast_inj.1 (by rw [e];rfl))
theorem RatB.mul{X Y X' Y':Nat}{p q:Rat}(h:RatB X Y p)(k:RatB X' Y' q):RatB (X*X') (Y*Y') (p*q):=by
 obtain⟨x,y,h1,rfl,h2,h3⟩:=h;obtain⟨u,v,k1,rfl,k2,k3⟩:=k;refine⟨x*u,y*v,Int.mul_ne_zero h1 k1,?_,by rw [Int.natAbs_mul];exact Nat.mul_le_mul h2 k2,by rw [Int.natAbs_mul];exact Nat.mul_le_mul h3 k3⟩;rw [Rat.intCast_mul,Rat.intCast_mul];have:=zb6 h1;have:=zb6 k1;grind
theorem RatB.of_is{X Y:Nat}{p q:Rat}(h:IsB X p)(k:IsB Y q)(hq:q≠0):RatB X Y (p/q):=by
 obtain⟨x,rfl,h1⟩:=h;obtain⟨y,rfl,k1⟩:=k;exact⟨x,y,fun e=>hq (by rw [e];rfl),rfl,h1,k1⟩
theorem RatB.mono{X Y X' Y':Nat}{q:Rat}(h:RatB X Y q)(hx:X≤X')(hy:Y≤Y'):RatB X' Y' q:=by
 obtain⟨x,y,h1,h2,h3,h4⟩:=h;exact⟨x,y,h1,h2,Nat.le_trans h3 hx,Nat.le_trans h4 hy⟩
theorem RatB.size{X Y:Nat}{q:Rat}(h:RatB X Y q):q.num.natAbs≤X∧q.den≤Y:=by
 obtain⟨x,y,h1,h2,h3,h4⟩:=h;have hy:=zb6 h1;have e:(q.num:Rat)/(((q.den:Nat):Int):Rat)=(x:Rat)/(y:Rat):=by rw [←Rat.divInt_eq_div,Rat.num_divInt_den];exact h2
 have hd:((q.den:Int):Rat)≠0:=zb6 (by have:=q.den_nz;omega);have e2:q.num*y=x*q.den:=by
  rw [←intCast_inj,Rat.intCast_mul,Rat.intCast_mul];grind
 have hcop:=q.reduced;have e3:q.num.natAbs*y.natAbs=x.natAbs*q.den:=by
  have:=congrArg Int.natAbs e2;rw [Int.natAbs_mul,Int.natAbs_mul,Int.natAbs_natCast]at this;exact this
 have d1:q.den∣y.natAbs:=Nat.Coprime.dvd_of_dvd_mul_left (Nat.Coprime.symm hcop) ⟨x.natAbs,by rw [e3,Nat.mul_comm]⟩;refine⟨?_,Nat.le_trans (Nat.le_of_dvd (by omega) d1) h4⟩;obtain⟨t,ht⟩:=d1;have ht0:0<t:=by
  rcases Nat.eq_zero_or_pos t with h0|h0
  ·rw [h0]at ht;omega
  ·exact h0
 have:x.natAbs=q.num.natAbs*t:=by
  have hdp:0<q.den:=q.den_pos;have:q.num.natAbs*t*q.den=x.natAbs*q.den:=by rw [←e3,ht,Nat.mul_assoc,Nat.mul_comm t]
  exact(Nat.eq_of_mul_eq_mul_right hdp this).symm
 rw [this]at h3;exact Nat.le_trans (Nat.le_mul_of_pos_right _ ht0) h3
section
variable {N m X F:Nat} {U:Nat→Nat→Rat} {c:Nat→Nat} {k:Nat} {g:Nat→Rat} {P:Nat→Nat→Rat}
theorem zdq.bound(hE:Elim N m X U c k)(h:zdq N m U g P)(hN:1≤N*X)(_:1≤F)(hg:∀i,i<m→RatB 1 F (g i)){i j:Nat}(hi:i<m)(hj:j<N):RatB ((N*X)^m*(N*X)^m) (F*((N*X)^m*(N*X)^m)) (P i j):=by
 have hk:=hE.hk;have hpow:∀l,l≤m→(N*X)^l≤(N*X)^m:=fun l hl=>Nat.pow_le_pow_right hN hl
 have h1:1≤(N*X)^m:=Nat.one_le_pow _ _ hN;have hd:zaJ U c k≠0:=zd2 hE.piv;rw [h.row i hi j hj];have key:RatB ((N*X)^m*(N*X)^m) ((N*X)^m*(N*X)^m) (U i j):=by
  by_cases hik:i<k
  ·have hz:=(hE.held hik hj).mono (hpow k hk);have hp:=(hE.pre (i+1) (by omega)).mono (hpow (i+1) (by omega));have hq:=(hE.pre i (by omega)).mono (hpow i (by omega));have hi0:zaJ U c i≠0:=zd2 fun l hl=>hE.piv l (by omega)
   have:=hE.piv i hik;have e:U i j=(zaJ U c k*U i j/U i (c i))/zaJ U c k*(zaJ U c (i+1)/zaJ U c i):=by
    show _=_*(U i (c i)*zaJ U c i/zaJ U c i)
    grind
   rw [e];exact(RatB.of_is hz (hE.last.mono (hpow k hk)) hd).mul (RatB.of_is hp hq hi0)
  ·have hz:=(hE.free (i:=i) (by omega) hi hj).mono (hpow (k+1) (by omega));have e:U i j=(zaJ U c k*U i j)/zaJ U c k:=by grind
   rw [e];exact(RatB.of_is hz (hE.last.mono (hpow k hk)) hd).mono (Nat.le_mul_of_pos_right _ h1) (Nat.le_mul_of_pos_right _ h1)
 have:=(hg i hi).mul key;rwa [Nat.one_mul]at this
def zcQ(g:Nat→Rat):Nat→Rat
 | 0=>1
 | m+1=>zcQ g m*g m
theorem zd3{g g':Nat→Rat}:∀{m:Nat},(∀i,i<m→g i=g' i)→zcQ g m=zcQ g' m
 | 0,_=>rfl
 | m+1,h=>by show zcQ g m*g m=zcQ g' m*g' m;rw [h m (by omega),zd3 fun i hi=>h i (by omega)]
theorem zhW(g:Nat→Rat)(r:Nat)(x:Rat):∀{m:Nat},r<m→zcQ (fun i=>if i=r then x else g i) m*g r=zcQ g m*x
 | m+1,h=>by
  show zcQ (fun i=>if i=r then x else g i) m*(if m=r then x else g m)*g r=zcQ g m*g m*x
  by_cases e:m=r
  ·subst e;rw [if_pos rfl,zd3 (g:=fun i=>if i=m then x else g i) (g':=g) fun i hi=>by rw [if_neg (by omega)]];grind
  ·rw [if_neg e];have:=zhW g r x (m:=m) (by omega);grind
theorem zoU{g:Nat→Rat}{k r:Nat}(hk:k<m)(hr:r<m)(hkr:k≠r)(h0:∀i,i<m→g i≠0):zcQ (zeJ g k r) m = - zcQ g m:=by
 have e:zeJ g k r=fun i=>if i=k then g r else(fun i=>if i=r then-g k else g i) i:=by
  funext i
  unfold zeJ;rw [if_neg hkr]
 have a1:=zhW (fun i=>if i=r then-g k else g i) k (g r) hk;have a2:=zhW g r (- g k) hr;simp only [if_neg hkr]at a1;have n1:=h0 k hk;have n2:=h0 r hr;rw [e];grind
end
def fnz(p:Nat→Bool):Nat→Nat→Nat
 | 0,r=>r
 | n+1,r=>bif p r then r else fnz p n (r+1)
theorem zlQ(p:Nat→Bool):∀(n r:Nat),r≤fnz p n r∧fnz p n r≤r+n
 | 0,r=>⟨Nat.le_refl _,Nat.le_refl _⟩
 | n+1,r=>by
  unfold fnz
  cases p r with
  | true=>exact⟨Nat.le_refl _,by simp⟩
  | false=>have:=zlQ p n (r+1);exact⟨by simp only [cond_false];omega,by simp only [cond_false];omega⟩
theorem zqF{p:Nat→Bool}:∀{n r q:Nat},r≤q→q≤r+n→(∀i,r≤i→i<q→p i=false)→(q=r+n∨p q=true)→fnz p n r=q
 | 0,r,q,h1,h2,_,_=>by unfold fnz;omega
 | n+1,r,q,h1,h2,h3,h4=>by
  unfold fnz;by_cases e:r=q
  ·subst e;rcases h4 with h4|h4
   ·omega
   ·rw [h4];rfl
  ·rw [h3 r (Nat.le_refl _) (by omega)];exact zqF (by omega) (by omega) (fun i h5 h6=>h3 i (by omega) h6) (h4.imp (fun h=>by omega) id)
theorem zm2{p:Nat→Bool}:∀{n r:Nat},fnz p n r<r+n→p (fnz p n r)=true
 | 0,r,h=>by unfold fnz at h;omega
 | n+1,r,h=>by
  unfold fnz at h ⊢
  cases e:p r with
  | true=>exact e
  | false=>
   rw [e]at h;exact zm2 (by simp only [cond_false]at h;omega)
structure PS where
 P:Nat→Nat→Rat
 k:Nat
def nzP(P:Nat→Nat→Rat)(cc i:Nat):Bool:=decide (P i cc≠0)
def pRow(m cc:Nat)(s:PS):Nat:=fnz (nzP s.P cc) (m-s.k) s.k
def zdm(m cc:Nat)(s:PS):PS:=if pRow m cc s=m then s else⟨zaG (zfq s.P s.k (pRow m cc s)) s.k cc,s.k+1⟩
def pRun(m:Nat)(P0:Nat→Nat→Rat):Nat→PS
 | 0=>⟨P0,0⟩
 | c+1=>zdm m c (pRun m P0 c)
theorem zdG(m:Nat)(P0:Nat→Nat→Rat):∀c,(pRun m P0 c).k≤m∧(pRun m P0 c).k≤c
 | 0=>⟨Nat.zero_le _,Nat.zero_le _⟩
 | c+1=>by
  have ih:=zdG m P0 c;show(zdm m c (pRun m P0 c)).k≤m∧(zdm m c (pRun m P0 c)).k≤c+1
  unfold zdm;split
  ·omega
  ·rename_i h;have:=(zlQ (nzP (pRun m P0 c).P c) (m-(pRun m P0 c).k) (pRun m P0 c).k);unfold pRow at h;refine⟨?_,Nat.succ_le_succ ih.2⟩;show(pRun m P0 c).k+1≤m
   omega
def zen(P:Nat→Nat→Rat)(k cc i:Nat):Nat→Nat→Rat:=fun j=>if j<i then zaG P k cc j else P j
theorem zjw(P:Nat→Nat→Rat)(k cc:Nat):zen P k cc 0=P:=by
 funext j
 unfold zen;rw [if_neg (by omega)]
theorem zgv(P:Nat→Nat→Rat)(k cc i:Nat):zen P k cc (i+1)=fun j=>if j=i then zaG P k cc i else zen P k cc i j:=by
 funext j
 unfold zen;by_cases e:j=i
 ·subst e;rw [if_pos rfl,if_pos (by omega)]
 ·rw [if_neg e];by_cases h:j<i
  ·rw [if_pos h,if_pos (by omega)]
  ·rw [if_neg h,if_neg (by omega)]
theorem zjx(P:Nat→Nat→Rat)(k cc i:Nat):zen P k cc i k=P k:=by
 unfold zen;split
 ·unfold zaG;rw [if_pos (.inl rfl)]
 ·rfl
theorem zhj(P:Nat→Nat→Rat)(k cc i:Nat):zen P k cc i i=P i:=by
 unfold zen;rw [if_neg (by omega)]
theorem zgw{P:Nat→Nat→Rat}{k cc i:Nat}(h:i=k∨P i cc=0):zen P k cc (i+1)=zen P k cc i:=by
 rw [zgv]
 funext j
 by_cases e:j=i
 ·subst e;rw [if_pos rfl,zhj];unfold zaG;rw [if_pos h]
 ·rw [if_neg e]
def zay(m:Nat)(P0:Nat→Nat→Rat):Nat→List Nat
 | 0 => []
 | c+1=>if pRow m c (pRun m P0 c)=m then zay m P0 c else zay m P0 c ++ [c]
theorem zdH(m:Nat)(P0:Nat→Nat→Rat):∀c,(zay m P0 c).length=(pRun m P0 c).k
 | 0=>rfl
 | c+1=>by
  have ih:=zdH m P0 c;show(if pRow m c (pRun m P0 c)=m then zay m P0 c else zay m P0 c ++ [c]).length=(zdm m c (pRun m P0 c)).k
  unfold zdm;split
  ·exact ih
  ·rw [List.length_append,ih];rfl
theorem zko(m:Nat)(P0:Nat→Nat→Rat):∀c,∀x∈zay m P0 c,x<c
 | 0,x,h=>by cases h
 | c+1,x,h=>by
  have ih:=zko m P0 c;unfold zay at h;split at h
  ·have:=ih x h;omega
  ·rcases List.mem_append.1 h with h|h
   ·have:=ih x h;omega
   ·have:=List.mem_singleton.1 h;omega
theorem zls(m:Nat)(P0:Nat→Nat→Rat)(c:Nat):∀d,∃t,zay m P0 (c+d)=zay m P0 c ++ t
 | 0=>⟨[],by simp⟩
 | d+1=>by
  obtain⟨t,ht⟩:=zls m P0 c d;show ∃t',(if pRow m (c+d) (pRun m P0 (c+d))=m then zay m P0 (c+d)else zay m P0 (c+d) ++ [c+d])=_
  split
  ·exact⟨t,ht⟩
  ·exact⟨t ++ [c+d],by rw [ht,List.append_assoc]⟩
theorem zjA{m:Nat}{P0:Nat→Nat→Rat}{c n:Nat}(h:c≤n):(zay m P0 n).take (pRun m P0 c).k=zay m P0 c:=by
 obtain⟨t,ht⟩:=zls m P0 c (n-c);rw [show c+(n-c)=n by omega]at ht;rw [ht,←zdH,List.take_left]
theorem zo0{m:Nat}{P0:Nat→Nat→Rat}{c n:Nat}(h:c<n)(hr:pRow m c (pRun m P0 c)<m):(zay m P0 n).take ((pRun m P0 c).k+1)=(zay m P0 n).take (pRun m P0 c).k ++ [c]:=by
 have h1:=zjA (m:=m) (P0:=P0) (c:=c+1) (n:=n) h;have e:(pRun m P0 (c+1)).k=(pRun m P0 c).k+1:=by
  show(zdm m c (pRun m P0 c)).k=_
  unfold zdm;rw [if_neg (by omega)]
 rw [e]at h1;rw [h1,zjA (by omega)];show(if pRow m c (pRun m P0 c)=m then zay m P0 c else zay m P0 c ++ [c])=_
 rw [if_neg (by omega)]
def zcl(P:Nat→Nat→Rat)(cs:List Nat)(i:Nat):Nat→Rat:=match cs[i]? with|some c=>fun j=>P i j/P i c|none=>P i
end Go.Num
namespace Go.Eng
open Go.RowKit
section
variable {F:Fence} {n:Nat} {P:Program}
def zgs(fn:FuncId)(tmps:Array Value)(ps:Array Tmp)(assign body:Code)(D:Nat)(st:LoopState)(pe:Option Code):Loop:={state:=st,pending:=pe,fn,tmps,params:=ps,assign,body,defers:=D}
def zgj(B:Nat)(rec:LoopState→Option Code→Loop)(W:World):Prop:=W.heap[B+1]? = some (.loop (rec .ready none))∧W.heap[B]? = some (.deferred (some []))
theorem zrs{B:Nat}{fn:FuncId}{tmps:Array Value}{ps:Array Tmp}{assign body:Code}{W:World}{xs:Array Value}{R:Ending→World→Prop}(hF:F.fn fn)(hps:xs.size=ps.size)
  (hb:zgj B (zgs fn tmps ps assign body B) W)
  (h:assign.wpIn (F.inRound (B+1)) n P (Exit.then (fun a' Wa=>zgj B (zgs fn tmps ps assign body B) Wa∧body.wpIn (F.inRound (B+1)) n P (fun e _ W3=>e = .normal∧W3.heap[B+1]? = some (.loop (zgs fn tmps ps assign body B .busy none))∧W3.heap[B]? = some (.deferred (some []))∧R (.returned (.bool true)) (W3.putObj (B+1) (.loop (zgs fn tmps ps assign body B .ready none)))) a' (Wa.putObj (B+1) (.loop (zgs fn tmps ps assign body B .busy none)))) (fun _ _ _=>False))
   {tmps:=(ps.zip xs).foldl (fun t (p,v)=>t.setIfInBounds p v) tmps,defers:=[]} W) :
  YieldAt F n P (B+1) xs W R:=by
 have hy:=run_yield (P:=P) (args:=xs) hb.1 hps;refine⟨fn,_,assign,body,hy,roundIn_of_wpIn hF (wpIn_mono h ?_)⟩;rintro e a' Wa hx
 cases e with
 | normal=>
  obtain⟨hbk,hbody⟩:=hx;refine⟨_,run_beginRound hbk.1 rfl,wpIn_mono hbody ?_⟩;rintro e3 a3 W3 ⟨rfl,h1,h2,h3⟩;have:=run_endRound (P:=P) none h1;exact⟨_,_,this,h3⟩
 | _=>exact hx.elim
theorem zrv{g:Operand}{ps:Array Tmp}{assign body:Code}{Q:Exit→CAct→World→Prop}{a:CAct}{w:World}
  (hro:F.round=none) (h1:1≤n) {gf:Nat} {lb:Array Value} (hg:a.eval g = .func (.func gf) #[] lb) (hFg:F.fn gf) (eg:∀args w,(callFunc gf args).run P w = .ok (.enter gf args) w)
  (h:∀fn,F.fn fn→CallsIn F (n-1) P gf (#[.func (.yield (w.heap.size+1)) #[] #[]] ++ lb) ((w.alloc (.deferred (some []))).alloc (.loop (zgs fn a.tmps ps assign body w.heap.size .ready none))) fun e W2=>
   (∃v,e = .returned v)∧zgj w.heap.size (zgs fn a.tmps ps assign body w.heap.size) W2∧Q .normal {a with defers:={target:=.collected w.heap.size,args:=#[]} :: a.defers} (W2.putObj (w.heap.size+1) (.loop (zgs fn a.tmps ps assign body w.heap.size .exhausted none)))) :
  (Code.rangeFunc g ps assign body).wpIn F n P Q a w:=by
 refine wpIn_rangeFunc ?_;intro fn hfn;rw [hro];have h:=h fn hfn;obtain⟨W1,hW1⟩:∃W1,(w.alloc (.deferred (some []))).alloc (.loop (zgs fn a.tmps ps assign body w.heap.size .ready none))=W1:=⟨_,rfl⟩;rw [hW1]at h;refine⟨w.heap.size+1,[{target:=.collected w.heap.size,args:=#[]}],W1,{target:=.fn (.func gf) lb,args:=#[.func (.yield (w.heap.size+1)) #[] #[]]},W1,gf,
  #[.func (.yield (w.heap.size+1)) #[] #[]] ++ lb,W1,?_,?_,?_,?_,fun _=>h1,?_⟩
 ·rw [←hW1];exact run_enterLoop_outer _ _ _ _ _
 ·simp only [resolve,hg];simp [go_sem]
 ·intro f' hf';simp [Target.leads]at hf';subst hf';exact hFg
 ·simp [invoke,go_sem,eg]
 ·refine h.mono ?_;rintro e W2 ⟨⟨v,rfl⟩,hb,hq⟩;exact⟨none,_,by have:=run_endLoop (P:=P) hb.1 (by simp [zgs]);exact this,hq⟩
end
end Go.Eng
namespace Go.Num
open Go.Eng Go.Shelf Go.RowKit Go.Sort Go.Proofs Go.Proofs.YtoamcgjbelhnkaaGreatDoor
theorem zcv{q:Rat}{L:Nat}(h:zar q L)(h0:0<L)(hL:L≤2222):zc1 q=true:=by
 rw [←zdz];unfold zbS;have h1:=zd4 h0 h.1;have h2:=zd4 h0 h.2;rw [decide_eq_true (by omega),decide_eq_true (by omega)];rfl
theorem zao.kept'{res:List TypeId}{w w':World}{v:Value}{q:Rat}(h:zao w v q)(hk:Go.Eng.Kept res w w')(he:res.contains 111=true):zao w' v q:=by
 obtain⟨vn,vd,e,h1,h2⟩:=h;exact⟨vn,vd,e,h1.kept hk he,h2.kept hk he⟩
def tab{β:Type}(m N:Nat)(A:Nat→Nat→β):List (List β):=(List.range m).map fun i=>(List.range N).map (A i)
theorem zek{β:Type}{m N:Nat}{A:Nat→Nat→β}{i:Nat}(h:i<m):(tab m N A)[i]? = some ((List.range N).map (A i)):=by simp [tab,h]
theorem zaq{β:Type}(m N:Nat)(A:Nat→Nat→β):(tab m N A).length=m:=by simp [tab]
theorem zgm{β:Type}{m N:Nat}{A:Nat→Nat→β}{l:List β}(h:l∈tab m N A):l.length=N:=by
 unfold tab at h;obtain⟨i,_,rfl⟩:=List.mem_map.1 h;simp
theorem zj9{β:Type}{m N:Nat}{A:Nat→Nat→β}{i:Nat}(a:Nat→β):(tab m N A).set i ((List.range N).map a)=tab m N fun j=>if j=i then a else A j:=by
 refine List.ext_getElem? fun k => ?_
 by_cases hk:k<m
 ·rw [zek hk];by_cases e:k=i
  ·subst e;rw [List.getElem?_set_self (by rw [zaq];exact hk),if_pos rfl]
  ·rw [List.getElem?_set_ne (Ne.symm e),zek hk,if_neg e]
 ·rw [List.getElem?_eq_none (by rw [List.length_set,zaq];omega),List.getElem?_eq_none (by rw [zaq];omega)]
theorem zk7{β:Type}{m N:Nat}{A A':Nat→Nat→β}(h:∀i,i<m→A i=A' i):tab m N A=tab m N A':=by
 unfold tab;refine List.map_congr_left fun i hi => ?_
 rw [h i (List.mem_range.1 hi)]
theorem ButB.of_below{g:Nat}{w w':World}(h:Below w.heap.size w w'):ButB g w w':=⟨h.size,fun k hk _=>h.block k hk,h.os,h.tape,h.output⟩
theorem ButB.trans{g:Nat}{w w' w'':World}(h:ButB g w w')(k:ButB g w' w''):ButB g w w'':=⟨Nat.le_trans h.size k.size,fun i hi hne=>by rw [k.blk i (Nat.lt_of_lt_of_le hi h.size) hne,h.blk i hi hne],k.os.trans h.os,k.tape.trans h.tape,k.output.trans h.output⟩
theorem ButB.elem{g b:Nat}{e:TypeId}{w w':World}(h:ButB g w w')(hE:Elem w b e)(hne:b≠g):Elem w' b e:=hE.of_block (h.blk b hE.lt hne)
theorem ButB.cell{g:Nat}{w w':World}(h:ButB g w w'){p:Addr}(hp:p.block<w.heap.size)(hne:p.block≠g):w'.cell? p=w.cell? p:=World.cell?_of_block (h.blk _ hp hne)
theorem ButB.kept{g:Nat}{w w':World}{e:TypeId}(h:ButB g w w')(hE:Elem w g e)(he:rs3.contains e=false):Go.Eng.Kept rs3 w w':=fun b cs t fz q hc=>by
 rw [h.blk b (Array.getElem?_eq_some_iff.1 q).1 (fun e'=>by
  subst e';obtain⟨cs',fz',hE⟩:=hE;rw [hE]at q
  cases q
  rw [he]at hc;cases hc)]
 exact q
theorem zqe:Tryz.prog.globalNamed "internal/strconv.uint64pow10" = some 3:=by kernel_rfl
theorem zaU.but{g:Nat}{w w':World}(h:zaU w)(hb:ButB g w w')(hg:4≤g):zaU w':=by
 unfold zaU Lib.TabIs World.var? at h ⊢;rw [zqe]at h ⊢;simp only [Option.bind_some]at h ⊢;have hlt:3<w.heap.size:=by
  rcases Nat.lt_or_ge 3 w.heap.size with h'|h'
  ·exact h'
  ·rw [Array.getElem?_eq_none h']at h;cases h
 rw [hb.blk 3 hlt (by omega)];exact h
theorem zaU.two{w:World}(h:zaU w):4≤w.heap.size:=by
 unfold zaU Lib.TabIs World.var? at h;rw [zqe]at h;simp only [Option.bind_some]at h;rcases Nat.lt_or_ge 3 w.heap.size with h'|h'
 ·exact h'
 ·rw [Array.getElem?_eq_none h']at h;cases h
abbrev Inv':=Nat→World→Prop
structure PvS(base b2 g cv:Nat)(m N:Nat)(Inv:Inv')(A:Nat→Nat→Rat)(k:Nat)(w:World):Prop where
 mat:∃rvs,zav w base 64 25 3 IR (.slice (some ⟨g,0,none⟩) m cv) rvs (tab m N A)
 box:w.cell? ⟨b2,0,none⟩=some (.slice (some ⟨g,0,none⟩) m cv)
 eb:Elem w b2 116
 eg:Elem w g 64
 tab:zaU w
 two:4≤base
 inv:Inv k w
section
variable {base b2 g cv m N:Nat} {Inv:Inv'} {A A':Nat→Nat→Rat} {k:Nat} {w w':World}
theorem PvS.but(h:PvS base b2 g cv m N Inv A k w)(hb:ButB g w w')(_:Go.Eng.Kept rs3 w w')(hp:zaU w')(hI:∀k w w',Inv k w→ButB g w w'→Elem w g 64→Inv k w')(hE:Elem w' g 64)(hm:∃rvs,zav w' base 64 25 3 IR (.slice (some ⟨g,0,none⟩) m cv) rvs (Go.Num.tab m N A')):PvS base b2 g cv m N Inv A' k w':=
 ⟨hm,(hb.cell (p:=⟨b2,0,none⟩) h.eb.lt (h.eb.ne h.eg (by decide))).trans h.box,hb.elem h.eb (h.eb.ne h.eg (by decide)),hE,hp,h.two,hI _ _ _ h.inv hb h.eg⟩
theorem PvS.gge(h:PvS base b2 g cv m N Inv A k w)(hm:0<m):4≤g:=by
 obtain⟨rvs,hm'⟩:=h.mat;have hl:rvs.length=m:=by rw [←hm'.len,zaq]
 obtain⟨g',cv',e,hg,_⟩:=hm'.top.own (by omega);injection e with e;injection e with e;injection e with e;have:=h.two;omega
theorem PvS.below(h:PvS base b2 g cv m N Inv A k w)(hb:Below w.heap.size w w')(hI:∀k w w',Inv k w→ButB g w w'→Elem w g 64→Inv k w'):PvS base b2 g cv m N Inv A k w':=by
 obtain⟨rvs,hm⟩:=h.mat;exact h.but (.of_below hb) (.of_below hb) (h.tab.below hb) hI (h.eg.below hb h.eg.lt) ⟨rvs,hm.below hb (IR.below hb)⟩
theorem PvS.congr(h:PvS base b2 g cv m N Inv A k w)(e:∀i,i<m→A i=A' i):PvS base b2 g cv m N Inv A' k w:=by
 obtain⟨rvs,hm⟩:=h.mat;exact⟨⟨rvs,by rw [←zk7 e];exact hm⟩,h.box,h.eb,h.eg,h.tab,h.two,h.inv⟩
theorem PvS.row(h:PvS base b2 g cv m N Inv A k w){i:Nat}(hi:i<m)(hN:0<N):∃rvs b c,zav w base 64 25 3 IR (.slice (some ⟨g,0,none⟩) m cv) rvs (Go.Num.tab m N A)∧rvs.length=m∧rvs[i]? = some (.slice (some ⟨b,0,none⟩) N c)∧w.cell? ((⟨g,0,none⟩:Addr).add (i*1))=some (.slice (some ⟨b,0,none⟩) N c) ∧
  OwnR w base 25 3 IR (.slice (some ⟨b,0,none⟩) N c) (rowF (A i) N):=by
 obtain⟨rvs,hm⟩:=h.mat;have hl:rvs.length=m:=by rw [←hm.len,zaq]
 obtain⟨u,hu⟩:∃u,rvs[i]? = some u:=⟨_,List.getElem?_eq_getElem (by omega)⟩;have hr:=hm.row i u _ hu (zek hi);obtain⟨b,c,e,_⟩:=hr.own (by simp;exact hN);simp only [List.length_map,List.length_range]at e;subst e;obtain⟨g',cap,e,_,_,hc⟩:=hm.cell hu;injection e with e e2 e3;injection e with e;injection e with e;subst e;exact⟨rvs,b,c,hm,hl,hu,hc,hr⟩
theorem PvS.item(h:PvS base b2 g cv m N Inv A k w){i j:Nat}(hi:i<m)(hj:j<N)(hN9:N≤1000):∃ra rc sg o1 k1 c1 o2 k2 c2,w.cell? ⟨g,i,none⟩=some (.slice (some ra) N rc) ∧
  w.cell? (ra.add (j*3))=some (.bool sg)∧w.cell? ⟨(ra.add (j*3)).block,(ra.add (j*3)).off+1,none⟩=some (.slice o1 k1 c1)∧w.cell? ⟨(ra.add (j*3)).block,(ra.add (j*3)).off+2,none⟩=some (.slice o2 k2 c2)∧zao w (.agg #[.bool sg,.slice o1 k1 c1,.slice o2 k2 c2]) (A i j):=by
 obtain⟨rvs,b,c,hm,hl,hu,hc,hr⟩:=h.row hi (by omega);have hR:RowR w (.slice (some ⟨b,0,none⟩) N c) (rowF (A i) N):=hr.row (by rw [zan];omega);obtain⟨_,sg,o1,k1,c1,o2,k2,c2,x0,x1,x2,hra⟩:=zah.item hR (zdV (a:=A i) hj);rw [Nat.mul_one,Addr.add_lit,Nat.zero_add]at hc;exact⟨_,c,sg,o1,k1,c1,o2,k2,c2,hc,x0,x1,x2,hra⟩
theorem PvS.set(h:PvS base b2 g cv m N Inv A k w)(hN:0<N){i:Nat}(hi:i<m){u:Value}{a:Nat→Rat}(hu:OwnR w base 25 3 IR u (rowF a N))(hf:∀rvs,zav w base 64 25 3 IR (.slice (some ⟨g,0,none⟩) m cv) rvs (Go.Num.tab m N A)→∀(j:Nat) (u':Value),rvs[j]? = some u'→j≠i→u.ownBlock≠u'.ownBlock)(hI:∀k w w',Inv k w→ButB g w w'→Elem w g 64→Inv k w') :
  PvS base b2 g cv m N Inv (fun j=>if j=i then a else A j) k (w.setCells g (i*1) [u])∧w.there g (i*1) 1:=by
 obtain⟨rvs,hm⟩:=h.mat;have hl:rvs.length=m:=by rw [←hm.len,zaq]
 have hbut:=zal g [u] (i*1) w;have hK:=hbut.kept h.eg rfl;obtain⟨h1,h2⟩:=hm.setRow (by decide) (by rw [hl]) (by omega) hu (by rw [zan];exact hN) (hf rvs hm) (fun _ _ q=>zao.kept q hK);have hE:Elem (w.setCells g (i*1) [u]) g 64:=by
  obtain⟨g',cv',e,_,_,cur,hc⟩:=hm.top.own (by omega);injection e with e;injection e with e;injection e with e;subst e;exact⟨_,_,zci _ _ _ _ hc⟩
 have e1:=zj9 (m:=m) (N:=N) (A:=A) (i:=i) a;rw [show(Go.Num.tab m N A).set i (rowF a N)=_ from e1]at h1;exact⟨h.but hbut hK (h.tab.but hbut (h.gge (by omega))) hI hE ⟨_,h1⟩,h2⟩
theorem PvS.both(h:PvS base b2 g cv m N Inv A k w)(hN:0<N){i r:Nat}(hi:i<m)(hr:r<m)(hir:i≠r){ur u:Value}{a:Nat→Rat}(hur:∀rvs,zav w base 64 25 3 IR (.slice (some ⟨g,0,none⟩) m cv) rvs (Go.Num.tab m N A)→rvs[r]? = some ur)(hu:OwnR w base 25 3 IR u (rowF a N))(hf:∀rvs,zav w base 64 25 3 IR (.slice (some ⟨g,0,none⟩) m cv) rvs (Go.Num.tab m N A)→∀(j:Nat) (u':Value),rvs[j]? = some u'→j≠i→u.ownBlock≠u'.ownBlock)(hI:∀k w w',Inv k w→ButB g w w'→Elem w g 64→Inv k w') :
  PvS base b2 g cv m N Inv (fun j=>if j=r then a else if j=i then A r else A j) k ((w.setCells g (i*1) [ur]).setCells g (r*1) [u])∧w.there g (i*1) 1∧(w.setCells g (i*1) [ur]).there g (r*1) 1:=by
 obtain⟨rvs,hm⟩:=h.mat;have hl:rvs.length=m:=by rw [←hm.len,zaq]
 have hbut:=(zal g [ur] (i*1) w).trans (zal g [u] (r*1) _);have hK:=hbut.kept h.eg rfl;obtain⟨h1,h2,h3⟩:=hm.two (by decide) (by rw [hl]) (by omega) (hur rvs hm) (zek hr) hir hu (by rw [zan];exact hN) (hf rvs hm) (fun _ _ q=>zao.kept q hK);have hE:Elem ((w.setCells g (i*1) [ur]).setCells g (r*1) [u]) g 64:=by
  obtain⟨g',cv',e,_,_,cur,hc⟩:=hm.top.own (by omega);injection e with e;injection e with e;injection e with e;subst e;exact⟨_,_,zci _ _ _ _ (zci _ _ _ _ hc)⟩
 have e1:=zj9 (m:=m) (N:=N) (A:=A) (i:=i) (A r);have e2:=zj9 (m:=m) (N:=N) (A:=fun j=>if j=i then A r else A j) (i:=r) a;rw [show((Go.Num.tab m N A).set i ((List.range N).map (A r))).set r (rowF a N)=_ from(congrArg (fun t=>t.set r ((List.range N).map a)) e1).trans e2]at h1;exact⟨h.but hbut hK (h.tab.but hbut (h.gge (by omega))) hI hE ⟨_,h1⟩,h2,h3⟩
theorem zkp{w:World}{rvs:List Value}{A:Nat→Nat→Rat}(h:zav w base 64 25 3 IR (.slice (some ⟨g,0,none⟩) m cv) rvs (Go.Num.tab m N A)){i:Nat}{u:Value}(hi:i<m)(hc:w.cell? ((⟨g,0,none⟩:Addr).add (i*1))=some u):rvs[i]? = some u:=by
 have hl:rvs.length=m:=by rw [←h.len,zaq]
 obtain⟨u',hu'⟩:∃u',rvs[i]? = some u':=⟨_,List.getElem?_eq_getElem (by omega)⟩;obtain⟨g',cap,e,_,_,hc'⟩:=h.cell hu';injection e with e;injection e with e;injection e with e;subst e;rw [hc]at hc';rw [hu',hc']
theorem PvS.old(h:PvS base b2 g cv m N Inv A k w)(hb:Below w.heap.size w w')(hN:0<N):∀rvs,zav w' base 64 25 3 IR (.slice (some ⟨g,0,none⟩) m cv) rvs (Go.Num.tab m N A')→∀(j:Nat) (u':Value),rvs[j]? = some u'→∀b,u'.ownBlock=some b→b<w.heap.size:=by
 intro rvs hm j u' hj b hub;have hjm:j<m:=by
  have:=(List.getElem?_eq_some_iff.1 hj).1;rw [←hm.len,zaq]at this;exact this
 obtain⟨rvs0,b0,c0,_,_,_,hc,hr⟩:=h.row hjm hN;have hc':w'.cell? ((⟨g,0,none⟩:Addr).add (j*1))=some (.slice (some ⟨b0,0,none⟩) N c0):=by
  rw [hb.cell (by rw [zac];exact h.eg.lt)];exact hc
 have:=zkp hm hjm hc';rw [hj]at this
 cases this
 obtain⟨g',c',e,_,hlt,_⟩:=hr.own (by rw [zan];exact hN);injection e with e;injection e with e;injection e with e
 cases hub
 rw [e];exact hlt
theorem PvS.le(h:PvS base b2 g cv m N Inv A k w)(hm:0<m):base≤w.heap.size:=by
 obtain⟨rvs,hm'⟩:=h.mat;have hl:rvs.length=m:=by rw [←hm'.len,zaq]
 obtain⟨g',cv',e,hg,hlt,_⟩:=hm'.top.own (by omega);omega
theorem PvS.put(h:PvS base b2 g cv m N Inv A k w)(hb:Below w.heap.size w w')(hN:0<N){i:Nat}(hi:i<m){u:Value}{a:Nat→Rat}(hu:OwnR w' w.heap.size 25 3 IR u (rowF a N))(hI:∀k w w',Inv k w→ButB g w w'→Elem w g 64→Inv k w') :
  PvS base b2 g cv m N Inv (fun j=>if j=i then a else A j) k (w'.setCells g (i*1) [u])∧w'.there g (i*1) 1:=by
 refine(h.below hb hI).set hN hi (hu.base (h.le (by omega))) (fun rvs hm j u' hj hji e => ?_) hI;obtain⟨b5,c5,e5,h5,_⟩:=hu.own (by rw [zan];exact hN);have:=h.old hb hN rvs hm j u' hj b5 (by rw [←e,e5];rfl);omega
theorem PvS.turn(h:PvS base b2 g cv m N Inv A k w)(hb:Below w.heap.size w w')(hN:0<N){i r:Nat}(hi:i<m)(hr:r<m)(hir:i≠r){ur u:Value}{a:Nat→Rat}(hur:w.cell? ((⟨g,0,none⟩:Addr).add (r*1))=some ur)(hu:OwnR w' w.heap.size 25 3 IR u (rowF a N))(hI:∀k w w',Inv k w→ButB g w w'→Elem w g 64→Inv k w') :
  PvS base b2 g cv m N Inv (fun j=>if j=r then a else if j=i then A r else A j) k ((w'.setCells g (i*1) [ur]).setCells g (r*1) [u])∧w'.there g (i*1) 1∧(w'.setCells g (i*1) [ur]).there g (r*1) 1:=by
 refine(h.below hb hI).both hN hi hr hir (fun rvs hm=>zkp hm hr ((hb.cell (by rw [zac];exact h.eg.lt)).trans hur)) (hu.base (h.le (by omega))) (fun rvs hm j u' hj hji e => ?_) hI;obtain⟨b5,c5,e5,h5,_⟩:=hu.own (by rw [zan];exact hN);have:=h.old hb hN rvs hm j u' hj b5 (by rw [←e,e5];rfl);omega
end
def FrX(X:Nat→TypeId→Prop)(w w':World):Prop:=w.heap.size≤w'.heap.size∧∀(b:Nat) (cs:Array Value) (e:TypeId) (fz:Nat × Nat),w.heap[b]? = some (.cells cs e fz)→¬X b e→w'.heap[b]? = some (.cells cs e fz)
theorem zaU.frx{X:Nat→TypeId→Prop}{w w':World}(h:zaU w)(hF:FrX X w w')(hX:∀e,¬X 3 e):zaU w':=by
 unfold zaU Lib.TabIs World.var? at h ⊢;rw [zqe]at h ⊢;simp only [Option.bind_some]at h ⊢
 cases hc:w.heap[3]? with
 | none=>rw [hc]at h;cases h
 | some o=>
  cases o with
  | cells cs e fz=>rw [hF.2 3 cs e fz hc (hX e)];rw [hc]at h;exact h
  | _=>rw [hc]at h;cases h
theorem PvS.frx{base b2 g cv m N:Nat}{Inv:Inv'}{A:Nat→Nat→Rat}{k k':Nat}{w w':World}{X:Nat→TypeId→Prop}(h:PvS base b2 g cv m N Inv A k w)(hm:0<m)(hF:FrX X w w')(hX:∀b e,base≤b→(e=25∨e=64∨e=116)→¬X b e)(hX1:∀b,¬X b 111)(hXp:∀e,¬X 3 e)(hb2:base≤b2)(hI:Inv k' w'):PvS base b2 g cv m N Inv A k' w':=by
 obtain⟨rvs,hmat⟩:=h.mat;have hl:rvs.length=m:=by rw [←hmat.len,zaq]
 have hK:Go.Eng.Kept [111] w w':=fun b cs e fz q hc=>hF.2 b cs e fz q (by
  have:e=111:=by simpa using hc
  rw [this];exact hX1 b)
 obtain⟨cs2,fz2,he2⟩:=h.eb;have he2':=hF.2 b2 cs2 116 fz2 he2 (hX b2 116 hb2 (.inr (.inr rfl)));obtain⟨g',cv',e,hg,_,cur,hc⟩:=hmat.top.own (by omega);injection e with e;injection e with e;injection e with e;subst e;refine⟨⟨rvs,hmat.keep (fun b cs e hb he hc => ?_) (fun _ _ q=>zao.kept' q hK rfl)⟩,?_,⟨cs2,fz2,he2'⟩,⟨_,_,hF.2 g cur 64 (0,0) hc (hX g 64 hg (.inr (.inl rfl)))⟩,h.tab.frx hF hXp,h.two,hI⟩
 ·rw [hF.2 b cs e (0,0) hc (hX b e hb (by rcases he with rfl|rfl <;> simp)),hc]
 ·exact(World.cell?_of_block (a:=⟨b2,0,none⟩) (by show w'.heap[b2]? = w.heap[b2]?;rw [he2',he2])).trans h.box
theorem zgF:zmc Tryz.prog 116 1:=zif (e:=64) (inf:=Tryz.t64) (by kernel_rfl) (by kernel_rfl) (by kernel_rfl)
theorem zmN:zcB Tryz.prog 116:=zbP (by kernel_rfl)
theorem lo64:zcB Tryz.prog 64:=zbP (by kernel_rfl)
theorem zdU{t:TypeId}{w:World}{g o:Nat}{v:Value}(hi:(Tryz.prog.info? t).map (·.size)=some 1)(hv:v.cells=#[v])(h1:v.oneCell'=true)(ht:w.there g o 1):(Instr.storeAt t (.pointer (some ((⟨g,0,none⟩:Addr).add o))) v).run Tryz.prog w = .ok () (w.setCells g o [v]):=by
 rw [Addr.add_lit,Nat.zero_add];have:=run_storeCells_cells (P:=Tryz.prog) g o [v] 0 w (fun j hj=>by simpa using (ht j (by simpa using hj)).1) (fun j hj=>by simpa using (ht j (by simpa using hj)).2) (fun u hu=>by rw [List.mem_singleton.1 hu];exact h1)
 cases hq:Tryz.prog.info? t with
 | none=>simp [hq]at hi
 | some i=>
  have hs:i.size=1:=by simpa [hq]using hi
  simp only [Nat.add_zero]at this;simp [Instr.storeAt,Instr.sureAddr,storeVar,sizeOf,typeInfo,hq,hv,hs,this]
theorem zmp{w:World}{g o:Nat}{v:Value}(hv:v.cells=#[v])(h1:v.oneCell'=true)(ht:w.there g o 1):(Instr.storeAt 64 (.pointer (some ((⟨g,0,none⟩:Addr).add o))) v).run Tryz.prog w = .ok () (w.setCells g o [v]):=zdU (by kernel_rfl) hv h1 ht
theorem BoxL.but{w w':World}{g b:Nat}{xs:List Value}(h:BoxL w b xs)(hb:ButB g w w')(hne:b≠g):BoxL w' b xs:=⟨Nat.lt_of_lt_of_le h.1 hb.size,fun j v hj=>(hb.cell (p:=⟨b,j,none⟩) h.1 hne).trans (h.2 j v hj)⟩
theorem zrr(a:Nat→Rat)(n:Nat):((rowF a n).map fun q => -q)=rowF (fun c => -(a c)) n:=by simp [rowF,Function.comp_def]
end Go.Num
