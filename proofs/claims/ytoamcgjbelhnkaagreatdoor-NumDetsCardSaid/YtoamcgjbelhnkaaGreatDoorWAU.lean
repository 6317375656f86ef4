/-
  A range over a function whose body ends normally, by the function's own walk. Sizes of the program's fractions while rows are eliminated; th
  Conditions: see each statement.
-/
import Derived.Test.YtoamcgjbelhnkaaGreatDoorWAT
import Derived.Test.YtoamcgjbelhnkaaGreatDoorWAR
import Derived.RangeFuncNested
import Derived.BigFrameIn
namespace Go.Num
def IsB(b:Nat)(x:Rat):Prop:=∃z:Int,x=(z:Rat)∧z.natAbs≤b
theorem IsB.mono{b b':Nat}{x:Rat}(h:IsB b x)(hb:b≤b'):IsB b' x:=by
 obtain⟨z,h1,h2⟩:=h;exact⟨z,h1,Nat.le_trans h2 hb⟩
theorem IsB.zero{b:Nat}:IsB b 0:=⟨0,rfl,Nat.zero_le _⟩
theorem IsB.neg{b:Nat}{x:Rat}(h:IsB b x):IsB b (-x):=by
 obtain⟨z,rfl,h2⟩:=h;exact⟨-z,by rw [Rat.intCast_neg],by omega⟩
theorem IsB.add{b c:Nat}{x y:Rat}(h:IsB b x)(k:IsB c y):IsB (b+c) (x+y):=by
 obtain⟨z,rfl,h2⟩:=h;obtain⟨u,rfl,k2⟩:=k;exact⟨z+u,by rw [Rat.intCast_add],by omega⟩
theorem IsB.mul{b c:Nat}{x y:Rat}(h:IsB b x)(k:IsB c y):IsB (b*c) (x*y):=by
 obtain⟨z,rfl,h2⟩:=h;obtain⟨u,rfl,k2⟩:=k;exact⟨z*u,by rw [Rat.intCast_mul],by rw [Int.natAbs_mul];exact Nat.mul_le_mul h2 k2⟩
theorem IsB.sum{b:Nat}{f:Nat→Rat}:∀{n:Nat},(∀i,i<n→IsB b (f i))→IsB (n*b) (sumQ f n)
 | 0,_=>IsB.zero
 | n+1,h=>by
  rw [Nat.succ_mul];exact(IsB.sum fun i hi=>h i (by omega)).add (h n (by omega))
theorem IsB.pm{b:Nat}{x y:Rat}(h:IsB b x)(e:x=y∨x = -y):IsB b y:=by
 rcases e with rfl|rfl
 ·exact h
 ·have:=h.neg;rwa [Rat.neg_neg]at this
theorem IsB.wedge{N b X:Nat}{u:Nat→Rat}{w:Fam}(hu:∀j,j<N→IsB X (u j))(hw:∀S,IsB b (w S))(S:Nat→Bool):IsB (N*X*b) (zbU N u w S):=by
 rw [Nat.mul_assoc];refine IsB.sum fun j hj => ?_
 split
 ·have h1:=(hu j hj).mul (hw (wo S j));rcases znx (lieB S j)with hp|hp <;> rw [hp]
  ·rw [show(1:Rat)*u j*w (wo S j)=u j*w (wo S j)by grind];exact h1
  ·rw [show(-1:Rat)*u j*w (wo S j) = -(u j*w (wo S j))by grind];exact h1.neg
 ·exact IsB.zero
theorem IsB.wedges{N X:Nat}{U:Nat→Nat→Rat}:∀{L:List Nat},(∀i∈L,∀j,j<N→IsB X (U i j))→∀S,IsB ((N*X)^L.length) (zaP N (L.map U) S)
 | [],_,S=>by
  show IsB _ (if lieB S N=0 then(1:Rat)else 0)
  split
  ·exact⟨1,rfl,by show 1≤_;simp⟩
  ·exact IsB.zero
 | i :: L,h,S=>by
  show IsB ((N*X)^(L.length+1)) _
  rw [Nat.pow_succ,Nat.mul_comm];exact IsB.wedge (h i (List.mem_cons_self ..)) (fun S=>IsB.wedges (fun i hi=>h i (List.mem_cons_of_mem _ hi)) S) S
def zcR(U:Nat→Nat→Rat):Nat→List (Nat→Rat)
 | 0 => []
 | k+1=>U k :: zcR U k
def cols(c:Nat→Nat):Nat→List Nat
 | 0 => []
 | k+1=>c k :: cols c k
def zaG(U:Nat→Nat→Rat)(c:Nat→Nat):Nat→Rat
 | 0=>1
 | k+1=>U k (c k)*zaG U c k
theorem ze3{c:Nat→Nat}{j:Nat}:∀{k:Nat},j∈cols c k↔∃l,l<k∧c l=j
 | 0=>by simp [cols]
 | k+1=>by
  unfold cols;rw [List.mem_cons,ze3];constructor
  ·rintro (rfl|⟨l,h1,h2⟩)
   ·exact⟨k,by omega,rfl⟩
   ·exact⟨l,by omega,h2⟩
  ·rintro⟨l,h1,rfl⟩;by_cases e:l=k
   ·subst e;exact .inl rfl
   ·exact .inr ⟨l,by omega,rfl⟩
theorem zib{U V:Nat→Nat→Rat}:∀{k:Nat},(∀i,i<k→U i=V i)→zcR U k=zcR V k
 | 0,_=>rfl
 | k+1,h=>by show U k :: zcR U k=V k :: zcR V k;rw [h k (by omega),zib fun i hi=>h i (by omega)]
theorem zcz{U V:Nat→Nat→Rat}{c c':Nat→Nat}:∀{k:Nat},(∀i,i<k→U i (c i)=V i (c' i))→zaG U c k=zaG V c' k
 | 0,_=>rfl
 | k+1,h=>by show U k (c k)*zaG U c k=V k (c' k)*zaG V c' k;rw [h k (by omega),zcz fun i hi=>h i (by omega)]
theorem zdY{U:Nat→Nat→Rat}{c:Nat→Nat}:∀{k:Nat},(∀i,i<k→U i (c i)≠0)→zaG U c k≠0
 | 0,_=>by show(1:Rat)≠0;decide
 | k+1,h=>by
  show U k (c k)*zaG U c k≠0
  intro e;rcases Rat.mul_eq_zero.1 e with e|e
  ·exact h k (by omega) e
  ·exact zdY (fun i hi=>h i (by omega)) e
structure Elim(N m X:Nat)(U:Nat→Nat→Rat)(c:Nat→Nat)(k:Nat):Prop where
 hk:k≤m
 lt:∀l,l<k→c l<N
 inc:∀l l',l<l'→l'<k→c l<c l'
 piv:∀l,l<k→U l (c l)≠0
 zero:∀i,i<m→∀l,l<k→i≠l→U i (c l)=0
 int:∀L:List Nat,L.Nodup→(∀i∈L,k≤i∧i<m)→∀S,IsB ((N*X)^(L.length+k)) (zaP N (L.map U ++ zcR U k) S)
 pre:∀l,l≤k→IsB ((N*X)^l) (zaG U c l)
theorem Elim.start{N m X:Nat}{U:Nat→Nat→Rat}{c:Nat→Nat}(h:∀i,i<m→∀j,j<N→IsB X (U i j)):Elim N m X U c 0 where
 hk:=Nat.zero_le _
 lt:=fun l h=>absurd h (by omega)
 inc:=fun l l' _ h=>absurd h (by omega)
 piv:=fun l h=>absurd h (by omega)
 zero:=fun i _ l h=>absurd h (by omega)
 int:=fun L _ hL S=>by
  show IsB _ (zaP N (L.map U ++ []) S)
  rw [List.append_nil];exact IsB.wedges (fun i hi=>h i (hL i hi).2) S
 pre:=fun l hl=>by
  have:l=0:=by omega
  subst this;exact⟨1,rfl,by show 1≤1;omega⟩
section
variable {N m X:Nat} {U:Nat→Nat→Rat} {c:Nat→Nat} {k:Nat}
theorem Elim.cols_notin(h:Elim N m X U c k):∀{l:Nat},l<k→c l∉cols c l:=by
 intro l hl hm;obtain⟨l',h1,h2⟩:=ze3.1 hm;have:=h.inc l' l h1 hl;omega
theorem Elim.tri(h:Elim N m X U c k):∀{l:Nat},l≤k→Tri N (zcR U l) (cols c l) (zaG U c l)
 | 0,_ => .nil
 | l+1,hl => .cons (h.lt l (by omega)) (h.cols_notin (by omega)) (fun j hj=>by
   obtain⟨l',h1,rfl⟩:=ze3.1 hj;exact h.zero l (by have:=h.hk;omega) l' (by omega) (by omega)) (h.tri (by omega))
theorem Elim.last(h:Elim N m X U c k):IsB ((N*X)^k) (zaG U c k):=h.pre k (Nat.le_refl _)
theorem Elim.free(h:Elim N m X U c k){i j:Nat}(hi:k≤i)(him:i<m)(hj:j<N):IsB ((N*X)^(k+1)) (zaG U c k*U i j):=by
 by_cases hc:j∈cols c k
 ·obtain⟨l,h1,rfl⟩:=ze3.1 hc;rw [h.zero i him l h1 (by omega),show zaG U c k*0=0 by grind];exact IsB.zero
 ·have ht:Tri N (U i :: zcR U k) (j :: cols c k) (U i j*zaG U c k):=.cons hj hc (fun q hq=>by
   obtain⟨l,h1,rfl⟩:=ze3.1 hq;exact h.zero i him l h1 (by omega)) (h.tri (Nat.le_refl _))
  have hb:=h.int [i] (by simp) (by intro q hq;rw [show q=i by simpa using hq];exact⟨hi,him⟩) (setL (j :: cols c k));have e:=hb.pm ht.wedges;rw [show zaG U c k*U i j=U i j*zaG U c k by grind];rw [Nat.add_comm k 1];exact e
def zef(U:Nat→Nat→Rat)(i:Nat):Nat→List (Nat→Rat)
 | 0 => []
 | k+1=>if k=i then zcR U k else U k :: zef U i k
def zky(c:Nat→Nat)(i:Nat):Nat→List Nat
 | 0 => []
 | k+1=>if k=i then cols c k else c k :: zky c i k
def zmu(U:Nat→Nat→Rat)(c:Nat→Nat)(i:Nat):Nat→Rat
 | 0=>1
 | k+1=>if k=i then zaG U c k else U k (c k)*zmu U c i k
theorem znv{i:Nat}:∀{l:Nat},i<l→U i (c i)*zmu U c i l=zaG U c l
 | l+1,h=>by
  show U i (c i)*(if l=i then zaG U c l else U l (c l)*zmu U c i l)=U l (c l)*zaG U c l
  by_cases e:l=i
  ·subst e;rw [if_pos rfl]
  ·rw [if_neg e,←znv (i:=i) (l:=l) (by omega)];grind
theorem zlQ{i:Nat}:∀{l:Nat},i<l→(∀S,zaP N (U i :: zef U i l) S=zaP N (zcR U l) S)∨(∀S,zaP N (U i :: zef U i l) S = - zaP N (zcR U l) S)
 | l+1,h=>by
  have ed:zcR U (l+1)=U l :: zcR U l:=rfl;rw [ed];unfold zef;by_cases e:l=i
  ·subst e;rw [if_pos rfl];exact .inl fun S=>rfl
  ·rw [if_neg e];have hs:∀S,zaP N (U i :: U l :: zef U i l) S = - zbU N (U l) (zaP N (U i :: zef U i l)) S:=fun S=>zdw N _ _ _ S
   rcases zlQ (i:=i) (l:=l) (by omega)with ih|ih
   ·right;intro S;rw [hs,show zaP N (U i :: zef U i l)=zaP N (zcR U l)from funext ih];rfl
   ·left;intro S;rw [hs,show zaP N (U i :: zef U i l)=fun S=>(-1)*zaP N (zcR U l) S from funext fun S=>by rw [ih S];grind,zkQ];show -(-1*zbU N (U l) (zaP N (zcR U l)) S)=zbU N (U l) (zaP N (zcR U l)) S
    grind
theorem zeB{i j:Nat}:∀{k:Nat},j∈zky c i k→∃l,l<k∧l≠i∧c l=j
 | k+1,h=>by
  unfold zky at h;by_cases e:k=i
  ·rw [if_pos e]at h;obtain⟨l,h1,h2⟩:=ze3.1 h;exact⟨l,by omega,by omega,h2⟩
  ·rw [if_neg e,List.mem_cons]at h;rcases h with rfl|h
   ·exact⟨k,by omega,e,rfl⟩
   ·obtain⟨l,h1,h2,h3⟩:=zeB h;exact⟨l,by omega,h2,h3⟩
theorem Elim.triW(h:Elim N m X U c k)(i:Nat):∀{l:Nat},l≤k→Tri N (zef U i l) (zky c i l) (zmu U c i l)
 | 0,_ => .nil
 | l+1,hl=>by
  unfold zef zky zmu;by_cases e:l=i
  ·rw [if_pos e,if_pos e,if_pos e];exact h.tri (by omega)
  ·rw [if_neg e,if_neg e,if_neg e];refine .cons (h.lt l (by omega)) (fun hm => ?_) (fun j hj => ?_) (h.triW i (by omega))
   ·obtain⟨l',h1,_,h2⟩:=zeB hm;have:=h.inc l' l h1 (by omega);omega
   ·obtain⟨l',h1,_,rfl⟩:=zeB hj;exact h.zero l (by have:=h.hk;omega) l' (by omega) (by omega)
theorem Elim.held(h:Elim N m X U c k){i j:Nat}(hi:i<k)(hj:j<N):IsB ((N*X)^k) (zaG U c k*U i j/U i (c i)):=by
 have hp:=h.piv i hi;have him:i<m:=by have:=h.hk;omega
 by_cases hc:∃l,l<k∧c l=j
 ·obtain⟨l,h1,rfl⟩:=hc;by_cases e:i=l
  ·subst e;rw [show zaG U c k*U i (c i)/U i (c i)=zaG U c k by grind];exact h.last
  ·rw [h.zero i him l h1 e,show zaG U c k*0/U i (c i)=0 by grind];exact IsB.zero
 ·have ht:Tri N (U i :: zef U i k) (j :: zky c i k) (U i j*zmu U c i k):=.cons hj (fun hm=>by
   obtain⟨l,h1,_,h2⟩:=zeB hm;exact hc ⟨l,h1,h2⟩) (fun q hq=>by
   obtain⟨l,h1,h2,rfl⟩:=zeB hq;exact h.zero i him l h1 (Ne.symm h2)) (h.triW i (Nat.le_refl _))
  have hb:=h.int [] (by simp) (by intro q hq;cases hq) (setL (j :: zky c i k));have hb:IsB ((N*X)^k) (zaP N (zcR U k) (setL (j :: zky c i k))):=by
   rw [List.length_nil,Nat.zero_add]at hb;exact hb
  have hb2:IsB ((N*X)^k) (zaP N (U i :: zef U i k) (setL (j :: zky c i k))):=by
   rcases zlQ (N:=N) (U:=U) hi with e|e
   ·rw [e];exact hb
   ·rw [e];exact hb.neg
  have e:=hb2.pm ht.wedges;rw [show zaG U c k*U i j/U i (c i)=U i j*zmu U c i k by rw [←znv (U:=U) (c:=c) hi];grind];exact e
def zaM(k r i:Nat):Nat:=if i=k then r else if i=r then k else i
theorem zkY{k r i j:Nat}(h:zaM k r i=zaM k r j):i=j:=by
 unfold zaM at h;split at h <;> split at h <;> (try split at h) <;> (try split at h) <;> omega
theorem Elim.swap(h:Elim N m X U c k){r:Nat}(hk:k≤r)(hr:r<m):Elim N m X (fun i=>U (zaM k r i)) c k:=by
 have lo:∀i,i<k→zaM k r i=i:=fun i hi=>by unfold zaM;rw [if_neg (by omega),if_neg (by omega)]
 have hi:∀i,k≤i→i<m→k≤zaM k r i∧zaM k r i<m:=fun i h1 h2=>by unfold zaM;split <;> (try split) <;> omega
 have hp:∀l,l≤k→zaG (fun i=>U (zaM k r i)) c l=zaG U c l:=fun l hl=>zcz fun i hi=>by rw [lo i (by omega)]
 refine⟨h.hk,h.lt,h.inc,fun l hl => ?_,fun i him l hl hne => ?_,fun L hL hLm S => ?_,fun l hl => ?_⟩
 ·show U (zaM k r l) (c l)≠0
  rw [lo l hl];exact h.piv l hl
 ·show U (zaM k r i) (c l)=0
  by_cases hik:i<k
  ·rw [lo i hik];exact h.zero i him l hl hne
  ·have:=hi i (by omega) him;exact h.zero _ this.2 l hl (by omega)
 ·have e1:zcR (fun i=>U (zaM k r i)) k=zcR U k:=zib fun i hi=>by rw [lo i hi]
  have e2:L.map (fun i=>U (zaM k r i))=(L.map (zaM k r)).map U:=by rw [List.map_map];rfl
  rw [e1,e2];have:=h.int (L.map (zaM k r)) ?_ ?_ S
  ·rw [List.length_map]at this;exact this
  ·unfold List.Nodup;rw [List.pairwise_map];exact List.Pairwise.imp (fun hne e=>hne (zkY e)) hL
  ·intro i hi';obtain⟨j,hj,rfl⟩:=List.mem_map.1 hi';exact hi j (hLm j hj).1 (hLm j hj).2
 ·rw [hp l hl];exact h.pre l hl
def zaT(U:Nat→Nat→Rat)(k cc:Nat):Nat→Nat→Rat:=fun i=>if i=k then U k else fun j=>U i j + -(U i cc/U k cc)*U k j
def colP(c:Nat→Nat)(k cc:Nat):Nat→Nat:=fun l=>if l=k then cc else c l
theorem zjA{k cc:Nat}:∀{L:List Nat},(∀i∈L,i≠k)→Differ (U k) (L.map U) (L.map (zaT U k cc))
 | [],_ => .nil
 | i :: L,h => .cons (-(U i cc/U k cc)) (fun j=>by
   have:i≠k:=h i (List.mem_cons_self ..);unfold zaT;rw [if_neg this]) (zjA fun i hi=>h i (List.mem_cons_of_mem _ hi))
theorem zg0{k cc:Nat}:∀{l:Nat},l≤k→Differ (U k) (zcR U l) (zcR (zaT U k cc) l)
 | 0,_ => .nil
 | l+1,h => .cons (-(U l cc/U k cc)) (fun j=>by
   have:l≠k:=by omega
   unfold zaT;rw [if_neg this]) (zg0 (by omega))
theorem Elim.step(h:Elim N m X U c k){cc:Nat}(hkm:k<m)(hcc:cc<N)(hc:∀l,l<k→c l<cc)(hp:U k cc≠0):Elim N m X (zaT U k cc) (colP c k cc) (k+1):=by
 have ec:∀l,l<k→colP c k cc l=c l:=fun l hl=>by unfold colP;rw [if_neg (by omega)]
 have ek:colP c k cc k=cc:=by unfold colP;rw [if_pos rfl]
 have eV:zaT U k cc k=U k:=by unfold zaT;rw [if_pos rfl]
 have eL:∀l,l<k→zaT U k cc l (c l)=U l (c l):=fun l hl=>by
  unfold zaT;rw [if_neg (by omega),h.zero k hkm l hl (by omega)];grind
 have hlt:∀l,l<k+1→colP c k cc l<N:=fun l hl=>by
  by_cases e:l=k
  ·subst e;rw [ek];exact hcc
  ·rw [ec l (by omega)];exact h.lt l (by omega)
 have hinc:∀l l',l<l'→l'<k+1→colP c k cc l<colP c k cc l':=fun l l' h1 h2=>by
  by_cases e:l'=k
  ·subst e;rw [ek,ec l (by omega)];exact hc l (by omega)
  ·rw [ec l (by omega),ec l' (by omega)];exact h.inc l l' h1 (by omega)
 have hpiv:∀l,l<k+1→zaT U k cc l (colP c k cc l)≠0:=fun l hl=>by
  by_cases e:l=k
  ·subst e;rw [ek,eV];exact hp
  ·rw [ec l (by omega),eL l (by omega)];exact h.piv l (by omega)
 have hzero:∀i,i<m→∀l,l<k+1→i≠l→zaT U k cc i (colP c k cc l)=0:=fun i him l hl hne=>by
  by_cases e:l=k
  ·subst e;rw [ek];unfold zaT;rw [if_neg hne];grind
  ·rw [ec l (by omega)];by_cases ei:i=k
   ·subst ei;rw [eV];exact h.zero _ hkm l (by omega) hne
   ·unfold zaT;rw [if_neg ei,h.zero i him l (by omega) hne,h.zero k hkm l (by omega) (by omega)];grind
 have hint:∀L:List Nat,L.Nodup→(∀i∈L,k+1≤i∧i<m)→∀S,IsB ((N*X)^(L.length+(k+1))) (zaP N (L.map (zaT U k cc) ++ zcR (zaT U k cc) (k+1)) S):=fun L hL hLm S=>by
  have e:zaP N (L.map (zaT U k cc) ++ zcR (zaT U k cc) (k+1))=zaP N (L.map U ++ U k :: zcR U k):=by
   show zaP N (L.map (zaT U k cc) ++ zaT U k cc k :: zcR (zaT U k cc) k)=_
   rw [eV];exact zoj N (zjA fun i hi=>by have:=(hLm i hi).1;omega) (zg0 (Nat.le_refl _))
  rw [e];have:=h.int (L ++ [k]) ?_ ?_ S
  ·rw [List.map_append,List.append_assoc,List.length_append]at this;rw [show L.length+(k+1)=L.length + [k].length+k by simp;omega];exact this
  ·rw [List.nodup_append];refine⟨hL,by simp,fun a ha b hb e => ?_⟩;have:b=k:=by simpa using hb
   have:=(hLm a ha).1;omega
  ·intro i hi;rcases List.mem_append.1 hi with hi|hi
   ·have:=hLm i hi;omega
   ·have:i=k:=by simpa using hi
    omega
 have hP:∀l,l≤k→zaG (zaT U k cc) (colP c k cc) l=zaG U c l:=fun l hl=>zcz fun i hi=>by rw [ec i (by omega),eL i (by omega)]
 have hpre:∀l,l≤k→IsB ((N*X)^l) (zaG (zaT U k cc) (colP c k cc) l):=fun l hl=>by
  rw [hP l hl];exact h.pre l hl
 refine⟨hkm,hlt,hinc,hpiv,hzero,hint,fun l hl => ?_⟩;by_cases e:l=k+1
 ·subst e;show IsB _ (zaT U k cc k (colP c k cc k)*zaG (zaT U k cc) (colP c k cc) k)
  rw [hP k (Nat.le_refl _),ek,eV,show U k cc*zaG U c k=zaG U c k*U k cc by grind];exact h.free (Nat.le_refl _) hkm hcc
 ·exact hpre l (by omega)
end
structure zdu(N m:Nat)(U:Nat→Nat→Rat)(c:Nat→Nat)(k:Nat)(A:Nat→Nat→Int)(last:Int):Prop where
 last:(last:Rat)=zaG U c k
 free:∀i,k≤i→i<m→∀j,j<N→(A i j:Rat)=zaG U c k*U i j
 held:∀i,i<k→∀j,j<N→(A i j:Rat)=zaG U c k*U i j/U i (c i)
structure zdr(N m:Nat)(U:Nat→Nat→Rat)(g:Nat→Rat)(P:Nat→Nat→Rat):Prop where
 ne:∀i,i<m→g i≠0
 row:∀i,i<m→∀j,j<N→P i j=g i*U i j
theorem intCast_inj{a b:Int}:((a:Rat)=(b:Rat))↔a=b:=Rat.intCast_inj
def zcT(A:Nat→Nat→Int)(k cc:Nat)(last:Int):Nat→Nat→Int:=fun i=>if i=k then A k else fun j=>(A k cc*A i j-A i cc*A k j).tdiv last
def zb2(P:Nat→Nat→Rat)(k cc:Nat):Nat→Nat→Rat:=fun i=>if i=k∨P i cc=0 then P i else fun j=>P i j + -(P i cc/P k cc*P k j)
section
variable {N m X:Nat} {U:Nat→Nat→Rat} {c:Nat→Nat} {k:Nat} {A:Nat→Nat→Int} {last:Int} {g:Nat→Rat} {P:Nat→Nat→Rat}
theorem zdu.start(h:∀i,i<m→∀j,j<N→(A i j:Rat)=U i j):zdu N m U c 0 A 1 where
 last:=rfl
 free:=fun i _ hi j hj=>by rw [h i hi j hj];show _=(1:Rat)*_;grind
 held:=fun i hi=>absurd hi (by omega)
theorem zdu.swap(h:zdu N m U c k A last){r:Nat}(hk:k≤r)(hr:r<m):zdu N m (fun i=>U (zaM k r i)) c k (fun i=>A (zaM k r i)) last:=by
 have lo:∀i,i<k→zaM k r i=i:=fun i hi=>by unfold zaM;rw [if_neg (by omega),if_neg (by omega)]
 have hi:∀i,k≤i→i<m→k≤zaM k r i∧zaM k r i<m:=fun i h1 h2=>by unfold zaM;split <;> (try split) <;> omega
 have hp:zaG (fun i=>U (zaM k r i)) c k=zaG U c k:=zcz fun i hi=>by rw [lo i (by omega)]
 refine⟨by rw [hp];exact h.last,fun i h1 h2 j hj => ?_,fun i h1 j hj => ?_⟩
 ·rw [hp];exact h.free _ (hi i h1 h2).1 (hi i h1 h2).2 j hj
 ·rw [hp];show(A (zaM k r i) j:Rat)=zaG U c k*U (zaM k r i) j/U (zaM k r i) (c i)
  rw [lo i h1];exact h.held i h1 j hj
theorem zdu.step(hE:Elim N m X U c k)(h:zdu N m U c k A last){cc:Nat}(hkm:k<m)(hcc:cc<N)(hc:∀l,l<k→c l<cc)(hp:U k cc≠0) :
  zdu N m (zaT U k cc) (colP c k cc) (k+1) (zcT A k cc last) (A k cc)∧∀i,i<m→i≠k→∀j,j<N→∃z,A k cc*A i j-A i cc*A k j=last*z∧zcT A k cc last i j=z:=by
 have hS:=hE.step hkm hcc hc hp;have ec:∀l,l<k→colP c k cc l=c l:=fun l hl=>by unfold colP;rw [if_neg (by omega)]
 have ek:colP c k cc k=cc:=by unfold colP;rw [if_pos rfl]
 have eV:zaT U k cc k=U k:=by unfold zaT;rw [if_pos rfl]
 have eL:∀l,l<k→zaT U k cc l (c l)=U l (c l):=fun l hl=>by
  unfold zaT;rw [if_neg (by omega),hE.zero k hkm l hl (by omega)];grind
 have hP:zaG (zaT U k cc) (colP c k cc) k=zaG U c k:=zcz fun i hi=>by rw [ec i (by omega),eL i (by omega)]
 have hP1:zaG (zaT U k cc) (colP c k cc) (k+1)=U k cc*zaG U c k:=by
  show zaT U k cc k (colP c k cc k)*zaG (zaT U k cc) (colP c k cc) k=_
  rw [hP,ek,eV]
 have hd:zaG U c k≠0:=zdY hE.piv;have hl0:last≠0:=by
  rintro rfl;exact hd (by rw [←h.last];rfl)
 have hkk:=fun j hj=>h.free k (Nat.le_refl _) hkm j hj
 have key:∀i,i<m→i≠k→∀j,j<N→∃z:Int,A k cc*A i j-A i cc*A k j=last*z∧(z:Rat)=if i<k then zaG (zaT U k cc) (colP c k cc) (k+1)*zaT U k cc i j/zaT U k cc i (c i)else zaG (zaT U k cc) (colP c k cc) (k+1)*zaT U k cc i j:=by
  intro i him hik j hj;have ei:zaT U k cc i j=U i j + -(U i cc/U k cc)*U k j:=by unfold zaT;rw [if_neg hik]
  by_cases hlt:i<k
  ·obtain⟨z,hz,_⟩:=hS.held (i:=i) (by omega) hj;rw [ec i hlt]at hz;refine⟨z,?_,by rw [if_pos hlt];exact hz.symm⟩;rw [←intCast_inj,Rat.intCast_mul,Rat.intCast_sub,Rat.intCast_mul,Rat.intCast_mul,←hz,h.last,hkk cc hcc,hkk j hj,h.held i hlt j hj,h.held i hlt cc hcc,hP1,ei,eL i hlt];have:=hE.piv i hlt;grind
  ·obtain⟨z,hz,_⟩:=hS.free (i:=i) (by omega) him hj;refine⟨z,?_,by rw [if_neg hlt];exact hz.symm⟩;rw [←intCast_inj,Rat.intCast_mul,Rat.intCast_sub,Rat.intCast_mul,Rat.intCast_mul,←hz,h.last,hkk cc hcc,hkk j hj,h.free i (by omega) him j hj,h.free i (by omega) him cc hcc,hP1,ei];grind
 have keyz:∀i,i<m→i≠k→∀j,j<N→∃z:Int,A k cc*A i j-A i cc*A k j=last*z∧zcT A k cc last i j=z∧(z:Rat)=if i<k then zaG (zaT U k cc) (colP c k cc) (k+1)*zaT U k cc i j/zaT U k cc i (c i)else zaG (zaT U k cc) (colP c k cc) (k+1)*zaT U k cc i j:=by
  intro i him hik j hj;obtain⟨z,h1,h2⟩:=key i him hik j hj;refine⟨z,h1,?_,h2⟩;unfold zcT;rw [if_neg hik];show(A k cc*A i j-A i cc*A k j).tdiv last=z
  rw [h1];exact Int.mul_tdiv_cancel_left z hl0
 refine⟨⟨?_,fun i h1 h2 j hj => ?_,fun i h1 j hj => ?_⟩,fun i him hik j hj => ?_⟩
 ·rw [hP1,hkk cc hcc];grind
 ·obtain⟨z,_,h4,h5⟩:=keyz i h2 (by omega) j hj;rw [h4,h5,if_neg (by omega)]
 ·by_cases e:i=k
  ·subst e;rw [show zcT A i cc last i=A i by unfold zcT;rw [if_pos rfl],hkk j hj,hP1,ek,eV];grind
  ·obtain⟨z,_,h4,h5⟩:=keyz i (by omega) e j hj;rw [h4,h5,if_pos (by omega),ec i (by omega)]
 ·obtain⟨z,h3,h4,_⟩:=keyz i him hik j hj;exact⟨z,h3,h4⟩
theorem zdu.bound(hE:Elim N m X U c k)(h:zdu N m U c k A last)(hN:1≤N*X):last.natAbs≤(N*X)^m∧∀i,i<m→∀j,j<N→(A i j).natAbs≤(N*X)^m:=by
 have hk:=hE.hk;have out:∀{b:Nat} {z:Int},IsB b (z:Rat)→z.natAbs≤b:=fun⟨u,h1,h2⟩=>by rw [intCast_inj.1 h1];exact h2
 refine⟨?_,fun i hi j hj => ?_⟩
 ·refine out ?_;rw [h.last];exact hE.last.mono (Nat.pow_le_pow_right hN hk)
 ·refine out ?_;by_cases hik:i<k
  ·rw [h.held i hik j hj];exact(hE.held hik hj).mono (Nat.pow_le_pow_right hN hk)
  ·rw [h.free i (by omega) hi j hj];exact(hE.free (by omega) hi hj).mono (Nat.pow_le_pow_right hN (by omega))
theorem zdu.zero(hE:Elim N m X U c k)(h:zdu N m U c k A last){i j:Nat}(hi:k≤i)(him:i<m)(hj:j<N):A i j=0↔U i j=0:=by
 have hd:zaG U c k≠0:=zdY hE.piv;rw [←intCast_inj,h.free i hi him j hj];constructor
 ·intro e;rcases Rat.mul_eq_zero.1 (show zaG U c k*U i j=0 from e)with e|e
  ·exact absurd e hd
  ·exact e
 ·intro e;rw [e];show zaG U c k*0=0
  grind
theorem zdr.zero(h:zdr N m U g P){i j:Nat}(hi:i<m)(hj:j<N):P i j=0↔U i j=0:=by
 have:=h.ne i hi;rw [h.row i hi j hj];constructor
 ·intro e;rcases Rat.mul_eq_zero.1 e with e|e
  ·exact absurd e this
  ·exact e
 ·intro e;rw [e];grind
def zeH(g:Nat→Rat)(k r i:Nat):Rat:=if k=r then g i else if i=k then g r else if i=r then-g k else g i
def zlm(P:Nat→Nat→Rat)(k r i:Nat):Nat→Rat:=if k=r then P i else if i=k then P r else if i=r then(fun j => - P k j)else P i
theorem zdr.swap(h:zdr N m U g P){r:Nat}(hk:k<m)(hr:r<m):zdr N m (fun i=>U (zaM k r i)) (zeH g k r) (zlm P k r):=by
 refine⟨fun i hi => ?_,fun i hi j hj => ?_⟩
 ·unfold zeH;have h1:=h.ne i hi;have h2:=h.ne r hr;have h3:=h.ne k hk;split
  ·exact h1
  ·split
   ·exact h2
   ·split
    ·grind
    ·exact h1
 ·unfold zeH zlm zaM;have h1:=h.row i hi j hj;have h2:=h.row r hr j hj;have h3:=h.row k hk j hj;split
  ·rename_i e;subst e;split
   ·rename_i e;subst e;exact h1
   ·exact h1
  ·split
   ·exact h2
   ·split
    ·show-P k j = - g k*U k j
     rw [h3];grind
    ·exact h1
theorem zdr.step(h:zdr N m U g P){cc:Nat}(hkm:k<m)(hcc:cc<N)(hp:U k cc≠0):zdr N m (zaT U k cc) g (zb2 P k cc):=by
 refine⟨h.ne,fun i hi j hj => ?_⟩;have h1:=h.row i hi j hj;have h2:=h.row i hi cc hcc;have h3:=h.row k hkm cc hcc;have h4:=h.row k hkm j hj;have n1:=h.ne i hi;have n2:=h.ne k hkm;unfold zb2 zaT;by_cases e:i=k
 ·subst e;rw [if_pos (.inl rfl),if_pos rfl];exact h1
 ·rw [if_neg e];by_cases e0:P i cc=0
  ·rw [if_pos (.inr e0)];have:=(h.zero hi hcc).1 e0;rw [h1,this];show g i*U i j=g i*(U i j + -(0/U k cc)*U k j)
   grind
  ·rw [if_neg (fun q=>q.elim e e0)];show P i j + -(P i cc/P k cc*P k j)=_
   rw [h1,h2,h3,h4];grind
end
def RatB(X Y:Nat)(q:Rat):Prop:=∃x y:Int,y≠0∧q=(x:Rat)/(y:Rat)∧x.natAbs≤X∧y.natAbs≤Y
theorem zdJ{y:Int}(h:y≠0):(y:Rat)≠0:=fun e=>h (intCast_inj.1 (by rw [e];rfl))
theorem RatB.mul{X Y X' Y':Nat}{p q:Rat}(h:RatB X Y p)(k:RatB X' Y' q):RatB (X*X') (Y*Y') (p*q):=by
 obtain⟨x,y,h1,rfl,h2,h3⟩:=h;obtain⟨u,v,k1,rfl,k2,k3⟩:=k;refine⟨x*u,y*v,Int.mul_ne_zero h1 k1,?_,by rw [Int.natAbs_mul];exact Nat.mul_le_mul h2 k2,by rw [Int.natAbs_mul];exact Nat.mul_le_mul h3 k3⟩;rw [Rat.intCast_mul,Rat.intCast_mul];have:=zdJ h1;have:=zdJ k1;grind
theorem RatB.of_is{X Y:Nat}{p q:Rat}(h:IsB X p)(k:IsB Y q)(hq:q≠0):RatB X Y (p/q):=by
 obtain⟨x,rfl,h1⟩:=h;obtain⟨y,rfl,k1⟩:=k;exact⟨x,y,fun e=>hq (by rw [e];rfl),rfl,h1,k1⟩
theorem RatB.mono{X Y X' Y':Nat}{q:Rat}(h:RatB X Y q)(hx:X≤X')(hy:Y≤Y'):RatB X' Y' q:=by
 obtain⟨x,y,h1,h2,h3,h4⟩:=h;exact⟨x,y,h1,h2,Nat.le_trans h3 hx,Nat.le_trans h4 hy⟩
theorem RatB.size{X Y:Nat}{q:Rat}(h:RatB X Y q):q.num.natAbs≤X∧q.den≤Y:=by
 obtain⟨x,y,h1,h2,h3,h4⟩:=h;have hy:=zdJ h1;have e:(q.num:Rat)/(((q.den:Nat):Int):Rat)=(x:Rat)/(y:Rat):=by rw [←Rat.divInt_eq_div,Rat.num_divInt_den];exact h2
 have hd:((q.den:Int):Rat)≠0:=zdJ (by have:=q.den_nz;omega);have e2:q.num*y=x*q.den:=by
  rw [←intCast_inj,Rat.intCast_mul,Rat.intCast_mul];grind
 have hcop:=q.reduced;have e3:q.num.natAbs*y.natAbs=x.natAbs*q.den:=by
  have:=congrArg Int.natAbs e2;rw [Int.natAbs_mul,Int.natAbs_mul,Int.natAbs_natCast]at this;exact this
 have d1:q.den∣y.natAbs:=Nat.Coprime.dvd_of_dvd_mul_left (Nat.Coprime.symm hcop) ⟨x.natAbs,by rw [e3,Nat.mul_comm]⟩;refine⟨?_,Nat.le_trans (Nat.le_of_dvd (by omega) d1) h4⟩;obtain⟨t,ht⟩:=d1;have ht0:0<t:=by
  rcases Nat.eq_zero_or_pos t with h0|h0
  ·rw [h0]at ht;omega
  ·exact h0
 have:x.natAbs=q.num.natAbs*t:=by
  have hdp:0<q.den:=q.den_pos;have:q.num.natAbs*t*q.den=x.natAbs*q.den:=by rw [←e3,ht,Nat.mul_assoc,Nat.mul_comm t]
  exact(Nat.eq_of_mul_eq_mul_right hdp this).symm
 rw [this]at h3;exact Nat.le_trans (Nat.le_mul_of_pos_right _ ht0) h3
section
variable {N m X F:Nat} {U:Nat→Nat→Rat} {c:Nat→Nat} {k:Nat} {g:Nat→Rat} {P:Nat→Nat→Rat}
theorem zdr.bound(hE:Elim N m X U c k)(h:zdr N m U g P)(hN:1≤N*X)(hF:1≤F)(hg:∀i,i<m→RatB 1 F (g i)){i j:Nat}(hi:i<m)(hj:j<N):RatB ((N*X)^m*(N*X)^m) (F*((N*X)^m*(N*X)^m)) (P i j):=by
 have hk:=hE.hk;have hpow:∀l,l≤m→(N*X)^l≤(N*X)^m:=fun l hl=>Nat.pow_le_pow_right hN hl
 have h1:1≤(N*X)^m:=Nat.one_le_pow _ _ hN;have hd:zaG U c k≠0:=zdY hE.piv;rw [h.row i hi j hj];have key:RatB ((N*X)^m*(N*X)^m) ((N*X)^m*(N*X)^m) (U i j):=by
  by_cases hik:i<k
  ·have hz:=(hE.held hik hj).mono (hpow k hk);have hp:=(hE.pre (i+1) (by omega)).mono (hpow (i+1) (by omega));have hq:=(hE.pre i (by omega)).mono (hpow i (by omega));have hi0:zaG U c i≠0:=zdY fun l hl=>hE.piv l (by omega)
   have:=hE.piv i hik;have e:U i j=(zaG U c k*U i j/U i (c i))/zaG U c k*(zaG U c (i+1)/zaG U c i):=by
    show _=_*(U i (c i)*zaG U c i/zaG U c i)
    grind
   rw [e];exact(RatB.of_is hz (hE.last.mono (hpow k hk)) hd).mul (RatB.of_is hp hq hi0)
  ·have hz:=(hE.free (i:=i) (by omega) hi hj).mono (hpow (k+1) (by omega));have e:U i j=(zaG U c k*U i j)/zaG U c k:=by grind
   rw [e];exact(RatB.of_is hz (hE.last.mono (hpow k hk)) hd).mono (Nat.le_mul_of_pos_right _ h1) (Nat.le_mul_of_pos_right _ h1)
 have:=(hg i hi).mul key;rwa [Nat.one_mul]at this
def zcA(g:Nat→Rat):Nat→Rat
 | 0=>1
 | m+1=>zcA g m*g m
theorem zdZ{g g':Nat→Rat}:∀{m:Nat},(∀i,i<m→g i=g' i)→zcA g m=zcA g' m
 | 0,_=>rfl
 | m+1,h=>by show zcA g m*g m=zcA g' m*g' m;rw [h m (by omega),zdZ fun i hi=>h i (by omega)]
theorem zhK(g:Nat→Rat)(r:Nat)(x:Rat):∀{m:Nat},r<m→zcA (fun i=>if i=r then x else g i) m*g r=zcA g m*x
 | m+1,h=>by
  show zcA (fun i=>if i=r then x else g i) m*(if m=r then x else g m)*g r=zcA g m*g m*x
  by_cases e:m=r
  ·subst e;rw [if_pos rfl,zdZ (g:=fun i=>if i=m then x else g i) (g':=g) fun i hi=>by rw [if_neg (by omega)]];grind
  ·rw [if_neg e];have:=zhK g r x (m:=m) (by omega);grind
theorem zow{g:Nat→Rat}{k r:Nat}(hk:k<m)(hr:r<m)(hkr:k≠r)(h0:∀i,i<m→g i≠0):zcA (zeH g k r) m = - zcA g m:=by
 have e:zeH g k r=fun i=>if i=k then g r else(fun i=>if i=r then-g k else g i) i:=by
  funext i
  unfold zeH;rw [if_neg hkr]
 have a1:=zhK (fun i=>if i=r then-g k else g i) k (g r) hk;have a2:=zhK g r (- g k) hr;simp only [if_neg hkr]at a1;have n1:=h0 k hk;have n2:=h0 r hr;rw [e];grind
end
def fnz(p:Nat→Bool):Nat→Nat→Nat
 | 0,r=>r
 | n+1,r=>bif p r then r else fnz p n (r+1)
theorem zlM(p:Nat→Bool):∀(n r:Nat),r≤fnz p n r∧fnz p n r≤r+n
 | 0,r=>⟨Nat.le_refl _,Nat.le_refl _⟩
 | n+1,r=>by
  unfold fnz
  cases p r with
  | true=>exact⟨Nat.le_refl _,by simp⟩
  | false=>have:=zlM p n (r+1);exact⟨by simp only [cond_false];omega,by simp only [cond_false];omega⟩
theorem znU{p:Nat→Bool}:∀{n r q:Nat},r≤q→q≤r+n→(∀i,r≤i→i<q→p i=false)→(q=r+n∨p q=true)→fnz p n r=q
 | 0,r,q,h1,h2,_,_=>by unfold fnz;omega
 | n+1,r,q,h1,h2,h3,h4=>by
  unfold fnz;by_cases e:r=q
  ·subst e;rcases h4 with h4|h4
   ·omega
   ·rw [h4];rfl
  ·rw [h3 r (Nat.le_refl _) (by omega)];exact znU (by omega) (by omega) (fun i h5 h6=>h3 i (by omega) h6) (h4.imp (fun h=>by omega) id)
theorem zqn{p:Nat→Bool}:∀{n r:Nat},fnz p n r<r+n→p (fnz p n r)=true
 | 0,r,h=>by unfold fnz at h;omega
 | n+1,r,h=>by
  unfold fnz at h ⊢
  cases e:p r with
  | true=>exact e
  | false=>
   rw [e]at h;exact zqn (by simp only [cond_false]at h;omega)
structure PS where
 P:Nat→Nat→Rat
 k:Nat
def nzP(P:Nat→Nat→Rat)(cc i:Nat):Bool:=decide (P i cc≠0)
def pRow(m cc:Nat)(s:PS):Nat:=fnz (nzP s.P cc) (m-s.k) s.k
def zei(m cc:Nat)(s:PS):PS:=if pRow m cc s=m then s else⟨zb2 (zlm s.P s.k (pRow m cc s)) s.k cc,s.k+1⟩
def pRun(m:Nat)(P0:Nat→Nat→Rat):Nat→PS
 | 0=>⟨P0,0⟩
 | c+1=>zei m c (pRun m P0 c)
theorem zed(m:Nat)(P0:Nat→Nat→Rat):∀c,(pRun m P0 c).k≤m∧(pRun m P0 c).k≤c
 | 0=>⟨Nat.zero_le _,Nat.zero_le _⟩
 | c+1=>by
  have ih:=zed m P0 c;show(zei m c (pRun m P0 c)).k≤m∧(zei m c (pRun m P0 c)).k≤c+1
  unfold zei;split
  ·omega
  ·rename_i h;have:=(zlM (nzP (pRun m P0 c).P c) (m-(pRun m P0 c).k) (pRun m P0 c).k);unfold pRow at h;refine⟨?_,Nat.succ_le_succ ih.2⟩;show(pRun m P0 c).k+1≤m
   omega
def zf4(P:Nat→Nat→Rat)(k cc i:Nat):Nat→Nat→Rat:=fun j=>if j<i then zb2 P k cc j else P j
theorem zoB(P:Nat→Nat→Rat)(k cc:Nat):zf4 P k cc 0=P:=by
 funext j
 unfold zf4;rw [if_neg (by omega)]
theorem zjh(P:Nat→Nat→Rat)(k cc i:Nat):zf4 P k cc (i+1)=fun j=>if j=i then zb2 P k cc i else zf4 P k cc i j:=by
 funext j
 unfold zf4;by_cases e:j=i
 ·subst e;rw [if_pos rfl,if_pos (by omega)]
 ·rw [if_neg e];by_cases h:j<i
  ·rw [if_pos h,if_pos (by omega)]
  ·rw [if_neg h,if_neg (by omega)]
theorem zoC(P:Nat→Nat→Rat)(k cc i:Nat):zf4 P k cc i k=P k:=by
 unfold zf4;split
 ·unfold zb2;rw [if_pos (.inl rfl)]
 ·rfl
theorem zkb(P:Nat→Nat→Rat)(k cc i:Nat):zf4 P k cc i i=P i:=by
 unfold zf4;rw [if_neg (by omega)]
theorem zji{P:Nat→Nat→Rat}{k cc i:Nat}(h:i=k∨P i cc=0):zf4 P k cc (i+1)=zf4 P k cc i:=by
 rw [zjh]
 funext j
 by_cases e:j=i
 ·subst e;rw [if_pos rfl,zkb];unfold zb2;rw [if_pos h]
 ·rw [if_neg e]
def za3(m:Nat)(P0:Nat→Nat→Rat):Nat→List Nat
 | 0 => []
 | c+1=>if pRow m c (pRun m P0 c)=m then za3 m P0 c else za3 m P0 c ++ [c]
theorem zdE(m:Nat)(P0:Nat→Nat→Rat):∀c,(za3 m P0 c).length=(pRun m P0 c).k
 | 0=>rfl
 | c+1=>by
  have ih:=zdE m P0 c;show(if pRow m c (pRun m P0 c)=m then za3 m P0 c else za3 m P0 c ++ [c]).length=(zei m c (pRun m P0 c)).k
  unfold zei;split
  ·exact ih
  ·rw [List.length_append,ih];rfl
theorem znD(m:Nat)(P0:Nat→Nat→Rat):∀c,∀x∈za3 m P0 c,x<c
 | 0,x,h=>by cases h
 | c+1,x,h=>by
  have ih:=znD m P0 c;unfold za3 at h;split at h
  ·have:=ih x h;omega
  ·rcases List.mem_append.1 h with h|h
   ·have:=ih x h;omega
   ·have:=List.mem_singleton.1 h;omega
theorem zlo(m:Nat)(P0:Nat→Nat→Rat)(c:Nat):∀d,∃t,za3 m P0 (c+d)=za3 m P0 c ++ t
 | 0=>⟨[],by simp⟩
 | d+1=>by
  obtain⟨t,ht⟩:=zlo m P0 c d;show ∃t',(if pRow m (c+d) (pRun m P0 (c+d))=m then za3 m P0 (c+d)else za3 m P0 (c+d) ++ [c+d])=_
  split
  ·exact⟨t,ht⟩
  ·exact⟨t ++ [c+d],by rw [ht,List.append_assoc]⟩
theorem zjl{m:Nat}{P0:Nat→Nat→Rat}{c n:Nat}(h:c≤n):(za3 m P0 n).take (pRun m P0 c).k=za3 m P0 c:=by
 obtain⟨t,ht⟩:=zlo m P0 c (n-c);rw [show c+(n-c)=n by omega]at ht;rw [ht,←zdE,List.take_left]
theorem zoF{m:Nat}{P0:Nat→Nat→Rat}{c n:Nat}(h:c<n)(hr:pRow m c (pRun m P0 c)<m):(za3 m P0 n).take ((pRun m P0 c).k+1)=(za3 m P0 n).take (pRun m P0 c).k ++ [c]:=by
 have h1:=zjl (m:=m) (P0:=P0) (c:=c+1) (n:=n) h;have e:(pRun m P0 (c+1)).k=(pRun m P0 c).k+1:=by
  show(zei m c (pRun m P0 c)).k=_
  unfold zei;rw [if_neg (by omega)]
 rw [e]at h1;rw [h1,zjl (by omega)];show(if pRow m c (pRun m P0 c)=m then za3 m P0 c else za3 m P0 c ++ [c])=_
 rw [if_neg (by omega)]
def zeh(P:Nat→Nat→Rat)(cs:List Nat)(i:Nat):Nat→Rat:=match cs[i]? with|some c=>fun j=>P i j/P i c|none=>P i
end Go.Num
namespace Go.Eng
open Go.RowKit
section
variable {F:Fence} {n:Nat} {P:Program}
def zgq(fn:FuncId)(tmps:Array Value)(ps:Array Tmp)(assign body:Code)(D:Nat)(st:LoopState)(pe:Option Code):Loop:={state:=st,pending:=pe,fn,tmps,params:=ps,assign,body,defers:=D}
def zgj(B:Nat)(rec:LoopState→Option Code→Loop)(W:World):Prop:=W.heap[B+1]? = some (.loop (rec .ready none))∧W.heap[B]? = some (.deferred (some []))
theorem zrc{B:Nat}{fn:FuncId}{tmps:Array Value}{ps:Array Tmp}{assign body:Code}{W:World}{xs:Array Value}{R:Ending→World→Prop}(hF:F.fn fn)(hps:xs.size=ps.size)
  (hb:zgj B (zgq fn tmps ps assign body B) W)
  (h:assign.wpIn (F.inRound (B+1)) n P (Exit.then (fun a' Wa=>zgj B (zgq fn tmps ps assign body B) Wa∧body.wpIn (F.inRound (B+1)) n P (fun e _ W3=>e = .normal∧W3.heap[B+1]? = some (.loop (zgq fn tmps ps assign body B .busy none))∧W3.heap[B]? = some (.deferred (some []))∧R (.returned (.bool true)) (W3.putObj (B+1) (.loop (zgq fn tmps ps assign body B .ready none)))) a' (Wa.putObj (B+1) (.loop (zgq fn tmps ps assign body B .busy none)))) (fun _ _ _=>False))
   {tmps:=(ps.zip xs).foldl (fun t (p,v)=>t.setIfInBounds p v) tmps,defers:=[]} W) :
  YieldAt F n P (B+1) xs W R:=by
 have hy:=run_yield (P:=P) (args:=xs) hb.1 hps;refine⟨fn,_,assign,body,hy,roundIn_of_wpIn hF (wpIn_mono h ?_)⟩;rintro e a' Wa hx
 cases e with
 | normal=>
  obtain⟨hbk,hbody⟩:=hx;refine⟨_,run_beginRound hbk.1 rfl,wpIn_mono hbody ?_⟩;rintro e3 a3 W3 ⟨rfl,h1,h2,h3⟩;have:=run_endRound (P:=P) none h1;exact⟨_,_,this,h3⟩
 | _=>exact hx.elim
theorem zre{g:Operand}{ps:Array Tmp}{assign body:Code}{Q:Exit→CAct→World→Prop}{a:CAct}{w:World}
  (hro:F.round=none) (h1:1≤n) {gf:Nat} {lb:Array Value} (hg:a.eval g = .func (.func gf) #[] lb) (hFg:F.fn gf) (eg:∀args w,(callFunc gf args).run P w = .ok (.enter gf args) w)
  (h:∀fn,F.fn fn→CallsIn F (n-1) P gf (#[.func (.yield (w.heap.size+1)) #[] #[]] ++ lb) ((w.alloc (.deferred (some []))).alloc (.loop (zgq fn a.tmps ps assign body w.heap.size .ready none))) fun e W2=>
   (∃v,e = .returned v)∧zgj w.heap.size (zgq fn a.tmps ps assign body w.heap.size) W2∧Q .normal {a with defers:={target:=.collected w.heap.size,args:=#[]} :: a.defers} (W2.putObj (w.heap.size+1) (.loop (zgq fn a.tmps ps assign body w.heap.size .exhausted none)))) :
  (Code.rangeFunc g ps assign body).wpIn F n P Q a w:=by
 refine wpIn_rangeFunc ?_;intro fn hfn;rw [hro];have h:=h fn hfn;obtain⟨W1,hW1⟩:∃W1,(w.alloc (.deferred (some []))).alloc (.loop (zgq fn a.tmps ps assign body w.heap.size .ready none))=W1:=⟨_,rfl⟩;rw [hW1]at h;refine⟨w.heap.size+1,[{target:=.collected w.heap.size,args:=#[]}],W1,{target:=.fn (.func gf) lb,args:=#[.func (.yield (w.heap.size+1)) #[] #[]]},W1,gf,
  #[.func (.yield (w.heap.size+1)) #[] #[]] ++ lb,W1,?_,?_,?_,?_,fun _=>h1,?_⟩
 ·rw [←hW1];exact run_enterLoop_outer _ _ _ _ _
 ·simp only [resolve,hg];simp [go_sem]
 ·intro f' hf';simp [Target.leads]at hf';subst hf';exact hFg
 ·simp [invoke,go_sem,eg]
 ·refine h.mono ?_;rintro e W2 ⟨⟨v,rfl⟩,hb,hq⟩;exact⟨none,_,by have:=run_endLoop (P:=P) hb.1 (by simp [zgq]);exact this,hq⟩
end
end Go.Eng
namespace Go.Num
open Go.Eng Go.Shelf Go.RowKit Go.Sort Go.Proofs Go.Proofs.YtoamcgjbelhnkaaGreatDoor
theorem zgz{q:Rat}{L:Nat}(h:zaw q L)(h0:0<L)(hL:L≤2222):zc5 q=true:=by
 rw [←zdz];unfold zbw;have h1:=zd0 h0 h.1;have h2:=zd0 h0 h.2;rw [decide_eq_true (by omega),decide_eq_true (by omega)];rfl
theorem zax.kept'{res:List TypeId}{w w':World}{v:Value}{q:Rat}(h:zax w v q)(hk:Go.Eng.Kept res w w')(he:res.contains 111=true):zax w' v q:=by
 obtain⟨vn,vd,e,h1,h2⟩:=h;exact⟨vn,vd,e,h1.kept hk he,h2.kept hk he⟩
def tab{β:Type}(m N:Nat)(A:Nat→Nat→β):List (List β):=(List.range m).map fun i=>(List.range N).map (A i)
theorem zbD{β:Type}{m N:Nat}{A:Nat→Nat→β}{i:Nat}(h:i<m):(tab m N A)[i]? = some ((List.range N).map (A i)):=by simp [tab,h]
theorem zak{β:Type}(m N:Nat)(A:Nat→Nat→β):(tab m N A).length=m:=by simp [tab]
theorem zgm{β:Type}{m N:Nat}{A:Nat→Nat→β}{l:List β}(h:l∈tab m N A):l.length=N:=by
 unfold tab at h;obtain⟨i,_,rfl⟩:=List.mem_map.1 h;simp
theorem zhv{β:Type}{m N:Nat}{A:Nat→Nat→β}{i:Nat}(a:Nat→β):(tab m N A).set i ((List.range N).map a)=tab m N fun j=>if j=i then a else A j:=by
 refine List.ext_getElem? fun k => ?_
 by_cases hk:k<m
 ·rw [zbD hk];by_cases e:k=i
  ·subst e;rw [List.getElem?_set_self (by rw [zak];exact hk),if_pos rfl]
  ·rw [List.getElem?_set_ne (Ne.symm e),zbD hk,if_neg e]
 ·rw [List.getElem?_eq_none (by rw [List.length_set,zak];omega),List.getElem?_eq_none (by rw [zak];omega)]
theorem zkX{β:Type}{m N:Nat}{A A':Nat→Nat→β}(h:∀i,i<m→A i=A' i):tab m N A=tab m N A':=by
 unfold tab;refine List.map_congr_left fun i hi => ?_
 rw [h i (List.mem_range.1 hi)]
theorem ButB.of_below{g:Nat}{w w':World}(h:Below w.heap.size w w'):ButB g w w':=⟨h.size,fun k hk _=>h.block k hk,h.os,h.tape,h.output⟩
theorem ButB.trans{g:Nat}{w w' w'':World}(h:ButB g w w')(k:ButB g w' w''):ButB g w w'':=⟨Nat.le_trans h.size k.size,fun i hi hne=>by rw [k.blk i (Nat.lt_of_lt_of_le hi h.size) hne,h.blk i hi hne],k.os.trans h.os,k.tape.trans h.tape,k.output.trans h.output⟩
theorem ButB.elem{g b:Nat}{e:TypeId}{w w':World}(h:ButB g w w')(hE:Elem w b e)(hne:b≠g):Elem w' b e:=hE.of_block (h.blk b hE.lt hne)
theorem ButB.cell{g:Nat}{w w':World}(h:ButB g w w'){p:Addr}(hp:p.block<w.heap.size)(hne:p.block≠g):w'.cell? p=w.cell? p:=World.cell?_of_block (h.blk _ hp hne)
theorem ButB.kept{g:Nat}{w w':World}{e:TypeId}(h:ButB g w w')(hE:Elem w g e)(he:rs3.contains e=false):Go.Eng.Kept rs3 w w':=fun b cs t fz q hc=>by
 rw [h.blk b (Array.getElem?_eq_some_iff.1 q).1 (fun e'=>by
  subst e';obtain⟨cs',fz',hE⟩:=hE;rw [hE]at q
  cases q
  rw [he]at hc;cases hc)]
 exact q
theorem zpX:Tryz.prog.globalNamed "internal/strconv.uint64pow10" = some 3:=by kernel_rfl
theorem zaS.but{g:Nat}{w w':World}(h:zaS w)(hb:ButB g w w')(hg:4≤g):zaS w':=by
 unfold zaS Lib.TabIs World.var? at h ⊢;rw [zpX]at h ⊢;simp only [Option.bind_some]at h ⊢;have hlt:3<w.heap.size:=by
  rcases Nat.lt_or_ge 3 w.heap.size with h'|h'
  ·exact h'
  ·rw [Array.getElem?_eq_none h']at h;cases h
 rw [hb.blk 3 hlt (by omega)];exact h
theorem zaS.two{w:World}(h:zaS w):4≤w.heap.size:=by
 unfold zaS Lib.TabIs World.var? at h;rw [zpX]at h;simp only [Option.bind_some]at h;rcases Nat.lt_or_ge 3 w.heap.size with h'|h'
 ·exact h'
 ·rw [Array.getElem?_eq_none h']at h;cases h
abbrev Inv':=Nat→World→Prop
structure PvS(base b2 g cv:Nat)(m N:Nat)(Inv:Inv')(A:Nat→Nat→Rat)(k:Nat)(w:World):Prop where
 mat:∃rvs,zan w base 64 25 3 IR (.slice (some ⟨g,0,none⟩) m cv) rvs (tab m N A)
 box:w.cell? ⟨b2,0,none⟩=some (.slice (some ⟨g,0,none⟩) m cv)
 eb:Elem w b2 116
 eg:Elem w g 64
 tab:zaS w
 two:4≤base
 inv:Inv k w
section
variable {base b2 g cv m N:Nat} {Inv:Inv'} {A A':Nat→Nat→Rat} {k:Nat} {w w':World}
theorem PvS.but(h:PvS base b2 g cv m N Inv A k w)(hb:ButB g w w')(hK:Go.Eng.Kept rs3 w w')(hp:zaS w')(hI:∀k w w',Inv k w→ButB g w w'→Elem w g 64→Inv k w')(hE:Elem w' g 64)(hm:∃rvs,zan w' base 64 25 3 IR (.slice (some ⟨g,0,none⟩) m cv) rvs (Go.Num.tab m N A')):PvS base b2 g cv m N Inv A' k w':=
 ⟨hm,(hb.cell (p:=⟨b2,0,none⟩) h.eb.lt (h.eb.ne h.eg (by decide))).trans h.box,hb.elem h.eb (h.eb.ne h.eg (by decide)),hE,hp,h.two,hI _ _ _ h.inv hb h.eg⟩
theorem PvS.gge(h:PvS base b2 g cv m N Inv A k w)(hm:0<m):4≤g:=by
 obtain⟨rvs,hm'⟩:=h.mat;have hl:rvs.length=m:=by rw [←hm'.len,zak]
 obtain⟨g',cv',e,hg,_⟩:=hm'.top.own (by omega);injection e with e;injection e with e;injection e with e;have:=h.two;omega
theorem PvS.below(h:PvS base b2 g cv m N Inv A k w)(hb:Below w.heap.size w w')(hI:∀k w w',Inv k w→ButB g w w'→Elem w g 64→Inv k w'):PvS base b2 g cv m N Inv A k w':=by
 obtain⟨rvs,hm⟩:=h.mat;exact h.but (.of_below hb) (.of_below hb) (h.tab.below hb) hI (h.eg.below hb h.eg.lt) ⟨rvs,hm.below hb (IR.below hb)⟩
theorem PvS.congr(h:PvS base b2 g cv m N Inv A k w)(e:∀i,i<m→A i=A' i):PvS base b2 g cv m N Inv A' k w:=by
 obtain⟨rvs,hm⟩:=h.mat;exact⟨⟨rvs,by rw [←zkX e];exact hm⟩,h.box,h.eb,h.eg,h.tab,h.two,h.inv⟩
theorem PvS.row(h:PvS base b2 g cv m N Inv A k w){i:Nat}(hi:i<m)(hN:0<N):∃rvs b c,zan w base 64 25 3 IR (.slice (some ⟨g,0,none⟩) m cv) rvs (Go.Num.tab m N A)∧rvs.length=m∧rvs[i]? = some (.slice (some ⟨b,0,none⟩) N c)∧w.cell? ((⟨g,0,none⟩:Addr).add (i*1))=some (.slice (some ⟨b,0,none⟩) N c) ∧
  OwnR w base 25 3 IR (.slice (some ⟨b,0,none⟩) N c) (rowF (A i) N):=by
 obtain⟨rvs,hm⟩:=h.mat;have hl:rvs.length=m:=by rw [←hm.len,zak]
 obtain⟨u,hu⟩:∃u,rvs[i]? = some u:=⟨_,List.getElem?_eq_getElem (by omega)⟩;have hr:=hm.row i u _ hu (zbD hi);obtain⟨b,c,e,_⟩:=hr.own (by simp;exact hN);simp only [List.length_map,List.length_range]at e;subst e;obtain⟨g',cap,e,_,_,hc⟩:=hm.cell hu;injection e with e e2 e3;injection e with e;injection e with e;subst e;exact⟨rvs,b,c,hm,hl,hu,hc,hr⟩
theorem PvS.item(h:PvS base b2 g cv m N Inv A k w){i j:Nat}(hi:i<m)(hj:j<N)(hN9:N≤1000):∃ra rc sg o1 k1 c1 o2 k2 c2,w.cell? ⟨g,i,none⟩=some (.slice (some ra) N rc) ∧
  w.cell? (ra.add (j*3))=some (.bool sg)∧w.cell? ⟨(ra.add (j*3)).block,(ra.add (j*3)).off+1,none⟩=some (.slice o1 k1 c1)∧w.cell? ⟨(ra.add (j*3)).block,(ra.add (j*3)).off+2,none⟩=some (.slice o2 k2 c2)∧zax w (.agg #[.bool sg,.slice o1 k1 c1,.slice o2 k2 c2]) (A i j):=by
 obtain⟨rvs,b,c,hm,hl,hu,hc,hr⟩:=h.row hi (by omega);have hR:RowR w (.slice (some ⟨b,0,none⟩) N c) (rowF (A i) N):=hr.row (by rw [zao];omega);obtain⟨_,sg,o1,k1,c1,o2,k2,c2,x0,x1,x2,hra⟩:=zag.item hR (zdS (a:=A i) hj);rw [Nat.mul_one,Addr.add_lit,Nat.zero_add]at hc;exact⟨_,c,sg,o1,k1,c1,o2,k2,c2,hc,x0,x1,x2,hra⟩
theorem PvS.set(h:PvS base b2 g cv m N Inv A k w)(hN:0<N){i:Nat}(hi:i<m){u:Value}{a:Nat→Rat}(hu:OwnR w base 25 3 IR u (rowF a N))(hf:∀rvs,zan w base 64 25 3 IR (.slice (some ⟨g,0,none⟩) m cv) rvs (Go.Num.tab m N A)→∀(j:Nat) (u':Value),rvs[j]? = some u'→j≠i→u.ownBlock≠u'.ownBlock)(hI:∀k w w',Inv k w→ButB g w w'→Elem w g 64→Inv k w') :
  PvS base b2 g cv m N Inv (fun j=>if j=i then a else A j) k (w.setCells g (i*1) [u])∧w.there g (i*1) 1:=by
 obtain⟨rvs,hm⟩:=h.mat;have hl:rvs.length=m:=by rw [←hm.len,zak]
 have hbut:=zah g [u] (i*1) w;have hK:=hbut.kept h.eg rfl;obtain⟨h1,h2⟩:=hm.setRow (by decide) (by rw [hl]) (by omega) hu (by rw [zao];exact hN) (hf rvs hm) (fun _ _ q=>zax.kept q hK);have hE:Elem (w.setCells g (i*1) [u]) g 64:=by
  obtain⟨g',cv',e,_,_,cur,hc⟩:=hm.top.own (by omega);injection e with e;injection e with e;injection e with e;subst e;exact⟨_,_,zcl _ _ _ _ hc⟩
 have e1:=zhv (m:=m) (N:=N) (A:=A) (i:=i) a;rw [show(Go.Num.tab m N A).set i (rowF a N)=_ from e1]at h1;exact⟨h.but hbut hK (h.tab.but hbut (h.gge (by omega))) hI hE ⟨_,h1⟩,h2⟩
theorem PvS.both(h:PvS base b2 g cv m N Inv A k w)(hN:0<N){i r:Nat}(hi:i<m)(hr:r<m)(hir:i≠r){ur u:Value}{a:Nat→Rat}(hur:∀rvs,zan w base 64 25 3 IR (.slice (some ⟨g,0,none⟩) m cv) rvs (Go.Num.tab m N A)→rvs[r]? = some ur)(hu:OwnR w base 25 3 IR u (rowF a N))(hf:∀rvs,zan w base 64 25 3 IR (.slice (some ⟨g,0,none⟩) m cv) rvs (Go.Num.tab m N A)→∀(j:Nat) (u':Value),rvs[j]? = some u'→j≠i→u.ownBlock≠u'.ownBlock)(hI:∀k w w',Inv k w→ButB g w w'→Elem w g 64→Inv k w') :
  PvS base b2 g cv m N Inv (fun j=>if j=r then a else if j=i then A r else A j) k ((w.setCells g (i*1) [ur]).setCells g (r*1) [u])∧w.there g (i*1) 1∧(w.setCells g (i*1) [ur]).there g (r*1) 1:=by
 obtain⟨rvs,hm⟩:=h.mat;have hl:rvs.length=m:=by rw [←hm.len,zak]
 have hbut:=(zah g [ur] (i*1) w).trans (zah g [u] (r*1) _);have hK:=hbut.kept h.eg rfl;obtain⟨h1,h2,h3⟩:=hm.two (by decide) (by rw [hl]) (by omega) (hur rvs hm) (zbD hr) hir hu (by rw [zao];exact hN) (hf rvs hm) (fun _ _ q=>zax.kept q hK);have hE:Elem ((w.setCells g (i*1) [ur]).setCells g (r*1) [u]) g 64:=by
  obtain⟨g',cv',e,_,_,cur,hc⟩:=hm.top.own (by omega);injection e with e;injection e with e;injection e with e;subst e;exact⟨_,_,zcl _ _ _ _ (zcl _ _ _ _ hc)⟩
 have e1:=zhv (m:=m) (N:=N) (A:=A) (i:=i) (A r);have e2:=zhv (m:=m) (N:=N) (A:=fun j=>if j=i then A r else A j) (i:=r) a;rw [show((Go.Num.tab m N A).set i ((List.range N).map (A r))).set r (rowF a N)=_ from(congrArg (fun t=>t.set r ((List.range N).map a)) e1).trans e2]at h1;exact⟨h.but hbut hK (h.tab.but hbut (h.gge (by omega))) hI hE ⟨_,h1⟩,h2,h3⟩
theorem zkc{w:World}{rvs:List Value}{A:Nat→Nat→Rat}(h:zan w base 64 25 3 IR (.slice (some ⟨g,0,none⟩) m cv) rvs (Go.Num.tab m N A)){i:Nat}{u:Value}(hi:i<m)(hc:w.cell? ((⟨g,0,none⟩:Addr).add (i*1))=some u):rvs[i]? = some u:=by
 have hl:rvs.length=m:=by rw [←h.len,zak]
 obtain⟨u',hu'⟩:∃u',rvs[i]? = some u':=⟨_,List.getElem?_eq_getElem (by omega)⟩;obtain⟨g',cap,e,_,_,hc'⟩:=h.cell hu';injection e with e;injection e with e;injection e with e;subst e;rw [hc]at hc';rw [hu',hc']
theorem PvS.old(h:PvS base b2 g cv m N Inv A k w)(hb:Below w.heap.size w w')(hN:0<N):∀rvs,zan w' base 64 25 3 IR (.slice (some ⟨g,0,none⟩) m cv) rvs (Go.Num.tab m N A')→∀(j:Nat) (u':Value),rvs[j]? = some u'→∀b,u'.ownBlock=some b→b<w.heap.size:=by
 intro rvs hm j u' hj b hub;have hjm:j<m:=by
  have:=(List.getElem?_eq_some_iff.1 hj).1;rw [←hm.len,zak]at this;exact this
 obtain⟨rvs0,b0,c0,_,_,_,hc,hr⟩:=h.row hjm hN;have hc':w'.cell? ((⟨g,0,none⟩:Addr).add (j*1))=some (.slice (some ⟨b0,0,none⟩) N c0):=by
  rw [hb.cell (by rw [zac];exact h.eg.lt)];exact hc
 have:=zkc hm hjm hc';rw [hj]at this
 cases this
 obtain⟨g',c',e,_,hlt,_⟩:=hr.own (by rw [zao];exact hN);injection e with e;injection e with e;injection e with e
 cases hub
 rw [e];exact hlt
theorem PvS.le(h:PvS base b2 g cv m N Inv A k w)(hm:0<m):base≤w.heap.size:=by
 obtain⟨rvs,hm'⟩:=h.mat;have hl:rvs.length=m:=by rw [←hm'.len,zak]
 obtain⟨g',cv',e,hg,hlt,_⟩:=hm'.top.own (by omega);omega
theorem PvS.put(h:PvS base b2 g cv m N Inv A k w)(hb:Below w.heap.size w w')(hN:0<N){i:Nat}(hi:i<m){u:Value}{a:Nat→Rat}(hu:OwnR w' w.heap.size 25 3 IR u (rowF a N))(hI:∀k w w',Inv k w→ButB g w w'→Elem w g 64→Inv k w') :
  PvS base b2 g cv m N Inv (fun j=>if j=i then a else A j) k (w'.setCells g (i*1) [u])∧w'.there g (i*1) 1:=by
 refine(h.below hb hI).set hN hi (hu.base (h.le (by omega))) (fun rvs hm j u' hj hji e => ?_) hI;obtain⟨b5,c5,e5,h5,_⟩:=hu.own (by rw [zao];exact hN);have:=h.old hb hN rvs hm j u' hj b5 (by rw [←e,e5];rfl);omega
theorem PvS.turn(h:PvS base b2 g cv m N Inv A k w)(hb:Below w.heap.size w w')(hN:0<N){i r:Nat}(hi:i<m)(hr:r<m)(hir:i≠r){ur u:Value}{a:Nat→Rat}(hur:w.cell? ((⟨g,0,none⟩:Addr).add (r*1))=some ur)(hu:OwnR w' w.heap.size 25 3 IR u (rowF a N))(hI:∀k w w',Inv k w→ButB g w w'→Elem w g 64→Inv k w') :
  PvS base b2 g cv m N Inv (fun j=>if j=r then a else if j=i then A r else A j) k ((w'.setCells g (i*1) [ur]).setCells g (r*1) [u])∧w'.there g (i*1) 1∧(w'.setCells g (i*1) [ur]).there g (r*1) 1:=by
 refine(h.below hb hI).both hN hi hr hir (fun rvs hm=>zkc hm hr ((hb.cell (by rw [zac];exact h.eg.lt)).trans hur)) (hu.base (h.le (by omega))) (fun rvs hm j u' hj hji e => ?_) hI;obtain⟨b5,c5,e5,h5,_⟩:=hu.own (by rw [zao];exact hN);have:=h.old hb hN rvs hm j u' hj b5 (by rw [←e,e5];rfl);omega
end
def FrX(X:Nat→TypeId→Prop)(w w':World):Prop:=w.heap.size≤w'.heap.size∧∀(b:Nat) (cs:Array Value) (e:TypeId) (fz:Nat × Nat),w.heap[b]? = some (.cells cs e fz)→¬X b e→w'.heap[b]? = some (.cells cs e fz)
theorem zaS.frx{X:Nat→TypeId→Prop}{w w':World}(h:zaS w)(hF:FrX X w w')(hX:∀e,¬X 3 e):zaS w':=by
 unfold zaS Lib.TabIs World.var? at h ⊢;rw [zpX]at h ⊢;simp only [Option.bind_some]at h ⊢
 cases hc:w.heap[3]? with
 | none=>rw [hc]at h;cases h
 | some o=>
  cases o with
  | cells cs e fz=>rw [hF.2 3 cs e fz hc (hX e)];rw [hc]at h;exact h
  | _=>rw [hc]at h;cases h
theorem PvS.frx{base b2 g cv m N:Nat}{Inv:Inv'}{A:Nat→Nat→Rat}{k k':Nat}{w w':World}{X:Nat→TypeId→Prop}(h:PvS base b2 g cv m N Inv A k w)(hm:0<m)(hF:FrX X w w')(hX:∀b e,base≤b→(e=25∨e=64∨e=116)→¬X b e)(hX1:∀b,¬X b 111)(hXp:∀e,¬X 3 e)(hb2:base≤b2)(hI:Inv k' w'):PvS base b2 g cv m N Inv A k' w':=by
 obtain⟨rvs,hmat⟩:=h.mat;have hl:rvs.length=m:=by rw [←hmat.len,zak]
 have hK:Go.Eng.Kept [111] w w':=fun b cs e fz q hc=>hF.2 b cs e fz q (by
  have:e=111:=by simpa using hc
  rw [this];exact hX1 b)
 obtain⟨cs2,fz2,he2⟩:=h.eb;have he2':=hF.2 b2 cs2 116 fz2 he2 (hX b2 116 hb2 (.inr (.inr rfl)));obtain⟨g',cv',e,hg,_,cur,hc⟩:=hmat.top.own (by omega);injection e with e;injection e with e;injection e with e;subst e;refine⟨⟨rvs,hmat.keep (fun b cs e hb he hc => ?_) (fun _ _ q=>zax.kept' q hK rfl)⟩,?_,⟨cs2,fz2,he2'⟩,⟨_,_,hF.2 g cur 64 (0,0) hc (hX g 64 hg (.inr (.inl rfl)))⟩,h.tab.frx hF hXp,h.two,hI⟩
 ·rw [hF.2 b cs e (0,0) hc (hX b e hb (by rcases he with rfl|rfl <;> simp)),hc]
 ·exact(World.cell?_of_block (a:=⟨b2,0,none⟩) (by show w'.heap[b2]? = w.heap[b2]?;rw [he2',he2])).trans h.box
theorem zgA:zgi Tryz.prog 116 1:=zdg (e:=64) (inf:=Tryz.t64) (by kernel_rfl) (by kernel_rfl) (by kernel_rfl)
theorem zmB:zbW Tryz.prog 116:=za9 (by kernel_rfl)
theorem lo64:zbW Tryz.prog 64:=za9 (by kernel_rfl)
theorem zcf{t:TypeId}{w:World}{g o:Nat}{v:Value}(hi:(Tryz.prog.info? t).map (·.size)=some 1)(hv:v.cells=#[v])(h1:v.oneCell'=true)(ht:w.there g o 1):(Instr.storeAt t (.pointer (some ((⟨g,0,none⟩:Addr).add o))) v).run Tryz.prog w = .ok () (w.setCells g o [v]):=by
 rw [Addr.add_lit,Nat.zero_add];have:=run_storeCells_cells (P:=Tryz.prog) g o [v] 0 w (fun j hj=>by simpa using (ht j (by simpa using hj)).1) (fun j hj=>by simpa using (ht j (by simpa using hj)).2) (fun u hu=>by rw [List.mem_singleton.1 hu];exact h1)
 cases hq:Tryz.prog.info? t with
 | none=>simp [hq]at hi
 | some i=>
  have hs:i.size=1:=by simpa [hq]using hi
  simp only [Nat.add_zero]at this;simp [Instr.storeAt,Instr.sureAddr,storeVar,sizeOf,typeInfo,hq,hv,hs,this]
theorem zmi{w:World}{g o:Nat}{v:Value}(hv:v.cells=#[v])(h1:v.oneCell'=true)(ht:w.there g o 1):(Instr.storeAt 64 (.pointer (some ((⟨g,0,none⟩:Addr).add o))) v).run Tryz.prog w = .ok () (w.setCells g o [v]):=zcf (by kernel_rfl) hv h1 ht
theorem BoxL.but{w w':World}{g b:Nat}{xs:List Value}(h:BoxL w b xs)(hb:ButB g w w')(hne:b≠g):BoxL w' b xs:=⟨Nat.lt_of_lt_of_le h.1 hb.size,fun j v hj=>(hb.cell (p:=⟨b,j,none⟩) h.1 hne).trans (h.2 j v hj)⟩
theorem zrb(a:Nat→Rat)(n:Nat):((rowF a n).map fun q => -q)=rowF (fun c => -(a c)) n:=by simp [rowF,Function.comp_def]
end Go.Num
