/-
  Determinants, in plain words: the product of the pivots is multiplied in a product; the way back of rows; how many solutions. Ranks and dete
  Conditions: see each statement.
-/
import Derived.Test.YtoamcgjbelhnkaaGreatDoorPAW
import Derived.Test.YtoamcgjbelhnkaaGreatDoorPAA
import Derived.Test.YtoamcgjbelhnkaaGreatDoorPAY
set_option maxRecDepth 100000
set_option maxHeartbeats 8000000
namespace Go.Num
def zgg(P:Nat→Nat→Rat)(i k:Nat)(t:Rat):Nat→Nat→Rat:=fun r=>if r=i then fun j=>P i j+t*P k j else P r
inductive Ops(m:Nat)(P:Nat→Nat→Rat):(Nat→Nat→Rat)→Prop
 | refl:Ops m P P
 | step {R:Nat→Nat→Rat} (h:Ops m P R) (i k:Nat) (t:Rat) (hi:i<m) (hk:k<m) (hn:i≠k):Ops m P (zgg R i k t)
 | eq {R S:Nat→Nat→Rat} (h:Ops m P R) (e:∀i,i<m→∀j,R i j=S i j):Ops m P S
section
variable {m:Nat} {P R S:Nat→Nat→Rat}
theorem Ops.trans(h:Ops m P R)(k:Ops m R S):Ops m P S:=by
 induction k with
 | refl=>exact h
 | step _ i k t hi hk hn ih=>exact ih.step i k t hi hk hn
 | eq _ e ih=>exact ih.eq e
theorem zbw(P:Nat→Nat→Rat)(i k:Nat)(t:Rat):zgg P i k t i=fun j=>P i j+t*P k j:=by unfold zgg;rw [if_pos rfl]
theorem za6(P:Nat→Nat→Rat){i k r:Nat}(t:Rat)(h:r≠i):zgg P i k t r=P r:=by unfold zgg;rw [if_neg h]
theorem Ops.symm(h:Ops m P R):Ops m R P:=by
 induction h with
 | refl=>exact .refl
 | @step R _ i k t hi hk hn ih=>
  refine Ops.trans ?_ ih;refine((Ops.refl (P:=zgg R i k t)).step i k (-t) hi hk hn).eq fun r _ j => ?_
  by_cases e:r=i
  ·subst e;rw [zbw,zbw,za6 R t (Ne.symm hn)];grind
  ·rw [za6 _ _ e,za6 _ _ e]
 | @eq R S _ e ih=>exact((Ops.refl (P:=S)).eq fun i hi j=>(e i hi j).symm).trans ih
theorem zry{k r:Nat}(hk:k<m)(hr:r<m):Ops m P (zfq P k r):=by
 by_cases e:k=r
 ·refine Ops.refl.eq fun i _ j => ?_
  unfold zfq;rw [if_pos e]
 ·refine(((Ops.refl.step k r 1 hk hr e).step r k (-1) hr hk (Ne.symm e)).step k r 1 hk hr e).eq fun i _ j => ?_
  unfold zfq;rw [if_neg e];by_cases h1:i=k
  ·subst h1;rw [if_pos rfl,zbw,zbw,za6 _ _ e,zbw,za6 _ _ (Ne.symm e)];grind
  ·rw [if_neg h1,za6 _ _ h1];by_cases h2:i=r
   ·subst h2;rw [if_pos rfl,zbw,zbw,za6 _ _ h1];grind
   ·rw [if_neg h2,za6 _ _ h2,za6 _ _ h1]
theorem znX{k cc:Nat}(hk:k<m):∀i,i≤m→Ops m P (zen P k cc i)
 | 0,_=>by rw [zjw];exact .refl
 | i+1,hi=>by
  have ih:=znX (cc:=cc) hk i (by omega);by_cases h:i=k∨P i cc=0
  ·rw [zgw h];exact ih
  ·refine(ih.step i k (-(P i cc/P k cc)) (by omega) hk (fun e=>h (.inl e))).eq fun r _ j => ?_
   rw [zgv];by_cases e:r=i
   ·subst e;rw [zbw,zhj,zjx];show _=(if r=r then zaG P k cc r else zen P k cc r r) j
    rw [if_pos rfl];unfold zaG;rw [if_neg h];grind
   ·rw [za6 _ _ e];show _=(if r=i then zaG P k cc i else zen P k cc i r) j
    rw [if_neg e]
theorem zrz{k cc:Nat}(hk:k<m):Ops m P (zaG P k cc):=(znX hk m (Nat.le_refl m)).eq fun i hi j=>by
 unfold zen;rw [if_pos hi]
theorem zqd(m cc:Nat)(s:PS)(hk:s.k≤m):s.k≤pRow m cc s∧pRow m cc s≤m:=by
 have:=zlQ (nzP s.P cc) (m-s.k) s.k;unfold pRow;omega
theorem zgx(Q:Nat→Nat→Rat):∀c,Ops m Q (pRun m Q c).P
 | 0 => .refl
 | c+1=>by
  have ih:=zgx Q c;have hk:=(zdG m Q c).1;show Ops m Q (zdm m c (pRun m Q c)).P
  unfold zdm;split
  ·exact ih
  ·rename_i h;have:=zqd m c (pRun m Q c) hk;exact(ih.trans (zry (by omega) (by omega))).trans (zrz (by omega))
end
def Comb(m:Nat)(P R:Nat→Nat→Rat):Prop:=∃A:Nat→Nat→Rat,∀i,i<m→∀j,R i j=sumQ (fun l=>A i l*P l j) m
theorem zhE{f:Nat→Rat}{i m:Nat}(hi:i<m):sumQ (fun l=>(if l=i then 1 else 0)*f l) m=f i:=by
 rw [ze0 hi]
 ·rw [if_pos rfl];grind
 ·intro l _ hl;rw [if_neg hl];grind
theorem Comb.refl(m:Nat)(P:Nat→Nat→Rat):Comb m P P:=⟨fun i l=>if l=i then 1 else 0,fun i hi j=>(zhE (f:=fun l=>P l j) hi).symm⟩
theorem zpN(c:Rat)(f:Nat→Rat)(n:Nat):sumQ (fun i=>f i*c) n=sumQ f n*c:=by
 rw [zak (g:=fun i=>c*f i) (fun i _=>by grind),zce];grind
theorem zka(a:Nat→Rat)(F:Nat→Nat→Rat)(g:Nat→Rat)(m r:Nat):sumQ (fun l=>a l*sumQ (fun s=>F l s*g s) r) m=sumQ (fun s=>sumQ (fun l=>a l*F l s) m*g s) r:=by
 rw [zak (g:=fun l=>sumQ (fun s=>a l*F l s*g s) r) (fun l _=>by rw [←zce];exact zak fun s _=>by grind),zhF];exact zak fun s _=>zpN _ _ _
theorem Comb.trans{m:Nat}{P R S:Nat→Nat→Rat}(h:Comb m P R)(k:Comb m R S):Comb m P S:=by
 obtain⟨A,hA⟩:=h;obtain⟨C,hC⟩:=k;refine⟨fun i s=>sumQ (fun l=>C i l*A l s) m,fun i hi j => ?_⟩;rw [hC i hi j,zak (g:=fun l=>C i l*sumQ (fun s=>A l s*P s j) m) (fun l hl=>by rw [hA l hl j]),zka]
theorem Ops.comb{m:Nat}{P R:Nat→Nat→Rat}(h:Ops m P R):Comb m P R:=by
 induction h with
 | refl=>exact Comb.refl m P
 | @step R _ i k t hi hk hn ih=>
  refine ih.trans ⟨fun r l=>(if l=r then 1 else 0)+(if r=i then t else 0)*(if l=k then 1 else 0),fun r hr j => ?_⟩;rw [zak (g:=fun l=>(if l=r then 1 else 0)*R l j+(if r=i then t else 0)*((if l=k then 1 else 0)*R l j)) (fun l _=>by grind),ze1,zce,zhE (f:=fun l=>R l j) hr,zhE (f:=fun l=>R l j) hk];by_cases e:r=i
  ·subst e;rw [zbw,if_pos rfl]
  ·rw [za6 _ _ e,if_neg e];grind
 | @eq R S _ e ih=>
  obtain⟨A,hA⟩:=ih;exact⟨A,fun i hi j=>by rw [←e i hi j];exact hA i hi j⟩
def mulM(n:Nat)(X Y:Nat→Nat→Rat):Nat→Nat→Rat:=fun i j=>sumQ (fun s=>X i s*Y s j) n
theorem Ops.mul{m n:Nat}{P R:Nat→Nat→Rat}(Y:Nat→Nat→Rat)(h:Ops m P R):Ops m (mulM n P Y) (mulM n R Y):=by
 induction h with
 | refl=>exact .refl
 | @step R _ i k t hi hk hn ih=>
  refine(ih.step i k t hi hk hn).eq fun r _ j => ?_
  by_cases e:r=i
  ·subst e;rw [zbw];show sumQ (fun s=>R r s*Y s j) n+t*sumQ (fun s=>R k s*Y s j) n=sumQ (fun s=>zgg R r k t r s*Y s j) n
   rw [zbw,←zce,←ze1];exact zak fun s _=>by grind
  ·rw [za6 _ _ e];show sumQ (fun s=>R r s*Y s j) n=sumQ (fun s=>zgg R i k t r s*Y s j) n
   rw [za6 _ _ e]
 | @eq R S _ e ih=>exact ih.eq fun i hi j=>zak fun s _=>by rw [e i hi s]
structure Piv(m c:Nat)(s:PS)(cs:List Nat)(ps:List Rat):Prop where
 hk:s.k≤m
 len:cs.length=s.k
 plen:ps.length=s.k
 up:cs.Pairwise (· < ·)
 lt:∀x∈cs,x<c
 piv:∀i x,cs[i]? = some x→s.P i x≠0∧ps[i]? = some (s.P i x)
 zero:∀i,i<m→∀l x,cs[l]? = some x→i≠l→s.P i x=0
 below:∀x,x<c→∀i,s.k≤i→i<m→s.P i x=0
theorem zpS{α:Type}{l:List α}{a x:α}{i:Nat}(h:(l ++ [a])[i]? = some x):l[i]? = some x∨i=l.length∧x=a:=by
 rcases Nat.lt_or_ge i l.length with hi|hi
 ·rw [List.getElem?_append_left hi]at h;exact .inl h
 ·rw [List.getElem?_append_right hi]at h;match hq:i-l.length,h with
  | 0,h=>simp at h;exact .inr ⟨by omega,h.symm⟩
theorem zdd(m:Nat)(Q:Nat→Nat→Rat):∀c,Piv m c (pRun m Q c) (zay m Q c) (zbc m Q c)
 | 0=>⟨Nat.zero_le _,rfl,rfl,List.Pairwise.nil,fun x h=>(by cases h),fun i x h=>absurd h (by simp [zay]),fun i _ l x h=>absurd h (by simp [zay]),fun x h=>absurd h (by omega)⟩
 | c+1=>by
  have ih:=zdd m Q c;have hr:=zqd m c (pRun m Q c) ih.hk;show Piv m (c+1) (zdm m c (pRun m Q c)) (if pRow m c (pRun m Q c)=m then zay m Q c else zay m Q c ++ [c]) (if pRow m c (pRun m Q c)=m then zbc m Q c else zbc m Q c ++ [(pRun m Q c).P (pRow m c (pRun m Q c)) c])
  generalize hs:pRun m Q c=s at ih hr ⊢
  generalize hcs:zay m Q c=cs at ih ⊢
  generalize hps:zbc m Q c=ps at ih ⊢
  generalize hrr:pRow m c s=r at hr ⊢
  unfold zdm;rw [hrr];by_cases e:r=m
  ·rw [if_pos e,if_pos e,if_pos e];refine⟨ih.hk,ih.len,ih.plen,ih.up,fun x h=>Nat.lt_succ_of_lt (ih.lt x h),ih.piv,ih.zero,fun x hx i h1 h2 => ?_⟩;by_cases hx2:x<c
   ·exact ih.below x hx2 i h1 h2
   ·obtain rfl:x=c:=by omega
    cases hz:nzP s.P x i with
    | false=>exact Decidable.not_not.1 (of_decide_eq_false hz)
    | true=>
     exfalso;have h3:∀(n q:Nat),fnz (nzP s.P x) n q=q+n→∀i,q≤i→i<q+n→nzP s.P x i=false:=by
      intro n;induction n with
      | zero=>intro q _ i h1 h2;omega
      | succ n ihn=>
       intro q hq i h1 h2;unfold fnz at hq
       cases hp:nzP s.P x q with
       | true=>rw [hp]at hq;simp only [cond_true]at hq;omega
       | false=>
        rw [hp]at hq;simp only [cond_false]at hq;by_cases e2:i=q
        ·subst e2;exact hp
        ·exact ihn (q+1) (by omega) i (by omega) (by omega)
     have:=h3 (m-s.k) s.k (by have:fnz (nzP s.P x) (m-s.k) s.k=r:=hrr;omega) i h1 (by omega);rw [hz]at this;cases this
  ·rw [if_neg e,if_neg e,if_neg e];have hne:s.P r c≠0:=by
    have:nzP s.P c (fnz (nzP s.P c) (m-s.k) s.k)=true:=zm2 (by have:fnz (nzP s.P c) (m-s.k) s.k=r:=hrr;omega);rw [show fnz (nzP s.P c) (m-s.k) s.k=r from hrr]at this;exact of_decide_eq_true this
   generalize hP1:zfq s.P s.k r=P1
   have r1:P1 s.k=s.P r:=by
    rw [←hP1];unfold zfq;by_cases e2:s.k=r
    ·rw [if_pos e2,e2]
    ·rw [if_neg e2,if_pos rfl]
   have lo:∀i,i<s.k→P1 i=s.P i:=fun i hi=>by
    rw [←hP1];unfold zfq;by_cases e2:s.k=r
    ·rw [if_pos e2]
    ·rw [if_neg e2,if_neg (by omega),if_neg (by omega)]
   have hb:∀x,x<c→∀i,s.k≤i→i<m→P1 i x=0:=fun x hx i h1 h2=>by
    rw [←hP1];unfold zfq;by_cases e2:s.k=r
    ·rw [if_pos e2];exact ih.below x hx i h1 h2
    ·rw [if_neg e2];split
     ·exact ih.below x hx r (by omega) (by omega)
     ·split
      ·show -s.P s.k x=0
       rw [ih.below x hx s.k (Nat.le_refl _) (by omega)];rfl
      ·exact ih.below x hx i h1 h2
   have hz1:∀i,i<m→∀l x,cs[l]? = some x→i≠l→P1 i x=0:=fun i hi l x hl hil=>by
    by_cases h1:i<s.k
    ·rw [lo i h1];exact ih.zero i hi l x hl hil
    ·exact hb x (ih.lt x (List.mem_of_getElem? hl)) i (by omega) hi
   have old:∀i x,x<c→zaG P1 s.k c i x=P1 i x:=fun i x hx=>by
    unfold zaG;split
    ·rfl
    ·show P1 i x + -(P1 i c/P1 s.k c*P1 s.k x)=P1 i x
     rw [hb x hx s.k (Nat.le_refl _) (by omega)];grind
   have new:∀i,i≠s.k→zaG P1 s.k c i c=0:=fun i hi=>by
    unfold zaG;split
    ·rename_i h;rcases h with h|h
     ·exact absurd h hi
     ·exact h
    ·show P1 i c + -(P1 i c/P1 s.k c*P1 s.k c)=0
     have:P1 s.k c≠0:=by rw [r1];exact hne
     grind
   have self:zaG P1 s.k c s.k=P1 s.k:=by
    unfold zaG;rw [if_pos (.inl rfl)]
   refine⟨show s.k+1≤m by omega,?_,?_,?_,?_,?_,?_,?_⟩
   ·rw [List.length_append,ih.len];rfl
   ·rw [List.length_append,ih.plen];rfl
   ·rw [List.pairwise_append];exact⟨ih.up,List.pairwise_singleton _ _,fun x hx y hy=>by rw [List.mem_singleton.1 hy];exact ih.lt x hx⟩
   ·intro x hx;rcases List.mem_append.1 hx with hx|hx
    ·have:=ih.lt x hx;omega
    ·have:=List.mem_singleton.1 hx;omega
   ·intro i x h;rcases zpS h with h|⟨rfl,rfl⟩
    ·have hi:i<s.k:=by rw [←ih.len];exact(List.getElem?_eq_some_iff.1 h).1
     have hx:=ih.lt x (List.mem_of_getElem? h);show zaG P1 s.k c i x≠0∧_=some (zaG P1 s.k c i x)
     rw [old i x hx,lo i hi,List.getElem?_append_left (by rw [ih.plen];exact hi)];exact ih.piv i x h
    ·rw [ih.len];show zaG P1 s.k x s.k x≠0∧_=some (zaG P1 s.k x s.k x)
     rw [self,r1,←ih.plen,List.getElem?_concat_length];exact⟨hne,rfl⟩
   ·intro i hi l x h hil;show zaG P1 s.k c i x=0
    rcases zpS h with h|⟨rfl,rfl⟩
    ·rw [old i x (ih.lt x (List.mem_of_getElem? h))];exact hz1 i hi l x h hil
    ·exact new i (by rw [ih.len]at hil;exact hil)
   ·intro x hx i h1 h2;replace h1:s.k+1≤i:=h1;show zaG P1 s.k c i x=0
    by_cases hx2:x<c
    ·rw [old i x hx2];exact hb x hx2 i (by omega) h2
    ·obtain rfl:x=c:=by omega
     exact new i (by omega)
def Fac(m n r:Nat)(Q:Nat→Nat→Rat):Prop:=∃A C:Nat→Nat→Rat,∀i,i<m→∀j,j<n→Q i j=sumQ (fun l=>A i l*C l j) r
theorem zkb(f:Nat→Rat)(s:Nat)(x:Rat):∀{n:Nat},s<n→sumQ (fun i=>if i=s then x else f i) n=sumQ f n+(x-f s)
 | n+1,h=>by
  show sumQ (fun i=>if i=s then x else f i) n+(if n=s then x else f n)=sumQ f n+f n+(x-f s)
  by_cases e:s=n
  ·subst e;rw [if_pos rfl,zak (g:=f) fun i hi=>if_neg (by omega)];grind
  ·rw [if_neg (Ne.symm e),zkb f s x (n:=n) (by omega)];grind
theorem zny{f:Nat→Rat}{k:Nat}:∀{m:Nat},k≤m→(∀i,k≤i→i<m→f i=0)→sumQ f m=sumQ f k
 | 0,h,_=>by rw [show k=0 by omega]
 | m+1,h,h0=>by
  by_cases e:k=m+1
  ·rw [e]
  ·show sumQ f m+f m=_
   rw [zny (m:=m) (by omega) fun i h1 h2=>h0 i h1 (by omega),h0 m (by omega) (by omega)];grind
theorem zoJ{f:Nat→Rat}{r s:Nat}(hs:s≤r):sumQ (fun i=>f (zaY r s i)) (r+1)=sumQ f (r+1):=by
 by_cases e:s=r
 ·subst e;refine zak fun i _ => ?_
  unfold zaY;split
  ·rename_i h;rw [h]
  ·rfl
 ·show sumQ (fun i=>f (zaY r s i)) r+f (zaY r s r)=sumQ f r+f r
  rw [zak (g:=fun i=>if i=s then f r else f i) (fun i hi=>by unfold zaY;rw [if_neg (by omega)];split <;> rfl),zkb f s (f r) (by omega)];have:zaY r s r=s:=by unfold zaY;rw [if_pos rfl]
  rw [this];grind
theorem zqJ:∀(r k:Nat) (G H:Nat→Nat→Rat) (d:Nat→Rat),(∀i,i<k→d i≠0)→(∀i j,i<k→j<k→sumQ (fun s=>G i s*H s j) r=if i=j then d i else 0)→k≤r
 | 0,k,G,H,d,hd,h=>by
  rcases Nat.eq_zero_or_pos k with e|e
  ·omega
  ·have:=h 0 0 e e;rw [if_pos rfl]at this;exact absurd this.symm (hd 0 e)
 | r+1,0,_,_,_,_,_=>Nat.zero_le _
 | r+1,k+1,G,H,d,hd,h=>by
  refine Nat.succ_le_succ ?_;have hk:=h k k (Nat.lt_succ_self k) (Nat.lt_succ_self k);rw [if_pos rfl]at hk;obtain⟨s,hs,hne⟩:∃s,s<r+1∧G k s≠0:=by
   apply Classical.byContradiction
   intro hno;refine hd k (Nat.lt_succ_self k) ?_;rw [←hk,zak (g:=fun _=>0) (fun s hs => ?_),zcF];have:G k s=0:=Classical.byContradiction fun q=>hno ⟨s,hs,q⟩
   rw [this];grind
  obtain⟨G1,hG1⟩:∃G1:Nat→Nat→Rat,(fun i t=>G i (zaY r s t))=G1:=⟨_,rfl⟩;obtain⟨H1,hH1⟩:∃H1:Nat→Nat→Rat,(fun t j=>H (zaY r s t) j)=H1:=⟨_,rfl⟩;have h1:∀i j,i<k+1→j<k+1→sumQ (fun s=>G1 i s*H1 s j) r+G1 i r*H1 r j=if i=j then d i else 0:=fun i j hi hj=>by
   rw [←h i j hi hj,←zoJ (f:=fun s=>G i s*H s j) (show s≤r by omega),←hG1,←hH1];rfl
  have hp:G1 k r≠0:=by
   rw [←hG1];show G k (zaY r s r)≠0
   rw [show zaY r s r=s by unfold zaY;rw [if_pos rfl]];exact hne
  refine zqJ r k (fun i s=>G1 i s + -(G1 i r/G1 k r)*G1 k s) H1 d (fun i hi=>hd i (by omega)) fun i j hi hj => ?_
  have e1:=h1 i j (by omega) (by omega);have e2:=h1 k j (by omega) (by omega);rw [if_neg (by omega)]at e2;rw [zak (g:=fun s=>G1 i s*H1 s j + -(G1 i r/G1 k r)*(G1 k s*H1 s j)) (fun s _=>by grind),ze1,zce,←e1];generalize sumQ (fun s=>G1 i s*H1 s j) r=a at e1 ⊢
  generalize sumQ (fun s=>G1 k s*H1 s j) r=b at e2 ⊢
  have:b = -(G1 k r*H1 r j):=by grind
  rw [this];grind
def rk(m n:Nat)(Q:Nat→Nat→Rat):Nat:=(pRun m Q n).k
theorem ziq(m n:Nat)(Q:Nat→Nat→Rat):Fac m n (rk m n Q) Q:=by
 have hp:=zdd m Q n;obtain⟨A,hA⟩:=(zgx (m:=m) Q n).symm.comb;refine⟨A,(pRun m Q n).P,fun i hi j hj => ?_⟩;rw [hA i hi j];exact zny hp.hk fun l h1 h2=>by rw [hp.below j hj l h1 h2];grind
theorem zmA{m n r:Nat}{Q:Nat→Nat→Rat}(h:Fac m n r Q):rk m n Q≤r:=by
 have hp:=zdd m Q n;obtain⟨C,hC⟩:=(zgx (m:=m) Q n).comb;obtain⟨F,G,hF⟩:=h;have hl:(zay m Q n).length=rk m n Q:=hp.len;have hcol:∀i,i<rk m n Q→∃x,(zay m Q n)[i]? = some x:=fun i hi=>⟨_,List.getElem?_eq_getElem (by omega)⟩
 have hget:∀i x,(zay m Q n)[i]? = some x→(zay m Q n).getD i 0=x:=fun i x h=>by rw [List.getD_eq_getElem?_getD,h];rfl
 refine zqJ r (rk m n Q) (fun i s=>sumQ (fun l=>C i l*F l s) m) (fun s l=>G s ((zay m Q n).getD l 0)) (fun i=>(pRun m Q n).P i ((zay m Q n).getD i 0)) (fun i hi => ?_) fun i j hi hj => ?_
 ·obtain⟨x,hx⟩:=hcol i hi;show(pRun m Q n).P i ((zay m Q n).getD i 0)≠0
  rw [hget i x hx];exact(hp.piv i x hx).1
 ·have him:i<m:=Nat.lt_of_lt_of_le hi hp.hk;obtain⟨x,hx⟩:=hcol j hj;have hxn:=hp.lt x (List.mem_of_getElem? hx);show sumQ (fun s=>sumQ (fun l=>C i l*F l s) m*G s ((zay m Q n).getD j 0)) r=if i=j then(pRun m Q n).P i ((zay m Q n).getD i 0)else 0
  rw [hget j x hx,←zka];rw [zak (g:=fun l=>C i l*Q l x) (fun l hl=>by rw [hF l hl x hxn]),←hC i him x];by_cases e:i=j
  ·subst e;rw [if_pos rfl,hget i x hx]
  ·rw [if_neg e];exact hp.zero i him j x hx e
theorem zoe{m n r:Nat}{Q:Nat→Nat→Rat}(h:Fac m n r Q):Fac n m r (fun i j=>Q j i):=by
 obtain⟨A,C,h⟩:=h;exact⟨fun i l=>C l i,fun l j=>A j l,fun i hi j hj=>(h j hj i hi).trans (zak fun l _=>by grind)⟩
theorem zsD(m n:Nat)(Q:Nat→Nat→Rat):rk n m (fun i j=>Q j i)=rk m n Q:=
 Nat.le_antisymm (zmA (zoe (ziq m n Q))) (zmA (zoe (ziq n m fun i j=>Q j i)))
theorem zrT{m n r:Nat}{X:Nat→Nat→Rat}(Y:Nat→Nat→Rat)(h:Fac m n r X):Fac m n r (mulM n X Y):=by
 obtain⟨A,C,h⟩:=h;refine⟨A,mulM n C Y,fun i hi j _ => ?_⟩;show sumQ (fun s=>X i s*Y s j) n=_
 rw [zak (g:=fun s=>sumQ (fun l=>A i l*C l s) r*Y s j) (fun s hs=>by rw [h i hi s hs])];exact(zka (A i) C (fun s=>Y s j) r n).symm
theorem zrU{m n r:Nat}(X:Nat→Nat→Rat){Y:Nat→Nat→Rat}(h:Fac n n r Y):Fac m n r (mulM n X Y):=by
 obtain⟨A,C,h⟩:=h;refine⟨mulM n X A,C,fun i _ j hj => ?_⟩;show sumQ (fun s=>X i s*Y s j) n=sumQ (fun l=>sumQ (fun s=>X i s*A s l) n*C l j) r
 rw [zak (g:=fun s=>X i s*sumQ (fun l=>A s l*C l j) r) (fun s hs=>by rw [h s hs j hj])];exact zka (X i) A (fun l=>C l j) n r
def Span(n:Nat):List (Nat→Rat)→(Nat→Rat)→Prop
 | [],v=>∀j,j<n→v j=0
 | u :: L,v=>∃t:Rat,Span n L (fun j=>v j-t*u j)
theorem Span.congr{n:Nat}:∀{L:List (Nat→Rat)} {u v:Nat→Rat},Span n L u→(∀j,j<n→u j=v j)→Span n L v
 | [],u,v,h,e=>fun j hj=>by rw [←e j hj];exact h j hj
 | a :: L,u,v,⟨t,h⟩,e=>⟨t,h.congr fun j hj=>by rw [e j hj]⟩
theorem Span.zero{n:Nat}:∀{L:List (Nat→Rat)},Span n L (fun _=>0)
 | []=>fun _ _=>rfl
 | u :: L=>⟨0,Span.zero.congr fun j _=>by grind⟩
theorem Span.add{n:Nat}:∀{L:List (Nat→Rat)} {u v:Nat→Rat} (c:Rat),Span n L u→Span n L v→Span n L (fun j=>u j+c*v j)
 | [],u,v,c,h,k=>fun j hj=>by show u j+c*v j=0;rw [h j hj,k j hj];grind
 | a :: L,u,v,c,⟨t,h⟩,⟨s,k⟩=>⟨t+c*s,(h.add c k).congr fun j _=>by grind⟩
theorem Span.cons{n:Nat}{L:List (Nat→Rat)}{v:Nat→Rat}(u:Nat→Rat)(h:Span n L v):Span n (u :: L) v:=⟨0,h.congr fun j _=>by grind⟩
theorem Span.mem{n:Nat}:∀{L:List (Nat→Rat)} {u:Nat→Rat},u∈L→Span n L u
 | a :: L,u,h=>by
  rcases List.mem_cons.1 h with rfl|h
  ·exact⟨1,Span.zero.congr fun j _=>by grind⟩
  ·exact(Span.mem h).cons a
theorem Span.sum{n:Nat}{L:List (Nat→Rat)}{a:Nat→Rat}{F:Nat→Nat→Rat}:∀{m:Nat},(∀s,s<m→a s≠0→Span n L (F s))→Span n L (fun j=>sumQ (fun s=>a s*F s j) m)
 | 0,_=>Span.zero
 | m+1,h=>by
  have ih:=Span.sum (m:=m) (fun s hs=>h s (by omega));by_cases e:a m=0
  ·refine ih.congr fun j _ => ?_
   show _=sumQ (fun s=>a s*F s j) m+a m*F m j
   rw [e];grind
  ·exact ih.add (a m) (h m (by omega) e)
theorem Span.coef{n:Nat}:∀{L:List (Nat→Rat)} {v:Nat→Rat},Span n L v→∃a:Nat→Rat,∀j,j<n→v j=sumQ (fun l=>a l*(L.getD l (fun _=>0)) j) L.length
 | [],v,h=>⟨fun _=>0,h⟩
 | u :: L,v,⟨t,h⟩=>by
  obtain⟨a,ha⟩:=h.coef;refine⟨fun l=>match l with|0=>t|l+1=>a l,fun j hj => ?_⟩;have hs:∀(f:Nat→Rat) (n:Nat),sumQ f (n+1)=f 0+sumQ (fun l=>f (l+1)) n:=by
   intro f n;induction n with
   | zero=>show(0:Rat)+f 0=f 0+0;grind
   | succ n ih=>show sumQ f (n+1)+f (n+1)=f 0+(sumQ (fun l=>f (l+1)) n+f (n+1));rw [ih];grind
  show v j=sumQ _ (L.length+1)
  rw [hs];have:=ha j hj;show v j=t*u j+sumQ (fun l=>a l*(L.getD l (fun _=>0)) j) L.length
  rw [←this];grind
theorem zrS{m n:Nat}{L:List (Nat→Rat)}{Q:Nat→Nat→Rat}(h:∀i,i<m→Span n L (Q i)):Fac m n L.length Q:=by
 have hc:∀i,∃a:Nat→Rat,i<m→∀j,j<n→Q i j=sumQ (fun l=>a l*(L.getD l (fun _=>0)) j) L.length:=fun i=>by
  by_cases hi:i<m
  ·obtain⟨a,ha⟩:=(h i hi).coef;exact⟨a,fun _=>ha⟩
  ·exact⟨fun _=>0,fun q=>absurd q hi⟩
 exact⟨fun i=>Classical.choose (hc i),fun l j=>(L.getD l (fun _=>0)) j,fun i hi j hj=>Classical.choose_spec (hc i) hi j hj⟩
def zrP(cs:List Nat)(n:Nat):List Nat:=(List.range n).filter fun x=>decide (x∉cs)
theorem zg5{α:Type}(p:α→Bool):∀l:List α,(l.filter p).length+(l.filter fun x => !p x).length=l.length
 | []=>rfl
 | a :: l=>by
  have:=zg5 p l;rw [List.filter_cons,List.filter_cons]
  cases p a <;> simp only [Bool.not_true,Bool.not_false,if_true,ztF] <;> simp <;> omega
theorem zlM{cs:List Nat}{n:Nat}(hu:cs.Pairwise (· < ·))(hl:∀x∈cs,x<n):(zrP cs n).length+cs.length=n:=by
 have h1:=zg5 (fun x=>decide (x∉cs)) (List.range n);rw [List.length_range]at h1;have h2:((List.range n).filter fun x => !decide (x∉cs))=cs:=by
  have hs1:((List.range n).filter fun x => !decide (x∉cs)).Pairwise (· < ·):=List.Pairwise.filter _ List.pairwise_lt_range;have key:∀(a b:List Nat),a.Pairwise (· < ·)→b.Pairwise (· < ·)→(∀x,x∈a↔x∈b)→a=b:=by
   intro a;induction a with
   | nil=>
    intro b _ _ h
    cases b with
    | nil=>rfl
    | cons y b=>exact absurd ((h y).2 (List.mem_cons_self ..)) (by simp)
   | cons x a ih=>
    intro b ha hb h
    cases b with
    | nil=>exact absurd ((h x).1 (List.mem_cons_self ..)) (by simp)
    | cons y b=>
     rw [List.pairwise_cons]at ha hb;have hxy:x=y:=by
      rcases List.mem_cons.1 ((h x).1 (List.mem_cons_self ..))with e|e
      ·exact e
      ·rcases List.mem_cons.1 ((h y).2 (List.mem_cons_self ..))with e2|e2
       ·exact e2.symm
       ·have:=hb.1 x e;have:=ha.1 y e2;omega
     subst hxy;rw [ih b ha.2 hb.2 fun z=>⟨fun hz=>by
      rcases List.mem_cons.1 ((h z).1 (List.mem_cons_of_mem _ hz))with e|e
      ·subst e;have:=ha.1 z hz;omega
      ·exact e,fun hz=>by
      rcases List.mem_cons.1 ((h z).2 (List.mem_cons_of_mem _ hz))with e|e
      ·subst e;have:=hb.1 z hz;omega
      ·exact e⟩]
  refine key _ _ hs1 hu fun x => ?_
  rw [List.mem_filter,List.mem_range];simp
  exact fun h=>hl x h
 rw [h2]at h1;unfold zrP;omega
theorem zlg(n:Nat)(X Y:Nat→Nat→Rat):rk n n X+rk n n Y≤rk n n (mulM n X Y)+n:=by
 have hp:=zdd n X n;obtain⟨F,R,hR⟩:=ziq n n (mulM n X Y);have hop:=(zgx (m:=n) X n).mul (n:=n) Y;obtain⟨C,hC⟩:=hop.comb;generalize hu:rk n n (mulM n X Y)=u at hR
 generalize hcs:zay n X n=cs at hp
 generalize hP:(pRun n X n).P=P at hC
 have hk:cs.length=rk n n X:=hp.len;obtain⟨L,hL⟩:∃L:List (Nat→Rat),(List.range u).map R ++ (zrP cs n).map Y=L:=⟨_,rfl⟩;have hfree:∀s,s<n→s∉cs→Span n L (Y s):=fun s hs hn=>Span.mem (by
  rw [←hL];exact List.mem_append_right _ (List.mem_map.2 ⟨s,List.mem_filter.2 ⟨List.mem_range.2 hs,by simp [hn]⟩,rfl⟩))
 have hrow:∀i,i<n→Span n L (fun j=>mulM n P Y i j):=fun i hi=>by
  refine Span.congr (u:=fun j=>sumQ (fun l=>C i l*mulM n X Y l j) n) (Span.sum fun l hl _ => ?_) fun j _=>(hC i hi j).symm
  refine Span.congr (u:=fun j=>sumQ (fun t=>F l t*R t j) u) (Span.sum fun t ht _ => ?_) fun j hj=>(hR l hl j hj).symm
  exact Span.mem (by rw [←hL];exact List.mem_append_left _ (List.mem_map.2 ⟨t,List.mem_range.2 ht,rfl⟩))
 have hY:∀s,s<n→Span n L (Y s):=fun s hs=>by
  by_cases hm:s∈cs
  ·obtain⟨i,hi⟩:=List.getElem?_of_mem hm;have hin:i<n:=by have:=(List.getElem?_eq_some_iff.1 hi).1;have:=hp.hk;have:=hp.len;omega
   have hpv:=(hp.piv i s hi).1;rw [hP]at hpv;have h1:=hrow i hin;have h2:Span n L (fun j=>sumQ (fun x=>(if x=s then 0 else P i x)*Y x j) n):=Span.sum fun x hx hne=>by
    by_cases e:x=s
    ·rw [if_pos e]at hne;exact absurd rfl hne
    ·rw [if_neg e]at hne;refine hfree x hx fun hxm=>hne ?_
     obtain⟨l,hl⟩:=List.getElem?_of_mem hxm;rw [←hP];exact hp.zero i hin l x hl (fun q=>by subst q;rw [hi]at hl;exact e (Option.some.inj hl).symm)
   have h3:=Span.add (c:=1/P i s-1) (Span.add (c:=-1) h1 h2) (Span.add (c:=-1) h1 h2);refine h3.congr fun j _ => ?_
   have e1:sumQ (fun x=>(if x=s then 0 else P i x)*Y x j) n=mulM n P Y i j+(0*Y s j-P i s*Y s j):=by
    show _=sumQ (fun x=>P i x*Y x j) n+_
    rw [←zkb (fun x=>P i x*Y x j) s (0*Y s j) hs];refine zak fun x _ => ?_
    by_cases e:x=s
    ·subst e;rw [if_pos rfl,if_pos rfl]
    ·rw [if_neg e,if_neg e]
   rw [e1];generalize mulM n P Y i j=a
   grind
  ·exact hfree s hs hm
 have h:=zmA (zrS hY);have hlen:L.length=u+(zrP cs n).length:=by rw [←hL,List.length_append,List.length_map,List.length_map,List.length_range]
 have:=zlM hp.up hp.lt;omega
theorem zp1(n:Nat)(X Y:Nat→Nat→Rat):rk n n (mulM n X Y)≤min (rk n n X) (rk n n Y):=Nat.le_min.2 ⟨zmA (zrT Y (ziq n n X)),zmA (zrU X (ziq n n Y))⟩
theorem zhx{N:Nat}{u v:Nat→Rat}{w w':Fam}(h:∀j,j<N→u j=v j)(hw:∀S,w S=w' S)(S:Nat→Bool):zba N u w S=zba N v w' S:=by
 unfold zba;refine zak fun j hj => ?_
 rw [h j hj,hw]
def zrq(P:Nat→Nat→Rat)(n:Nat):List (Nat→Rat):=(List.range n).map P
theorem zer{N:Nat}{P R:Nat→Nat→Rat}:∀{l:List Nat},(∀i∈l,∀j,j<N→P i j=R i j)→∀S,zaH N (l.map P) S=zaH N (l.map R) S
 | [],_,_=>rfl
 | i :: l,h,S=>zhx (h i (List.mem_cons_self ..)) (fun S=>zer (l:=l) (fun k hk=>h k (List.mem_cons_of_mem _ hk)) S) S
def detF(n:Nat)(P:Nat→Nat→Rat):Rat:=zaH n (zrq P n) (setL (List.range n))
theorem zfe{P:Nat→Nat→Rat}{i k:Nat}{t:Rat}:∀{l:List Nat},Differ (P k) (l.map P) (l.map (zgg P i k t))
 | [] => .nil
 | r :: l=>by
  by_cases e:r=i
  ·subst e;exact .cons t (fun j=>by rw [zbw]) zfe
  ·exact .cons 0 (fun j=>by rw [za6 _ _ e];grind) zfe
theorem zrp{k:Nat}{l:List Nat}(h:k∈l):∃a b,l=a ++ k :: b:=List.append_of_mem h
theorem zrZ{n:Nat}{P R:Nat→Nat→Rat}(h:Ops n P R):detF n R=detF n P:=by
 induction h with
 | refl=>rfl
 | @step R _ i k t hi hk hn ih=>
  rw [←ih];unfold detF zrq;obtain⟨a,b,hab⟩:=zrp (List.mem_range.2 hk);rw [hab,List.map_append,List.map_append,List.map_cons,List.map_cons,za6 R t (Ne.symm hn),zje n (zfe (P:=R) (i:=i) (k:=k) (t:=t) (l:=a)) (zfe (P:=R) (i:=i) (k:=k) (t:=t) (l:=b))]
 | @eq R S _ e ih=>
  rw [←ih];exact zer (fun i hi j _=>(e i (List.mem_range.1 hi) j).symm) _
theorem zgS{N:Nat}{P R:Nat→Nat→Rat}(d:Nat→Rat):∀{l:List Nat},(∀i∈l,∀j,j<N→P i j=d i*R i j)→∀S,zaH N (l.map P) S=zca (l.map d)*zaH N (l.map R) S
 | [],_,S=>by show oneF N S=zca []*oneF N S;rw [show zca []=1 from rfl];grind
 | i :: l,h,S=>by
  have ih:=zgS d (l:=l) (fun k hk=>h k (List.mem_cons_of_mem _ hk));have hp:∀(x:Rat) (l:List Rat),zca (x :: l)=x*zca l:=fun x l=>by
   have:∀(l:List Rat) (a:Rat),l.foldl (· * ·) a=a*l.foldl (· * ·) 1:=by
    intro l;induction l with
    | nil=>intro a;show a=a*1;grind
    | cons y l ihl=>
     intro a;show l.foldl (· * ·) (a*y)=a*l.foldl (· * ·) (1*y)
     rw [ihl (a*y),ihl (1*y)];grind
   show l.foldl (· * ·) (1*x)=x*l.foldl (· * ·) 1
   rw [this];grind
  show zba N (P i) (zaH N (l.map P)) S=zca (d i :: l.map d)*zba N (R i) (zaH N (l.map R)) S
  rw [zhx (h i (List.mem_cons_self ..)) ih S,hp,zmi,zhw];grind
theorem zfN{N:Nat}{P:Nat→Nat→Rat}{k:Nat}(h0:∀j,j<N→P k j=0):∀{l:List Nat},k∈l→∀S,zaH N (l.map P) S=0
 | i :: l,h,S=>by
  show zba N (P i) (zaH N (l.map P)) S=0
  by_cases e:k=i
  ·subst e;unfold zba;rw [zak (g:=fun _=>0) (fun j hj=>by rw [h0 j hj];split <;> grind),zcF]
  ·have hm:k∈l:=by
    rcases List.mem_cons.1 h with q|q
    ·exact absurd q e
    ·exact q
   have ih:=zfN h0 hm;unfold zba;rw [zak (g:=fun _=>0) (fun j hj=>by rw [ih];split <;> grind),zcF]
def oneM:Nat→Nat→Rat:=fun i j=>if i=j then 1 else 0
theorem zpr(n:Nat):∀l:List Nat,l.Nodup→(∀x∈l,x<n)→Tri n (l.map oneM) l 1
 | [],_,_ => .nil
 | c :: l,hn,hl=>by
  rw [List.nodup_cons]at hn;have:=Tri.cons (u:=oneM c) (hl c (List.mem_cons_self ..)) hn.1 (fun k hk=>by
   unfold oneM;exact if_neg (fun e:c=k=>hn.1 (e ▸ hk))) (zpr n l hn.2 fun x hx=>hl x (List.mem_cons_of_mem _ hx))
  have e:oneM c c*1=(1:Rat):=by unfold oneM;rw [if_pos rfl];grind
  rw [e]at this;exact this
theorem zr0(n:Nat):detF n oneM=1∨detF n oneM = -1:=(zpr n (List.range n) List.nodup_range fun x hx=>List.mem_range.1 hx).wedges
def dtm(n:Nat)(Q:Nat→Nat→Rat):Rat:=if rk n n Q<n then 0 else zca (zbc n Q n)
theorem zgG{n:Nat}{Q:Nat→Nat→Rat}(h:¬rk n n Q<n){i:Nat}(hi:i<n):(zay n Q n)[i]? = some i:=by
 have hp:=zdd n Q n;have hl:(zay n Q n).length=n:=by have:=hp.len;have:=hp.hk;unfold rk at h;omega
 have hu:=hp.up;have hlt:=hp.lt;generalize zay n Q n=cs at hl hu hlt
 have lo:∀(i p:Nat),cs[i]? = some p→i≤p:=by
  intro i;induction i with
  | zero=>intro p _;omega
  | succ i ih=>
   intro p hp;have h1:=(List.getElem?_eq_some_iff.1 hp).1;have h2:=ih _ (List.getElem?_eq_getElem (show i<cs.length by omega));have h3:=List.pairwise_iff_getElem.1 hu i (i+1) (by omega) h1 (by omega);have h4:=(List.getElem?_eq_some_iff.1 hp).2;omega
 have hi':∀(d i p:Nat),i+d+1=n→cs[i]? = some p→p≤i:=by
  intro d;induction d with
  | zero=>
   intro i p hd hp;have:=hlt p (List.mem_of_getElem? hp);omega
  | succ d ih=>
   intro i p hd hp;have h2:=ih (i+1) _ (by omega) (List.getElem?_eq_getElem (show i+1<cs.length by omega));have h1:=(List.getElem?_eq_some_iff.1 hp).1;have h3:=List.pairwise_iff_getElem.1 hu i (i+1) (by omega) (by omega) (by omega);have h4:=(List.getElem?_eq_some_iff.1 hp).2;omega
 obtain⟨p,hp'⟩:∃p,cs[i]? = some p:=⟨_,List.getElem?_eq_getElem (by omega)⟩;have h1:=lo i p hp';have h2:=hi' (n-i-1) i p (by omega) hp';rw [hp'];congr 1
 omega
theorem zod{n:Nat}{Q:Nat→Nat→Rat}(h:¬rk n n Q<n):zbc n Q n=(List.range n).map fun i=>(pRun n Q n).P i i:=by
 have hp:=zdd n Q n;have hl:(zbc n Q n).length=n:=by have:=hp.plen;have:=hp.hk;unfold rk at h;omega
 refine List.ext_getElem? fun i => ?_
 by_cases hi:i<n
 ·rw [(hp.piv i i (zgG h hi)).2];simp [hi]
 ·rw [List.getElem?_eq_none (by omega)];simp [hi]
theorem zlL{n:Nat}{Q:Nat→Nat→Rat}(h:¬rk n n Q<n){i j:Nat}(hi:i<n)(hj:j<n):(pRun n Q n).P i j=if i=j then(pRun n Q n).P i i else 0:=by
 split
 ·rename_i e;rw [e]
 ·rename_i e;exact(zdd n Q n).zero i hi j j (zgG h hj) e
theorem zoo(n:Nat)(X Y:Nat→Nat→Rat):detF n (mulM n X Y)=dtm n X*detF n Y:=by
 have hp:=zdd n X n;rw [←zrZ ((zgx (m:=n) X n).mul (n:=n) Y)];unfold dtm;by_cases h:rk n n X<n
 ·rw [if_pos h];have hr:(pRun n X n).k≤n-1:=by unfold rk at h;omega
  unfold detF zrq;rw [zfN (k:=n-1) (fun j _ => ?_) (List.mem_range.2 (by omega))]
  ·grind
  ·show sumQ (fun s=>(pRun n X n).P (n-1) s*Y s j) n=0
   rw [zak (g:=fun _=>0) (fun s hs=>by rw [hp.below s hs (n-1) hr (by omega)];grind),zcF]
 ·rw [if_neg h,zod h];unfold detF zrq;refine zgS (fun i=>(pRun n X n).P i i) (fun i hi j _ => ?_) _;have hin:=List.mem_range.1 hi;show sumQ (fun s=>(pRun n X n).P i s*Y s j) n=(pRun n X n).P i i*Y i j
  rw [ze0 hin fun s hs hne=>by rw [zlL h hin hs,if_neg (Ne.symm hne)];grind]
theorem zrB{n:Nat}{X:Nat→Nat→Rat}{i j:Nat}(hj:j<n):mulM n X oneM i j=X i j:=by
 show sumQ (fun s=>X i s*oneM s j) n=X i j
 rw [ze0 hj fun s _ hne=>by unfold oneM;rw [if_neg hne];grind];unfold oneM;rw [if_pos rfl];grind
theorem zop(n:Nat)(X:Nat→Nat→Rat):detF n X=dtm n X*detF n oneM:=by
 rw [←zoo];exact zer (fun i _ j hj=>(zrB hj).symm) _
theorem zsT(n:Nat)(X Y:Nat→Nat→Rat):dtm n (mulM n X Y)=dtm n X*dtm n Y:=by
 have h1:=zoo n X Y;rw [zop n (mulM n X Y),zop n Y]at h1;rcases zr0 n with h|h <;> rw [h]at h1 <;> grind
theorem zrx{l:List Rat}(h:∀x∈l,x≠0):zca l≠0:=by
 have:∀(l:List Rat) (a:Rat),a≠0→(∀x∈l,x≠0)→l.foldl (· * ·) a≠0:=by
  intro l;induction l with
  | nil=>intro a ha _;exact ha
  | cons y l ih=>
   intro a ha hl;refine ih (a*y) (fun e => ?_) fun x hx=>hl x (List.mem_cons_of_mem _ hx)
   rcases Rat.mul_eq_zero.1 e with e|e
   ·exact ha e
   ·exact hl y (List.mem_cons_self ..) e
 exact this l 1 (by decide) h
theorem zrX(n:Nat)(X:Nat→Nat→Rat):dtm n X=0↔rk n n X<n:=by
 unfold dtm;constructor
 ·intro h;apply Classical.byContradiction
  intro hn;rw [if_neg hn,zod hn]at h;refine zrx (fun x hx => ?_) h;obtain⟨i,hi,rfl⟩:=List.mem_map.1 hx;exact((zdd n X n).piv i i (zgG hn (List.mem_range.1 hi))).1
 ·intro h;rw [if_pos h]
theorem zrt{m n:Nat}{P Q:Nat→Nat→Rat}(h:∀i,i<m→∀j,j<n→P i j=Q i j):rk m n P=rk m n Q:=by
 obtain⟨A,C,h1⟩:=ziq m n Q;obtain⟨A',C',h2⟩:=ziq m n P;exact Nat.le_antisymm (zmA ⟨A,C,fun i hi j hj=>(h i hi j hj).trans (h1 i hi j hj)⟩) (zmA ⟨A',C',fun i hi j hj=>(h i hi j hj).symm.trans (h2 i hi j hj)⟩)
theorem zqy{n:Nat}{Q E:Nat→Nat→Rat}(hQ:∀i,i<n→∀j,j<n→E i j=Q i j)(hI:∀i,i<n→∀s,s<n→E i (n+s)=if i=s then 1 else 0)(hk:¬rk n n E<n){i s:Nat}(hi:i<n)(hs:s<n) :
  mulM n Q (fun l s=>zcl (pRun n E n).P (zay n E n) l (n+s)) i s=if i=s then 1 else 0:=by
 obtain⟨A,hA⟩:=(zgx (m:=n) E n).symm.comb;have hp:=zdd n E n;have hu:∀l,l<n→zcl (pRun n E n).P (zay n E n) l (n+s)=(pRun n E n).P l (n+s)/(pRun n E n).P l l:=fun l hl=>by
  unfold zcl;rw [zgG hk hl]
 have hd:∀l,l<n→(pRun n E n).P l l≠0:=fun l hl=>(hp.piv l l (zgG hk hl)).1
 have ha:∀l,l<n→Q i l=A i l*(pRun n E n).P l l:=fun l hl=>by
  rw [←hQ i hi l hl,hA i hi l,ze0 hl fun x hx hne=>by rw [zlL hk hx hl,if_neg hne];grind]
 rw [←hI i hi s hs,hA i hi (n+s)];refine zak fun l hl => ?_
 show Q i l*zcl (pRun n E n).P (zay n E n) l (n+s)=_
 rw [hu l hl,ha l hl];have:=hd l hl;grind
end Go.Num
namespace Go.Num
open Go.Eng Go.Shelf Go.RowKit Go.Sort Go.Proofs Go.Proofs.YtoamcgjbelhnkaaGreatDoor
def Tiny(q:Rat):Prop:=(q.num.natAbs≤9999∧q.den=1)∨(q.num.natAbs≤99∧q.den≤99)
theorem zqH{u k:Nat}(h:Lib.nDigits u≤k):u<10^k:=Nat.lt_of_lt_of_le (Lib.lt_pow_nDigits u) (Nat.pow_le_pow_right (by decide) h)
theorem zpz{l:List UInt8}{q:Rat}(h:zbT l=some q)(hl:l.length≤4):Tiny q:=by
 have e:=congrArg List.length (zpa h);have hi:Lib.nDigits q.num.natAbs≤(Lib.itoa q.num).length:=by
  unfold Lib.itoa;split
  ·rw [List.length_cons,Lib.decDigits_length];omega
  ·rename_i hn;rw [Lib.decDigits_length,show q.num.toNat=q.num.natAbs by omega];exact Nat.le_refl _
 have p1:1≤Lib.nDigits q.num.natAbs:=Lib.nDigits_pos _;have p2:1≤Lib.nDigits q.den:=Lib.nDigits_pos _;unfold zfQ at e;split at e
 ·rename_i h1;have:=zqH (u:=q.num.natAbs) (k:=4) (by omega);exact .inl ⟨by omega,h1⟩
 ·rw [List.length_append,List.length_cons,Lib.decDigits_length]at e;have a1:=zqH (u:=q.num.natAbs) (k:=2) (by omega);have a2:=zqH (u:=q.den) (k:=2) (by omega);exact .inr ⟨by omega,by omega⟩
theorem zsx{l:List UInt8}(hl:l.length≤4):Tiny (rq l 50):=by
 unfold rq;rw [List.take_of_length_le (by omega)];split
 ·rename_i h;unfold refE at h;split at h
  ·cases h
  ·split at h
   ·cases h
   ·rename_i q hq;rw [hq];exact zpz hq hl
 ·obtain⟨a,ha⟩:∃a:Int,(l.length:Int)%7-3=a:=⟨_,rfl⟩;obtain⟨b,hb⟩:∃b:Int,1+(l.length:Int)%3=b:=⟨_,rfl⟩;rw [ha,hb];have h:=zp7 a b (by omega);exact .inr ⟨by omega,by omega⟩
theorem Tiny.dig{q:Rat}(h:Tiny q):Dig q:=by
 rcases h with⟨h1,h2⟩|⟨h1,h2⟩
 ·exact⟨Nat.lt_of_le_of_lt h1 (by decide),by rw [h2];decide⟩
 ·exact⟨Nat.lt_of_le_of_lt h1 (by decide),Nat.le_trans h2 (by decide)⟩
theorem zcI{q:Rat}{X Y:Nat}(h1:q.num.natAbs≤X)(h2:q.den≤Y):RatB X Y q:=
 ⟨q.num,(q.den:Int),by have:=q.den_nz;omega,by rw [←Rat.divInt_eq_div,Rat.num_divInt_den],h1,by omega⟩
theorem Tiny.mul{p q:Rat}(h:Tiny p)(k:Tiny q):RatB 99980001 1 (p*q)∨RatB 989901 9801 (p*q):=by
 rcases h with⟨a1,a2⟩|⟨a1,a2⟩ <;> rcases k with⟨b1,b2⟩|⟨b1,b2⟩
 ·left;exact((zcI a1 (Nat.le_of_eq a2)).mul (zcI b1 (Nat.le_of_eq b2))).mono (by decide) (by decide)
 ·right;exact((zcI a1 (Nat.le_of_eq a2)).mul (zcI b1 b2)).mono (by decide) (by decide)
 ·right;exact((zcI a1 a2).mul (zcI b1 (Nat.le_of_eq b2))).mono (by decide) (by decide)
 ·right;exact((zcI a1 a2).mul (zcI b1 b2)).mono (by decide) (by decide)
theorem RatB.plus{X Y X' Y':Nat}{p q:Rat}(h:RatB X Y p)(k:RatB X' Y' q):RatB (X*Y'+X'*Y) (Y*Y') (p+q):=by
 obtain⟨x,y,h1,h2,h3,h4⟩:=h;obtain⟨u,v,k1,k2,k3,k4⟩:=k;refine⟨x*v+u*y,y*v,Int.mul_ne_zero h1 k1,?_,?_,?_⟩
 ·rw [h2,k2,Rat.intCast_add,Rat.intCast_mul,Rat.intCast_mul,Rat.intCast_mul];have:=zb6 h1;have:=zb6 k1;grind
 ·refine Nat.le_trans (Int.natAbs_add_le _ _) ?_;rw [Int.natAbs_mul,Int.natAbs_mul];exact Nat.add_le_add (Nat.mul_le_mul h3 k4) (Nat.mul_le_mul k3 h4)
 ·rw [Int.natAbs_mul];exact Nat.mul_le_mul h4 k4
def bnd(a b:Nat):Nat:=a*(99980001*9801^b)+b*(989901*9801^(b-1))
theorem zpM{f:Nat→Rat}(hf:∀s,RatB 99980001 1 (f s)∨RatB 989901 9801 (f s)):∀n,∃a b,a+b=n∧RatB (bnd a b) (9801^b) (sumQ f n)
 | 0=>⟨0,0,rfl,0,1,by decide,by show(0:Rat)=((0:Int):Rat)/((1:Int):Rat);grind,by decide,by decide⟩
 | n+1=>by
  obtain⟨a,b,hab,ih⟩:=zpM hf n;rcases hf n with h|h
  ·refine⟨a+1,b,by omega,(ih.plus h).mono ?_ (by rw [Nat.mul_one];exact Nat.le_refl _)⟩;unfold bnd;rw [Nat.add_mul a 1];generalize a*(99980001*9801^b)=x
   generalize b*(989901*9801^(b-1))=y
   omega
  ·refine⟨a,b+1,by omega,(ih.plus h).mono ?_ (by rw [Nat.pow_succ];exact Nat.le_refl _)⟩;unfold bnd;rw [Nat.add_sub_cancel]
   cases b with
   | zero=>simp only [Nat.zero_mul,Nat.add_zero,Nat.pow_zero,Nat.pow_succ,Nat.mul_one,Nat.zero_add,Nat.one_mul];omega
   | succ b=>
    rw [Nat.add_sub_cancel,Nat.pow_succ 9801 (b+1),Nat.pow_succ 9801 b];generalize 9801^b=t
    have e1:(a*(99980001*(t*9801))+(b+1)*(989901*t))*9801=a*(99980001*(t*9801*9801))+(b+1)*(989901*(t*9801)):=by
     rw [Nat.add_mul];simp only [Nat.mul_assoc]
    rw [e1,Nat.add_mul (b+1) 1,Nat.one_mul];omega
theorem zrh{n:Nat}{X:Nat→Nat→Rat}(hX:∀i j,Tiny (X i j))(h0:0<n)(hn:n≤4)(hS:Set1 n (n+n) n (zaj X n) (fun i=>zgr (zaj X n i) (n+n)) (fun i=>1/(facF (zaj X n i) (n+n):Rat)))
  (hk:¬rk n n (zaj X n)<n) {l s:Nat} (hl:l<n) (hs:s<n):zar (zcl (pRun n (zaj X n) n).P (zay n (zaj X n) n) l (n+s)) 10:=by
 have ht:∀i j,(zaj X n i j).num.natAbs≤9999∧(zaj X n i j).den≤99:=fun i j=>by
  unfold zaj;split
  ·rcases hX i j with⟨h1,h2⟩|⟨h1,h2⟩
   ·exact⟨h1,by omega⟩
   ·exact⟨by omega,h2⟩
  ·split
   ·exact⟨by decide,by decide⟩
   ·exact⟨by decide,by decide⟩
 have hA:∀i,i<n→∀j,j<n+n→(zgr (zaj X n i) (n+n) j).natAbs≤ten 20:=fun i _ j hj=>by
  refine Nat.le_trans (znH (D:=99) hj (fun j _=>(ht i j).2) (ht i j).1) ?_;have h2:99^(n+n)≤99^8:=Nat.pow_le_pow_right (by decide) (by omega);exact Nat.le_trans (Nat.mul_le_mul_left _ h2) (by decide)
 have hb:((n+n)*ten 20)^n<B^10:=by
  rw [zri 10];have h1:(n+n)*ten 20≤ten 21:=zgl (a:=1) (b:=20) (show n+n≤ten 1 from Nat.le_trans (show n+n≤8 by omega) (by decide)) (Nat.le_refl _);exact Nat.lt_of_le_of_lt (zhC h1) (znt (by omega))
 have hz:=zlj (L:=10) hA (Nat.mul_pos (by omega) (zmn _)) hb (show n≤n+n by omega) n (Nat.le_refl _);have hc:=zgG hk hl;have hu:zcl (pRun n (zaj X n) n).P (zay n (zaj X n) n) l (n+s)=(pRun n (zaj X n) n).P l (n+s)/(pRun n (zaj X n) n).P l l:=by
  unfold zcl;rw [hc]
 rw [hu,hS.ends.unit l l hc (n+s) (by omega)];have hr:=RatB.of_is (X:=B^10-1) (Y:=B^10-1) ⟨_,rfl,Nat.le_sub_one_of_lt (hz.2.2 l (n+s) hl (by omega))⟩ ⟨_,rfl,Nat.le_sub_one_of_lt hz.2.1⟩ (zb6 hz.1);have hp:0<B^10:=Nat.pow_pos (by decide);exact zhh hr (by omega) (by omega)
end Go.Num
namespace Go.Num
open Go.Eng Go.Shelf Go.RowKit Go.Sort Go.Proofs Go.Proofs.YtoamcgjbelhnkaaGreatDoor
attribute [local go_sem] Oper.semAt_some
theorem zao.formS{w:World}{v:Value}{q:Rat}(h:zao w v q):∃(s:Bool) (o1:Option Addr) (k1 c1:Nat) (o2:Option Addr) (k2 c2:Nat),v = .agg #[.bool s,.slice o1 k1 c1,.slice o2 k2 c2]:=by
 obtain⟨o1,k1,c1,o2,k2,c2,e⟩:=h.form;exact⟨_,o1,k1,c1,o2,k2,c2,e⟩
structure SumR(w0:World)(g:Nat)(q:Rat)(w:World):Prop where
 below:Below w0.heap.size w0 w
 box:∃s o1 k1 c1 o2 k2 c2,OBox w g 25 [.bool s,.slice o1 k1 c1,.slice o2 k2 c2]∧zao w (.agg #[.bool s,.slice o1 k1 c1,.slice o2 k2 c2]) q
 ge:w0.heap.size≤g
theorem SumR.under{w0 w w':World}{g:Nat}{q:Rat}(h:SumR w0 g q w)(hb:Below w.heap.size w w'):SumR w0 g q w':=by
 obtain⟨s,o1,k1,c1,o2,k2,c2,h1,h2⟩:=h.box;exact⟨h.below.trans (hb.mono h.below.size),⟨s,o1,k1,c1,o2,k2,c2,h1.below hb,h2.below hb⟩,h.ge⟩
theorem SumR.there{w0 w:World}{g:Nat}{q:Rat}(h:SumR w0 g q w):w.there g 0 3:=by
 obtain⟨s,o1,k1,c1,o2,k2,c2,h1,_⟩:=h.box;exact h1.there
theorem SumR.store{w0 w:World}{g:Nat}{q q':Rat}(h:SumR w0 g q w){s:Bool}{o1 o2:Option Addr}{k1 c1 k2 c2:Nat}(hq:zao w (.agg #[.bool s,.slice o1 k1 c1,.slice o2 k2 c2]) q'):SumR w0 g q' (w.setCells g 0 [.bool s,.slice o1 k1 c1,.slice o2 k2 c2]):=by
 obtain⟨_,_,_,_,_,_,_,h1,h2⟩:=h.box;have hb:=zal g [.bool s,.slice o1 k1 c1,.slice o2 k2 c2] 0 w;have hk:=hb.kept h1.el rfl;exact⟨zbU h.ge _ _ _ h.below,⟨s,o1,k1,c1,o2,k2,c2,h1.store rfl,zao.kept hq hk⟩,h.ge⟩
theorem zkz{w:World}{a:Addr}{c n:Nat}{Q:Nat→Nat→Rat}(h:MatR w (.slice (some a) n c) (tab n n Q)){i j:Nat}(hi:i<n)(hj:j<n):∃al cl,w.cell? (a.add i)=some (.slice (some al) n cl)∧∃sg o1 k1 c1 o2 k2 c2,w.cell? (al.add (j*3))=some (.bool sg)∧w.cell? ⟨(al.add (j*3)).block,(al.add (j*3)).off+1,none⟩=some (.slice o1 k1 c1)∧w.cell? ⟨(al.add (j*3)).block,(al.add (j*3)).off+2,none⟩=some (.slice o2 k2 c2)∧zao w (.agg #[.bool sg,.slice o1 k1 c1,.slice o2 k2 c2]) (Q i j):=by
 obtain⟨_,row,_,hcell,u,rfl,hu⟩:=zah.at' h (zek (A:=Q) hi);have x0:=hcell 0 u rfl;rw [Addr.add_add,Nat.add_zero,Nat.mul_one]at x0;obtain⟨al,cl,rfl⟩:=zah.some hu (by simp;omega);rw [List.length_map,List.length_range]at x0 hu;obtain⟨_,sg,o1,k1,c1,o2,k2,c2,y0,y1,y2,hra⟩:=zah.item hu (i:=j) (q:=Q i j) (by simp [hj]);exact⟨al,cl,x0,sg,o1,k1,c1,o2,k2,c2,y0,y1,y2,hra⟩
theorem zta{F:Fence}{n:Nat}{P:Program}{ops:Array Oper}{rest:List Oper}{y:Operand}{ty:TypeId}{ps:String}{af:Array Edge}{a:CAct}{Q:Exit→CAct→World→Prop}{w:World}
  (h:Stop (wpListIn F n P ops Q ({op:=.store 25 (.tmp 9) y,dst:=none,type:=ty,pos:=ps,after:=af,guard:=none} :: rest) a w)):wpListIn F n P ops Q ({op:=.store 25 (.tmp 9) y,dst:=none,type:=ty,pos:=ps,after:=af,guard:=none} :: rest) a w:=h
theorem zsj{f:Nat→Rat}{L:Nat}:∀{n:Nat},(∀s,s<n→zar (f s) L)→zar (sumQ f n) (n*(L+1)+1)
 | 0,_=>zb5 (by omega)
 | n+1,h=>(zhQ (zsj (n:=n) fun s hs=>h s (by omega)) (h n (by omega))).mono (by rw [Nat.add_mul];omega)
theorem zet(w:World)(vx vy:Value)(n:Nat)(Q P:Nat→Nat→Rat)(hx:MatR w vx (tab n n Q))(hy:MatR w vy (tab n n P))(h0:0<n)(h9:n≤8)(hq:∀i j,i<n→j<n→zar (Q i j) 20)(hp:∀i j,i<n→j<n→zar (P i j) 20)(hT:zaU w) :
  CallsIn Fence.wide 0 Tryz.prog 57 #[vx,vy] w fun e w'=>∃v',e = .returned v'∧MatR w' v' (tab n n (mulM n Q P))∧Below w.heap.size w w':=by
 obtain⟨a,c,rfl⟩:=zah.some hx (by rw [zaq];exact h0);obtain⟨b,d,rfl⟩:=zah.some hy (by rw [zaq];exact h0);have HX:=zHi hx;have HY:=zHi hy;have HQ:=zHi hq;have HP:=zHi hp;have HT:=zHi hT;rw [zaq]at HX HY ⊢;rw [zaq];clear hx hy hq hp hT;refine callsIn_of_wp Tryz.func57 rfl trivial ?_ rfl;simp only [Tryz.ntmps57,ztE,ztF,ztG,Nat.reduceAdd,Nat.reduceSub,ztH,ztI,ztJ,ztK,ztL,ztM];gi_wp2;gi_loopw [5,6] (fun x5 x6 wr=>∃i:Nat,x6 = .int .i64 (i:Int)∧i≤n∧Hid (OwnR wr w.heap.size 64 1 zaF x5 (tab i n (mulM n Q P)))∧Hid (Below w.heap.size w wr)) (fun _ x _=>n-(intOf x).toNat)
 case atStart=>exact⟨0,rfl,by omega,OwnR.nil _ _ _ _ _,Below.refl _ w⟩
 case round=>
  obtain⟨ws,hws⟩:∃ws,ws=wr:=⟨_,rfl⟩;subst hws;obtain⟨i,rfl,hi,HO,HBr⟩:=hrel;obtain⟨oo,co,hof⟩:=HO.out.form;rw [zaq]at hof;subst hof;by_cases hin:i<n
  ·gi_wp2;gi_loopw [7,8] (fun x7 x8 wi=>∃k:Nat,x8 = .int .i64 (k:Int)∧k≤n∧Hid (OwnR wi ws.heap.size 25 3 IR x7 (rowF (mulM n Q P i) k))∧Hid (Below ws.heap.size ws wi)) (fun _ x _=>n-(intOf x).toNat)
   case atStart=>exact⟨0,rfl,by omega,OwnR.nil _ _ _ _ _,Below.refl _ ws⟩
   case round=>
    obtain⟨wk,hwk⟩:∃wk,wk=wr:=⟨_,rfl⟩;subst hwk;obtain⟨k,rfl,hk,HOi,HBi⟩:=hrel;obtain⟨oi,ci,hif⟩:=HOi.out.form;rw [zan]at hif;subst hif;have HBw:=zHi (HBr.out.trans (HBi.out.mono HBr.out.size));by_cases hkn:k<n
    ·gi_wp2;obtain⟨g9,hg9⟩:∃g,wk.heap.size=g:=⟨_,rfl⟩;have hs0:SumR wk g9 (sumQ (fun s=>Q i s*P s k) 0) (wk.alloc (.cells #[.bool false,.slice none 0 0,.slice none 0 0] 25)):=⟨zaa _ _,⟨_,_,_,_,_,_,_,by rw [←hg9];exact OBox.new _ _ _,zaL _⟩,by omega⟩;have HS0:=zHi hs0;have HG9:=zHi hg9;clear hs0 hg9;rw [HG9.out];gi_loopw [10] (fun x10 wi=>∃j:Nat,x10 = .int .i64 (j:Int)∧j≤n∧Hid (SumR wk g9 (sumQ (fun s=>Q i s*P s k) j) wi)) (fun x _=>n-(intOf x).toNat)
     case atStart=>exact⟨0,rfl,by omega,HS0⟩
     case round=>
      clear HS0;obtain⟨j,rfl,hj,HS⟩:=hrel;have HBx:=zHi (HBw.out.trans (HS.out.below.mono HBw.out.size));by_cases hjn:j<n
      ·obtain⟨al,cl,x0,sg,o1,k1,c1,o2,k2,c2,y0,y1,y2,hra⟩:=zkz (zah.below HX.out HBx.out (zaF.below HBx.out)) hin hjn;obtain⟨bl,dl,z0,sh,o3,k3,c3,o4,k4,c4,t0,t1,t2,hrb⟩:=zkz (zah.below HY.out HBx.out (zaF.below HBx.out)) hjn hkn;obtain⟨Z,hZ⟩:∃Z:Obj,Obj.cells #[.bool false,.slice none 0 0,.slice none 0 0] 25=Z:=⟨_,rfl⟩;have hd1:=zab wr;have hd2:Below wr.heap.size wr (wr.alloc Z).drew:=(zaa wr Z).trans ((zab (wr.alloc Z)).mono (zaa wr Z).size);have mk:∀{p:Addr} {v:Value},wr.cell? p=some v→wr.drew.cell? p=some v∧(wr.alloc Z).drew.cell? p=some v:=fun h=>⟨(hd1.cell (World.block_lt_of_cell? _ _ h)).trans h,(hd2.cell (World.block_lt_of_cell? _ _ h)).trans h⟩
       obtain⟨x0a,x0b⟩:=mk x0;obtain⟨z0a,z0b⟩:=mk z0;obtain⟨y0a,y0b⟩:=mk y0;obtain⟨y1a,y1b⟩:=mk y1;obtain⟨y2a,y2b⟩:=mk y2;obtain⟨t0a,t0b⟩:=mk t0;obtain⟨t1a,t1b⟩:=mk t1;obtain⟨t2a,t2b⟩:=mk t2;rw [←hZ]at x0b z0b y0b y1b y2b t0b t1b t2b;have HRA:=zHi hra;have HRB:=zHi hrb;have HD1:=zHi hd1;have HD2:=zHi hd2;rw [←hZ]at HD2;clear mk hZ hra hrb hd1 hd2;gi_wp2;obtain⟨R2,hR2⟩:∃R:CAct→World→Prop,∀A W,R A W↔∃(yv11 yv12 yv39 yv40 yv41 yv42 yv43 yv44 yv45 yv46 yv47 yv48 yv49 yv50 yv51 yv52 yv53 yv54 yv55 yv56:Value),A={tmps:=#[Value.slice (some a) n c,Value.slice (some b) n d,undef,undef,Value.slice none 0 0,Value.slice oo i co,Value.int IntKind.i64 (i:Int),Value.slice oi k ci,Value.int IntKind.i64 (k:Int),Value.pointer (some ⟨g9,0,none⟩),Value.int IntKind.i64 (j:Int),yv11,yv12,u13,u14,Value.int IntKind.i64 (i:Int),Value.slice (some a) n c,Value.int IntKind.i64 (n:Int),Value.bool true,u19,u20,Value.int IntKind.i64 (k:Int),Value.slice (some a) n c,Value.int IntKind.i64 (n:Int),Value.bool true,u25,u26,Value.int IntKind.i64 (j:Int),Value.slice (some a) n c,Value.int IntKind.i64 (n:Int),Value.bool true,Value.bool true,Value.int IntKind.i64 (j:Int),Value.slice (some b) n d,Value.int IntKind.i64 (n:Int),Value.bool true,Value.bool true,u37,u38,yv39,yv40,yv41,yv42,yv43,yv44,yv45,yv46,yv47,yv48,yv49,yv50,yv51,yv52,yv53,yv54,yv55,yv56,u57,u58,u59,u60,u61,u62,u63,u64,u65,u66,u67,u68,u69,u70,u71,undef],defers:=[]}∧∃(gp:Nat) (s:Bool) (p1:Option Addr) (l1 d1:Nat) (p2:Option Addr) (l2 d2:Nat),yv11 = .pointer (some ⟨gp,0,none⟩)∧Below wr.heap.size wr W∧wr.heap.size≤gp∧OBox W gp 25 [.bool s,.slice p1 l1 d1,.slice p2 l2 d2]∧zao W (.agg #[.bool s,.slice p1 l1 d1,.slice p2 l2 d2]) (Q i j*P j k):=⟨_,fun _ _=>Iff.rfl⟩;have HR2:=zHi hR2;have HPL:Hid (zar (Q i j*P j k) 40):=zHi (zdB (HQ.out i j hin hjn) (HP.out j k hjn hkn));have HQL:=zHi (HQ.out i j hin hjn);have HPL2:=zHi (HP.out j k hjn hkn);have HTR:=zHi (HT.out.below HBx.out);clear hR2;refine zli R2 ?rest ?reg
       case reg=>
        gi_region_with (first
         | (gi_at_call 41;(with_reducible refine(zgz wr.drew _ _ (Q i j) (P j k) 20 (HRA.out.below HD1.out) (HRB.out.below HD1.out) HQL.out HPL2.out (by decide) (HPL.out.mono (by decide)) (zcv HPL.out (by decide) (by decide)) (HTR.out.below HD1.out)).mono ?_);rintro e w2 ⟨v2,rfl,hr2,hB2⟩;obtain⟨sv,p1,l1,e1,p2,l2,e2,rfl⟩:=hr2.formS;have HR:=zHi hr2;have HB2:=zHi hB2;clear hr2 hB2)
         | (gi_at_call 41;(with_reducible refine(zgz (wr.alloc (.cells #[.bool false,.slice none 0 0,.slice none 0 0] 25)).drew _ _ (Q i j) (P j k) 20 (HRA.out.below HD2.out) (HRB.out.below HD2.out) HQL.out HPL2.out (by decide) (HPL.out.mono (by decide)) (zcv HPL.out (by decide) (by decide)) (HTR.out.below HD2.out)).mono ?_);rintro e w2 ⟨v2,rfl,hr2,hB2⟩;obtain⟨sv,p1,l1,e1,p2,l2,e2,rfl⟩:=hr2.formS;have HR:=zHi hr2;have HBX2:=zHi ((OBox.new wr [.bool false,.slice none 0 0,.slice none 0 0] 25).below ((zab _).trans (hB2.mono (zab _).size)));have m0:=HBX2.out.box.2 0 _ rfl;have m1:=HBX2.out.box.2 1 _ rfl;have m2:=HBX2.out.box.2 2 _ rfl;have f0:=HBX2.out.free 0 (by decide);have f1:=HBX2.out.free 1 (by decide);have f2:=HBX2.out.free 2 (by decide);have HB2:=zHi hB2;clear hr2 hB2))
        all_goals refine(HR2.out _ _).2 ⟨_,_,_,_,_,_,_,_,_,_,_,_,_,_,_,_,_,_,_,_,rfl,?_⟩
        all_goals first
         | exact⟨_,sv,p1,l1,e1,p2,l2,e2,rfl,(HD1.out.trans (HB2.out.mono HD1.out.size)).trans ((zaa w2 _).mono (Nat.le_trans HD1.out.size HB2.out.size)),Nat.le_trans HD1.out.size HB2.out.size,OBox.new _ _ _,HR.out.below (zaa _ _)⟩
         | exact⟨_,sv,p1,l1,e1,p2,l2,e2,rfl,zbU (Nat.le_refl _) [.bool sv,.slice p1 l1 e1,.slice p2 l2 e2] 0 w2 (HD2.out.trans (HB2.out.mono HD2.out.size)),Nat.le_refl _,HBX2.out.store (ys:=[.bool sv,.slice p1 l1 e1,.slice p2 l2 e2]) rfl,zao.kept HR.out ((zal wr.heap.size [.bool sv,.slice p1 l1 e1,.slice p2 l2 e2] 0 w2).kept HBX2.out.el rfl)⟩
       case rest=>
        intro A W hR;obtain⟨yv11,yv12,yv39,yv40,yv41,yv42,yv43,yv44,yv45,yv46,yv47,yv48,yv49,yv50,yv51,yv52,yv53,yv54,yv55,yv56,rfl,gp,s5,p5,l5,d5,p6,l6,d6,rfl,hB,hge,hbx,hrt⟩:=(HR2.out _ _).1 hR;have hs:=HS.out.under hB;obtain⟨sa,o7,k7,c7,o8,k8,c8,hb9,hr9⟩:=hs.box;have HSW:=zHi hs;have HPR:=zHi hrt;have HB9:=zHi hr9;have HBW:=zHi (HBw.out.trans (hs.below.mono HBw.out.size));have q0:=hb9.box.2 0 _ rfl;have q1:=hb9.box.2 1 _ rfl;have q2:=hb9.box.2 2 _ rfl;have e0:=hbx.box.2 0 _ rfl;have e1:=hbx.box.2 1 _ rfl;have e2:=hbx.box.2 2 _ rfl;have HSL:Hid (∀m,m≤n→zar (sumQ (fun s=>Q i s*P s k) m) 400):=zHi (fun m hm=>(zsj (L:=40) fun s hs=>zdB (HQ.out i s hin (by omega)) (HP.out s k (by omega) hkn)).mono (by omega));clear hR hs hb9 hr9 hbx hrt hB x0 x0a x0b z0 z0a z0b y0 y0a y0b y1 y1a y1b y2 y2a y2b t0 t0a t0b t1 t1a t1b t2 t2a t2b HRA HRB HD1 HD2 HR2;gi_wp2_with (gi_at_call 39;refine stop ?_)
        unfold Stop;refine(zpl W _ _ (sumQ (fun s=>Q i s*P s k) j) (Q i j*P j k) 400 HB9.out HPR.out (HSL.out j hj) (HPL.out.mono (by decide)) (by decide) ((HSL.out (j+1) (by omega)).mono (by decide)) (zcv (HSL.out (j+1) (by omega)) (by decide) (by decide)) (HT.out.below HBW.out)).mono ?_;rintro e w3 ⟨v3,rfl,hr3,hB3⟩;obtain⟨sv,p1,l1,u1,p2,l2,u2,rfl⟩:=hr3.formS;have hal:=zaa w3 (.cells #[.bool sv,.slice p1 l1 u1,.slice p2 l2 u2] 25);have hs4:=HSW.out.under (hB3.trans (hal.mono hB3.size));have HTH:=zHi hs4.there;have HSN:Hid (SumR wk g9 (sumQ (fun s=>Q i s*P s k) (j+1)) ((w3.alloc (.cells #[.bool sv,.slice p1 l1 u1,.slice p2 l2 u2] 25)).setCells g9 0 [.bool sv,.slice p1 l1 u1,.slice p2 l2 u2])):=zHi (hs4.store (hr3.below hal));clear hr3 hB3 hal hs4 q0 q1 q2 e0 e1 e2;gi_wp2_with (with_reducible refine zta ?_)
        unfold Stop;refine zdr _ rfl rfl (zkc HTH.out (by simp [Value.oneCell'])) ?_;gi_wp2;exact⟨⟨j+1,by go_num,by omega,HSN⟩,by simp only [intOf];omega⟩
      ·obtain rfl:j=n:=by omega
       obtain⟨sa,o7,k7,c7,o8,k8,c8,hb9,hr9⟩:=HS.out.box;have q0:=hb9.box.2 0 _ rfl;have q1:=hb9.box.2 1 _ rfl;have q2:=hb9.box.2 2 _ rfl;have HR9:=zHi hr9;have HO7:=zHi (HOi.out.below HS.out.below (IR.below HS.out.below));have HBi2:=zHi (HBi.out.trans (HS.out.below.mono HBi.out.size));clear hb9 hr9;gi_wp2_with (gi_at_builtin;refine stop ?_)
       unfold Stop;refine zaN (ty:=25) (sz:=3) (bytes:=56) ws wr rfl _ _ rfl Go.Num.u64 i25' i25z i25s i25b rfl (by decide) (by decide) (.slice oi k ci) (rowF (mulM j Q P i) k) rfl HO7.out (mulM j Q P i k) [.bool sa,.slice o7 k7 c7,.slice o8 k8 c8] _ rfl rfl (by simp [Value.oneCell']) HR9.out (fun b r w1 w2 ht=>IR.touch ht rfl b r) (by rw [zan];omega) HBi2.out ?_;intro v5 w4 HO5 HB4 HT4 _;rw [←zhN (mulM j Q P i) k]at HO5;clear q0 q1 q2;gi_wp2;exact⟨⟨k+1,by go_num,by omega,HO5,HB4⟩,by simp only [intOf];omega⟩
    ·obtain rfl:k=n:=by omega
     have H3:=zHi (HO.out.below HBi.out (zaF.below HBi.out));gi_wp2_with (gi_at_builtin;refine stop ?_)
     unfold Stop;refine zaN (ty:=64) (sz:=1) (bytes:=24) w wk rfl _ _ rfl Go.Num.u55 i64i i64z i64s i64b rfl (by decide) (by decide) (.slice oo i co) (tab i k (mulM k Q P)) rfl H3.out (rowF (mulM k Q P i) k) [.slice oi k ci] _ rfl rfl (by simp [Value.oneCell']) ⟨_,rfl,HOi.out.row (by rw [zan];omega)⟩ (fun b r w1 w2 ht=>zaF.touch ht rfl (by decide) b r) (by rw [zaq];omega) HBw.out ?_;intro v7 w5 HO7 HB5 HT5 _;rw [←znv i k (mulM k Q P)]at HO7;gi_wp2;exact⟨⟨i+1,by go_num,by omega,HO7,HB5⟩,by simp only [intOf];omega⟩
  ·obtain rfl:i=n:=by omega
   gi_wp2;all_goals (first|go_returns|go_ret|go_end0)
   exact⟨_,rfl,HO.out.row (by rw [zaq];omega),HBr.out⟩
end Go.Num
