/-
  Decimal digits as a number, and back; what is canonical. Digits by limbs of nine: from the highest limb on, and digit by digit from the lowe
  Conditions: see each statement.
-/
import Derived.Test.YtepakfjilnpodaaGreatDoorRBAK
import Derived.Lib.ParseIntBCases
import Derived.Lib.AtoiTie
import Derived.Test.YtepakfjilnpodaaGreatDoorRBAA
import Derived.Test.YtepakfjilnpodaaGreatDoorRBAF
import Derived.Lib.IndexMore
import Derived.Test.YtepakfjilnpodaaGreatDoorRBAN
set_option maxRecDepth 100000
set_option maxHeartbeats 8000000
namespace Go.Num
open Go.Lib
def zaX(b:UInt8):Bool:=decide (48≤b.toNat∧b.toNat≤57)
def zae(l:List UInt8):Nat:=l.foldl (fun a b=>10*a+(b.toNat-48)) 0
theorem zpq(l:List UInt8):∀a:Nat,l.foldl (fun a b=>10*a+(b.toNat-48)) a=a*10^l.length+zae l:=by
 induction l with
 | nil=>intro a;simp [zae]
 | cons b r ih=>
  intro a;show r.foldl _ (10*a+(b.toNat-48))=_
  have e:zae (b :: r)=(b.toNat-48)*10^r.length+zae r:=by
   show r.foldl _ (10*0+(b.toNat-48))=_
   rw [ih,Nat.mul_zero,Nat.zero_add]
  rw [ih,e,List.length_cons,Nat.pow_succ,Nat.add_mul,Nat.add_assoc,Nat.mul_comm 10 a,Nat.mul_assoc,Nat.mul_comm 10]
theorem zdm(a b:List UInt8):zae (a ++ b)=zae a*10^b.length+zae b:=by
 show(a ++ b).foldl _ 0=_
 rw [List.foldl_append,zpq];rfl
theorem zcg(b:UInt8):zae [b]=b.toNat-48:=by simp [zae]
theorem zfR(b:UInt8)(r:List UInt8):zae (b :: r)=(b.toNat-48)*10^r.length+zae r:=by
 have:=zdm [b] r;rw [zcg]at this;exact this
theorem zfQ(a:List UInt8)(b:UInt8):zae (a ++ [b])=zae a*10+(b.toNat-48):=by
 rw [zdm,zcg];simp
theorem zhk{b:UInt8}(h:zaX b=true):b.toNat-48<10:=by
 have:=of_decide_eq_true h;omega
theorem zd8{l:List UInt8}(h:l.all zaX=true):zae l<10^l.length:=by
 induction l with
 | nil=>simp [zae]
 | cons b r ih=>
  simp only [List.all_cons,Bool.and_eq_true]at h;have h1:=zhk h.1;have h2:=ih h.2;have e:zae (b :: r)=(b.toNat-48)*10^r.length+zae r:=zfR b r;rw [e,List.length_cons,Nat.pow_succ,Nat.mul_comm _ 10];have:(b.toNat-48)*10^r.length≤9*10^r.length:=Nat.mul_le_mul_right _ (by omega);omega
theorem zkn{l:List UInt8}(h:l.all zaX=true)(m:Nat):(l.take m).all zaX=true:=by
 rw [List.all_eq_true]at h ⊢;exact fun x hx=>h x (List.mem_of_mem_take hx)
theorem zko{l:List UInt8}(h:l.all zaX=true)(m:Nat):(l.drop m).all zaX=true:=by
 rw [List.all_eq_true]at h ⊢;exact fun x hx=>h x (List.mem_of_mem_drop hx)
theorem zfP{l:List UInt8}(h:l.all zaX=true)(m:Nat):zae (l.take m)=zae l/10^(l.length-m):=by
 have e:zae l=zae (l.take m)*10^(l.length-m)+zae (l.drop m):=by
  have:=zdm (l.take m) (l.drop m);rw [List.take_append_drop,List.length_drop]at this;exact this
 have h2:=zd8 (zko h m);rw [List.length_drop]at h2;rw [e,Nat.mul_comm,Nat.mul_add_div (Nat.pow_pos (by decide)),Nat.div_eq_of_lt h2,Nat.add_zero]
theorem zmn{l:List UInt8}(h:l.all zaX=true)(m:Nat):zae (l.drop m)=zae l%10^(l.length-m):=by
 have e:zae l=zae (l.take m)*10^(l.length-m)+zae (l.drop m):=by
  have:=zdm (l.take m) (l.drop m);rw [List.take_append_drop,List.length_drop]at this;exact this
 have h2:=zd8 (zko h m);rw [List.length_drop]at h2;rw [e,Nat.mul_comm,Nat.mul_add_mod,Nat.mod_eq_of_lt h2]
def zbv(l:List UInt8):Bool:=!l.isEmpty && (l == [48] || !(l.head? == some 48)) && l.all zaX
theorem zjC{b:UInt8}(h:zaX b=true):UInt8.ofNat (48+(b.toNat-48))=b:=by
 have:=of_decide_eq_true h;rw [show 48+(b.toNat-48)=b.toNat by omega];exact UInt8.ofNat_toNat
theorem zd7{d:Nat}(h:d<10):(UInt8.ofNat (48+d)).toNat=48+d:=by
 rw [UInt8.toNat_ofNat'];omega
theorem zbY{l:List UInt8}(h:zbv l=true):l.all zaX=true:=by
 unfold zbv at h;simp only [Bool.and_eq_true]at h;exact h.2
theorem zqw{l:List UInt8}(h:zbv l=true):l ≠ []:=by
 rintro rfl;simp [zbv]at h
theorem zn0:∀{l:List UInt8} {b:UInt8},(b :: l).all zaX=true→b≠48→0<zae (b :: l):=by
 intro l b h hb;have e:zae (b :: l)=(b.toNat-48)*10^l.length+zae l:=zfR b l;simp only [List.all_cons,Bool.and_eq_true]at h;have h1:=of_decide_eq_true h.1;have:b.toNat≠48:=fun e=>hb (UInt8.toNat_inj.1 e)
 have h2:0<10^l.length:=Nat.pow_pos (by decide);have:1*10^l.length≤(b.toNat-48)*10^l.length:=Nat.mul_le_mul_right _ (by omega);omega
theorem zgr:∀(n:Nat) (l:List UInt8),l.length=n+1→l.all zaX=true→(n=0∨l.head? ≠ some 48)→decDigits (zae l)=l
 | 0,l,hn,hd,_=>by
  match l,hn with
  | [b],_=>
   simp only [List.all_cons,List.all_nil,Bool.and_true]at hd;have h1:=zhk hd;rw [zcg,decDigits,dif_pos h1,zjC hd]
 | n+1,l,hn,hd,hh=>by
  obtain⟨a,b,rfl⟩:∃a b,l=a ++ [b]:=by
   have hne:l ≠ []:=by rintro rfl;simp at hn
   exact⟨l.dropLast,l.getLast hne,(List.dropLast_concat_getLast hne).symm⟩
  rw [List.length_append,List.length_singleton]at hn;rw [List.all_append,Bool.and_eq_true]at hd;have hb:zaX b=true:=by have:=hd.2;simpa using this
  have h1:=zhk hb;have hah:a.head? ≠ some 48:=by
   rcases hh with hh|hh
   ·omega
   ·intro e;apply hh
    cases a with
    | nil=>simp at e
    | cons c r=>simpa using e
  have hpos:0<zae a:=by
   cases a with
   | nil=>simp at hn
   | cons c r=>exact zn0 hd.1 (fun e=>hah (by simp [e]))
  rw [zfQ,decDigits,dif_neg (by omega),show(zae a*10+(b.toNat-48))/10=zae a by omega,show(zae a*10+(b.toNat-48))%10=b.toNat-48 by omega,zjC hb];rw [zgr n a (by omega) hd.1 (.inr hah)]
theorem zlp{l:List UInt8}(h:zbv l=true):decDigits (zae l)=l:=by
 have hd:=zbY h;have hn:=zqw h;obtain⟨n,hl⟩:∃n,l.length=n+1:=by
  cases l with
  | nil=>exact absurd rfl hn
  | cons a r=>exact⟨r.length,rfl⟩
 refine zgr n l hl hd ?_;unfold zbv at h;simp only [Bool.and_eq_true,Bool.or_eq_true]at h;rcases h.1.2 with h|h
 ·left;have:l = [48]:=by simpa using h
  rw [this]at hl;simp at hl;omega
 ·right;intro e;rw [e]at h;simp at h
theorem zmm(u:Nat):(decDigits u).all zaX=true:=by
 induction u using Nat.strongRecOn with
 | _ u ih=>
  rw [decDigits];split
  ·rename_i h;simp only [List.all_cons,List.all_nil,Bool.and_true,zaX,zd7 h];exact decide_eq_true (by omega)
  ·rename_i h;rw [List.all_append,ih (u/10) (by omega)];simp only [List.all_cons,List.all_nil,Bool.and_true,Bool.true_and,zaX,zd7 (show u%10<10 by omega)];exact decide_eq_true (by omega)
theorem zjM(u:Nat):zae (decDigits u)=u:=by
 induction u using Nat.strongRecOn with
 | _ u ih=>
  rw [decDigits];split
  ·rename_i h;rw [zcg,zd7 h];omega
  ·rename_i h;rw [zfQ,ih (u/10) (by omega),zd7 (by omega)];omega
theorem zqO(u:Nat):decDigits u ≠ []:=by
 intro h;have:=decDigits_length u;rw [h]at this;have:=nDigits_pos u;simp at *
 omega
theorem zqq(u:Nat)(h:0<u):(decDigits u).head? ≠ some 48:=by
 induction u using Nat.strongRecOn with
 | _ u ih=>
  rw [decDigits];split
  ·rename_i h10;intro e;have e:UInt8.ofNat (48+u)=48:=by simpa using e
   have:=zd7 h10;rw [e]at this;have:(48:Nat)=48+u:=this;omega
  ·rename_i h10;have:=ih (u/10) (by omega) (by omega);intro e;apply this
   cases hc:decDigits (u/10)with
   | nil=>exact absurd hc (zqO _)
   | cons c r=>rw [hc]at e;simpa using e
theorem zix(u:Nat):zbv (decDigits u)=true:=by
 unfold zbv;simp only [Bool.and_eq_true,Bool.or_eq_true];refine⟨⟨?_,?_⟩,zmm u⟩
 ·cases hc:decDigits u with
  | nil=>exact absurd hc (zqO _)
  | cons c r=>rfl
 ·rcases Nat.eq_zero_or_pos u with rfl|h
  ·left;rw [decDigits];rfl
  ·right;have:=zqq u h
   cases hc:(decDigits u).head? with
   | none=>rfl
   | some c=>
    rw [hc]at this;have hne:c≠48:=fun e=>this (by rw [e])
    simp [hne]
theorem zii:∀(l:List UInt8) (acc:Nat),l.all zaX=true→decFrom acc l=some (acc*10^l.length+zae l)
 | [],acc,_=>by simp [decFrom,zae]
 | b :: r,acc,h=>by
  simp only [List.all_cons,Bool.and_eq_true]at h;have h1:=of_decide_eq_true h.1;have e:zae (b :: r)=(b.toNat-48)*10^r.length+zae r:=zfR b r;unfold decFrom digitVal;rw [if_pos h1];show decFrom (acc*10+(b.toNat-48)) r=_
  rw [zii r _ h.2,e,List.length_cons,Nat.pow_succ,Nat.add_mul,Nat.add_assoc,Nat.mul_assoc,Nat.mul_comm 10]
theorem zl3{l:List UInt8}(h:l.all zaX=true)(hn:l ≠ [])(h9:l.length≤9):parseUintB 64 l = .ok (zae l):=by
 rw [parseUintB_64];unfold parseMag;rw [if_neg hn,parseUint10_short l 0 0 (by decide) (by omega),zii l 0 h,Nat.zero_mul,Nat.zero_add];rfl
def zas(l:List UInt8):Nat:=(l.takeWhile (fun b => !(b == 47))).length
theorem zmK(l:List UInt8):zas l≤l.length:=(List.takeWhile_sublist _).length_le
theorem znD(l:List UInt8):l.take (zas l)=l.takeWhile (fun b => !(b == 47)):=by
 unfold zas;induction l with
 | nil=>rfl
 | cons b r ih=>
  rw [List.takeWhile_cons];split
  ·simp only [zsk,List.take_succ_cons,ih]
  ·simp
theorem zgX(l:List UInt8){i:Nat}(h:i<zas l):l[i]? ≠ some 47:=by
 have h1:(l.take (zas l))[i]? = l[i]?:=by rw [List.getElem?_take,if_pos h]
 rw [znD]at h1;intro e;rw [e]at h1;have hm:=List.mem_of_getElem? h1;have:=(List.all_eq_true.1 (List.all_takeWhile (p:=fun b:UInt8 => !(b == 47)) (l:=l))) _ hm;simp at this
theorem zjP(l:List UInt8)(h:zas l<l.length):l[zas l]? = some 47:=by
 unfold zas at *;induction l with
 | nil=>simp at h
 | cons b r ih=>
  rw [List.takeWhile_cons]at h ⊢;split
  ·rename_i hb;rw [if_pos hb]at h;simp only [zsk,List.getElem?_cons_succ]at h ⊢;exact ih (by omega)
  ·rename_i hb;have hb':b=47:=by simpa using hb
   rw [hb'];rfl
theorem zeM{l:List UInt8}{k:Nat}(h1:∀i,i<k→l[i]? ≠ some 47)(h2:k<l.length→l[k]? = some 47)(h3:k≤l.length):zas l=k:=by
 rcases Nat.lt_trichotomy (zas l) k with h|h|h
 ·exact absurd (zjP l (by omega)) (h1 _ h)
 ·exact h
 ·have:=zmK l;exact absurd (h2 (by omega)) (zgX l h)
theorem zeY(l:List UInt8):List.isPrefixOf [47] l=(l.head? == some 47):=by
 cases l with
 | nil=>rfl
 | cons b r=>
  simp only [List.isPrefixOf,List.head?_cons,Bool.and_true];rw [Bool.eq_iff_iff];simp
  exact eq_comm
theorem zma(l:List UInt8):index l [47]=if zas l<l.length then(zas l:Int)else -1:=by
 rcases index_spec l [47]with⟨h1,h2⟩|⟨i,h1,h2,h3,h4⟩
 ·rw [h1,if_neg];intro h;have:=h2 (zas l) (by omega);unfold occAt at this;rw [zeY,List.head?_drop,zjP l h]at this;simp at this
 ·have hi:l[i]? = some 47:=by
   unfold occAt at h3;rw [zeY,List.head?_drop]at h3;simpa using h3
  have hlt:i<l.length:=by
   apply Classical.byContradiction
   intro hn;rw [List.getElem?_eq_none (by omega)]at hi
   cases hi
  have hs:zas l=i:=zeM (fun j hj e=>by
   have:=h4 j hj;unfold occAt at this;rw [zeY,List.head?_drop,e]at this;simp at this) (fun _=>hi) h2
  rw [h1,hs,if_pos hlt]
theorem zpv(l:List UInt8):cut l [47]=if zas l<l.length then(l.take (zas l),l.drop (zas l+1),true)else(l,[],false):=by
 unfold cut;rw [zma];by_cases h:zas l<l.length
 ·rw [if_pos h,if_pos h,if_pos (by omega)];simp
 ·rw [if_neg h,if_neg h,if_neg (by omega)]
def zci(l:List UInt8):Bool:=hasPrefix l [45]
def zaN(l:List UInt8):List UInt8:=trimPrefix l [45]
def zbQ(l:List UInt8):Option Int:=
 if zbv (zaN l) && !(zci l && zaN l == [48])then some (sgn (zci l) (zae (zaN l)))else none
theorem zd4(b:UInt8)(r:List UInt8):zci (b :: r)=(b == 45):=by
 unfold zci hasPrefix;simp only [List.isPrefixOf,Bool.and_true];rw [Bool.eq_iff_iff];simp;exact eq_comm
theorem zk0(r:List UInt8):zaN (45 :: r)=r:=by
 unfold zaN trimPrefix;rw [if_pos (by rfl)];rfl
theorem zgi{l:List UInt8}(h:zci l=false):zaN l=l:=by
 unfold zaN trimPrefix;rw [if_neg];unfold zci at h;rw [h];simp
theorem zp6{l:List UInt8}(h:zci l=true):∃r,l=45 :: r:=by
 cases l with
 | nil=>simp [zci,hasPrefix]at h
 | cons b r=>rw [zd4]at h;exact⟨r,by rw [show b=45 by simpa using h]⟩
theorem znj(u:Nat):zci (decDigits u)=false:=by
 have:=zmm u
 cases h:decDigits u with
 | nil=>rfl
 | cons b r=>
  rw [h]at this;simp only [List.all_cons,Bool.and_eq_true]at this;have h1:=of_decide_eq_true this.1;rw [zd4,beq_eq_false_iff_ne];rintro rfl;have:(45:UInt8).toNat=45:=rfl;omega
theorem zi4(z:Int):zbQ (itoa z)=some z:=by
 unfold itoa;split
 ·rename_i hz;have hn:zci (45 :: decDigits z.natAbs)=true:=by rw [zd4];rfl
  have hc:(zbv (decDigits z.natAbs) && !(decDigits z.natAbs == [48]))=true:=by
   rw [zix];have:decDigits z.natAbs ≠ [48]:=by
    intro e;have:=zjM z.natAbs;rw [e,zcg]at this;simp at this
    omega
   simpa using this
  unfold zbQ;rw [hn,zk0,Bool.true_and,if_pos hc,zjM];unfold sgn;rw [if_pos rfl];congr 1;omega
 ·rename_i hz;unfold zbQ;rw [znj,zgi (znj _),zix];simp only [Bool.false_and,Bool.not_false,Bool.and_self,if_true,zjM,Option.some.injEq];unfold sgn;rw [if_neg (by simp)];omega
theorem zld(z:Int):∀x∈itoa z,x≠47:=by
 have hd:∀u,∀x∈decDigits u,x≠47:=fun u x hx=>by
  have:=List.all_eq_true.1 (zmm u) x hx;have:=of_decide_eq_true this;rintro rfl;have:(47:UInt8).toNat=47:=rfl;omega
 unfold itoa;split
 ·intro x hx;rcases List.mem_cons.1 hx with rfl|hx
  ·decide
  ·exact hd _ x hx
 ·exact hd _
def zck(l:List UInt8):Option Rat:=
 if zas l<l.length then
  match zbQ (l.take (zas l))with
  | none=>none
  | some z=>if zbv (l.drop (zas l+1)) && decide (2≤zae (l.drop (zas l+1))) && decide (Nat.gcd z.natAbs (zae (l.drop (zas l+1)))=1)
   then some ((z:Rat)/(zae (l.drop (zas l+1)):Rat))else none
 else match zbQ l with
  | none=>none
  | some z=>some ((z:Int):Rat)
def ziL(q:Rat):List UInt8:=if q.den=1 then itoa q.num else itoa q.num ++ 47 :: decDigits q.den
theorem zfC{z:Int}{d:Nat}(hd:d≠0)(hg:Nat.gcd z.natAbs d=1):((z:Rat)/(d:Rat)).num=z∧((z:Rat)/(d:Rat)).den=d:=by
 have e:(z:Rat)/(d:Rat)=frac (decide (z<0)) z.natAbs d:=by
  unfold frac;have:sgn (decide (z<0)) z.natAbs=z:=by unfold sgn;simp;omega
  rw [this,Rat.divInt_eq_div];rfl
 have h:=zfi (neg:=decide (z<0)) (n:=z.natAbs) hd;rw [←e,Nat.gcd_comm,hg,Nat.div_one,Nat.div_one]at h;refine⟨?_,h.2.1⟩;have h3:=h.2.2;have h1:=h.1;by_cases hz:z<0
 ·have:=h3.2 ⟨decide_eq_true hz,by omega⟩;omega
 ·have:¬((z:Rat)/(d:Rat)).num<0:=fun hh=>hz (of_decide_eq_true (h3.1 hh).1)
  omega
theorem zoA{a b:List UInt8}(h:∀x∈a,x≠47):zas (a ++ 47 :: b)=a.length:=by
 refine zeM (fun i hi e => ?_) (fun _=>by simp) (by simp);rw [List.getElem?_append_left hi]at e;exact h _ (List.mem_of_getElem? e) rfl
theorem znE{a:List UInt8}(h:∀x∈a,x≠47):zas a=a.length:=
 zeM (fun _ _ e=>h _ (List.mem_of_getElem? e) rfl) (fun h=>absurd h (by omega)) (Nat.le_refl _)
theorem znA(q:Rat):zck (ziL q)=some q:=by
 unfold ziL;split
 ·rename_i h1;have hs:zas (itoa q.num)=(itoa q.num).length:=znE (zld _);unfold zck;rw [hs,if_neg (by omega),zi4];show some ((q.num:Rat))=some q
  congr 1
  apply Rat.ext
  ·exact Rat.num_intCast _
  ·rw [h1];exact Rat.den_intCast _
 ·rename_i h1;have hs:zas (itoa q.num ++ 47 :: decDigits q.den)=(itoa q.num).length:=zoA (zld _);have hz:=q.den_nz;unfold zck;rw [hs,if_pos (by simp),List.take_left,zi4];have e:(itoa q.num ++ 47 :: decDigits q.den).drop ((itoa q.num).length+1)=decDigits q.den:=by
   rw [List.drop_append];simp
  rw [e,zix,zjM];have hc:(true && decide (2≤q.den) && decide (Nat.gcd q.num.natAbs q.den=1))=true:=by
   have:Nat.gcd q.num.natAbs q.den=1:=q.reduced;simp [this];omega
  rw [show(match some q.num with|none=>none|some z=>if(true && decide (2≤q.den) && decide (Nat.gcd z.natAbs q.den=1))=true then some ((z:Rat)/(q.den:Rat))else none)=if(true && decide (2≤q.den) && decide (Nat.gcd q.num.natAbs q.den=1))=true then some ((q.num:Rat)/(q.den:Rat))else none from rfl,if_pos hc];congr 1
  have hp:=zfC (z:=q.num) hz q.reduced;exact Rat.ext hp.1 hp.2
theorem zmA(k:Nat):B^k=10^(9*k):=by
 rw [Nat.pow_mul];rfl
theorem zn2{l:List UInt8}(h:l.all zaX=true){i m:Nat}(hm:m+9*i=l.length):zae ((l.take m).drop (m-9))=limb (zae l) i:=by
 have hlen:(l.take m).length=m:=by rw [List.length_take];omega
 rw [zmn (zkn h m),hlen,zfP h m,show l.length-m=9*i by omega,←zmA];unfold limb;rcases Nat.lt_or_ge m 9 with h9|h9
 ·have h1:zae l/B^i<10^m:=by
   have:=zd8 (zkn h m);rw [zfP h m,hlen,show l.length-m=9*i by omega,←zmA]at this;exact this
  have h2:10^m≤10^9:=Nat.pow_le_pow_right (by decide) (by omega);have h3:(10:Nat)^9=B:=by decide
  rw [show m-(m-9)=m by omega,Nat.mod_eq_of_lt h1,Nat.mod_eq_of_lt (by omega)]
 ·rw [show m-(m-9)=9 by omega];rfl
theorem zf3{l:List UInt8}(h:l.all zaX=true){k:Nat}(hk:l.length≤9*k):zae l<B^k:=by
 rw [zmA];exact Nat.lt_of_lt_of_le (zd8 h) (Nat.pow_le_pow_right (by decide) hk)
theorem zng{l:List UInt8}(h:l.all zaX=true){j:Nat}(hj:j<l.length)(b:UInt8)(hb:l[l.length-1-j]? = some b):b.toNat-48=zae l/10^j%10:=by
 have h1:=zfP h (l.length-j);rw [show l.length-(l.length-j)=j by omega]at h1;rw [←h1];have e:l.take (l.length-j)=l.take (l.length-1-j) ++ [b]:=by
  rw [show l.length-j=(l.length-1-j)+1 by omega,List.take_add_one,hb];rfl
 rw [e,zfQ];have hd:zaX b=true:=List.all_eq_true.1 h b (List.mem_of_getElem? hb);have:=zhk hd;omega
def part(V j:Nat):Nat:=V%10^j/B^(j/9)
theorem znP(V j:Nat):V%10^(j+1)=V%10^j+10^j*(V/10^j%10):=by
 rw [Nat.pow_succ,Nat.mod_mul]
theorem zkU(V j:Nat):part V j+10^(j%9)*(V/10^j%10)=V%10^(j+1)/B^(j/9):=by
 unfold part;rw [znP,zmA];have e:10^j=10^(9*(j/9))*10^(j%9):=by rw [←Nat.pow_add,Nat.div_add_mod]
 rw [show V%10^j+10^j*(V/10^j%10)=V%10^j+10^(9*(j/9))*(10^(j%9)*(V/10^j%10))by rw [←Nat.mul_assoc,←e]];rw [Nat.add_mul_div_left _ _ (Nat.pow_pos (by decide))]
theorem zkV{V j:Nat}(h:j%9≠8):part V (j+1)=part V j+10^(j%9)*(V/10^j%10):=by
 rw [zkU];unfold part;rw [show(j+1)/9=j/9 by omega]
theorem zkW{V j:Nat}(h:j%9=8):limb V (j/9)=part V j+10^(j%9)*(V/10^j%10)∧part V (j+1)=0:=by
 rw [zkU];have e:j+1=9*(j/9)+9:=by omega
 have e2:10^(j+1)=B^(j/9)*B:=by rw [e,Nat.pow_add,←zmA];rfl
 constructor
 ·unfold limb;rw [e2,Nat.mod_mul,Nat.add_mul_div_left _ _ (zar _),Nat.div_eq_of_lt (Nat.mod_lt _ (zar _)),Nat.zero_add]
 ·unfold part;rw [show(j+1)/9=j/9+1 by omega,Nat.pow_succ B,←e2];exact Nat.div_eq_of_lt (Nat.mod_lt _ (Nat.pow_pos (by decide)))
theorem zmW{V n:Nat}(h:V<10^n):part V n=V/B^(n/9):=by
 unfold part;rw [Nat.mod_eq_of_lt h]
theorem zhn{V n:Nat}(h:V<10^n):limb V (n/9)=part V n∧V<B^(n/9+1):=by
 have h2:V<B^(n/9+1):=by
  rw [zmA];exact Nat.lt_of_lt_of_le h (Nat.pow_le_pow_right (by decide) (by omega))
 refine⟨?_,h2⟩;rw [zmW h];unfold limb;apply Nat.mod_eq_of_lt
 rw [Nat.pow_succ]at h2;exact Nat.div_lt_of_lt_mul h2
theorem zne{V n:Nat}(h:V<10^n)(h0:part V n=0):V<B^(n/9):=by
 rw [zmW h]at h0;rcases Nat.lt_or_ge V (B^(n/9))with h|h
 ·exact h
 ·have:=Nat.div_pos h (zar _);omega
theorem zi7(l:List UInt8):∃k,k≤l.length∧(l.drop k).all zaX=true∧(0<k→∃b,l[k-1]? = some b∧zaX b=false):=by
 induction l with
 | nil=>exact⟨0,Nat.le_refl _,rfl,fun h=>absurd h (by omega)⟩
 | cons b r ih=>
  obtain⟨k,hk,h1,h2⟩:=ih;rcases Nat.eq_zero_or_pos k with rfl|h0
  ·cases hb:zaX b with
   | true=>exact⟨0,by simp,by rw [List.drop_zero,List.all_cons,hb,Bool.true_and];simpa using h1,fun h=>absurd h (by omega)⟩
   | false=>exact⟨1,by simp,by simpa using h1,fun _=>⟨b,rfl,hb⟩⟩
  ·refine⟨k+1,by simp;omega,by simpa using h1,fun _ => ?_⟩;obtain⟨c,hc,hd⟩:=h2 h0;refine⟨c,?_,hd⟩;obtain⟨m,rfl⟩:∃m,k=m+1:=⟨k-1,by omega⟩;simpa using hc
end Go.Num
namespace Go.Num
open Go.Eng Go.Shelf Go.RowKit Go.Sort Go.Proofs Go.Proofs.YtepakfjilnpodaaGreatDoor
abbrev zgN:ByteArray:={data:=#[48,49,50,51,52,53,54,55,56,57]}
theorem znZ(b:UInt8):zgN.data.toList.contains b=zaX b:=by
 have h:zgN.data.toList = [48,49,50,51,52,53,54,55,56,57]:=rfl;rw [h,Bool.eq_iff_iff];unfold zaX;simp only [List.contains_eq_mem,List.mem_cons,List.not_mem_nil,or_false,decide_eq_true_eq];constructor
 ·rintro (rfl|rfl|rfl|rfl|rfl|rfl|rfl|rfl|rfl|rfl) <;> decide
 ·intro h;have hb:b.toNat=48∨b.toNat=49∨b.toNat=50∨b.toNat=51∨b.toNat=52∨b.toNat=53∨b.toNat=54∨b.toNat=55∨b.toNat=56∨b.toNat=57:=by omega
  rcases hb with h|h|h|h|h|h|h|h|h|h
  all_goals
   have:b=UInt8.ofNat b.toNat:=UInt8.ofNat_toNat.symm;rw [this,h];decide
theorem dropWhile_nil{p:UInt8→Bool}{l:List UInt8}:l.dropWhile p = []↔l.all p=true:=by
 induction l with
 | nil=>simp
 | cons b r ih=>
  rw [List.dropWhile_cons];split
  ·rename_i h;rw [ih];simp [h]
  ·rename_i h;simp [h]
theorem zlI(l:List UInt8):(Lib.trimS l zgN.data.toList = [])↔l.all zaX=true:=by
 have hp:(fun b=>zgN.data.toList.contains b)=zaX:=funext znZ;unfold Lib.trimS Lib.trimLeftS Lib.trimRightS;rw [hp,dropWhile_nil,List.all_reverse];constructor
 ·intro h;have e:l.reverse=l.reverse.takeWhile zaX ++ l.reverse.dropWhile zaX:=(List.takeWhile_append_dropWhile).symm;have h2:l.reverse.all zaX=true:=by
   rw [e,List.all_append,List.all_takeWhile,h];rfl
  rwa [List.all_reverse]at h2
 ·intro h;have h2:l.reverse.dropWhile zaX = []:=dropWhile_nil.2 (by rw [List.all_reverse];exact h);rw [h2];rfl
theorem zhv(w:World)(s:ByteArray)(hs:s.size≤100000) :
  CallsIn Fence.wide 0 Tryz.prog 204 #[.string s,.string zgN] w fun e w'=>∃t:ByteArray,e = .returned (.string t)∧(t.data.toList = []↔s.data.toList.all zaX=true)∧Below w.heap.size w w':=by
 refine callsIn_wide.2 ((Any.strings_Trim_laid Tryz.lays160 (by kernel_rfl) s zgN w (by omega) (by decide) (ascii_of_all (by decide))).mono ?_);rintro e w' ⟨rfl,hB⟩;exact⟨_,rfl,zlI _,hB⟩
theorem znf{l:List UInt8}{b:Bool}(h:l = []↔b=true):l.isEmpty=b:=by
 rw [Bool.eq_iff_iff,←h]
 cases l <;> simp
theorem zh5(s:ByteArray)(h:0<s.size):s.data.toList=s[0] :: s.data.toList.tail:=by
 obtain⟨⟨l⟩⟩:=s
 cases l with
 | nil=>exact absurd h (by decide)
 | cons b r=>rfl
theorem zgQ{b:UInt8}{r:List UInt8}(h:b.toNat=48)(hne:b :: r ≠ [48]):zbv (b :: r)=false:=by
 have hb:b=48:=UInt8.toNat_inj.1 h;subst hb;unfold zbv;have:(48 :: r == [48])=false:=beq_false_of_ne hne;rw [this];simp
theorem ziw{b:UInt8}{r:List UInt8}(h:¬b.toNat=48):zbv (b :: r)=(b :: r).all zaX:=by
 have hb:b≠48:=fun e=>h (by rw [e];rfl)
 unfold zbv;have:((b :: r).head? == some 48)=false:=by simp [hb]
 rw [this];simp
theorem zmr(s:ByteArray)(h0:0<s.size)(h:(s[0].toNat:Int)=48)(hne:¬s.toList = [48]):zbv s.data.toList=false:=by
 rw [Lib.toList_data]at hne;rw [zh5 s h0]at hne ⊢;exact zgQ (by omega) hne
theorem zlt(s:ByteArray)(h0:0<s.size)(h:¬(s[0].toNat:Int)=48):zbv s.data.toList=s.data.toList.all zaX:=by
 rw [zh5 s h0];exact ziw (by omega)
theorem zdR(w:World)(s:ByteArray)(hs:s.size≤100000) :
  CallsIn Fence.wide 0 Tryz.prog 165 #[.string s] w fun e w'=>e = .returned (.bool (zbv s.data.toList))∧Below w.heap.size w w':=by
 have HS:=zHi hs;refine callsIn_of_wp Tryz.func165 rfl trivial ?_ rfl;simp only [Tryz.ntmps165,zsj,zsk,zsl,Nat.reduceAdd,Nat.reduceSub,zsm,zsn,zso,zsp,zsq,zsr];gi_wp2_with (gi_at_call 204;refine stop ?_)
 ·have h:s.toList = []:=by assumption
  all_goals (first|go_returns|go_ret|go_end0)
  rw [Lib.toList_data]at h;exact⟨by rw [h];rfl,Below.refl _ _⟩
 ·have h:s.toList = [48]:=by assumption
  rw [Lib.toList_data]at h;have HC:Hid (zbv s.data.toList=s.data.toList.all zaX):=zHi (by rw [h];rfl);clear h;unfold Stop;refine(zhv w s hs).mono ?_;rintro e w2 ⟨t,rfl,ht,hB⟩;rw [←Lib.toList_data]at ht;have HT:=zHi ht;have HB:=zHi hB;clear ht hB;gi_wp2;all_goals (first|go_returns|go_ret|go_end0)
  refine⟨?_,HB.out⟩;rw [HC.out];show Ending.returned (Value.bool t.toList.isEmpty)=Ending.returned (Value.bool _)
  rw [znf HT.out]
 ·have h1:(s[0].toNat:Int)=48:=by assumption
  have h2:¬s.toList = [48]:=by assumption
  all_goals (first|go_returns|go_ret|go_end0)
  exact⟨by rw [zmr s (by assumption) h1 h2];rfl,Below.refl _ _⟩
 ·have h1:¬(s[0].toNat:Int)=48:=by assumption
  have HC:Hid (zbv s.data.toList=s.data.toList.all zaX):=zHi (zlt s (by assumption) h1);clear h1;unfold Stop;refine(zhv w s hs).mono ?_;rintro e w2 ⟨t,rfl,ht,hB⟩;rw [←Lib.toList_data]at ht;have HT:=zHi ht;have HB:=zHi hB;clear ht hB;have hne:¬s.toList = []:=by assumption
  have hne':s.toList.isEmpty=false:=by cases hc:s.toList with|nil=>exact absurd hc hne|cons _ _=>rfl
  gi_wp2;all_goals (first|go_returns|go_ret|go_end0)
  refine⟨?_,HB.out⟩;rw [HC.out];show Ending.returned (Value.bool ((s.toList == [48] || (s[0].toNat:Int) != 48) && t.toList.isEmpty))=Ending.returned (Value.bool _)
  have hx:((s[0].toNat:Int) != 48)=true:=by simpa using (by assumption:¬(s[0].toNat:Int)=48)
  rw [hx,Bool.or_true,Bool.true_and,znf HT.out]
 ·exfalso;have h1:¬s.toList = []:=by assumption
  have h2:¬0<s.size:=by assumption
  rw [Lib.toList_data]at h1;rw [Lib.size_eq]at h2;exact h1 (List.eq_nil_of_length_eq_zero (by omega))
theorem zkX(w:World)(s:ByteArray)(l:List UInt8)(hl:s.data.toList=l)(hd:l.all zaX=true)(hn:l ≠ [])(h9:l.length≤9) :
  CallsIn Fence.wide 0 Tryz.prog 205 #[.string s,.int .i64 10,.int .i64 64] w fun e w'=>e = .returned (.tuple #[.int .u64 (zae l:Int),.nilIface])∧Below w.heap.size w w':=by
 subst hl;refine callsIn_wide.2 ((Tryz.strconv_ParseUint_10_at64_ok s (by rw [Lib.size_eq];omega) (zae s.data.toList) (zl3 hd hn h9) w).mono ?_);rintro e w' ⟨rfl,rfl|rfl⟩
 ·exact⟨rfl,Below.refl _ _⟩
 ·exact⟨rfl,zlu _ _⟩
theorem zkh{t:ByteArray}{l:List UInt8}{m k:Nat}(h:t.data.toList=l.take m)(hk:k≤m):(t.extract 0 k).data.toList=l.take k:=by
 rw [Lib.extract_eq];show(List.take (k-0) (List.drop 0 t.data.toList))=_
 rw [h,List.drop_zero,Nat.sub_zero,List.take_take,Nat.min_eq_left hk]
theorem znd{t:ByteArray}{l:List UInt8}{m k:Nat}(h:t.data.toList=l.take m)(ht:t.size=m):(t.extract k m).data.toList=(l.take m).drop k:=by
 rw [Lib.extract_eq];show(List.take (m-k) (List.drop k t.data.toList))=_
 rw [List.take_of_length_le (by rw [List.length_drop,←Lib.size_eq];omega),h]
theorem ziN{w w':World}{base:Nat}{e:TypeId}{size n:Nat}{v:Value}{xs:List Value}(h:w.ownsRow base e size v n xs)(hb:Below w.heap.size w w'):w'.ownsRow base e size v n xs:=by
 refine⟨h.1,?_⟩;rcases h.2 with h|⟨g,cap,cur,h1,h2,h3,h4⟩
 ·exact .inl h
 ·refine .inr ⟨g,cap,cur,h1,h2,?_,h4⟩;rw [hb.block g (Array.getElem?_eq_some_iff.1 h3).1];exact h3
def zqH:Value→Nat
 | .string s=>s.size
 | _=>0
theorem zcP(w:World)(s:ByteArray)(l:List UInt8)(hl:s.data.toList=l)(hd:l.all zaX=true)(hn:l.length≤100000) :
  CallsIn Fence.wide 0 Tryz.prog 166 #[.string s] w fun e w'=>∃v',e = .returned v'∧zaq w' v' (zae l)∧Below w.heap.size w w':=by
 have hsz:s.size=l.length:=by rw [Lib.size_eq,hl]
 have HD:=zHi hd;have HL:Hid (s.data.toList=l.take l.length):=zHi (by rw [List.take_length];exact hl);clear hl hd;obtain⟨n,hnl⟩:∃n,l.length=n:=⟨_,rfl⟩;have HNL:=zHi hnl;rw [hnl]at hsz hn HL;clear hnl;refine callsIn_of_wp Tryz.func166 rfl trivial ?_ rfl;simp only [Tryz.ntmps166,zsj,zsk,zsl,Nat.reduceAdd,Nat.reduceSub,zsm,zsn,zso,zsp,zsq,zsr];gi_wp2;gi_loopw [0,3] (fun v0 v3 wr=>∃(i m:Nat) (t:ByteArray),v0 = .string t∧t.size=m∧m≤n∧Hid (t.data.toList=l.take m)∧Hid (m+9*i=n∨m=0∧n≤9*i)∧i≤n∧Hid (wr.ownsRow w.heap.size 116 1 v3 i (zbO (zae l) i))∧Hid (Below w.heap.size w wr)) (fun v _ _=>zqH v)
 case atStart=>exact⟨0,n,s,rfl,hsz,Nat.le_refl _,HL,zHi (.inl (by omega)),by omega,World.ownsRow_nil _ _ _ _,Below.refl _ w⟩
 case round=>
  obtain⟨i,m,t,rfl,ht,hm,HT,HI,hi,HO,HBr⟩:=hrel;by_cases h0:0<m
  ·have hMI:m+9*i=n:=by rcases HI.out with h|h <;> omega
   have HC:Hid (zae ((l.take m).drop (m-9))=limb (zae l) i):=zHi (zn2 HD.out (by rw [HNL.out];exact hMI));have hlen:(l.take m).length=m:=by rw [List.length_take,HNL.out];omega
   have HLen:=zHi hlen;have HMI:=zHi hMI;clear hlen hMI;obtain⟨k,hk⟩:∃k,m-9=k:=⟨_,rfl⟩;have hmx:max (0:Int) ((m:Int)-9)=(k:Int):=by omega
   rw [hk]at HC;gi_wp2_with (gi_at_call 205;refine stop ?_)
   unfold Stop;have hkm:k<m:=by omega
   refine(zkX wr (t.extract k m) ((l.take m).drop k) (znd HT.out ht) (zko (zkn HD.out m) k) ?_ ?_).mono ?_
   ·intro e;have:=congrArg List.length e;rw [List.length_drop,HLen.out]at this;simp at this;omega
   ·rw [List.length_drop,HLen.out];omega
   rintro e w2 ⟨rfl,hB⟩;rw [HC.out];have HO2:=zHi (ziN HO.out hB);have HB2:=zHi (HBr.out.trans (hB.mono HBr.out.size));clear hB;gi_wp2_with (gi_at_builtin;refine stop ?_)
   unfold Stop;refine zbD w w2 rfl _ _ rfl u3 i (zae l) rfl HO2 _ _ rfl rfl (by omega) HB2 ?_;intro v2 w3 HO3 HB3;gi_wp2;have hx:=zkh HT.out (Nat.le_of_lt hkm);have hxs:(t.extract 0 k).size=k:=by rw [Lib.size_eq,hx,List.length_take,HNL.out];omega
   refine⟨⟨i+1,k,_,rfl,hxs,by omega,hx,?_,by have:=HMI.out;omega,HO3,HB3⟩,by simp only [zqH];omega⟩;have:=HMI.out;refine zHi ?_;omega
  ·have hm0:m=0:=by omega
   subst hm0;have HLT:Hid (zae l<B^i):=zHi (zf3 HD.out (by have:=HI.out;rw [HNL.out];omega));have HRow:Hid (zbE wr u3 (zae l) i):=zHi (zeQ HO.out (by omega));gi_wp2_with (gi_at_call 138;refine stop ?_)
   unfold Stop;refine(zcc wr u3 (zae l) i HRow.out HLT.out).mono ?_;rintro e w2 ⟨v',rfl,⟨hM,_⟩,hB⟩;have HM:=zHi hM;have HB:=zHi (HBr.out.trans (hB.mono HBr.out.size));clear hM hB;gi_wp2;all_goals (first|go_returns|go_ret|go_end0)
   exact⟨_,rfl,HM.out,HB.out⟩
end Go.Num
