/-
  'Cmp' of the program. 'attempt' where nothing panics. 'kept' and 'attempt' of a fraction that is too long. Add, Mul of the program, where th
  Conditions: see each statement.
-/
import Derived.Test.YtoamcgjbelhnkaaGreatDoorWAN
import Derived.Test.YtoamcgjbelhnkaaGreatDoorWAA
import Derived.Test.YtoamcgjbelhnkaaGreatDoorWAK
set_option maxRecDepth 100000
set_option maxHeartbeats 8000000
namespace Go.Num
open Go.Lib
theorem zma(k:Nat):B^k=10^(9*k):=by
 rw [Nat.pow_mul];rfl
theorem zo0{l:List UInt8}(h:l.all zaY=true){i m:Nat}(hm:m+9*i=l.length):zad ((l.take m).drop (m-9))=limb (zad l) i:=by
 have hlen:(l.take m).length=m:=by rw [List.length_take];omega
 rw [zmY (zkH h m),hlen,zfy h m,show l.length-m=9*i by omega,←zma];unfold limb;rcases Nat.lt_or_ge m 9 with h9|h9
 ·have h1:zad l/B^i<10^m:=by
   have:=zdN (zkH h m);rw [zfy h m,hlen,show l.length-m=9*i by omega,←zma]at this;exact this
  have h2:10^m≤10^9:=Nat.pow_le_pow_right (by decide) (by omega);have h3:(10:Nat)^9=B:=by decide
  rw [show m-(m-9)=m by omega,Nat.mod_eq_of_lt h1,Nat.mod_eq_of_lt (by omega)]
 ·rw [show m-(m-9)=9 by omega];rfl
theorem zfM{l:List UInt8}(h:l.all zaY=true){k:Nat}(hk:l.length≤9*k):zad l<B^k:=by
 rw [zma];exact Nat.lt_of_lt_of_le (zdN h) (Nat.pow_le_pow_right (by decide) hk)
theorem zn2{l:List UInt8}(h:l.all zaY=true){j:Nat}(hj:j<l.length)(b:UInt8)(hb:l[l.length-1-j]? = some b):b.toNat-48=zad l/10^j%10:=by
 have h1:=zfy h (l.length-j);rw [show l.length-(l.length-j)=j by omega]at h1;rw [←h1];have e:l.take (l.length-j)=l.take (l.length-1-j) ++ [b]:=by
  rw [show l.length-j=(l.length-1-j)+1 by omega,List.take_add_one,hb];rfl
 rw [e,zfz];have hd:zaY b=true:=List.all_eq_true.1 h b (List.mem_of_getElem? hb);have:=zhe hd;omega
def part(V j:Nat):Nat:=V%10^j/B^(j/9)
theorem zoI(V j:Nat):V%10^(j+1)=V%10^j+10^j*(V/10^j%10):=by
 rw [Nat.pow_succ,Nat.mod_mul]
theorem zlg(V j:Nat):part V j+10^(j%9)*(V/10^j%10)=V%10^(j+1)/B^(j/9):=by
 unfold part;rw [zoI,zma];have e:10^j=10^(9*(j/9))*10^(j%9):=by rw [←Nat.pow_add,Nat.div_add_mod]
 rw [show V%10^j+10^j*(V/10^j%10)=V%10^j+10^(9*(j/9))*(10^(j%9)*(V/10^j%10))by rw [←Nat.mul_assoc,←e]];rw [Nat.add_mul_div_left _ _ (Nat.pow_pos (by decide))]
theorem zlh{V j:Nat}(h:j%9≠8):part V (j+1)=part V j+10^(j%9)*(V/10^j%10):=by
 rw [zlg];unfold part;rw [show(j+1)/9=j/9 by omega]
theorem zli{V j:Nat}(h:j%9=8):limb V (j/9)=part V j+10^(j%9)*(V/10^j%10)∧part V (j+1)=0:=by
 rw [zlg];have e:j+1=9*(j/9)+9:=by omega
 have e2:10^(j+1)=B^(j/9)*B:=by rw [e,Nat.pow_add,←zma];rfl
 constructor
 ·unfold limb;rw [e2,Nat.mod_mul,Nat.add_mul_div_left _ _ (zau _),Nat.div_eq_of_lt (Nat.mod_lt _ (zau _)),Nat.zero_add]
 ·unfold part;rw [show(j+1)/9=j/9+1 by omega,Nat.pow_succ B,←e2];exact Nat.div_eq_of_lt (Nat.mod_lt _ (Nat.pow_pos (by decide)))
theorem znz{V n:Nat}(h:V<10^n):part V n=V/B^(n/9):=by
 unfold part;rw [Nat.mod_eq_of_lt h]
theorem zhi{V n:Nat}(h:V<10^n):limb V (n/9)=part V n∧V<B^(n/9+1):=by
 have h2:V<B^(n/9+1):=by
  rw [zma];exact Nat.lt_of_lt_of_le h (Nat.pow_le_pow_right (by decide) (by omega))
 refine⟨?_,h2⟩;rw [znz h];unfold limb;apply Nat.mod_eq_of_lt
 rw [Nat.pow_succ]at h2;exact Nat.div_lt_of_lt_mul h2
theorem znZ{V n:Nat}(h:V<10^n)(h0:part V n=0):V<B^(n/9):=by
 rw [znz h]at h0;rcases Nat.lt_or_ge V (B^(n/9))with h|h
 ·exact h
 ·have:=Nat.div_pos h (zau _);omega
theorem zi4(l:List UInt8):∃k,k≤l.length∧(l.drop k).all zaY=true∧(0<k→∃b,l[k-1]? = some b∧zaY b=false):=by
 induction l with
 | nil=>exact⟨0,Nat.le_refl _,rfl,fun h=>absurd h (by omega)⟩
 | cons b r ih=>
  obtain⟨k,hk,h1,h2⟩:=ih;rcases Nat.eq_zero_or_pos k with rfl|h0
  ·cases hb:zaY b with
   | true=>exact⟨0,by simp,by rw [List.drop_zero,List.all_cons,hb,Bool.true_and];simpa using h1,fun h=>absurd h (by omega)⟩
   | false=>exact⟨1,by simp,by simpa using h1,fun _=>⟨b,rfl,hb⟩⟩
  ·refine⟨k+1,by simp;omega,by simpa using h1,fun _ => ?_⟩;obtain⟨c,hc,hd⟩:=h2 h0;refine⟨c,?_,hd⟩;obtain⟨m,rfl⟩:∃m,k=m+1:=⟨k-1,by omega⟩;simpa using hc
end Go.Num
namespace Go.Num
open Go.Eng Go.Shelf Go.RowKit Go.Sort Go.Proofs Go.Proofs.YtoamcgjbelhnkaaGreatDoor
abbrev zgE:ByteArray:={data:=#[48,49,50,51,52,53,54,55,56,57]}
theorem zoW(b:UInt8):zgE.data.toList.contains b=zaY b:=by
 have h:zgE.data.toList = [48,49,50,51,52,53,54,55,56,57]:=rfl;rw [h,Bool.eq_iff_iff];unfold zaY;simp only [List.contains_eq_mem,List.mem_cons,List.not_mem_nil,or_false,decide_eq_true_eq];constructor
 ·rintro (rfl|rfl|rfl|rfl|rfl|rfl|rfl|rfl|rfl|rfl) <;> decide
 ·intro h;have hb:b.toNat=48∨b.toNat=49∨b.toNat=50∨b.toNat=51∨b.toNat=52∨b.toNat=53∨b.toNat=54∨b.toNat=55∨b.toNat=56∨b.toNat=57:=by omega
  rcases hb with h|h|h|h|h|h|h|h|h|h
  all_goals
   have:b=UInt8.ofNat b.toNat:=UInt8.ofNat_toNat.symm;rw [this,h];decide
theorem dropWhile_nil{p:UInt8→Bool}{l:List UInt8}:l.dropWhile p = []↔l.all p=true:=by
 induction l with
 | nil=>simp
 | cons b r ih=>
  rw [List.dropWhile_cons];split
  ·rename_i h;rw [ih];simp [h]
  ·rename_i h;simp [h]
theorem zmf(l:List UInt8):(Lib.trimS l zgE.data.toList = [])↔l.all zaY=true:=by
 have hp:(fun b=>zgE.data.toList.contains b)=zaY:=funext zoW;unfold Lib.trimS Lib.trimLeftS Lib.trimRightS;rw [hp,dropWhile_nil,List.all_reverse];constructor
 ·intro h;have e:l.reverse=l.reverse.takeWhile zaY ++ l.reverse.dropWhile zaY:=(List.takeWhile_append_dropWhile).symm;have h2:l.reverse.all zaY=true:=by
   rw [e,List.all_append,List.all_takeWhile,h];rfl
  rwa [List.all_reverse]at h2
 ·intro h;have h2:l.reverse.dropWhile zaY = []:=dropWhile_nil.2 (by rw [List.all_reverse];exact h);rw [h2];rfl
theorem zhp(w:World)(s:ByteArray)(hs:s.size≤100000) :
  CallsIn Fence.wide 0 Tryz.prog 105 #[.string s,.string zgE] w fun e w'=>∃t:ByteArray,e = .returned (.string t)∧(t.data.toList = []↔s.data.toList.all zaY=true)∧Below w.heap.size w w':=by
 refine callsIn_wide.2 ((Any.strings_Trim_laid Tryz.lays160 (by kernel_rfl) s zgE w (by omega) (by decide) (ascii_of_all (by decide))).mono ?_);rintro e w' ⟨rfl,hB⟩;exact⟨_,rfl,zmf _,hB⟩
theorem zn0{l:List UInt8}{b:Bool}(h:l = []↔b=true):l.isEmpty=b:=by
 rw [Bool.eq_iff_iff,←h]
 cases l <;> simp
theorem zhZ(s:ByteArray)(h:0<s.size):s.data.toList=s[0] :: s.data.toList.tail:=by
 obtain⟨⟨l⟩⟩:=s
 cases l with
 | nil=>exact absurd h (by decide)
 | cons b r=>rfl
theorem zgI{b:UInt8}{r:List UInt8}(h:b.toNat=48)(hne:b :: r ≠ [48]):zbj (b :: r)=false:=by
 have hb:b=48:=UInt8.toNat_inj.1 h;subst hb;unfold zbj;have:(48 :: r == [48])=false:=beq_false_of_ne hne;rw [this];simp
theorem zin{b:UInt8}{r:List UInt8}(h:¬b.toNat=48):zbj (b :: r)=(b :: r).all zaY:=by
 have hb:b≠48:=fun e=>h (by rw [e];rfl)
 unfold zbj;have:((b :: r).head? == some 48)=false:=by simp [hb]
 rw [this];simp
theorem zm2(s:ByteArray)(h0:0<s.size)(h:(s[0].toNat:Int)=48)(hne:¬s.toList = [48]):zbj s.data.toList=false:=by
 rw [Lib.toList_data]at hne;rw [zhZ s h0]at hne ⊢;exact zgI (by omega) hne
theorem zlW(s:ByteArray)(h0:0<s.size)(h:¬(s[0].toNat:Int)=48):zbj s.data.toList=s.data.toList.all zaY:=by
 rw [zhZ s h0];exact zin (by omega)
theorem zdt(w:World)(s:ByteArray)(hs:s.size≤100000) :
  CallsIn Fence.wide 0 Tryz.prog 61 #[.string s] w fun e w'=>e = .returned (.bool (zbj s.data.toList))∧Below w.heap.size w w':=by
 have HS:=zHi hs;refine callsIn_of_wp Tryz.func61 rfl trivial ?_ rfl;simp only [Tryz.ntmps61,ztr,zts,ztt,Nat.reduceAdd,Nat.reduceSub,ztu,ztv,ztw,ztx,zty,ztz];gi_wp2_with (gi_at_call 105;refine stop ?_)
 ·have h:s.toList = []:=by assumption
  all_goals (first|go_returns|go_ret|go_end0)
  rw [Lib.toList_data]at h;exact⟨by rw [h];rfl,Below.refl _ _⟩
 ·have h:s.toList = [48]:=by assumption
  rw [Lib.toList_data]at h;have HC:Hid (zbj s.data.toList=s.data.toList.all zaY):=zHi (by rw [h];rfl);clear h;unfold Stop;refine(zhp w s hs).mono ?_;rintro e w2 ⟨t,rfl,ht,hB⟩;rw [←Lib.toList_data]at ht;have HT:=zHi ht;have HB:=zHi hB;clear ht hB;gi_wp2;all_goals (first|go_returns|go_ret|go_end0)
  refine⟨?_,HB.out⟩;rw [HC.out];show Ending.returned (Value.bool t.toList.isEmpty)=Ending.returned (Value.bool _)
  rw [zn0 HT.out]
 ·have h1:(s[0].toNat:Int)=48:=by assumption
  have h2:¬s.toList = [48]:=by assumption
  all_goals (first|go_returns|go_ret|go_end0)
  exact⟨by rw [zm2 s (by assumption) h1 h2];rfl,Below.refl _ _⟩
 ·have h1:¬(s[0].toNat:Int)=48:=by assumption
  have HC:Hid (zbj s.data.toList=s.data.toList.all zaY):=zHi (zlW s (by assumption) h1);clear h1;unfold Stop;refine(zhp w s hs).mono ?_;rintro e w2 ⟨t,rfl,ht,hB⟩;rw [←Lib.toList_data]at ht;have HT:=zHi ht;have HB:=zHi hB;clear ht hB;have hne:¬s.toList = []:=by assumption
  have hne':s.toList.isEmpty=false:=by cases hc:s.toList with|nil=>exact absurd hc hne|cons _ _=>rfl
  gi_wp2;all_goals (first|go_returns|go_ret|go_end0)
  refine⟨?_,HB.out⟩;rw [HC.out];show Ending.returned (Value.bool ((s.toList == [48] || (s[0].toNat:Int) != 48) && t.toList.isEmpty))=Ending.returned (Value.bool _)
  have hx:((s[0].toNat:Int) != 48)=true:=by simpa using (by assumption:¬(s[0].toNat:Int)=48)
  rw [hx,Bool.or_true,Bool.true_and,zn0 HT.out]
 ·exfalso;have h1:¬s.toList = []:=by assumption
  have h2:¬0<s.size:=by assumption
  rw [Lib.toList_data]at h1;rw [Lib.size_eq]at h2;exact h1 (List.eq_nil_of_length_eq_zero (by omega))
theorem zlj(w:World)(s:ByteArray)(l:List UInt8)(hl:s.data.toList=l)(hd:l.all zaY=true)(hn:l ≠ [])(h9:l.length≤9) :
  CallsIn Fence.wide 0 Tryz.prog 106 #[.string s,.int .i64 10,.int .i64 64] w fun e w'=>e = .returned (.tuple #[.int .u64 (zad l:Int),.nilIface])∧Below w.heap.size w w':=by
 subst hl;refine callsIn_wide.2 ((Tryz.strconv_ParseUint_10_at64_ok s (by rw [Lib.size_eq];omega) (zad s.data.toList) (zmw hd hn h9) w).mono ?_);rintro e w' ⟨rfl,rfl|rfl⟩
 ·exact⟨rfl,Below.refl _ _⟩
 ·exact⟨rfl,zg3 _ _⟩
theorem zkw{t:ByteArray}{l:List UInt8}{m k:Nat}(h:t.data.toList=l.take m)(hk:k≤m):(t.extract 0 k).data.toList=l.take k:=by
 rw [Lib.extract_eq];show(List.take (k-0) (List.drop 0 t.data.toList))=_
 rw [h,List.drop_zero,Nat.sub_zero,List.take_take,Nat.min_eq_left hk]
theorem znY{t:ByteArray}{l:List UInt8}{m k:Nat}(h:t.data.toList=l.take m)(ht:t.size=m):(t.extract k m).data.toList=(l.take m).drop k:=by
 rw [Lib.extract_eq];show(List.take (m-k) (List.drop k t.data.toList))=_
 rw [List.take_of_length_le (by rw [List.length_drop,←Lib.size_eq];omega),h]
theorem ziC{w w':World}{base:Nat}{e:TypeId}{size n:Nat}{v:Value}{xs:List Value}(h:w.ownsRow base e size v n xs)(hb:Below w.heap.size w w'):w'.ownsRow base e size v n xs:=by
 refine⟨h.1,?_⟩;rcases h.2 with h|⟨g,cap,cur,h1,h2,h3,h4⟩
 ·exact .inl h
 ·refine .inr ⟨g,cap,cur,h1,h2,?_,h4⟩;rw [hb.block g (Array.getElem?_eq_some_iff.1 h3).1];exact h3
def zrV:Value→Nat
 | .string s=>s.size
 | _=>0
theorem zcB(w:World)(s:ByteArray)(l:List UInt8)(hl:s.data.toList=l)(hd:l.all zaY=true)(hn:l.length≤100000) :
  CallsIn Fence.wide 0 Tryz.prog 62 #[.string s] w fun e w'=>∃v',e = .returned v'∧zat w' v' (zad l)∧Below w.heap.size w w':=by
 have hsz:s.size=l.length:=by rw [Lib.size_eq,hl]
 have HD:=zHi hd;have HL:Hid (s.data.toList=l.take l.length):=zHi (by rw [List.take_length];exact hl);clear hl hd;obtain⟨n,hnl⟩:∃n,l.length=n:=⟨_,rfl⟩;have HNL:=zHi hnl;rw [hnl]at hsz hn HL;clear hnl;refine callsIn_of_wp Tryz.func62 rfl trivial ?_ rfl;simp only [Tryz.ntmps62,ztr,zts,ztt,Nat.reduceAdd,Nat.reduceSub,ztu,ztv,ztw,ztx,zty,ztz];gi_wp2;gi_loopw [0,3] (fun v0 v3 wr=>∃(i m:Nat) (t:ByteArray),v0 = .string t∧t.size=m∧m≤n∧Hid (t.data.toList=l.take m)∧Hid (m+9*i=n∨m=0∧n≤9*i)∧i≤n∧Hid (wr.ownsRow w.heap.size 111 1 v3 i (zbF (zad l) i))∧Hid (Below w.heap.size w wr)) (fun v _ _=>zrV v)
 case atStart=>exact⟨0,n,s,rfl,hsz,Nat.le_refl _,HL,zHi (.inl (by omega)),by omega,World.ownsRow_nil _ _ _ _,Below.refl _ w⟩
 case round=>
  obtain⟨i,m,t,rfl,ht,hm,HT,HI,hi,HO,HBr⟩:=hrel;by_cases h0:0<m
  ·have hMI:m+9*i=n:=by rcases HI.out with h|h <;> omega
   have HC:Hid (zad ((l.take m).drop (m-9))=limb (zad l) i):=zHi (zo0 HD.out (by rw [HNL.out];exact hMI));have hlen:(l.take m).length=m:=by rw [List.length_take,HNL.out];omega
   have HLen:=zHi hlen;have HMI:=zHi hMI;clear hlen hMI;obtain⟨k,hk⟩:∃k,m-9=k:=⟨_,rfl⟩;have hmx:max (0:Int) ((m:Int)-9)=(k:Int):=by omega
   rw [hk]at HC;gi_wp2_with (gi_at_call 106;refine stop ?_)
   unfold Stop;have hkm:k<m:=by omega
   refine(zlj wr (t.extract k m) ((l.take m).drop k) (znY HT.out ht) (zkI (zkH HD.out m) k) ?_ ?_).mono ?_
   ·intro e;have:=congrArg List.length e;rw [List.length_drop,HLen.out]at this;simp at this;omega
   ·rw [List.length_drop,HLen.out];omega
   rintro e w2 ⟨rfl,hB⟩;rw [HC.out];have HO2:=zHi (ziC HO.out hB);have HB2:=zHi (HBr.out.trans (hB.mono HBr.out.size));clear hB;gi_wp2_with (gi_at_builtin;refine stop ?_)
   unfold Stop;refine zbt w w2 rfl _ _ rfl u3 i (zad l) rfl HO2 _ _ rfl rfl (by omega) HB2 ?_;intro v2 w3 HO3 HB3;gi_wp2;have hx:=zkw HT.out (Nat.le_of_lt hkm);have hxs:(t.extract 0 k).size=k:=by rw [Lib.size_eq,hx,List.length_take,HNL.out];omega
   refine⟨⟨i+1,k,_,rfl,hxs,by omega,hx,?_,by have:=HMI.out;omega,HO3,HB3⟩,by simp only [zrV];omega⟩;have:=HMI.out;refine zHi ?_;omega
  ·have hm0:m=0:=by omega
   subst hm0;have HLT:Hid (zad l<B^i):=zHi (zfM HD.out (by have:=HI.out;rw [HNL.out];omega));have HRow:Hid (zbu wr u3 (zad l) i):=zHi (zex HO.out (by omega));gi_wp2_with (gi_at_call 107;refine stop ?_)
   unfold Stop;refine(zbP wr u3 (zad l) i HRow.out HLT.out).mono ?_;rintro e w2 ⟨v',rfl,⟨hM,_⟩,hB⟩;have HM:=zHi hM;have HB:=zHi (HBr.out.trans (hB.mono HBr.out.size));clear hM hB;gi_wp2;all_goals (first|go_returns|go_ret|go_end0)
   exact⟨_,rfl,HM.out,HB.out⟩
def zeU(n:Nat):Bool:=decide (Lib.nDigits n≤20000)
theorem zc1(w:World)(v:Value)(n:Nat)(h:zat w v n)(hn:n<B^100000)(htab:zaS w) :
  CallsIn Fence.wide 0 Tryz.prog 110 #[v] w fun e w'=>e = .returned (.bool (zeU n))∧Below w.heap.size w w':=by
 have HM:=zHi h;have HN:=zHi hn;have HTab:=zHi htab;obtain⟨k,hk,hl⟩:=h;obtain⟨o,c,rfl,_⟩:=hl.form;have HK:=zHi hk;clear hk hl hn htab;refine callsIn_of_wp Tryz.func110 rfl trivial ?_ rfl;simp only [Tryz.ntmps110,ztr,zts,ztt,Nat.reduceAdd,Nat.reduceSub,ztu,ztv,ztw,ztx,zty,ztz];by_cases hk2:k≤2222
 ·have hkd:decide ((k:Int)≤2222)=true:=decide_eq_true (by omega);have HS:Hid (zeU n=true):=zHi (decide_eq_true (by
   rcases Nat.eq_zero_or_pos k with h0|h0
   ·subst h0;rw [HK.out.zero,Lib.nDigits_small (by decide)];decide
   ·have h1:=zd0 h0 HK.out.1;omega))
  gi_wp2;all_goals (first|go_returns|go_ret|go_end0)
  exact⟨by rw [HS.out];rfl,Below.refl _ _⟩
 ·have hkd:decide ((k:Int)≤2222)=false:=decide_eq_false (by omega);gi_wp2_with (gi_at_call 71;refine stop ?_)
  unfold Stop;refine(zbR w _ n HM.out HN.out HTab.out).mono ?_;rintro e w2 ⟨rfl,hB⟩;obtain⟨S,hS⟩:∃S:ByteArray,(⟨(Lib.decDigits n).toArray⟩:ByteArray)=S:=⟨_,rfl⟩;have hsz:S.size=Lib.nDigits n:=by rw [←hS,zcF,Lib.decDigits_length]
  rw [hS];obtain⟨d,hd⟩:∃d,Lib.nDigits n=d:=⟨_,rfl⟩;have HS:Hid (zeU n=decide (d≤20000)):=zHi (by unfold zeU;rw [hd]);rw [hd]at hsz;clear hS hd;gi_wp2;all_goals (first|go_returns|go_ret|go_end0)
  refine⟨?_,hB⟩;rw [HS.out];show Ending.returned (Value.bool (decide ((d:Int)≤20000)))=Ending.returned (Value.bool (decide (d≤20000)))
  rw [show decide ((d:Int)≤20000)=decide (d≤20000)from decide_eq_decide.2 (by omega)]
def zc5(q:Rat):Bool:=zeU q.num.natAbs && zeU (if q.den=1 then 0 else q.den)
theorem ze6(w:World)(v:Value)(q:Rat)(h:zax w v q)(hq:zaw q 100000)(hs:zc5 q=true)(htab:zaS w) :
  CallsIn Fence.wide 0 Tryz.prog 67 #[v] w fun e w'=>∃v',e = .returned v'∧zax w' v' q∧Below w.heap.size w w':=by
 have HR:=zHi h;obtain⟨vn,vd,rfl,hn,hd⟩:=h;have HN:=zHi hn;have HD:=zHi hd;obtain⟨sg,hsg⟩:∃sg,decide (q.num<0)=sg:=⟨_,rfl⟩;obtain⟨o1,k1,c1,rfl,_,_⟩:=zaJ hn;obtain⟨o2,k2,c2,rfl,_,_⟩:=zaJ hd;rw [hsg]at HR;rw [hsg];have hs1:zeU q.num.natAbs=true:=by unfold zc5 at hs;rw [Bool.and_eq_true]at hs;exact hs.1
 have hs2:zeU (if q.den=1 then 0 else q.den)=true:=by unfold zc5 at hs;rw [Bool.and_eq_true]at hs;exact hs.2
 have HS1:=zHi hs1;have HS2:=zHi hs2;obtain⟨W0,hW0⟩:∃W,W=w.alloc (.cells #[.bool sg,.slice o1 k1 c1,.slice o2 k2 c2] 25):=⟨_,rfl⟩;have h0s:W0.heap.size=w.heap.size+1:=by rw [hW0];simp
 obtain⟨W1,hW1⟩:∃W,W=W0.alloc (.cells #[.bool false,.slice none 0 0,.slice none 0 0] 25):=⟨_,rfl⟩;have HX:Hid (Box3 W1 w.heap.size (.bool sg) (.slice o1 k1 c1) (.slice o2 k2 c2)):=zHi (by rw [hW1];exact Box3.below (by rw [hW0];exact zbs _ _ _ _ _) (zaa _ _));have HK:Hid (Own3 W0 W1):=by rw [hW1];exact ze2 _ _ _ _ _
 have HE:Hid (Elem W1 W0.heap.size 25):=zHi (by rw [hW1];exact zas _ _ _);have HB0:Hid (Below w.heap.size w W0):=zHi (by rw [hW0];exact zaa _ _);have HBW:Hid (Below w.heap.size w W1):=zHi (HB0.out.trans (HK.out.2.2.mono HB0.out.size));have HP:=zHi hq;have HTab:=zHi htab;have y0:=HX.out.c0;have y1:=HX.out.c1;have y2:=HX.out.c2;clear hn hd hsg hq htab hs hs1 hs2;refine callsIn_of_wp Tryz.func67 rfl trivial ?_ rfl;simp only [Tryz.ntmps67,ztr,zts,ztt,Nat.reduceAdd,Nat.reduceSub,ztu,ztv,ztw,ztx,zty,ztz];gi_wp2_with (gi_at_call 110;refine stop ?_)
 unfold Stop;rw [←hW0,←hW1];obtain⟨g,hg⟩:∃g,w.heap.size=g:=⟨_,rfl⟩;rw [hg]at HX h0s y0 y1 y2;rw [hg];obtain⟨g2,hg2⟩:∃g2,W0.heap.size=g2:=⟨_,rfl⟩;have hg2':g+1=g2:=by omega
 have HE2:Hid (Elem W1 g2 25):=by rw [←hg2];exact HE
 have HA2:Hid (∃f,zaf W1 g2 3 f):=by rw [←hg2];exact HK.out.1
 have hl2:g2<W1.heap.size:=by rw [←hg2];exact HK.out.2.1
 have hgw:w.heap.size≤g2:=by omega
 rw [hg2'];clear hW0 hW1 HE HK HB0 h0s hg2 hg;refine(zc1 W1 _ _ (HN.out.below HBW.out) HP.out.1 (HTab.out.below HBW.out)).mono ?_;rintro e w2 ⟨rfl,hB⟩;replace HX:=zHi (HX.out.below hB);replace HBW:=zHi (HBW.out.trans (hB.mono HBW.out.size));replace HE2:=zHi (HE2.out.below hB hl2);replace HA2:Hid (∃f,zaf w2 g2 3 f):=zHi (HA2.out.elim fun f hf=>⟨f,hf.below hl2 hB⟩);replace hl2:=Nat.lt_of_lt_of_le hl2 hB.size;rw [HS1.out];replace y0:=HX.out.c0;replace y1:=HX.out.c1;replace y2:=HX.out.c2;clear hB;gi_wp2_with (gi_at_call 110;refine stop ?_)
 unfold Stop;refine(zc1 w2 _ _ (HD.out.below HBW.out) (by split;exact zau 100000;exact HP.out.2) (HTab.out.below HBW.out)).mono ?_;rintro e w3 ⟨rfl,hB⟩;replace HX:=zHi (HX.out.below hB);replace HBW:=zHi (HBW.out.trans (hB.mono HBW.out.size));replace HE2:=zHi (HE2.out.below hB hl2);replace HA2:Hid (∃f,zaf w3 g2 3 f):=zHi (HA2.out.elim fun f hf=>⟨f,hf.below hl2 hB⟩);rw [HS2.out];replace y0:=HX.out.c0;replace y1:=HX.out.c1;replace y2:=HX.out.c2;replace HR:=zHi (HR.out.below HBW.out);obtain⟨f,hf⟩:=HA2.out;have z0:=(hf 0 (by omega)).1;have z1:=(hf 1 (by omega)).1;have z2:=(hf 2 (by omega)).1;have f0:=(hf 0 (by omega)).2;have f1:=(hf 1 (by omega)).2;have f2:=(hf 2 (by omega)).2;clear hB HA2;gi_wp2;refine zbk rfl rfl g2 rfl z0 z1 z2 ?_;refine⟨_,rfl,?_,((HBW.out.setCell hgw _).setCell hgw _).setCell hgw _⟩;exact((HR.out.setElem HE2.out (by decide)).setElem (HE2.out.setCell _ _) (by decide)).setElem ((HE2.out.setCell _ _).setCell _ _) (by decide)
end Go.Num
namespace Go.Num
open Go.Eng Go.Shelf Go.RowKit Go.Proofs Go.Proofs.YtoamcgjbelhnkaaGreatDoor
theorem l26:zbW Tryz.prog 26:=za9 (by kernel_rfl)
theorem zkD(w:World)(v:Value)(q:Rat)(h:zax w v q)(hq:zaw q 100000)(hs:zc5 q=true)(htab:zaS w) :
  CallsIn Fence.wide 0 Tryz.prog 66 #[.func (.func 67) #[v] #[]] w fun e w'=>∃v',e = .returned (.tuple #[v',.int .i64 0])∧zax w' v' q∧Below w.heap.size w w':=by
 have hmf:∀(fn:Fn) (first cap:Array Value) (w:World),(Instr.makeFunc fn first cap).run Tryz.prog w = .ok (.func fn first cap) w:=fun _ _ _ _=>rfl
 have HR:=zHi h;have HP:=zHi hq;have HS:=zHi hs;have HTab:=zHi htab;obtain⟨o,k,c,o2,k2,c2,rfl⟩:=h.form;clear h hq hs htab;gi_enter_defers Tryz.func66,Tryz.ntmps66
 gi_wp2_with (gi_at_call 67;refine stop ?_)
 unfold Stop;obtain⟨W0,hW0⟩:∃W,W=w.alloc (.cells #[.bool false,.slice none 0 0,.slice none 0 0] 25):=⟨_,rfl⟩;have h0s:W0.heap.size=w.heap.size+1:=by rw [hW0];simp
 obtain⟨W1,hW1⟩:∃W,W=W0.alloc (.cells #[.int .i64 0] 26):=⟨_,rfl⟩;rw [←hW0,←hW1];have HA:Hid (∃f,zaf W1 w.heap.size 3 f):=zHi ⟨fun i => [.bool false,.slice none 0 0,.slice none 0 0].getD i (.bool false),by
  rw [hW1];refine zaf.alloc ?_ (by omega) _;rw [hW0];exact zaf.new _ _ _ fun i hi=>by
   have:i=0∨i=1∨i=2:=by omega
   rcases this with rfl|rfl|rfl <;> rfl⟩
 have HA2:Hid (∃f,zaf W1 (w.heap.size+1) 1 f):=zHi ⟨fun i => .int .i64 0,by
  rw [hW1,←h0s];exact zaf.new _ _ _ fun i hi=>by
   have:i=0:=by omega
   rw [this];rfl⟩
 have HE:Hid (Elem W1 w.heap.size 25):=zHi ((by rw [hW0];exact zas _ _ _:Elem W0 w.heap.size 25).below (by rw [hW1];exact zaa _ _) (by omega));have HE2:Hid (Elem W1 (w.heap.size+1) 26):=zHi (by rw [hW1,←h0s];exact zas _ _ _);have HBW:Hid (Below w.heap.size w W1):=zHi (by rw [hW1,hW0];exact(zaa _ _).alloc (by simp) _);have hl:w.heap.size+1<W1.heap.size:=by rw [hW1];simp;omega
 obtain⟨g,hg⟩:∃g,w.heap.size=g:=⟨_,rfl⟩;rw [hg]at HA HA2 HE HE2 hl;rw [hg];have hgw:w.heap.size≤g:=by omega
 clear hW0 hW1 h0s hg;refine(ze6 W1 _ q (HR.out.below HBW.out) HP.out HS.out (HTab.out.below HBW.out)).mono ?_;rintro e w2 ⟨v2,rfl,hr2,hB⟩;obtain⟨p,l,d,p2,l2,d2,rfl⟩:=hr2.form;have HR2:=zHi hr2;replace HBW:=zHi (HBW.out.trans (hB.mono HBW.out.size));replace HE:=zHi (HE.out.below hB (by omega));replace HE2:=zHi (HE2.out.below hB (by omega));obtain⟨f,hf⟩:=HA.out;obtain⟨f2,hf2⟩:=HA2.out;have ha:=hf.below (by omega) hB;have ha2:=hf2.below (by omega) hB;have z0:=(ha 0 (by omega)).1;have z1:=(ha 1 (by omega)).1;have z2:=(ha 2 (by omega)).1;have y0:=(ha 0 (by omega)).2;have y1:=(ha 1 (by omega)).2;have y2:=(ha 2 (by omega)).2;have x0:=(ha2 0 (by omega)).1;have x1:=(ha2 0 (by omega)).2;have HA9:=zHi ha;have HA8:=zHi ha2;clear hr2 hB ha ha2 hf hf2 HA HA2;obtain⟨sg,hsg⟩:∃sg,decide (q.num<0)=sg:=⟨_,rfl⟩;rw [hsg]at HR2;rw [hsg];gi_wp2;have hB3:Below w.heap.size w ((((w2.setCell ⟨g,0,none⟩ (.bool sg)).setCell ⟨g,1,none⟩ (.slice p l d)).setCell ⟨g,2,none⟩ (.slice p2 l2 d2)).setCell ⟨g+1,0,none⟩ (.int .i64 0)):=
  (((HBW.out.setCell hgw _).setCell hgw _).setCell hgw _).setCell (by show w.heap.size≤g+1;omega) _
 refine leavesIn_cons (f:=109) (args:=#[.pointer (some ⟨g,0,none⟩),.pointer (some ⟨g+1,0,none⟩)]) (by simp) (by simp) (by simp [go_sem]) (by simp [Target.leads]) ?_;refine(zhw.2 _ _).mono ?_;rintro e u' w'' ⟨⟨v3,rfl⟩,rfl,hh,hb⟩;refine⟨.tuple #[.agg #[.bool sg,.slice p l d,.slice p2 l2 d2],.int .i64 0],?_,_,rfl,?_,?_⟩
 ·have h3:=((HA9.out.set (i:=0) (by omega) (.bool sg)).set (i:=1) (by omega) (.slice p l d)).set (i:=2) (by omega) (.slice p2 l2 d2);have n3:∀j:Nat,(⟨g,j,none⟩:Addr)≠⟨g+1,0,none⟩:=fun j e=>by injection e with e _ _;omega
  have n4:∀j:Nat,(⟨g+1,0,none⟩:Addr)≠⟨g,j,none⟩:=fun j e=>by injection e with e _ _;omega
  have b3:Box3 ((((w2.setCell ⟨g,0,none⟩ (.bool sg)).setCell ⟨g,1,none⟩ (.slice p l d)).setCell ⟨g,2,none⟩ (.slice p2 l2 d2)).setCell ⟨g+1,0,none⟩ (.int .i64 0)) g (.bool sg) (.slice p l d) (.slice p2 l2 d2):=fun j v hj=>by
   rw [World.cell?_setCell_other _ _ _ _ (n4 j)];match j,hj with
   | 0,hj=>rw [←hj];exact(h3 0 (by omega)).1
   | 1,hj=>rw [←hj];exact(h3 1 (by omega)).1
   | 2,hj=>rw [←hj];exact(h3 2 (by omega)).1
   | n+3,hj=>simp at hj
  have c3:((((w2.setCell ⟨g,0,none⟩ (.bool sg)).setCell ⟨g,1,none⟩ (.slice p l d)).setCell ⟨g,2,none⟩ (.slice p2 l2 d2)).setCell ⟨g+1,0,none⟩ (.int .i64 0)).cell? ⟨g+1,0,none⟩=some (.int .i64 0):=
   World.cell?_setCell_same _ _ _ (by rw [World.cell?_setCell_other _ _ _ _ (n3 2),World.cell?_setCell_other _ _ _ _ (n3 1),World.cell?_setCell_other _ _ _ _ (n3 0)];exact x0)
  have e1:=l25 g [.bool sg,.slice p l d,.slice p2 l2 d2] w'' rfl (b3.below hb);have e2:=l26 ⟨g+1,0,none⟩ _ w'' ((hb.cell (World.block_lt_of_cell? _ _ c3)).trans c3);simp only [Instr.loadAt,Instr.sureAddr,Sem.run_bind,Sem.run_pure,Result.andThen_ok]at e1 e2;simp [results,asAddr,e1,e2]
 ·have h4:=(((HR2.out.setElem (i:=0) (u:=.bool sg) HE.out (by decide)).setElem (i:=1) (u:=.slice p l d) (HE.out.setCell _ _) (by decide)).setElem (i:=2) (u:=.slice p2 l2 d2) ((HE.out.setCell _ _).setCell _ _) (by decide)).setElem (i:=0) (u:=.int .i64 0) (((HE2.out.setCell _ _).setCell _ _).setCell _ _) (by decide);exact h4.below hb
 ·exact hB3.trans (hb.mono hB3.size)
def tooL:List PanicEntry:=[{v:=.iface 152 (.agg #[]),recovered:=false}]
theorem zmF(w:World)(v:Value)(q:Rat)(h:zax w v q)(hq:zaw q 100000)(hs:zc5 q=false)(htab:zaS w) :
  CallsIn Fence.wide 0 Tryz.prog 67 #[v] w fun e w'=>e = .panicked tooL∧Below w.heap.size w w':=by
 obtain⟨vn,vd,rfl,hn,hd⟩:=h;have HN:=zHi hn;have HD:=zHi hd;obtain⟨sg,hsg⟩:∃sg,decide (q.num<0)=sg:=⟨_,rfl⟩;obtain⟨o1,k1,c1,rfl,_,_⟩:=zaJ hn;obtain⟨o2,k2,c2,rfl,_,_⟩:=zaJ hd;rw [hsg];obtain⟨W0,hW0⟩:∃W,W=w.alloc (.cells #[.bool sg,.slice o1 k1 c1,.slice o2 k2 c2] 25):=⟨_,rfl⟩;have h0s:W0.heap.size=w.heap.size+1:=by rw [hW0];simp
 obtain⟨W1,hW1⟩:∃W,W=W0.alloc (.cells #[.bool false,.slice none 0 0,.slice none 0 0] 25):=⟨_,rfl⟩;have HX:Hid (Box3 W1 w.heap.size (.bool sg) (.slice o1 k1 c1) (.slice o2 k2 c2)):=zHi (by rw [hW1];exact Box3.below (by rw [hW0];exact zbs _ _ _ _ _) (zaa _ _));have HB0:Hid (Below w.heap.size w W0):=zHi (by rw [hW0];exact zaa _ _);have HBW:Hid (Below w.heap.size w W1):=zHi (HB0.out.trans ((by rw [hW1];exact zaa _ _:Below W0.heap.size W0 W1).mono HB0.out.size));have HP:=zHi hq;have HTab:=zHi htab;have HS:=zHi hs;have y0:=HX.out.c0;have y1:=HX.out.c1;have y2:=HX.out.c2;clear hn hd hsg hq htab hs;refine callsIn_of_wp Tryz.func67 rfl trivial ?_ rfl;simp only [Tryz.ntmps67,ztr,zts,ztt,Nat.reduceAdd,Nat.reduceSub,ztu,ztv,ztw,ztx,zty,ztz];gi_wp2_with (gi_at_call 110;refine stop ?_)
 unfold Stop;rw [←hW0,←hW1];obtain⟨g,hg⟩:∃g,w.heap.size=g:=⟨_,rfl⟩;rw [hg]at HX h0s y0 y1 y2;rw [hg];clear hW0 hW1 HB0 h0s hg;refine(zc1 W1 _ _ (HN.out.below HBW.out) HP.out.1 (HTab.out.below HBW.out)).mono ?_;rintro e w2 ⟨rfl,hB⟩;replace HX:=zHi (HX.out.below hB);replace HBW:=zHi (HBW.out.trans (hB.mono HBW.out.size));replace y0:=HX.out.c0;replace y1:=HX.out.c1;replace y2:=HX.out.c2;clear hB
 cases hs1:zeU q.num.natAbs with
 | false=>
  clear hs1;gi_wp2;exact⟨rfl,rfl,HBW.out⟩
 | true=>
  have HS2:Hid (zeU (if q.den=1 then 0 else q.den)=false):=zHi (by have:=HS.out;unfold zc5 at this;rw [hs1,Bool.true_and]at this;exact this);clear hs1;gi_wp2_with (gi_at_call 110;refine stop ?_)
  unfold Stop;refine(zc1 w2 _ _ (HD.out.below HBW.out) (by split;exact zau 100000;exact HP.out.2) (HTab.out.below HBW.out)).mono ?_;rintro e w3 ⟨rfl,hB⟩;replace HBW:=zHi (HBW.out.trans (hB.mono HBW.out.size));rw [HS2.out];replace HX:=zHi (HX.out.below hB);replace y0:=HX.out.c0;replace y1:=HX.out.c1;replace y2:=HX.out.c2;clear hB;gi_wp2;exact⟨rfl,rfl,HBW.out⟩
def zge(w:World)(g:Nat):World:=
 (((((w.alloc (.cells #[] 152)).alloc (.cells #[.bool false,.slice none 0 0,.slice none 0 0] 25)).setCell ⟨g,0,none⟩ (.bool false)).setCell ⟨g,1,none⟩ (.slice none 0 0)).setCell ⟨g,2,none⟩ (.slice none 0 0)).setCell ⟨g+1,0,none⟩ (.int .i64 11)
theorem zqE(g:Nat)(w:World)(f f2:Nat→Value)(hg:g+1<w.heap.size)(hA:zaf w g 3 f)(hA2:zaf w (g+1) 1 f2) :
  CallsDIn Fence.wide 0 Tryz.prog 109 #[.pointer (some ⟨g,0,none⟩),.pointer (some ⟨g+1,0,none⟩)] (.panicking tooL) w fun e u' w'=>
   e = .returned (.tuple #[])∧u' = .panicking [{v:=.iface 152 (.agg #[]),recovered:=true}]∧w'=zge w g:=by
 have hB:=(hA.alloc (by omega) (Obj.cells #[] 152)).alloc (by simp;omega) (Obj.cells #[.bool false,.slice none 0 0,.slice none 0 0] 25);have hB2:=(hA2.alloc (by omega) (Obj.cells #[] 152)).alloc (by simp;omega) (Obj.cells #[.bool false,.slice none 0 0,.slice none 0 0] 25);have z0:=(hB 0 (by omega)).1;have z1:=(hB 1 (by omega)).1;have z2:=(hB 2 (by omega)).1;have y0:=(hB 0 (by omega)).2;have y1:=(hB 1 (by omega)).2;have y2:=(hB 2 (by omega)).2;have x0:=(hB2 0 (by omega)).1;have x1:=(hB2 0 (by omega)).2;clear hB hB2;refine callsDIn_of_wpSIn Tryz.func109 rfl trivial fun c₀ cs hu => ?_
 simp only [show Tryz.f109.ntmps=18 from rfl,ztr,zts,ztt,Nat.reduceAdd,Nat.reduceSub,ztu,ztv,ztw,ztx,zty,ztz];unfold tooL at hu;apply wpSIn_seq
 apply wpSIn_region
 simp [wpOpsSIn,go_sem,recoverD,hu,Exit.thenS]
 apply wpSIn_seq
 apply wpSIn_region
 simp [wpOpsSIn,go_sem,Exit.thenS]
 refine wpSIn_cond (t:=true) (by simp [Act.eval]) ?_;simp only [if_true];refine wpSIn_of_wpIn rfl ?_;clear hA hA2;have hta:∀w:World,(Instr.typeAssert (.iface 152 (.agg #[])) 20 152 true).run Tryz.prog w = .ok (.tuple #[.agg #[],.bool true]) w:=fun w=>by kernel_rfl
 gi_wp2;exact⟨rfl,_,rfl,.tuple #[],by simp [results],rfl,rfl,rfl⟩
theorem ziQ(w:World)(v:Value)(q:Rat)(h:zax w v q)(hq:zaw q 100000)(hs:zc5 q=false)(htab:zaS w) :
  CallsIn Fence.wide 0 Tryz.prog 66 #[.func (.func 67) #[v] #[]] w fun e w'=>∃v',e = .returned (.tuple #[v',.int .i64 11])∧zax w' v' 0∧Below w.heap.size w w':=by
 have hmf:∀(fn:Fn) (first cap:Array Value) (w:World),(Instr.makeFunc fn first cap).run Tryz.prog w = .ok (.func fn first cap) w:=fun _ _ _ _=>rfl
 have HR:=zHi h;have HP:=zHi hq;have HS:=zHi hs;have HTab:=zHi htab;obtain⟨o,k,c,o2,k2,c2,rfl⟩:=h.form;clear h hq hs htab;gi_enter_defers Tryz.func66,Tryz.ntmps66
 gi_wp2_with (gi_at_call 67;refine stop ?_)
 unfold Stop;obtain⟨W0,hW0⟩:∃W,W=w.alloc (.cells #[.bool false,.slice none 0 0,.slice none 0 0] 25):=⟨_,rfl⟩;have h0s:W0.heap.size=w.heap.size+1:=by rw [hW0];simp
 obtain⟨W1,hW1⟩:∃W,W=W0.alloc (.cells #[.int .i64 0] 26):=⟨_,rfl⟩;rw [←hW0,←hW1];have HA:Hid (∃f,zaf W1 w.heap.size 3 f):=zHi ⟨fun i => [.bool false,.slice none 0 0,.slice none 0 0].getD i (.bool false),by
  rw [hW1];refine zaf.alloc ?_ (by omega) _;rw [hW0];exact zaf.new _ _ _ fun i hi=>by
   have:i=0∨i=1∨i=2:=by omega
   rcases this with rfl|rfl|rfl <;> rfl⟩
 have HA2:Hid (∃f,zaf W1 (w.heap.size+1) 1 f):=zHi ⟨fun i => .int .i64 0,by
  rw [hW1,←h0s];exact zaf.new _ _ _ fun i hi=>by
   have:i=0:=by omega
   rw [this];rfl⟩
 have HBW:Hid (Below w.heap.size w W1):=zHi (by rw [hW1,hW0];exact(zaa _ _).alloc (by simp) _);have hl:w.heap.size+1<W1.heap.size:=by rw [hW1];simp;omega
 obtain⟨g,hg⟩:∃g,w.heap.size=g:=⟨_,rfl⟩;rw [hg]at HA HA2 hl;rw [hg];have hgw:w.heap.size≤g:=by omega
 clear hW0 hW1 h0s hg;refine(zmF W1 _ q (HR.out.below HBW.out) HP.out HS.out (HTab.out.below HBW.out)).mono ?_;rintro e w2 ⟨rfl,hB⟩;replace HBW:=zHi (HBW.out.trans (hB.mono HBW.out.size));obtain⟨f,hf⟩:=HA.out;obtain⟨f2,hf2⟩:=HA2.out;have ha:=hf.below (by omega) hB;have ha2:=hf2.below (by omega) hB;have hl2:g+1<w2.heap.size:=Nat.lt_of_lt_of_le hl hB.size;clear HA HA2 hf hf2 hB;gi_wp2;refine leavesIn_cons (f:=109) (args:=#[.pointer (some ⟨g,0,none⟩),.pointer (some ⟨g+1,0,none⟩)]) (by simp) (by simp) (by simp [go_sem]) (by simp [Target.leads]) ?_;refine(zqE g w2 f f2 hl2 ha ha2).mono ?_;rintro e u' w'' ⟨rfl,rfl,rfl⟩;show LeavesIn _ _ _ _ _ _ _ FrameMode.returning (zge w2 g)
 have n3:∀j:Nat,(⟨g,j,none⟩:Addr)≠⟨g+1,0,none⟩:=fun j e=>by injection e with e _ _;omega
 have n4:∀j:Nat,(⟨g+1,0,none⟩:Addr)≠⟨g,j,none⟩:=fun j e=>by injection e with e _ _;omega
 have hW:=(ha.alloc (by omega) (Obj.cells #[] 152)).alloc (by simp;omega) (Obj.cells #[.bool false,.slice none 0 0,.slice none 0 0] 25);have hW2:=(ha2.alloc (by omega) (Obj.cells #[] 152)).alloc (by simp;omega) (Obj.cells #[.bool false,.slice none 0 0,.slice none 0 0] 25);have h3:=((hW.set (i:=0) (by omega) (.bool false)).set (i:=1) (by omega) (.slice none 0 0)).set (i:=2) (by omega) (.slice none 0 0);have hsz:=HBW.out.size;have hB3:Below w.heap.size w (zge w2 g):=by
  unfold zge;exact(((((HBW.out.alloc hsz _).alloc (by simp;omega) _).setCell hgw _).setCell hgw _).setCell hgw _).setCell (by show w.heap.size≤g+1;omega) _
 have b3:Box3 (zge w2 g) g (.bool false) (.slice none 0 0) (.slice none 0 0):=fun j v hj=>by
  unfold zge;rw [World.cell?_setCell_other _ _ _ _ (n4 j)];match j,hj with
  | 0,hj=>rw [←hj];exact(h3 0 (by omega)).1
  | 1,hj=>rw [←hj];exact(h3 1 (by omega)).1
  | 2,hj=>rw [←hj];exact(h3 2 (by omega)).1
  | n+3,hj=>simp at hj
 have c3:(zge w2 g).cell? ⟨g+1,0,none⟩=some (.int .i64 11):=by
  unfold zge;exact World.cell?_setCell_same _ _ _ (by rw [World.cell?_setCell_other _ _ _ _ (n3 2),World.cell?_setCell_other _ _ _ _ (n3 1),World.cell?_setCell_other _ _ _ _ (n3 0)];exact(hW2 0 (by omega)).1)
 obtain⟨W,hWW⟩:∃W,zge w2 g=W:=⟨_,rfl⟩;rw [hWW]at b3 c3 hB3 ⊢;refine⟨.tuple #[.agg #[.bool false,.slice none 0 0,.slice none 0 0],.int .i64 11],?_,_,rfl,zaK _,hB3⟩;have e1:=l25 g [.bool false,.slice none 0 0,.slice none 0 0] W rfl b3;have e2:=l26 ⟨g+1,0,none⟩ _ W c3;simp only [Instr.loadAt,Instr.sureAddr,Sem.run_bind,Sem.run_pure,Result.andThen_ok]at e1 e2;simp [results,asAddr,e1,e2]
end Go.Num
namespace Go.Eng
open Go.RowKit
def AT.beq:AT→AT→Bool
 | .tag a,.tag b=>a.beq b
 | .val a,.val b=>a.beq b
 | .agg a,.agg b=>a.beq b
 | .fn f a b,.fn g c d=>Nat.beq f g && a.beq c && b.beq d
 | .nil,.nil=>true
 | .cons a b,.cons c d=>a.beq c && b.beq d
 | _,_=>false
theorem AT.eq_of_beq{a:AT}:∀{b:AT},a.beq b=true→a=b:=by
 induction a with
 | tag t=>intro b h;cases b <;> simp only [AT.beq,Bool.false_eq_true]at h;rw [Tg.eq_of_beq h]
 | val v=>intro b h;cases b <;> simp only [AT.beq,Bool.false_eq_true]at h;rw [AV.beq_eq h]
 | agg a ih=>intro b h;cases b <;> simp only [AT.beq,Bool.false_eq_true]at h;rw [ih h]
 | fn f a c ih1 ih2=>
  intro b h;cases b <;> simp only [AT.beq,Bool.and_eq_true,Bool.false_eq_true]at h;rw [Nat.eq_of_beq_eq_true h.1.1,ih1 h.1.2,ih2 h.2]
 | nil=>intro b h;cases b <;> simp only [AT.beq,Bool.false_eq_true]at h;rfl
 | cons a c ih1 ih2=>
  intro b h;cases b <;> simp only [AT.beq,Bool.and_eq_true,Bool.false_eq_true]at h;rw [ih1 h.1,ih2 h.2]
structure Leaf(res:List TypeId) where
 sh:Sh
 I:Value→World→Prop
 stable:∀v w w',Go.Eng.Kept res w w'→I v w→I v w'
 ok:∀v w,I v w→ShOK sh v
 det:sh = .str→∀v v' w,I v w→I v' w→v=v'
def clsL(S:List Sh):Tg→Sh
 | .leaf k=>S.getD k .one
 | _ => .one
def Leaf.at{res:List TypeId}(env:List (Leaf res))(t:Tg)(v:Value)(w:World):Prop:=
 match t with
 | .leaf k=>match env[k]? with
  | some p=>p.I v w
  | none=>False
 | _=>False
def Gs{res:List TypeId}(env:List (Leaf res)):Sett where
 ids:=[]
 res:=res
 I:=Leaf.at env
 stable:=by
  intro t v w w' hk h;unfold Leaf.at at h ⊢;split at h
  ·split at h
   ·rename_i p hp;exact p.stable v w w' hk h
   ·exact h.elim
  ·exact h.elim
theorem zsc{res:List TypeId}{env:List (Leaf res)}{S:List Sh}(hS:env.map (·.sh)=S):zgg (Gs env) (clsL S) where
 ok:=by
  intro t v w h;replace h:Leaf.at env t v w:=h;unfold Leaf.at at h;split at h
  ·rename_i k;split at h
   ·rename_i p hp;have e:clsL S (.leaf k)=p.sh:=by
     show S.getD k .one=_
     rw [←hS,List.getD_eq_getElem?_getD,List.getElem?_map,hp];rfl
    rw [e];exact p.ok v w h
   ·exact h.elim
  ·exact h.elim
 det:=by
  intro t ht v v' w h h';replace h:Leaf.at env t v w:=h;replace h':Leaf.at env t v' w:=h';unfold Leaf.at at h h';split at h
  ·rename_i k;split at h
   ·rename_i p hp;have e:clsL S (.leaf k)=p.sh:=by
     show S.getD k .one=_
     rw [←hS,List.getD_eq_getElem?_getD,List.getElem?_map,hp];rfl
    rw [e]at ht;simp only [hp]at h';exact p.det ht v v' w h h'
   ·exact h.elim
  ·exact h.elim
abbrev znd:=FuncId × AT × AT
def ziF:List znd→TTab
 | [],_,_=>none
 | (g,ts,rs) :: r,f,us=>bif Nat.beq f g && ts.beq us then some rs else ziF r f us
section
variable {P:Program} {B:Nat} {w0:World} {G:Sett}
theorem znh:zfg P B w0 G (ziF []):=fun _ _ _ q=>by cases q
theorem zpb{g:FuncId}{ts rs:AT}{r:List znd}(hb:zkJ P g)
  (h:∀w (xs:Array Value),Below B w0 w→zb4 G ts xs.toList w→Calls P g xs w fun e w'=>∃x,e = .returned x∧zdl G rs x w'∧Below w.heap.size w w')
  (k:zfg P B w0 G (ziF r)):zfg P B w0 G (ziF ((g,ts,rs) :: r)):=by
 intro f us rs' q;unfold ziF at q
 cases hc:Nat.beq f g && ts.beq us with
 | true=>
  rw [hc]at q;simp only [cond_true,Option.some.injEq]at q;simp only [Bool.and_eq_true]at hc;have e1:=Nat.eq_of_beq_eq_true hc.1;have e2:=AT.eq_of_beq hc.2;subst e1;subst e2;subst q;exact⟨hb,h⟩
 | false=>
  rw [hc]at q;exact k f us rs' q
theorem zjU{g:FuncId}{a rs:AT}{r:List znd}(hb:zkJ P g)
  (h:∀w v,Below B w0 w→zbm G a v w→CallsIn Fence.wide 0 P g #[v] w fun e w'=>∃x,e = .returned x∧zdl G rs x w'∧Below w.heap.size w w')
  (k:zfg P B w0 G (ziF r)):zfg P B w0 G (ziF ((g,.cons a .nil,rs) :: r)):=by
 refine zpb hb (fun w xs hw hx => ?_) k;obtain⟨v,r,e,h1,h2⟩:=hx;have h2:r = []:=h2;subst h2;have:xs=#[v]:=Array.toList_inj.1 (by simpa using e);subst this;exact callsIn_wide.1 (h w v hw h1)
theorem zi9{res:List TypeId}{env:List (Leaf res)}{S:List Sh}{L:List znd}{w:World}(hm:P.follows .mixedOrders=true)(hN:zbB P)(hS:env.map (·.sh)=S)(hT:zfg P w.heap.size w (Gs env) (ziF L))
  {n:Nat} {f:FuncId} {ts rs:AT} (h:runF P (clsL S) (ziF L) res [] n f ts=some rs) {xs:Array Value} (hx:zb4 (Gs env) ts xs.toList w) :
  CallsIn Fence.wide 0 P f xs w fun e w'=>∃x,e = .returned x∧zdl (Gs env) rs x w'∧Below w.heap.size w w':=
 callsIn_wide.2 (zi8 hm hN (zsc hS) rfl hT (by simp) h hx)
end
end Go.Eng
namespace Go.Num
open Go.Eng Go.Shelf Go.RowKit Go.Proofs Go.Proofs.YtoamcgjbelhnkaaGreatDoor
end Go.Num
namespace Go.Num
open Go.Eng Go.Shelf Go.RowKit Go.Proofs Go.Proofs.YtoamcgjbelhnkaaGreatDoor
theorem zpz{q:Rat}(h:q.num≠0):sgnR q≠0:=by
 unfold sgnR;split
 ·decide
 ·decide
theorem zk4{q:Rat}(h:q.num=0):sgnR q=0:=by
 unfold sgnR;rw [if_neg (by omega),if_pos h]
end Go.Num
namespace Go.Num
open Go.Eng Go.Shelf Go.RowKit Go.Proofs Go.Proofs.YtoamcgjbelhnkaaGreatDoor
end Go.Num
namespace Go.Num
open Go.Eng Go.Shelf Go.RowKit Go.Proofs Go.Proofs.YtoamcgjbelhnkaaGreatDoor
abbrev rs3:List TypeId:=[3,111]
theorem zax.kept{w w':World}{v:Value}{q:Rat}(h:zax w v q)(hk:Go.Eng.Kept rs3 w w'):zax w' v q:=by
 obtain⟨vn,vd,e,h1,h2⟩:=h;exact⟨vn,vd,e,h1.kept hk rfl,h2.kept hk rfl⟩
theorem QAt.kept{w w':World}{v:Value}{q:Rat}(h:QAt w v q)(hk:Go.Eng.Kept rs3 w w'):QAt w' v q:=by
 obtain⟨m1,m2,e,h1,h2⟩:=h;exact⟨m1,m2,e,h1.kept hk rfl,h2.kept hk rfl⟩
def ztl(q:Rat):Leaf rs3 where
 sh:=.agg 3
 I:=fun v w=>zax w v q
 stable:=fun _ _ _ hk h=>h.kept hk
 ok:=by
  rintro v w ⟨vn,vd,rfl,h1,h2⟩;refine⟨_,rfl,rfl,fun x hx => ?_⟩;simp only [List.mem_cons,List.not_mem_nil,or_false]at hx;rcases hx with rfl|rfl|rfl
  ·rfl
  ·exact h1.oneCell
  ·exact h2.oneCell
 det:=fun h=>by cases h
def zs1(q:Rat):Leaf rs3 where
 sh:=.agg 4
 I:=fun v w=>QAt w v q
 stable:=fun _ _ _ hk h=>h.kept hk
 ok:=by
  rintro v w ⟨vn,vd,rfl,h1,h2⟩;refine⟨_,rfl,rfl,fun x hx => ?_⟩;simp only [List.mem_cons,List.not_mem_nil,or_false]at hx;rcases hx with rfl|rfl|rfl|rfl
  ·rfl
  ·exact h1.oneCell
  ·rfl
  ·exact h2.oneCell
 det:=fun h=>by cases h
def ztk(s:ByteArray):Leaf rs3 where
 sh:=.str
 I:=fun v _=>v = .string s
 stable:=fun _ _ _ _ h=>h
 ok:=by rintro v w rfl;exact⟨_,rfl⟩
 det:=by rintro _ v v' w rfl rfl;rfl
abbrev tg(k:Nat):AT:=.tag (.leaf k)
abbrev vi(n:Int):AT:=.val (.sc (.int .i64 n))
abbrev A1(a:AT):AT:=.cons a .nil
abbrev A2(a b:AT):AT:=.cons a (.cons b .nil)
abbrev shR:Sh:=.agg 3
abbrev shQ:Sh:=.agg 4
def zkq(q:Rat):Rat:=if zc5 q=true then q else 0
def zqc(q:Rat):Int:=if zc5 q=true then 0 else 11
theorem zd6(w:World)(v:Value)(q:Rat)(h:zax w v q)(hq:zaw q 100000)(htab:zaS w) :
  CallsIn Fence.wide 0 Tryz.prog 66 #[.func (.func 67) #[v] #[]] w fun e w'=>∃v',e = .returned (.tuple #[v',.int .i64 (zqc q)])∧zax w' v' (zkq q)∧Below w.heap.size w w':=by
 unfold zqc zkq
 cases hs:zc5 q with
 | true=>exact zkD w v q h hq hs htab
 | false=>exact ziQ w v q h hq hs htab
section
variable {w0:World} {env:List (Leaf rs3)} {r:List znd}
abbrev TI(w0:World)(env:List (Leaf rs3))(L:List znd):Prop:=zfg Tryz.prog w0.heap.size w0 (Gs env) (ziF L)
theorem pk2{G:Sett}{w:World}{a b:AT}{x y:Value}(h1:zbm G a x w)(h2:zbm G b y w):zdl G (A2 a b) (.tuple #[x,y]) w:=⟨_,rfl,_,_,rfl,h1,_,_,rfl,h2,rfl⟩
theorem ps1{G:Sett}{w:World}{a:AT}{x:Value}(h1:zbm G a x w):zb4 G (A1 a) [x] w:=⟨_,_,rfl,h1,rfl⟩
end
end Go.Num
