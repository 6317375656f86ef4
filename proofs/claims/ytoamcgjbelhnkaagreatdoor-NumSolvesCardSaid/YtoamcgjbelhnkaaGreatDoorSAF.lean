/-
  An integer of the machine as a fraction of the program.
  Conditions: see each statement.
-/
import Derived.Test.YtoamcgjbelhnkaaGreatDoorSAC
import Derived.Lib.ItoaNum
import Derived.Test.YtoamcgjbelhnkaaGreatDoorSAE
import Derived.Test.YtoamcgjbelhnkaaGreatDoorSAA
import Derived.Laws.BytesArg
import Derived.Shelf.Strings.Builder1
import Derived.Shelf.Strings.Builder2
import Derived.Shelf.Strings.Trim
import Derived.Shelf.Strings.SlTrimAscii
import Derived.Shelf.Small.Utf8
import Derived.Shelf.Small.Strs
import Derived.Shelf.Small.Wraps
import Derived.Shelf.Strings.BuilderF
import Derived.Shelf.Strconv.Itoa1
import Derived.Shelf.LaysM
import Derived.Shelf.Strconv.Itoa2
import Derived.Ground.MpProg
import Derived.Shelf.Pu.ParseUintPublic10
import Derived.Shelf.Strings.Search1
import Derived.Shelf.Strings.Search2
import Derived.Shelf.Strings.Cut
import Derived.Shelf.Strings.Shaped
import Derived.Shelf.Strings.Prefix
import Derived.Shelf.Strings.Runes
import Derived.Shelf.Strings.AsciiSet
import Derived.Shelf.Bits.Mul64
import Derived.Shelf.Strings.Repeat
import Derived.Test.YtoamcgjbelhnkaaGreatDoorProg
import Derived.Lib.ItoaMem
set_option maxRecDepth 100000
set_option maxHeartbeats 8000000
namespace Go.Num
open Go.Lib
def padL:Nat→Nat→List UInt8
 | 0,_ => []
 | j+1,n=>padL j (n/10) ++ [UInt8.ofNat (48+n%10)]
theorem zqQ:∀(j hi lo:Nat),0<hi→lo<10^j→decDigits (hi*10^j+lo)=decDigits hi ++ padL j lo
 | 0,hi,lo,_,h=>by
  have:lo=0:=by simp at h;exact h
  subst this;simp [padL]
 | j+1,hi,lo,h0,h=>by
  have e:hi*10^(j+1)+lo=(hi*10^j)*10+lo:=by rw [Nat.pow_succ,Nat.mul_assoc]
  have hp:0<10^j:=Nat.pow_pos (by decide);have hbig:¬(hi*10^(j+1)+lo<10):=by
   have:1*1≤hi*10^j:=Nat.mul_le_mul h0 hp;omega
  rw [decDigits,dif_neg hbig,e];have e1:((hi*10^j)*10+lo)/10=hi*10^j+lo/10:=by omega
  have e2:((hi*10^j)*10+lo)%10=lo%10:=by omega
  rw [e1,e2,zqQ j hi (lo/10) h0 (by rw [Nat.pow_succ]at h;omega),List.append_assoc];rfl
theorem zmF:∀(j n:Nat),n<10^(j+1)→padL (j+1) n=List.replicate (j+1-nDigits n) 48 ++ decDigits n
 | 0,n,h=>by
  have h:n<10:=by simpa using h
  rw [nDigits_small h,decDigits,dif_pos h];simp [padL,Nat.mod_eq_of_lt h]
 | j+1,n,h=>by
  by_cases hs:n<10
  ·have e:n/10=0:=by omega
   show padL (j+1) (n/10) ++ [UInt8.ofNat (48+n%10)]=_
   rw [e,zmF j 0 (Nat.pow_pos (by decide)),nDigits_small hs,nDigits_small (by decide),decDigits,dif_pos (by decide),decDigits,dif_pos hs,Nat.mod_eq_of_lt hs];have:j+1+1-1=(j+1-1)+1:=by omega
   rw [this,List.replicate_succ'];rfl
  ·show padL (j+1) (n/10) ++ [UInt8.ofNat (48+n%10)]=_
   rw [zmF j (n/10) (by rw [Nat.pow_succ]at h;omega),nDigits_big hs,decDigits.eq_def n,dif_neg hs,List.append_assoc];congr 2
   omega
theorem zrP{hi lo:Nat}(h0:0<hi)(h:lo<B):decDigits (hi*B+lo)=decDigits hi ++ (List.replicate (9-nDigits lo) 48 ++ decDigits lo):=by
 rw [←zmF 8 lo h];exact zqQ 9 hi lo h0 h
theorem zrS{n i:Nat}(h0:0<n/B^(i+1)):decDigits (n/B^i)=decDigits (n/B^(i+1)) ++ (List.replicate (9-nDigits (limb n i)) 48 ++ decDigits (limb n i)):=by
 rw [←zrP h0 (zaA n i),Nat.mul_comm,←zcn]
theorem zsP{n m:Nat}(h:LenD n m):nDigits n=m:=by
 obtain⟨h1,h2,h3⟩:=h;by_cases hm:m=1
 ·subst hm;exact nDigits_small (by simpa using h2)
 ·obtain⟨k,rfl⟩:∃k,m=k+1:=⟨m-1,by omega⟩;refine nDigits_unique k n ?_ h2;rcases h3 with h3|h3
  ·omega
  ·exact h3
end Go.Num
namespace Go.Num
open Go.RowKit Go.Proofs Go.Proofs.YtoamcgjbelhnkaaGreatDoor Go.Eng
def zds(z:Int):ByteArray:=⟨(Lib.itoa z).toArray⟩
def zgX(q:Rat):ByteArray:=if q.den=1 then zds q.num else⟨(Lib.itoa q.num ++ 47 :: Lib.decDigits q.den).toArray⟩
theorem Elem.kept{w w':World}{b:Nat}{e:TypeId}{res:List TypeId}(h:Elem w b e)(hk:Kept res w w')(he:res.contains e=true):w'.heap[b]? = w.heap[b]?:=by
 obtain⟨cs,fz,h⟩:=h;rw [h,hk _ _ _ _ h he]
theorem NatI.kept{w w':World}{v:Value}{n:Nat}{res:List TypeId}(h:NatI w v n)(hk:Kept res w w')(he:res.contains 3=true):NatI w' v n:=by
 obtain⟨k,hk',hl⟩:=h;refine⟨k,hk',?_⟩;rcases hl with h|⟨a,cap,h1,h2,h3,h4,h5,h6⟩
 ·exact .inl h
 ·have hb:=h5.kept hk he;exact .inr ⟨a,cap,h1,h2,h3,h4,h5.of_block hb,fun i hi=>(World.cell?_of_block (by rw [zac];exact hb)).trans (h6 i hi)⟩
theorem zas.kept{w w':World}{v:Value}{n:Nat}{res:List TypeId}(h:zas w v n)(hk:Kept res w w')(he:res.contains 111=true):zas w' v n:=by
 obtain⟨k,hk',hl⟩:=h;refine⟨k,hk',?_⟩;rcases hl with h|⟨a,cap,h1,h2,h3,h4,h5,h6⟩
 ·exact .inl h
 ·have hb:=h5.kept hk he;exact .inr ⟨a,cap,h1,h2,h3,h4,h5.of_block hb,fun i hi=>(World.cell?_of_block (by rw [zac];exact hb)).trans (h6 i hi)⟩
theorem NatI.oneCell{w:World}{v:Value}{n:Nat}(h:NatI w v n):v.oneCell'=true:=by
 obtain⟨k,_,hl⟩:=h;obtain⟨o,c,rfl,_⟩:=hl.form;rfl
theorem zas.oneCell{w:World}{v:Value}{n:Nat}(h:zas w v n):v.oneCell'=true:=by
 obtain⟨k,_,hl⟩:=h;obtain⟨o,c,rfl,_⟩:=hl.form;rfl
def clsN:Tg→Sh
 | .un 105 _ => .str
 | .un 106 _ => .str
 | _ => .one
def iN(E:Env)(t:Tg)(v:Value)(w:World):Prop:=
 match t with
 | .un 100 e=>NatI w v (evN E e)
 | .un 103 e=>zas w v (evN E e)
 | .un 107 e=>v = .bool (decide (evZ E e<0))
 | .un 109 e=>v = .int .i64 (evZ E e).sign
 | .un 105 e=>v = .string (zgX (evQ E e))
 | .un 106 e=>v = .string (zds (evZ E e))
 | .un 104 e=>zas w v (if(evQ E e).den=1 then 0 else(evQ E e).den)
 | .un 110 e=>v = .int .i64 (evZ E e) ∧ -9223372036854775808≤evZ E e∧evZ E e≤9223372036854775807
 | _=>False
def GN(E:Env):Sett where
 ids:=[]
 res:=[3,111]
 I:=iN E
 stable:=by
  intro t v w w' hk h;unfold iN at h;split at h
  ·exact NatI.kept h hk rfl
  ·exact zas.kept h hk rfl
  ·exact h
  ·exact h
  ·exact h
  ·exact h
  ·exact zas.kept h hk rfl
  ·exact h
  ·exact h.elim
theorem zmu(E:Env):zgf (GN E) clsN where
 ok:=by
  intro t v w h;have h:iN E t v w:=h;unfold iN at h;split at h
  ·exact h.oneCell
  ·exact h.oneCell
  ·subst h;rfl
  ·subst h;rfl
  ·subst h;exact⟨_,rfl⟩
  ·subst h;exact⟨_,rfl⟩
  ·exact h.oneCell
  ·rw [h.1];rfl
  ·exact h.elim
 det:=by
  intro t ht v v' w h h';unfold clsN at ht;split at ht
  ·have h:v=_:=h;have h':v'=_:=h';rw [h,h']
  ·have h:v=_:=h;have h':v'=_:=h';rw [h,h']
  ·cases ht
def tgN:AT→Option Tg
 | .tag (.un 100 a)=>some a
 | _=>none
def zc(a:Tg):AT:=.agg (.cons (.tag (.un 107 a)) (.cons (.tag (.un 100 a)) .nil))
def zs(b:Bool)(a:Tg):AT:=.agg (.cons (.val (.sc (.bool b))) (.cons (.tag (.un 100 a)) .nil))
theorem Tg.beq_eq{a:Tg}:∀{b:Tg},a.beq b=true→a=b:=by
 induction a with
 | leaf n=>intro b h;cases b <;> simp [Tg.beq]at h;rw [h]
 | un k a ih=>intro b h;cases b <;> simp [Tg.beq]at h;rw [h.1,ih h.2]
 | bin k a b ih1 ih2=>intro c h;cases c <;> simp [Tg.beq]at h;rw [h.1.1,ih1 h.1.2,ih2 h.2]
variable {E:Env}
theorem zs5(a:AT)(x:Tg)(h:tgN a=some x)(v:Value)(w:World)(hp:za9 (GN E) a v w):NatI w v (evN E x):=by
 unfold tgN at h;split at h
 ·cases h;exact hp
 ·cases h
theorem zjD(a:Tg)(v:Value)(w:World):za9 (GN E) (zc a) v w↔ZAt w v (evZ E a):=by
 constructor
 ·rintro⟨xs,rfl,x,r,e,h1,y,r2,rfl,h2,h3⟩;have h3:r2 = []:=h3;subst h3;have e':xs=#[x,y]:=Array.toList_inj.1 (by simpa using e);subst e';have h1:x = .bool (decide (evZ E a<0)):=h1;subst h1;exact⟨y,rfl,h2⟩
 ·rintro⟨m,rfl,hm⟩;exact⟨_,rfl,_,_,rfl,rfl,_,_,rfl,hm,rfl⟩
inductive Fact where
 | le (a b:Tg)
 | nz (b:Tg)
 | cmp (a b:Tg) (c:Int)
 | neg (a:Tg) (b:Bool)
def Fact.ok(E:Env):Fact→Prop
 | .le a b=>evN E b≤evN E a
 | .nz b=>evN E b≠0
 | .cmp a b c=>cmpI (evN E a) (evN E b)=c
 | .neg a b=>decide (evZ E a<0)=b
def zsH(F:List Fact)(a b:Tg):Bool:=F.any fun | .le x y=>a.beq x && b.beq y|_=>false
def zqD(F:List Fact)(b:Tg):Bool:=F.any fun | .nz y=>b.beq y|_=>false
def zhT(F:List Fact)(a b:Tg):Option Int:=F.findSome? fun | .cmp x y c=>bif a.beq x && b.beq y then some c else none|_=>none
def zc9(E:Env)(F:List Fact):Prop:=∀f∈F,f.ok E
theorem zrG{F:List Fact}(hF:zc9 E F){a b:Tg}(h:zsH F a b=true):evN E b≤evN E a:=by
 unfold zsH at h;obtain⟨f,hf,h⟩:=List.any_eq_true.1 h;split at h
 ·simp only [Bool.and_eq_true]at h;rw [Tg.beq_eq h.1,Tg.beq_eq h.2];exact hF _ hf
 ·cases h
theorem zks{F:List Fact}(hF:zc9 E F){b:Tg}(h:zqD F b=true):evN E b≠0:=by
 unfold zqD at h;obtain⟨f,hf,h⟩:=List.any_eq_true.1 h;split at h
 ·rw [Tg.beq_eq h];exact hF _ hf
 ·cases h
theorem zo7{F:List Fact}(hF:zc9 E F){a b:Tg}{c:Int}(h:zhT F a b=some c):cmpI (evN E a) (evN E b)=c:=by
 unfold zhT at h;obtain⟨f,hf,h⟩:=List.exists_of_findSome?_eq_some h;split at h
 ·rename_i x y c'
  cases hb:Tg.beq a x && Tg.beq b y with
  | false=>rw [hb]at h;cases h
  | true=>
   rw [hb]at h
   cases h
   simp only [Bool.and_eq_true]at hb;rw [Tg.beq_eq hb.1,Tg.beq_eq hb.2];exact hF _ hf
 ·cases h
def zhS(F:List Fact)(a:Tg):Option Bool:=F.findSome? fun | .neg x c=>bif a.beq x then some c else none|_=>none
theorem zjm{F:List Fact}(hF:zc9 E F){a:Tg}{c:Bool}(h:zhS F a=some c):decide (evZ E a<0)=c:=by
 unfold zhS at h;obtain⟨f,hf,h⟩:=List.exists_of_findSome?_eq_some h;split at h
 ·rename_i x c'
  cases hb:Tg.beq a x with
  | false=>rw [hb]at h;cases h
  | true=>
   rw [hb]at h
   cases h
   rw [Tg.beq_eq hb];exact hF _ hf
 ·cases h
def zr(F:List Fact)(a:Tg):AT:=match zhS F a with|some b=>zs b a|none=>zc a
def tgZ(F:List Fact):AT→Option Tg
 | .agg (.cons (.tag (.un 107 a)) (.cons (.tag (.un 100 b)) .nil))=>bif a.beq b then some a else none
 | .agg (.cons (.val (.sc (.bool b))) (.cons (.tag (.un 100 a)) .nil))=>match zhS F a with|some c=>bif beqB b c then some a else none|none=>none
 | _=>none
theorem zr3{a:Tg}{b:Bool}(hb:decide (evZ E a<0)=b)(v:Value)(w:World):za9 (GN E) (zs b a) v w↔ZAt w v (evZ E a):=by
 constructor
 ·rintro⟨xs,rfl,x,r,e,h1,y,r2,rfl,h2,h3⟩;have h3:r2 = []:=h3;subst h3;have e':xs=#[x,y]:=Array.toList_inj.1 (by simpa using e);subst e';have h1:some (Value.bool b)=some x:=h1
  cases h1
  exact⟨y,by rw [hb],h2⟩
 ·rintro⟨m,rfl,hm⟩;exact⟨_,rfl,_,_,rfl,by show some (Value.bool b)=some _;rw [hb],_,_,rfl,hm,rfl⟩
theorem zsg{F:List Fact}(hF:zc9 E F)(a:Tg)(v:Value)(w:World):za9 (GN E) (zr F a) v w↔ZAt w v (evZ E a):=by
 unfold zr
 cases h:zhS F a with
 | none=>exact zjD a v w
 | some b=>exact zr3 (zjm hF h) v w
theorem znr{F:List Fact}(hF:zc9 E F)(a:AT)(x:Tg)(h:tgZ F a=some x)(v:Value)(w:World)(hp:za9 (GN E) a v w):ZAt w v (evZ E x):=by
 unfold tgZ at h;split at h
 ·rename_i a b
  cases hb:Tg.beq a b with
  | false=>rw [hb]at h;cases h
  | true=>
   rw [hb]at h
   cases h
   have:=Tg.beq_eq hb;subst this;exact(zjD _ v w).1 hp
 ·rename_i b a;split at h
  ·rename_i c hc
   cases hb:beqB b c with
   | false=>rw [hb]at h;cases h
   | true=>
    rw [hb]at h
    cases h
    have:=znd hb;subst this;exact(zr3 (zjm hF hc) v w).1 hp
  ·cases h
 ·cases h
def one(t:Tg):AT:=.cons (.tag t) .nil
def okSz(n:Nat):Bool:=Nat.ble n 10000000
def TN(L:Nat)(F:List Fact):TTab:=
 TTab.or (t2 126 tgN tgN (fun a b=>okSz (sz L a+sz L b)) fun a b=>one (.un 100 (.bin 11 a b))) <|
 TTab.or (t2 128 tgN tgN (fun a b=>okSz (sz L a+sz L b) && zsH F a b) fun a b=>one (.un 100 (.bin 12 a b))) <|
 TTab.or (t2 129 tgN tgN (fun a b=>okSz (sz L a+sz L b)) fun a b=>one (.un 100 (.bin 13 a b))) <|
 TTab.or (t2 112 tgN tgN (fun a b=>okSz (sz L a+sz L b)) fun a b=>one (.un 100 (.bin 14 a b))) <|
 TTab.or (t2 151 tgN tgN (fun a b=>okSz (sz L a+sz L b) && zqD F b) fun a b => .cons (.tag (.un 100 (.bin 15 a b))) (.cons (.tag (.un 100 (.bin 16 a b))) .nil)) <|
 TTab.or (t2 127 tgN tgN (fun a b=>(zhT F a b).isSome) fun a b=>match zhT F a b with|some c => .cons (.val (.sc (.int .i64 c))) .nil|none => .nil) <|
 fun _ _=>none
theorem sz_N{L:Nat}(hE:zg0 L E)(a:Tg){M:Nat}(h:sz L a≤M):evN E a<B^M:=Nat.lt_of_lt_of_le (zqL hE a).1 (zag h)
theorem zhz{n:Nat}(h:okSz n=true):n≤10000000:=Nat.le_of_ble_eq_true h
theorem ztt{L:Nat}(hE:zg0 L E){F:List Fact}(hF:zc9 E F):zbZ Tryz.prog (GN E) (TN L F):=by
 have mN:=fun a x h v w hp=>zs5 (E:=E) a x h v w hp
 refine zbZ.or (zcv ⟨_,Tryz.func126,rfl⟩ _ _ mN mN ?_) <| zbZ.or (zcv ⟨_,Tryz.func128,rfl⟩ _ _ mN mN ?_) <| zbZ.or (zcv ⟨_,Tryz.func129,rfl⟩ _ _ mN mN ?_) <| zbZ.or (zcv ⟨_,Tryz.func112,rfl⟩ _ _ mN mN ?_) <| zbZ.or (zcv ⟨_,Tryz.func151,rfl⟩ _ _ mN mN ?_) <| zbZ.or (zcv ⟨_,Tryz.func127,rfl⟩ _ _ mN mN ?_) zpp
 ·intro a b hc w v u hv hu;have hs:=zhz hc;refine(callsIn_wide.1 (zpj w v u _ _ (sz L a+sz L b) hv hu (sz_N hE a (by omega)) (sz_N hE b (by omega)) (by omega))).mono ?_;rintro e w' ⟨r,rfl,⟨h1,_⟩,hb⟩;exact⟨r,rfl,h1,hb⟩
 ·intro a b hc w v u hv hu;simp only [Bool.and_eq_true]at hc;have hs:=zhz hc.1;refine(callsIn_wide.1 (ziT w v u _ _ (sz L a+sz L b) hv hu (zrG hF hc.2) (sz_N hE a (by omega)) (by omega))).mono ?_;rintro e w' ⟨r,rfl,⟨h1,_⟩,hb⟩;exact⟨r,rfl,h1,hb⟩
 ·intro a b hc w v u hv hu;have hs:=zhz hc;refine(callsIn_wide.1 (zoZ w v u _ _ (sz L a+sz L b) hv hu (sz_N hE a (by omega)) (sz_N hE b (by omega)) (by omega))).mono ?_;rintro e w' ⟨r,rfl,⟨h1,_⟩,hb⟩;exact⟨r,rfl,h1,hb⟩
 ·intro a b hc w v u hv hu;have hs:=zhz hc;refine(callsIn_wide.1 (zo5 w v u _ _ (sz L a+sz L b) hv hu (sz_N hE a (by omega)) (sz_N hE b (by omega)) (by omega))).mono ?_;rintro e w' ⟨r,rfl,h1,hb⟩;exact⟨r,rfl,h1,hb⟩
 ·intro a b hc w v u hv hu;simp only [Bool.and_eq_true]at hc;have hs:=zhz hc.1;have hz:=zks hF hc.2;refine(callsIn_wide.1 (zjo w v u _ _ (sz L a+sz L b) hv hu (by omega) (sz_N hE a (by omega)) (sz_N hE b (by omega)) (by omega))).mono ?_;rintro e w' ⟨q,r,rfl,h1,h2,hb⟩;exact⟨_,rfl,⟨_,rfl,q,[r],rfl,h1,r,[],rfl,h2,rfl⟩,hb⟩
 ·intro a b hc w v u hv hu;refine(callsIn_wide.1 (zjr w v u _ _ hv hu)).mono ?_;rintro e w' ⟨rfl,hb⟩;refine⟨_,rfl,?_,hb⟩
  cases hf:zhT F a b with
  | none=>rw [hf]at hc;cases hc
  | some c=>
   rw [zo7 hF hf];exact rfl
variable {E:Env}
def sc20(b:Bool):Nat:=match b with|true=>21|false=>20
def tInt:TTab:=fun f ts=>
 bif Nat.beq f 75 then
  match ts with
  | .cons (.val (.sc (.bool b))) (.cons (.tag (.un 100 a)) .nil)=>some (.cons (zc (.un (sc20 b) a)) .nil)
  | _=>none
 else none
theorem zrg:zbZ Tryz.prog (GN E) tInt:=by
 intro f ts rs q;unfold tInt at q
 cases hf:Nat.beq f 75 with
 | false=>rw [hf]at q;cases q
 | true=>
  rw [hf]at q;have hf:=(zam _ _).1 hf;subst hf;refine⟨⟨_,Tryz.func75,rfl⟩,fun w xs hx => ?_⟩;simp only [cond_true]at q;split at q
  ·rename_i b a
   cases q
   obtain⟨v,r,e,h1,u,r2,e2,h3,h4⟩:=hx;subst e2;have h4:r2 = []:=h4;subst h4;have e':xs=#[v,u]:=Array.toList_inj.1 (by simpa using e);subst e';have h1:some (Value.bool b)=some v:=h1
   cases h1
   refine(callsIn_wide.1 (zdQ w b u _ h3)).mono ?_;rintro e w' ⟨v',rfl,hz,hb⟩;refine⟨v',rfl,?_,hb⟩;have:=(zjD (E:=E) (.un (sc20 b) a) v' w').2 (by cases b <;> exact hz);exact this
  ·cases q
def zsn(F:List Fact):TTab:=t1 72 (tgZ F) (fun _=>true) fun a=>one (.un 109 a)
theorem zkT{F:List Fact}(hF:zc9 E F):zbZ Tryz.prog (GN E) (zsn F):=by
 refine zpo ⟨_,Tryz.func72,rfl⟩ _ (fun a x h v w hp=>znr hF a x h v w hp) ?_;intro x _ w v hv;refine(callsIn_wide.1 (zfg w v _ hv)).mono ?_;rintro e w' ⟨rfl,hb⟩;exact⟨_,rfl,rfl,hb⟩
def TZ0(F:List Fact):TTab:=TTab.or (TN 100000 F) (TTab.or tInt (zsn F))
theorem zpr(hE:zg0 100000 E){F:List Fact}(hF:zc9 E F):zbZ Tryz.prog (GN E) (TZ0 F):=.or (ztt hE hF) (.or zrg (zkT hF))
theorem zpk{w:World}{v:Value}{z:Int}(h:ZAt w v z){b:Bool}(hb:decide (z<0)=b){k:Nat}(hz:E.z k=z):za9 (GN E) (zs b (.leaf k)) v w:=by
 obtain⟨m,rfl,hm⟩:=h;rw [hb];refine⟨_,rfl,_,_,rfl,rfl,m,[],rfl,?_,rfl⟩;show NatI w m (E.z k).natAbs
 rw [hz];exact hm
theorem zdd{w:World}{v:Value}{z:Int}(h:ZAt w v z){k:Nat}(hz:E.z k=z):za9 (GN E) (zc (.leaf k)) v w:=(zjD _ v w).2 (by
 show ZAt w v (E.z k)
 rw [hz];exact h)
def envZ(x y:Int):Env:=⟨fun k=>if k=0 then x else y,fun _=>0⟩
theorem zm3{x y:Int}(hx:x.natAbs<B^100000)(hy:y.natAbs<B^100000):zg0 100000 (envZ x y):=⟨by omega,fun k=>⟨by
 show(if k=0 then x else y).natAbs<_
 split <;> assumption,zdJ (by omega)⟩⟩
theorem zb3:zc9 E []:=fun _ h=>by cases h
theorem znQ{t:AT}{x:Value}{w:World}{G:Sett}(h:zdq G (.cons t .nil) x w):za9 G t x w:=h
theorem ziK(w:World)(v:Value)(z:Int)(h:ZAt w v z)(hz:z.natAbs<B^100000) :
  CallsIn Fence.wide 0 Tryz.prog 85 #[v] w fun e w'=>∃v',e = .returned v'∧ZAt w' v' (-z)∧Below w.heap.size w w':=by
 refine callsIn_wide.2 ?_;have hT:=zpr (zm3 hz hz) (zb3 (E:=envZ z z))
 cases hb:decide (z<0)with
 | true=>
  have hr:runF Tryz.prog clsN (TZ0 []) [3,111] [] 50 85 (.cons (zs true (.leaf 0)) .nil)=some (.cons (zc (.un 20 (.leaf 0))) .nil):=by kernel_rfl
  refine(zhn zaq zah (zmu _) rfl hT (by simp) hr ⟨v,[],rfl,zpk h hb rfl,rfl⟩).mono ?_;rintro e w' ⟨x,rfl,hp,hB⟩;refine⟨x,rfl,?_,hB⟩;have:=(zjD _ x w').1 (znQ hp);have hlt:=of_decide_eq_true hb;have e:evZ (envZ z z) (.un 20 (.leaf 0)) = -z:=by show sgn false z.natAbs = -z;unfold sgn;simp;omega
  rw [e]at this;exact this
 | false=>
  have hr:runF Tryz.prog clsN (TZ0 []) [3,111] [] 50 85 (.cons (zs false (.leaf 0)) .nil)=some (.cons (zc (.un 21 (.leaf 0))) .nil):=by kernel_rfl
  refine(zhn zaq zah (zmu _) rfl hT (by simp) hr ⟨v,[],rfl,zpk h hb rfl,rfl⟩).mono ?_;rintro e w' ⟨x,rfl,hp,hB⟩;refine⟨x,rfl,?_,hB⟩;have:=(zjD _ x w').1 (znQ hp);have hlt:=of_decide_eq_false hb;have e:evZ (envZ z z) (.un 21 (.leaf 0)) = -z:=by show sgn true z.natAbs = -z;unfold sgn;simp;omega
  rw [e]at this;exact this
theorem runZ{T:TTab}(hT:zbZ Tryz.prog (GN E) T){n:Nat}{f:FuncId}{ts r:AT}(hr:runF Tryz.prog clsN T [3,111] [] n f ts=some (.cons r .nil)){w:World}{xs:Array Value}(hx:zb8 (GN E) ts xs.toList w) :
  CallsIn Fence.wide 0 Tryz.prog f xs w fun e w'=>∃v',e = .returned v'∧za9 (GN E) r v' w'∧Below w.heap.size w w':=by
 refine callsIn_wide.2 ((zhn zaq zah (zmu _) rfl hT (by simp) hr hx).mono ?_);rintro e w' ⟨x,rfl,hp,hB⟩;exact⟨x,rfl,hp,hB⟩
abbrev l0:Tg:=.leaf 0
abbrev l1:Tg:=.leaf 1
theorem zfd{x y z:Int}(hx:x.natAbs<B^100000)(hy:y.natAbs<B^100000){w:World}{u v:Value}(hu:ZAt w u x)(hv:ZAt w v y){F:List Fact}(hF:zc9 (envZ x y) F){n:Nat}{f:FuncId}{bx by':Bool}(hbx:decide (x<0)=bx)(hby:decide (y<0)=by'){r:Tg}
  (hr:runF Tryz.prog clsN (TZ0 F) [3,111] [] n f (.cons (zs bx l0) (.cons (zs by' l1) .nil))=some (.cons (zc r) .nil)) (he:evZ (envZ x y) r=z) :
  CallsIn Fence.wide 0 Tryz.prog f #[u,v] w fun e w'=>∃v',e = .returned v'∧ZAt w' v' z∧Below w.heap.size w w':=by
 refine(runZ (zpr (zm3 hx hy) hF) hr (xs:=#[u,v]) ⟨u,[v],rfl,zpk hu hbx rfl,v,[],rfl,zpk hv hby rfl,rfl⟩).mono ?_;rintro e w' ⟨v',rfl,hp,hB⟩;refine⟨v',rfl,?_,hB⟩;rw [←he];exact(zjD _ v' w').1 hp
theorem zov(w:World)(u v:Value)(x y:Int)(hu:ZAt w u x)(hv:ZAt w v y)(hx:x.natAbs<B^100000)(hy:y.natAbs<B^100000) :
  CallsIn Fence.wide 0 Tryz.prog 91 #[u,v] w fun e w'=>∃v',e = .returned v'∧ZAt w' v' (x+y)∧Below w.heap.size w w':=by
 cases hbx:decide (x<0) <;> cases hby:decide (y<0)
 ·have h1:=of_decide_eq_false hbx;have h2:=of_decide_eq_false hby;exact zfd hx hy hu hv zb3 (n:=50) (r:=.un 20 (.bin 11 l0 l1)) hbx hby (by kernel_rfl) (by show sgn false ((x.natAbs+y.natAbs:Nat):Int).natAbs=x+y;unfold sgn;simp;omega)
 ·have h1:=of_decide_eq_false hbx;have h2:=of_decide_eq_true hby;by_cases hc:y.natAbs≤x.natAbs
  ·have hF:∀c,cmpI x.natAbs y.natAbs=c→zc9 (envZ x y) [.cmp l0 l1 c,.le l0 l1]:=by
    intro c hc' f hf;rcases List.mem_cons.1 hf with rfl|hf
    ·exact hc'
    ·rcases List.mem_cons.1 hf with rfl|hf
     ·exact hc
     ·cases hf
   have he:evZ (envZ x y) (.un 20 (.bin 12 l0 l1))=x+y:=by show sgn false ((x.natAbs-y.natAbs:Nat):Int).natAbs=x+y;unfold sgn;simp;omega
   rcases Nat.lt_or_ge y.natAbs x.natAbs with hlt|hge
   ·exact zfd hx hy hu hv (hF 1 (zky hlt)) (n:=50) hbx hby (by kernel_rfl) he
   ·exact zfd hx hy hu hv (hF 0 (by rw [show x.natAbs=y.natAbs by omega];exact zm8)) (n:=50) hbx hby (by kernel_rfl) he
  ·have hF:zc9 (envZ x y) [.cmp l0 l1 (-1),.le l1 l0]:=by
    intro f hf;rcases List.mem_cons.1 hf with rfl|hf
    ·exact zh9 (by show x.natAbs<y.natAbs;omega)
    ·rcases List.mem_cons.1 hf with rfl|hf
     ·show x.natAbs≤y.natAbs;omega
     ·cases hf
   exact zfd hx hy hu hv hF (n:=50) (r:=.un 21 (.bin 12 l1 l0)) hbx hby (by kernel_rfl) (by show sgn true ((y.natAbs-x.natAbs:Nat):Int).natAbs=x+y;unfold sgn;simp;omega)
 ·have h1:=of_decide_eq_true hbx;have h2:=of_decide_eq_false hby;by_cases hc:y.natAbs≤x.natAbs
  ·have hF:∀c,cmpI x.natAbs y.natAbs=c→zc9 (envZ x y) [.cmp l0 l1 c,.le l0 l1]:=by
    intro c hc' f hf;rcases List.mem_cons.1 hf with rfl|hf
    ·exact hc'
    ·rcases List.mem_cons.1 hf with rfl|hf
     ·exact hc
     ·cases hf
   have he:evZ (envZ x y) (.un 21 (.bin 12 l0 l1))=x+y:=by show sgn true ((x.natAbs-y.natAbs:Nat):Int).natAbs=x+y;unfold sgn;simp;omega
   rcases Nat.lt_or_ge y.natAbs x.natAbs with hlt|hge
   ·exact zfd hx hy hu hv (hF 1 (zky hlt)) (n:=50) hbx hby (by kernel_rfl) he
   ·exact zfd hx hy hu hv (hF 0 (by rw [show x.natAbs=y.natAbs by omega];exact zm8)) (n:=50) hbx hby (by kernel_rfl) he
  ·have hF:zc9 (envZ x y) [.cmp l0 l1 (-1),.le l1 l0]:=by
    intro f hf;rcases List.mem_cons.1 hf with rfl|hf
    ·exact zh9 (by show x.natAbs<y.natAbs;omega)
    ·rcases List.mem_cons.1 hf with rfl|hf
     ·show x.natAbs≤y.natAbs;omega
     ·cases hf
   exact zfd hx hy hu hv hF (n:=50) (r:=.un 20 (.bin 12 l1 l0)) hbx hby (by kernel_rfl) (by show sgn false ((y.natAbs-x.natAbs:Nat):Int).natAbs=x+y;unfold sgn;simp;omega)
 ·have h1:=of_decide_eq_true hbx;have h2:=of_decide_eq_true hby;exact zfd hx hy hu hv zb3 (n:=50) (r:=.un 21 (.bin 11 l0 l1)) hbx hby (by kernel_rfl) (by show sgn true ((x.natAbs+y.natAbs:Nat):Int).natAbs=x+y;unfold sgn;simp;omega)
theorem zda(w:World)(u v:Value)(x y:Int)(hu:ZAt w u x)(hv:ZAt w v y)(hx:x.natAbs<B^100000)(hy:y.natAbs<B^100000) :
  CallsIn Fence.wide 0 Tryz.prog 92 #[u,v] w fun e w'=>∃v',e = .returned v'∧ZAt w' v' (x*y)∧Below w.heap.size w w':=by
 have hp:=zbl;have hsx:∀b,decide (x<0)=b→sgn b x.natAbs=x:=fun b hb=>by subst hb;unfold sgn;simp;omega
 have hsy:∀b,decide (y<0)=b→sgn b y.natAbs=y:=fun b hb=>by subst hb;unfold sgn;simp;omega
 cases hbx:decide (x<0) <;> cases hby:decide (y<0)
 ·exact zfd hx hy hu hv zb3 (n:=50) (r:=.un 20 (.bin 13 l0 l1)) hbx hby (by kernel_rfl) (by show sgn false ((x.natAbs*y.natAbs:Nat):Int).natAbs=x*y;rw [Int.natAbs_natCast,←hsx _ hbx,←hsy _ hby,zhm,zbl,zbl];rfl)
 ·exact zfd hx hy hu hv zb3 (n:=50) (r:=.un 21 (.bin 13 l0 l1)) hbx hby (by kernel_rfl) (by show sgn true ((x.natAbs*y.natAbs:Nat):Int).natAbs=x*y;rw [Int.natAbs_natCast,←hsx _ hbx,←hsy _ hby,zhm,zbl,zbl];rfl)
 ·exact zfd hx hy hu hv zb3 (n:=50) (r:=.un 21 (.bin 13 l0 l1)) hbx hby (by kernel_rfl) (by show sgn true ((x.natAbs*y.natAbs:Nat):Int).natAbs=x*y;rw [Int.natAbs_natCast,←hsx _ hbx,←hsy _ hby,zhm,zbl,zbl];rfl)
 ·exact zfd hx hy hu hv zb3 (n:=50) (r:=.un 20 (.bin 13 l0 l1)) hbx hby (by kernel_rfl) (by show sgn false ((x.natAbs*y.natAbs:Nat):Int).natAbs=x*y;rw [Int.natAbs_natCast,←hsx _ hbx,←hsy _ hby,zhm,zbl,zbl];rfl)
theorem zgi(w:World)(u v:Value)(x y:Int)(hu:ZAt w u x)(hv:ZAt w v y)(hx:x.natAbs<B^100000)(hy:y.natAbs<B^100000)(hy0:y.natAbs≠0) :
  CallsIn Fence.wide 0 Tryz.prog 119 #[u,v] w fun e w'=>∃v',e = .returned v'∧ZAt w' v' (sgn (decide (x<0) != decide (y<0)) (x.natAbs/y.natAbs))∧Below w.heap.size w w':=by
 have hF:zc9 (envZ x y) [.nz l1]:=by
  intro f hf;rcases List.mem_cons.1 hf with rfl|hf
  ·exact hy0
  ·cases hf
 cases hbx:decide (x<0) <;> cases hby:decide (y<0)
 ·exact zfd hx hy hu hv hF (n:=50) (r:=.un 20 (.bin 15 l0 l1)) hbx hby (by kernel_rfl) rfl
 ·exact zfd hx hy hu hv hF (n:=50) (r:=.un 21 (.bin 15 l0 l1)) hbx hby (by kernel_rfl) rfl
 ·exact zfd hx hy hu hv hF (n:=50) (r:=.un 21 (.bin 15 l0 l1)) hbx hby (by kernel_rfl) rfl
 ·exact zfd hx hy hu hv hF (n:=50) (r:=.un 20 (.bin 15 l0 l1)) hbx hby (by kernel_rfl) rfl
theorem ze0(w:World)(u v:Value)(x y:Int)(hu:ZAt w u x)(hv:ZAt w v y)(hx:x.natAbs<B^100000)(hy:y.natAbs<B^100000) :
  CallsIn Fence.wide 0 Tryz.prog 70 #[u,v] w fun e w'=>∃v',e = .returned v'∧ZAt w' v' ((Nat.gcd x.natAbs y.natAbs:Nat):Int)∧Below w.heap.size w w':=by
 refine(runZ (zpr (zm3 hx hy) zb3) (n:=50) (r:=zc (.un 20 (.bin 14 l0 l1))) (ts:=.cons (zc l0) (.cons (zc l1) .nil)) (by kernel_rfl) (xs:=#[u,v]) ⟨u,[v],rfl,zdd hu rfl,v,[],rfl,zdd hv rfl,rfl⟩).mono ?_;rintro e w' ⟨v',rfl,hp,hB⟩;exact⟨v',rfl,(zjD _ v' w').1 hp,hB⟩
def okZ(n:Nat):Bool:=Nat.ble n 100000
def TZ(L:Nat)(F:List Fact):TTab:=
 TTab.or (t1 85 (tgZ F) (fun a=>okZ (sz L a)) fun a => .cons (zr F (.un 1 a)) .nil) <|
 TTab.or (t2 91 (tgZ F) (tgZ F) (fun a b=>okZ (sz L a) && okZ (sz L b)) fun a b => .cons (zr F (.bin 1 a b)) .nil) <|
 TTab.or (t2 92 (tgZ F) (tgZ F) (fun a b=>okZ (sz L a) && okZ (sz L b)) fun a b => .cons (zr F (.bin 3 a b)) .nil) <|
 TTab.or (t2 119 (tgZ F) (tgZ F) (fun a b=>okZ (sz L a) && okZ (sz L b) && zqD F b) fun a b => .cons (zr F (.bin 17 a b)) .nil) <|
 TTab.or (t2 70 (tgZ F) (tgZ F) (fun a b=>okZ (sz L a) && okZ (sz L b)) fun a b => .cons (zr F (.bin 14 a b)) .nil) <|
 zsn F
theorem zf6{L:Nat}(hE:zg0 L E){a:Tg}(h:okZ (sz L a)=true):(evZ E a).natAbs<B^100000:=zaX 100000 (zqL hE a).1 (Nat.le_of_ble_eq_true h)
theorem zs3{L:Nat}(hE:zg0 L E){F:List Fact}(hF:zc9 E F):zbZ Tryz.prog (GN E) (TZ L F):=by
 have mZ:=fun a x h v w hp=>znr (E:=E) hF a x h v w hp
 have fin:∀{w:World} {z:Tg},(fun (e:Ending) (w':World)=>∃v',e = .returned v'∧ZAt w' v' (evZ E z)∧Below w.heap.size w w')=fun e w'=>∃v',e = .returned v'∧zdq (GN E) (.cons (zr F z) .nil) v' w'∧Below w.heap.size w w':=by
  intro w z
  funext e w'
  apply propext
  constructor
  ·rintro⟨v',h1,h2,h3⟩;exact⟨v',h1,(zsg hF z v' w').2 h2,h3⟩
  ·rintro⟨v',h1,h2,h3⟩;exact⟨v',h1,(zsg hF z v' w').1 h2,h3⟩
 refine zbZ.or (zpo ⟨_,Tryz.func85,rfl⟩ _ mZ ?_) <| zbZ.or (zcv ⟨_,Tryz.func91,rfl⟩ _ _ mZ mZ ?_) <| zbZ.or (zcv ⟨_,Tryz.func92,rfl⟩ _ _ mZ mZ ?_) <| zbZ.or (zcv ⟨_,Tryz.func119,rfl⟩ _ _ mZ mZ ?_) <| zbZ.or (zcv ⟨_,Tryz.func70,rfl⟩ _ _ mZ mZ ?_) (zkT hF)
 ·intro a hc w v hv;rw [←fin];exact callsIn_wide.1 (ziK w v _ hv (zf6 hE hc))
 ·intro a b hc w v u hv hu;simp only [Bool.and_eq_true]at hc;rw [←fin];exact callsIn_wide.1 (zov w v u _ _ hv hu (zf6 hE hc.1) (zf6 hE hc.2))
 ·intro a b hc w v u hv hu;simp only [Bool.and_eq_true]at hc;rw [←fin];exact callsIn_wide.1 (zda w v u _ _ hv hu (zf6 hE hc.1) (zf6 hE hc.2))
 ·intro a b hc w v u hv hu;simp only [Bool.and_eq_true]at hc;rw [←fin];exact callsIn_wide.1 (zgi w v u _ _ hv hu (zf6 hE hc.1.1) (zf6 hE hc.1.2) (zks hF hc.2))
 ·intro a b hc w v u hv hu;simp only [Bool.and_eq_true]at hc;rw [←fin];exact callsIn_wide.1 (ze0 w v u _ _ hv hu (zf6 hE hc.1) (zf6 hE hc.2))
theorem zg7{L:Nat}(hL:0<L){x y:Int}(hx:x.natAbs<B^L)(hy:y.natAbs<B^L):zg0 L (envZ x y):=⟨hL,fun k=>⟨by
 show(if k=0 then x else y).natAbs<_
 split <;> assumption,zdJ hL⟩⟩
theorem ziJ(w:World)(u v:Value)(x y:Int)(hu:ZAt w u x)(hv:ZAt w v y)(hx:x.natAbs<B^50000)(hy:y.natAbs<B^50000) :
  CallsIn Fence.wide 0 Tryz.prog 95 #[u,v] w fun e w'=>∃v',e = .returned v'∧ZAt w' v' (x-y)∧Below w.heap.size w w':=by
 refine(runZ (zs3 (L:=50000) (zg7 (by omega) hx hy) zb3) (n:=50) (r:=zc (.bin 1 l0 (.un 1 l1))) (ts:=.cons (zc l0) (.cons (zc l1) .nil)) (by kernel_rfl) (xs:=#[u,v]) ⟨u,[v],rfl,zdd hu rfl,v,[],rfl,zdd hv rfl,rfl⟩).mono ?_;rintro e w' ⟨v',rfl,hp,hB⟩;exact⟨v',rfl,(zjD _ v' w').1 hp,hB⟩
variable {E:Env}
def TZ2(L:Nat)(F:List Fact):TTab:=TTab.or (t2 95 (tgZ F) (tgZ F) (fun a b=>Nat.ble (sz L a) 50000 && Nat.ble (sz L b) 50000) fun a b => .cons (zr F (.bin 2 a b)) .nil) (TZ L F)
theorem znq{L:Nat}(hE:zg0 L E){F:List Fact}(hF:zc9 E F):zbZ Tryz.prog (GN E) (TZ2 L F):=by
 have mZ:=fun a x h v w hp=>znr (E:=E) hF a x h v w hp
 refine zbZ.or (zcv ⟨_,Tryz.func95,rfl⟩ _ _ mZ mZ ?_) (zs3 hE hF);intro a b hc w v u hv hu;simp only [Bool.and_eq_true]at hc;refine(callsIn_wide.1 (ziJ w v u _ _ hv hu (zaX 50000 (zqL hE a).1 (Nat.le_of_ble_eq_true hc.1)) (zaX 50000 (zqL hE b).1 (Nat.le_of_ble_eq_true hc.2)))).mono ?_;rintro e w' ⟨v',rfl,hz,hb⟩;exact⟨v',rfl,(zsg hF _ v' w').2 hz,hb⟩
theorem zct(w:World)(u v:Value)(x y:Int)(hu:ZAt w u x)(hv:ZAt w v y)(hx:x.natAbs<B^50000)(hy:y.natAbs<B^50000) :
  CallsIn Fence.wide 0 Tryz.prog 69 #[u,v] w fun e w'=>e = .returned (.int .i64 (x-y).sign)∧Below w.heap.size w w':=by
 refine(runZ (znq (L:=50000) (zg7 (by omega) hx hy) zb3) (n:=50) (r:=.tag (.un 109 (.bin 2 l0 l1))) (ts:=.cons (zc l0) (.cons (zc l1) .nil)) (by kernel_rfl) (xs:=#[u,v]) ⟨u,[v],rfl,zdd hu rfl,v,[],rfl,zdd hv rfl,rfl⟩).mono ?_;rintro e w' ⟨v',rfl,hp,hB⟩;have hp:v' = .int .i64 (x-y).sign:=hp;exact⟨by rw [hp],hB⟩
def QAt(w:World)(v:Value)(q:Rat):Prop:=∃m1 m2,v = .agg #[.bool (decide (q.num<0)),m1,.bool false,m2]∧NatI w m1 q.num.natAbs∧NatI w m2 q.den
theorem QAt.below{w w':World}{v:Value}{q:Rat}(h:QAt w v q)(hb:Below w.heap.size w w'):QAt w' v q:=by
 obtain⟨m1,m2,e,h1,h2⟩:=h;exact⟨m1,m2,e,h1.below hb,h2.below hb⟩
def zqY(a b:AT):AT:=
 match a,b with
 | .agg (.cons x (.cons y .nil)),.agg (.cons z (.cons u .nil)) => .agg (.cons x (.cons y (.cons z (.cons u .nil))))
 | _,_ => .nil
def qc(a:Tg):AT:=.agg (.cons (.tag (.un 107 (.un 30 a))) (.cons (.tag (.un 100 (.un 30 a))) (.cons (.val (.sc (.bool false))) (.cons (.tag (.un 100 (.un 31 a))) .nil))))
theorem zsw(a:Tg)(v:Value)(w:World):za9 (GN E) (qc a) v w↔QAt w v (evQ E a):=by
 constructor
 ·rintro⟨xs,rfl,x,r,e,h1,y,r2,rfl,h2,z,r3,rfl,h3,u,r4,rfl,h4,h5⟩;have h5:r4 = []:=h5;subst h5;have e':xs=#[x,y,z,u]:=Array.toList_inj.1 (by simpa using e);subst e';have h1:x = .bool (decide ((evQ E a).num<0)):=h1;have h3:some (Value.bool false)=some z:=h3
  cases h3
  subst h1;exact⟨y,u,rfl,h2,h4⟩
 ·rintro⟨m1,m2,rfl,h1,h2⟩;exact⟨_,rfl,_,_,rfl,rfl,_,_,rfl,h1,_,_,rfl,rfl,_,_,rfl,h2,rfl⟩
theorem zrE{x y:Int}(_hy:y≠0):((x:Rat)/(y:Rat))=frac (decide (x<0) != decide (y<0)) x.natAbs y.natAbs:=by
 have h1:(x:Rat)=frac (decide (x<0)) x.natAbs 1:=(zcT (x:Rat)).symm;have h2:(y:Rat)=frac (decide (y<0)) y.natAbs 1:=(zcT (y:Rat)).symm;rw [h1,h2,zlM,Nat.mul_one,Nat.one_mul]
theorem zoM{x y:Int}(hy:y≠0):((x:Rat)/(y:Rat)).num=sgn (decide (x<0) != decide (y<0)) (x.natAbs/Nat.gcd x.natAbs y.natAbs)∧((x:Rat)/(y:Rat)).den=y.natAbs/Nat.gcd x.natAbs y.natAbs:=by
 have hp:=zdS (neg:=decide (x<0) != decide (y<0)) (n:=x.natAbs) (d:=y.natAbs) (by omega);rw [zrE hy];rw [Nat.gcd_comm y.natAbs]at hp;obtain⟨h1,h2,h3⟩:=hp;refine⟨?_,h2⟩;obtain⟨q,hq⟩:∃q,(frac (decide (x<0) != decide (y<0)) x.natAbs y.natAbs).num=q:=⟨_,rfl⟩;rw [hq]at h1 h3 ⊢;obtain⟨b,hb⟩:∃b,(decide (x<0) != decide (y<0))=b:=⟨_,rfl⟩;rw [hb]at h3 ⊢;rw [←h1]
 cases b with
 | false=>unfold sgn;simp at h3 ⊢;omega
 | true=>
  unfold sgn;simp at h3 ⊢
  by_cases hx:x=0
  ·subst hx;simp at h1 h3
   omega
  ·have:=h3.2 hx;omega
theorem zd4(w:World)(u v:Value)(x y:Int)(hu:ZAt w u x)(hv:ZAt w v y)(hx:x.natAbs<B^20000)(hy:y.natAbs<B^20000)(hy0:y≠0) :
  CallsIn Fence.wide 0 Tryz.prog 77 #[u,v] w fun e w'=>∃v',e = .returned v'∧QAt w' v' ((x:Rat)/(y:Rat))∧Below w.heap.size w w':=by
 have hg:Nat.gcd x.natAbs y.natAbs≠0:=by
  intro h;have:=Nat.eq_zero_of_gcd_eq_zero_right h;omega
 obtain⟨hn,hd⟩:=zoM (x:=x) hy0;have hdiv:=Nat.div_pos (Nat.le_of_dvd (by omega) (Nat.gcd_dvd_right x.natAbs y.natAbs)) (Nat.pos_of_ne_zero hg);have hF:∀b,decide (y<0)=b→zc9 (envZ x y) [.nz (.bin 14 l0 l1),.neg (.bin 17 l1 (.bin 14 l0 l1)) b]:=by
  intro b hb f hf;rcases List.mem_cons.1 hf with rfl|hf
  ·exact hg
  ·rcases List.mem_cons.1 hf with rfl|hf
   ·show decide (sgn (decide (y<0) != decide (((Nat.gcd x.natAbs y.natAbs:Nat):Int)<0)) (y.natAbs/Nat.gcd x.natAbs y.natAbs)<0)=b
    have e:decide (((Nat.gcd x.natAbs y.natAbs:Nat):Int)<0)=false:=decide_eq_false (by omega);rw [e,hb]
    cases b with
    | false=>exact decide_eq_false (by rw [zgl];simp)
    | true=>exact decide_eq_true (by rw [zgl];exact⟨rfl,hdiv⟩)
   ·cases hf
 have e0:decide (((Nat.gcd x.natAbs y.natAbs:Nat):Int)<0)=false:=decide_eq_false (by omega)
 cases hby:decide (y<0)with
 | false=>
  refine(runZ (znq (L:=20000) (zg7 (by omega) hx hy) (hF _ hby)) (n:=60) (r:=zqY (zc (.bin 17 l0 (.bin 14 l0 l1))) (zs false (.bin 17 l1 (.bin 14 l0 l1)))) (ts:=.cons (zc l0) (.cons (zc l1) .nil)) (by kernel_rfl) (xs:=#[u,v]) ⟨u,[v],rfl,zdd hu rfl,v,[],rfl,zdd hv rfl,rfl⟩).mono ?_;rintro e w' ⟨v',rfl,⟨xs,rfl,a,r,e1,h1,b,r2,rfl,h2,c,r3,rfl,h3,d,r4,rfl,h4,h5⟩,hB⟩;have h5:r4 = []:=h5;subst h5;have e':xs=#[a,b,c,d]:=Array.toList_inj.1 (by simpa using e1);subst e';have h3:some (Value.bool false)=some c:=h3
  cases h3
  have en:evZ (envZ x y) (.bin 17 l0 (.bin 14 l0 l1))=((x:Rat)/(y:Rat)).num:=by
   rw [hn,hby];show sgn (decide (x<0) != decide (((Nat.gcd x.natAbs y.natAbs:Nat):Int)<0)) (x.natAbs/Nat.gcd x.natAbs y.natAbs)=_
   rw [e0]
  have ed:evN (envZ x y) (.bin 17 l1 (.bin 14 l0 l1))=((x:Rat)/(y:Rat)).den:=by
   rw [hd];exact zbl _ _
  refine⟨_,rfl,⟨b,d,?_,?_,?_⟩,hB⟩
  ·have h1:a = .bool (decide (evZ (envZ x y) (.bin 17 l0 (.bin 14 l0 l1))<0)):=h1;rw [h1,en]
  ·rw [←en];exact h2
  ·rw [←ed];exact h4
 | true=>
  refine(runZ (znq (L:=20000) (zg7 (by omega) hx hy) (hF _ hby)) (n:=60) (r:=zqY (zc (.un 1 (.bin 17 l0 (.bin 14 l0 l1)))) (zc (.un 1 (.bin 17 l1 (.bin 14 l0 l1))))) (ts:=.cons (zc l0) (.cons (zc l1) .nil)) (by kernel_rfl) (xs:=#[u,v]) ⟨u,[v],rfl,zdd hu rfl,v,[],rfl,zdd hv rfl,rfl⟩).mono ?_;rintro e w' ⟨v',rfl,⟨xs,rfl,a,r,e1,h1,b,r2,rfl,h2,c,r3,rfl,h3,d,r4,rfl,h4,h5⟩,hB⟩;have h5:r4 = []:=h5;subst h5;have e':xs=#[a,b,c,d]:=Array.toList_inj.1 (by simpa using e1);subst e';have en:evZ (envZ x y) (.un 1 (.bin 17 l0 (.bin 14 l0 l1)))=((x:Rat)/(y:Rat)).num:=by
   rw [hn,hby];show -sgn (decide (x<0) != decide (((Nat.gcd x.natAbs y.natAbs:Nat):Int)<0)) (x.natAbs/Nat.gcd x.natAbs y.natAbs)=_
   rw [e0]
   cases decide (x<0) <;> simp [sgn]
  have ez:evZ (envZ x y) (.un 1 (.bin 17 l1 (.bin 14 l0 l1)))=((y.natAbs/Nat.gcd x.natAbs y.natAbs:Nat):Int):=by
   show -sgn (decide (y<0) != decide (((Nat.gcd x.natAbs y.natAbs:Nat):Int)<0)) (y.natAbs/Nat.gcd x.natAbs y.natAbs)=_
   rw [e0,hby];simp [sgn]
  have ed:evN (envZ x y) (.un 1 (.bin 17 l1 (.bin 14 l0 l1)))=((x:Rat)/(y:Rat)).den:=by
   rw [hd];show(evZ (envZ x y) (.un 1 (.bin 17 l1 (.bin 14 l0 l1)))).natAbs=_
   rw [ez];rfl
  refine⟨_,rfl,⟨b,d,?_,?_,?_⟩,hB⟩
  ·have h1:a = .bool (decide (evZ (envZ x y) (.un 1 (.bin 17 l0 (.bin 14 l0 l1)))<0)):=h1;have h3:c = .bool (decide (evZ (envZ x y) (.un 1 (.bin 17 l1 (.bin 14 l0 l1)))<0)):=h3;rw [h1,en,h3,ez];have:decide (((y.natAbs/Nat.gcd x.natAbs y.natAbs:Nat):Int)<0)=false:=decide_eq_false (by omega);rw [this]
  ·rw [←en];exact h2
  ·rw [←ed];exact h4
def TQ0(L:Nat)(F:List Fact):TTab:=TTab.or (t2 77 (tgZ F) (tgZ F) (fun a b=>Nat.ble (sz L a) 20000 && Nat.ble (sz L b) 20000 && zqD F b) fun a b => .cons (qc (.bin 40 a b)) .nil) <|
 TTab.or (t2 69 (tgZ F) (tgZ F) (fun a b=>Nat.ble (sz L a) 50000 && Nat.ble (sz L b) 50000) fun a b=>one (.un 109 (.bin 2 a b))) (TZ2 L F)
theorem bleZ{L M:Nat}(hE:zg0 L E){a:Tg}(h:Nat.ble (sz L a) M=true):(evZ E a).natAbs<B^M:=Nat.lt_of_lt_of_le (zqL hE a).1 (zag (Nat.le_of_ble_eq_true h))
theorem zs4{L:Nat}(hE:zg0 L E){F:List Fact}(hF:zc9 E F):zbZ Tryz.prog (GN E) (TQ0 L F):=by
 have mZ:=fun a x h v w hp=>znr (E:=E) hF a x h v w hp
 refine zbZ.or (zcv ⟨_,Tryz.func77,rfl⟩ _ _ mZ mZ ?_) <| zbZ.or (zcv ⟨_,Tryz.func69,rfl⟩ _ _ mZ mZ ?_) (znq hE hF)
 ·intro a b hc w v u hv hu;simp only [Bool.and_eq_true]at hc;have hz:=zks hF hc.2;refine(callsIn_wide.1 (zd4 w v u _ _ hv hu (bleZ (M:=20000) hE hc.1.1) (bleZ (M:=20000) hE hc.1.2) (by intro h;exact hz (by show(evZ E b).natAbs=0;rw [h];rfl)))).mono ?_;rintro e w' ⟨v',rfl,hz,hb⟩;exact⟨v',rfl,(zsw _ v' w').2 hz,hb⟩
 ·intro a b hc w v u hv hu;simp only [Bool.and_eq_true]at hc;refine(callsIn_wide.1 (zct w v u _ _ hv hu (bleZ (M:=50000) hE hc.1) (bleZ (M:=50000) hE hc.2))).mono ?_;rintro e w' ⟨rfl,hb⟩;exact⟨_,rfl,rfl,hb⟩
def envQ(p q:Rat):Env:=⟨fun _=>0,fun k=>if k=0 then p else q⟩
theorem zsM{L:Nat}(hL:0<L){p q:Rat}(hp:zan p L)(hq:zan q L):zg0 L (envQ p q):=⟨hL,fun k=>⟨zar _,by
 show zan (if k=0 then p else q) L
 split <;> assumption⟩⟩
theorem zp3{w:World}{v:Value}{q:Rat}(h:QAt w v q){k:Nat}(hz:E.q k=q):za9 (GN E) (qc (.leaf k)) v w:=(zsw _ v w).2 (by
 show QAt w v (E.q k)
 rw [hz];exact h)
def fQ(l:List Fact):List Fact:=.neg (.un 31 l0) false :: .neg (.un 31 l1) false :: l
theorem ztj{p q:Rat}{l:List Fact}(h:zc9 (envQ p q) l):zc9 (envQ p q) (fQ l):=by
 intro f hf;rcases List.mem_cons.1 hf with rfl|hf
 ·exact decide_eq_false (by show ¬((p.den:Nat):Int)<0;omega)
 ·rcases List.mem_cons.1 hf with rfl|hf
  ·exact decide_eq_false (by show ¬((q.den:Nat):Int)<0;omega)
  ·exact h f hf
theorem zta{p q z:Rat}(hp:zan p 4700)(hq:zan q 4700){w:World}{u v:Value}(hu:QAt w u p)(hv:QAt w v q){l:List Fact}(hF:zc9 (envQ p q) l){n:Nat}{f:FuncId}{r:Tg}
  (hr:runF Tryz.prog clsN (TQ0 4700 (fQ l)) [3,111] [] n f (.cons (qc l0) (.cons (qc l1) .nil))=some (.cons (qc r) .nil)) (he:evQ (envQ p q) r=z) :
  CallsIn Fence.wide 0 Tryz.prog f #[u,v] w fun e w'=>∃v',e = .returned v'∧QAt w' v' z∧Below w.heap.size w w':=by
 refine(runZ (zs4 (zsM (by omega) hp hq) (ztj hF)) hr (xs:=#[u,v]) ⟨u,[v],rfl,zp3 hu rfl,v,[],rfl,zp3 hv rfl,rfl⟩).mono ?_;rintro e w' ⟨v',rfl,hp,hB⟩;refine⟨v',rfl,?_,hB⟩;rw [←he];exact(zsw _ v' w').1 hp
theorem zqP(p q:Rat):((p.den:Int)*(q.den:Int))≠0:=by
 have h1:=p.den_nz;have h2:=q.den_nz;intro h;rcases Int.mul_eq_zero.1 h with h|h <;> omega
theorem zlS{E:Env}{f:Fact}(h:f.ok E):zc9 E [f]:=by
 intro g hg;rcases List.mem_cons.1 hg with rfl|hg
 ·exact h
 ·cases hg
theorem zdk(p:Rat):p=Rat.divInt p.num p.den:=(Rat.num_divInt_den p).symm
theorem zoh(x y:Int):((x:Rat)/(y:Rat))=Rat.divInt x y:=(Rat.divInt_eq_div x y).symm
theorem zmC(w:World)(u v:Value)(p q:Rat)(hu:QAt w u p)(hv:QAt w v q)(hp:zan p 4700)(hq:zan q 4700) :
  CallsIn Fence.wide 0 Tryz.prog 37 #[u,v] w fun e w'=>∃v',e = .returned v'∧QAt w' v' (p+q)∧Below w.heap.size w w':=by
 refine zta hp hq hu hv (l:=[.nz (.bin 3 (.un 31 l0) (.un 31 l1))]) (zlS (by show((p.den:Int)*(q.den:Int)).natAbs≠0;have:=zqP p q;omega)) (n:=60) (r:=.bin 40 (.bin 1 (.bin 3 (.un 30 l0) (.un 31 l1)) (.bin 3 (.un 30 l1) (.un 31 l0))) (.bin 3 (.un 31 l0) (.un 31 l1))) (by kernel_rfl) ?_;show((p.num*(q.den:Int)+q.num*(p.den:Int):Int):Rat)/(((p.den:Int)*(q.den:Int):Int):Rat)=p+q
 rw [zoh];conv=>rhs;rw [zdk p,zdk q]
 rw [Rat.divInt_add_divInt _ _ (by have:=p.den_nz;omega) (by have:=q.den_nz;omega)]
theorem zkU(w:World)(u v:Value)(p q:Rat)(hu:QAt w u p)(hv:QAt w v q)(hp:zan p 4700)(hq:zan q 4700) :
  CallsIn Fence.wide 0 Tryz.prog 38 #[u,v] w fun e w'=>∃v',e = .returned v'∧QAt w' v' (p*q)∧Below w.heap.size w w':=by
 refine zta hp hq hu hv (l:=[.nz (.bin 3 (.un 31 l0) (.un 31 l1))]) (zlS (by show((p.den:Int)*(q.den:Int)).natAbs≠0;have:=zqP p q;omega)) (n:=60) (r:=.bin 40 (.bin 3 (.un 30 l0) (.un 30 l1)) (.bin 3 (.un 31 l0) (.un 31 l1))) (by kernel_rfl) ?_;show((p.num*q.num:Int):Rat)/(((p.den:Int)*(q.den:Int):Int):Rat)=p*q
 rw [zoh];conv=>rhs;rw [zdk p,zdk q]
 rw [Rat.divInt_mul_divInt]
end Go.Num
namespace Go.Num
open Go.Eng Go.RowKit Go.Proofs Go.Proofs.YtoamcgjbelhnkaaGreatDoor
theorem ziN(n:Int)(h1 : -9223372036854775808≤n)(h2:n≤9223372036854775807)(h:0≤n):IntKind.u64.wrap n=(n.natAbs:Int):=by
 have e:IntKind.u64.wrap n=n%18446744073709551616:=rfl;rw [e];omega
theorem ziM(n:Int)(h1 : -9223372036854775808≤n)(h:n<0):IntKind.u64.wrap n=n+18446744073709551616:=by
 have e:IntKind.u64.wrap n=n%18446744073709551616:=rfl;rw [e];omega
theorem zpm(n:Int)(h1 : -9223372036854775808≤n)(h:n<0):IntKind.u64.wrap (-(n+18446744073709551616))=(n.natAbs:Int):=by
 have e:IntKind.u64.wrap (-(n+18446744073709551616))=(-(n+18446744073709551616))%18446744073709551616:=rfl;rw [e];omega
theorem zjX{fn:Func}{p:Tmp}{ty:TypeId}{R:Ending→World→Prop}{a:Act}{w:World}{cs:List Value}{n:Nat}(h:fn.results=#[.cell p ty])(hd:a.defers = [])(g:Nat)(hp:a.tmps.getD p undef = .pointer (some ⟨g,0,none⟩))
  (hl:zcd Tryz.prog ty n) (hn:cs.length=n) (hc:∀j v,cs[j]? = some v→World.cell? w ⟨g,j,none⟩=some v) (hR:R (.returned (.agg cs.toArray)) w):bodyPost Tryz.prog fn R .ret a w:=by
 refine⟨hd,.agg cs.toArray,?_,hR⟩;have:=hl g cs w hn hc;simp only [Instr.loadAt,Instr.sureAddr,Sem.run_bind,Sem.run_pure,Result.andThen_ok]at this;have hp2:a.tmps[p]?.getD undef = .pointer (some ⟨g,0,none⟩):=by rw [←Array.getD_eq_getD_getElem?];exact hp
 simp [results,h,hp2,asAddr,this]
theorem NatI.setElem{w:World}{v u:Value}{x g i:Nat}{e:TypeId}(h:NatI w v x)(hE:Elem w g e)(he:e≠3):NatI (w.setCell ⟨g,i,none⟩ u) v x:=by
 obtain⟨k,hk,hl⟩:=h;refine⟨k,hk,?_⟩;rcases hl with h|⟨a,cap,rfl,h2,h3,h4,h5,h6⟩
 ·exact .inl h
 ·have hne:a.block≠g:=h5.ne hE (Ne.symm he);refine .inr ⟨a,cap,rfl,h2,h3,h4,h5.setCell _ _,fun j hj => ?_⟩;rw [World.cell?_setCell_other _ _ _ _ (by intro q;exact hne (by rw [←zac a j];exact(congrArg Addr.block q).symm))];exact h6 j hj
theorem l32:zcd Tryz.prog 32 2:=zbB (by kernel_rfl) (by kernel_rfl)
theorem za6(w:World)(n:Int)(h1 : -9223372036854775808≤n)(h2:n≤9223372036854775807) :
  CallsIn Fence.wide 0 Tryz.prog 22 #[.int .i64 n] w fun e w'=>∃v',e = .returned v'∧ZAt w' v' n∧Below w.heap.size w w':=by
 obtain⟨N,hN⟩:∃N,n.natAbs=N:=⟨_,rfl⟩;have hNs:N<18446744073709551616:=by omega
 refine callsIn_of_wp Tryz.func22 rfl trivial ?_ rfl;simp only [Tryz.ntmps22,ztH,ztI,ztJ,Nat.reduceAdd,Nat.reduceSub,ztK,ztL,ztM,ztN,ztO,ztP];by_cases h0:n<0
 case' pos=>
  have e1:=ziM n h1 h0;have e2:=zpm n h1 h0;have HS:Hid (sgn true N=n):=zHi (by unfold sgn;simp;omega);have hb:decide (n<0)=true:=decide_eq_true h0
 case' neg=>
  have e1:=ziN n h1 h2 (by omega);have HS:Hid (sgn false N=n):=zHi (by unfold sgn;simp;omega);have hb:decide (n<0)=false:=decide_eq_false h0
 all_goals
  first|rw [hN]at e2|rw [hN]at e1
  gi_wp2;obtain⟨W1,hW1⟩:∃W,W=w.alloc (.cells #[.bool false,.slice none 0 0] 32):=⟨_,rfl⟩;rw [←hW1];have HBW:Hid (Below w.heap.size w W1):=zHi (by rw [hW1];exact zaa _ _);have HA1:Hid (zaj W1 w.heap.size 2 fun i=>if i=0 then .bool false else .slice none 0 0):=zHi (by
   rw [hW1];refine zaj.new _ _ _ fun i hi => ?_
   match i,hi with
   | 0,_=>rfl
   | 1,_=>rfl)
  have HE1:Hid (Elem W1 w.heap.size 32):=zHi (by rw [hW1];exact zaB _ _ _);obtain⟨g,hg⟩:∃g,w.heap.size=g:=⟨_,rfl⟩;have hgl:g<W1.heap.size:=by rw [hW1,←hg];simp
  have hgw:w.heap.size≤g:=by omega
  rw [hg]at HA1 HE1;rw [hg];clear hg;have HO4:Hid (W1.ownsRow W1.heap.size 3 1 (.slice none 0 0) 0 (za3 N 0)):=World.ownsRow_nil _ _ _ _;have HB4:Hid (Below W1.heap.size W1 W1):=Below.refl _ W1;have HN:=zHi hN;clear hW1 hN e1;try clear e2
  gi_loopw [3,4] (fun uv v wr=>∃j u:Nat,j≤20∧uv = .int .u64 (u:Int)∧Hid (N/B^j=u)∧u<18446744073709551616∧Hid (j=0∨B^(j-1)≤N)∧Hid (wr.ownsRow W1.heap.size 3 1 v j (za3 N j))∧Hid (Below W1.heap.size W1 wr)) (fun uv _ _=>(intOf uv).toNat)
  case atStart=>exact⟨0,N,by omega,rfl,zHi (by simp),hNs,zHi (.inl rfl),HO4.out,HB4.out⟩
  case round=>
   obtain⟨j,u,hj,rfl,HU,hu,HJ,HO,HBr⟩:=hrel;clear HO4 HB4;by_cases hu0:0<u
   ·have hl:u%1000000000=limb N j:=by rw [←HU.out];rfl
    have HL:=zHi hl;have hlt:u%1000000000<1000000000:=Nat.mod_lt _ (by decide);have hdv:u/1000000000<u:=Nat.div_lt_self hu0 (by decide);have HJ2:Hid (B^j≤N):=zHi (by
     apply Classical.byContradiction
     intro hno;have:=Nat.div_eq_of_lt (show N<B^j by omega);rw [HU.out]at this;omega)
    have hj19:j<19:=by
     apply Classical.byContradiction
     intro hno;have h1:B^3≤B^j:=zag (by omega);have h2:B^3=1000000000000000000000000000:=by decide
     have:=HJ2.out;omega
    clear hl;gi_wp2_with (gi_at_builtin;refine stop ?_)
    unfold Stop;refine zaD W1 wr rfl _ _ rfl u4 j N rfl HO _ _ rfl ?_ (by omega) HBr ?_
    ·rw [←HL.out];go_num
    ·intro v2 w2 HO2 HB2;gi_wp2;refine⟨⟨j+1,u/1000000000,by omega,rfl,?_,by omega,zHi (.inr HJ2.out),HO2,HB2⟩,by simp [intOf] <;> omega⟩;rw [Nat.pow_succ,←Nat.div_div_eq_div_mul,HU.out];rfl
   ·have hu00:u=0:=by omega
    subst hu00;have hlen:zcq N j:=⟨by
     rcases Nat.lt_or_ge N (B^j)with h|h
     ·exact h
     ·have:=Nat.div_pos h (zar j);rw [HU.out]at this;omega,HJ.out⟩
    have HM:Hid (NatI wr u4 N):=zHi ⟨j,hlen,zbA HO.out (by omega)⟩;clear hlen;gi_wp2_with (gi_at_call 75;refine stop ?_)
    refine(zdQ wr _ u4 N HM.out).mono ?_;rintro e w5 ⟨v5,rfl,⟨m,rfl,hm⟩,hb5⟩;have HB5:=zBt HBr hb5;have HM5:=zHi hm;obtain⟨om,km,cm,rfl,_,_⟩:=zaC hm;have HA5:=HA1.out.below hgl HB5.out;have y0:=(HA5 0 (by omega)).1;have y1:=(HA5 1 (by omega)).1;have z0:=(HA5 0 (by omega)).2;have z1:=(HA5 1 (by omega)).2;simp only [if_true,if_false,Nat.one_ne_zero]at y0 y1;have HA6:=zHi HA5;have HE5:=zHi (HE1.out.below HB5.out hgl);clear hm hb5 HA5;gi_wp2;have ha6:=(HA6.out.set (i:=0) (by omega) (.bool (decide (n<0)))).set (i:=1) (by omega) (.slice om km cm);rw [HS.out];refine zjX (cs:=[.bool (decide (n<0)),.slice om km cm]) rfl rfl g rfl l32 rfl ?_ ?_
    ·intro j v hj;match j,hj with
     | 0,hj=>cases hj;exact(ha6 0 (by omega)).1
     | 1,hj=>cases hj;exact(ha6 1 (by omega)).1
    ·refine⟨_,rfl,⟨_,rfl,?_⟩,(HBW.out.trans (HB5.out.mono HBW.out.size)).setCell hgw _ |>.setCell hgw _⟩;have:=(HM5.out.setElem (i:=0) (u:=.bool (decide (n<0))) HE5.out (by decide)).setElem (i:=1) (u:=.slice om km cm) (HE5.out.setCell _ _) (by decide);rw [HS.out]at this;exact this
theorem zfW(n:Int):(n:Rat).num=n:=rfl
theorem zjY(n:Int):(n:Rat).den=1:=rfl
theorem zqf(w:World)(n:Int)(h1 : -9223372036854775808≤n)(h2:n≤9223372036854775807) :
  CallsIn Fence.wide 0 Tryz.prog 20 #[.int .i64 n] w fun e w'=>∃v',e = .returned v'∧zau w' v' (n:Rat)∧Below w.heap.size w w':=by
 obtain⟨N,hN⟩:∃N,n.natAbs=N:=⟨_,rfl⟩;have hNs:N<18446744073709551616:=by omega
 refine callsIn_of_wp Tryz.func20 rfl trivial ?_ rfl;simp only [Tryz.ntmps20,ztH,ztI,ztJ,Nat.reduceAdd,Nat.reduceSub,ztK,ztL,ztM,ztN,ztO,ztP];by_cases h0:n<0
 case' pos=>
  have e1:=ziM n h1 h0;have e2:=zpm n h1 h0;have hb:decide (n<0)=true:=decide_eq_true h0
 case' neg=>
  have e1:=ziN n h1 h2 (by omega);have hb:decide (n<0)=false:=decide_eq_false h0
 all_goals
  first|rw [hN]at e2|rw [hN]at e1
  gi_wp2_with (gi_at_call 74;refine stop ?_)
  unfold Stop;obtain⟨W,hW⟩:∃W,W=w.alloc (.cells #[.bool false,.slice none 0 0,.slice none 0 0] 25):=⟨_,rfl⟩;rw [←hW];have HK:Hid (Own3 w W):=by rw [hW];exact ze2 _ _ _ _ _
  clear hW;have HN:=zHi hN;have HB:=zHi hb;clear hN e1;try clear e2
  refine(zeb W N hNs).mono ?_;rintro e w2 ⟨v7,rfl,⟨hm,hf⟩,hB2⟩;have HF2:Hid (N=0∨v7.ownBlock≠some w.heap.size):=hf.ne HK.out.2.1 _;have HK8:=zHi (HK.out.step hB2);have HM7:=zHi hm;clear hm hB2 HK hf;obtain⟨x0,x1,x2,z0,z1,z2,y0,y1,y2⟩:=HK8.out.cells;obtain⟨o,k,c,rfl,_,_⟩:=zaI HM7.out;gi_wp2;refine zbk rfl rfl w.heap.size rfl z0 z1 z2 ?_;have hB:=HK8.out.2.2;refine⟨_,rfl,⟨.slice o k c,.slice none 0 0,?_,?_,?_⟩,((hB.setCell (Nat.le_refl _) _).setCell (Nat.le_refl _) _).setCell (Nat.le_refl _) _⟩
  ·rw [zfW,HB.out]
  ·rw [zfW,HN.out];exact((HM7.out.setCell' HF2.out _).setCell' HF2.out _).setCell' HF2.out _
  ·rw [zjY,if_pos rfl];exact zdm _ _ _
def dgt(N p:Nat):Nat:=N/10^p%10
theorem pow9(i:Nat):B^i=10^(9*i):=by
 rw [Nat.pow_mul];rfl
theorem zrO{N i j:Nat}(hj:j<9):limb N i/10^j%10=dgt N (9*i+j):=by
 unfold limb dgt;obtain⟨c,hc⟩:∃c,9-j=c+1:=⟨9-j-1,by omega⟩;have hB:B=10^j*10^(c+1):=by
  rw [←Nat.pow_add,←hc,show j+(9-j)=9 by omega];rfl
 rw [show N/B^i%B=N/B^i%(10^j*10^(c+1))by rw [←hB],Nat.mod_mul_right_div_self,Nat.mod_mod_of_dvd _ (by rw [Nat.pow_succ];exact Nat.dvd_mul_left _ _),pow9,Nat.div_div_eq_div_mul,←Nat.pow_add]
def bytV(N p:Nat):Value:=.int .u8 ((48+dgt N p:Nat):Int)
def zcU(N k:Nat):List Value:=(List.range k).map (bytV N)
theorem zdb(n k:Nat):(zcU n k).length=k:=by simp [zcU]
theorem zhP(n k:Nat):zcU n (k+1)=zcU n k ++ [bytV n k]:=by simp [zcU,List.range_succ]
theorem zpz:Tryz.prog.info? 5=some Tryz.t5:=by kernel_rfl
theorem u107:Tryz.prog.underlying 107=some (.slice 5):=by kernel_rfl
theorem u5:Tryz.prog.underlying 5=some (.int .u8):=by kernel_rfl
theorem u9:Tryz.prog.underlying 9=some .string:=by kernel_rfl
theorem zpx:Tryz.t5.zero=some (.int .u8 0):=by kernel_rfl
theorem zpy:Tryz.t5.size=1:=by kernel_rfl
theorem znt:Tryz.t5.bytes=1:=by kernel_rfl
theorem zrY(w:World)(i:Int)(t:TypeId):∀k u,[Value.int .u8 i][k]? = some u→(w.alloc (.cells #[.int .u8 i] t)).cell? ((⟨w.heap.size,0,none⟩:Addr).add k)=some u:=by
 intro k u h;rw [Addr.add_lit,Nat.zero_add,World.cell?_alloc_new];match k,h with
 | 0,h=>exact h
theorem zq7{F:Fence}{n:Nat}(w wr:World){ops:Array Oper}{rest:List Oper}{o:Oper}{a:Act}{Q:Exit→Act→World→Prop}
  (hg:o.guard=none) (s x:Operand) (hop:o.op=Op.call {callee:=Callee.builtin Builtin.append,args:=#[s,x],argTypes:=#[107,107]})
  (v:Value) (j:Nat) (xs:List Value) (hs:a.eval s=v) (HO:Hid (wr.ownsRow w.heap.size 5 1 v j xs)) (z:Int) (t:TypeId) (hx:a.eval x = .slice (some ⟨wr.heap.size,0,none⟩) 1 1) (c:Int) (hz:z=c) (hj:j<5000000000)
  (HB:Hid (Below w.heap.size w wr))
  (hK:∀v' w',Hid (w'.ownsRow w.heap.size 5 1 v' (j+1) (xs ++ [.int .u8 c]))→Hid (Below w.heap.size w w')→wpListIn F n Tryz.prog ops Q rest (a.put o.dst v') w') :
  wpListIn F n Tryz.prog ops Q (o :: rest) a (wr.alloc (.cells #[.int .u8 z] t)):=by
 have hsz:=HB.out.size;refine wpListIn_append_own _ hg s x 107 hop w.heap.size 5 Tryz.t5 _ 1 1 u107 zpz zpx zpy znt rfl (by decide) v j xs hs (World.ownsRow.alloc HO.out _) ⟨wr.heap.size,0,none⟩ 1 1 [.int .u8 z] hx rfl (zrY _ _ _) (fun u hu=>by simp at hu;subst hu;rfl) (by unfold maxLen;omega) (by omega) (by simp;omega) ?_;intro v' w' h1 h2 _;refine hK v' w' ?_ ?_
 ·rw [←hz];exact h1
 ·refine(HB.out.alloc hsz _).grown h2 (by simp;omega) fun k hk => ?_
  exact zbU HO.out hk
theorem zk2{F:Fence}{n:Nat}{P:Program}{w:World}{ops:Array Oper}{rest:List Oper}{a:Act}{Q:Exit→Act→World→Prop}{dst:Option Tmp}{ty:TypeId}{ps:String}{af:Array Edge}{gd:Option (Nat × Bool)}{x:Operand}
  (h:Stop (wpListIn F n P ops Q ({dst:=dst,op:=Op.convert 107 9 x,type:=ty,pos:=ps,after:=af,guard:=gd} :: rest) a w)) :
  wpListIn F n P ops Q ({dst:=dst,op:=Op.convert 107 9 x,type:=ty,pos:=ps,after:=af,guard:=gd} :: rest) a w:=h
theorem zfJ{F:Fence}{n:Nat}{P:Program}{w:World}{ops:Array Oper}{rest:List Oper}{o:Oper}{a:Act}{Q:Exit→Act→World→Prop}
  (hg:o.guard=none) (s d:TypeId) (x:Operand) (hop:o.op=Op.convert s d x) (v u:Value) (hx:a.eval x=v) (hr:(convert s d v).run P w = .ok u w)
  (h:wpListIn F n P ops Q rest (a.put o.dst u) w):wpListIn F n P ops Q (o :: rest) a w:=by
 refine wpListIn_plain hg fun K hK => ?_
 unfold Oper.wpIn;refine⟨by simp [Oper.about,hop],?_⟩;rw [Oper.semAt_plain F _ _ (by rw [hop];intro c hc';cases hc')];simp [execOp,hop,hx,hr,Result.andThen]
 exact hK _ _ h
def zcZ(N L p:Nat):Int:=if p<L then((48+dgt N p:Nat):Int)else 45
theorem zfO(xs:List Int)(l:List UInt8)(h:xs.map (fun n=>UInt8.ofNat n.toNat)=l):strOfNums xs=⟨l.toArray⟩:=by
 unfold strOfNums;rw [h]
theorem zr0{z:Int}(h:0≤z):strOfNums ((List.range (Lib.nDigits z.natAbs)).map fun p=>zcZ z.natAbs (Lib.nDigits z.natAbs) (Lib.nDigits z.natAbs-1-p))=zds z:=by
 refine zfO _ _ ?_;unfold Lib.itoa;rw [if_neg (by omega),show z.toNat=z.natAbs by omega,Lib.decDigits_eq,List.map_map];refine List.map_congr_left fun p hp => ?_
 have hp:=List.mem_range.1 hp;show UInt8.ofNat (zcZ _ _ _).toNat=_
 unfold zcZ;rw [if_pos (by omega),Int.toNat_natCast];rfl
theorem zr1{z:Int}(h:z<0):strOfNums ((List.range (Lib.nDigits z.natAbs+1)).map fun p=>zcZ z.natAbs (Lib.nDigits z.natAbs) (Lib.nDigits z.natAbs+1-1-p))=zds z:=by
 refine zfO _ _ ?_;unfold Lib.itoa;rw [if_pos h,Lib.decDigits_eq,List.range_succ_eq_map,List.map_cons,List.map_cons,List.map_map,List.map_map];congr 1
 ·show UInt8.ofNat (zcZ _ _ _).toNat=_
  unfold zcZ;rw [if_neg (by omega)];rfl
 ·refine List.map_congr_left fun p hp => ?_
  have hp:=List.mem_range.1 hp;show UInt8.ofNat (zcZ _ _ _).toNat=_
  unfold zcZ;rw [if_pos (by omega),Int.toNat_natCast];show Lib.dg _ _=Lib.dg _ _
  congr 1
  omega
theorem zoA:zds 0=⟨#[48]⟩:=by
 unfold zds Lib.itoa;rw [if_neg (by decide),Lib.decDigits,dif_pos (by decide)];rfl
theorem zoK{w:World}{base e g cap n N:Nat}(h:w.ownsRow base e 1 (.slice (some ⟨g,0,none⟩) (n+1) cap) (n+1) (zcU N (n+1))):w.ownsRow base e 1 (.slice (some ⟨g,0,none⟩) n cap) n (zcU N n):=by
 rcases h.2 with⟨h,_⟩|⟨g',cap',cur,hv,h1,h2,h3,h4,h5,h6⟩
 ·cases h
 ·cases hv
  refine⟨by rw [zdb];omega,.inr ⟨g,cap,cur,rfl,h1,h2,by omega,h4,h5,?_⟩⟩;have:cur.toList.take (n*1)=(cur.toList.take ((n+1)*1)).take n:=by rw [List.take_take];congr 1;omega
  rw [this,h6,zhP,List.take_append_of_le_length (by rw [zdb];omega),List.take_of_length_le (by rw [zdb];omega)]
def lenV:Value→Nat
 | .slice _ n _=>n
 | _=>0
theorem zd5(w:World)(v:Value)(z:Int)(h:ZAt w v z)(hz:z.natAbs<B^100000) :
  CallsIn Fence.wide 0 Tryz.prog 16 #[v] w fun e w'=>e = .returned (.string (zds z))∧Below w.heap.size w w':=by
 obtain⟨m,rfl,k,hk,hl⟩:=h;obtain⟨N,hN⟩:∃N,z.natAbs=N:=⟨_,rfl⟩;rw [hN]at hk hl hz;have hkL:k≤100000:=hk.le hz;obtain⟨o,c,rfl,h1⟩:=hl.form;have H1:=zHi h1;have HK:=zHi hk;have HN:=zHi hN;clear h1 hk hl hz hN;obtain⟨sg,hsg⟩:∃sg,decide (z<0)=sg:=⟨_,rfl⟩;rw [hsg];refine callsIn_of_wp Tryz.func16 rfl trivial ?_ rfl;simp only [Tryz.ntmps16,ztH,ztI,ztJ,Nat.reduceAdd,Nat.reduceSub,ztK,ztL,ztM,ztN,ztO,ztP];by_cases hk0:k=0
 ·subst hk0;have hN0:N=0:=HK.out.zero;have hz0:z=0:=by have:=HN.out;omega
  subst hz0;gi_wp2;all_goals (first|go_returns|go_ret|go_end0)
  exact⟨by rw [zoA];rfl,zaa _ _⟩
 ·have hk0':((k:Int) == 0)=false:=beq_false_of_ne (by omega);have HSG:=zHi hsg;clear hsg;obtain⟨W1,hW1⟩:∃W,W=w.alloc (.cells #[.bool sg,.slice o k c] 32):=⟨_,rfl⟩;have HBW:Hid (Below w.heap.size w W1):=zHi (by rw [hW1];exact zaa _ _);have HA1:Hid (zaj W1 w.heap.size 2 fun i=>if i=0 then .bool sg else .slice o k c):=zHi (by
   rw [hW1];refine zaj.new _ _ _ fun i hi => ?_
   match i,hi with
   | 0,_=>rfl
   | 1,_=>rfl)
  have HN0:Hid (0<N):=zHi (by
   rcases Nat.eq_zero_or_pos N with h|h
   ·subst h;exact absurd (HK.out.unique zbC) hk0
   ·exact h)
  gi_wp2;rw [←hW1];obtain⟨g,hg⟩:∃g,w.heap.size=g:=⟨_,rfl⟩;have hgl:g<W1.heap.size:=by rw [hW1,←hg];simp
  have hgw:w.heap.size≤g:=by omega
  rw [hg]at HA1;rw [hg];clear hg hW1;have HO4:Hid (W1.ownsRow W1.heap.size 5 1 (.slice none 0 0) (9*0) (zcU N (9*0))):=World.ownsRow_nil _ _ _ _;have HB4:Hid (Below W1.heap.size W1 W1):=Below.refl _ W1;gi_loopw [3,4,5,6] (fun bv iv _ _ wr=>∃i:Nat,i≤k∧iv = .int .i64 (i:Int)∧Hid (wr.ownsRow W1.heap.size 5 1 bv (9*i) (zcU N (9*i)))∧Hid (Below W1.heap.size W1 wr)) (fun _ iv _ _ _=>k-(intOf iv).toNat)
  case atStart=>exact⟨0,by omega,rfl,HO4.out,HB4.out⟩
  case round=>
   obtain⟨i,hi,rfl,HO,HBr⟩:=hrel;clear HO4 HB4;have HA5:=zHi (HA1.out.below hgl HBr.out);have y0:=(HA5.out 0 (by omega)).1;have y1:=(HA5.out 1 (by omega)).1;simp only [if_true,if_false,Nat.one_ne_zero]at y0 y1;by_cases hik:i<k
   ·obtain⟨a1,rfl,ha1,hc1⟩:=H1.out (by omega);have ha1':a1.block<W1.heap.size:=Nat.lt_of_lt_of_le ha1 HBW.out.size;have p1:=(HBr.out.cell (p:=a1.add i) (by rw [zac];exact ha1')).trans ((HBW.out.cell (p:=a1.add i) (by rw [zac];exact ha1)).trans (hc1 i hik));obtain⟨l,hl⟩:∃l,limb N i=l:=⟨_,rfl⟩;have hl9:l<1000000000:=by rw [←hl];exact zaA N i
    rw [hl]at p1;have HL:=zHi hl;have hikd:decide ((i:Int)<(k:Int))=true:=decide_eq_true (by omega);have HO4:Hid (wr.ownsRow W1.heap.size 5 1 u3 (9*i+0) (zcU N (9*i+0))):=HO;clear hc1 hl HO;gi_wp2;gi_loopw [3,5,6] (fun bv xv jv wr=>∃j x:Nat,j≤9∧xv = .int .i64 (x:Int)∧jv = .int .i64 (j:Int)∧x<1000000000∧Hid (l/10^j=x)∧Hid (wr.ownsRow W1.heap.size 5 1 bv (9*i+j) (zcU N (9*i+j)))∧Hid (Below W1.heap.size W1 wr)) (fun _ _ jv _=>9-(intOf jv).toNat)
    case atStart=>exact⟨0,l,by omega,rfl,rfl,hl9,zHi (by simp),HO4.out,HBr.out⟩
    case round=>
     obtain⟨j,x,hj,rfl,rfl,hx9,HX,HO,HB2⟩:=hrel;clear HO4 HBr HA5 y0 y1 p1;by_cases hj9:j<9
     ·have hd:x%10=dgt N (9*i+j):=by rw [←HX.out,←HL.out];exact zrO hj9
      have HD:=zHi hd;have hx10:x%10<10:=Nat.mod_lt _ (by decide);clear hd;gi_wp2_with (gi_at_builtin;refine stop ?_)
      unfold Stop;refine zq7 W1 wr rfl _ _ rfl u3 (9*i+j) (zcU N (9*i+j)) rfl HO _ _ rfl ((48+dgt N (9*i+j):Nat):Int) ?_ (by omega) HB2 ?_
      ·rw [←HD.out];go_num
      ·intro v2 w2 HO2 HB3;gi_wp2;refine⟨⟨j+1,x/10,by omega,by go_num,by go_num,by omega,?_,?_,HB3⟩,by simp [intOf] <;> omega⟩
       ·rw [Nat.pow_succ,←Nat.div_div_eq_div_mul,HX.out];rfl
       ·have:=HO2.out;exact zHi (by rw [show 9*i+(j+1)=9*i+j+1 by omega,zhP];exact this)
     ·have hj0:j=9:=by omega
      subst hj0;gi_wp2;refine⟨⟨i+1,by omega,by go_num,?_,HB2⟩,by simp [intOf] <;> omega⟩;exact zHi (by rw [show 9*(i+1)=9*i+9 by omega];exact HO.out)
   ·have hik0:i=k:=by omega
    subst hik0;have hikd:decide ((i:Int)<(i:Int))=false:=decide_eq_false (by omega);have hform:∃g2 cap,u3 = .slice (some ⟨g2,0,none⟩) (9*i) cap∧9*i≤cap∧cap≤9223372036854775807∧W1.heap.size≤g2:=by
     rcases HO.out.2 with⟨_,h⟩|⟨g2,cap,cur,h1,h2,h3,h4,h5,_⟩
     ·omega
     ·exact⟨g2,cap,h1,h4,by unfold maxLen at h5;omega,h2⟩
    obtain⟨g2,cap,rfl,hcap,hcm,hg2⟩:=hform;have HNk:Hid (N<10^(9*i)):=zHi (by rw [←pow9];exact HK.out.1);gi_wp2;gi_loopw [3] (fun bv wr=>∃L,1≤L∧L≤9*i∧bv = .slice (some ⟨g2,0,none⟩) L cap∧Hid (wr.ownsRow W1.heap.size 5 1 bv L (zcU N L))∧Hid (N<10^L)∧Hid (Below W1.heap.size W1 wr)) (fun bv _=>lenV bv)
    case atStart=>exact⟨9*i,by omega,by omega,rfl,HO.out,HNk.out,HBr.out⟩
    case round=>
     obtain⟨L,hL1,hL9,rfl,HO2,HNL,HB2⟩:=hrel;clear HO HNk HBr HA5 y0 y1;obtain⟨m,rfl⟩:∃m,L=m+1:=⟨L-1,by omega⟩;have p1:wr.cell? ⟨g2,m,none⟩=some (bytV N m):=by
      have:=HO2.out.cells rfl m (bytV N m) (by simp [zcU]);rw [Addr.add_lit,Nat.zero_add]at this;exact this
     obtain⟨d,hd⟩:∃d,dgt N m=d:=⟨_,rfl⟩;unfold bytV at p1;rw [hd]at p1;have HD:=zHi hd;obtain⟨cc,hcc⟩:∃cc:Int,((48+d:Nat):Int)=cc:=⟨_,rfl⟩;rw [hcc]at p1;have hm1:m+1≤cap:=by omega
     clear hd;by_cases hd0:d=0
     ·subst hd0;have hcc:cc=48:=by omega
      subst hcc;have hm0:1≤m:=by
       rcases Nat.eq_zero_or_pos m with h|h
       ·subst h;have h1:=HNL.out;have h2:=HD.out;have h3:=HN0.out;unfold dgt at h2;simp at h1 h2
        omega
       ·exact h
      have HNL2:Hid (N<10^m):=zHi (by
       have h1:=HNL.out;have h2:=HD.out;unfold dgt at h2;rw [Nat.pow_succ]at h1;have h3:N/10^m<10:=Nat.div_lt_of_lt_mul (by rw [Nat.mul_comm]at h1;rw [Nat.mul_comm];exact h1);have h4:N/10^m=0:=by
        obtain⟨D,hD⟩:∃D,N/10^m=D:=⟨_,rfl⟩;rw [hD]at h2 h3 ⊢;omega
       rcases Nat.lt_or_ge N (10^m)with h|h
       ·exact h
       ·have:=Nat.div_pos h (Nat.pow_pos (by decide));omega)
      have HO3:=zHi (zoK HO2.out);clear HD HO2 HNL;gi_wp2;refine⟨⟨m,by omega,by omega,rfl,HO3,HNL2,HB2⟩,by simp [lenV]⟩
     ·have hcc0:(cc == 48)=false:=beq_false_of_ne (by omega);have HDN:Hid (Lib.nDigits N=m+1):=zHi (Lib.nDigits_unique m N (by
       have h2:=HD.out;unfold dgt at h2;rcases Nat.lt_or_ge N (10^m)with h|h
       ·rw [Nat.div_eq_of_lt h]at h2;omega
       ·exact h) HNL.out)
      have HA5:=zHi (HA1.out.below hgl HB2.out);have y0:=(HA5.out 0 (by omega)).1;have y1:=(HA5.out 1 (by omega)).1;simp only [if_true,if_false,Nat.one_ne_zero]at y0 y1;clear HD HNL hcc hd0
      cases sg with
      | false=>
       have HT:Hid (strOfNums ((List.range (m+1)).map fun p=>zcZ N (m+1) (m+1-1-p))=zds z):=zHi (by
        have h:=zr0 (z:=z) (by have:=of_decide_eq_false HSG.out;omega);rw [HN.out,HDN.out]at h;exact h)
       have HA3:Hid (zaj wr g2 (m+1) fun p => .int .u8 (zcZ N (m+1) p)):=zHi (zaj.of_row HO2.out fun p hp=>by
        simp only [zcU,List.getElem?_map,List.getElem?_range hp,Option.map_some,bytV,zcZ,hp,if_true])
       have HB3:=HB2;clear HO2 HB2;gi_wp2;gi_loopw [7,8,9] (fun iv jv _ wr=>∃a b:Nat,a+b+1=m+1∧a≤b+1∧iv = .int .i64 (a:Int)∧jv = .int .i64 (b:Int)∧Hid (zaj wr g2 (m+1) fun p => .int .u8 (zcZ N (m+1) (if p<a∨b<p then m+1-1-p else p)))∧Hid (Below W1.heap.size W1 wr)) (fun iv _ _ _=>m+1-(intOf iv).toNat)
       case atStart=>exact⟨0,m,by omega,by omega,rfl,by go_num,zHi (zaj.congr HA3.out fun p hp=>by(try dsimp only);rw [if_neg (by omega)]),HB3.out⟩
       case round=>
        obtain⟨a,b,hab,hab1,rfl,rfl,HA,HB4⟩:=hrel;clear HA3 HB3 HA5 y0 y1;by_cases hlt:a<b
        ·obtain⟨b,rfl⟩:∃b',b=b'+1:=⟨b-1,by omega⟩;obtain⟨x1,hx1⟩:∃x,zcZ N (m+1) a=x:=⟨_,rfl⟩;obtain⟨x2,hx2⟩:∃x,zcZ N (m+1) (b+1)=x:=⟨_,rfl⟩;have z1:wr.cell? ⟨g2,a,none⟩=some (.int .u8 x1):=(HA.out a (by omega)).1.trans (by(try dsimp only);rw [if_neg (by omega),hx1]);have z2:wr.cell? ⟨g2,b+1,none⟩=some (.int .u8 x2):=(HA.out (b+1) (by omega)).1.trans (by(try dsimp only);rw [if_neg (by omega),hx2]);have f1:=(HA.out a (by omega)).2;have f2:=(HA.out (b+1) (by omega)).2;have HX1:=zHi hx1;have HX2:=zHi hx2;have hltd:decide ((a:Int)<((b+1:Nat):Int))=true:=decide_eq_true (by omega);clear hx1 hx2;gi_wp2;refine⟨⟨a+1,b,by omega,by omega,by go_num,by go_num,?_,zHi ((HB4.out.setCell hg2 _).setCell hg2 _)⟩,by simp [intOf] <;> omega⟩;refine zHi (zaj.congr ((HA.out.set (i:=a) (by omega) (.int .u8 x2)).set (i:=b+1) (by omega) (.int .u8 x1)) fun p hp => ?_);try dsimp only
         by_cases e1:p=b+1
         ·rw [if_pos e1,if_pos (by omega),←HX1.out];congr 2;omega
         ·rw [if_neg e1];by_cases e2:p=a
          ·rw [if_pos e2,if_pos (by omega),←HX2.out];congr 2;omega
          ·rw [if_neg e2];by_cases e3:p<a∨b+1<p
           ·rw [if_pos e3,if_pos (by omega)]
           ·rw [if_neg e3,if_neg (by omega)]
        ·have hltd:decide ((a:Int)<(b:Int))=false:=decide_eq_false (by omega);have HA9:Hid (zaj wr g2 (m+1) fun p => .int .u8 (zcZ N (m+1) (m+1-1-p))):=zHi (zaj.congr HA.out fun p hp=>by
          try dsimp only
          by_cases e3:p<a∨b<p
          ·rw [if_pos e3]
          ·rw [if_neg e3];congr 2;omega)
         clear HA;gi_wp2_with (with_reducible refine zk2 ?_)
         unfold Stop;refine zfJ rfl _ _ _ rfl _ (.string (strOfNums ((List.range (m+1)).map fun p=>zcZ N (m+1) (m+1-1-p)))) rfl (run_convert_bytes_arg wr 107 5 Go.Num.u107 Go.Num.u5 g2 0 (m+1) cap _ (by simp) (fun p hp=>by rw [Nat.zero_add,(HA9.out p hp).1];simp [List.getD,hp]) 9 Go.Num.u9) ?_;rw [HT.out];clear HA9 HT;gi_wp2;all_goals (first|go_returns|go_ret|go_end0)
         exact⟨rfl,HBW.out.trans (HB4.out.mono HBW.out.size)⟩
      | true=>
       gi_wp2_with (gi_at_builtin;refine stop ?_)
       unfold Stop;refine zq7 W1 wr rfl _ _ rfl (.slice (some ⟨g2,0,none⟩) (m+1) cap) (m+1) (zcU N (m+1)) rfl HO2 _ _ rfl 45 rfl (by omega) HB2 ?_;intro v2 w3 HO3 HB3;have hform:∃g3 cap3,v2 = .slice (some ⟨g3,0,none⟩) (m+1+1) cap3∧W1.heap.size≤g3:=by
        rcases HO3.out.2 with⟨_,h⟩|⟨g3,cap3,cur,h1,h2,h3,h4,h5,_⟩
        ·omega
        ·exact⟨g3,cap3,h1,h2⟩
       obtain⟨g3,cap3,rfl,hg3⟩:=hform;have HT:Hid (strOfNums ((List.range (m+1+1)).map fun p=>zcZ N (m+1) (m+1+1-1-p))=zds z):=zHi (by
        have h:=zr1 (z:=z) (of_decide_eq_true HSG.out);rw [HN.out,HDN.out]at h;exact h)
       have HA3:Hid (zaj w3 g3 (m+1+1) fun p => .int .u8 (zcZ N (m+1) p)):=zHi (zaj.of_row HO3.out fun p hp=>by
        by_cases hp1:p<m+1
        ·rw [List.getElem?_append_left (by rw [zdb];exact hp1)];simp only [zcU,List.getElem?_map,List.getElem?_range hp1,Option.map_some,bytV,zcZ,hp1,if_true]
        ·rw [List.getElem?_append_right (by rw [zdb];omega),zdb,show p-(m+1)=0 by omega];simp only [zcZ,hp1,if_false];rfl)
       clear HO2 HO3 HB2;gi_wp2;gi_loopw [7,8,9] (fun iv jv _ wr=>∃a b:Nat,a+b+1=m+1+1∧a≤b+1∧iv = .int .i64 (a:Int)∧jv = .int .i64 (b:Int)∧Hid (zaj wr g3 (m+1+1) fun p => .int .u8 (zcZ N (m+1) (if p<a∨b<p then m+1+1-1-p else p)))∧Hid (Below W1.heap.size W1 wr)) (fun iv _ _ _=>m+1+1-(intOf iv).toNat)
       case atStart=>exact⟨0,m+1,by omega,by omega,rfl,by go_num,zHi (zaj.congr HA3.out fun p hp=>by(try dsimp only);rw [if_neg (by omega)]),HB3.out⟩
       case round=>
        obtain⟨a,b,hab,hab1,rfl,rfl,HA,HB4⟩:=hrel;clear HA3 HB3 HA5 y0 y1;by_cases hlt:a<b
        ·obtain⟨b,rfl⟩:∃b',b=b'+1:=⟨b-1,by omega⟩;obtain⟨x1,hx1⟩:∃x,zcZ N (m+1) a=x:=⟨_,rfl⟩;obtain⟨x2,hx2⟩:∃x,zcZ N (m+1) (b+1)=x:=⟨_,rfl⟩;have z1:wr.cell? ⟨g3,a,none⟩=some (.int .u8 x1):=(HA.out a (by omega)).1.trans (by(try dsimp only);rw [if_neg (by omega),hx1]);have z2:wr.cell? ⟨g3,b+1,none⟩=some (.int .u8 x2):=(HA.out (b+1) (by omega)).1.trans (by(try dsimp only);rw [if_neg (by omega),hx2]);have f1:=(HA.out a (by omega)).2;have f2:=(HA.out (b+1) (by omega)).2;have HX1:=zHi hx1;have HX2:=zHi hx2;have hltd:decide ((a:Int)<((b+1:Nat):Int))=true:=decide_eq_true (by omega);clear hx1 hx2;gi_wp2;refine⟨⟨a+1,b,by omega,by omega,by go_num,by go_num,?_,zHi ((HB4.out.setCell hg3 _).setCell hg3 _)⟩,by simp [intOf] <;> omega⟩;refine zHi (zaj.congr ((HA.out.set (i:=a) (by omega) (.int .u8 x2)).set (i:=b+1) (by omega) (.int .u8 x1)) fun p hp => ?_);try dsimp only
         by_cases e1:p=b+1
         ·rw [if_pos e1,if_pos (by omega),←HX1.out];congr 2;omega
         ·rw [if_neg e1];by_cases e2:p=a
          ·rw [if_pos e2,if_pos (by omega),←HX2.out];congr 2;omega
          ·rw [if_neg e2];by_cases e3:p<a∨b+1<p
           ·rw [if_pos e3,if_pos (by omega)]
           ·rw [if_neg e3,if_neg (by omega)]
        ·have hltd:decide ((a:Int)<(b:Int))=false:=decide_eq_false (by omega);have HA9:Hid (zaj wr g3 (m+1+1) fun p => .int .u8 (zcZ N (m+1) (m+1+1-1-p))):=zHi (zaj.congr HA.out fun p hp=>by
          try dsimp only
          by_cases e3:p<a∨b<p
          ·rw [if_pos e3]
          ·rw [if_neg e3];congr 2;omega)
         clear HA;gi_wp2_with (with_reducible refine zk2 ?_)
         unfold Stop;refine zfJ rfl _ _ _ rfl _ (.string (strOfNums ((List.range (m+1+1)).map fun p=>zcZ N (m+1) (m+1+1-1-p)))) rfl (run_convert_bytes_arg wr 107 5 Go.Num.u107 Go.Num.u5 g3 0 (m+1+1) cap3 _ (by simp) (fun p hp=>by rw [Nat.zero_add,(HA9.out p hp).1];simp [List.getD,hp]) 9 Go.Num.u9) ?_;rw [HT.out];clear HA9 HT;gi_wp2;all_goals (first|go_returns|go_ret|go_end0)
         exact⟨rfl,HBW.out.trans (HB4.out.mono HBW.out.size)⟩
end Go.Num
namespace Go.Proofs
open Go.Shelf
def Tryz.lays169_ren:Go.Shelf.Ren:=⟨fun|169=>116|n=>n,fun|70=>156|9=>9|0=>0|72=>158|37=>107|127=>190|3=>3|5=>5|n=>n,fun|n=>n⟩
theorem Tryz.lays169:Go.Proofs.Lays.n169 Tryz.prog Tryz.lays169_ren:={
 mixed:=by kernel_rfl
 f169:=Tryz.func116.trans (congrArg some (by kernel_rfl))
 t0:=Tryz.underlying0
 a0:=Tryz.isAgg0
 z0:=Tryz.sizeOf0
 v0:=Tryz.zeroValue0
 t3:=Tryz.underlying3
 a3:=Tryz.isAgg3
 z3:=Tryz.sizeOf3
 v3:=Tryz.zeroValue3
 t9:=Tryz.underlying9
 a9:=Tryz.isAgg9
 z9:=Tryz.sizeOf9
 v9:=Tryz.zeroValue9
 t37:=Tryz.underlying107
 a37:=Tryz.isAgg107
 z37:=Tryz.sizeOf107
 v37:=Tryz.zeroValue107
 t70:=Tryz.underlying156
 a70:=Tryz.isAgg156
 z70:=Tryz.sizeOf156
 v70:=Tryz.zeroValue156
 t72:=Tryz.underlying158
 a72:=Tryz.isAgg158
 z72:=Tryz.sizeOf158
 v72:=Tryz.zeroValue158
 t127:=Tryz.underlying190
 a127:=Tryz.isAgg190
 z127:=Tryz.sizeOf190
 v127:=Tryz.zeroValue190}
theorem Tryz.Builder_Extra_169:Builder.Extra Tryz.prog Tryz.lays169_ren:={
 sizeBuilder:=by kernel_rfl
 liesBuilder:=by kernel_rfl
 t5:=Tryz.underlying5
 a5:=Tryz.isAgg5
 z5:=Tryz.sizeOf5
 v5:=Tryz.zeroValue5
 infoByte:=by kernel_rfl
 cellsByte:=by kernel_rfl
 sizeByte:=by kernel_rfl
 neB5:=by decide}
open Go.RowKit in
theorem Tryz.Builder_String_any(B b:Nat)(l:List UInt8)(w:World)(h:Lib.IsBuilder 158 5 B b (Lib.byteCells l) w)(hBw:B≤w.heap.size) :
  Calls Tryz.prog 116 #[.pointer (some ⟨b,0,none⟩)] w fun e w'=>e = .returned (.string ⟨l.toArray⟩)∧Below B w w':=Any.Builder_String_any Tryz.lays169 Tryz.Builder_Extra_169 B b l w h hBw
def Tryz.lays160_ren:Go.Shelf.Ren:=⟨fun|160=>105|232=>141|231=>140|227=>142|234=>144|233=>143|236=>146|235=>145|228=>163|271=>166|151=>165|197=>164|120=>187|152=>186|260=>185|137=>197|119=>198|224=>161|225=>160|217=>159|266=>183|n=>n,fun|9=>9|4=>4|3=>3|5=>5|117=>177|116=>176|0=>0|124=>180|21=>21|105=>195|46=>91|119=>231|139=>234|138=>233|n=>n,fun|3=>4|4=>5|n=>n⟩
theorem Tryz.lays160:Go.Proofs.Lays.n160 Tryz.prog Tryz.lays160_ren:={
 mixed:=by kernel_rfl
 f119:=Tryz.func198.trans (congrArg some (by kernel_rfl))
 f120:=Tryz.func187.trans (congrArg some (by kernel_rfl))
 f137:=Tryz.func197.trans (congrArg some (by kernel_rfl))
 f151:=Tryz.func165.trans (congrArg some (by kernel_rfl))
 f152:=Tryz.func186.trans (congrArg some (by kernel_rfl))
 f160:=Tryz.func105.trans (congrArg some (by kernel_rfl))
 f197:=Tryz.func164.trans (congrArg some (by kernel_rfl))
 f217:=Tryz.func159.trans (congrArg some (by kernel_rfl))
 f224:=Tryz.func161.trans (congrArg some (by kernel_rfl))
 f225:=Tryz.func160.trans (congrArg some (by kernel_rfl))
 f227:=Tryz.func142.trans (congrArg some (by kernel_rfl))
 f228:=Tryz.func163.trans (congrArg some (by kernel_rfl))
 f231:=Tryz.func140.trans (congrArg some (by kernel_rfl))
 f232:=Tryz.func141.trans (congrArg some (by kernel_rfl))
 f233:=Tryz.func143.trans (congrArg some (by kernel_rfl))
 f234:=Tryz.func144.trans (congrArg some (by kernel_rfl))
 f235:=Tryz.func145.trans (congrArg some (by kernel_rfl))
 f236:=Tryz.func146.trans (congrArg some (by kernel_rfl))
 f260:=Tryz.func185.trans (congrArg some (by kernel_rfl))
 f266:=Tryz.func183.trans (congrArg some (by kernel_rfl))
 f271:=Tryz.func166.trans (congrArg some (by kernel_rfl))
 t0:=Tryz.underlying0
 a0:=Tryz.isAgg0
 z0:=Tryz.sizeOf0
 v0:=Tryz.zeroValue0
 t3:=Tryz.underlying3
 a3:=Tryz.isAgg3
 z3:=Tryz.sizeOf3
 v3:=Tryz.zeroValue3
 t4:=Tryz.underlying4
 a4:=Tryz.isAgg4
 z4:=Tryz.sizeOf4
 v4:=Tryz.zeroValue4
 t5:=Tryz.underlying5
 a5:=Tryz.isAgg5
 z5:=Tryz.sizeOf5
 v5:=Tryz.zeroValue5
 t9:=Tryz.underlying9
 a9:=Tryz.isAgg9
 z9:=Tryz.sizeOf9
 v9:=Tryz.zeroValue9
 t21:=Tryz.underlying21
 a21:=Tryz.isAgg21
 z21:=Tryz.sizeOf21
 v21:=Tryz.zeroValue21
 t46:=Tryz.underlying91
 a46:=Tryz.isAgg91
 z46:=Tryz.sizeOf91
 v46:=Tryz.zeroValue91
 t105:=Tryz.underlying195
 a105:=Tryz.isAgg195
 z105:=Tryz.sizeOf195
 v105:=Tryz.zeroValue195
 t116:=Tryz.underlying176
 a116:=Tryz.isAgg176
 z116:=Tryz.sizeOf176
 t117:=Tryz.underlying177
 a117:=Tryz.isAgg177
 z117:=Tryz.sizeOf177
 v117:=Tryz.zeroValue177
 t119:=Tryz.underlying231
 a119:=Tryz.isAgg231
 z119:=Tryz.sizeOf231
 t124:=Tryz.underlying180
 a124:=Tryz.isAgg180
 z124:=Tryz.sizeOf180
 v124:=Tryz.zeroValue180
 t138:=Tryz.underlying233
 a138:=Tryz.isAgg233
 z138:=Tryz.sizeOf233
 v138:=Tryz.zeroValue233
 t139:=Tryz.underlying234
 a139:=Tryz.isAgg234
 z139:=Tryz.sizeOf234
 v139:=Tryz.zeroValue234
 g3:=by kernel_rfl
 g4:=by kernel_rfl}
open Go.RowKit in
theorem Tryz.strings_Trim_one(s:ByteArray)(c:UInt8)(hc:c.toNat<128)(w:World)(hs:s.size≤9223372036854775807) :
  Calls Tryz.prog 105 #[.string s,.string ⟨#[c]⟩] w fun e w'=>e = .returned (.string ⟨(Lib.trimB s.data.toList c).toArray⟩)∧(w'=w∨w'=w.drew):=Any.strings_Trim_one Tryz.lays160 s c hc w hs
def Tryz.lays103_ren:Go.Shelf.Ren:=⟨fun|103=>60|210=>104|206=>139|n=>n,fun|9=>9|4=>4|24=>97|3=>3|n=>n,fun|n=>n⟩
theorem Tryz.lays103:Go.Proofs.Lays.n103 Tryz.prog Tryz.lays103_ren:={
 mixed:=by kernel_rfl
 f103:=Tryz.func60.trans (congrArg some (by kernel_rfl))
 f206:=Tryz.func139.trans (congrArg some (by kernel_rfl))
 f210:=Tryz.func104.trans (congrArg some (by kernel_rfl))
 t3:=Tryz.underlying3
 a3:=Tryz.isAgg3
 z3:=Tryz.sizeOf3
 v3:=Tryz.zeroValue3
 t4:=Tryz.underlying4
 a4:=Tryz.isAgg4
 z4:=Tryz.sizeOf4
 v4:=Tryz.zeroValue4
 t9:=Tryz.underlying9
 a9:=Tryz.isAgg9
 z9:=Tryz.sizeOf9
 v9:=Tryz.zeroValue9
 t24:=Tryz.underlying97
 a24:=Tryz.isAgg97
 z24:=Tryz.sizeOf97
 v24:=Tryz.zeroValue97}
open Go.RowKit in
theorem Tryz.strings_CutPrefix(s p:ByteArray)(w:World) :
  Calls Tryz.prog 60 #[.string s,.string p] w fun e w'=>e = .returned (.tuple #[.string ⟨(Lib.trimPrefix s.data.toList p.data.toList).toArray⟩,.bool (Lib.hasPrefix s.data.toList p.data.toList)])∧w'=w:=Any.strings_CutPrefix Tryz.lays103 s p w
def Tryz.lays283_ren:Go.Shelf.Ren:=⟨fun|283=>176|n=>n,fun|3=>3|9=>9|4=>4|n=>n,fun|n=>n⟩
theorem Tryz.lays283:Go.Proofs.Lays.n283 Tryz.prog Tryz.lays283_ren:={
 mixed:=by kernel_rfl
 f283:=Tryz.func176.trans (congrArg some (by kernel_rfl))
 t3:=Tryz.underlying3
 a3:=Tryz.isAgg3
 z3:=Tryz.sizeOf3
 v3:=Tryz.zeroValue3
 t4:=Tryz.underlying4
 a4:=Tryz.isAgg4
 z4:=Tryz.sizeOf4
 v4:=Tryz.zeroValue4
 t9:=Tryz.underlying9
 a9:=Tryz.isAgg9
 z9:=Tryz.sizeOf9
 v9:=Tryz.zeroValue9}
open Go.Lib in
theorem Tryz.internal_strconv_small(i:Nat)(h:i<100)(w:World) :
  Calls Tryz.prog 176 #[.int .i64 i] w fun e w'=>e = .returned (.string ⟨(Lib.decDigits i).toArray⟩)∧w'=w:=Any.internal_strconv_small Tryz.lays283 i h w
def Tryz.laysM284_ren:Go.Shelf.Ren:=⟨fun|284=>177|129=>192|317=>191|318=>193|n=>n,fun|53=>111|3=>3|212=>226|0=>0|4=>4|46=>91|5=>5|9=>9|n=>n,fun|17=>3|n=>n⟩
theorem Tryz.laysM284:Go.Proofs.LaysM.n284 Tryz.prog Tryz.laysM284_ren:={
 mixed:=by kernel_rfl
 f129:=Tryz.func192.trans (congrArg some (by kernel_rfl))
 f284:=Tryz.func177.trans (congrArg some (by kernel_rfl))
 f317:=Tryz.func191.trans (congrArg some (by kernel_rfl))
 f318:=Tryz.func193.trans (congrArg some (by kernel_rfl))
 t0:=Tryz.underlying0
 a0:=Tryz.isAgg0
 z0:=Tryz.sizeOf0
 v0:=Tryz.zeroValue0
 t3:=Tryz.underlying3
 a3:=Tryz.isAgg3
 z3:=Tryz.sizeOf3
 v3:=Tryz.zeroValue3
 t4:=Tryz.underlying4
 a4:=Tryz.isAgg4
 z4:=Tryz.sizeOf4
 v4:=Tryz.zeroValue4
 t5:=Tryz.underlying5
 a5:=Tryz.isAgg5
 z5:=Tryz.sizeOf5
 v5:=Tryz.zeroValue5
 t9:=Tryz.underlying9
 a9:=Tryz.isAgg9
 z9:=Tryz.sizeOf9
 v9:=Tryz.zeroValue9
 t46:=Tryz.underlying91
 a46:=Tryz.isAgg91
 z46:=Tryz.sizeOf91
 v46:=Tryz.zeroValue91
 t53:=Tryz.underlying111
 a53:=Tryz.isAgg111
 z53:=Tryz.sizeOf111
 v53:=Tryz.zeroValue111
 t212:=Tryz.underlying226
 a212:=Tryz.isAgg226
 z212:=Tryz.sizeOf226
 v212:=Tryz.zeroValue226
 g17:=by kernel_rfl
 i0:=by kernel_rfl
 i3:=by kernel_rfl
 i4:=by kernel_rfl
 i5:=by kernel_rfl
 i9:=by kernel_rfl
 i46:=by kernel_rfl
 i53:=by kernel_rfl
 i212:=by kernel_rfl
 m17:=by kernel_rfl}
open Go.Lib in
theorem Tryz.internal_strconv_numDigits(u:Nat)(h1:1≤u)(h2:u<18446744073709551616)(w:World)(htab:Lib.TabIs Tryz.prog w "internal/strconv.uint64pow10" .u64 Lib.pow10Tab) :
  Calls Tryz.prog 177 #[.int .u64 u] w fun e w'=>e = .returned (.int .i64 (Lib.nDigits u))∧w'=w:=Any.internal_strconv_numDigits Tryz.laysM284 u h1 h2 w htab
def Tryz.lays285_ren:Go.Shelf.Ren:=⟨fun|285=>178|n=>n,fun|37=>107|53=>111|3=>3|4=>4|51=>214|9=>9|5=>5|0=>0|n=>n,fun|n=>n⟩
theorem Tryz.lays285:Go.Proofs.Lays.n285 Tryz.prog Tryz.lays285_ren:={
 mixed:=by kernel_rfl
 f285:=Tryz.func178.trans (congrArg some (by kernel_rfl))
 t0:=Tryz.underlying0
 a0:=Tryz.isAgg0
 z0:=Tryz.sizeOf0
 v0:=Tryz.zeroValue0
 t3:=Tryz.underlying3
 a3:=Tryz.isAgg3
 z3:=Tryz.sizeOf3
 v3:=Tryz.zeroValue3
 t4:=Tryz.underlying4
 a4:=Tryz.isAgg4
 z4:=Tryz.sizeOf4
 v4:=Tryz.zeroValue4
 t5:=Tryz.underlying5
 a5:=Tryz.isAgg5
 z5:=Tryz.sizeOf5
 v5:=Tryz.zeroValue5
 t9:=Tryz.underlying9
 a9:=Tryz.isAgg9
 z9:=Tryz.sizeOf9
 v9:=Tryz.zeroValue9
 t37:=Tryz.underlying107
 a37:=Tryz.isAgg107
 z37:=Tryz.sizeOf107
 v37:=Tryz.zeroValue107
 t51:=Tryz.underlying214
 a51:=Tryz.isAgg214
 z51:=Tryz.sizeOf214
 v51:=Tryz.zeroValue214
 t53:=Tryz.underlying111
 a53:=Tryz.isAgg111
 z53:=Tryz.sizeOf111
 v53:=Tryz.zeroValue111}
open Go.RowKit Go.Sort Go.Lib in
theorem Tryz.internal_strconv_formatBase10(blk off cap:Nat)(u:Nat)(d:Array UInt8)(w:World)(hH:Holds (fun (b:UInt8)=>Value.int .u8 (b.toNat:Int)) w blk off d)(hu:u<10^d.size)(hu64:u<18446744073709551616)(hsz:d.size<4611686018427387904) :
  Calls Tryz.prog 178 #[.slice (some ⟨blk,off,none⟩) d.size cap,.int .u64 u] w fun e w'=>
   e = .returned (.tuple #[])∧∃(n v':Nat) (dk:Array UInt8),w'=(putRow (fun (b:UInt8)=>Value.int .u8 (b.toNat:Int)) w blk off dk).drewN n∧FmtInv d.size u 0 v' dk:=Any.internal_strconv_formatBase10 Tryz.lays285 blk off cap u d w hH hu hu64 hsz
def Tryz.laysPu14_ren:Go.Shelf.Ren:=⟨fun|14=>106|16=>147|17=>148|19=>167|20=>168|21=>169|22=>170|23=>171|24=>172|25=>188|27=>190|26=>189|28=>199|29=>202|30=>176|31=>177|32=>178|33=>179|35=>192|34=>191|36=>193|37=>194|38=>195|39=>200|40=>201|n=>n,fun|9=>9|3=>3|22=>111|24=>145|25=>146|4=>4|34=>198|5=>5|36=>91|37=>107|0=>0|39=>200|21=>21|44=>223|47=>190|50=>238|48=>236|2=>2|52=>209|55=>212|59=>226|60=>214|20=>20|61=>227|65=>241|66=>242|67=>37|n=>n,fun|0=>1|1=>2|2=>3|3=>6|4=>7|n=>n⟩
theorem Tryz.laysPu14:Go.Proofs.LaysPu.n14 Tryz.prog Tryz.laysPu14_ren:={
 mixed:=by kernel_rfl
 f14:=Tryz.func106.trans (congrArg some (by kernel_rfl))
 f16:=Tryz.func147.trans (congrArg some (by kernel_rfl))
 f17:=Tryz.func148.trans (congrArg some (by kernel_rfl))
 f19:=Tryz.func167.trans (congrArg some (by kernel_rfl))
 f20:=Tryz.func168.trans (congrArg some (by kernel_rfl))
 f21:=Tryz.func169.trans (congrArg some (by kernel_rfl))
 f22:=Tryz.func170.trans (congrArg some (by kernel_rfl))
 f23:=Tryz.func171.trans (congrArg some (by kernel_rfl))
 f24:=Tryz.func172.trans (congrArg some (by kernel_rfl))
 f25:=Tryz.func188.trans (congrArg some (by kernel_rfl))
 f26:=Tryz.func189.trans (congrArg some (by kernel_rfl))
 f27:=Tryz.func190.trans (congrArg some (by kernel_rfl))
 f28:=Tryz.func199.trans (congrArg some (by kernel_rfl))
 f29:=Tryz.func202.trans (congrArg some (by kernel_rfl))
 f30:=Tryz.func176.trans (congrArg some (by kernel_rfl))
 f31:=Tryz.func177.trans (congrArg some (by kernel_rfl))
 f32:=Tryz.func178.trans (congrArg some (by kernel_rfl))
 f33:=Tryz.func179.trans (congrArg some (by kernel_rfl))
 f34:=Tryz.func191.trans (congrArg some (by kernel_rfl))
 f35:=Tryz.func192.trans (congrArg some (by kernel_rfl))
 f36:=Tryz.func193.trans (congrArg some (by kernel_rfl))
 f37:=Tryz.func194.trans (congrArg some (by kernel_rfl))
 f38:=Tryz.func195.trans (congrArg some (by kernel_rfl))
 f39:=Tryz.func200.trans (congrArg some (by kernel_rfl))
 f40:=Tryz.func201.trans (congrArg some (by kernel_rfl))
 t0:=Tryz.underlying0
 a0:=Tryz.isAgg0
 z0:=Tryz.sizeOf0
 v0:=Tryz.zeroValue0
 i0:=by kernel_rfl
 t2:=Tryz.underlying2
 a2:=Tryz.isAgg2
 z2:=Tryz.sizeOf2
 v2:=Tryz.zeroValue2
 i2:=by kernel_rfl
 t3:=Tryz.underlying3
 a3:=Tryz.isAgg3
 z3:=Tryz.sizeOf3
 v3:=Tryz.zeroValue3
 i3:=by kernel_rfl
 t4:=Tryz.underlying4
 a4:=Tryz.isAgg4
 z4:=Tryz.sizeOf4
 v4:=Tryz.zeroValue4
 i4:=by kernel_rfl
 t5:=Tryz.underlying5
 a5:=Tryz.isAgg5
 z5:=Tryz.sizeOf5
 v5:=Tryz.zeroValue5
 i5:=by kernel_rfl
 t9:=Tryz.underlying9
 a9:=Tryz.isAgg9
 z9:=Tryz.sizeOf9
 v9:=Tryz.zeroValue9
 i9:=by kernel_rfl
 t20:=Tryz.underlying20
 a20:=Tryz.isAgg20
 z20:=Tryz.sizeOf20
 v20:=Tryz.zeroValue20
 i20:=by kernel_rfl
 t21:=Tryz.underlying21
 a21:=Tryz.isAgg21
 z21:=Tryz.sizeOf21
 v21:=Tryz.zeroValue21
 i21:=by kernel_rfl
 t22:=Tryz.underlying111
 a22:=Tryz.isAgg111
 z22:=Tryz.sizeOf111
 v22:=Tryz.zeroValue111
 i22:=by kernel_rfl
 t24:=Tryz.underlying145
 a24:=Tryz.isAgg145
 z24:=Tryz.sizeOf145
 v24:=Tryz.zeroValue145
 i24:=by kernel_rfl
 t25:=Tryz.underlying146
 a25:=Tryz.isAgg146
 z25:=Tryz.sizeOf146
 v25:=Tryz.zeroValue146
 i25:=by kernel_rfl
 t34:=Tryz.underlying198
 a34:=Tryz.isAgg198
 z34:=Tryz.sizeOf198
 v34:=Tryz.zeroValue198
 i34:=by kernel_rfl
 c34:=by kernel_rfl
 t36:=Tryz.underlying91
 a36:=Tryz.isAgg91
 z36:=Tryz.sizeOf91
 v36:=Tryz.zeroValue91
 i36:=by kernel_rfl
 t37:=Tryz.underlying107
 a37:=Tryz.isAgg107
 z37:=Tryz.sizeOf107
 v37:=Tryz.zeroValue107
 i37:=by kernel_rfl
 t39:=Tryz.underlying200
 a39:=Tryz.isAgg200
 z39:=Tryz.sizeOf200
 v39:=Tryz.zeroValue200
 i39:=by kernel_rfl
 t44:=Tryz.underlying223
 a44:=Tryz.isAgg223
 z44:=Tryz.sizeOf223
 v44:=Tryz.zeroValue223
 i44:=by kernel_rfl
 t47:=Tryz.underlying190
 a47:=Tryz.isAgg190
 z47:=Tryz.sizeOf190
 v47:=Tryz.zeroValue190
 i47:=by kernel_rfl
 t48:=Tryz.underlying236
 a48:=Tryz.isAgg236
 z48:=Tryz.sizeOf236
 v48:=Tryz.zeroValue236
 i48:=by kernel_rfl
 t50:=Tryz.underlying238
 a50:=Tryz.isAgg238
 z50:=Tryz.sizeOf238
 v50:=Tryz.zeroValue238
 i50:=by kernel_rfl
 t52:=Tryz.underlying209
 a52:=Tryz.isAgg209
 z52:=Tryz.sizeOf209
 v52:=Tryz.zeroValue209
 i52:=by kernel_rfl
 t55:=Tryz.underlying212
 a55:=Tryz.isAgg212
 z55:=Tryz.sizeOf212
 v55:=Tryz.zeroValue212
 i55:=by kernel_rfl
 t59:=Tryz.underlying226
 a59:=Tryz.isAgg226
 z59:=Tryz.sizeOf226
 v59:=Tryz.zeroValue226
 i59:=by kernel_rfl
 t60:=Tryz.underlying214
 a60:=Tryz.isAgg214
 z60:=Tryz.sizeOf214
 v60:=Tryz.zeroValue214
 i60:=by kernel_rfl
 t61:=Tryz.underlying227
 a61:=Tryz.isAgg227
 z61:=Tryz.sizeOf227
 t65:=Tryz.underlying241
 a65:=Tryz.isAgg241
 z65:=Tryz.sizeOf241
 v65:=Tryz.zeroValue241
 i65:=by kernel_rfl
 t66:=Tryz.underlying242
 a66:=Tryz.isAgg242
 z66:=Tryz.sizeOf242
 v66:=Tryz.zeroValue242
 i66:=by kernel_rfl
 t67:=Tryz.underlying37
 a67:=Tryz.isAgg37
 z67:=Tryz.sizeOf37
 v67:=Tryz.zeroValue37
 i67:=by kernel_rfl
 g0:=by kernel_rfl
 m0:=by kernel_rfl
 g1:=by kernel_rfl
 m1:=by kernel_rfl
 g2:=by kernel_rfl
 m2:=by kernel_rfl
 g3:=by kernel_rfl
 m3:=by kernel_rfl
 g4:=by kernel_rfl
 m4:=by kernel_rfl}
open Go.RowKit in
theorem Tryz.strconv_ParseUint_10_at64_ok(s:ByteArray)(hmax:s.size≤9223372036854775806)(u:Nat)(h:Lib.parseUintB 64 s.data.toList = .ok u)(w:World) :
  Calls Tryz.prog 106 #[.string s,.int .i64 10,.int .i64 64] w fun e w'=>e = .returned (.tuple #[.int .u64 u,.nilIface])∧(w'=w∨w'=Lib.bytesWorld w 5 s):=Any.strconv_ParseUint_10_at64_ok Tryz.laysPu14 s hmax u h w
def Tryz.lays145_ren:Go.Shelf.Ren:=⟨fun|145=>59|220=>103|219=>138|217=>159|225=>160|224=>161|267=>162|266=>183|314=>184|n=>n,fun|9=>9|4=>4|59=>95|3=>3|5=>5|46=>91|146=>215|51=>214|n=>n,fun|1=>0|n=>n⟩
theorem Tryz.lays145:Go.Proofs.Lays.n145 Tryz.prog Tryz.lays145_ren:={
 mixed:=by kernel_rfl
 f145:=Tryz.func59.trans (congrArg some (by kernel_rfl))
 f217:=Tryz.func159.trans (congrArg some (by kernel_rfl))
 f219:=Tryz.func138.trans (congrArg some (by kernel_rfl))
 f220:=Tryz.func103.trans (congrArg some (by kernel_rfl))
 f224:=Tryz.func161.trans (congrArg some (by kernel_rfl))
 f225:=Tryz.func160.trans (congrArg some (by kernel_rfl))
 f266:=Tryz.func183.trans (congrArg some (by kernel_rfl))
 f267:=Tryz.func162.trans (congrArg some (by kernel_rfl))
 f314:=Tryz.func184.trans (congrArg some (by kernel_rfl))
 t3:=Tryz.underlying3
 a3:=Tryz.isAgg3
 z3:=Tryz.sizeOf3
 v3:=Tryz.zeroValue3
 t4:=Tryz.underlying4
 a4:=Tryz.isAgg4
 z4:=Tryz.sizeOf4
 v4:=Tryz.zeroValue4
 t5:=Tryz.underlying5
 a5:=Tryz.isAgg5
 z5:=Tryz.sizeOf5
 v5:=Tryz.zeroValue5
 t9:=Tryz.underlying9
 a9:=Tryz.isAgg9
 z9:=Tryz.sizeOf9
 v9:=Tryz.zeroValue9
 t46:=Tryz.underlying91
 a46:=Tryz.isAgg91
 z46:=Tryz.sizeOf91
 v46:=Tryz.zeroValue91
 t51:=Tryz.underlying214
 a51:=Tryz.isAgg214
 z51:=Tryz.sizeOf214
 v51:=Tryz.zeroValue214
 t59:=Tryz.underlying95
 a59:=Tryz.isAgg95
 z59:=Tryz.sizeOf95
 v59:=Tryz.zeroValue95
 t146:=Tryz.underlying215
 a146:=Tryz.isAgg215
 z146:=Tryz.sizeOf215
 v146:=Tryz.zeroValue215
 g1:=by kernel_rfl}
open Go.RowKit Go.Lib in
theorem Tryz.strings_Cut(s sep:ByteArray)(m:Int)(w:World)(hs:s.size<4294967281)(hm:w.cell? ⟨0,0,none⟩=some (.int .i64 m)) :
  Calls Tryz.prog 59 #[.string s,.string sep] w fun e w'=>e = .returned (.tuple #[.string ⟨(Lib.cut s.data.toList sep.data.toList).1.toArray⟩,.string ⟨(Lib.cut s.data.toList sep.data.toList).2.1.toArray⟩,.bool (Lib.cut s.data.toList sep.data.toList).2.2])∧∃n,w'=w.drewN n:=Any.strings_Cut Tryz.lays145 s sep m w hs hm
def Tryz.laysM219_ren:Go.Shelf.Ren:=⟨fun|219=>138|217=>159|225=>160|224=>161|267=>162|266=>183|314=>184|n=>n,fun|9=>9|3=>3|4=>4|5=>5|46=>91|146=>215|51=>214|n=>n,fun|1=>0|n=>n⟩
theorem Tryz.laysM219:Go.Proofs.LaysM.n219 Tryz.prog Tryz.laysM219_ren:={
 mixed:=by kernel_rfl
 f217:=Tryz.func159.trans (congrArg some (by kernel_rfl))
 f219:=Tryz.func138.trans (congrArg some (by kernel_rfl))
 f224:=Tryz.func161.trans (congrArg some (by kernel_rfl))
 f225:=Tryz.func160.trans (congrArg some (by kernel_rfl))
 f266:=Tryz.func183.trans (congrArg some (by kernel_rfl))
 f267:=Tryz.func162.trans (congrArg some (by kernel_rfl))
 f314:=Tryz.func184.trans (congrArg some (by kernel_rfl))
 t3:=Tryz.underlying3
 a3:=Tryz.isAgg3
 z3:=Tryz.sizeOf3
 v3:=Tryz.zeroValue3
 t4:=Tryz.underlying4
 a4:=Tryz.isAgg4
 z4:=Tryz.sizeOf4
 v4:=Tryz.zeroValue4
 t5:=Tryz.underlying5
 a5:=Tryz.isAgg5
 z5:=Tryz.sizeOf5
 v5:=Tryz.zeroValue5
 t9:=Tryz.underlying9
 a9:=Tryz.isAgg9
 z9:=Tryz.sizeOf9
 v9:=Tryz.zeroValue9
 t46:=Tryz.underlying91
 a46:=Tryz.isAgg91
 z46:=Tryz.sizeOf91
 v46:=Tryz.zeroValue91
 t51:=Tryz.underlying214
 a51:=Tryz.isAgg214
 z51:=Tryz.sizeOf214
 v51:=Tryz.zeroValue214
 t146:=Tryz.underlying215
 a146:=Tryz.isAgg215
 z146:=Tryz.sizeOf215
 v146:=Tryz.zeroValue215
 g1:=by kernel_rfl
 i3:=by kernel_rfl
 i4:=by kernel_rfl
 i5:=by kernel_rfl
 i9:=by kernel_rfl
 i46:=by kernel_rfl
 i51:=by kernel_rfl
 i146:=by kernel_rfl
 m1:=by kernel_rfl
 s1_3:=fun w h=>Go.Proofs.cell_of_shapedOpen_int (zero:=#[.int .i64 0]) (t:=3) h (of_decide_eq_true (by kernel_rfl)) (by kernel_rfl) rfl (by kernel_rfl) (by kernel_rfl) Tryz.underlying3}
def Tryz.lays105_ren:Go.Shelf.Ren:=⟨fun|105=>115|212=>154|99=>155|165=>156|166=>113|170=>157|169=>116|263=>180|264=>181|206=>139|240=>152|241=>182|276=>175|277=>196|n=>n,fun|9=>9|3=>3|4=>4|20=>20|0=>0|46=>91|109=>187|5=>5|72=>158|76=>159|51=>214|146=>215|53=>111|148=>217|70=>156|37=>107|75=>145|127=>190|164=>206|80=>37|n=>n,fun|n=>n⟩
theorem Tryz.lays105:Go.Proofs.Lays.n105 Tryz.prog Tryz.lays105_ren:={
 mixed:=by kernel_rfl
 f99:=Tryz.func155.trans (congrArg some (by kernel_rfl))
 f105:=Tryz.func115.trans (congrArg some (by kernel_rfl))
 f165:=Tryz.func156.trans (congrArg some (by kernel_rfl))
 f166:=Tryz.func113.trans (congrArg some (by kernel_rfl))
 f169:=Tryz.func116.trans (congrArg some (by kernel_rfl))
 f170:=Tryz.func157.trans (congrArg some (by kernel_rfl))
 f206:=Tryz.func139.trans (congrArg some (by kernel_rfl))
 f212:=Tryz.func154.trans (congrArg some (by kernel_rfl))
 f240:=Tryz.func152.trans (congrArg some (by kernel_rfl))
 f241:=Tryz.func182.trans (congrArg some (by kernel_rfl))
 f263:=Tryz.func180.trans (congrArg some (by kernel_rfl))
 f264:=Tryz.func181.trans (congrArg some (by kernel_rfl))
 f276:=Tryz.func175.trans (congrArg some (by kernel_rfl))
 f277:=Tryz.func196.trans (congrArg some (by kernel_rfl))
 t0:=Tryz.underlying0
 a0:=Tryz.isAgg0
 z0:=Tryz.sizeOf0
 v0:=Tryz.zeroValue0
 t3:=Tryz.underlying3
 a3:=Tryz.isAgg3
 z3:=Tryz.sizeOf3
 v3:=Tryz.zeroValue3
 t4:=Tryz.underlying4
 a4:=Tryz.isAgg4
 z4:=Tryz.sizeOf4
 v4:=Tryz.zeroValue4
 t5:=Tryz.underlying5
 a5:=Tryz.isAgg5
 z5:=Tryz.sizeOf5
 v5:=Tryz.zeroValue5
 t9:=Tryz.underlying9
 a9:=Tryz.isAgg9
 z9:=Tryz.sizeOf9
 v9:=Tryz.zeroValue9
 t20:=Tryz.underlying20
 a20:=Tryz.isAgg20
 z20:=Tryz.sizeOf20
 v20:=Tryz.zeroValue20
 t37:=Tryz.underlying107
 a37:=Tryz.isAgg107
 z37:=Tryz.sizeOf107
 v37:=Tryz.zeroValue107
 t46:=Tryz.underlying91
 a46:=Tryz.isAgg91
 z46:=Tryz.sizeOf91
 v46:=Tryz.zeroValue91
 t51:=Tryz.underlying214
 a51:=Tryz.isAgg214
 z51:=Tryz.sizeOf214
 v51:=Tryz.zeroValue214
 t53:=Tryz.underlying111
 a53:=Tryz.isAgg111
 z53:=Tryz.sizeOf111
 v53:=Tryz.zeroValue111
 t70:=Tryz.underlying156
 a70:=Tryz.isAgg156
 z70:=Tryz.sizeOf156
 v70:=Tryz.zeroValue156
 t72:=Tryz.underlying158
 a72:=Tryz.isAgg158
 z72:=Tryz.sizeOf158
 v72:=Tryz.zeroValue158
 t75:=Tryz.underlying145
 a75:=Tryz.isAgg145
 z75:=Tryz.sizeOf145
 v75:=Tryz.zeroValue145
 t76:=Tryz.underlying159
 a76:=Tryz.isAgg159
 z76:=Tryz.sizeOf159
 v76:=Tryz.zeroValue159
 t109:=Tryz.underlying187
 a109:=Tryz.isAgg187
 z109:=Tryz.sizeOf187
 v109:=Tryz.zeroValue187
 t127:=Tryz.underlying190
 a127:=Tryz.isAgg190
 z127:=Tryz.sizeOf190
 v127:=Tryz.zeroValue190
 t146:=Tryz.underlying215
 a146:=Tryz.isAgg215
 z146:=Tryz.sizeOf215
 v146:=Tryz.zeroValue215
 t148:=Tryz.underlying217
 a148:=Tryz.isAgg217
 z148:=Tryz.sizeOf217
 v148:=Tryz.zeroValue217
 t164:=Tryz.underlying206
 a164:=Tryz.isAgg206
 z164:=Tryz.sizeOf206
 v164:=Tryz.zeroValue206}
theorem Tryz.Builder_Extra_105:Builder.Extra Tryz.prog Tryz.lays105_ren:={
 sizeBuilder:=by kernel_rfl
 liesBuilder:=by kernel_rfl
 t5:=Tryz.underlying5
 a5:=Tryz.isAgg5
 z5:=Tryz.sizeOf5
 v5:=Tryz.zeroValue5
 infoByte:=by kernel_rfl
 cellsByte:=by kernel_rfl
 sizeByte:=by kernel_rfl
 neB5:=by decide}
open Go.RowKit Go.Lib in
theorem Tryz.strings_Repeat(s:ByteArray)(c:Nat)(w:World)(hc:c≤9223372036854775807)(hlen:s.size*c≤140737488355328) :
  Calls Tryz.prog 115 #[.string s,.int .i64 c] w fun e w'=>e = .returned (.string ⟨(Lib.repeatL s.data.toList c).toArray⟩)∧Below w.heap.size w w':=Any.strings_Repeat Tryz.lays105 Tryz.Builder_Extra_105 s c w hc hlen
end Go.Proofs
namespace Go.Num
open Go.Shelf Go.RowKit Go.Proofs Go.Proofs.YtoamcgjbelhnkaaGreatDoor
theorem zoq:(Tryz.prog.info? 158).map (·.size)=some 2:=by kernel_rfl
theorem zrZ:liesAt Tryz.prog Tryz.prog.depth 158 (2/Tryz.prog.cellsOf 158) 0 158 1=true:=by kernel_rfl
theorem u156:Tryz.prog.underlying 156=some (.pointer 158):=by kernel_rfl
theorem u206:Tryz.prog.underlying 206=some .unsafePointer:=by kernel_rfl
theorem ziB(b:Nat)(w:World)(h0:w.cell? ⟨b,0,none⟩=some (.pointer (some ⟨b,0,none⟩))) :
  Calls Tryz.prog 152 #[.pointer (some ⟨b,0,none⟩)] w fun e w'=>e = .returned (.tuple #[])∧w'=w:=by
 obtain⟨j,hj,_⟩:=Option.map_eq_some_iff.1 zoq;go_enter Tryz.func152,Tryz.ntmps152
 go_wp2
 rw [Lib.run_neq_ptr_same w _ Go.Num.u156 hj];go_wp2
 go_end0
 exact⟨rfl,rfl⟩
theorem zh2(b:Nat)(w:World)(h0:w.cell? ⟨b,0,none⟩=some (.pointer none))(hsh:w.shape? b=some (158,2))(hfz:w.frozen? ⟨b,0,none⟩=false) :
  Calls Tryz.prog 152 #[.pointer (some ⟨b,0,none⟩)] w fun e w'=>e = .returned (.tuple #[])∧w'=w.setCell ⟨b,0,none⟩ (.pointer (some ⟨b,0,none⟩)):=by
 obtain⟨j,hj,hjs⟩:=Option.map_eq_some_iff.1 zoq;go_enter Tryz.func152,Tryz.ntmps152
 go_wp2
 rw [Lib.run_to_unsafe w ⟨b,0,none⟩ Go.Num.u156 Go.Num.u206 hj (by rw [hjs];decide) hsh (Nat.zero_lt_succ 1)];simp only [Result.andThen];rw [Oper.upon_value];go_wp2
 rw [run_callFunc_extern Tryz.func175 (by kernel_rfl) (by kernel_rfl) (by kernel_rfl) (e:=Extern.AbiNoEscape.same) (by kernel_rfl)];rw [Lib.run_noEscape];simp only [Result.andThen];rw [Oper.upon_value];go_wp2
 rw [Lib.run_from_unsafe w ⟨b,0,none⟩ Go.Num.u206 Go.Num.u156 hj hsh zrZ];simp only [Result.andThen];rw [Oper.upon_value];go_wp2
 go_end0
 exact⟨rfl,rfl⟩
theorem zh3(B b:Nat)(bs:List Value)(w:World)(h:Lib.IsBuilder 158 5 B b bs w) :
  Calls Tryz.prog 152 #[.pointer (some ⟨b,0,none⟩)] w fun e w'=>e = .returned (.tuple #[])∧(Lib.BuilderAt 158 5 B b (.pointer (some ⟨b,0,none⟩)) bs w'∧Below B w w'):=by
 rcases h with h|h
 ·refine(zh2 b w h.cell0 h.shape h.frozen0).mono ?_;rintro e w' ⟨rfl,rfl⟩;exact⟨rfl,h.used _,(Below.refl B w).setCell (p:=⟨b,0,none⟩) h.1 _⟩
 ·refine(ziB b w h.cell0).mono ?_;rintro e w' ⟨rfl,rfl⟩;exact⟨rfl,h,Below.refl B _⟩
theorem zdC(B b:Nat)(bs:List Value)(s:ByteArray)(w:World)(h:Lib.IsBuilder 158 5 B b bs w)(hlen:bs.length+s.size≤140737488355328)(hBw:B≤w.heap.size) :
  Calls Tryz.prog 113 #[.pointer (some ⟨b,0,none⟩),.string s] w fun e w'=>e = .returned (.tuple #[.int .i64 s.size,.nilIface])∧(Lib.BuilderAt 158 5 B b (.pointer (some ⟨b,0,none⟩)) (bs ++ Lib.strCells s) w'∧Below B w w'):=by
 go_enter Tryz.func113,Tryz.ntmps113
 go_wp2_with (go_at_call 152;refine(zh3 B b bs _ h).mono ?_)
 rintro e w1 ⟨rfl,h1,hb1⟩;obtain⟨hB,v,hbk,hown,hne⟩:=h1;have c0:w1.cell? ⟨b,0,none⟩=some (.pointer (some ⟨b,0,none⟩)):=by rw [Lib.cell_of_heap hbk];rfl
 have c1:w1.cell? ⟨b,1,none⟩=some v:=by rw [Lib.cell_of_heap hbk];rfl
 go_wp2_with (at_builtin;refine Lib.wpList_append_own_string _ rfl _ _ 107 9 rfl B 5 Tryz.t5 Go.Num.u107 Go.Num.u9 zpz zpx zpy znt _ _ _ rfl hown s rfl ?c3 ?c4 ?c5 ?_)
 case c3=>unfold maxLen;omega
 case c4=>omega
 case c5=>have:=hb1.size;omega
 intro v' w2 hown' hgrow _;have hlt:b<w1.heap.size:=by
  rcases Nat.lt_or_ge b w1.heap.size with h'|h'
  ·exact h'
  ·simp [Array.getElem?_eq_none h']at hbk
 have hb2:w2.heap[b]? = some (.cells #[.pointer (some ⟨b,0,none⟩),v] 158 (0,0)):=by
  rw [hgrow.block b hlt (fun e=>hne e.symm)];exact hbk
 have d0:w2.cell? ⟨b,0,none⟩=some (.pointer (some ⟨b,0,none⟩)):=by rw [Lib.cell_of_heap hb2];rfl
 have d1:w2.cell? ⟨b,1,none⟩=some v:=by rw [Lib.cell_of_heap hb2];rfl
 have f1:w2.frozen? ⟨b,1,none⟩=false:=Lib.frozen_of_heap hb2 1;obtain⟨ao,n',cap,rfl⟩:∃ao n' cap,v' = .slice ao n' cap:=by
  rcases hown'.2 with⟨hv,_⟩|⟨g,cap,cur,hv,_⟩
  ·exact⟨_,_,_,hv⟩
  ·exact⟨_,_,_,hv⟩
 go_wp2
 go_ret2
 refine⟨rfl,?_,?_⟩
 ·exact Lib.BuilderAt.put (T:=158) (e:=5) hB hb2 (bs':=bs ++ Lib.strCells s) (by simpa [Lib.strCells_length]using hown') (by decide)
 ·exact(hb1.grown hgrow (by have:=hb1.size;omega) (fun k hk=>(hown.lt k hk).1)).setCell (p:=⟨b,1,none⟩) hB _
end Go.Num
namespace Go.Num
open Go.Shelf Go.RowKit Go.Sort Go.Proofs Go.Proofs.YtoamcgjbelhnkaaGreatDoor
abbrev zaY(w:World):Prop:=Lib.TabIs Tryz.prog w "internal/strconv.uint64pow10" .u64 Lib.pow10Tab
theorem ztp:Tryz.prog.arrayLen 209=24:=by kernel_rfl
theorem zmV(w:World)(os:Array Obj):Below w.heap.size w (grow w os):=⟨rfl,rfl,rfl,by simp [grow],fun k hk=>by
 show(w.heap ++ os)[k]? = w.heap[k]?
 exact Array.getElem?_append_left hk⟩
theorem zlN(u:Nat)(hu64:u<18446744073709551616)(w:World)(htab:zaY w) :
  Calls Tryz.prog 153 #[.int .u64 u,.int .i64 10] w fun e w'=>e = .returned (.string ⟨(Lib.decDigits u).toArray⟩)∧Below w.heap.size w w':=by
 by_cases hs:u<100
 ·have hsi:decide ((u:Int)<100)=true:=decide_eq_true (by omega);have hwr:IntKind.i64.wrap (u:Int)=(u:Int):=zeM (by omega);go_enter Tryz.func153,Tryz.ntmps153
  go_wp2_with (go_at_call 176;refine(Tryz.internal_strconv_small u hs _).mono ?_;rintro e w' ⟨rfl,rfl⟩)
  go_ret
  exact⟨rfl,Below.refl _ _⟩
 ·have hsi:decide ((u:Int)<100)=false:=decide_eq_false (by omega);have hu1:1≤u:=by omega
  have hnd20:Lib.nDigits u≤20:=by have:=Lib.numDigits_eq u hu1 hu64;split at this <;> omega
  have hsl1:∀W,(Instr.sliceAt 209 (.pointer (some ⟨w.heap.size,0,none⟩)) none (some (.int .i64 (Lib.nDigits u:Int))) none).run Tryz.prog W = .ok (.slice (some ⟨w.heap.size,0,none⟩) (Lib.nDigits u) 24) W:=fun W=>by
   rw [run_sliceAt_array_h W 209 ⟨w.heap.size,0,none⟩ (by kernel_rfl) .i64 (Lib.nDigits u:Int) (by omega) (by rw [ztp];omega)];rw [ztp];go_simp
  have hH0:Holds (fun (b:UInt8)=>Value.int .u8 (b.toNat:Int)) (w.alloc (.cells Lib.zeros24 209)) w.heap.size 0 (Array.replicate (Lib.nDigits u) 0):=fun i hi=>by
   have hj':i<Lib.nDigits u:=by simpa using hi
   refine⟨?_,World.frozen?_alloc_new _ _ _ _⟩;rw [Nat.zero_add,World.cell?_alloc_new,Lib.zeros24_at _ (by omega),getElem!_pos _ i hi];simp
  have hfmt:=Tryz.internal_strconv_formatBase10 w.heap.size 0 24 u (Array.replicate (Lib.nDigits u) 0) (w.alloc (.cells Lib.zeros24 209)) hH0 (by rw [Array.size_replicate];exact Lib.lt_pow_nDigits u) hu64 (by rw [Array.size_replicate];omega);rw [Array.size_replicate]at hfmt;have HH0:=Lib.hid hH0;clear hH0;go_enter Tryz.func153,Tryz.ntmps153
  go_wp2_with (first
   | (go_at_call 177;refine(Tryz.internal_strconv_numDigits u hu1 hu64 _ (Lib.tabIs_alloc htab _)).mono ?_;rintro e w' ⟨rfl,rfl⟩))
  refine hfmt.mono ?_;rintro e w' ⟨rfl,k,v',dk,rfl,hF⟩;have hcv:(convert 107 9 (.slice (some ⟨w.heap.size,0,none⟩) (Lib.nDigits u) 24)).run Tryz.prog ((putRow (fun (b:UInt8)=>Value.int .u8 (b.toNat:Int)) (w.alloc (.cells Lib.zeros24 209)) w.heap.size 0 dk).drewN k) = .ok (.string ⟨(Lib.decDigits u).toArray⟩) ((putRow (fun (b:UInt8)=>Value.int .u8 (b.toNat:Int)) (w.alloc (.cells Lib.zeros24 209)) w.heap.size 0 dk).drewN k):=by
   have h:=run_convert_bytes_back (P:=Tryz.prog) ((putRow (fun (b:UInt8)=>Value.int .u8 (b.toNat:Int)) (w.alloc (.cells Lib.zeros24 209)) w.heap.size 0 dk).drewN k) 107 9 5 ⟨w.heap.size,0,none⟩ 24 (Lib.decDigits u) Go.Num.u107 Go.Num.u5 Go.Num.u9 (fun j hj=>by
    rw [Lib.row_is_numeral hF j hj,Lib.add_plain,World.cell?_drewN];exact cell?_putRow (fun (b:UInt8)=>Value.int .u8 (b.toNat:Int)) _ w.heap.size 0 _ dk HH0.out (by rw [hF.size,Array.size_replicate]) j (by rw [hF.size];rw [Lib.decDigits_length]at hj;exact hj))
   rw [Lib.decDigits_length]at h;exact h
  have hB:Below w.heap.size w ((putRow (fun (b:UInt8)=>Value.int .u8 (b.toNat:Int)) (w.alloc (.cells Lib.zeros24 209)) w.heap.size 0 dk).drewN k):=by
   rw [alloc_eq_grow];obtain⟨os',_,e⟩:=putRow_grow_new (fun (b:UInt8)=>Value.int .u8 (b.toNat:Int)) w #[.cells Lib.zeros24 209] w.heap.size 0 dk (Nat.le_refl _);rw [e];exact(zmV w os').trans ((zbh _ _).mono (by simp))
  have HBl:=Lib.hid hB;clear hB;go_wp2
  go_ret
  exact⟨rfl,HBl.out⟩
end Go.Num
namespace Go.Num
open Go.Eng Go.Shelf Go.RowKit Go.Sort Go.Proofs Go.Proofs.YtoamcgjbelhnkaaGreatDoor
theorem zaY.below{w w':World}(h:zaY w)(hb:Below w.heap.size w w'):zaY w':=by
 unfold zaY Lib.TabIs World.var? at h ⊢
 cases hg:Tryz.prog.globalNamed "internal/strconv.uint64pow10" with
 | none=>rw [hg]at h;cases h
 | some g=>
  rw [hg]at h;simp only [Option.bind_some]at h ⊢;have hlt:g<w.heap.size:=by
   rcases Nat.lt_or_ge g w.heap.size with h'|h'
   ·exact h'
   ·rw [Array.getElem?_eq_none h']at h;cases h
  rw [hb.block g hlt];exact h
theorem zel(u:Nat)(hu64:u<18446744073709551616)(w:World)(htab:zaY w) :
  CallsIn Fence.wide 0 Tryz.prog 114 #[.int .u64 u,.int .i64 10] w fun e w'=>e = .returned (.string ⟨(Lib.decDigits u).toArray⟩)∧Below w.heap.size w w':=by
 refine callsIn_of_wp Tryz.func114 rfl trivial ?_ rfl;simp only [Tryz.ntmps114,ztH,ztI,ztJ,Nat.reduceAdd,Nat.reduceSub,ztK,ztL,ztM,ztN,ztO,ztP];gi_wp2_with (gi_at_call 153;refine stop ?_)
 refine(callsIn_wide.2 (zlN u hu64 w htab)).mono ?_;rintro e w' ⟨rfl,hB⟩;gi_wp2;all_goals (first|go_returns|go_ret|go_end0)
 exact⟨rfl,hB⟩
theorem zsS(w:World):Lib.IsBuilder 158 5 w.heap.size w.heap.size [] (w.alloc (.cells #[.pointer none,.slice none 0 0] 158)):=
 .inl ⟨Nat.le_refl _,.slice none 0 0,by show(w.heap.push _)[w.heap.size]? = _;simp,World.ownsRow_nil _ _ _ _,by simp [Value.ownBlock]⟩
theorem repL(c:UInt8):∀n,Lib.repeatL [c] n=List.replicate n c
 | 0=>rfl
 | n+1=>by
  show [c] ++ Lib.repeatL [c] n=_
  rw [repL c n];rfl
theorem zpQ{w w':World}{base e size n:Nat}{v:Value}{xs:List Value}(h:w.ownsRow base e size v n xs)(hb:Below w.heap.size w w'):w'.ownsRow base e size v n xs:=by
 refine⟨h.1,?_⟩;rcases h.2 with h|⟨g,cap,cur,h1,h2,h3,h4⟩
 ·exact .inl h
 ·have hlt:g<w.heap.size:=by
   rcases Nat.lt_or_ge g w.heap.size with h'|h'
   ·exact h'
   ·rw [Array.getElem?_eq_none h']at h3;cases h3
  exact .inr ⟨g,cap,cur,h1,h2,(hb.block g hlt).trans h3,h4⟩
theorem zij{B b:Nat}{p:Value}{bs:List Value}{w w':World}(h:Lib.BuilderAt 158 5 B b p bs w)(hb:Below w.heap.size w w'):Lib.BuilderAt 158 5 B b p bs w':=by
 have hlt:=h.lt;obtain⟨h1,v,h2,h3,h4⟩:=h;exact⟨h1,v,(hb.block b hlt).trans h2,zpQ h3 hb,h4⟩
theorem zii{B b:Nat}{bs:List Value}{w w':World}(h:Lib.IsBuilder 158 5 B b bs w)(hb:Below w.heap.size w w'):Lib.IsBuilder 158 5 B b bs w':=by
 rcases h with h|h
 ·exact .inl (zij h hb)
 ·exact .inr (zij h hb)
theorem zgr:∀(n x:Nat),x<10^(n+1)→Lib.nDigits x≤n+1
 | 0,x,h=>by rw [Lib.nDigits_small (by simpa using h)];omega
 | n+1,x,h=>by
  by_cases hs:x<10
  ·rw [Lib.nDigits_small hs];omega
  ·rw [Lib.nDigits_big hs];have:=zgr n (x/10) (by rw [Nat.pow_succ]at h;omega);omega
theorem zd9{x k:Nat}(hk:0<k)(h:x<B^k):Lib.nDigits x≤9*k:=by
 obtain⟨m,hm⟩:∃m,9*k=m+1:=⟨9*k-1,by omega⟩;rw [pow9,hm]at h;rw [hm];exact zgr m x h
theorem zlu{x:Nat}(h:x<B^100000):Lib.nDigits x≤900000:=zd9 (k:=100000) (by decide) h
theorem zlv{x:Nat}(h:x<1000000000):Lib.nDigits x≤9:=zgr 8 x h
theorem zk1(l:List UInt8):Lib.strCells ⟨l.toArray⟩=Lib.byteCells l:=rfl
theorem zcG(l:List UInt8):(⟨l.toArray⟩:ByteArray).size=l.length:=rfl
theorem zeI(w:World)(v:Value)(N k:Nat)(hk:zcq N k)(hl:∃o c,v = .slice o k c∧(0<k→∃a:Addr,o=some a∧a.block<w.heap.size∧∀i,i<k→w.cell? (a.add i)=some (.int .u64 ((limb N i:Nat):Int))))(hN:N<B^100000)(htab:zaY w) :
  CallsIn Fence.wide 0 Tryz.prog 71 #[v] w fun e w'=>e = .returned (.string ⟨(Lib.decDigits N).toArray⟩)∧Below w.heap.size w w':=by
 have hkL:k≤100000:=hk.le hN;obtain⟨o,c,rfl,h1⟩:=hl;have H1:=zHi h1;have HK:=zHi hk;have HTab:=zHi htab;clear h1 hk htab;refine callsIn_of_wp Tryz.func71 rfl trivial ?_ rfl;simp only [Tryz.ntmps71,ztH,ztI,ztJ,Nat.reduceAdd,Nat.reduceSub,ztK,ztL,ztM,ztN,ztO,ztP];by_cases hk0:k=0
 ·subst hk0;have hN0:N=0:=HK.out.zero;subst hN0;gi_wp2;all_goals (first|go_returns|go_ret|go_end0)
  exact⟨by rw [Lib.decDigits,dif_pos (by decide)];rfl,Below.refl _ _⟩
 ·obtain⟨m,rfl⟩:∃m,k=m+1:=⟨k-1,by omega⟩;have hk0':((m:Int)+1 == 0)=false:=beq_false_of_ne (by omega);obtain⟨a1,rfl,ha1,hc1⟩:=H1.out (by omega);have p1:=hc1 m (by omega);obtain⟨l,hlm⟩:∃l,limb N m=l:=⟨_,rfl⟩;have hl9:l<1000000000:=by rw [←hlm];exact zaA N m
  rw [hlm]at p1;have HTOP:Hid (l=N/B^m):=zHi (by
   rw [←hlm];unfold limb;refine Nat.mod_eq_of_lt (Nat.div_lt_of_lt_mul ?_);have:=HK.out.1;rw [Nat.pow_succ]at this;exact this)
  have HPos:Hid (0<N/B^m):=zHi (by
   have:=HK.out.2;rcases this with h|h
   ·omega
   ·exact Nat.div_pos h (zar m))
  obtain⟨W1,hW1⟩:∃W,W=w.alloc (.cells #[.pointer none,.slice none 0 0] 158):=⟨_,rfl⟩;have HBW:Hid (Below w.heap.size w W1):=zHi (by rw [hW1];exact zaa _ _);have HBl:Hid (Lib.IsBuilder 158 5 w.heap.size w.heap.size [] W1):=zHi (by rw [hW1];exact zsS w);have p1':(w.alloc (.cells #[.pointer none,.slice none 0 0] 158)).cell? (a1.add m)=some (.int .u64 (l:Int)):=by
   rw [←hW1];exact(HBW.out.cell (p:=a1.add m) (by rw [zac];exact ha1)).trans p1
  have hH:=zHi hc1;clear hc1 p1;gi_wp2_with (gi_at_call 114;refine stop ?_)
  unfold Stop;rw [←hW1];refine(zel l (by omega) W1 (HTab.out.below HBW.out)).mono ?_;rintro e w2 ⟨rfl,hb2⟩;have HBl2:=zHi (zii HBl.out hb2);have HBW2:=zBt HBW hb2;obtain⟨b,hbs⟩:∃b,w.heap.size=b:=⟨_,rfl⟩;have HLT:=zHi hN;have hab:a1.block<b:=by omega
  rw [hbs]at HBl2 HBW2;have HTab2:Hid (∀W,Below b w W→zaY W):=zHi fun W h=>HTab.out.below (by rw [hbs];exact h)
  have hsz2:=HBW2.out.size;have hbsz:b≤w2.heap.size:=by omega
  obtain⟨S,hS⟩:∃S:ByteArray,(⟨(Lib.decDigits l).toArray⟩:ByteArray)=S:=⟨_,rfl⟩;rw [hS,hbs];clear HBl HBW hW1 p1' hb2 hlm HTab H1;gi_wp2_with (gi_at_call 113;refine stop ?_)
  refine(callsIn_wide.2 (zdC b b [] S w2 HBl2.out (by rw [←hS,zcG,Lib.decDigits_length];have:=zlv hl9;simp;omega) hbsz)).mono ?_;rintro e w3 ⟨rfl,hbl3,hb3⟩;have HBl3:Hid (Lib.IsBuilder 158 5 b b (Lib.byteCells (Lib.decDigits (N/B^m))) w3):=zHi (.inr (by
   rw [←hS,List.nil_append,zk1,HTOP.out]at hbl3;exact hbl3))
  have HBW3:=zHi (HBW2.out.trans hb3);clear hbl3 hb3 HBl2 HBW2 hsz2 hbsz hS HTOP hl9;gi_wp2;gi_loopw [4,5] (fun iv _ wr=>∃i0:Int,-1≤i0∧i0<m∧iv = .int .i64 i0∧Hid (Lib.IsBuilder 158 5 b b (Lib.byteCells (Lib.decDigits (N/B^(i0+1).toNat))) wr)∧Hid (Below b w wr)) (fun iv _ _=>(intOf iv+1).toNat)
  case atStart=>exact⟨(m:Int)-1,by omega,by omega,by go_num,zHi (by rw [show((m:Int)-1+1).toNat=m by omega];exact HBl3.out),HBW3.out⟩
  case round=>
   obtain⟨i0,hi1,hi2,rfl,HBl,HB⟩:=hrel;clear HBl3 HBW3;by_cases h0:0≤i0
   ·obtain⟨j,rfl⟩:∃j:Nat,i0=(j:Int):=⟨i0.toNat,by omega⟩;rw [show((j:Int)+1).toNat=j+1 by omega]at HBl;have p1:=(HB.out.cell (p:=a1.add j) (by rw [zac];exact hab)).trans (hH.out j (by omega));obtain⟨lj,hlj⟩:∃l,limb N j=l:=⟨_,rfl⟩;have hlj9:lj<1000000000:=by rw [←hlj];exact zaA N j
    rw [hlj]at p1;have HLJ:=zHi hlj;clear hlj;gi_wp2_with (gi_at_call 114;refine stop ?_)
    refine(zel lj (by omega) wr (HTab2.out wr HB.out)).mono ?_;rintro e w4 ⟨rfl,hb4⟩;have hbr:b≤wr.heap.size:=by have:=HB.out.size;omega
    have HBl4:=zHi (zii HBl.out hb4);have HB4:=zHi (HB.out.trans (hb4.mono hbr));have hbr4:b≤w4.heap.size:=Nat.le_trans hbr hb4.size;obtain⟨S,hS⟩:∃S:ByteArray,(⟨(Lib.decDigits lj).toArray⟩:ByteArray)=S:=⟨_,rfl⟩;have hSd:S.size=Lib.nDigits lj:=by rw [←hS,zcG,Lib.decDigits_length]
    have hd9:=zlv hlj9;have hd1:=Lib.nDigits_pos lj;have HS:=zHi hS;obtain⟨d,hd⟩:∃d,Lib.nDigits lj=d:=⟨_,rfl⟩;have HD:=zHi hd;rw [hd]at hSd hd9 hd1;obtain⟨d',hdd⟩:∃d',9-d=d':=⟨_,rfl⟩;rw [hS];clear hb4 hS hd HBl HB p1;gi_wp2_with (gi_at_call 115;refine stop ?_)
    unfold Stop;have e9:((9:Int)-(d:Int))=(d':Int):=by omega
    rw [e9];refine(callsIn_wide.2 (Tryz.strings_Repeat ⟨#[48]⟩ d' w4 (by omega) (by show 1*d'≤_;omega))).mono ?_;obtain⟨R,hR⟩:∃R:ByteArray,(⟨(Lib.repeatL (⟨#[48]⟩:ByteArray).data.toList d').toArray⟩:ByteArray)=R:=⟨_,rfl⟩;rintro e w5 ⟨he,hb5⟩;rw [hR]at he;subst he;have HBl5:=zHi (zii HBl4.out hb5);have HB5:=zHi (HB4.out.trans (hb5.mono hbr4));have hbr5:b≤w5.heap.size:=Nat.le_trans hbr4 hb5.size;have hR2:(⟨(List.replicate d' 48).toArray⟩:ByteArray)=R:=by rw [←hR,←repL 48 d']
    have hRd:R.size=d':=by rw [←hR2,zcG,List.length_replicate]
    have HR:=zHi hR2;clear hb5 hR hR2 e9 HBl4 HB4;gi_wp2_with (gi_at_call 113;refine stop ?_)
    refine(callsIn_wide.2 (zdC b b _ (R ++ S) w5 HBl5.out (by
     rw [Lib.byteCells_length,Lib.decDigits_length,ByteArray.size_append,hRd,hSd];have:=zlu (Nat.lt_of_le_of_lt (Nat.div_le_self N (B^(j+1))) HLT.out);omega) hbr5)).mono ?_
    rintro e w6 ⟨rfl,hbl6,hb6⟩;have HBl6:Hid (Lib.IsBuilder 158 5 b b (Lib.byteCells (Lib.decDigits (N/B^j))) w6):=zHi (.inr (by
     have hpos:0<N/B^(j+1):=Nat.lt_of_lt_of_le HPos.out (Nat.div_le_div_left (zag (by omega)) (zar _));rw [zrS hpos,Lib.byteCells_append,HLJ.out,HD.out,hdd];have e:Lib.strCells (R ++ S)=Lib.byteCells (List.replicate d' 48 ++ Lib.decDigits lj):=by
      rw [Lib.strCells_eq,ByteArray.data_append,Array.toList_append,←HR.out,←HS.out]
     rw [e]at hbl6;exact hbl6))
    have HB6:=zHi (HB5.out.trans hb6);clear hbl6 hb6 HBl5 HB5;gi_wp2;refine⟨⟨(j:Int)-1,by omega,by omega,by go_num,zHi (by rw [show((j:Int)-1+1).toNat=j by omega];exact HBl6.out),HB6⟩,by simp [intOf] <;> omega⟩
   ·have hi0:i0 = -1:=by omega
    subst hi0;have hbr:b≤wr.heap.size:=by have:=HB.out.size;omega
    have HBl:Hid (Lib.IsBuilder 158 5 b b (Lib.byteCells (Lib.decDigits N)) wr):=zHi (by
     have:=HBl.out;rw [show((-1:Int)+1).toNat=0 from rfl,Nat.pow_zero,Nat.div_one]at this;exact this)
    gi_wp2_with (gi_at_call 116;refine stop ?_)
    refine(callsIn_wide.2 (Tryz.Builder_String_any b b _ wr HBl.out hbr)).mono ?_;rintro e w6 ⟨rfl,hb6⟩;have HB6:=zHi (HB.out.trans hb6);gi_wp2;all_goals (first|go_returns|go_ret|go_end0)
    exact⟨rfl,by rw [hbs];exact HB6.out⟩
theorem zbV(w:World)(v:Value)(N:Nat)(h:zas w v N)(hN:N<B^100000)(htab:zaY w) :
  CallsIn Fence.wide 0 Tryz.prog 71 #[v] w fun e w'=>e = .returned (.string ⟨(Lib.decDigits N).toArray⟩)∧Below w.heap.size w w':=by
 obtain⟨k,hk,hl⟩:=h;exact zeI w v N k hk hl.form hN htab
def zin(n:Nat):ByteArray:=⟨(Lib.decDigits n).toArray⟩
theorem zhe{z:Int}(h:0≤z):zds z=zin z.natAbs:=by
 unfold zds zin Lib.itoa;rw [if_neg (by omega),show z.toNat=z.natAbs by omega]
theorem zil(a b:List UInt8):(⟨a.toArray⟩:ByteArray) ++ ⟨b.toArray⟩=⟨(a ++ b).toArray⟩:=by
 refine ByteArray.ext ?_;rw [ByteArray.data_append];simp
theorem zkV{z:Int}(h:z<0):(⟨#[45]⟩:ByteArray) ++ zin z.natAbs=zds z:=by
 unfold zds zin Lib.itoa;rw [if_pos h];exact zil [45] _
theorem zdF{n:Nat}(h:n<B^100000):(zin n).size≤900000:=by
 unfold zin;rw [zcG,Lib.decDigits_length];exact zlu h
theorem ziQ{z:Int}(h:z.natAbs<B^100000):(zds z).size≤900001:=by
 by_cases h0:z<0
 ·rw [←zkV h0,ByteArray.size_append];have:=zdF h;show 1+_≤_
  omega
 ·rw [zhe (by omega)];have:=zdF h;omega
theorem zkW{q:Rat}(h:q.den=1):zgX q=zds q.num:=by unfold zgX;rw [if_pos h]
theorem ziR{q:Rat}(h:q.den≠1):zds q.num ++ ⟨#[47]⟩ ++ zin q.den=zgX q:=by
 unfold zgX zds zin;rw [if_neg h];have e1:=zil (Lib.itoa q.num) [47];have e2:=zil (Lib.itoa q.num ++ [47]) (Lib.decDigits q.den);rw [show(⟨#[47]⟩:ByteArray)=⟨[47].toArray⟩from rfl,e1,e2,List.append_assoc];rfl
theorem zmD(w:World)(v:Value)(q:Rat)(h:zau w v q)(hq:zan q 100000)(htab:zaY w) :
  CallsIn Fence.wide 0 Tryz.prog 15 #[v] w fun e w'=>e = .returned (.tuple #[.string (zds q.num),.string (zin q.den)])∧Below w.heap.size w w':=by
 have HR:=zHi h;obtain⟨vn,vd,rfl,hn,hd⟩:=h;have HN:=zHi hn;obtain⟨sg,hsg⟩:∃sg,decide (q.num<0)=sg:=⟨_,rfl⟩;have HSG:=zHi hsg;obtain⟨o1,k1,c1,rfl,_,_⟩:=zaI hn;obtain⟨o2,k2,c2,rfl,_,_⟩:=zaI hd;rw [hsg]at HR;rw [hsg];obtain⟨W1,hW1⟩:∃W,W=w.alloc (.cells #[.bool sg,.slice o1 k1 c1,.slice o2 k2 c2] 25):=⟨_,rfl⟩;have HX1:Hid (Box3 W1 w.heap.size (.bool sg) (.slice o1 k1 c1) (.slice o2 k2 c2)):=zHi (by rw [hW1];exact zbu _ _ _ _ _);have HB1:Hid (Below w.heap.size w W1):=zHi (by rw [hW1];exact zaa _ _);have HP:=zHi hq;have HTab:=zHi htab;clear hn hd hsg hq htab;refine callsIn_of_wp Tryz.func15 rfl trivial ?_ rfl;simp only [Tryz.ntmps15,ztH,ztI,ztJ,Nat.reduceAdd,Nat.reduceSub,ztK,ztL,ztM,ztN,ztO,ztP];gi_wp2_with (gi_at_call 71;refine stop ?_)
 unfold Stop;rw [←hW1];obtain⟨g,hg⟩:∃g,w.heap.size=g:=⟨_,rfl⟩;rw [hg]at HX1;rw [hg];clear hW1;refine(zbV W1 _ _ (HN.out.below HB1.out) HP.out.1 (HTab.out.below HB1.out)).mono ?_;rintro e w2 ⟨rfl,hb2⟩;have HX2:=zHi (HX1.out.below hb2);have HB2:=zBt HB1 hb2;have y0:=HX2.out.c0;have y1:=HX2.out.c1;have y2:=HX2.out.c2;have HR2:=zHi (HR.out.below HB2.out);obtain⟨S,hS⟩:∃S:ByteArray,(⟨(Lib.decDigits q.num.natAbs).toArray⟩:ByteArray)=S:=⟨_,rfl⟩;rw [hS];have HS:=zHi hS;have hSsz:S.size≤900000:=by rw [←hS];exact zdF HP.out.1
 clear hb2 HX1 HB1 hS
 cases sg with
 | true=>
  have HT:Hid ((⟨#[45]⟩:ByteArray) ++ S=zds q.num):=zHi (by rw [←HS.out];exact zkV (of_decide_eq_true HSG.out));gi_wp2_with (gi_at_call 64;refine stop ?_)
  refine(za4 w2 _ q HR2.out).mono ?_;rintro e w3 ⟨v3,rfl,hm3,hb3⟩;have HM3:=zHi hm3;have HB3:=zBt HB2 hb3;clear hm3 hb3 HR2 HX2 HB2 y0 y1 y2;gi_wp2_with (gi_at_call 71;refine stop ?_)
  refine(zbV w3 _ _ HM3.out HP.out.2 (HTab.out.below HB3.out)).mono ?_;rintro e w4 ⟨rfl,hb4⟩;have HB4:=zBt HB3 hb4;rw [HT.out];clear hb4 HB3;gi_wp2;all_goals (first|go_returns|go_ret2|go_ret|go_end0)
  exact⟨rfl,HB4.out⟩
 | false=>
  have HT:Hid (S=zds q.num):=zHi (by rw [←HS.out];exact(zhe (by have:=of_decide_eq_false HSG.out;omega)).symm);gi_wp2_with (gi_at_call 64;refine stop ?_)
  refine(za4 w2 _ q HR2.out).mono ?_;rintro e w3 ⟨v3,rfl,hm3,hb3⟩;have HM3:=zHi hm3;have HB3:=zBt HB2 hb3;clear hm3 hb3 HR2 HX2 HB2 y0 y1 y2;gi_wp2_with (gi_at_call 71;refine stop ?_)
  refine(zbV w3 _ _ HM3.out HP.out.2 (HTab.out.below HB3.out)).mono ?_;rintro e w4 ⟨rfl,hb4⟩;have HB4:=zBt HB3 hb4;rw [HT.out];clear hb4 HB3;gi_wp2;all_goals (first|go_returns|go_ret2|go_ret|go_end0)
  exact⟨rfl,HB4.out⟩
theorem zk0(w:World)(v:Value)(q:Rat)(h:zau w v q)(hq:zan q 100000)(htab:zaY w) :
  CallsIn Fence.wide 0 Tryz.prog 13 #[v] w fun e w'=>e = .returned (.string (zgX q))∧Below w.heap.size w w':=by
 have HR:=zHi h;obtain⟨vn,vd,rfl,hn,hd⟩:=h;obtain⟨sg,hsg⟩:∃sg,decide (q.num<0)=sg:=⟨_,rfl⟩;obtain⟨o1,k1,c1,rfl,_,_⟩:=zaI hn;obtain⟨o2,k2,c2,rfl,hk2,_⟩:=zaI hd;have HK2:=zHi hk2;rw [hsg]at HR;rw [hsg];obtain⟨W1,hW1⟩:∃W,W=w.alloc (.cells #[.bool sg,.slice o1 k1 c1,.slice o2 k2 c2] 25):=⟨_,rfl⟩;have HX1:Hid (Box3 W1 w.heap.size (.bool sg) (.slice o1 k1 c1) (.slice o2 k2 c2)):=zHi (by rw [hW1];exact zbu _ _ _ _ _);have HB1:Hid (Below w.heap.size w W1):=zHi (by rw [hW1];exact zaa _ _);have HP:=zHi hq;have HTab:=zHi htab;clear hn hd hsg hq htab hk2;refine callsIn_of_wp Tryz.func13 rfl trivial ?_ rfl;simp only [Tryz.ntmps13,ztH,ztI,ztJ,Nat.reduceAdd,Nat.reduceSub,ztK,ztL,ztM,ztN,ztO,ztP];gi_wp2_with (gi_at_call 15;refine stop ?_)
 unfold Stop;rw [←hW1];obtain⟨g,hg⟩:∃g,w.heap.size=g:=⟨_,rfl⟩;rw [hg]at HX1;rw [hg];clear hW1;refine(zmD W1 _ q (HR.out.below HB1.out) HP.out (HTab.out.below HB1.out)).mono ?_;rintro e w2 ⟨rfl,hb2⟩;have HX2:=zHi (HX1.out.below hb2);have HB2:=zBt HB1 hb2;have y0:=HX2.out.c0;have y1:=HX2.out.c1;have y2:=HX2.out.c2;clear hb2 HX1 HB1;obtain⟨Z,hZ⟩:∃Z,zds q.num=Z:=⟨_,rfl⟩;obtain⟨D,hD⟩:∃D,zin q.den=D:=⟨_,rfl⟩;have hZsz:Z.size≤900001:=by rw [←hZ];exact ziQ HP.out.1
 have hDsz:D.size≤900000:=by rw [←hD];exact zdF HP.out.2
 have hZ47:(Z ++ ⟨#[47]⟩:ByteArray).size=Z.size+1:=by rw [ByteArray.size_append];rfl
 rw [hZ,hD];by_cases h1:q.den=1
 ·have hk0:k2=0:=HK2.out.2 (by rw [if_pos h1]);subst hk0;have HT:=zHi (zkW h1);rw [hZ]at HT;clear hZ hD;gi_wp2;all_goals (first|go_returns|go_ret2|go_ret|go_end0)
  exact⟨by rw [HT.out];rfl,HB2.out⟩
 ·have hk0:((k2:Int) == 0)=false:=beq_false_of_ne (by
   intro h;have:=HK2.out.1 (by omega);rw [if_neg h1]at this;exact q.den_nz this)
  have HT:=zHi (ziR h1);rw [hZ,hD]at HT;clear hZ hD;gi_wp2;all_goals (first|go_returns|go_ret2|go_ret|go_end0)
  exact⟨by rw [←HT.out];rfl,HB2.out⟩
end Go.Num
