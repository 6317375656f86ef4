/-
  An integer of the machine as a fraction of the program. An integer of the machine as one of the reference, and as a fraction of the program.
  Conditions: see each statement.
-/
import Derived.Test.YtepakfjilnpodaaGreatDoorRBAK
import Derived.Test.YtepakfjilnpodaaGreatDoorRBAA
import Derived.Laws.BytesArg
set_option maxRecDepth 100000
set_option maxHeartbeats 8000000
namespace Go.Num
open Go.RowKit Go.Proofs Go.Proofs.YtepakfjilnpodaaGreatDoor Go.Eng
def zdg(z:Int):ByteArray:=⟨(Lib.itoa z).toArray⟩
def zf5(q:Rat):ByteArray:=if q.den=1 then zdg q.num else⟨(Lib.itoa q.num ++ 47 :: Lib.decDigits q.den).toArray⟩
theorem Elem.kept{w w':World}{b:Nat}{e:TypeId}{res:List TypeId}(h:Elem w b e)(hk:Kept res w w')(he:res.contains e=true):w'.heap[b]? = w.heap[b]?:=by
 obtain⟨cs,fz,h⟩:=h;rw [h,hk _ _ _ _ h he]
theorem NatI.kept{w w':World}{v:Value}{n:Nat}{res:List TypeId}(h:NatI w v n)(hk:Kept res w w')(he:res.contains 3=true):NatI w' v n:=by
 obtain⟨k,hk',hl⟩:=h;refine⟨k,hk',?_⟩;rcases hl with h|⟨a,cap,h1,h2,h3,h4,h5,h6⟩
 ·exact .inl h
 ·have hb:=h5.kept hk he;exact .inr ⟨a,cap,h1,h2,h3,h4,h5.of_block hb,fun i hi=>(World.cell?_of_block (by rw [zaf];exact hb)).trans (h6 i hi)⟩
theorem zaq.kept{w w':World}{v:Value}{n:Nat}{res:List TypeId}(h:zaq w v n)(hk:Kept res w w')(he:res.contains 116=true):zaq w' v n:=by
 obtain⟨k,hk',hl⟩:=h;refine⟨k,hk',?_⟩;rcases hl with h|⟨a,cap,h1,h2,h3,h4,h5,h6⟩
 ·exact .inl h
 ·have hb:=h5.kept hk he;exact .inr ⟨a,cap,h1,h2,h3,h4,h5.of_block hb,fun i hi=>(World.cell?_of_block (by rw [zaf];exact hb)).trans (h6 i hi)⟩
theorem NatI.oneCell{w:World}{v:Value}{n:Nat}(h:NatI w v n):v.oneCell'=true:=by
 obtain⟨k,_,hl⟩:=h;obtain⟨o,c,rfl,_⟩:=hl.form;rfl
theorem zaq.oneCell{w:World}{v:Value}{n:Nat}(h:zaq w v n):v.oneCell'=true:=by
 obtain⟨k,_,hl⟩:=h;obtain⟨o,c,rfl,_⟩:=hl.form;rfl
def clsN:Tg→Sh
 | .un 105 _ => .str
 | .un 106 _ => .str
 | _ => .one
def iN(E:Env)(t:Tg)(v:Value)(w:World):Prop:=
 match t with
 | .un 100 e=>NatI w v (evN E e)
 | .un 103 e=>zaq w v (evN E e)
 | .un 107 e=>v = .bool (decide (evZ E e<0))
 | .un 109 e=>v = .int .i64 (evZ E e).sign
 | .un 105 e=>v = .string (zf5 (evQ E e))
 | .un 106 e=>v = .string (zdg (evZ E e))
 | .un 104 e=>zaq w v (if(evQ E e).den=1 then 0 else(evQ E e).den)
 | .un 110 e=>v = .int .i64 (evZ E e) ∧ -9223372036854775808≤evZ E e∧evZ E e≤9223372036854775807
 | _=>False
def GN(E:Env):Sett where
 ids:=[]
 res:=[3,116]
 I:=iN E
 stable:=by
  intro t v w w' hk h;unfold iN at h;split at h
  ·exact NatI.kept h hk rfl
  ·exact zaq.kept h hk rfl
  ·exact h
  ·exact h
  ·exact h
  ·exact h
  ·exact zaq.kept h hk rfl
  ·exact h
  ·exact h.elim
theorem zlR(E:Env):zdf (GN E) clsN where
 ok:=by
  intro t v w h;have h:iN E t v w:=h;unfold iN at h;split at h
  ·exact h.oneCell
  ·exact h.oneCell
  ·subst h;rfl
  ·subst h;rfl
  ·subst h;exact⟨_,rfl⟩
  ·subst h;exact⟨_,rfl⟩
  ·exact h.oneCell
  ·rw [h.1];rfl
  ·exact h.elim
 det:=by
  intro t ht v v' w h h';unfold clsN at ht;split at ht
  ·have h:v=_:=h;have h':v'=_:=h';rw [h,h']
  ·have h:v=_:=h;have h':v'=_:=h';rw [h,h']
  ·cases ht
def tgN:AT→Option Tg
 | .tag (.un 100 a)=>some a
 | _=>none
def zc(a:Tg):AT:=.agg (.cons (.tag (.un 107 a)) (.cons (.tag (.un 100 a)) .nil))
def zs(b:Bool)(a:Tg):AT:=.agg (.cons (.val (.sc (.bool b))) (.cons (.tag (.un 100 a)) .nil))
theorem Tg.beq_eq{a:Tg}:∀{b:Tg},a.beq b=true→a=b:=by
 induction a with
 | leaf n=>intro b h;cases b <;> simp [Tg.beq]at h;rw [h]
 | un k a ih=>intro b h;cases b <;> simp [Tg.beq]at h;rw [h.1,ih h.2]
 | bin k a b ih1 ih2=>intro c h;cases c <;> simp [Tg.beq]at h;rw [h.1.1,ih1 h.1.2,ih2 h.2]
variable {E:Env}
theorem zrz(a:AT)(x:Tg)(h:tgN a=some x)(v:Value)(w:World)(hp:zau (GN E) a v w):NatI w v (evN E x):=by
 unfold tgN at h;split at h
 ·cases h;exact hp
 ·cases h
theorem zjI(a:Tg)(v:Value)(w:World):zau (GN E) (zc a) v w↔ZAt w v (evZ E a):=by
 constructor
 ·rintro⟨xs,rfl,x,r,e,h1,y,r2,rfl,h2,h3⟩;have h3:r2 = []:=h3;subst h3;have e':xs=#[x,y]:=Array.toList_inj.1 (by simpa using e);subst e';have h1:x = .bool (decide (evZ E a<0)):=h1;subst h1;exact⟨y,rfl,h2⟩
 ·rintro⟨m,rfl,hm⟩;exact⟨_,rfl,_,_,rfl,rfl,_,_,rfl,hm,rfl⟩
inductive Fact where
 | le (a b:Tg)
 | nz (b:Tg)
 | cmp (a b:Tg) (c:Int)
 | neg (a:Tg) (b:Bool)
def Fact.ok(E:Env):Fact→Prop
 | .le a b=>evN E b≤evN E a
 | .nz b=>evN E b≠0
 | .cmp a b c=>cmpI (evN E a) (evN E b)=c
 | .neg a b=>decide (evZ E a<0)=b
def zrf(F:List Fact)(a b:Tg):Bool:=F.any fun | .le x y=>a.beq x && b.beq y|_=>false
def zpl(F:List Fact)(b:Tg):Bool:=F.any fun | .nz y=>b.beq y|_=>false
def zie(F:List Fact)(a b:Tg):Option Int:=F.findSome? fun | .cmp x y c=>bif a.beq x && b.beq y then some c else none|_=>none
def zdr(E:Env)(F:List Fact):Prop:=∀f∈F,f.ok E
theorem zqg{F:List Fact}(hF:zdr E F){a b:Tg}(h:zrf F a b=true):evN E b≤evN E a:=by
 unfold zrf at h;obtain⟨f,hf,h⟩:=List.any_eq_true.1 h;split at h
 ·simp only [Bool.and_eq_true]at h;rw [Tg.beq_eq h.1,Tg.beq_eq h.2];exact hF _ hf
 ·cases h
theorem zkf{F:List Fact}(hF:zdr E F){b:Tg}(h:zpl F b=true):evN E b≠0:=by
 unfold zpl at h;obtain⟨f,hf,h⟩:=List.any_eq_true.1 h;split at h
 ·rw [Tg.beq_eq h];exact hF _ hf
 ·cases h
theorem znV{F:List Fact}(hF:zdr E F){a b:Tg}{c:Int}(h:zie F a b=some c):cmpI (evN E a) (evN E b)=c:=by
 unfold zie at h;obtain⟨f,hf,h⟩:=List.exists_of_findSome?_eq_some h;split at h
 ·rename_i x y c'
  cases hb:Tg.beq a x && Tg.beq b y with
  | false=>rw [hb]at h;cases h
  | true=>
   rw [hb]at h
   cases h
   simp only [Bool.and_eq_true]at hb;rw [Tg.beq_eq hb.1,Tg.beq_eq hb.2];exact hF _ hf
 ·cases h
def zid(F:List Fact)(a:Tg):Option Bool:=F.findSome? fun | .neg x c=>bif a.beq x then some c else none|_=>none
theorem zjv{F:List Fact}(hF:zdr E F){a:Tg}{c:Bool}(h:zid F a=some c):decide (evZ E a<0)=c:=by
 unfold zid at h;obtain⟨f,hf,h⟩:=List.exists_of_findSome?_eq_some h;split at h
 ·rename_i x c'
  cases hb:Tg.beq a x with
  | false=>rw [hb]at h;cases h
  | true=>
   rw [hb]at h
   cases h
   rw [Tg.beq_eq hb];exact hF _ hf
 ·cases h
def zr(F:List Fact)(a:Tg):AT:=match zid F a with|some b=>zs b a|none=>zc a
def tgZ(F:List Fact):AT→Option Tg
 | .agg (.cons (.tag (.un 107 a)) (.cons (.tag (.un 100 b)) .nil))=>bif a.beq b then some a else none
 | .agg (.cons (.val (.sc (.bool b))) (.cons (.tag (.un 100 a)) .nil))=>match zid F a with|some c=>bif beqB b c then some a else none|none=>none
 | _=>none
theorem zqG{a:Tg}{b:Bool}(hb:decide (evZ E a<0)=b)(v:Value)(w:World):zau (GN E) (zs b a) v w↔ZAt w v (evZ E a):=by
 constructor
 ·rintro⟨xs,rfl,x,r,e,h1,y,r2,rfl,h2,h3⟩;have h3:r2 = []:=h3;subst h3;have e':xs=#[x,y]:=Array.toList_inj.1 (by simpa using e);subst e';have h1:some (Value.bool b)=some x:=h1
  cases h1
  exact⟨y,by rw [hb],h2⟩
 ·rintro⟨m,rfl,hm⟩;exact⟨_,rfl,_,_,rfl,by show some (Value.bool b)=some _;rw [hb],_,_,rfl,hm,rfl⟩
theorem zqS{F:List Fact}(hF:zdr E F)(a:Tg)(v:Value)(w:World):zau (GN E) (zr F a) v w↔ZAt w v (evZ E a):=by
 unfold zr
 cases h:zid F a with
 | none=>exact zjI a v w
 | some b=>exact zqG (zjv hF h) v w
theorem zmF{F:List Fact}(hF:zdr E F)(a:AT)(x:Tg)(h:tgZ F a=some x)(v:Value)(w:World)(hp:zau (GN E) a v w):ZAt w v (evZ E x):=by
 unfold tgZ at h;split at h
 ·rename_i a b
  cases hb:Tg.beq a b with
  | false=>rw [hb]at h;cases h
  | true=>
   rw [hb]at h
   cases h
   have:=Tg.beq_eq hb;subst this;exact(zjI _ v w).1 hp
 ·rename_i b a;split at h
  ·rename_i c hc
   cases hb:beqB b c with
   | false=>rw [hb]at h;cases h
   | true=>
    rw [hb]at h
    cases h
    have:=zmt hb;subst this;exact(zqG (zjv hF hc) v w).1 hp
  ·cases h
 ·cases h
def one(t:Tg):AT:=.cons (.tag t) .nil
def okSz(n:Nat):Bool:=Nat.ble n 10000000
def TN(L:Nat)(F:List Fact):TTab:=
 TTab.or (t2 199 tgN tgN (fun a b=>okSz (sz L a+sz L b)) fun a b=>one (.un 100 (.bin 11 a b))) <|
 TTab.or (t2 201 tgN tgN (fun a b=>okSz (sz L a+sz L b) && zrf F a b) fun a b=>one (.un 100 (.bin 12 a b))) <|
 TTab.or (t2 159 tgN tgN (fun a b=>okSz (sz L a+sz L b)) fun a b=>one (.un 100 (.bin 13 a b))) <|
 TTab.or (t2 196 tgN tgN (fun a b=>okSz (sz L a+sz L b)) fun a b=>one (.un 100 (.bin 14 a b))) <|
 TTab.or (t2 197 tgN tgN (fun a b=>okSz (sz L a+sz L b) && zpl F b) fun a b => .cons (.tag (.un 100 (.bin 15 a b))) (.cons (.tag (.un 100 (.bin 16 a b))) .nil)) <|
 TTab.or (t2 200 tgN tgN (fun a b=>(zie F a b).isSome) fun a b=>match zie F a b with|some c => .cons (.val (.sc (.int .i64 c))) .nil|none => .nil) <|
 fun _ _=>none
theorem sz_N{L:Nat}(hE:zhf L E)(a:Tg){M:Nat}(h:sz L a≤M):evN E a<B^M:=Nat.lt_of_lt_of_le (zps hE a).1 (zah h)
theorem zhS{n:Nat}(h:okSz n=true):n≤10000000:=Nat.le_of_ble_eq_true h
theorem zr7{L:Nat}(hE:zhf L E){F:List Fact}(hF:zdr E F):zcj Tryz.prog (GN E) (TN L F):=by
 have mN:=fun a x h v w hp=>zrz (E:=E) a x h v w hp
 refine zcj.or (zcK ⟨_,Tryz.func199,rfl⟩ _ _ mN mN ?_) <| zcj.or (zcK ⟨_,Tryz.func201,rfl⟩ _ _ mN mN ?_) <| zcj.or (zcK ⟨_,Tryz.func159,rfl⟩ _ _ mN mN ?_) <| zcj.or (zcK ⟨_,Tryz.func196,rfl⟩ _ _ mN mN ?_) <| zcj.or (zcK ⟨_,Tryz.func197,rfl⟩ _ _ mN mN ?_) <| zcj.or (zcK ⟨_,Tryz.func200,rfl⟩ _ _ mN mN ?_) zod
 ·intro a b hc w v u hv hu;have hs:=zhS hc;refine(callsIn_wide.1 (zn6 w v u _ _ (sz L a+sz L b) hv hu (sz_N hE a (by omega)) (sz_N hE b (by omega)) (by omega))).mono ?_;rintro e w' ⟨r,rfl,⟨h1,_⟩,hb⟩;exact⟨r,rfl,h1,hb⟩
 ·intro a b hc w v u hv hu;simp only [Bool.and_eq_true]at hc;have hs:=zhS hc.1;refine(callsIn_wide.1 (zi8 w v u _ _ (sz L a+sz L b) hv hu (zqg hF hc.2) (sz_N hE a (by omega)) (by omega))).mono ?_;rintro e w' ⟨r,rfl,⟨h1,_⟩,hb⟩;exact⟨r,rfl,h1,hb⟩
 ·intro a b hc w v u hv hu;have hs:=zhS hc;refine(callsIn_wide.1 (znO w v u _ _ (sz L a+sz L b) hv hu (sz_N hE a (by omega)) (sz_N hE b (by omega)) (by omega))).mono ?_;rintro e w' ⟨r,rfl,⟨h1,_⟩,hb⟩;exact⟨r,rfl,h1,hb⟩
 ·intro a b hc w v u hv hu;have hs:=zhS hc;refine(callsIn_wide.1 (znT w v u _ _ (sz L a+sz L b) hv hu (sz_N hE a (by omega)) (sz_N hE b (by omega)) (by omega))).mono ?_;rintro e w' ⟨r,rfl,h1,hb⟩;exact⟨r,rfl,h1,hb⟩
 ·intro a b hc w v u hv hu;simp only [Bool.and_eq_true]at hc;have hs:=zhS hc.1;have hz:=zkf hF hc.2;refine(callsIn_wide.1 (zjw w v u _ _ (sz L a+sz L b) hv hu (by omega) (sz_N hE a (by omega)) (sz_N hE b (by omega)) (by omega))).mono ?_;rintro e w' ⟨q,r,rfl,h1,h2,hb⟩;exact⟨_,rfl,⟨_,rfl,q,[r],rfl,h1,r,[],rfl,h2,rfl⟩,hb⟩
 ·intro a b hc w v u hv hu;refine(callsIn_wide.1 (zjy w v u _ _ hv hu)).mono ?_;rintro e w' ⟨rfl,hb⟩;refine⟨_,rfl,?_,hb⟩
  cases hf:zie F a b with
  | none=>rw [hf]at hc;cases hc
  | some c=>
   rw [znV hF hf];exact rfl
variable {E:Env}
def sc20(b:Bool):Nat:=match b with|true=>21|false=>20
def tInt:TTab:=fun f ts=>
 bif Nat.beq f 94 then
  match ts with
  | .cons (.val (.sc (.bool b))) (.cons (.tag (.un 100 a)) .nil)=>some (.cons (zc (.un (sc20 b) a)) .nil)
  | _=>none
 else none
theorem zpT:zcj Tryz.prog (GN E) tInt:=by
 intro f ts rs q;unfold tInt at q
 cases hf:Nat.beq f 94 with
 | false=>rw [hf]at q;cases q
 | true=>
  rw [hf]at q;have hf:=(zal _ _).1 hf;subst hf;refine⟨⟨_,Tryz.func94,rfl⟩,fun w xs hx => ?_⟩;simp only [cond_true]at q;split at q
  ·rename_i b a
   cases q
   obtain⟨v,r,e,h1,u,r2,e2,h3,h4⟩:=hx;subst e2;have h4:r2 = []:=h4;subst h4;have e':xs=#[v,u]:=Array.toList_inj.1 (by simpa using e);subst e';have h1:some (Value.bool b)=some v:=h1
   cases h1
   refine(callsIn_wide.1 (zd6 w b u _ h3)).mono ?_;rintro e w' ⟨v',rfl,hz,hb⟩;refine⟨v',rfl,?_,hb⟩;have:=(zjI (E:=E) (.un (sc20 b) a) v' w').2 (by cases b <;> exact hz);exact this
  ·cases q
def zqV(F:List Fact):TTab:=t1 98 (tgZ F) (fun _=>true) fun a=>one (.un 109 a)
theorem zkz{F:List Fact}(hF:zdr E F):zcj Tryz.prog (GN E) (zqV F):=by
 refine zoc ⟨_,Tryz.func98,rfl⟩ _ (fun a x h v w hp=>zmF hF a x h v w hp) ?_;intro x _ w v hv;refine(callsIn_wide.1 (zlD w v _ hv)).mono ?_;rintro e w' ⟨rfl,hb⟩;exact⟨_,rfl,rfl,hb⟩
def TZ0(F:List Fact):TTab:=TTab.or (TN 100000 F) (TTab.or tInt (zqV F))
theorem zoe(hE:zhf 100000 E){F:List Fact}(hF:zdr E F):zcj Tryz.prog (GN E) (TZ0 F):=.or (zr7 hE hF) (.or zpT (zkz hF))
theorem zn8{w:World}{v:Value}{z:Int}(h:ZAt w v z){b:Bool}(hb:decide (z<0)=b){k:Nat}(hz:E.z k=z):zau (GN E) (zs b (.leaf k)) v w:=by
 obtain⟨m,rfl,hm⟩:=h;rw [hb];refine⟨_,rfl,_,_,rfl,rfl,m,[],rfl,?_,rfl⟩;show NatI w m (E.z k).natAbs
 rw [hz];exact hm
theorem zdv{w:World}{v:Value}{z:Int}(h:ZAt w v z){k:Nat}(hz:E.z k=z):zau (GN E) (zc (.leaf k)) v w:=(zjI _ v w).2 (by
 show ZAt w v (E.z k)
 rw [hz];exact h)
def envZ(x y:Int):Env:=⟨fun k=>if k=0 then x else y,fun _=>0⟩
theorem zmj{x y:Int}(hx:x.natAbs<B^100000)(hy:y.natAbs<B^100000):zhf 100000 (envZ x y):=⟨by omega,fun k=>⟨by
 show(if k=0 then x else y).natAbs<_
 split <;> assumption,zcd (by omega)⟩⟩
theorem zbH:zdr E []:=fun _ h=>by cases h
theorem zmY{t:AT}{x:Value}{w:World}{G:Sett}(h:zbP G (.cons t .nil) x w):zau G t x w:=h
theorem znw(w:World)(v:Value)(z:Int)(h:ZAt w v z)(hz:z.natAbs<B^100000) :
  CallsIn Fence.wide 0 Tryz.prog 158 #[v] w fun e w'=>∃v',e = .returned v'∧ZAt w' v' (-z)∧Below w.heap.size w w':=by
 refine callsIn_wide.2 ?_;have hT:=zoe (zmj hz hz) (zbH (E:=envZ z z))
 cases hb:decide (z<0)with
 | true=>
  have hr:runF Tryz.prog clsN (TZ0 []) [3,116] [] 50 158 (.cons (zs true (.leaf 0)) .nil)=some (.cons (zc (.un 20 (.leaf 0))) .nil):=by kernel_rfl
  refine(zhG zak zac (zlR _) rfl hT (by simp) hr ⟨v,[],rfl,zn8 h hb rfl,rfl⟩).mono ?_;rintro e w' ⟨x,rfl,hp,hB⟩;refine⟨x,rfl,?_,hB⟩;have:=(zjI _ x w').1 (zmY hp);have hlt:=of_decide_eq_true hb;have e:evZ (envZ z z) (.un 20 (.leaf 0)) = -z:=by show sgn false z.natAbs = -z;unfold sgn;simp;omega
  rw [e]at this;exact this
 | false=>
  have hr:runF Tryz.prog clsN (TZ0 []) [3,116] [] 50 158 (.cons (zs false (.leaf 0)) .nil)=some (.cons (zc (.un 21 (.leaf 0))) .nil):=by kernel_rfl
  refine(zhG zak zac (zlR _) rfl hT (by simp) hr ⟨v,[],rfl,zn8 h hb rfl,rfl⟩).mono ?_;rintro e w' ⟨x,rfl,hp,hB⟩;refine⟨x,rfl,?_,hB⟩;have:=(zjI _ x w').1 (zmY hp);have hlt:=of_decide_eq_false hb;have e:evZ (envZ z z) (.un 21 (.leaf 0)) = -z:=by show sgn true z.natAbs = -z;unfold sgn;simp;omega
  rw [e]at this;exact this
theorem runZ{T:TTab}(hT:zcj Tryz.prog (GN E) T){n:Nat}{f:FuncId}{ts r:AT}(hr:runF Tryz.prog clsN T [3,116] [] n f ts=some (.cons r .nil)){w:World}{xs:Array Value}(hx:zbq (GN E) ts xs.toList w) :
  CallsIn Fence.wide 0 Tryz.prog f xs w fun e w'=>∃v',e = .returned v'∧zau (GN E) r v' w'∧Below w.heap.size w w':=by
 refine callsIn_wide.2 ((zhG zak zac (zlR _) rfl hT (by simp) hr hx).mono ?_);rintro e w' ⟨x,rfl,hp,hB⟩;exact⟨x,rfl,hp,hB⟩
abbrev l0:Tg:=.leaf 0
abbrev l1:Tg:=.leaf 1
theorem zfu{x y z:Int}(hx:x.natAbs<B^100000)(hy:y.natAbs<B^100000){w:World}{u v:Value}(hu:ZAt w u x)(hv:ZAt w v y){F:List Fact}(hF:zdr (envZ x y) F){n:Nat}{f:FuncId}{bx by':Bool}(hbx:decide (x<0)=bx)(hby:decide (y<0)=by'){r:Tg}
  (hr:runF Tryz.prog clsN (TZ0 F) [3,116] [] n f (.cons (zs bx l0) (.cons (zs by' l1) .nil))=some (.cons (zc r) .nil)) (he:evZ (envZ x y) r=z) :
  CallsIn Fence.wide 0 Tryz.prog f #[u,v] w fun e w'=>∃v',e = .returned v'∧ZAt w' v' z∧Below w.heap.size w w':=by
 refine(runZ (zoe (zmj hx hy) hF) hr (xs:=#[u,v]) ⟨u,[v],rfl,zn8 hu hbx rfl,v,[],rfl,zn8 hv hby rfl,rfl⟩).mono ?_;rintro e w' ⟨v',rfl,hp,hB⟩;refine⟨v',rfl,?_,hB⟩;rw [←he];exact(zjI _ v' w').1 hp
theorem zny(w:World)(u v:Value)(x y:Int)(hu:ZAt w u x)(hv:ZAt w v y)(hx:x.natAbs<B^100000)(hy:y.natAbs<B^100000) :
  CallsIn Fence.wide 0 Tryz.prog 160 #[u,v] w fun e w'=>∃v',e = .returned v'∧ZAt w' v' (x+y)∧Below w.heap.size w w':=by
 cases hbx:decide (x<0) <;> cases hby:decide (y<0)
 ·have h1:=of_decide_eq_false hbx;have h2:=of_decide_eq_false hby;exact zfu hx hy hu hv zbH (n:=50) (r:=.un 20 (.bin 11 l0 l1)) hbx hby (by kernel_rfl) (by show sgn false ((x.natAbs+y.natAbs:Nat):Int).natAbs=x+y;unfold sgn;simp;omega)
 ·have h1:=of_decide_eq_false hbx;have h2:=of_decide_eq_true hby;by_cases hc:y.natAbs≤x.natAbs
  ·have hF:∀c,cmpI x.natAbs y.natAbs=c→zdr (envZ x y) [.cmp l0 l1 c,.le l0 l1]:=by
    intro c hc' f hf;rcases List.mem_cons.1 hf with rfl|hf
    ·exact hc'
    ·rcases List.mem_cons.1 hf with rfl|hf
     ·exact hc
     ·cases hf
   have he:evZ (envZ x y) (.un 20 (.bin 12 l0 l1))=x+y:=by show sgn false ((x.natAbs-y.natAbs:Nat):Int).natAbs=x+y;unfold sgn;simp;omega
   rcases Nat.lt_or_ge y.natAbs x.natAbs with hlt|hge
   ·exact zfu hx hy hu hv (hF 1 (zki hlt)) (n:=50) hbx hby (by kernel_rfl) he
   ·exact zfu hx hy hu hv (hF 0 (by rw [show x.natAbs=y.natAbs by omega];exact zmp)) (n:=50) hbx hby (by kernel_rfl) he
  ·have hF:zdr (envZ x y) [.cmp l0 l1 (-1),.le l1 l0]:=by
    intro f hf;rcases List.mem_cons.1 hf with rfl|hf
    ·exact zis (by show x.natAbs<y.natAbs;omega)
    ·rcases List.mem_cons.1 hf with rfl|hf
     ·show x.natAbs≤y.natAbs;omega
     ·cases hf
   exact zfu hx hy hu hv hF (n:=50) (r:=.un 21 (.bin 12 l1 l0)) hbx hby (by kernel_rfl) (by show sgn true ((y.natAbs-x.natAbs:Nat):Int).natAbs=x+y;unfold sgn;simp;omega)
 ·have h1:=of_decide_eq_true hbx;have h2:=of_decide_eq_false hby;by_cases hc:y.natAbs≤x.natAbs
  ·have hF:∀c,cmpI x.natAbs y.natAbs=c→zdr (envZ x y) [.cmp l0 l1 c,.le l0 l1]:=by
    intro c hc' f hf;rcases List.mem_cons.1 hf with rfl|hf
    ·exact hc'
    ·rcases List.mem_cons.1 hf with rfl|hf
     ·exact hc
     ·cases hf
   have he:evZ (envZ x y) (.un 21 (.bin 12 l0 l1))=x+y:=by show sgn true ((x.natAbs-y.natAbs:Nat):Int).natAbs=x+y;unfold sgn;simp;omega
   rcases Nat.lt_or_ge y.natAbs x.natAbs with hlt|hge
   ·exact zfu hx hy hu hv (hF 1 (zki hlt)) (n:=50) hbx hby (by kernel_rfl) he
   ·exact zfu hx hy hu hv (hF 0 (by rw [show x.natAbs=y.natAbs by omega];exact zmp)) (n:=50) hbx hby (by kernel_rfl) he
  ·have hF:zdr (envZ x y) [.cmp l0 l1 (-1),.le l1 l0]:=by
    intro f hf;rcases List.mem_cons.1 hf with rfl|hf
    ·exact zis (by show x.natAbs<y.natAbs;omega)
    ·rcases List.mem_cons.1 hf with rfl|hf
     ·show x.natAbs≤y.natAbs;omega
     ·cases hf
   exact zfu hx hy hu hv hF (n:=50) (r:=.un 20 (.bin 12 l1 l0)) hbx hby (by kernel_rfl) (by show sgn false ((y.natAbs-x.natAbs:Nat):Int).natAbs=x+y;unfold sgn;simp;omega)
 ·have h1:=of_decide_eq_true hbx;have h2:=of_decide_eq_true hby;exact zfu hx hy hu hv zbH (n:=50) (r:=.un 21 (.bin 11 l0 l1)) hbx hby (by kernel_rfl) (by show sgn true ((x.natAbs+y.natAbs:Nat):Int).natAbs=x+y;unfold sgn;simp;omega)
theorem znx(w:World)(u v:Value)(x y:Int)(hu:ZAt w u x)(hv:ZAt w v y)(hx:x.natAbs<B^100000)(hy:y.natAbs<B^100000) :
  CallsIn Fence.wide 0 Tryz.prog 93 #[u,v] w fun e w'=>∃v',e = .returned v'∧ZAt w' v' (x*y)∧Below w.heap.size w w':=by
 have hp:=zbw;have hsx:∀b,decide (x<0)=b→sgn b x.natAbs=x:=fun b hb=>by subst hb;unfold sgn;simp;omega
 have hsy:∀b,decide (y<0)=b→sgn b y.natAbs=y:=fun b hb=>by subst hb;unfold sgn;simp;omega
 cases hbx:decide (x<0) <;> cases hby:decide (y<0)
 ·exact zfu hx hy hu hv zbH (n:=50) (r:=.un 20 (.bin 13 l0 l1)) hbx hby (by kernel_rfl) (by show sgn false ((x.natAbs*y.natAbs:Nat):Int).natAbs=x*y;rw [Int.natAbs_natCast,←hsx _ hbx,←hsy _ hby,zhE,zbw,zbw];rfl)
 ·exact zfu hx hy hu hv zbH (n:=50) (r:=.un 21 (.bin 13 l0 l1)) hbx hby (by kernel_rfl) (by show sgn true ((x.natAbs*y.natAbs:Nat):Int).natAbs=x*y;rw [Int.natAbs_natCast,←hsx _ hbx,←hsy _ hby,zhE,zbw,zbw];rfl)
 ·exact zfu hx hy hu hv zbH (n:=50) (r:=.un 21 (.bin 13 l0 l1)) hbx hby (by kernel_rfl) (by show sgn true ((x.natAbs*y.natAbs:Nat):Int).natAbs=x*y;rw [Int.natAbs_natCast,←hsx _ hbx,←hsy _ hby,zhE,zbw,zbw];rfl)
 ·exact zfu hx hy hu hv zbH (n:=50) (r:=.un 20 (.bin 13 l0 l1)) hbx hby (by kernel_rfl) (by show sgn false ((x.natAbs*y.natAbs:Nat):Int).natAbs=x*y;rw [Int.natAbs_natCast,←hsx _ hbx,←hsy _ hby,zhE,zbw,zbw];rfl)
theorem znv(w:World)(u v:Value)(x y:Int)(hu:ZAt w u x)(hv:ZAt w v y)(hx:x.natAbs<B^100000)(hy:y.natAbs<B^100000)(hy0:y.natAbs≠0) :
  CallsIn Fence.wide 0 Tryz.prog 157 #[u,v] w fun e w'=>∃v',e = .returned v'∧ZAt w' v' (sgn (decide (x<0) != decide (y<0)) (x.natAbs/y.natAbs))∧Below w.heap.size w w':=by
 have hF:zdr (envZ x y) [.nz l1]:=by
  intro f hf;rcases List.mem_cons.1 hf with rfl|hf
  ·exact hy0
  ·cases hf
 cases hbx:decide (x<0) <;> cases hby:decide (y<0)
 ·exact zfu hx hy hu hv hF (n:=50) (r:=.un 20 (.bin 15 l0 l1)) hbx hby (by kernel_rfl) rfl
 ·exact zfu hx hy hu hv hF (n:=50) (r:=.un 21 (.bin 15 l0 l1)) hbx hby (by kernel_rfl) rfl
 ·exact zfu hx hy hu hv hF (n:=50) (r:=.un 21 (.bin 15 l0 l1)) hbx hby (by kernel_rfl) rfl
 ·exact zfu hx hy hu hv hF (n:=50) (r:=.un 20 (.bin 15 l0 l1)) hbx hby (by kernel_rfl) rfl
theorem zgv(w:World)(u v:Value)(x y:Int)(hu:ZAt w u x)(hv:ZAt w v y)(hx:x.natAbs<B^100000)(hy:y.natAbs<B^100000) :
  CallsIn Fence.wide 0 Tryz.prog 156 #[u,v] w fun e w'=>∃v',e = .returned v'∧ZAt w' v' ((Nat.gcd x.natAbs y.natAbs:Nat):Int)∧Below w.heap.size w w':=by
 refine(runZ (zoe (zmj hx hy) zbH) (n:=50) (r:=zc (.un 20 (.bin 14 l0 l1))) (ts:=.cons (zc l0) (.cons (zc l1) .nil)) (by kernel_rfl) (xs:=#[u,v]) ⟨u,[v],rfl,zdv hu rfl,v,[],rfl,zdv hv rfl,rfl⟩).mono ?_;rintro e w' ⟨v',rfl,hp,hB⟩;exact⟨v',rfl,(zjI _ v' w').1 hp,hB⟩
def okZ(n:Nat):Bool:=Nat.ble n 100000
def TZ(L:Nat)(F:List Fact):TTab:=
 TTab.or (t1 158 (tgZ F) (fun a=>okZ (sz L a)) fun a => .cons (zr F (.un 1 a)) .nil) <|
 TTab.or (t2 160 (tgZ F) (tgZ F) (fun a b=>okZ (sz L a) && okZ (sz L b)) fun a b => .cons (zr F (.bin 1 a b)) .nil) <|
 TTab.or (t2 93 (tgZ F) (tgZ F) (fun a b=>okZ (sz L a) && okZ (sz L b)) fun a b => .cons (zr F (.bin 3 a b)) .nil) <|
 TTab.or (t2 157 (tgZ F) (tgZ F) (fun a b=>okZ (sz L a) && okZ (sz L b) && zpl F b) fun a b => .cons (zr F (.bin 17 a b)) .nil) <|
 TTab.or (t2 156 (tgZ F) (tgZ F) (fun a b=>okZ (sz L a) && okZ (sz L b)) fun a b => .cons (zr F (.bin 14 a b)) .nil) <|
 zqV F
theorem zgk{L:Nat}(hE:zhf L E){a:Tg}(h:okZ (sz L a)=true):(evZ E a).natAbs<B^100000:=zaY 100000 (zps hE a).1 (Nat.le_of_ble_eq_true h)
theorem zry{L:Nat}(hE:zhf L E){F:List Fact}(hF:zdr E F):zcj Tryz.prog (GN E) (TZ L F):=by
 have mZ:=fun a x h v w hp=>zmF (E:=E) hF a x h v w hp
 have fin:∀{w:World} {z:Tg},(fun (e:Ending) (w':World)=>∃v',e = .returned v'∧ZAt w' v' (evZ E z)∧Below w.heap.size w w')=fun e w'=>∃v',e = .returned v'∧zbP (GN E) (.cons (zr F z) .nil) v' w'∧Below w.heap.size w w':=by
  intro w z
  funext e w'
  apply propext
  constructor
  ·rintro⟨v',h1,h2,h3⟩;exact⟨v',h1,(zqS hF z v' w').2 h2,h3⟩
  ·rintro⟨v',h1,h2,h3⟩;exact⟨v',h1,(zqS hF z v' w').1 h2,h3⟩
 refine zcj.or (zoc ⟨_,Tryz.func158,rfl⟩ _ mZ ?_) <| zcj.or (zcK ⟨_,Tryz.func160,rfl⟩ _ _ mZ mZ ?_) <| zcj.or (zcK ⟨_,Tryz.func93,rfl⟩ _ _ mZ mZ ?_) <| zcj.or (zcK ⟨_,Tryz.func157,rfl⟩ _ _ mZ mZ ?_) <| zcj.or (zcK ⟨_,Tryz.func156,rfl⟩ _ _ mZ mZ ?_) (zkz hF)
 ·intro a hc w v hv;rw [←fin];exact callsIn_wide.1 (znw w v _ hv (zgk hE hc))
 ·intro a b hc w v u hv hu;simp only [Bool.and_eq_true]at hc;rw [←fin];exact callsIn_wide.1 (zny w v u _ _ hv hu (zgk hE hc.1) (zgk hE hc.2))
 ·intro a b hc w v u hv hu;simp only [Bool.and_eq_true]at hc;rw [←fin];exact callsIn_wide.1 (znx w v u _ _ hv hu (zgk hE hc.1) (zgk hE hc.2))
 ·intro a b hc w v u hv hu;simp only [Bool.and_eq_true]at hc;rw [←fin];exact callsIn_wide.1 (znv w v u _ _ hv hu (zgk hE hc.1.1) (zgk hE hc.1.2) (zkf hF hc.2))
 ·intro a b hc w v u hv hu;simp only [Bool.and_eq_true]at hc;rw [←fin];exact callsIn_wide.1 (zgv w v u _ _ hv hu (zgk hE hc.1) (zgk hE hc.2))
theorem zhm{L:Nat}(hL:0<L){x y:Int}(hx:x.natAbs<B^L)(hy:y.natAbs<B^L):zhf L (envZ x y):=⟨hL,fun k=>⟨by
 show(if k=0 then x else y).natAbs<_
 split <;> assumption,zcd hL⟩⟩
theorem znu(w:World)(u v:Value)(x y:Int)(hu:ZAt w u x)(hv:ZAt w v y)(hx:x.natAbs<B^50000)(hy:y.natAbs<B^50000) :
  CallsIn Fence.wide 0 Tryz.prog 152 #[u,v] w fun e w'=>∃v',e = .returned v'∧ZAt w' v' (x-y)∧Below w.heap.size w w':=by
 refine(runZ (zry (L:=50000) (zhm (by omega) hx hy) zbH) (n:=50) (r:=zc (.bin 1 l0 (.un 1 l1))) (ts:=.cons (zc l0) (.cons (zc l1) .nil)) (by kernel_rfl) (xs:=#[u,v]) ⟨u,[v],rfl,zdv hu rfl,v,[],rfl,zdv hv rfl,rfl⟩).mono ?_;rintro e w' ⟨v',rfl,hp,hB⟩;exact⟨v',rfl,(zjI _ v' w').1 hp,hB⟩
variable {E:Env}
def TZ2(L:Nat)(F:List Fact):TTab:=TTab.or (t2 152 (tgZ F) (tgZ F) (fun a b=>Nat.ble (sz L a) 50000 && Nat.ble (sz L b) 50000) fun a b => .cons (zr F (.bin 2 a b)) .nil) (TZ L F)
theorem zmE{L:Nat}(hE:zhf L E){F:List Fact}(hF:zdr E F):zcj Tryz.prog (GN E) (TZ2 L F):=by
 have mZ:=fun a x h v w hp=>zmF (E:=E) hF a x h v w hp
 refine zcj.or (zcK ⟨_,Tryz.func152,rfl⟩ _ _ mZ mZ ?_) (zry hE hF);intro a b hc w v u hv hu;simp only [Bool.and_eq_true]at hc;refine(callsIn_wide.1 (znu w v u _ _ hv hu (zaY 50000 (zps hE a).1 (Nat.le_of_ble_eq_true hc.1)) (zaY 50000 (zps hE b).1 (Nat.le_of_ble_eq_true hc.2)))).mono ?_;rintro e w' ⟨v',rfl,hz,hb⟩;exact⟨v',rfl,(zqS hF _ v' w').2 hz,hb⟩
theorem zcI(w:World)(u v:Value)(x y:Int)(hu:ZAt w u x)(hv:ZAt w v y)(hx:x.natAbs<B^50000)(hy:y.natAbs<B^50000) :
  CallsIn Fence.wide 0 Tryz.prog 99 #[u,v] w fun e w'=>e = .returned (.int .i64 (x-y).sign)∧Below w.heap.size w w':=by
 refine(runZ (zmE (L:=50000) (zhm (by omega) hx hy) zbH) (n:=50) (r:=.tag (.un 109 (.bin 2 l0 l1))) (ts:=.cons (zc l0) (.cons (zc l1) .nil)) (by kernel_rfl) (xs:=#[u,v]) ⟨u,[v],rfl,zdv hu rfl,v,[],rfl,zdv hv rfl,rfl⟩).mono ?_;rintro e w' ⟨v',rfl,hp,hB⟩;have hp:v' = .int .i64 (x-y).sign:=hp;exact⟨by rw [hp],hB⟩
def QAt(w:World)(v:Value)(q:Rat):Prop:=∃m1 m2,v = .agg #[.bool (decide (q.num<0)),m1,.bool false,m2]∧NatI w m1 q.num.natAbs∧NatI w m2 q.den
theorem QAt.below{w w':World}{v:Value}{q:Rat}(h:QAt w v q)(hb:Below w.heap.size w w'):QAt w' v q:=by
 obtain⟨m1,m2,e,h1,h2⟩:=h;exact⟨m1,m2,e,h1.below hb,h2.below hb⟩
def zpA(a b:AT):AT:=
 match a,b with
 | .agg (.cons x (.cons y .nil)),.agg (.cons z (.cons u .nil)) => .agg (.cons x (.cons y (.cons z (.cons u .nil))))
 | _,_ => .nil
def qc(a:Tg):AT:=.agg (.cons (.tag (.un 107 (.un 30 a))) (.cons (.tag (.un 100 (.un 30 a))) (.cons (.val (.sc (.bool false))) (.cons (.tag (.un 100 (.un 31 a))) .nil))))
theorem zq3(a:Tg)(v:Value)(w:World):zau (GN E) (qc a) v w↔QAt w v (evQ E a):=by
 constructor
 ·rintro⟨xs,rfl,x,r,e,h1,y,r2,rfl,h2,z,r3,rfl,h3,u,r4,rfl,h4,h5⟩;have h5:r4 = []:=h5;subst h5;have e':xs=#[x,y,z,u]:=Array.toList_inj.1 (by simpa using e);subst e';have h1:x = .bool (decide ((evQ E a).num<0)):=h1;have h3:some (Value.bool false)=some z:=h3
  cases h3
  subst h1;exact⟨y,u,rfl,h2,h4⟩
 ·rintro⟨m1,m2,rfl,h1,h2⟩;exact⟨_,rfl,_,_,rfl,rfl,_,_,rfl,h1,_,_,rfl,rfl,_,_,rfl,h2,rfl⟩
theorem zqf{x y:Int}(_hy:y≠0):((x:Rat)/(y:Rat))=frac (decide (x<0) != decide (y<0)) x.natAbs y.natAbs:=by
 have h1:(x:Rat)=frac (decide (x<0)) x.natAbs 1:=(zc6 (x:Rat)).symm;have h2:(y:Rat)=frac (decide (y<0)) y.natAbs 1:=(zc6 (y:Rat)).symm;rw [h1,h2,zli,Nat.mul_one,Nat.one_mul]
theorem znK{x y:Int}(hy:y≠0):((x:Rat)/(y:Rat)).num=sgn (decide (x<0) != decide (y<0)) (x.natAbs/Nat.gcd x.natAbs y.natAbs)∧((x:Rat)/(y:Rat)).den=y.natAbs/Nat.gcd x.natAbs y.natAbs:=by
 have hp:=zfi (neg:=decide (x<0) != decide (y<0)) (n:=x.natAbs) (d:=y.natAbs) (by omega);rw [zqf hy];rw [Nat.gcd_comm y.natAbs]at hp;obtain⟨h1,h2,h3⟩:=hp;refine⟨?_,h2⟩;obtain⟨q,hq⟩:∃q,(frac (decide (x<0) != decide (y<0)) x.natAbs y.natAbs).num=q:=⟨_,rfl⟩;rw [hq]at h1 h3 ⊢;obtain⟨b,hb⟩:∃b,(decide (x<0) != decide (y<0))=b:=⟨_,rfl⟩;rw [hb]at h3 ⊢;rw [←h1]
 cases b with
 | false=>unfold sgn;simp at h3 ⊢;omega
 | true=>
  unfold sgn;simp at h3 ⊢
  by_cases hx:x=0
  ·subst hx;simp at h1 h3
   omega
  ·have:=h3.2 hx;omega
theorem zhI(w:World)(u v:Value)(x y:Int)(hu:ZAt w u x)(hv:ZAt w v y)(hx:x.natAbs<B^20000)(hy:y.natAbs<B^20000)(hy0:y≠0) :
  CallsIn Fence.wide 0 Tryz.prog 92 #[u,v] w fun e w'=>∃v',e = .returned v'∧QAt w' v' ((x:Rat)/(y:Rat))∧Below w.heap.size w w':=by
 have hg:Nat.gcd x.natAbs y.natAbs≠0:=by
  intro h;have:=Nat.eq_zero_of_gcd_eq_zero_right h;omega
 obtain⟨hn,hd⟩:=znK (x:=x) hy0;have hdiv:=Nat.div_pos (Nat.le_of_dvd (by omega) (Nat.gcd_dvd_right x.natAbs y.natAbs)) (Nat.pos_of_ne_zero hg);have hF:∀b,decide (y<0)=b→zdr (envZ x y) [.nz (.bin 14 l0 l1),.neg (.bin 17 l1 (.bin 14 l0 l1)) b]:=by
  intro b hb f hf;rcases List.mem_cons.1 hf with rfl|hf
  ·exact hg
  ·rcases List.mem_cons.1 hf with rfl|hf
   ·show decide (sgn (decide (y<0) != decide (((Nat.gcd x.natAbs y.natAbs:Nat):Int)<0)) (y.natAbs/Nat.gcd x.natAbs y.natAbs)<0)=b
    have e:decide (((Nat.gcd x.natAbs y.natAbs:Nat):Int)<0)=false:=decide_eq_false (by omega);rw [e,hb]
    cases b with
    | false=>exact decide_eq_false (by rw [zgA];simp)
    | true=>exact decide_eq_true (by rw [zgA];exact⟨rfl,hdiv⟩)
   ·cases hf
 have e0:decide (((Nat.gcd x.natAbs y.natAbs:Nat):Int)<0)=false:=decide_eq_false (by omega)
 cases hby:decide (y<0)with
 | false=>
  refine(runZ (zmE (L:=20000) (zhm (by omega) hx hy) (hF _ hby)) (n:=60) (r:=zpA (zc (.bin 17 l0 (.bin 14 l0 l1))) (zs false (.bin 17 l1 (.bin 14 l0 l1)))) (ts:=.cons (zc l0) (.cons (zc l1) .nil)) (by kernel_rfl) (xs:=#[u,v]) ⟨u,[v],rfl,zdv hu rfl,v,[],rfl,zdv hv rfl,rfl⟩).mono ?_;rintro e w' ⟨v',rfl,⟨xs,rfl,a,r,e1,h1,b,r2,rfl,h2,c,r3,rfl,h3,d,r4,rfl,h4,h5⟩,hB⟩;have h5:r4 = []:=h5;subst h5;have e':xs=#[a,b,c,d]:=Array.toList_inj.1 (by simpa using e1);subst e';have h3:some (Value.bool false)=some c:=h3
  cases h3
  have en:evZ (envZ x y) (.bin 17 l0 (.bin 14 l0 l1))=((x:Rat)/(y:Rat)).num:=by
   rw [hn,hby];show sgn (decide (x<0) != decide (((Nat.gcd x.natAbs y.natAbs:Nat):Int)<0)) (x.natAbs/Nat.gcd x.natAbs y.natAbs)=_
   rw [e0]
  have ed:evN (envZ x y) (.bin 17 l1 (.bin 14 l0 l1))=((x:Rat)/(y:Rat)).den:=by
   rw [hd];exact zbw _ _
  refine⟨_,rfl,⟨b,d,?_,?_,?_⟩,hB⟩
  ·have h1:a = .bool (decide (evZ (envZ x y) (.bin 17 l0 (.bin 14 l0 l1))<0)):=h1;rw [h1,en]
  ·rw [←en];exact h2
  ·rw [←ed];exact h4
 | true=>
  refine(runZ (zmE (L:=20000) (zhm (by omega) hx hy) (hF _ hby)) (n:=60) (r:=zpA (zc (.un 1 (.bin 17 l0 (.bin 14 l0 l1)))) (zc (.un 1 (.bin 17 l1 (.bin 14 l0 l1))))) (ts:=.cons (zc l0) (.cons (zc l1) .nil)) (by kernel_rfl) (xs:=#[u,v]) ⟨u,[v],rfl,zdv hu rfl,v,[],rfl,zdv hv rfl,rfl⟩).mono ?_;rintro e w' ⟨v',rfl,⟨xs,rfl,a,r,e1,h1,b,r2,rfl,h2,c,r3,rfl,h3,d,r4,rfl,h4,h5⟩,hB⟩;have h5:r4 = []:=h5;subst h5;have e':xs=#[a,b,c,d]:=Array.toList_inj.1 (by simpa using e1);subst e';have en:evZ (envZ x y) (.un 1 (.bin 17 l0 (.bin 14 l0 l1)))=((x:Rat)/(y:Rat)).num:=by
   rw [hn,hby];show -sgn (decide (x<0) != decide (((Nat.gcd x.natAbs y.natAbs:Nat):Int)<0)) (x.natAbs/Nat.gcd x.natAbs y.natAbs)=_
   rw [e0]
   cases decide (x<0) <;> simp [sgn]
  have ez:evZ (envZ x y) (.un 1 (.bin 17 l1 (.bin 14 l0 l1)))=((y.natAbs/Nat.gcd x.natAbs y.natAbs:Nat):Int):=by
   show -sgn (decide (y<0) != decide (((Nat.gcd x.natAbs y.natAbs:Nat):Int)<0)) (y.natAbs/Nat.gcd x.natAbs y.natAbs)=_
   rw [e0,hby];simp [sgn]
  have ed:evN (envZ x y) (.un 1 (.bin 17 l1 (.bin 14 l0 l1)))=((x:Rat)/(y:Rat)).den:=by
   rw [hd];show(evZ (envZ x y) (.un 1 (.bin 17 l1 (.bin 14 l0 l1)))).natAbs=_
   rw [ez];rfl
  refine⟨_,rfl,⟨b,d,?_,?_,?_⟩,hB⟩
  ·have h1:a = .bool (decide (evZ (envZ x y) (.un 1 (.bin 17 l0 (.bin 14 l0 l1)))<0)):=h1;have h3:c = .bool (decide (evZ (envZ x y) (.un 1 (.bin 17 l1 (.bin 14 l0 l1)))<0)):=h3;rw [h1,en,h3,ez];have:decide (((y.natAbs/Nat.gcd x.natAbs y.natAbs:Nat):Int)<0)=false:=decide_eq_false (by omega);rw [this]
  ·rw [←en];exact h2
  ·rw [←ed];exact h4
def TQ0(L:Nat)(F:List Fact):TTab:=TTab.or (t2 92 (tgZ F) (tgZ F) (fun a b=>Nat.ble (sz L a) 20000 && Nat.ble (sz L b) 20000 && zpl F b) fun a b => .cons (qc (.bin 40 a b)) .nil) <|
 TTab.or (t2 99 (tgZ F) (tgZ F) (fun a b=>Nat.ble (sz L a) 50000 && Nat.ble (sz L b) 50000) fun a b=>one (.un 109 (.bin 2 a b))) (TZ2 L F)
theorem bleZ{L M:Nat}(hE:zhf L E){a:Tg}(h:Nat.ble (sz L a) M=true):(evZ E a).natAbs<B^M:=Nat.lt_of_lt_of_le (zps hE a).1 (zah (Nat.le_of_ble_eq_true h))
theorem zof{L:Nat}(hE:zhf L E){F:List Fact}(hF:zdr E F):zcj Tryz.prog (GN E) (TQ0 L F):=by
 have mZ:=fun a x h v w hp=>zmF (E:=E) hF a x h v w hp
 refine zcj.or (zcK ⟨_,Tryz.func92,rfl⟩ _ _ mZ mZ ?_) <| zcj.or (zcK ⟨_,Tryz.func99,rfl⟩ _ _ mZ mZ ?_) (zmE hE hF)
 ·intro a b hc w v u hv hu;simp only [Bool.and_eq_true]at hc;have hz:=zkf hF hc.2;refine(callsIn_wide.1 (zhI w v u _ _ hv hu (bleZ (M:=20000) hE hc.1.1) (bleZ (M:=20000) hE hc.1.2) (by intro h;exact hz (by show(evZ E b).natAbs=0;rw [h];rfl)))).mono ?_;rintro e w' ⟨v',rfl,hz,hb⟩;exact⟨v',rfl,(zq3 _ v' w').2 hz,hb⟩
 ·intro a b hc w v u hv hu;simp only [Bool.and_eq_true]at hc;refine(callsIn_wide.1 (zcI w v u _ _ hv hu (bleZ (M:=50000) hE hc.1) (bleZ (M:=50000) hE hc.2))).mono ?_;rintro e w' ⟨rfl,hb⟩;exact⟨_,rfl,rfl,hb⟩
def envQ(p q:Rat):Env:=⟨fun _=>0,fun k=>if k=0 then p else q⟩
theorem zmk{L:Nat}(hL:0<L){p q:Rat}(hp:zad p L)(hq:zad q L):zhf L (envQ p q):=⟨hL,fun k=>⟨zar _,by
 show zad (if k=0 then p else q) L
 split <;> assumption⟩⟩
theorem zhM{w:World}{v:Value}{q:Rat}(h:QAt w v q){k:Nat}(hz:E.q k=q):zau (GN E) (qc (.leaf k)) v w:=(zq3 _ v w).2 (by
 show QAt w v (E.q k)
 rw [hz];exact h)
def fQ(l:List Fact):List Fact:=.neg (.un 31 l0) false :: .neg (.un 31 l1) false :: l
theorem zpr{p q:Rat}{l:List Fact}(h:zdr (envQ p q) l):zdr (envQ p q) (fQ l):=by
 intro f hf;rcases List.mem_cons.1 hf with rfl|hf
 ·exact decide_eq_false (by show ¬((p.den:Nat):Int)<0;omega)
 ·rcases List.mem_cons.1 hf with rfl|hf
  ·exact decide_eq_false (by show ¬((q.den:Nat):Int)<0;omega)
  ·exact h f hf
theorem zp0{p q z:Rat}(hp:zad p 4700)(hq:zad q 4700){w:World}{u v:Value}(hu:QAt w u p)(hv:QAt w v q){l:List Fact}(hF:zdr (envQ p q) l){n:Nat}{f:FuncId}{r:Tg}
  (hr:runF Tryz.prog clsN (TQ0 4700 (fQ l)) [3,116] [] n f (.cons (qc l0) (.cons (qc l1) .nil))=some (.cons (qc r) .nil)) (he:evQ (envQ p q) r=z) :
  CallsIn Fence.wide 0 Tryz.prog f #[u,v] w fun e w'=>∃v',e = .returned v'∧QAt w' v' z∧Below w.heap.size w w':=by
 refine(runZ (zof (zmk (by omega) hp hq) (zpr hF)) hr (xs:=#[u,v]) ⟨u,[v],rfl,zhM hu rfl,v,[],rfl,zhM hv rfl,rfl⟩).mono ?_;rintro e w' ⟨v',rfl,hp,hB⟩;refine⟨v',rfl,?_,hB⟩;rw [←he];exact(zq3 _ v' w').1 hp
theorem zml(p q:Rat):((p.den:Int)*(q.den:Int))≠0:=by
 have h1:=p.den_nz;have h2:=q.den_nz;intro h;rcases Int.mul_eq_zero.1 h with h|h <;> omega
theorem zgp{E:Env}{f:Fact}(h:f.ok E):zdr E [f]:=by
 intro g hg;rcases List.mem_cons.1 hg with rfl|hg
 ·exact h
 ·cases hg
theorem zcF(p:Rat):p=Rat.divInt p.num p.den:=(Rat.num_divInt_den p).symm
theorem zho(x y:Int):((x:Rat)/(y:Rat))=Rat.divInt x y:=(Rat.divInt_eq_div x y).symm
theorem zl2(w:World)(u v:Value)(p q:Rat)(hu:QAt w u p)(hv:QAt w v q)(hp:zad p 4700)(hq:zad q 4700) :
  CallsIn Fence.wide 0 Tryz.prog 95 #[u,v] w fun e w'=>∃v',e = .returned v'∧QAt w' v' (p+q)∧Below w.heap.size w w':=by
 refine zp0 hp hq hu hv (l:=[.nz (.bin 3 (.un 31 l0) (.un 31 l1))]) (zgp (by show((p.den:Int)*(q.den:Int)).natAbs≠0;have:=zml p q;omega)) (n:=60) (r:=.bin 40 (.bin 1 (.bin 3 (.un 30 l0) (.un 31 l1)) (.bin 3 (.un 30 l1) (.un 31 l0))) (.bin 3 (.un 31 l0) (.un 31 l1))) (by kernel_rfl) ?_;show((p.num*(q.den:Int)+q.num*(p.den:Int):Int):Rat)/(((p.den:Int)*(q.den:Int):Int):Rat)=p+q
 rw [zho];conv=>rhs;rw [zcF p,zcF q]
 rw [Rat.divInt_add_divInt _ _ (by have:=p.den_nz;omega) (by have:=q.den_nz;omega)]
theorem zc4(w:World)(u v:Value)(p q:Rat)(hu:QAt w u p)(hv:QAt w v q)(hp:zad p 4700)(hq:zad q 4700) :
  CallsIn Fence.wide 0 Tryz.prog 87 #[u,v] w fun e w'=>∃v',e = .returned v'∧QAt w' v' (p-q)∧Below w.heap.size w w':=by
 refine zp0 hp hq hu hv (l:=[.nz (.bin 3 (.un 31 l0) (.un 31 l1))]) (zgp (by show((p.den:Int)*(q.den:Int)).natAbs≠0;have:=zml p q;omega)) (n:=60) (r:=.bin 40 (.bin 2 (.bin 3 (.un 30 l0) (.un 31 l1)) (.bin 3 (.un 30 l1) (.un 31 l0))) (.bin 3 (.un 31 l0) (.un 31 l1))) (by kernel_rfl) ?_;show((p.num*(q.den:Int)-q.num*(p.den:Int):Int):Rat)/(((p.den:Int)*(q.den:Int):Int):Rat)=p-q
 rw [zho];conv=>rhs;rw [zcF p,zcF q]
 rw [Rat.divInt_sub_divInt _ _ (by have:=p.den_nz;omega) (by have:=q.den_nz;omega)]
theorem zeI(w:World)(u v:Value)(p q:Rat)(hu:QAt w u p)(hv:QAt w v q)(hp:zad p 4700)(hq:zad q 4700) :
  CallsIn Fence.wide 0 Tryz.prog 128 #[u,v] w fun e w'=>∃v',e = .returned v'∧QAt w' v' (p*q)∧Below w.heap.size w w':=by
 refine zp0 hp hq hu hv (l:=[.nz (.bin 3 (.un 31 l0) (.un 31 l1))]) (zgp (by show((p.den:Int)*(q.den:Int)).natAbs≠0;have:=zml p q;omega)) (n:=60) (r:=.bin 40 (.bin 3 (.un 30 l0) (.un 30 l1)) (.bin 3 (.un 31 l0) (.un 31 l1))) (by kernel_rfl) ?_;show((p.num*q.num:Int):Rat)/(((p.den:Int)*(q.den:Int):Int):Rat)=p*q
 rw [zho];conv=>rhs;rw [zcF p,zcF q]
 rw [Rat.divInt_mul_divInt]
theorem zfF(w:World)(u v:Value)(p q:Rat)(hu:QAt w u p)(hv:QAt w v q)(hp:zad p 4700)(hq:zad q 4700)(hq0:q.num≠0) :
  CallsIn Fence.wide 0 Tryz.prog 29 #[u,v] w fun e w'=>∃v',e = .returned v'∧QAt w' v' (p/q)∧Below w.heap.size w w':=by
 have hz:((p.den:Int)*q.num)≠0:=by
  have h1:=p.den_nz;intro h;rcases Int.mul_eq_zero.1 h with h|h <;> omega
 refine zp0 hp hq hu hv (l:=[.nz (.bin 3 (.un 31 l0) (.un 30 l1))]) (zgp (by show((p.den:Int)*q.num).natAbs≠0;omega)) (n:=60) (r:=.bin 40 (.bin 3 (.un 30 l0) (.un 31 l1)) (.bin 3 (.un 31 l0) (.un 30 l1))) (by kernel_rfl) ?_;show((p.num*(q.den:Int):Int):Rat)/(((p.den:Int)*q.num:Int):Rat)=p/q
 rw [zho];conv=>rhs;rw [zcF p,zcF q]
 rw [Rat.div_def,Rat.inv_divInt,Rat.divInt_mul_divInt]
theorem ziU(w:World)(u v:Value)(p q:Rat)(hu:QAt w u p)(hv:QAt w v q)(hp:zad p 4700)(hq:zad q 4700) :
  CallsIn Fence.wide 0 Tryz.prog 36 #[u,v] w fun e w'=>e = .returned (.int .i64 (p.num*(q.den:Int)-q.num*(p.den:Int)).sign)∧Below w.heap.size w w':=by
 refine(runZ (zof (zmk (by omega) hp hq) (zpr (l:=[]) zbH)) (n:=60) (r:=.tag (.un 109 (.bin 2 (.bin 3 (.un 30 l0) (.un 31 l1)) (.bin 3 (.un 30 l1) (.un 31 l0))))) (ts:=.cons (qc l0) (.cons (qc l1) .nil)) (by kernel_rfl) (xs:=#[u,v]) ⟨u,[v],rfl,zhM hu rfl,v,[],rfl,zhM hv rfl,rfl⟩).mono ?_;rintro e w' ⟨v',rfl,hp,hB⟩;have hp:v' = .int .i64 (p.num*(q.den:Int)-q.num*(p.den:Int)).sign:=hp;exact⟨by rw [hp],hB⟩
theorem znG(w:World)(u:Value)(p:Rat)(hu:QAt w u p)(hp:zad p 4700) :
  CallsIn Fence.wide 0 Tryz.prog 35 #[u] w fun e w'=>e = .returned (.int .i64 p.num.sign)∧Below w.heap.size w w':=by
 refine(runZ (zof (zmk (by omega) hp hp) (zpr (l:=[]) zbH)) (n:=60) (r:=.tag (.un 109 (.un 30 l0))) (ts:=.cons (qc l0) .nil) (by kernel_rfl) (xs:=#[u]) ⟨u,[],rfl,zhM hu rfl,rfl⟩).mono ?_;rintro e w' ⟨v',rfl,hp,hB⟩;have hp:v' = .int .i64 p.num.sign:=hp;exact⟨by rw [hp],hB⟩
end Go.Num
namespace Go.Num
open Go.Eng Go.RowKit Go.Proofs Go.Proofs.YtepakfjilnpodaaGreatDoor
theorem zi0(n:Int)(h1 : -9223372036854775808≤n)(h2:n≤9223372036854775807)(h:0≤n):IntKind.u64.wrap n=(n.natAbs:Int):=by
 have e:IntKind.u64.wrap n=n%18446744073709551616:=rfl;rw [e];omega
theorem ziZ(n:Int)(h1 : -9223372036854775808≤n)(h:n<0):IntKind.u64.wrap n=n+18446744073709551616:=by
 have e:IntKind.u64.wrap n=n%18446744073709551616:=rfl;rw [e];omega
theorem zn9(n:Int)(h1 : -9223372036854775808≤n)(h:n<0):IntKind.u64.wrap (-(n+18446744073709551616))=(n.natAbs:Int):=by
 have e:IntKind.u64.wrap (-(n+18446744073709551616))=(-(n+18446744073709551616))%18446744073709551616:=rfl;rw [e];omega
theorem zoR{fn:Func}{p:Tmp}{ty:TypeId}{R:Ending→World→Prop}{a:Act}{w:World}{cs:List Value}{n:Nat}(h:fn.results=#[.cell p ty])(hd:a.defers = [])(g:Nat)(hp:a.tmps.getD p undef = .pointer (some ⟨g,0,none⟩))
  (hl:zfa Tryz.prog ty n) (hn:cs.length=n) (hc:∀j v,cs[j]? = some v→World.cell? w ⟨g,j,none⟩=some v) (hR:R (.returned (.agg cs.toArray)) w):bodyPost Tryz.prog fn R .ret a w:=by
 refine⟨hd,.agg cs.toArray,?_,hR⟩;have:=hl g cs w hn hc;simp only [Instr.loadAt,Instr.sureAddr,Sem.run_bind,Sem.run_pure,Result.andThen_ok]at this;have hp2:a.tmps[p]?.getD undef = .pointer (some ⟨g,0,none⟩):=by rw [←Array.getD_eq_getD_getElem?];exact hp
 simp [results,h,hp2,asAddr,this]
theorem NatI.setElem{w:World}{v u:Value}{x g i:Nat}{e:TypeId}(h:NatI w v x)(hE:Elem w g e)(he:e≠3):NatI (w.setCell ⟨g,i,none⟩ u) v x:=by
 obtain⟨k,hk,hl⟩:=h;refine⟨k,hk,?_⟩;rcases hl with h|⟨a,cap,rfl,h2,h3,h4,h5,h6⟩
 ·exact .inl h
 ·have hne:a.block≠g:=h5.ne hE (Ne.symm he);refine .inr ⟨a,cap,rfl,h2,h3,h4,h5.setCell _ _,fun j hj => ?_⟩;rw [World.cell?_setCell_other _ _ _ _ (by intro q;exact hne (by rw [←zaf a j];exact(congrArg Addr.block q).symm))];exact h6 j hj
theorem l32:zfa Tryz.prog 60 2:=zgI (by kernel_rfl) (by kernel_rfl)
theorem zaM(w:World)(n:Int)(h1 : -9223372036854775808≤n)(h2:n≤9223372036854775807) :
  CallsIn Fence.wide 0 Tryz.prog 31 #[.int .i64 n] w fun e w'=>∃v',e = .returned v'∧ZAt w' v' n∧Below w.heap.size w w':=by
 obtain⟨N,hN⟩:∃N,n.natAbs=N:=⟨_,rfl⟩;have hNs:N<18446744073709551616:=by omega
 refine callsIn_of_wp Tryz.func31 rfl trivial ?_ rfl;simp only [Tryz.ntmps31,zsj,zsk,zsl,Nat.reduceAdd,Nat.reduceSub,zsm,zsn,zso,zsp,zsq,zsr];by_cases h0:n<0
 case' pos=>
  have e1:=ziZ n h1 h0;have e2:=zn9 n h1 h0;have HS:Hid (sgn true N=n):=zHi (by unfold sgn;simp;omega);have hb:decide (n<0)=true:=decide_eq_true h0
 case' neg=>
  have e1:=zi0 n h1 h2 (by omega);have HS:Hid (sgn false N=n):=zHi (by unfold sgn;simp;omega);have hb:decide (n<0)=false:=decide_eq_false h0
 all_goals
  first|rw [hN]at e2|rw [hN]at e1
  gi_wp2;obtain⟨W1,hW1⟩:∃W,W=w.alloc (.cells #[.bool false,.slice none 0 0] 60):=⟨_,rfl⟩;rw [←hW1];have HBW:Hid (Below w.heap.size w W1):=zHi (by rw [hW1];exact zaa _ _);have HA1:Hid (zag W1 w.heap.size 2 fun i=>if i=0 then .bool false else .slice none 0 0):=zHi (by
   rw [hW1];refine zag.new _ _ _ fun i hi => ?_
   match i,hi with
   | 0,_=>rfl
   | 1,_=>rfl)
  have HE1:Hid (Elem W1 w.heap.size 60):=zHi (by rw [hW1];exact zaO _ _ _);obtain⟨g,hg⟩:∃g,w.heap.size=g:=⟨_,rfl⟩;have hgl:g<W1.heap.size:=by rw [hW1,←hg];simp
  have hgw:w.heap.size≤g:=by omega
  rw [hg]at HA1 HE1;rw [hg];clear hg;have HO4:Hid (W1.ownsRow W1.heap.size 3 1 (.slice none 0 0) 0 (zba N 0)):=World.ownsRow_nil _ _ _ _;have HB4:Hid (Below W1.heap.size W1 W1):=Below.refl _ W1;have HN:=zHi hN;clear hW1 hN e1;try clear e2
  gi_loopw [3,4] (fun uv v wr=>∃j u:Nat,j≤20∧uv = .int .u64 (u:Int)∧Hid (N/B^j=u)∧u<18446744073709551616∧Hid (j=0∨B^(j-1)≤N)∧Hid (wr.ownsRow W1.heap.size 3 1 v j (zba N j))∧Hid (Below W1.heap.size W1 wr)) (fun uv _ _=>(intOf uv).toNat)
  case atStart=>exact⟨0,N,by omega,rfl,zHi (by simp),hNs,zHi (.inl rfl),HO4.out,HB4.out⟩
  case round=>
   obtain⟨j,u,hj,rfl,HU,hu,HJ,HO,HBr⟩:=hrel;clear HO4 HB4;by_cases hu0:0<u
   ·have hl:u%1000000000=limb N j:=by rw [←HU.out];rfl
    have HL:=zHi hl;have hlt:u%1000000000<1000000000:=Nat.mod_lt _ (by decide);have hdv:u/1000000000<u:=Nat.div_lt_self hu0 (by decide);have HJ2:Hid (B^j≤N):=zHi (by
     apply Classical.byContradiction
     intro hno;have:=Nat.div_eq_of_lt (show N<B^j by omega);rw [HU.out]at this;omega)
    have hj19:j<19:=by
     apply Classical.byContradiction
     intro hno;have h1:B^3≤B^j:=zah (by omega);have h2:B^3=1000000000000000000000000000:=by decide
     have:=HJ2.out;omega
    clear hl;gi_wp2_with (gi_at_builtin;refine stop ?_)
    unfold Stop;refine zaE W1 wr rfl _ _ rfl u4 j N rfl HO _ _ rfl ?_ (by omega) HBr ?_
    ·rw [←HL.out];go_num
    ·intro v2 w2 HO2 HB2;gi_wp2;refine⟨⟨j+1,u/1000000000,by omega,rfl,?_,by omega,zHi (.inr HJ2.out),HO2,HB2⟩,by simp [intOf] <;> omega⟩;rw [Nat.pow_succ,←Nat.div_div_eq_div_mul,HU.out];rfl
   ·have hu00:u=0:=by omega
    subst hu00;have hlen:zcV N j:=⟨by
     rcases Nat.lt_or_ge N (B^j)with h|h
     ·exact h
     ·have:=Nat.div_pos h (zar j);rw [HU.out]at this;omega,HJ.out⟩
    have HM:Hid (NatI wr u4 N):=zHi ⟨j,hlen,zbJ HO.out (by omega)⟩;clear hlen;gi_wp2_with (gi_at_call 94;refine stop ?_)
    unfold Stop;refine(zd6 wr _ u4 N HM.out).mono ?_;rintro e w5 ⟨v5,rfl,⟨m,rfl,hm⟩,hb5⟩;have HB5:=zHi (HBr.out.trans (hb5.mono HBr.out.size));have HM5:=zHi hm;obtain⟨om,km,cm,rfl,_,_⟩:=zbf hm;have HA5:=HA1.out.below hgl HB5.out;have y0:=(HA5 0 (by omega)).1;have y1:=(HA5 1 (by omega)).1;have z0:=(HA5 0 (by omega)).2;have z1:=(HA5 1 (by omega)).2;simp only [if_true,if_false,Nat.one_ne_zero]at y0 y1;have HA6:=zHi HA5;have HE5:=zHi (HE1.out.below HB5.out hgl);clear hm hb5 HA5;gi_wp2;have ha6:=(HA6.out.set (i:=0) (by omega) (.bool (decide (n<0)))).set (i:=1) (by omega) (.slice om km cm);rw [HS.out];refine zoR (cs:=[.bool (decide (n<0)),.slice om km cm]) rfl rfl g rfl l32 rfl ?_ ?_
    ·intro j v hj;match j,hj with
     | 0,hj=>cases hj;exact(ha6 0 (by omega)).1
     | 1,hj=>cases hj;exact(ha6 1 (by omega)).1
    ·refine⟨_,rfl,⟨_,rfl,?_⟩,(HBW.out.trans (HB5.out.mono HBW.out.size)).setCell hgw _ |>.setCell hgw _⟩;have:=(HM5.out.setElem (i:=0) (u:=.bool (decide (n<0))) HE5.out (by decide)).setElem (i:=1) (u:=.slice om km cm) (HE5.out.setCell _ _) (by decide);rw [HS.out]at this;exact this
theorem zei(n:Int):(n:Rat).num=n:=rfl
theorem zjY(n:Int):(n:Rat).den=1:=rfl
theorem zbm(w:World)(n:Int)(h1 : -9223372036854775808≤n)(h2:n≤9223372036854775807) :
  CallsIn Fence.wide 0 Tryz.prog 16 #[.int .i64 n] w fun e w'=>∃v',e = .returned v'∧zaj w' v' (n:Rat)∧Below w.heap.size w w':=by
 obtain⟨N,hN⟩:∃N,n.natAbs=N:=⟨_,rfl⟩;have hNs:N<18446744073709551616:=by omega
 refine callsIn_of_wp Tryz.func16 rfl trivial ?_ rfl;simp only [Tryz.ntmps16,zsj,zsk,zsl,Nat.reduceAdd,Nat.reduceSub,zsm,zsn,zso,zsp,zsq,zsr];by_cases h0:n<0
 case' pos=>
  have e1:=ziZ n h1 h0;have e2:=zn9 n h1 h0;have hb:decide (n<0)=true:=decide_eq_true h0
 case' neg=>
  have e1:=zi0 n h1 h2 (by omega);have hb:decide (n<0)=false:=decide_eq_false h0
 all_goals
  first|rw [hN]at e2|rw [hN]at e1
  gi_wp2_with (gi_at_call 72;refine stop ?_)
  unfold Stop;obtain⟨W,hW⟩:∃W,W=w.alloc (.cells #[.bool false,.slice none 0 0,.slice none 0 0] 27):=⟨_,rfl⟩;rw [←hW];have HK:Hid (Own3 w W):=by rw [hW];exact zel _ _ _ _ _
  clear hW;have HN:=zHi hN;have HB:=zHi hb;clear hN e1;try clear e2
  refine(zeo W N hNs).mono ?_;rintro e w2 ⟨v7,rfl,⟨hm,hf⟩,hB2⟩;have HF2:Hid (N=0∨v7.ownBlock≠some w.heap.size):=hf.ne HK.out.2.1 _;have HK8:=zHi (HK.out.step hB2);have HM7:=zHi hm;clear hm hB2 HK hf;obtain⟨x0,x1,x2,z0,z1,z2,y0,y1,y2⟩:=HK8.out.cells;obtain⟨o,k,c,rfl,_,_⟩:=zaG HM7.out;gi_wp2;refine zbe rfl rfl w.heap.size rfl z0 z1 z2 ?_;have hB:=HK8.out.2.2;refine⟨_,rfl,⟨.slice o k c,.slice none 0 0,?_,?_,?_⟩,((hB.setCell (Nat.le_refl _) _).setCell (Nat.le_refl _) _).setCell (Nat.le_refl _) _⟩
  ·rw [zei,HB.out]
  ·rw [zei,HN.out];exact((HM7.out.setCell' HF2.out _).setCell' HF2.out _).setCell' HF2.out _
  ·rw [zjY,if_pos rfl];exact zdD _ _ _
def dgt(N p:Nat):Nat:=N/10^p%10
theorem pow9(i:Nat):B^i=10^(9*i):=by
 rw [Nat.pow_mul];rfl
theorem zqo{N i j:Nat}(hj:j<9):limb N i/10^j%10=dgt N (9*i+j):=by
 unfold limb dgt;obtain⟨c,hc⟩:∃c,9-j=c+1:=⟨9-j-1,by omega⟩;have hB:B=10^j*10^(c+1):=by
  rw [←Nat.pow_add,←hc,show j+(9-j)=9 by omega];rfl
 rw [show N/B^i%B=N/B^i%(10^j*10^(c+1))by rw [←hB],Nat.mod_mul_right_div_self,Nat.mod_mod_of_dvd _ (by rw [Nat.pow_succ];exact Nat.dvd_mul_left _ _),pow9,Nat.div_div_eq_div_mul,←Nat.pow_add]
def bytV(N p:Nat):Value:=.int .u8 ((48+dgt N p:Nat):Int)
def zc7(N k:Nat):List Value:=(List.range k).map (bytV N)
theorem zdt(n k:Nat):(zc7 n k).length=k:=by simp [zc7]
theorem zia(n k:Nat):zc7 n (k+1)=zc7 n k ++ [bytV n k]:=by simp [zc7,List.range_succ]
theorem zoo:Tryz.prog.info? 5=some Tryz.t5:=by kernel_rfl
theorem u107:Tryz.prog.underlying 229=some (.slice 5):=by kernel_rfl
theorem u5:Tryz.prog.underlying 5=some (.int .u8):=by kernel_rfl
theorem u9:Tryz.prog.underlying 9=some .string:=by kernel_rfl
theorem zom:Tryz.t5.zero=some (.int .u8 0):=by kernel_rfl
theorem zon:Tryz.t5.size=1:=by kernel_rfl
theorem zmG:Tryz.t5.bytes=1:=by kernel_rfl
theorem zqy(w:World)(i:Int)(t:TypeId):∀k u,[Value.int .u8 i][k]? = some u→(w.alloc (.cells #[.int .u8 i] t)).cell? ((⟨w.heap.size,0,none⟩:Addr).add k)=some u:=by
 intro k u h;rw [Addr.add_lit,Nat.zero_add,World.cell?_alloc_new];match k,h with
 | 0,h=>exact h
theorem zpK{F:Fence}{n:Nat}(w wr:World){ops:Array Oper}{rest:List Oper}{o:Oper}{a:Act}{Q:Exit→Act→World→Prop}
  (hg:o.guard=none) (s x:Operand) (hop:o.op=Op.call {callee:=Callee.builtin Builtin.append,args:=#[s,x],argTypes:=#[229,229]})
  (v:Value) (j:Nat) (xs:List Value) (hs:a.eval s=v) (HO:Hid (wr.ownsRow w.heap.size 5 1 v j xs)) (z:Int) (t:TypeId) (hx:a.eval x = .slice (some ⟨wr.heap.size,0,none⟩) 1 1) (c:Int) (hz:z=c) (hj:j<5000000000)
  (HB:Hid (Below w.heap.size w wr))
  (hK:∀v' w',Hid (w'.ownsRow w.heap.size 5 1 v' (j+1) (xs ++ [.int .u8 c]))→Hid (Below w.heap.size w w')→wpListIn F n Tryz.prog ops Q rest (a.put o.dst v') w') :
  wpListIn F n Tryz.prog ops Q (o :: rest) a (wr.alloc (.cells #[.int .u8 z] t)):=by
 have hsz:=HB.out.size;refine wpListIn_append_own _ hg s x 229 hop w.heap.size 5 Tryz.t5 _ 1 1 u107 zoo zom zon zmG rfl (by decide) v j xs hs (World.ownsRow.alloc HO.out _) ⟨wr.heap.size,0,none⟩ 1 1 [.int .u8 z] hx rfl (zqy _ _ _) (fun u hu=>by simp at hu;subst hu;rfl) (by unfold maxLen;omega) (by omega) (by simp;omega) ?_;intro v' w' h1 h2 _;refine hK v' w' ?_ ?_
 ·rw [←hz];exact h1
 ·refine(HB.out.alloc hsz _).grown h2 (by simp;omega) fun k hk => ?_
  exact zcp HO.out hk
theorem zkH{F:Fence}{n:Nat}{P:Program}{w:World}{ops:Array Oper}{rest:List Oper}{a:Act}{Q:Exit→Act→World→Prop}{dst:Option Tmp}{ty:TypeId}{ps:String}{af:Array Edge}{gd:Option (Nat × Bool)}{x:Operand}
  (h:Stop (wpListIn F n P ops Q ({dst:=dst,op:=Op.convert 229 9 x,type:=ty,pos:=ps,after:=af,guard:=gd} :: rest) a w)) :
  wpListIn F n P ops Q ({dst:=dst,op:=Op.convert 229 9 x,type:=ty,pos:=ps,after:=af,guard:=gd} :: rest) a w:=h
theorem zf2{F:Fence}{n:Nat}{P:Program}{w:World}{ops:Array Oper}{rest:List Oper}{o:Oper}{a:Act}{Q:Exit→Act→World→Prop}
  (hg:o.guard=none) (s d:TypeId) (x:Operand) (hop:o.op=Op.convert s d x) (v u:Value) (hx:a.eval x=v) (hr:(convert s d v).run P w = .ok u w)
  (h:wpListIn F n P ops Q rest (a.put o.dst u) w):wpListIn F n P ops Q (o :: rest) a w:=by
 refine wpListIn_plain hg fun K hK => ?_
 unfold Oper.wpIn;refine⟨by simp [Oper.about,hop],?_⟩;rw [Oper.semAt_plain F _ _ (by rw [hop];intro c hc';cases hc')];simp [execOp,hop,hx,hr,Result.andThen]
 exact hK _ _ h
def zdb(N L p:Nat):Int:=if p<L then((48+dgt N p:Nat):Int)else 45
theorem zf7(xs:List Int)(l:List UInt8)(h:xs.map (fun n=>UInt8.ofNat n.toNat)=l):strOfNums xs=⟨l.toArray⟩:=by
 unfold strOfNums;rw [h]
theorem zqB{z:Int}(h:0≤z):strOfNums ((List.range (Lib.nDigits z.natAbs)).map fun p=>zdb z.natAbs (Lib.nDigits z.natAbs) (Lib.nDigits z.natAbs-1-p))=zdg z:=by
 refine zf7 _ _ ?_;unfold Lib.itoa;rw [if_neg (by omega),show z.toNat=z.natAbs by omega,Lib.decDigits_eq,List.map_map];refine List.map_congr_left fun p hp => ?_
 have hp:=List.mem_range.1 hp;show UInt8.ofNat (zdb _ _ _).toNat=_
 unfold zdb;rw [if_pos (by omega),Int.toNat_natCast];rfl
theorem zqC{z:Int}(h:z<0):strOfNums ((List.range (Lib.nDigits z.natAbs+1)).map fun p=>zdb z.natAbs (Lib.nDigits z.natAbs) (Lib.nDigits z.natAbs+1-1-p))=zdg z:=by
 refine zf7 _ _ ?_;unfold Lib.itoa;rw [if_pos h,Lib.decDigits_eq,List.range_succ_eq_map,List.map_cons,List.map_cons,List.map_map,List.map_map];congr 1
 ·show UInt8.ofNat (zdb _ _ _).toNat=_
  unfold zdb;rw [if_neg (by omega)];rfl
 ·refine List.map_congr_left fun p hp => ?_
  have hp:=List.mem_range.1 hp;show UInt8.ofNat (zdb _ _ _).toNat=_
  unfold zdb;rw [if_pos (by omega),Int.toNat_natCast];show Lib.dg _ _=Lib.dg _ _
  congr 1
  omega
theorem znB:zdg 0=⟨#[48]⟩:=by
 unfold zdg Lib.itoa;rw [if_neg (by decide),Lib.decDigits,dif_pos (by decide)];rfl
theorem znJ{w:World}{base e g cap n N:Nat}(h:w.ownsRow base e 1 (.slice (some ⟨g,0,none⟩) (n+1) cap) (n+1) (zc7 N (n+1))):w.ownsRow base e 1 (.slice (some ⟨g,0,none⟩) n cap) n (zc7 N n):=by
 rcases h.2 with⟨h,_⟩|⟨g',cap',cur,hv,h1,h2,h3,h4,h5,h6⟩
 ·cases h
 ·cases hv
  refine⟨by rw [zdt];omega,.inr ⟨g,cap,cur,rfl,h1,h2,by omega,h4,h5,?_⟩⟩;have:cur.toList.take (n*1)=(cur.toList.take ((n+1)*1)).take n:=by rw [List.take_take];congr 1;omega
  rw [this,h6,zia,List.take_append_of_le_length (by rw [zdt];omega),List.take_of_length_le (by rw [zdt];omega)]
end Go.Num
