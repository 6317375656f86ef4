/-
  An integer of the machine as a fraction of the program. An integer of the machine as one of the reference, and as a fraction of the program.
  Conditions: see each statement.
-/
import Derived.Test.YtoamcgjbelhnkaaGreatDoorPAK
import Derived.Test.YtoamcgjbelhnkaaGreatDoorPAA
import Derived.Laws.BytesArg
set_option maxRecDepth 100000
set_option maxHeartbeats 8000000
namespace Go.Num
open Go.RowKit Go.Proofs Go.Proofs.YtoamcgjbelhnkaaGreatDoor Go.Eng
def zcV(z:Int):ByteArray:=⟨(Lib.itoa z).toArray⟩
def zfn(q:Rat):ByteArray:=if q.den=1 then zcV q.num else⟨(Lib.itoa q.num ++ 47 :: Lib.decDigits q.den).toArray⟩
theorem Elem.kept{w w':World}{b:Nat}{e:TypeId}{res:List TypeId}(h:Elem w b e)(hk:Kept res w w')(he:res.contains e=true):w'.heap[b]? = w.heap[b]?:=by
 obtain⟨cs,fz,h⟩:=h;rw [h,hk _ _ _ _ h he]
theorem NatI.kept{w w':World}{v:Value}{n:Nat}{res:List TypeId}(h:NatI w v n)(hk:Kept res w w')(he:res.contains 3=true):NatI w' v n:=by
 obtain⟨k,hk',hl⟩:=h;refine⟨k,hk',?_⟩;rcases hl with h|⟨a,cap,h1,h2,h3,h4,h5,h6⟩
 ·exact .inl h
 ·have hb:=h5.kept hk he;exact .inr ⟨a,cap,h1,h2,h3,h4,h5.of_block hb,fun i hi=>(World.cell?_of_block (by rw [zac];exact hb)).trans (h6 i hi)⟩
theorem zat.kept{w w':World}{v:Value}{n:Nat}{res:List TypeId}(h:zat w v n)(hk:Kept res w w')(he:res.contains 111=true):zat w' v n:=by
 obtain⟨k,hk',hl⟩:=h;refine⟨k,hk',?_⟩;rcases hl with h|⟨a,cap,h1,h2,h3,h4,h5,h6⟩
 ·exact .inl h
 ·have hb:=h5.kept hk he;exact .inr ⟨a,cap,h1,h2,h3,h4,h5.of_block hb,fun i hi=>(World.cell?_of_block (by rw [zac];exact hb)).trans (h6 i hi)⟩
theorem NatI.oneCell{w:World}{v:Value}{n:Nat}(h:NatI w v n):v.oneCell'=true:=by
 obtain⟨k,_,hl⟩:=h;obtain⟨o,c,rfl,_⟩:=hl.form;rfl
theorem zat.oneCell{w:World}{v:Value}{n:Nat}(h:zat w v n):v.oneCell'=true:=by
 obtain⟨k,_,hl⟩:=h;obtain⟨o,c,rfl,_⟩:=hl.form;rfl
def clsN:Tg→Sh
 | .un 105 _ => .str
 | .un 106 _ => .str
 | _ => .one
def iN(E:Env)(t:Tg)(v:Value)(w:World):Prop:=
 match t with
 | .un 100 e=>NatI w v (evN E e)
 | .un 103 e=>zat w v (evN E e)
 | .un 107 e=>v = .bool (decide (evZ E e<0))
 | .un 109 e=>v = .int .i64 (evZ E e).sign
 | .un 105 e=>v = .string (zfn (evQ E e))
 | .un 106 e=>v = .string (zcV (evZ E e))
 | .un 104 e=>zat w v (if(evQ E e).den=1 then 0 else(evQ E e).den)
 | .un 110 e=>v = .int .i64 (evZ E e) ∧ -9223372036854775808≤evZ E e∧evZ E e≤9223372036854775807
 | _=>False
def GN(E:Env):Sett where
 ids:=[]
 res:=[3,111]
 I:=iN E
 stable:=by
  intro t v w w' hk h;unfold iN at h;split at h
  ·exact NatI.kept h hk rfl
  ·exact zat.kept h hk rfl
  ·exact h
  ·exact h
  ·exact h
  ·exact h
  ·exact zat.kept h hk rfl
  ·exact h
  ·exact h.elim
theorem zmv(E:Env):zgh (GN E) clsN where
 ok:=by
  intro t v w h;have h:iN E t v w:=h;unfold iN at h;split at h
  ·exact h.oneCell
  ·exact h.oneCell
  ·subst h;rfl
  ·subst h;rfl
  ·subst h;exact⟨_,rfl⟩
  ·subst h;exact⟨_,rfl⟩
  ·exact h.oneCell
  ·rw [h.1];rfl
  ·exact h.elim
 det:=by
  intro t ht v v' w h h';unfold clsN at ht;split at ht
  ·have h:v=_:=h;have h':v'=_:=h';rw [h,h']
  ·have h:v=_:=h;have h':v'=_:=h';rw [h,h']
  ·cases ht
def tgN:AT→Option Tg
 | .tag (.un 100 a)=>some a
 | _=>none
def zc(a:Tg):AT:=.agg (.cons (.tag (.un 107 a)) (.cons (.tag (.un 100 a)) .nil))
def zs(b:Bool)(a:Tg):AT:=.agg (.cons (.val (.sc (.bool b))) (.cons (.tag (.un 100 a)) .nil))
theorem Tg.beq_eq{a:Tg}:∀{b:Tg},a.beq b=true→a=b:=by
 induction a with
 | leaf n=>intro b h;cases b <;> simp [Tg.beq]at h;rw [h]
 | un k a ih=>intro b h;cases b <;> simp [Tg.beq]at h;rw [h.1,ih h.2]
 | bin k a b ih1 ih2=>intro c h;cases c <;> simp [Tg.beq]at h;rw [h.1.1,ih1 h.1.2,ih2 h.2]
variable {E:Env}
theorem zs9(a:AT)(x:Tg)(h:tgN a=some x)(v:Value)(w:World)(hp:zbm (GN E) a v w):NatI w v (evN E x):=by
 unfold tgN at h;split at h
 ·cases h;exact hp
 ·cases h
theorem zj3(a:Tg)(v:Value)(w:World):zbm (GN E) (zc a) v w↔ZAt w v (evZ E a):=by
 constructor
 ·rintro⟨xs,rfl,x,r,e,h1,y,r2,rfl,h2,h3⟩;have h3:r2 = []:=h3;subst h3;have e':xs=#[x,y]:=Array.toList_inj.1 (by simpa using e);subst e';have h1:x = .bool (decide (evZ E a<0)):=h1;subst h1;exact⟨y,rfl,h2⟩
 ·rintro⟨m,rfl,hm⟩;exact⟨_,rfl,_,_,rfl,rfl,_,_,rfl,hm,rfl⟩
inductive Fact where
 | le (a b:Tg)
 | nz (b:Tg)
 | cmp (a b:Tg) (c:Int)
 | neg (a:Tg) (b:Bool)
def Fact.ok(E:Env):Fact→Prop
 | .le a b=>evN E b≤evN E a
 | .nz b=>evN E b≠0
 | .cmp a b c=>cmpI (evN E a) (evN E b)=c
 | .neg a b=>decide (evZ E a<0)=b
def zsQ(F:List Fact)(a b:Tg):Bool:=F.any fun | .le x y=>a.beq x && b.beq y|_=>false
def zrJ(F:List Fact)(b:Tg):Bool:=F.any fun | .nz y=>b.beq y|_=>false
def zio(F:List Fact)(a b:Tg):Option Int:=F.findSome? fun | .cmp x y c=>bif a.beq x && b.beq y then some c else none|_=>none
def zei(E:Env)(F:List Fact):Prop:=∀f∈F,f.ok E
theorem zrK{F:List Fact}(hF:zei E F){a b:Tg}(h:zsQ F a b=true):evN E b≤evN E a:=by
 unfold zsQ at h;obtain⟨f,hf,h⟩:=List.any_eq_true.1 h;split at h
 ·simp only [Bool.and_eq_true]at h;rw [Tg.beq_eq h.1,Tg.beq_eq h.2];exact hF _ hf
 ·cases h
theorem zoa{F:List Fact}(hF:zei E F){b:Tg}(h:zrJ F b=true):evN E b≠0:=by
 unfold zrJ at h;obtain⟨f,hf,h⟩:=List.any_eq_true.1 h;split at h
 ·rw [Tg.beq_eq h];exact hF _ hf
 ·cases h
theorem zpb{F:List Fact}(hF:zei E F){a b:Tg}{c:Int}(h:zio F a b=some c):cmpI (evN E a) (evN E b)=c:=by
 unfold zio at h;obtain⟨f,hf,h⟩:=List.exists_of_findSome?_eq_some h;split at h
 ·rename_i x y c'
  cases hb:Tg.beq a x && Tg.beq b y with
  | false=>rw [hb]at h;cases h
  | true=>
   rw [hb]at h
   cases h
   simp only [Bool.and_eq_true]at hb;rw [Tg.beq_eq hb.1,Tg.beq_eq hb.2];exact hF _ hf
 ·cases h
def zin(F:List Fact)(a:Tg):Option Bool:=F.findSome? fun | .neg x c=>bif a.beq x then some c else none|_=>none
theorem zjL{F:List Fact}(hF:zei E F){a:Tg}{c:Bool}(h:zin F a=some c):decide (evZ E a<0)=c:=by
 unfold zin at h;obtain⟨f,hf,h⟩:=List.exists_of_findSome?_eq_some h;split at h
 ·rename_i x c'
  cases hb:Tg.beq a x with
  | false=>rw [hb]at h;cases h
  | true=>
   rw [hb]at h
   cases h
   rw [Tg.beq_eq hb];exact hF _ hf
 ·cases h
def zr(F:List Fact)(a:Tg):AT:=match zin F a with|some b=>zs b a|none=>zc a
def tgZ(F:List Fact):AT→Option Tg
 | .agg (.cons (.tag (.un 107 a)) (.cons (.tag (.un 100 b)) .nil))=>bif a.beq b then some a else none
 | .agg (.cons (.val (.sc (.bool b))) (.cons (.tag (.un 100 a)) .nil))=>match zin F a with|some c=>bif beqB b c then some a else none|none=>none
 | _=>none
theorem zsh{a:Tg}{b:Bool}(hb:decide (evZ E a<0)=b)(v:Value)(w:World):zbm (GN E) (zs b a) v w↔ZAt w v (evZ E a):=by
 constructor
 ·rintro⟨xs,rfl,x,r,e,h1,y,r2,rfl,h2,h3⟩;have h3:r2 = []:=h3;subst h3;have e':xs=#[x,y]:=Array.toList_inj.1 (by simpa using e);subst e';have h1:some (Value.bool b)=some x:=h1
  cases h1
  exact⟨y,by rw [hb],h2⟩
 ·rintro⟨m,rfl,hm⟩;exact⟨_,rfl,_,_,rfl,by show some (Value.bool b)=some _;rw [hb],_,_,rfl,hm,rfl⟩
theorem zss{F:List Fact}(hF:zei E F)(a:Tg)(v:Value)(w:World):zbm (GN E) (zr F a) v w↔ZAt w v (evZ E a):=by
 unfold zr
 cases h:zin F a with
 | none=>exact zj3 a v w
 | some b=>exact zsh (zjL hF h) v w
theorem zpC{F:List Fact}(hF:zei E F)(a:AT)(x:Tg)(h:tgZ F a=some x)(v:Value)(w:World)(hp:zbm (GN E) a v w):ZAt w v (evZ E x):=by
 unfold tgZ at h;split at h
 ·rename_i a b
  cases hb:Tg.beq a b with
  | false=>rw [hb]at h;cases h
  | true=>
   rw [hb]at h
   cases h
   have:=Tg.beq_eq hb;subst this;exact(zj3 _ v w).1 hp
 ·rename_i b a;split at h
  ·rename_i c hc
   cases hb:beqB b c with
   | false=>rw [hb]at h;cases h
   | true=>
    rw [hb]at h
    cases h
    have:=znh hb;subst this;exact(zsh (zjL hF hc) v w).1 hp
  ·cases h
 ·cases h
def one(t:Tg):AT:=.cons (.tag t) .nil
def okSz(n:Nat):Bool:=Nat.ble n 10000000
def TN(L:Nat)(F:List Fact):TTab:=
 TTab.or (t2 126 tgN tgN (fun a b=>okSz (sz L a+sz L b)) fun a b=>one (.un 100 (.bin 11 a b))) <|
 TTab.or (t2 128 tgN tgN (fun a b=>okSz (sz L a+sz L b) && zsQ F a b) fun a b=>one (.un 100 (.bin 12 a b))) <|
 TTab.or (t2 129 tgN tgN (fun a b=>okSz (sz L a+sz L b)) fun a b=>one (.un 100 (.bin 13 a b))) <|
 TTab.or (t2 112 tgN tgN (fun a b=>okSz (sz L a+sz L b)) fun a b=>one (.un 100 (.bin 14 a b))) <|
 TTab.or (t2 151 tgN tgN (fun a b=>okSz (sz L a+sz L b) && zrJ F b) fun a b => .cons (.tag (.un 100 (.bin 15 a b))) (.cons (.tag (.un 100 (.bin 16 a b))) .nil)) <|
 TTab.or (t2 127 tgN tgN (fun a b=>(zio F a b).isSome) fun a b=>match zio F a b with|some c => .cons (.val (.sc (.int .i64 c))) .nil|none => .nil) <|
 fun _ _=>none
theorem sz_N{L:Nat}(hE:zkW L E)(a:Tg){M:Nat}(h:sz L a≤M):evN E a<B^M:=Nat.lt_of_lt_of_le (zrW hE a).1 (zag h)
theorem zh2{n:Nat}(h:okSz n=true):n≤10000000:=Nat.le_of_ble_eq_true h
theorem ztu{L:Nat}(hE:zkW L E){F:List Fact}(hF:zei E F):zcb Tryz.prog (GN E) (TN L F):=by
 have mN:=fun a x h v w hp=>zs9 (E:=E) a x h v w hp
 refine zcb.or (zc9 ⟨_,Tryz.func126,rfl⟩ _ _ mN mN ?_) <| zcb.or (zc9 ⟨_,Tryz.func128,rfl⟩ _ _ mN mN ?_) <| zcb.or (zc9 ⟨_,Tryz.func129,rfl⟩ _ _ mN mN ?_) <| zcb.or (zc9 ⟨_,Tryz.func112,rfl⟩ _ _ mN mN ?_) <| zcb.or (zc9 ⟨_,Tryz.func151,rfl⟩ _ _ mN mN ?_) <| zcb.or (zc9 ⟨_,Tryz.func127,rfl⟩ _ _ mN mN ?_) zpt
 ·intro a b hc w v u hv hu;have hs:=zh2 hc;refine(callsIn_wide.1 (zpm w v u _ _ (sz L a+sz L b) hv hu (sz_N hE a (by omega)) (sz_N hE b (by omega)) (by omega))).mono ?_;rintro e w' ⟨r,rfl,⟨h1,_⟩,hb⟩;exact⟨r,rfl,h1,hb⟩
 ·intro a b hc w v u hv hu;simp only [Bool.and_eq_true]at hc;have hs:=zh2 hc.1;refine(callsIn_wide.1 (zjo w v u _ _ (sz L a+sz L b) hv hu (zrK hF hc.2) (sz_N hE a (by omega)) (by omega))).mono ?_;rintro e w' ⟨r,rfl,⟨h1,_⟩,hb⟩;exact⟨r,rfl,h1,hb⟩
 ·intro a b hc w v u hv hu;have hs:=zh2 hc;refine(callsIn_wide.1 (zo2 w v u _ _ (sz L a+sz L b) hv hu (sz_N hE a (by omega)) (sz_N hE b (by omega)) (by omega))).mono ?_;rintro e w' ⟨r,rfl,⟨h1,_⟩,hb⟩;exact⟨r,rfl,h1,hb⟩
 ·intro a b hc w v u hv hu;have hs:=zh2 hc;refine(callsIn_wide.1 (zo7 w v u _ _ (sz L a+sz L b) hv hu (sz_N hE a (by omega)) (sz_N hE b (by omega)) (by omega))).mono ?_;rintro e w' ⟨r,rfl,h1,hb⟩;exact⟨r,rfl,h1,hb⟩
 ·intro a b hc w v u hv hu;simp only [Bool.and_eq_true]at hc;have hs:=zh2 hc.1;have hz:=zoa hF hc.2;refine(callsIn_wide.1 (zjM w v u _ _ (sz L a+sz L b) hv hu (by omega) (sz_N hE a (by omega)) (sz_N hE b (by omega)) (by omega))).mono ?_;rintro e w' ⟨q,r,rfl,h1,h2,hb⟩;exact⟨_,rfl,⟨_,rfl,q,[r],rfl,h1,r,[],rfl,h2,rfl⟩,hb⟩
 ·intro a b hc w v u hv hu;refine(callsIn_wide.1 (zjQ w v u _ _ hv hu)).mono ?_;rintro e w' ⟨rfl,hb⟩;refine⟨_,rfl,?_,hb⟩
  cases hf:zio F a b with
  | none=>rw [hf]at hc;cases hc
  | some c=>
   rw [zpb hF hf];exact rfl
variable {E:Env}
def sc20(b:Bool):Nat:=match b with|true=>21|false=>20
def tInt:TTab:=fun f ts=>
 bif Nat.beq f 75 then
  match ts with
  | .cons (.val (.sc (.bool b))) (.cons (.tag (.un 100 a)) .nil)=>some (.cons (zc (.un (sc20 b) a)) .nil)
  | _=>none
 else none
theorem zrg:zcb Tryz.prog (GN E) tInt:=by
 intro f ts rs q;unfold tInt at q
 cases hf:Nat.beq f 75 with
 | false=>rw [hf]at q;cases q
 | true=>
  rw [hf]at q;have hf:=(zam _ _).1 hf;subst hf;refine⟨⟨_,Tryz.func75,rfl⟩,fun w xs hx => ?_⟩;simp only [cond_true]at q;split at q
  ·rename_i b a
   cases q
   obtain⟨v,r,e,h1,u,r2,e2,h3,h4⟩:=hx;subst e2;have h4:r2 = []:=h4;subst h4;have e':xs=#[v,u]:=Array.toList_inj.1 (by simpa using e);subst e';have h1:some (Value.bool b)=some v:=h1
   cases h1
   refine(callsIn_wide.1 (zdN w b u _ h3)).mono ?_;rintro e w' ⟨v',rfl,hz,hb⟩;refine⟨v',rfl,?_,hb⟩;have:=(zj3 (E:=E) (.un (sc20 b) a) v' w').2 (by cases b <;> exact hz);exact this
  ·cases q
def zsy(F:List Fact):TTab:=t1 72 (tgZ F) (fun _=>true) fun a=>one (.un 109 a)
theorem zk5{F:List Fact}(hF:zei E F):zcb Tryz.prog (GN E) (zsy F):=by
 refine zps ⟨_,Tryz.func72,rfl⟩ _ (fun a x h v w hp=>zpC hF a x h v w hp) ?_;intro x _ w v hv;refine(callsIn_wide.1 (zme w v _ hv)).mono ?_;rintro e w' ⟨rfl,hb⟩;exact⟨_,rfl,rfl,hb⟩
def TZ0(F:List Fact):TTab:=TTab.or (TN 100000 F) (TTab.or tInt (zsy F))
theorem zpx(hE:zkW 100000 E){F:List Fact}(hF:zei E F):zcb Tryz.prog (GN E) (TZ0 F):=.or (ztu hE hF) (.or zrg (zk5 hF))
theorem zpn{w:World}{v:Value}{z:Int}(h:ZAt w v z){b:Bool}(hb:decide (z<0)=b){k:Nat}(hz:E.z k=z):zbm (GN E) (zs b (.leaf k)) v w:=by
 obtain⟨m,rfl,hm⟩:=h;rw [hb];refine⟨_,rfl,_,_,rfl,rfl,m,[],rfl,?_,rfl⟩;show NatI w m (E.z k).natAbs
 rw [hz];exact hm
theorem zc8{w:World}{v:Value}{z:Int}(h:ZAt w v z){k:Nat}(hz:E.z k=z):zbm (GN E) (zc (.leaf k)) v w:=(zj3 _ v w).2 (by
 show ZAt w v (E.z k)
 rw [hz];exact h)
def envZ(x y:Int):Env:=⟨fun k=>if k=0 then x else y,fun _=>0⟩
theorem zm8{x y:Int}(hx:x.natAbs<B^100000)(hy:y.natAbs<B^100000):zkW 100000 (envZ x y):=⟨by omega,fun k=>⟨by
 show(if k=0 then x else y).natAbs<_
 split <;> assumption,zb5 (by omega)⟩⟩
theorem zbZ:zei E []:=fun _ h=>by cases h
theorem znU{t:AT}{x:Value}{w:World}{G:Sett}(h:zdk G (.cons t .nil) x w):zbm G t x w:=h
theorem zoB(w:World)(v:Value)(z:Int)(h:ZAt w v z)(hz:z.natAbs<B^100000) :
  CallsIn Fence.wide 0 Tryz.prog 85 #[v] w fun e w'=>∃v',e = .returned v'∧ZAt w' v' (-z)∧Below w.heap.size w w':=by
 refine callsIn_wide.2 ?_;have hT:=zpx (zm8 hz hz) (zbZ (E:=envZ z z))
 cases hb:decide (z<0)with
 | true=>
  have hr:runF Tryz.prog clsN (TZ0 []) [3,111] [] 50 85 (.cons (zs true (.leaf 0)) .nil)=some (.cons (zc (.un 20 (.leaf 0))) .nil):=by kernel_rfl
  refine(zhL zaz zai (zmv _) rfl hT (by simp) hr ⟨v,[],rfl,zpn h hb rfl,rfl⟩).mono ?_;rintro e w' ⟨x,rfl,hp,hB⟩;refine⟨x,rfl,?_,hB⟩;have:=(zj3 _ x w').1 (znU hp);have hlt:=of_decide_eq_true hb;have e:evZ (envZ z z) (.un 20 (.leaf 0)) = -z:=by show sgn false z.natAbs = -z;unfold sgn;simp;omega
  rw [e]at this;exact this
 | false=>
  have hr:runF Tryz.prog clsN (TZ0 []) [3,111] [] 50 85 (.cons (zs false (.leaf 0)) .nil)=some (.cons (zc (.un 21 (.leaf 0))) .nil):=by kernel_rfl
  refine(zhL zaz zai (zmv _) rfl hT (by simp) hr ⟨v,[],rfl,zpn h hb rfl,rfl⟩).mono ?_;rintro e w' ⟨x,rfl,hp,hB⟩;refine⟨x,rfl,?_,hB⟩;have:=(zj3 _ x w').1 (znU hp);have hlt:=of_decide_eq_false hb;have e:evZ (envZ z z) (.un 21 (.leaf 0)) = -z:=by show sgn true z.natAbs = -z;unfold sgn;simp;omega
  rw [e]at this;exact this
theorem runZ{T:TTab}(hT:zcb Tryz.prog (GN E) T){n:Nat}{f:FuncId}{ts r:AT}(hr:runF Tryz.prog clsN T [3,111] [] n f ts=some (.cons r .nil)){w:World}{xs:Array Value}(hx:zb2 (GN E) ts xs.toList w) :
  CallsIn Fence.wide 0 Tryz.prog f xs w fun e w'=>∃v',e = .returned v'∧zbm (GN E) r v' w'∧Below w.heap.size w w':=by
 refine callsIn_wide.2 ((zhL zaz zai (zmv _) rfl hT (by simp) hr hx).mono ?_);rintro e w' ⟨x,rfl,hp,hB⟩;exact⟨x,rfl,hp,hB⟩
abbrev l0:Tg:=.leaf 0
abbrev l1:Tg:=.leaf 1
theorem zfi{x y z:Int}(hx:x.natAbs<B^100000)(hy:y.natAbs<B^100000){w:World}{u v:Value}(hu:ZAt w u x)(hv:ZAt w v y){F:List Fact}(hF:zei (envZ x y) F){n:Nat}{f:FuncId}{bx by':Bool}(hbx:decide (x<0)=bx)(hby:decide (y<0)=by'){r:Tg}
  (hr:runF Tryz.prog clsN (TZ0 F) [3,111] [] n f (.cons (zs bx l0) (.cons (zs by' l1) .nil))=some (.cons (zc r) .nil)) (he:evZ (envZ x y) r=z) :
  CallsIn Fence.wide 0 Tryz.prog f #[u,v] w fun e w'=>∃v',e = .returned v'∧ZAt w' v' z∧Below w.heap.size w w':=by
 refine(runZ (zpx (zm8 hx hy) hF) hr (xs:=#[u,v]) ⟨u,[v],rfl,zpn hu hbx rfl,v,[],rfl,zpn hv hby rfl,rfl⟩).mono ?_;rintro e w' ⟨v',rfl,hp,hB⟩;refine⟨v',rfl,?_,hB⟩;rw [←he];exact(zj3 _ v' w').1 hp
theorem zoD(w:World)(u v:Value)(x y:Int)(hu:ZAt w u x)(hv:ZAt w v y)(hx:x.natAbs<B^100000)(hy:y.natAbs<B^100000) :
  CallsIn Fence.wide 0 Tryz.prog 91 #[u,v] w fun e w'=>∃v',e = .returned v'∧ZAt w' v' (x+y)∧Below w.heap.size w w':=by
 cases hbx:decide (x<0) <;> cases hby:decide (y<0)
 ·have h1:=of_decide_eq_false hbx;have h2:=of_decide_eq_false hby;exact zfi hx hy hu hv zbZ (n:=50) (r:=.un 20 (.bin 11 l0 l1)) hbx hby (by kernel_rfl) (by show sgn false ((x.natAbs+y.natAbs:Nat):Int).natAbs=x+y;unfold sgn;simp;omega)
 ·have h1:=of_decide_eq_false hbx;have h2:=of_decide_eq_true hby;by_cases hc:y.natAbs≤x.natAbs
  ·have hF:∀c,cmpI x.natAbs y.natAbs=c→zei (envZ x y) [.cmp l0 l1 c,.le l0 l1]:=by
    intro c hc' f hf;rcases List.mem_cons.1 hf with rfl|hf
    ·exact hc'
    ·rcases List.mem_cons.1 hf with rfl|hf
     ·exact hc
     ·cases hf
   have he:evZ (envZ x y) (.un 20 (.bin 12 l0 l1))=x+y:=by show sgn false ((x.natAbs-y.natAbs:Nat):Int).natAbs=x+y;unfold sgn;simp;omega
   rcases Nat.lt_or_ge y.natAbs x.natAbs with hlt|hge
   ·exact zfi hx hy hu hv (hF 1 (zkL hlt)) (n:=50) hbx hby (by kernel_rfl) he
   ·exact zfi hx hy hu hv (hF 0 (by rw [show x.natAbs=y.natAbs by omega];exact znd)) (n:=50) hbx hby (by kernel_rfl) he
  ·have hF:zei (envZ x y) [.cmp l0 l1 (-1),.le l1 l0]:=by
    intro f hf;rcases List.mem_cons.1 hf with rfl|hf
    ·exact ziF (by show x.natAbs<y.natAbs;omega)
    ·rcases List.mem_cons.1 hf with rfl|hf
     ·show x.natAbs≤y.natAbs;omega
     ·cases hf
   exact zfi hx hy hu hv hF (n:=50) (r:=.un 21 (.bin 12 l1 l0)) hbx hby (by kernel_rfl) (by show sgn true ((y.natAbs-x.natAbs:Nat):Int).natAbs=x+y;unfold sgn;simp;omega)
 ·have h1:=of_decide_eq_true hbx;have h2:=of_decide_eq_false hby;by_cases hc:y.natAbs≤x.natAbs
  ·have hF:∀c,cmpI x.natAbs y.natAbs=c→zei (envZ x y) [.cmp l0 l1 c,.le l0 l1]:=by
    intro c hc' f hf;rcases List.mem_cons.1 hf with rfl|hf
    ·exact hc'
    ·rcases List.mem_cons.1 hf with rfl|hf
     ·exact hc
     ·cases hf
   have he:evZ (envZ x y) (.un 21 (.bin 12 l0 l1))=x+y:=by show sgn true ((x.natAbs-y.natAbs:Nat):Int).natAbs=x+y;unfold sgn;simp;omega
   rcases Nat.lt_or_ge y.natAbs x.natAbs with hlt|hge
   ·exact zfi hx hy hu hv (hF 1 (zkL hlt)) (n:=50) hbx hby (by kernel_rfl) he
   ·exact zfi hx hy hu hv (hF 0 (by rw [show x.natAbs=y.natAbs by omega];exact znd)) (n:=50) hbx hby (by kernel_rfl) he
  ·have hF:zei (envZ x y) [.cmp l0 l1 (-1),.le l1 l0]:=by
    intro f hf;rcases List.mem_cons.1 hf with rfl|hf
    ·exact ziF (by show x.natAbs<y.natAbs;omega)
    ·rcases List.mem_cons.1 hf with rfl|hf
     ·show x.natAbs≤y.natAbs;omega
     ·cases hf
   exact zfi hx hy hu hv hF (n:=50) (r:=.un 20 (.bin 12 l1 l0)) hbx hby (by kernel_rfl) (by show sgn false ((y.natAbs-x.natAbs:Nat):Int).natAbs=x+y;unfold sgn;simp;omega)
 ·have h1:=of_decide_eq_true hbx;have h2:=of_decide_eq_true hby;exact zfi hx hy hu hv zbZ (n:=50) (r:=.un 21 (.bin 11 l0 l1)) hbx hby (by kernel_rfl) (by show sgn true ((x.natAbs+y.natAbs:Nat):Int).natAbs=x+y;unfold sgn;simp;omega)
theorem zoC(w:World)(u v:Value)(x y:Int)(hu:ZAt w u x)(hv:ZAt w v y)(hx:x.natAbs<B^100000)(hy:y.natAbs<B^100000) :
  CallsIn Fence.wide 0 Tryz.prog 92 #[u,v] w fun e w'=>∃v',e = .returned v'∧ZAt w' v' (x*y)∧Below w.heap.size w w':=by
 have hp:=zbl;have hsx:∀b,decide (x<0)=b→sgn b x.natAbs=x:=fun b hb=>by subst hb;unfold sgn;simp;omega
 have hsy:∀b,decide (y<0)=b→sgn b y.natAbs=y:=fun b hb=>by subst hb;unfold sgn;simp;omega
 cases hbx:decide (x<0) <;> cases hby:decide (y<0)
 ·exact zfi hx hy hu hv zbZ (n:=50) (r:=.un 20 (.bin 13 l0 l1)) hbx hby (by kernel_rfl) (by show sgn false ((x.natAbs*y.natAbs:Nat):Int).natAbs=x*y;rw [Int.natAbs_natCast,←hsx _ hbx,←hsy _ hby,zhJ,zbl,zbl];rfl)
 ·exact zfi hx hy hu hv zbZ (n:=50) (r:=.un 21 (.bin 13 l0 l1)) hbx hby (by kernel_rfl) (by show sgn true ((x.natAbs*y.natAbs:Nat):Int).natAbs=x*y;rw [Int.natAbs_natCast,←hsx _ hbx,←hsy _ hby,zhJ,zbl,zbl];rfl)
 ·exact zfi hx hy hu hv zbZ (n:=50) (r:=.un 21 (.bin 13 l0 l1)) hbx hby (by kernel_rfl) (by show sgn true ((x.natAbs*y.natAbs:Nat):Int).natAbs=x*y;rw [Int.natAbs_natCast,←hsx _ hbx,←hsy _ hby,zhJ,zbl,zbl];rfl)
 ·exact zfi hx hy hu hv zbZ (n:=50) (r:=.un 20 (.bin 13 l0 l1)) hbx hby (by kernel_rfl) (by show sgn false ((x.natAbs*y.natAbs:Nat):Int).natAbs=x*y;rw [Int.natAbs_natCast,←hsx _ hbx,←hsy _ hby,zhJ,zbl,zbl];rfl)
theorem zoA(w:World)(u v:Value)(x y:Int)(hu:ZAt w u x)(hv:ZAt w v y)(hx:x.natAbs<B^100000)(hy:y.natAbs<B^100000)(hy0:y.natAbs≠0) :
  CallsIn Fence.wide 0 Tryz.prog 119 #[u,v] w fun e w'=>∃v',e = .returned v'∧ZAt w' v' (sgn (decide (x<0) != decide (y<0)) (x.natAbs/y.natAbs))∧Below w.heap.size w w':=by
 have hF:zei (envZ x y) [.nz l1]:=by
  intro f hf;rcases List.mem_cons.1 hf with rfl|hf
  ·exact hy0
  ·cases hf
 cases hbx:decide (x<0) <;> cases hby:decide (y<0)
 ·exact zfi hx hy hu hv hF (n:=50) (r:=.un 20 (.bin 15 l0 l1)) hbx hby (by kernel_rfl) rfl
 ·exact zfi hx hy hu hv hF (n:=50) (r:=.un 21 (.bin 15 l0 l1)) hbx hby (by kernel_rfl) rfl
 ·exact zfi hx hy hu hv hF (n:=50) (r:=.un 21 (.bin 15 l0 l1)) hbx hby (by kernel_rfl) rfl
 ·exact zfi hx hy hu hv hF (n:=50) (r:=.un 20 (.bin 15 l0 l1)) hbx hby (by kernel_rfl) rfl
theorem zgk(w:World)(u v:Value)(x y:Int)(hu:ZAt w u x)(hv:ZAt w v y)(hx:x.natAbs<B^100000)(hy:y.natAbs<B^100000) :
  CallsIn Fence.wide 0 Tryz.prog 70 #[u,v] w fun e w'=>∃v',e = .returned v'∧ZAt w' v' ((Nat.gcd x.natAbs y.natAbs:Nat):Int)∧Below w.heap.size w w':=by
 refine(runZ (zpx (zm8 hx hy) zbZ) (n:=50) (r:=zc (.un 20 (.bin 14 l0 l1))) (ts:=.cons (zc l0) (.cons (zc l1) .nil)) (by kernel_rfl) (xs:=#[u,v]) ⟨u,[v],rfl,zc8 hu rfl,v,[],rfl,zc8 hv rfl,rfl⟩).mono ?_;rintro e w' ⟨v',rfl,hp,hB⟩;exact⟨v',rfl,(zj3 _ v' w').1 hp,hB⟩
def okZ(n:Nat):Bool:=Nat.ble n 100000
def TZ(L:Nat)(F:List Fact):TTab:=
 TTab.or (t1 85 (tgZ F) (fun a=>okZ (sz L a)) fun a => .cons (zr F (.un 1 a)) .nil) <|
 TTab.or (t2 91 (tgZ F) (tgZ F) (fun a b=>okZ (sz L a) && okZ (sz L b)) fun a b => .cons (zr F (.bin 1 a b)) .nil) <|
 TTab.or (t2 92 (tgZ F) (tgZ F) (fun a b=>okZ (sz L a) && okZ (sz L b)) fun a b => .cons (zr F (.bin 3 a b)) .nil) <|
 TTab.or (t2 119 (tgZ F) (tgZ F) (fun a b=>okZ (sz L a) && okZ (sz L b) && zrJ F b) fun a b => .cons (zr F (.bin 17 a b)) .nil) <|
 TTab.or (t2 70 (tgZ F) (tgZ F) (fun a b=>okZ (sz L a) && okZ (sz L b)) fun a b => .cons (zr F (.bin 14 a b)) .nil) <|
 zsy F
theorem zf3{L:Nat}(hE:zkW L E){a:Tg}(h:okZ (sz L a)=true):(evZ E a).natAbs<B^100000:=zaX 100000 (zrW hE a).1 (Nat.le_of_ble_eq_true h)
theorem zs8{L:Nat}(hE:zkW L E){F:List Fact}(hF:zei E F):zcb Tryz.prog (GN E) (TZ L F):=by
 have mZ:=fun a x h v w hp=>zpC (E:=E) hF a x h v w hp
 have fin:∀{w:World} {z:Tg},(fun (e:Ending) (w':World)=>∃v',e = .returned v'∧ZAt w' v' (evZ E z)∧Below w.heap.size w w')=fun e w'=>∃v',e = .returned v'∧zdk (GN E) (.cons (zr F z) .nil) v' w'∧Below w.heap.size w w':=by
  intro w z
  funext e w'
  apply propext
  constructor
  ·rintro⟨v',h1,h2,h3⟩;exact⟨v',h1,(zss hF z v' w').2 h2,h3⟩
  ·rintro⟨v',h1,h2,h3⟩;exact⟨v',h1,(zss hF z v' w').1 h2,h3⟩
 refine zcb.or (zps ⟨_,Tryz.func85,rfl⟩ _ mZ ?_) <| zcb.or (zc9 ⟨_,Tryz.func91,rfl⟩ _ _ mZ mZ ?_) <| zcb.or (zc9 ⟨_,Tryz.func92,rfl⟩ _ _ mZ mZ ?_) <| zcb.or (zc9 ⟨_,Tryz.func119,rfl⟩ _ _ mZ mZ ?_) <| zcb.or (zc9 ⟨_,Tryz.func70,rfl⟩ _ _ mZ mZ ?_) (zk5 hF)
 ·intro a hc w v hv;rw [←fin];exact callsIn_wide.1 (zoB w v _ hv (zf3 hE hc))
 ·intro a b hc w v u hv hu;simp only [Bool.and_eq_true]at hc;rw [←fin];exact callsIn_wide.1 (zoD w v u _ _ hv hu (zf3 hE hc.1) (zf3 hE hc.2))
 ·intro a b hc w v u hv hu;simp only [Bool.and_eq_true]at hc;rw [←fin];exact callsIn_wide.1 (zoC w v u _ _ hv hu (zf3 hE hc.1) (zf3 hE hc.2))
 ·intro a b hc w v u hv hu;simp only [Bool.and_eq_true]at hc;rw [←fin];exact callsIn_wide.1 (zoA w v u _ _ hv hu (zf3 hE hc.1.1) (zf3 hE hc.1.2) (zoa hF hc.2))
 ·intro a b hc w v u hv hu;simp only [Bool.and_eq_true]at hc;rw [←fin];exact callsIn_wide.1 (zgk w v u _ _ hv hu (zf3 hE hc.1) (zf3 hE hc.2))
theorem zho{L:Nat}(hL:0<L){x y:Int}(hx:x.natAbs<B^L)(hy:y.natAbs<B^L):zkW L (envZ x y):=⟨hL,fun k=>⟨by
 show(if k=0 then x else y).natAbs<_
 split <;> assumption,zb5 hL⟩⟩
theorem zoz(w:World)(u v:Value)(x y:Int)(hu:ZAt w u x)(hv:ZAt w v y)(hx:x.natAbs<B^50000)(hy:y.natAbs<B^50000) :
  CallsIn Fence.wide 0 Tryz.prog 95 #[u,v] w fun e w'=>∃v',e = .returned v'∧ZAt w' v' (x-y)∧Below w.heap.size w w':=by
 refine(runZ (zs8 (L:=50000) (zho (by omega) hx hy) zbZ) (n:=50) (r:=zc (.bin 1 l0 (.un 1 l1))) (ts:=.cons (zc l0) (.cons (zc l1) .nil)) (by kernel_rfl) (xs:=#[u,v]) ⟨u,[v],rfl,zc8 hu rfl,v,[],rfl,zc8 hv rfl,rfl⟩).mono ?_;rintro e w' ⟨v',rfl,hp,hB⟩;exact⟨v',rfl,(zj3 _ v' w').1 hp,hB⟩
variable {E:Env}
def TZ2(L:Nat)(F:List Fact):TTab:=TTab.or (t2 95 (tgZ F) (tgZ F) (fun a b=>Nat.ble (sz L a) 50000 && Nat.ble (sz L b) 50000) fun a b => .cons (zr F (.bin 2 a b)) .nil) (TZ L F)
theorem zpw{L:Nat}(hE:zkW L E){F:List Fact}(hF:zei E F):zcb Tryz.prog (GN E) (TZ2 L F):=by
 have mZ:=fun a x h v w hp=>zpC (E:=E) hF a x h v w hp
 refine zcb.or (zc9 ⟨_,Tryz.func95,rfl⟩ _ _ mZ mZ ?_) (zs8 hE hF);intro a b hc w v u hv hu;simp only [Bool.and_eq_true]at hc;refine(callsIn_wide.1 (zoz w v u _ _ hv hu (zaX 50000 (zrW hE a).1 (Nat.le_of_ble_eq_true hc.1)) (zaX 50000 (zrW hE b).1 (Nat.le_of_ble_eq_true hc.2)))).mono ?_;rintro e w' ⟨v',rfl,hz,hb⟩;exact⟨v',rfl,(zss hF _ v' w').2 hz,hb⟩
theorem zc3(w:World)(u v:Value)(x y:Int)(hu:ZAt w u x)(hv:ZAt w v y)(hx:x.natAbs<B^50000)(hy:y.natAbs<B^50000) :
  CallsIn Fence.wide 0 Tryz.prog 69 #[u,v] w fun e w'=>e = .returned (.int .i64 (x-y).sign)∧Below w.heap.size w w':=by
 refine(runZ (zpw (L:=50000) (zho (by omega) hx hy) zbZ) (n:=50) (r:=.tag (.un 109 (.bin 2 l0 l1))) (ts:=.cons (zc l0) (.cons (zc l1) .nil)) (by kernel_rfl) (xs:=#[u,v]) ⟨u,[v],rfl,zc8 hu rfl,v,[],rfl,zc8 hv rfl,rfl⟩).mono ?_;rintro e w' ⟨v',rfl,hp,hB⟩;have hp:v' = .int .i64 (x-y).sign:=hp;exact⟨by rw [hp],hB⟩
def QAt(w:World)(v:Value)(q:Rat):Prop:=∃m1 m2,v = .agg #[.bool (decide (q.num<0)),m1,.bool false,m2]∧NatI w m1 q.num.natAbs∧NatI w m2 q.den
theorem QAt.below{w w':World}{v:Value}{q:Rat}(h:QAt w v q)(hb:Below w.heap.size w w'):QAt w' v q:=by
 obtain⟨m1,m2,e,h1,h2⟩:=h;exact⟨m1,m2,e,h1.below hb,h2.below hb⟩
def zqT(a b:AT):AT:=
 match a,b with
 | .agg (.cons x (.cons y .nil)),.agg (.cons z (.cons u .nil)) => .agg (.cons x (.cons y (.cons z (.cons u .nil))))
 | _,_ => .nil
theorem zrI{x y:Int}(_hy:y≠0):((x:Rat)/(y:Rat))=frac (decide (x<0) != decide (y<0)) x.natAbs y.natAbs:=by
 have h1:(x:Rat)=frac (decide (x<0)) x.natAbs 1:=(zcL (x:Rat)).symm;have h2:(y:Rat)=frac (decide (y<0)) y.natAbs 1:=(zcL (y:Rat)).symm;rw [h1,h2,zlN,Nat.mul_one,Nat.one_mul]
theorem zoT{x y:Int}(hy:y≠0):((x:Rat)/(y:Rat)).num=sgn (decide (x<0) != decide (y<0)) (x.natAbs/Nat.gcd x.natAbs y.natAbs)∧((x:Rat)/(y:Rat)).den=y.natAbs/Nat.gcd x.natAbs y.natAbs:=by
 have hp:=zdO (neg:=decide (x<0) != decide (y<0)) (n:=x.natAbs) (d:=y.natAbs) (by omega);rw [zrI hy];rw [Nat.gcd_comm y.natAbs]at hp;obtain⟨h1,h2,h3⟩:=hp;refine⟨?_,h2⟩;obtain⟨q,hq⟩:∃q,(frac (decide (x<0) != decide (y<0)) x.natAbs y.natAbs).num=q:=⟨_,rfl⟩;rw [hq]at h1 h3 ⊢;obtain⟨b,hb⟩:∃b,(decide (x<0) != decide (y<0))=b:=⟨_,rfl⟩;rw [hb]at h3 ⊢;rw [←h1]
 cases b with
 | false=>unfold sgn;simp at h3 ⊢;omega
 | true=>
  unfold sgn;simp at h3 ⊢
  by_cases hx:x=0
  ·subst hx;simp at h1 h3
   omega
  ·have:=h3.2 hx;omega
theorem zmD(w:World)(u v:Value)(x y:Int)(hu:ZAt w u x)(hv:ZAt w v y)(hx:x.natAbs<B^20000)(hy:y.natAbs<B^20000)(hy0:y≠0) :
  CallsIn Fence.wide 0 Tryz.prog 77 #[u,v] w fun e w'=>∃v',e = .returned v'∧QAt w' v' ((x:Rat)/(y:Rat))∧Below w.heap.size w w':=by
 have hg:Nat.gcd x.natAbs y.natAbs≠0:=by
  intro h;have:=Nat.eq_zero_of_gcd_eq_zero_right h;omega
 obtain⟨hn,hd⟩:=zoT (x:=x) hy0;have hdiv:=Nat.div_pos (Nat.le_of_dvd (by omega) (Nat.gcd_dvd_right x.natAbs y.natAbs)) (Nat.pos_of_ne_zero hg);have hF:∀b,decide (y<0)=b→zei (envZ x y) [.nz (.bin 14 l0 l1),.neg (.bin 17 l1 (.bin 14 l0 l1)) b]:=by
  intro b hb f hf;rcases List.mem_cons.1 hf with rfl|hf
  ·exact hg
  ·rcases List.mem_cons.1 hf with rfl|hf
   ·show decide (sgn (decide (y<0) != decide (((Nat.gcd x.natAbs y.natAbs:Nat):Int)<0)) (y.natAbs/Nat.gcd x.natAbs y.natAbs)<0)=b
    have e:decide (((Nat.gcd x.natAbs y.natAbs:Nat):Int)<0)=false:=decide_eq_false (by omega);rw [e,hb]
    cases b with
    | false=>exact decide_eq_false (by rw [zgq];simp)
    | true=>exact decide_eq_true (by rw [zgq];exact⟨rfl,hdiv⟩)
   ·cases hf
 have e0:decide (((Nat.gcd x.natAbs y.natAbs:Nat):Int)<0)=false:=decide_eq_false (by omega)
 cases hby:decide (y<0)with
 | false=>
  refine(runZ (zpw (L:=20000) (zho (by omega) hx hy) (hF _ hby)) (n:=60) (r:=zqT (zc (.bin 17 l0 (.bin 14 l0 l1))) (zs false (.bin 17 l1 (.bin 14 l0 l1)))) (ts:=.cons (zc l0) (.cons (zc l1) .nil)) (by kernel_rfl) (xs:=#[u,v]) ⟨u,[v],rfl,zc8 hu rfl,v,[],rfl,zc8 hv rfl,rfl⟩).mono ?_;rintro e w' ⟨v',rfl,⟨xs,rfl,a,r,e1,h1,b,r2,rfl,h2,c,r3,rfl,h3,d,r4,rfl,h4,h5⟩,hB⟩;have h5:r4 = []:=h5;subst h5;have e':xs=#[a,b,c,d]:=Array.toList_inj.1 (by simpa using e1);subst e';have h3:some (Value.bool false)=some c:=h3
  cases h3
  have en:evZ (envZ x y) (.bin 17 l0 (.bin 14 l0 l1))=((x:Rat)/(y:Rat)).num:=by
   rw [hn,hby];show sgn (decide (x<0) != decide (((Nat.gcd x.natAbs y.natAbs:Nat):Int)<0)) (x.natAbs/Nat.gcd x.natAbs y.natAbs)=_
   rw [e0]
  have ed:evN (envZ x y) (.bin 17 l1 (.bin 14 l0 l1))=((x:Rat)/(y:Rat)).den:=by
   rw [hd];exact zbl _ _
  refine⟨_,rfl,⟨b,d,?_,?_,?_⟩,hB⟩
  ·have h1:a = .bool (decide (evZ (envZ x y) (.bin 17 l0 (.bin 14 l0 l1))<0)):=h1;rw [h1,en]
  ·rw [←en];exact h2
  ·rw [←ed];exact h4
 | true=>
  refine(runZ (zpw (L:=20000) (zho (by omega) hx hy) (hF _ hby)) (n:=60) (r:=zqT (zc (.un 1 (.bin 17 l0 (.bin 14 l0 l1)))) (zc (.un 1 (.bin 17 l1 (.bin 14 l0 l1))))) (ts:=.cons (zc l0) (.cons (zc l1) .nil)) (by kernel_rfl) (xs:=#[u,v]) ⟨u,[v],rfl,zc8 hu rfl,v,[],rfl,zc8 hv rfl,rfl⟩).mono ?_;rintro e w' ⟨v',rfl,⟨xs,rfl,a,r,e1,h1,b,r2,rfl,h2,c,r3,rfl,h3,d,r4,rfl,h4,h5⟩,hB⟩;have h5:r4 = []:=h5;subst h5;have e':xs=#[a,b,c,d]:=Array.toList_inj.1 (by simpa using e1);subst e';have en:evZ (envZ x y) (.un 1 (.bin 17 l0 (.bin 14 l0 l1)))=((x:Rat)/(y:Rat)).num:=by
   rw [hn,hby];show -sgn (decide (x<0) != decide (((Nat.gcd x.natAbs y.natAbs:Nat):Int)<0)) (x.natAbs/Nat.gcd x.natAbs y.natAbs)=_
   rw [e0]
   cases decide (x<0) <;> simp [sgn]
  have ez:evZ (envZ x y) (.un 1 (.bin 17 l1 (.bin 14 l0 l1)))=((y.natAbs/Nat.gcd x.natAbs y.natAbs:Nat):Int):=by
   show -sgn (decide (y<0) != decide (((Nat.gcd x.natAbs y.natAbs:Nat):Int)<0)) (y.natAbs/Nat.gcd x.natAbs y.natAbs)=_
   rw [e0,hby];simp [sgn]
  have ed:evN (envZ x y) (.un 1 (.bin 17 l1 (.bin 14 l0 l1)))=((x:Rat)/(y:Rat)).den:=by
   rw [hd];show(evZ (envZ x y) (.un 1 (.bin 17 l1 (.bin 14 l0 l1)))).natAbs=_
   rw [ez];rfl
  refine⟨_,rfl,⟨b,d,?_,?_,?_⟩,hB⟩
  ·have h1:a = .bool (decide (evZ (envZ x y) (.un 1 (.bin 17 l0 (.bin 14 l0 l1)))<0)):=h1;have h3:c = .bool (decide (evZ (envZ x y) (.un 1 (.bin 17 l1 (.bin 14 l0 l1)))<0)):=h3;rw [h1,en,h3,ez];have:decide (((y.natAbs/Nat.gcd x.natAbs y.natAbs:Nat):Int)<0)=false:=decide_eq_false (by omega);rw [this]
  ·rw [←en];exact h2
  ·rw [←ed];exact h4
end Go.Num
namespace Go.Num
open Go.Eng Go.RowKit Go.Proofs Go.Proofs.YtoamcgjbelhnkaaGreatDoor
theorem zjh(n:Int)(h1 : -9223372036854775808≤n)(h2:n≤9223372036854775807)(h:0≤n):IntKind.u64.wrap n=(n.natAbs:Int):=by
 have e:IntKind.u64.wrap n=n%18446744073709551616:=rfl;rw [e];omega
theorem zjg(n:Int)(h1 : -9223372036854775808≤n)(h:n<0):IntKind.u64.wrap n=n+18446744073709551616:=by
 have e:IntKind.u64.wrap n=n%18446744073709551616:=rfl;rw [e];omega
theorem zpp(n:Int)(h1 : -9223372036854775808≤n)(h:n<0):IntKind.u64.wrap (-(n+18446744073709551616))=(n.natAbs:Int):=by
 have e:IntKind.u64.wrap (-(n+18446744073709551616))=(-(n+18446744073709551616))%18446744073709551616:=rfl;rw [e];omega
theorem zki{fn:Func}{p:Tmp}{ty:TypeId}{R:Ending→World→Prop}{a:Act}{w:World}{cs:List Value}{n:Nat}(h:fn.results=#[.cell p ty])(hd:a.defers = [])(g:Nat)(hp:a.tmps.getD p undef = .pointer (some ⟨g,0,none⟩))
  (hl:zfH Tryz.prog ty n) (hn:cs.length=n) (hc:∀j v,cs[j]? = some v→World.cell? w ⟨g,j,none⟩=some v) (hR:R (.returned (.agg cs.toArray)) w):bodyPost Tryz.prog fn R .ret a w:=by
 refine⟨hd,.agg cs.toArray,?_,hR⟩;have:=hl g cs w hn hc;simp only [Instr.loadAt,Instr.sureAddr,Sem.run_bind,Sem.run_pure,Result.andThen_ok]at this;have hp2:a.tmps[p]?.getD undef = .pointer (some ⟨g,0,none⟩):=by rw [←Array.getD_eq_getD_getElem?];exact hp
 simp [results,h,hp2,asAddr,this]
theorem NatI.setElem{w:World}{v u:Value}{x g i:Nat}{e:TypeId}(h:NatI w v x)(hE:Elem w g e)(he:e≠3):NatI (w.setCell ⟨g,i,none⟩ u) v x:=by
 obtain⟨k,hk,hl⟩:=h;refine⟨k,hk,?_⟩;rcases hl with h|⟨a,cap,rfl,h2,h3,h4,h5,h6⟩
 ·exact .inl h
 ·have hne:a.block≠g:=h5.ne hE (Ne.symm he);refine .inr ⟨a,cap,rfl,h2,h3,h4,h5.setCell _ _,fun j hj => ?_⟩;rw [World.cell?_setCell_other _ _ _ _ (by intro q;exact hne (by rw [←zac a j];exact(congrArg Addr.block q).symm))];exact h6 j hj
theorem l32:zfH Tryz.prog 32 2:=zgC (by kernel_rfl) (by kernel_rfl)
theorem zcf(w:World)(n:Int)(h1 : -9223372036854775808≤n)(h2:n≤9223372036854775807) :
  CallsIn Fence.wide 0 Tryz.prog 22 #[.int .i64 n] w fun e w'=>∃v',e = .returned v'∧ZAt w' v' n∧Below w.heap.size w w':=by
 obtain⟨N,hN⟩:∃N,n.natAbs=N:=⟨_,rfl⟩;have hNs:N<18446744073709551616:=by omega
 refine callsIn_of_wp Tryz.func22 rfl trivial ?_ rfl;simp only [Tryz.ntmps22,ztE,ztF,ztG,Nat.reduceAdd,Nat.reduceSub,ztH,ztI,ztJ,ztK,ztL,ztM];by_cases h0:n<0
 case' pos=>
  have e1:=zjg n h1 h0;have e2:=zpp n h1 h0;have HS:Hid (sgn true N=n):=zHi (by unfold sgn;simp;omega);have hb:decide (n<0)=true:=decide_eq_true h0
 case' neg=>
  have e1:=zjh n h1 h2 (by omega);have HS:Hid (sgn false N=n):=zHi (by unfold sgn;simp;omega);have hb:decide (n<0)=false:=decide_eq_false h0
 all_goals
  first|rw [hN]at e2|rw [hN]at e1
  gi_wp2;obtain⟨W1,hW1⟩:∃W,W=w.alloc (.cells #[.bool false,.slice none 0 0] 32):=⟨_,rfl⟩;rw [←hW1];have HBW:Hid (Below w.heap.size w W1):=zHi (by rw [hW1];exact zaa _ _);have HA1:Hid (zaf W1 w.heap.size 2 fun i=>if i=0 then .bool false else .slice none 0 0):=zHi (by
   rw [hW1];refine zaf.new _ _ _ fun i hi => ?_
   match i,hi with
   | 0,_=>rfl
   | 1,_=>rfl)
  have HE1:Hid (Elem W1 w.heap.size 32):=zHi (by rw [hW1];exact zaA _ _ _);obtain⟨g,hg⟩:∃g,w.heap.size=g:=⟨_,rfl⟩;have hgl:g<W1.heap.size:=by rw [hW1,←hg];simp
  have hgw:w.heap.size≤g:=by omega
  rw [hg]at HA1 HE1;rw [hg];clear hg;have HO4:Hid (W1.ownsRow W1.heap.size 3 1 (.slice none 0 0) 0 (za2 N 0)):=World.ownsRow_nil _ _ _ _;have HB4:Hid (Below W1.heap.size W1 W1):=Below.refl _ W1;have HN:=zHi hN;clear hW1 hN e1;try clear e2
  gi_loopw [3,4] (fun uv v wr=>∃j u:Nat,j≤20∧uv = .int .u64 (u:Int)∧Hid (N/B^j=u)∧u<18446744073709551616∧Hid (j=0∨B^(j-1)≤N)∧Hid (wr.ownsRow W1.heap.size 3 1 v j (za2 N j))∧Hid (Below W1.heap.size W1 wr)) (fun uv _ _=>(intOf uv).toNat)
  case atStart=>exact⟨0,N,by omega,rfl,zHi (by simp),hNs,zHi (.inl rfl),HO4.out,HB4.out⟩
  case round=>
   obtain⟨j,u,hj,rfl,HU,hu,HJ,HO,HBr⟩:=hrel;clear HO4 HB4;by_cases hu0:0<u
   ·have hl:u%1000000000=limb N j:=by rw [←HU.out];rfl
    have HL:=zHi hl;have hlt:u%1000000000<1000000000:=Nat.mod_lt _ (by decide);have hdv:u/1000000000<u:=Nat.div_lt_self hu0 (by decide);have HJ2:Hid (B^j≤N):=zHi (by
     apply Classical.byContradiction
     intro hno;have:=Nat.div_eq_of_lt (show N<B^j by omega);rw [HU.out]at this;omega)
    have hj19:j<19:=by
     apply Classical.byContradiction
     intro hno;have h1:B^3≤B^j:=zag (by omega);have h2:B^3=1000000000000000000000000000:=by decide
     have:=HJ2.out;omega
    clear hl;gi_wp2_with (gi_at_builtin;refine stop ?_)
    unfold Stop;refine zaI W1 wr rfl _ _ rfl u4 j N rfl HO _ _ rfl ?_ (by omega) HBr ?_
    ·rw [←HL.out];go_num
    ·intro v2 w2 HO2 HB2;gi_wp2;refine⟨⟨j+1,u/1000000000,by omega,rfl,?_,by omega,zHi (.inr HJ2.out),HO2,HB2⟩,by simp [intOf] <;> omega⟩;rw [Nat.pow_succ,←Nat.div_div_eq_div_mul,HU.out];rfl
   ·have hu00:u=0:=by omega
    subst hu00;have hlen:zcm N j:=⟨by
     rcases Nat.lt_or_ge N (B^j)with h|h
     ·exact h
     ·have:=Nat.div_pos h (zau j);rw [HU.out]at this;omega,HJ.out⟩
    have HM:Hid (NatI wr u4 N):=zHi ⟨j,hlen,zby HO.out (by omega)⟩;clear hlen;gi_wp2_with (gi_at_call 75;refine stop ?_)
    unfold Stop;refine(zdN wr _ u4 N HM.out).mono ?_;rintro e w5 ⟨v5,rfl,⟨m,rfl,hm⟩,hb5⟩;have HB5:=zHi (HBr.out.trans (hb5.mono HBr.out.size));have HM5:=zHi hm;obtain⟨om,km,cm,rfl,_,_⟩:=za7 hm;have HA5:=HA1.out.below hgl HB5.out;have y0:=(HA5 0 (by omega)).1;have y1:=(HA5 1 (by omega)).1;have z0:=(HA5 0 (by omega)).2;have z1:=(HA5 1 (by omega)).2;simp only [if_true,if_false,Nat.one_ne_zero]at y0 y1;have HA6:=zHi HA5;have HE5:=zHi (HE1.out.below HB5.out hgl);clear hm hb5 HA5;gi_wp2;have ha6:=(HA6.out.set (i:=0) (by omega) (.bool (decide (n<0)))).set (i:=1) (by omega) (.slice om km cm);rw [HS.out];refine zki (cs:=[.bool (decide (n<0)),.slice om km cm]) rfl rfl g rfl l32 rfl ?_ ?_
    ·intro j v hj;match j,hj with
     | 0,hj=>cases hj;exact(ha6 0 (by omega)).1
     | 1,hj=>cases hj;exact(ha6 1 (by omega)).1
    ·refine⟨_,rfl,⟨_,rfl,?_⟩,(HBW.out.trans (HB5.out.mono HBW.out.size)).setCell hgw _ |>.setCell hgw _⟩;have:=(HM5.out.setElem (i:=0) (u:=.bool (decide (n<0))) HE5.out (by decide)).setElem (i:=1) (u:=.slice om km cm) (HE5.out.setCell _ _) (by decide);rw [HS.out]at this;exact this
theorem zfY(n:Int):(n:Rat).num=n:=rfl
theorem zkj(n:Int):(n:Rat).den=1:=rfl
theorem zh4(w:World)(n:Int)(h1 : -9223372036854775808≤n)(h2:n≤9223372036854775807) :
  CallsIn Fence.wide 0 Tryz.prog 20 #[.int .i64 n] w fun e w'=>∃v',e = .returned v'∧zao w' v' (n:Rat)∧Below w.heap.size w w':=by
 obtain⟨N,hN⟩:∃N,n.natAbs=N:=⟨_,rfl⟩;have hNs:N<18446744073709551616:=by omega
 refine callsIn_of_wp Tryz.func20 rfl trivial ?_ rfl;simp only [Tryz.ntmps20,ztE,ztF,ztG,Nat.reduceAdd,Nat.reduceSub,ztH,ztI,ztJ,ztK,ztL,ztM];by_cases h0:n<0
 case' pos=>
  have e1:=zjg n h1 h0;have e2:=zpp n h1 h0;have hb:decide (n<0)=true:=decide_eq_true h0
 case' neg=>
  have e1:=zjh n h1 h2 (by omega);have hb:decide (n<0)=false:=decide_eq_false h0
 all_goals
  first|rw [hN]at e2|rw [hN]at e1
  gi_wp2_with (gi_at_call 74;refine stop ?_)
  unfold Stop;obtain⟨W,hW⟩:∃W,W=w.alloc (.cells #[.bool false,.slice none 0 0,.slice none 0 0] 25):=⟨_,rfl⟩;rw [←hW];have HK:Hid (Own3 w W):=by rw [hW];exact ze5 _ _ _ _ _
  clear hW;have HN:=zHi hN;have HB:=zHi hb;clear hN e1;try clear e2
  refine(zd6 W N hNs).mono ?_;rintro e w2 ⟨v7,rfl,⟨hm,hf⟩,hB2⟩;have HF2:Hid (N=0∨v7.ownBlock≠some w.heap.size):=hf.ne HK.out.2.1 _;have HK8:=zHi (HK.out.step hB2);have HM7:=zHi hm;clear hm hB2 HK hf;obtain⟨x0,x1,x2,z0,z1,z2,y0,y1,y2⟩:=HK8.out.cells;obtain⟨o,k,c,rfl,_,_⟩:=zaM HM7.out;gi_wp2;refine zbk rfl rfl w.heap.size rfl z0 z1 z2 ?_;have hB:=HK8.out.2.2;refine⟨_,rfl,⟨.slice o k c,.slice none 0 0,?_,?_,?_⟩,((hB.setCell (Nat.le_refl _) _).setCell (Nat.le_refl _) _).setCell (Nat.le_refl _) _⟩
  ·rw [zfY,HB.out]
  ·rw [zfY,HN.out];exact((HM7.out.setCell' HF2.out _).setCell' HF2.out _).setCell' HF2.out _
  ·rw [zkj,if_pos rfl];exact zde _ _ _
def dgt(N p:Nat):Nat:=N/10^p%10
theorem pow9(i:Nat):B^i=10^(9*i):=by
 rw [Nat.pow_mul];rfl
theorem zrY{N i j:Nat}(hj:j<9):limb N i/10^j%10=dgt N (9*i+j):=by
 unfold limb dgt;obtain⟨c,hc⟩:∃c,9-j=c+1:=⟨9-j-1,by omega⟩;have hB:B=10^j*10^(c+1):=by
  rw [←Nat.pow_add,←hc,show j+(9-j)=9 by omega];rfl
 rw [show N/B^i%B=N/B^i%(10^j*10^(c+1))by rw [←hB],Nat.mod_mul_right_div_self,Nat.mod_mod_of_dvd _ (by rw [Nat.pow_succ];exact Nat.dvd_mul_left _ _),pow9,Nat.div_div_eq_div_mul,←Nat.pow_add]
def bytV(N p:Nat):Value:=.int .u8 ((48+dgt N p:Nat):Int)
def zcM(N k:Nat):List Value:=(List.range k).map (bytV N)
theorem zc6(n k:Nat):(zcM n k).length=k:=by simp [zcM]
theorem zik(n k:Nat):zcM n (k+1)=zcM n k ++ [bytV n k]:=by simp [zcM,List.range_succ]
theorem zpI:Tryz.prog.info? 5=some Tryz.t5:=by kernel_rfl
theorem u107:Tryz.prog.underlying 107=some (.slice 5):=by kernel_rfl
theorem u5:Tryz.prog.underlying 5=some (.int .u8):=by kernel_rfl
theorem u9:Tryz.prog.underlying 9=some .string:=by kernel_rfl
theorem zpG:Tryz.t5.zero=some (.int .u8 0):=by kernel_rfl
theorem zpH:Tryz.t5.size=1:=by kernel_rfl
theorem znw:Tryz.t5.bytes=1:=by kernel_rfl
theorem zr9(w:World)(i:Int)(t:TypeId):∀k u,[Value.int .u8 i][k]? = some u→(w.alloc (.cells #[.int .u8 i] t)).cell? ((⟨w.heap.size,0,none⟩:Addr).add k)=some u:=by
 intro k u h;rw [Addr.add_lit,Nat.zero_add,World.cell?_alloc_new];match k,h with
 | 0,h=>exact h
theorem zq4{F:Fence}{n:Nat}(w wr:World){ops:Array Oper}{rest:List Oper}{o:Oper}{a:Act}{Q:Exit→Act→World→Prop}
  (hg:o.guard=none) (s x:Operand) (hop:o.op=Op.call {callee:=Callee.builtin Builtin.append,args:=#[s,x],argTypes:=#[107,107]})
  (v:Value) (j:Nat) (xs:List Value) (hs:a.eval s=v) (HO:Hid (wr.ownsRow w.heap.size 5 1 v j xs)) (z:Int) (t:TypeId) (hx:a.eval x = .slice (some ⟨wr.heap.size,0,none⟩) 1 1) (c:Int) (hz:z=c) (hj:j<5000000000)
  (HB:Hid (Below w.heap.size w wr))
  (hK:∀v' w',Hid (w'.ownsRow w.heap.size 5 1 v' (j+1) (xs ++ [.int .u8 c]))→Hid (Below w.heap.size w w')→wpListIn F n Tryz.prog ops Q rest (a.put o.dst v') w') :
  wpListIn F n Tryz.prog ops Q (o :: rest) a (wr.alloc (.cells #[.int .u8 z] t)):=by
 have hsz:=HB.out.size;refine wpListIn_append_own _ hg s x 107 hop w.heap.size 5 Tryz.t5 _ 1 1 u107 zpI zpG zpH znw rfl (by decide) v j xs hs (World.ownsRow.alloc HO.out _) ⟨wr.heap.size,0,none⟩ 1 1 [.int .u8 z] hx rfl (zr9 _ _ _) (fun u hu=>by simp at hu;subst hu;rfl) (by unfold maxLen;omega) (by omega) (by simp;omega) ?_;intro v' w' h1 h2 _;refine hK v' w' ?_ ?_
 ·rw [←hz];exact h1
 ·refine(HB.out.alloc hsz _).grown h2 (by simp;omega) fun k hk => ?_
  exact zb0 HO.out hk
theorem zk9{F:Fence}{n:Nat}{P:Program}{w:World}{ops:Array Oper}{rest:List Oper}{a:Act}{Q:Exit→Act→World→Prop}{dst:Option Tmp}{ty:TypeId}{ps:String}{af:Array Edge}{gd:Option (Nat × Bool)}{x:Operand}
  (h:Stop (wpListIn F n P ops Q ({dst:=dst,op:=Op.convert 107 9 x,type:=ty,pos:=ps,after:=af,guard:=gd} :: rest) a w)) :
  wpListIn F n P ops Q ({dst:=dst,op:=Op.convert 107 9 x,type:=ty,pos:=ps,after:=af,guard:=gd} :: rest) a w:=h
theorem zfM{F:Fence}{n:Nat}{P:Program}{w:World}{ops:Array Oper}{rest:List Oper}{o:Oper}{a:Act}{Q:Exit→Act→World→Prop}
  (hg:o.guard=none) (s d:TypeId) (x:Operand) (hop:o.op=Op.convert s d x) (v u:Value) (hx:a.eval x=v) (hr:(convert s d v).run P w = .ok u w)
  (h:wpListIn F n P ops Q rest (a.put o.dst u) w):wpListIn F n P ops Q (o :: rest) a w:=by
 refine wpListIn_plain hg fun K hK => ?_
 unfold Oper.wpIn;refine⟨by simp [Oper.about,hop],?_⟩;rw [Oper.semAt_plain F _ _ (by rw [hop];intro c hc';cases hc')];simp [execOp,hop,hx,hr,Result.andThen]
 exact hK _ _ h
def zcS(N L p:Nat):Int:=if p<L then((48+dgt N p:Nat):Int)else 45
theorem zfR(xs:List Int)(l:List UInt8)(h:xs.map (fun n=>UInt8.ofNat n.toNat)=l):strOfNums xs=⟨l.toArray⟩:=by
 unfold strOfNums;rw [h]
theorem zsc{z:Int}(h:0≤z):strOfNums ((List.range (Lib.nDigits z.natAbs)).map fun p=>zcS z.natAbs (Lib.nDigits z.natAbs) (Lib.nDigits z.natAbs-1-p))=zcV z:=by
 refine zfR _ _ ?_;unfold Lib.itoa;rw [if_neg (by omega),show z.toNat=z.natAbs by omega,Lib.decDigits_eq,List.map_map];refine List.map_congr_left fun p hp => ?_
 have hp:=List.mem_range.1 hp;show UInt8.ofNat (zcS _ _ _).toNat=_
 unfold zcS;rw [if_pos (by omega),Int.toNat_natCast];rfl
theorem zsd{z:Int}(h:z<0):strOfNums ((List.range (Lib.nDigits z.natAbs+1)).map fun p=>zcS z.natAbs (Lib.nDigits z.natAbs) (Lib.nDigits z.natAbs+1-1-p))=zcV z:=by
 refine zfR _ _ ?_;unfold Lib.itoa;rw [if_pos h,Lib.decDigits_eq,List.range_succ_eq_map,List.map_cons,List.map_cons,List.map_map,List.map_map];congr 1
 ·show UInt8.ofNat (zcS _ _ _).toNat=_
  unfold zcS;rw [if_neg (by omega)];rfl
 ·refine List.map_congr_left fun p hp => ?_
  have hp:=List.mem_range.1 hp;show UInt8.ofNat (zcS _ _ _).toNat=_
  unfold zcS;rw [if_pos (by omega),Int.toNat_natCast];show Lib.dg _ _=Lib.dg _ _
  congr 1
  omega
theorem zjk:zcV 0=⟨#[48]⟩:=by
 unfold zcV Lib.itoa;rw [if_neg (by decide),Lib.decDigits,dif_pos (by decide)];rfl
theorem zoP{w:World}{base e g cap n N:Nat}(h:w.ownsRow base e 1 (.slice (some ⟨g,0,none⟩) (n+1) cap) (n+1) (zcM N (n+1))):w.ownsRow base e 1 (.slice (some ⟨g,0,none⟩) n cap) n (zcM N n):=by
 rcases h.2 with⟨h,_⟩|⟨g',cap',cur,hv,h1,h2,h3,h4,h5,h6⟩
 ·cases h
 ·cases hv
  refine⟨by rw [zc6];omega,.inr ⟨g,cap,cur,rfl,h1,h2,by omega,h4,h5,?_⟩⟩;have:cur.toList.take (n*1)=(cur.toList.take ((n+1)*1)).take n:=by rw [List.take_take];congr 1;omega
  rw [this,h6,zik,List.take_append_of_le_length (by rw [zc6];omega),List.take_of_length_le (by rw [zc6];omega)]
def lenV:Value→Nat
 | .slice _ n _=>n
 | _=>0
theorem zdZ(w:World)(v:Value)(z:Int)(h:ZAt w v z)(hz:z.natAbs<B^100000) :
  CallsIn Fence.wide 0 Tryz.prog 16 #[v] w fun e w'=>e = .returned (.string (zcV z))∧Below w.heap.size w w':=by
 obtain⟨m,rfl,k,hk,hl⟩:=h;obtain⟨N,hN⟩:∃N,z.natAbs=N:=⟨_,rfl⟩;rw [hN]at hk hl hz;have hkL:k≤100000:=hk.le hz;obtain⟨o,c,rfl,h1⟩:=hl.form;have H1:=zHi h1;have HK:=zHi hk;have HN:=zHi hN;clear h1 hk hl hz hN;obtain⟨sg,hsg⟩:∃sg,decide (z<0)=sg:=⟨_,rfl⟩;rw [hsg];refine callsIn_of_wp Tryz.func16 rfl trivial ?_ rfl;simp only [Tryz.ntmps16,ztE,ztF,ztG,Nat.reduceAdd,Nat.reduceSub,ztH,ztI,ztJ,ztK,ztL,ztM];by_cases hk0:k=0
 ·subst hk0;have hN0:N=0:=HK.out.zero;have hz0:z=0:=by have:=HN.out;omega
  subst hz0;gi_wp2;all_goals (first|go_returns|go_ret|go_end0)
  exact⟨by rw [zjk];rfl,zaa _ _⟩
 ·have hk0':((k:Int) == 0)=false:=beq_false_of_ne (by omega);have HSG:=zHi hsg;clear hsg;obtain⟨W1,hW1⟩:∃W,W=w.alloc (.cells #[.bool sg,.slice o k c] 32):=⟨_,rfl⟩;have HBW:Hid (Below w.heap.size w W1):=zHi (by rw [hW1];exact zaa _ _);have HA1:Hid (zaf W1 w.heap.size 2 fun i=>if i=0 then .bool sg else .slice o k c):=zHi (by
   rw [hW1];refine zaf.new _ _ _ fun i hi => ?_
   match i,hi with
   | 0,_=>rfl
   | 1,_=>rfl)
  have HN0:Hid (0<N):=zHi (by
   rcases Nat.eq_zero_or_pos N with h|h
   ·subst h;exact absurd (HK.out.unique zbz) hk0
   ·exact h)
  gi_wp2;rw [←hW1];obtain⟨g,hg⟩:∃g,w.heap.size=g:=⟨_,rfl⟩;have hgl:g<W1.heap.size:=by rw [hW1,←hg];simp
  have hgw:w.heap.size≤g:=by omega
  rw [hg]at HA1;rw [hg];clear hg hW1;have HO4:Hid (W1.ownsRow W1.heap.size 5 1 (.slice none 0 0) (9*0) (zcM N (9*0))):=World.ownsRow_nil _ _ _ _;have HB4:Hid (Below W1.heap.size W1 W1):=Below.refl _ W1;gi_loopw [3,4,5,6] (fun bv iv _ _ wr=>∃i:Nat,i≤k∧iv = .int .i64 (i:Int)∧Hid (wr.ownsRow W1.heap.size 5 1 bv (9*i) (zcM N (9*i)))∧Hid (Below W1.heap.size W1 wr)) (fun _ iv _ _ _=>k-(intOf iv).toNat)
  case atStart=>exact⟨0,by omega,rfl,HO4.out,HB4.out⟩
  case round=>
   obtain⟨i,hi,rfl,HO,HBr⟩:=hrel;clear HO4 HB4;have HA5:=zHi (HA1.out.below hgl HBr.out);have y0:=(HA5.out 0 (by omega)).1;have y1:=(HA5.out 1 (by omega)).1;simp only [if_true,if_false,Nat.one_ne_zero]at y0 y1;by_cases hik:i<k
   ·obtain⟨a1,rfl,ha1,hc1⟩:=H1.out (by omega);have ha1':a1.block<W1.heap.size:=Nat.lt_of_lt_of_le ha1 HBW.out.size;have p1:=(HBr.out.cell (p:=a1.add i) (by rw [zac];exact ha1')).trans ((HBW.out.cell (p:=a1.add i) (by rw [zac];exact ha1)).trans (hc1 i hik));obtain⟨l,hl⟩:∃l,limb N i=l:=⟨_,rfl⟩;have hl9:l<1000000000:=by rw [←hl];exact zaE N i
    rw [hl]at p1;have HL:=zHi hl;have hikd:decide ((i:Int)<(k:Int))=true:=decide_eq_true (by omega);have HO4:Hid (wr.ownsRow W1.heap.size 5 1 u3 (9*i+0) (zcM N (9*i+0))):=HO;clear hc1 hl HO;gi_wp2;gi_loopw [3,5,6] (fun bv xv jv wr=>∃j x:Nat,j≤9∧xv = .int .i64 (x:Int)∧jv = .int .i64 (j:Int)∧x<1000000000∧Hid (l/10^j=x)∧Hid (wr.ownsRow W1.heap.size 5 1 bv (9*i+j) (zcM N (9*i+j)))∧Hid (Below W1.heap.size W1 wr)) (fun _ _ jv _=>9-(intOf jv).toNat)
    case atStart=>exact⟨0,l,by omega,rfl,rfl,hl9,zHi (by simp),HO4.out,HBr.out⟩
    case round=>
     obtain⟨j,x,hj,rfl,rfl,hx9,HX,HO,HB2⟩:=hrel;clear HO4 HBr HA5 y0 y1 p1;by_cases hj9:j<9
     ·have hd:x%10=dgt N (9*i+j):=by rw [←HX.out,←HL.out];exact zrY hj9
      have HD:=zHi hd;have hx10:x%10<10:=Nat.mod_lt _ (by decide);clear hd;gi_wp2_with (gi_at_builtin;refine stop ?_)
      unfold Stop;refine zq4 W1 wr rfl _ _ rfl u3 (9*i+j) (zcM N (9*i+j)) rfl HO _ _ rfl ((48+dgt N (9*i+j):Nat):Int) ?_ (by omega) HB2 ?_
      ·rw [←HD.out];go_num
      ·intro v2 w2 HO2 HB3;gi_wp2;refine⟨⟨j+1,x/10,by omega,by go_num,by go_num,by omega,?_,?_,HB3⟩,by simp [intOf] <;> omega⟩
       ·rw [Nat.pow_succ,←Nat.div_div_eq_div_mul,HX.out];rfl
       ·have:=HO2.out;exact zHi (by rw [show 9*i+(j+1)=9*i+j+1 by omega,zik];exact this)
     ·have hj0:j=9:=by omega
      subst hj0;gi_wp2;refine⟨⟨i+1,by omega,by go_num,?_,HB2⟩,by simp [intOf] <;> omega⟩;exact zHi (by rw [show 9*(i+1)=9*i+9 by omega];exact HO.out)
   ·have hik0:i=k:=by omega
    subst hik0;have hikd:decide ((i:Int)<(i:Int))=false:=decide_eq_false (by omega);have hform:∃g2 cap,u3 = .slice (some ⟨g2,0,none⟩) (9*i) cap∧9*i≤cap∧cap≤9223372036854775807∧W1.heap.size≤g2:=by
     rcases HO.out.2 with⟨_,h⟩|⟨g2,cap,cur,h1,h2,h3,h4,h5,_⟩
     ·omega
     ·exact⟨g2,cap,h1,h4,by unfold maxLen at h5;omega,h2⟩
    obtain⟨g2,cap,rfl,hcap,hcm,hg2⟩:=hform;have HNk:Hid (N<10^(9*i)):=zHi (by rw [←pow9];exact HK.out.1);gi_wp2;gi_loopw [3] (fun bv wr=>∃L,1≤L∧L≤9*i∧bv = .slice (some ⟨g2,0,none⟩) L cap∧Hid (wr.ownsRow W1.heap.size 5 1 bv L (zcM N L))∧Hid (N<10^L)∧Hid (Below W1.heap.size W1 wr)) (fun bv _=>lenV bv)
    case atStart=>exact⟨9*i,by omega,by omega,rfl,HO.out,HNk.out,HBr.out⟩
    case round=>
     obtain⟨L,hL1,hL9,rfl,HO2,HNL,HB2⟩:=hrel;clear HO HNk HBr HA5 y0 y1;obtain⟨m,rfl⟩:∃m,L=m+1:=⟨L-1,by omega⟩;have p1:wr.cell? ⟨g2,m,none⟩=some (bytV N m):=by
      have:=HO2.out.cells rfl m (bytV N m) (by simp [zcM]);rw [Addr.add_lit,Nat.zero_add]at this;exact this
     obtain⟨d,hd⟩:∃d,dgt N m=d:=⟨_,rfl⟩;unfold bytV at p1;rw [hd]at p1;have HD:=zHi hd;obtain⟨cc,hcc⟩:∃cc:Int,((48+d:Nat):Int)=cc:=⟨_,rfl⟩;rw [hcc]at p1;have hm1:m+1≤cap:=by omega
     clear hd;by_cases hd0:d=0
     ·subst hd0;have hcc:cc=48:=by omega
      subst hcc;have hm0:1≤m:=by
       rcases Nat.eq_zero_or_pos m with h|h
       ·subst h;have h1:=HNL.out;have h2:=HD.out;have h3:=HN0.out;unfold dgt at h2;simp at h1 h2
        omega
       ·exact h
      have HNL2:Hid (N<10^m):=zHi (by
       have h1:=HNL.out;have h2:=HD.out;unfold dgt at h2;rw [Nat.pow_succ]at h1;have h3:N/10^m<10:=Nat.div_lt_of_lt_mul (by rw [Nat.mul_comm]at h1;rw [Nat.mul_comm];exact h1);have h4:N/10^m=0:=by
        obtain⟨D,hD⟩:∃D,N/10^m=D:=⟨_,rfl⟩;rw [hD]at h2 h3 ⊢;omega
       rcases Nat.lt_or_ge N (10^m)with h|h
       ·exact h
       ·have:=Nat.div_pos h (Nat.pow_pos (by decide));omega)
      have HO3:=zHi (zoP HO2.out);clear HD HO2 HNL;gi_wp2;refine⟨⟨m,by omega,by omega,rfl,HO3,HNL2,HB2⟩,by simp [lenV]⟩
     ·have hcc0:(cc == 48)=false:=beq_false_of_ne (by omega);have HDN:Hid (Lib.nDigits N=m+1):=zHi (Lib.nDigits_unique m N (by
       have h2:=HD.out;unfold dgt at h2;rcases Nat.lt_or_ge N (10^m)with h|h
       ·rw [Nat.div_eq_of_lt h]at h2;omega
       ·exact h) HNL.out)
      have HA5:=zHi (HA1.out.below hgl HB2.out);have y0:=(HA5.out 0 (by omega)).1;have y1:=(HA5.out 1 (by omega)).1;simp only [if_true,if_false,Nat.one_ne_zero]at y0 y1;clear HD HNL hcc hd0
      cases sg with
      | false=>
       have HT:Hid (strOfNums ((List.range (m+1)).map fun p=>zcS N (m+1) (m+1-1-p))=zcV z):=zHi (by
        have h:=zsc (z:=z) (by have:=of_decide_eq_false HSG.out;omega);rw [HN.out,HDN.out]at h;exact h)
       have HA3:Hid (zaf wr g2 (m+1) fun p => .int .u8 (zcS N (m+1) p)):=zHi (zaf.of_row HO2.out fun p hp=>by
        simp only [zcM,List.getElem?_map,List.getElem?_range hp,Option.map_some,bytV,zcS,hp,if_true])
       have HB3:=HB2;clear HO2 HB2;gi_wp2;gi_loopw [7,8,9] (fun iv jv _ wr=>∃a b:Nat,a+b+1=m+1∧a≤b+1∧iv = .int .i64 (a:Int)∧jv = .int .i64 (b:Int)∧Hid (zaf wr g2 (m+1) fun p => .int .u8 (zcS N (m+1) (if p<a∨b<p then m+1-1-p else p)))∧Hid (Below W1.heap.size W1 wr)) (fun iv _ _ _=>m+1-(intOf iv).toNat)
       case atStart=>exact⟨0,m,by omega,by omega,rfl,by go_num,zHi (zaf.congr HA3.out fun p hp=>by(try dsimp only);rw [if_neg (by omega)]),HB3.out⟩
       case round=>
        obtain⟨a,b,hab,hab1,rfl,rfl,HA,HB4⟩:=hrel;clear HA3 HB3 HA5 y0 y1;by_cases hlt:a<b
        ·obtain⟨b,rfl⟩:∃b',b=b'+1:=⟨b-1,by omega⟩;obtain⟨x1,hx1⟩:∃x,zcS N (m+1) a=x:=⟨_,rfl⟩;obtain⟨x2,hx2⟩:∃x,zcS N (m+1) (b+1)=x:=⟨_,rfl⟩;have z1:wr.cell? ⟨g2,a,none⟩=some (.int .u8 x1):=(HA.out a (by omega)).1.trans (by(try dsimp only);rw [if_neg (by omega),hx1]);have z2:wr.cell? ⟨g2,b+1,none⟩=some (.int .u8 x2):=(HA.out (b+1) (by omega)).1.trans (by(try dsimp only);rw [if_neg (by omega),hx2]);have f1:=(HA.out a (by omega)).2;have f2:=(HA.out (b+1) (by omega)).2;have HX1:=zHi hx1;have HX2:=zHi hx2;have hltd:decide ((a:Int)<((b+1:Nat):Int))=true:=decide_eq_true (by omega);clear hx1 hx2;gi_wp2;refine⟨⟨a+1,b,by omega,by omega,by go_num,by go_num,?_,zHi ((HB4.out.setCell hg2 _).setCell hg2 _)⟩,by simp [intOf] <;> omega⟩;refine zHi (zaf.congr ((HA.out.set (i:=a) (by omega) (.int .u8 x2)).set (i:=b+1) (by omega) (.int .u8 x1)) fun p hp => ?_);try dsimp only
         by_cases e1:p=b+1
         ·rw [if_pos e1,if_pos (by omega),←HX1.out];congr 2;omega
         ·rw [if_neg e1];by_cases e2:p=a
          ·rw [if_pos e2,if_pos (by omega),←HX2.out];congr 2;omega
          ·rw [if_neg e2];by_cases e3:p<a∨b+1<p
           ·rw [if_pos e3,if_pos (by omega)]
           ·rw [if_neg e3,if_neg (by omega)]
        ·have hltd:decide ((a:Int)<(b:Int))=false:=decide_eq_false (by omega);have HA9:Hid (zaf wr g2 (m+1) fun p => .int .u8 (zcS N (m+1) (m+1-1-p))):=zHi (zaf.congr HA.out fun p hp=>by
          try dsimp only
          by_cases e3:p<a∨b<p
          ·rw [if_pos e3]
          ·rw [if_neg e3];congr 2;omega)
         clear HA;gi_wp2_with (with_reducible refine zk9 ?_)
         unfold Stop;refine zfM rfl _ _ _ rfl _ (.string (strOfNums ((List.range (m+1)).map fun p=>zcS N (m+1) (m+1-1-p)))) rfl (run_convert_bytes_arg wr 107 5 Go.Num.u107 Go.Num.u5 g2 0 (m+1) cap _ (by simp) (fun p hp=>by rw [Nat.zero_add,(HA9.out p hp).1];simp [List.getD,hp]) 9 Go.Num.u9) ?_;rw [HT.out];clear HA9 HT;gi_wp2;all_goals (first|go_returns|go_ret|go_end0)
         exact⟨rfl,HBW.out.trans (HB4.out.mono HBW.out.size)⟩
      | true=>
       gi_wp2_with (gi_at_builtin;refine stop ?_)
       unfold Stop;refine zq4 W1 wr rfl _ _ rfl (.slice (some ⟨g2,0,none⟩) (m+1) cap) (m+1) (zcM N (m+1)) rfl HO2 _ _ rfl 45 rfl (by omega) HB2 ?_;intro v2 w3 HO3 HB3;have hform:∃g3 cap3,v2 = .slice (some ⟨g3,0,none⟩) (m+1+1) cap3∧W1.heap.size≤g3:=by
        rcases HO3.out.2 with⟨_,h⟩|⟨g3,cap3,cur,h1,h2,h3,h4,h5,_⟩
        ·omega
        ·exact⟨g3,cap3,h1,h2⟩
       obtain⟨g3,cap3,rfl,hg3⟩:=hform;have HT:Hid (strOfNums ((List.range (m+1+1)).map fun p=>zcS N (m+1) (m+1+1-1-p))=zcV z):=zHi (by
        have h:=zsd (z:=z) (of_decide_eq_true HSG.out);rw [HN.out,HDN.out]at h;exact h)
       have HA3:Hid (zaf w3 g3 (m+1+1) fun p => .int .u8 (zcS N (m+1) p)):=zHi (zaf.of_row HO3.out fun p hp=>by
        by_cases hp1:p<m+1
        ·rw [List.getElem?_append_left (by rw [zc6];exact hp1)];simp only [zcM,List.getElem?_map,List.getElem?_range hp1,Option.map_some,bytV,zcS,hp1,if_true]
        ·rw [List.getElem?_append_right (by rw [zc6];omega),zc6,show p-(m+1)=0 by omega];simp only [zcS,hp1,if_false];rfl)
       clear HO2 HO3 HB2;gi_wp2;gi_loopw [7,8,9] (fun iv jv _ wr=>∃a b:Nat,a+b+1=m+1+1∧a≤b+1∧iv = .int .i64 (a:Int)∧jv = .int .i64 (b:Int)∧Hid (zaf wr g3 (m+1+1) fun p => .int .u8 (zcS N (m+1) (if p<a∨b<p then m+1+1-1-p else p)))∧Hid (Below W1.heap.size W1 wr)) (fun iv _ _ _=>m+1+1-(intOf iv).toNat)
       case atStart=>exact⟨0,m+1,by omega,by omega,rfl,by go_num,zHi (zaf.congr HA3.out fun p hp=>by(try dsimp only);rw [if_neg (by omega)]),HB3.out⟩
       case round=>
        obtain⟨a,b,hab,hab1,rfl,rfl,HA,HB4⟩:=hrel;clear HA3 HB3 HA5 y0 y1;by_cases hlt:a<b
        ·obtain⟨b,rfl⟩:∃b',b=b'+1:=⟨b-1,by omega⟩;obtain⟨x1,hx1⟩:∃x,zcS N (m+1) a=x:=⟨_,rfl⟩;obtain⟨x2,hx2⟩:∃x,zcS N (m+1) (b+1)=x:=⟨_,rfl⟩;have z1:wr.cell? ⟨g3,a,none⟩=some (.int .u8 x1):=(HA.out a (by omega)).1.trans (by(try dsimp only);rw [if_neg (by omega),hx1]);have z2:wr.cell? ⟨g3,b+1,none⟩=some (.int .u8 x2):=(HA.out (b+1) (by omega)).1.trans (by(try dsimp only);rw [if_neg (by omega),hx2]);have f1:=(HA.out a (by omega)).2;have f2:=(HA.out (b+1) (by omega)).2;have HX1:=zHi hx1;have HX2:=zHi hx2;have hltd:decide ((a:Int)<((b+1:Nat):Int))=true:=decide_eq_true (by omega);clear hx1 hx2;gi_wp2;refine⟨⟨a+1,b,by omega,by omega,by go_num,by go_num,?_,zHi ((HB4.out.setCell hg3 _).setCell hg3 _)⟩,by simp [intOf] <;> omega⟩;refine zHi (zaf.congr ((HA.out.set (i:=a) (by omega) (.int .u8 x2)).set (i:=b+1) (by omega) (.int .u8 x1)) fun p hp => ?_);try dsimp only
         by_cases e1:p=b+1
         ·rw [if_pos e1,if_pos (by omega),←HX1.out];congr 2;omega
         ·rw [if_neg e1];by_cases e2:p=a
          ·rw [if_pos e2,if_pos (by omega),←HX2.out];congr 2;omega
          ·rw [if_neg e2];by_cases e3:p<a∨b+1<p
           ·rw [if_pos e3,if_pos (by omega)]
           ·rw [if_neg e3,if_neg (by omega)]
        ·have hltd:decide ((a:Int)<(b:Int))=false:=decide_eq_false (by omega);have HA9:Hid (zaf wr g3 (m+1+1) fun p => .int .u8 (zcS N (m+1) (m+1+1-1-p))):=zHi (zaf.congr HA.out fun p hp=>by
          try dsimp only
          by_cases e3:p<a∨b<p
          ·rw [if_pos e3]
          ·rw [if_neg e3];congr 2;omega)
         clear HA;gi_wp2_with (with_reducible refine zk9 ?_)
         unfold Stop;refine zfM rfl _ _ _ rfl _ (.string (strOfNums ((List.range (m+1+1)).map fun p=>zcS N (m+1) (m+1+1-1-p)))) rfl (run_convert_bytes_arg wr 107 5 Go.Num.u107 Go.Num.u5 g3 0 (m+1+1) cap3 _ (by simp) (fun p hp=>by rw [Nat.zero_add,(HA9.out p hp).1];simp [List.getD,hp]) 9 Go.Num.u9) ?_;rw [HT.out];clear HA9 HT;gi_wp2;all_goals (first|go_returns|go_ret|go_end0)
         exact⟨rfl,HBW.out.trans (HB4.out.mono HBW.out.size)⟩
end Go.Num
