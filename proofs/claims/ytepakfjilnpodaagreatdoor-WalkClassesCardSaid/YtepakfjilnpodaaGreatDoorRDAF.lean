/-
  A magnitude of the program: its limbs in memory; what 'cmp' answers. Decimal digits of a number, and those of its limbs. Fractions as a sign
  Conditions: see each statement.
-/
import Derived.Test.YtepakfjilnpodaaGreatDoorRDAE
import Derived.Test.YtepakfjilnpodaaGreatDoorRows
import Derived.Test.YtepakfjilnpodaaGreatDoorProg
import Derived.WalkKit
import Derived.KernelRfl
import Derived.LoopIn
import Derived.Below
import Derived.BigFrameIn
import Derived.Handy
import Derived.RegionIn
import Derived.OwnWalkIn
import Derived.Sort.QuietIn
import Derived.Deep.QuietTactic
import Derived.Sort.AtCallIn
namespace Go.Eng
open Go.RowKit
section
variable {P:Program} {B:Nat} {w0:World} {G:Sett}
theorem Rep.onto{μ:Mu}{H:AH}{w w':World}(h:Rep P B w0 G μ H w)(hb:Below w.heap.size w w'):Rep P B w0 G μ H w' where
 resd:=h.resd
 hdom:=h.hdom
 fact:=fun i t ho=>let ⟨v,h1,h2⟩:=h.fact i t ho;⟨v,h1,G.stable _ _ _ _ (Kept.of_below hb) h2⟩
 free:=fun i b N e hB cs te fz q=>h.free i b N e hB cs te fz (by rw [←hb.block b (h.dom i b N e).2];exact q)
 below:=h.below.trans (hb.mono h.baseNow)
 base:=h.base
 dom:=fun i b N e=>⟨(h.dom i b N e).1,Nat.lt_of_lt_of_le (h.dom i b N e).2 hb.size⟩
 glob:=h.glob
 own:=h.own
 sep:=h.sep
 vtop:=h.vtop
 tip:=h.tip
 write:=h.write
 cells:=fun i fam ver e cs tip lw b N h1 h2 h3 h4=>by
  rw [hb.block b (h.dom i b N h4).2];exact h.cells i fam ver e cs tip lw b N h1 h2 h3 h4
 map:=fun i kt es b N h1 h2=>by
  rw [hb.block b (h.dom i b N h2).2];exact h.map i kt es b N h1 h2
 loop:=fun i st pend fn nt T ps az bd dd b N h1 h2=>by
  rw [hb.block b (h.dom i b N h2).2];exact h.loop i st pend fn nt T ps az bd dd b N h1 h2
 defd:=fun i op b N h1 h2=>by
  rw [hb.block b (h.dom i b N h2).2];exact h.defd i op b N h1 h2
def bare(res:List TypeId):AH where
 res:=res
 next:=10
 objs:=.nil
 fams:=.nil
theorem bare_rep{G:Sett}(hids:G.ids = [])(w:World):Rep P w.heap.size w G ⟨fun _=>none,fun _=>none⟩ (bare G.res) w:=by
 refine {resd:=rfl,hdom:=?_,fact:=?_,free:=?_,below:=Below.refl _ _,base:=Nat.le_refl _,dom:=?_,glob:=?_,own:=?_,sep:=?_,vtop:=?_,tip:=?_,write:=?_,cells:=?_,map:=?_,loop:=?_,defd:=?_}
 all_goals intros
 all_goals simp_all [bare,Tr.get]
def AH.hold(H:AH)(t:Tg):AH:=H.withNew (.opq t)
def Mu.hold(μ:Mu)(i:Nat)(v:Value):Mu:=⟨μ.blk,fun j=>if j=i then some v else μ.hd j⟩
theorem Rep.hold{μ:Mu}{H:AH}{w:World}(h:Rep P B w0 G μ H w){t:Tg}{v:Value}(hi:G.I t v w):Rep P B w0 G (μ.hold H.next v) (H.hold t) w∧Ext H μ (H.hold t) (μ.hold H.next v)∧(μ.hold H.next v).hd H.next=some v:=by
 have hle:μ.le (μ.hold H.next v):=⟨fun _ _ q=>q,fun i x q=>by
  have:=h.hdom i x q
  simp only [Mu.hold]
  rw [if_neg (by omega)];exact q⟩
 have get:∀{j o},(H.hold t).objs.get j=some o→(j=H.next∧o = .opq t)∨(j<H.next∧H.objs.get j=some o):=by
  intro j o q
  rcases Tr.get_set deep H.objs H.next (some (.opq t)) j o q with⟨h1,h2⟩|⟨_,h2⟩
  ·exact .inl ⟨h1,(Option.some.inj h2).symm⟩
  ·exact .inr ⟨(h.own _ _ h2).1,h2⟩
 have old:∀{j o},(H.hold t).objs.get j=some o→(∀t,o ≠ .opq t)→H.objs.get j=some o:=by
  intro j o q hn
  rcases get q with⟨_,h1⟩|⟨_,h1⟩
  ·exact absurd h1 (hn t)
  ·exact h1
 have cls:∀{j o},(H.hold t).objs.get j=some o→(j=H.next∧o.cls j=H.next)∨(H.objs.get j=some o):=by
  intro j o q
  rcases get q with⟨rfl,rfl⟩|⟨_,h1⟩
  ·exact .inl ⟨rfl,rfl⟩
  ·exact .inr h1
 have hun:=h.notYet (i:=H.next) (Nat.le_refl _)
 refine⟨⟨h.resd,?_,?_,h.free,h.below,h.base,fun i b N e=>⟨Nat.lt_succ_of_lt (h.dom i b N e).1,(h.dom i b N e).2⟩,h.glob,?_,?_,?_,?_,?_,?_,?_,?_,?_⟩,⟨hle,Nat.le_succ _,fun _ _ q=>q⟩,if_pos rfl⟩
 ·intro i x q
  simp only [Mu.hold]at q
  split at q
  ·rename_i e;subst e;exact Nat.lt_succ_self _
  ·exact Nat.lt_succ_of_lt (h.hdom i x q)
 ·intro i t' q
  rcases get q with⟨rfl,h1⟩|⟨hlt,h1⟩
  ·cases h1;exact⟨v,if_pos rfl,hi⟩
  ·obtain⟨x,h2,h3⟩:=h.fact _ _ h1
   exact⟨x,hle.hd _ _ h2,h3⟩
 ·intro i o q
  rcases get q with⟨rfl,rfl⟩|⟨hlt,h1⟩
  ·exact⟨Nat.lt_succ_self _,Nat.lt_succ_self _⟩
  ·exact⟨Nat.lt_succ_of_lt hlt,Nat.lt_succ_of_lt (h.own _ _ h1).2⟩
 ·intro i j oi oj b N M h1 h2 h3 h4
  rcases cls h1 with⟨rfl,_⟩|k1
  ·have:μ H.next=some (b,N):=h3
   rw [hun]at this;cases this
  ·rcases cls h2 with⟨rfl,_⟩|k2
   ·have:μ H.next=some (b,M):=h4
    rw [hun]at this;cases this
   ·exact h.sep i j oi oj b N M k1 k2 h3 h4
 ·exact fun i j fam vi ei ci vj ej cj lw h1 h2 h3 hne=>h.vtop _ _ _ _ _ _ _ _ _ _ (old h1 (by simp)) (old h2 (by simp)) h3 hne
 ·exact fun i j fam vi ei ci vj ej cj lw b N M h1 h2 h3 h4 h5 h6=>h.tip _ _ _ _ _ _ _ _ _ _ _ _ _ (old h1 (by simp)) (old h2 (by simp)) h3 h4 h5 h6
 ·exact fun i fam ver e cs lw b N h1 h2 h3=>h.write _ _ _ _ _ _ _ _ (old h1 (by simp)) h2 h3
 ·intro i fam ver e cs tip lw b N h1 h2 h3 h4
  obtain⟨arr,te,fz,g1,g2,g3,g4,g5⟩:=h.cells _ _ _ _ _ _ _ _ _ (old h1 (by simp)) h2 h3 h4
  exact⟨arr,te,fz,g1,g2,g3,g4.mono hle,g5⟩
 ·intro i kt es b N h1 h2
  obtain⟨g1,en,cl,g2,g3⟩:=h.map _ _ _ _ _ (old h1 (by simp)) h2
  exact⟨g1,en,cl,g2,g3.mono hle⟩
 ·intro i st pend fn nt T ps az bd dd b N h1 h2
  obtain⟨g1,L,d,M,g2,g3,g4,g5,g6,g7,g8,g9,g10⟩:=h.loop _ _ _ _ _ _ _ _ _ _ _ _ (old h1 (by simp)) h2
  exact⟨g1,L,d,M,g2,g3,g4,g5.mono hle,g6,g7,g8,g9,g10⟩
 ·exact fun i op b N h1 h2=>h.defd _ _ _ _ (old h1 (by simp)) h2
theorem namesOK_of(h:(P.funcs.all fun fn => !(fn.body.isSome && fn.name == "runtime.NumGoroutine"))=true):NamesOK P:=by
 intro f fn hf hb
 obtain⟨hlt,rfl⟩:=Array.getElem?_eq_some_iff.1 hf
 have:=(Array.all_eq_true.1 h) f hlt
 rw [hb]at this
 simpa using this
end
inductive Sh where
 | one
 | str
 | agg (n:Nat)
def hcs(i:Nat):Nat→Nat→AV
 | _,0 => .nil
 | k,n+1 => .cons (.hc i k) (hcs i (k+1) n)
def wh(s:Sh)(i:Nat):AV:=
 match s with
 | .one => .hc i 0
 | .str => .hs i
 | .agg n => .agg (hcs i 0 n)
def ShOK(s:Sh)(v:Value):Prop:=
 match s with
 | .one=>v.oneCell'=true
 | .str=>∃s,v = .string s
 | .agg n=>∃xs:Array Value,v = .agg xs∧xs.size=n∧∀x∈xs.toList,x.oneCell'=true
theorem hcs_LR{μ:Mu}{i:Nat}{xs:List Value}(hm:∃v,μ.hd i=some v∧v.cells.toList=xs)(h1:∀x∈xs,x.oneCell'=true):∀(n k:Nat),k+n=xs.length→LR μ (hcs i k n) (xs.drop k)
 | 0,k,h=>by rw [List.drop_eq_nil_of_le (by omega)];rfl
 | n+1,k,h=>by
  have hk:k<xs.length:=by omega
  rw [List.drop_eq_getElem_cons hk]
  obtain⟨v,hv,hc⟩:=hm
  refine LR.cons ⟨v,hv,?_,h1 _ (List.getElem_mem hk)⟩ (hcs_LR ⟨v,hv,hc⟩ h1 n (k+1) (by omega))
  rw [←Array.getElem?_toList,hc,List.getElem?_eq_getElem hk]
theorem wh_VR{μ:Mu}{i:Nat}{s:Sh}{v:Value}(hm:μ.hd i=some v)(h:ShOK s v):VR μ (wh s i) v:=by
 cases s with
 | one=>
  have e:v.cells=#[v]:=by cases v <;> first|rfl|simp [ShOK,Value.oneCell']at h
  exact⟨v,hm,by rw [e];rfl,h⟩
 | str=>obtain⟨s,rfl⟩:=h;exact⟨s,hm,rfl⟩
 | agg n=>
  obtain⟨xs,rfl,hn,h1⟩:=h
  refine⟨xs,rfl,?_⟩
  have:=hcs_LR (μ:=μ) (i:=i) (xs:=xs.toList) ⟨_,hm,rfl⟩ h1 n 0 (by simpa using hn.symm)
  rw [List.drop_zero]at this
  exact this
theorem hcs_det{μ:Mu}{i:Nat}{v:Value}(hm:μ.hd i=some v):∀(n k:Nat) (ys:List Value),k+n=v.cells.size→LR μ (hcs i k n) ys→ys=v.cells.toList.drop k
 | 0,k,ys,h,hy=>by
  have:ys = []:=hy
  rw [this,List.drop_eq_nil_of_le (by simp;omega)]
 | n+1,k,ys,h,hy=>by
  obtain⟨y,r,rfl,h1,h2⟩:=hy
  have hk:k<v.cells.toList.length:=by simp;omega
  rw [List.drop_eq_getElem_cons hk,hcs_det hm n (k+1) r (by omega) h2]
  obtain⟨v',h3,h4,h5⟩:=h1
  rw [hm]at h3;cases h3
  congr 1
  have:v.cells.toList[k]? = some y:=by simpa using h4
  rw [List.getElem?_eq_getElem hk]at this
  exact(Option.some.inj this).symm
theorem wh_det{μ:Mu}{i:Nat}{s:Sh}{v x:Value}(hm:μ.hd i=some v)(h:ShOK s v)(hx:VR μ (wh s i) x):x=v:=by
 cases s with
 | one=>
  have e:v.cells=#[v]:=by cases v <;> first|rfl|simp [ShOK,Value.oneCell']at h
  obtain⟨v',h1,h2,h3⟩:=hx
  rw [hm]at h1;cases h1
  rw [e]at h2
  exact(Option.some.inj h2).symm
 | str=>
  obtain⟨s,h1,rfl⟩:=hx
  rw [hm]at h1;cases h1;rfl
 | agg n=>
  obtain⟨xs,rfl,hn,h1⟩:=h
  obtain⟨ys,rfl,h2⟩:=hx
  have:=hcs_det hm n 0 ys.toList (by rw [Nat.zero_add,←hn];rfl) h2
  rw [List.drop_zero]at this
  have:ys=xs:=Array.toList_inj.1 this
  rw [this]
inductive AT where
 | tag (t:Tg)
 | val (v:AV)
 | agg (cs:AT)
 | fn (f:FuncId) (fs cs:AT)
 | nil
 | cons (h t:AT)
def handleOf:AV→Option Nat
 | .hc i _=>some i
 | .hs i=>some i
 | .agg (.cons (.hc i _) _)=>some i
 | _=>none
def tagOf(cls:Tg→Sh)(H:AH)(a:AV):Option Tg:=
 match handleOf a with
 | some i=>match H.objs.get i with
  | some (.opq t)=>bif a.beq (wh (cls t) i)then some t else none
  | _=>none
 | none=>none
def atOne(cls:Tg→Sh)(H:AH)(a:AV):Option AT:=
 match tagOf cls H a with
 | some t=>some (.tag t)
 | none=>match a.closed with
  | some _=>some (.val a)
  | none=>none
def atOf(cls:Tg→Sh)(H:AH):AV→Option AT × Option AT
 | .nil=>(none,some .nil)
 | .cons a r=>(none,match (atOf cls H a).1,(atOf cls H r).2 with
  | some t,some ts=>some (.cons t ts)
  | _,_=>none)
 | .agg cs=>(match tagOf cls H (.agg cs)with
  | some t=>some (.tag t)
  | none=>match (AV.agg cs).closed with
   | some _=>some (.val (.agg cs))
   | none=>match (atOf cls H cs).2 with
    | some ts=>some (.agg ts)
    | none=>none,none)
 | .fn f fs cs=>(match (atOf cls H fs).2,(atOf cls H cs).2 with
  | some t,some ts=>some (.fn f t ts)
  | _,_=>none,none)
 | a=>(atOne cls H a,none)
theorem Tg.eq_of_beq{a:Tg}:∀{b:Tg},a.beq b=true→a=b:=by
 induction a with
 | leaf n=>intro b h;cases b <;> simp [Tg.beq]at h;rw [h]
 | un k a ih=>intro b h;cases b <;> simp [Tg.beq]at h;rw [h.1,ih h.2]
 | bin k a b ih1 ih2=>intro c h;cases c <;> simp [Tg.beq]at h;rw [h.1.1,ih1 h.1.2,ih2 h.2]
def isTag(H:AH)(t:Tg)(i:Nat):Bool:=
 match H.objs.get i with
 | some (.opq t')=>t'.beq t
 | _=>false
theorem isTag_get{H:AH}{t:Tg}{i:Nat}(h:isTag H t i=true):H.objs.get i=some (.opq t):=by
 unfold isTag at h
 split at h
 ·rename_i t' e
  rw [Tg.eq_of_beq h]at e
  exact e
 ·cases h
def findTag(H:AH)(t:Tg):Nat→Option Nat
 | 0=>none
 | n+1=>bif isTag H t n then some n else findTag H t n
theorem findTag_get{H:AH}{t:Tg}{i:Nat}:∀{n:Nat},findTag H t n=some i→H.objs.get i=some (.opq t)
 | 0,h=>by cases h
 | n+1,h=>by
  unfold findTag at h
  cases e:isTag H t n with
  | true=>
   rw [e]at h
   cases h
   exact isTag_get e
  | false=>
   rw [e]at h
   exact findTag_get h
def knownTag(cls:Tg→Sh)(H:AH)(t:Tg):Option Nat:=
 match cls t with
 | .str=>findTag H t H.next
 | _=>none
def layAT{β:Type}(cls:Tg→Sh):AT→AH→(AV→AH→β)→β
 | .tag t,H,k=>match knownTag cls H t with
  | some i=>k (wh (cls t) i) H
  | none=>H.newObj (.opq t) fun i H=>k (wh (cls t) i) H
 | .val v,H,k=>k v H
 | .agg cs,H,k=>layAT cls cs H fun vs H=>k (.agg vs) H
 | .fn f fs cs,H,k=>layAT cls fs H fun us H=>layAT cls cs H fun vs H=>k (.fn f us vs) H
 | .nil,H,k=>k .nil H
 | .cons a r,H,k=>layAT cls a H fun v H=>layAT cls r H fun vs H=>k (.cons v vs) H
def packAV:AV→AV
 | .cons v .nil=>v
 | vs => .tup vs
def oracle(cls:Tg→Sh)(T:FuncId→AT→Option AT)(f:FuncId)(args:AV)(H:AH):Option (AV × AH):=
 match (atOf cls H args).2 with
 | some ts=>match T f ts with
  | some rs=>layAT cls rs H fun vs H=>some (packAV vs,H)
  | none=>none
 | none=>none
section
variable {P:Program} {B:Nat} {w0:World} {G:Sett}
def PC(G:Sett)(w:World):AT→(Value→Prop) × (List Value→Prop)
 | .tag t=>(fun x=>G.I t x w,fun _=>False)
 | .val v=>(fun x=>v.closed=some x,fun _=>False)
 | .agg cs=>(fun x=>∃xs:Array Value,x = .agg xs∧(PC G w cs).2 xs.toList,fun _=>False)
 | .fn f fs cs=>(fun x=>∃xs ys:Array Value,x = .func (.func f) xs ys∧(PC G w fs).2 xs.toList∧(PC G w cs).2 ys.toList,fun _=>False)
 | .nil=>(fun _=>False,fun xs=>xs = [])
 | .cons h t=>(fun _=>False,fun xs=>∃x r,xs=x :: r∧(PC G w h).1 x∧(PC G w t).2 r)
def PieceOK(G:Sett)(t:AT)(x:Value)(w:World):Prop:=(PC G w t).1 x
def PiecesOK(G:Sett)(t:AT)(xs:List Value)(w:World):Prop:=(PC G w t).2 xs
def PackOK(G:Sett)(ts:AT)(x:Value)(w:World):Prop:=
 match ts with
 | .cons t .nil=>PieceOK G t x w
 | ts=>∃xs:Array Value,x = .tuple xs∧PiecesOK G ts xs.toList w
structure Shaped(G:Sett)(cls:Tg→Sh):Prop where
 ok:∀t v w,G.I t v w→ShOK (cls t) v
 det:∀t,cls t = .str→∀v v' w,G.I t v w→G.I t v' w→v=v'
theorem scCells_LR(μ:Mu):∀{v:AV} {l:List Value},scCells v=some l→LR μ v l
 | .nil,l,h=>by simp [scCells]at h;subst h;rfl
 | .cons (.sc s) t,l,h=>by
  simp only [scCells,Option.map_eq_some_iff]at h
  obtain⟨r,h1,rfl⟩:=h
  exact LR.cons rfl (scCells_LR μ h1)
theorem closed_VR(μ:Mu){v:AV}{x:Value}(h:v.closed=some x):VR μ v x:=by
 unfold AV.closed at h
 split at h
 ·cases h;rfl
 ·simp only [Option.map_eq_some_iff]at h
  obtain⟨l,h1,rfl⟩:=h
  exact⟨l.toArray,rfl,scCells_LR μ h1⟩
 ·cases h
theorem closed_det{μ:Mu}{v:AV}{x y:Value}(h:v.closed=some x)(hy:VR μ v y):y=x:=by
 unfold AV.closed at h
 split at h
 ·cases h;exact hy
 ·simp only [Option.map_eq_some_iff]at h
  obtain⟨l,h1,rfl⟩:=h
  obtain⟨ys,rfl,h2⟩:=hy
  have:=LR.det h1 h2
  congr 1
  exact Array.toList_inj.1 (by simpa using this)
 ·cases h
theorem tagOf_sound{cls:Tg→Sh}(hs:Shaped G cls){μ:Mu}{H:AH}{w:World}(h:Rep P B w0 G μ H w){a:AV}{t:Tg}(ht:tagOf cls H a=some t){x:Value}(hx:VR μ a x):G.I t x w:=by
 unfold tagOf at ht
 split at ht
 ·rename_i i hi
  split at ht
  ·rename_i t' ho
   cases hb:a.beq (wh (cls t') i)with
   | false=>rw [hb]at ht;cases ht
   | true=>
    rw [hb]at ht
    cases ht
    have:=AV.beq_eq hb
    subst this
    obtain⟨v,h1,h2⟩:=h.fact _ _ ho
    rw [wh_det h1 (hs.ok _ _ _ h2) hx]
    exact h2
  ·cases ht
 ·cases ht
theorem atOf_sound{cls:Tg→Sh}(hs:Shaped G cls){μ:Mu}{H:AH}{w:World}(h:Rep P B w0 G μ H w)(a:AV):(∀t,(atOf cls H a).1=some t→∀x,VR μ a x→PieceOK G t x w)∧(∀t,(atOf cls H a).2=some t→∀xs,LR μ a xs→PiecesOK G t xs w):=by
 have one:∀{a:AV} {t:AT},atOne cls H a=some t→∀x,VR μ a x→PieceOK G t x w:=by
  intro a t ht x hx
  unfold atOne at ht
  split at ht
  ·rename_i t' h1
   cases ht
   exact tagOf_sound hs h h1 hx
  ·split at ht
   ·rename_i c hc
    cases ht
    rw [closed_det hc hx]
    exact hc
   ·cases ht
 induction a with
 | nil=>exact⟨fun t q=>(by cases q),fun t q xs hx=>(by cases q;exact hx)⟩
 | cons a r ih1 ih2=>
  refine⟨fun t q=>(by cases q),fun t q xs hx => ?_⟩
  simp only [atOf]at q
  split at q
  ·rename_i t' ts' h1 h2
   cases q
   obtain⟨x,r',rfl,h3,h4⟩:=hx
   exact⟨x,r',rfl,ih1.1 _ h1 _ h3,ih2.2 _ h2 _ h4⟩
  ·cases q
 | agg cs ih=>
  refine⟨fun t q x hx => ?_,fun t q=>(by cases q)⟩
  simp only [atOf]at q
  split at q
  ·rename_i t' h1
   cases q
   exact tagOf_sound hs h h1 hx
  ·split at q
   ·rename_i c hc
    cases q
    rw [closed_det hc hx]
    exact hc
   ·split at q
    ·rename_i ts hts
     cases q
     obtain⟨xs,rfl,h2⟩:=hx
     exact⟨xs,rfl,ih.2 _ hts _ h2⟩
    ·cases q
 | fn f fs cs ih1 ih2=>
  refine⟨fun t q x hx => ?_,fun t q=>(by cases q)⟩
  simp only [atOf]at q
  split at q
  ·rename_i t' ts' h1 h2
   cases q
   obtain⟨xs,ys,rfl,h3,h4⟩:=hx
   exact⟨xs,ys,rfl,ih1.2 _ h1 _ h3,ih2.2 _ h2 _ h4⟩
  ·cases q
 | _=>exact⟨fun t q x hx=>(by simp only [atOf]at q;exact one q x hx),fun t q=>(by simp only [atOf]at q;cases q)⟩
theorem lay_rep{cls:Tg→Sh}(hs:Shaped G cls){β:Type}{w:World}(ts:AT):∀(μ:Mu) (H:AH) (k:AV→AH→Option β) (r:β),Rep P B w0 G μ H w→layAT cls ts H k=some r →
  (∀x,PieceOK G ts x w→∃v μ' H',k v H'=some r∧Rep P B w0 G μ' H' w∧Ext H μ H' μ'∧VR μ' v x)∧(∀xs,PiecesOK G ts xs w→∃vs μ' H',k vs H'=some r∧Rep P B w0 G μ' H' w∧Ext H μ H' μ'∧LR μ' vs xs):=by
 induction ts with
 | tag t=>
  intro μ H k r h hl
  refine⟨fun x hp => ?_,fun xs hp=>hp.elim⟩
  simp only [layAT,newObj_eq]at hl
  split at hl
  ·rename_i i hkn
   have hc:cls t = .str∧findTag H t H.next=some i:=by
    unfold knownTag at hkn
    split at hkn
    ·rename_i e;exact⟨e,hkn⟩
    ·cases hkn
   obtain⟨v,h1,h2⟩:=h.fact _ _ (findTag_get hc.2)
   have:v=x:=hs.det t hc.1 _ _ _ h2 hp
   subst this
   exact⟨_,μ,H,hl,h,.refl H μ,wh_VR h1 (hs.ok _ _ _ hp)⟩
  ·obtain⟨g1,g2,g3⟩:=h.hold (t:=t) (v:=x) hp
   exact⟨_,_,_,hl,g1,g2,wh_VR g3 (hs.ok _ _ _ hp)⟩
 | val v=>
  intro μ H k r h hl
  exact⟨fun x hp=>⟨v,μ,H,hl,h,.refl H μ,closed_VR _ hp⟩,fun xs hp=>hp.elim⟩
 | agg cs ih=>
  intro μ H k r h hl
  refine⟨fun x hp => ?_,fun xs hp=>hp.elim⟩
  obtain⟨xs,rfl,hp⟩:=hp
  simp only [layAT]at hl
  obtain⟨vs,μ',H',k1,k2,k3,k4⟩:=(ih μ H _ r h hl).2 _ hp
  exact⟨_,μ',H',k1,k2,k3,xs,rfl,k4⟩
 | fn f fs cs ih1 ih2=>
  intro μ H k r h hl
  refine⟨fun x hp => ?_,fun xs hp=>hp.elim⟩
  obtain⟨xs,ys,rfl,h1,h2⟩:=hp
  simp only [layAT]at hl
  obtain⟨us,μ1,H1,k1,k2,k3,k4⟩:=(ih1 μ H _ r h hl).2 _ h1
  obtain⟨vs,μ2,H2,l1,l2,l3,l4⟩:=(ih2 μ1 H1 _ r k2 k1).2 _ h2
  exact⟨_,μ2,H2,l1,l2,k3.trans l3,xs,ys,rfl,k4.mono l3.1,l4⟩
 | nil=>
  intro μ H k r h hl
  exact⟨fun x hp=>hp.elim,fun xs hp=>⟨.nil,μ,H,hl,h,.refl H μ,hp⟩⟩
 | cons a b ih1 ih2=>
  intro μ H k r h hl
  refine⟨fun x hp=>hp.elim,fun xs hp => ?_⟩
  obtain⟨x,r',rfl,h1,h2⟩:=hp
  simp only [layAT]at hl
  obtain⟨v,μ1,H1,k1,k2,k3,k4⟩:=(ih1 μ H _ r h hl).1 _ h1
  obtain⟨vs,μ2,H2,l1,l2,l3,l4⟩:=(ih2 μ1 H1 _ r k2 k1).2 _ h2
  exact⟨_,μ2,H2,l1,l2,k3.trans l3,LR.cons (k4.mono l3.1) l4⟩
def ToldT(P:Program)(G:Sett)(T:FuncId→AT→Option AT):Prop:=
 ∀f ts rs,T f ts=some rs→(∃fn:Func,P.funcs[f]? = some fn∧fn.body.isSome=true) ∧
  ∀w (xs:Array Value),PiecesOK G ts xs.toList w→Calls P f xs w fun e w'=>∃x,e = .returned x∧PackOK G rs x w'∧Below w.heap.size w w'
def ToldIn(P:Program)(B:Nat)(w0:World)(G:Sett)(T:FuncId→AT→Option AT):Prop:=
 ∀f ts rs,T f ts=some rs→(∃fn:Func,P.funcs[f]? = some fn∧fn.body.isSome=true) ∧
  ∀w (xs:Array Value),Below B w0 w→PiecesOK G ts xs.toList w→Calls P f xs w fun e w'=>∃x,e = .returned x∧PackOK G rs x w'∧Below w.heap.size w w'
theorem ToldT.inn{T:FuncId→AT→Option AT}(h:ToldT P G T):ToldIn P B w0 G T:=fun f ts rs q=>⟨(h f ts rs q).1,fun w xs _ hx=>(h f ts rs q).2 w xs hx⟩
theorem pack_VR{cls:Tg→Sh}(hs:Shaped G cls){β:Type}{w:World}{rs:AT}{x:Value}{μ:Mu}{H:AH}{k:AV→AH→Option β}{r:β}(h:Rep P B w0 G μ H w)(hp:PackOK G rs x w)(hl:layAT cls rs H (fun vs H=>k (packAV vs) H)=some r) :
  ∃v μ' H',k v H'=some r∧Rep P B w0 G μ' H' w∧Ext H μ H' μ'∧VR μ' v x:=by
 have many:(∃xs:Array Value,x = .tuple xs∧PiecesOK G rs xs.toList w)→(∀t,rs ≠ .cons t .nil)→∃v μ' H',k v H'=some r∧Rep P B w0 G μ' H' w∧Ext H μ H' μ'∧VR μ' v x:=by
  rintro⟨xs,rfl,hpp⟩ hn
  clear hp
  obtain⟨vs,μ',H',k1,k2,k3,k4⟩:=(lay_rep hs rs μ H _ r h hl).2 xs.toList hpp
  refine⟨_,μ',H',k1,k2,k3,?_⟩
  have:packAV vs = .tup vs:=by
   unfold packAV
   split
   ·rename_i v
    obtain⟨x,r',e,_,h2⟩:=k4
    have h2:r' = []:=h2
    subst h2
    cases rs with
    | cons a b=>
     obtain⟨y,s,e2,_,h3⟩:=hpp
     rw [e]at e2
     cases e2
     cases b with
     | nil=>exact absurd rfl (hn a)
     | cons _ _=>obtain⟨_,_,q,_⟩:=h3;cases q
     | _=>exact h3.elim
    | nil=>have:xs.toList = []:=hpp;rw [this]at e;cases e
    | _=>exact hpp.elim
   ·rfl
  rw [this]
  exact⟨xs,rfl,k4⟩
 unfold PackOK at hp
 split at hp
 ·rename_i t
  obtain⟨vs,μ',H',k1,k2,k3,k4⟩:=(lay_rep hs (.cons t .nil) μ H _ r h hl).2 [x] ⟨x,[],rfl,hp,rfl⟩
  obtain⟨y,r',e,h1,h2⟩:∃y r',vs = .cons y r'∧VR μ' y x∧LR μ' r' []:=by
   cases vs with
   | cons y r'=>obtain⟨x',r2,e,h1,h2⟩:=k4;cases e;exact⟨y,r',rfl,h1,h2⟩
   | nil=>have:[x] = []:=k4;cases this
   | _=>exact k4.elim
  have hr:r' = .nil:=by
   cases r' with
   | nil=>rfl
   | cons a b=>obtain⟨_,_,e2,_⟩:=h2;cases e2
   | _=>exact h2.elim
  subst e;subst hr
  exact⟨y,μ',H',k1,k2,k3,h1⟩
 ·rename_i hne
  exact many hp (fun t e=>hne t e)
theorem oracle_ok{cls:Tg→Sh}(hs:Shaped G cls){T:FuncId→AT→Option AT}(hT:ToldIn P B w0 G T):CallsOK P B w0 G (oracle cls T):=by
 intro f args H v H' ho
 unfold oracle at ho
 split at ho
 ·rename_i ts hts
  split at ho
  ·rename_i rs hrs
   obtain⟨h1,h2⟩:=hT _ _ _ hrs
   refine⟨h1,fun μ w xs hrep hxs=>callsIn_wide.2 ((h2 w xs hrep.below ((atOf_sound hs hrep args).2 _ hts _ hxs)).mono ?_)⟩
   rintro e w' ⟨x,rfl,hp,hb⟩
   obtain⟨v',μ',H2,k1,k2,k3,k4⟩:=pack_VR hs (k:=fun v H=>some (v,H)) (hrep.onto hb) hp ho
   cases k1
   exact⟨x,μ',rfl,k3,k4,k2⟩
  ·cases ho
 ·cases ho
def runF(P:Program)(cls:Tg→Sh)(T:FuncId→AT→Option AT)(res:List TypeId)(D:List FuncId)(n:Nat)(f:FuncId)(ts:AT):Option AT:=
 layAT cls ts (bare res) fun args H=>match (cb P [] (oracle cls T) D n).call f args H with
  | some (.tup vs,H')=>(match (atOf cls H' vs).2 with|some (.cons _ .nil)=>none|r=>r)
  | some (v,H')=>(atOf cls H' (.cons v .nil)).2
  | none=>none
theorem run_soundW(hm:P.follows .mixedOrders=true)(hN:NamesOK P){cls:Tg→Sh}(hs:Shaped G cls)(hids:G.ids = []){T:FuncId→AT→Option AT}{w:World}(hT:ToldIn P w.heap.size w G T){D:List FuncId}(hD:∀g∈D,StillFn P g){n:Nat}{f:FuncId}{ts rs:AT}
  (h:runF P cls T G.res D n f ts=some rs) {xs:Array Value} (hx:PiecesOK G ts xs.toList w) :
  Calls P f xs w fun e w'=>∃x,e = .returned x∧PackOK G rs x w'∧Below w.heap.size w w':=by
 unfold runF at h
 obtain⟨vs,μ',H',k1,k2,k3,k4⟩:=(lay_rep hs ts _ _ _ _ (bare_rep hids w) h).2 _ hx
 split at k1
 ·rename_i us H2 hcall
  refine(calls_of_run (G:=G) hm hN (oracle_ok hs hT) hD (by rw [hids];exact hcall) k2 k4).mono ?_
  rintro e w' ⟨x,μ2,rfl,_,hv,hrep⟩
  obtain⟨ys,rfl,hy⟩:=hv
  refine⟨_,rfl,?_,hrep.below⟩
  split at k1
  ·cases k1
  ·rename_i hne
   have hp:=(atOf_sound hs hrep us).2 _ k1 _ hy
   unfold PackOK
   split
   ·rename_i t
    exact absurd k1 (hne t)
   ·exact⟨ys,rfl,hp⟩
 ·rename_i u H2 hne hcall
  refine(calls_of_run (G:=G) hm hN (oracle_ok hs hT) hD (by rw [hids];exact hcall) k2 k4).mono ?_
  rintro e w' ⟨x,μ2,rfl,_,hv,hrep⟩
  have hp:=(atOf_sound hs hrep (.cons u .nil)).2 _ k1 _ (LR.cons hv LR.nil)
  refine⟨_,rfl,?_,hrep.below⟩
  cases rs with
  | cons a b=>
   obtain⟨y,s,e2,h1,h3⟩:=hp
   cases e2
   cases b with
   | nil=>exact h1
   | cons _ _=>obtain⟨_,_,q,_⟩:=h3;cases q
   | _=>exact h3.elim
  | nil=>cases hp
  | _=>exact hp.elim
 ·cases k1
theorem run_sound(hm:P.follows .mixedOrders=true)(hN:NamesOK P){cls:Tg→Sh}(hs:Shaped G cls)(hids:G.ids = []){T:FuncId→AT→Option AT}(hT:ToldT P G T){D:List FuncId}(hD:∀g∈D,StillFn P g){n:Nat}{f:FuncId}{ts rs:AT}
  (h:runF P cls T G.res D n f ts=some rs) {w:World} {xs:Array Value} (hx:PiecesOK G ts xs.toList w) :
  Calls P f xs w fun e w'=>∃x,e = .returned x∧PackOK G rs x w'∧Below w.heap.size w w':=
 run_soundW hm hN hs hids hT.inn hD h hx
end
end Go.Eng
namespace Go.Num
def B:Nat:=1000000000
theorem B_pos:0<B:=by decide
theorem pow_pos'(i:Nat):0<B^i:=Nat.pow_pos B_pos
def limb(n i:Nat):Nat:=n/B^i%B
theorem limb_lt(n i:Nat):limb n i<B:=Nat.mod_lt _ B_pos
theorem low_succ(n i:Nat):n%B^(i+1)=n%B^i+B^i*limb n i:=Nat.mod_pow_succ
theorem low_lt(n i:Nat):n%B^i<B^i:=Nat.mod_lt _ (pow_pos' i)
theorem low_zero(n:Nat):n%B^0=0:=by rw [Nat.pow_zero,Nat.mod_one]
theorem limb_high{n i:Nat}(h:n<B^i):limb n i=0:=by
 unfold limb
 rw [Nat.div_eq_of_lt h]
 rfl
theorem low_high{n i:Nat}(h:n<B^i):n%B^i=n:=Nat.mod_eq_of_lt h
theorem pow_mono{i j:Nat}(h:i≤j):B^i≤B^j:=Nat.pow_le_pow_right B_pos h
def carryA(x y i:Nat):Nat:=(x%B^i+y%B^i)/B^i
theorem carryA_zero(x y:Nat):carryA x y 0=0:=by unfold carryA;rw [low_zero,low_zero];simp
theorem carryA_le(x y i:Nat):carryA x y i≤1:=by
 unfold carryA
 have h1:=low_lt x i
 have h2:=low_lt y i
 have:(x%B^i+y%B^i)/B^i<2:=Nat.div_lt_of_lt_mul (by omega)
 omega
theorem sum_low(x y i:Nat):x%B^i+y%B^i=(x+y)%B^i+B^i*carryA x y i:=by
 unfold carryA
 have h:=Nat.div_add_mod (x%B^i+y%B^i) (B^i)
 rw [←Nat.add_mod]at h
 omega
theorem add_step(x y i:Nat):limb (x+y) i=(limb x i+limb y i+carryA x y i)%B∧carryA x y (i+1)=(limb x i+limb y i+carryA x y i)/B:=by
 have s0:=sum_low x y i
 have s1:=sum_low x y (i+1)
 have hx:=low_succ x i
 have hy:=low_succ y i
 have hz:=low_succ (x+y) i
 rw [hx,hy,hz]at s1
 have hp:B^(i+1)=B^i*B:=Nat.pow_succ _ _
 rw [hp]at s1
 have key:B^i*(limb x i+limb y i+carryA x y i)=B^i*(limb (x+y) i+B*carryA x y (i+1)):=by
  rw [Nat.mul_add,Nat.mul_add,Nat.mul_add]
  have:B^i*(B*carryA x y (i+1))=B^i*B*carryA x y (i+1):=(Nat.mul_assoc _ _ _).symm
  omega
 have k:=Nat.eq_of_mul_eq_mul_left (pow_pos' i) key
 have hl:=limb_lt (x+y) i
 rw [k]
 exact⟨by rw [Nat.add_mul_mod_self_left,Nat.mod_eq_of_lt hl],by rw [Nat.add_mul_div_left _ _ B_pos,Nat.div_eq_of_lt hl,Nat.zero_add]⟩
def borrowS(x y i:Nat):Nat:=if x%B^i<y%B^i then 1 else 0
theorem borrowS_zero(x y:Nat):borrowS x y 0=0:=by unfold borrowS;rw [low_zero,low_zero];rfl
theorem borrowS_le(x y i:Nat):borrowS x y i≤1:=by unfold borrowS;split <;> omega
theorem diff_low{x y:Nat}(h:y≤x)(i:Nat):(x-y)%B^i+y%B^i=x%B^i+B^i*borrowS x y i:=by
 have s:=sum_low (x-y) y i
 rw [Nat.sub_add_cancel h]at s
 have hx:=low_lt x i
 have hd:=low_lt (x-y) i
 have hc:=carryA_le (x-y) y i
 have e:carryA (x-y) y i=borrowS x y i:=by
  unfold borrowS
  by_cases hlt:x%B^i<y%B^i
  ·rw [if_pos hlt]
   have:carryA (x-y) y i≠0:=fun e=>by
    rw [e,Nat.mul_zero]at s
    generalize (x-y)%B^i=D at s
    generalize x%B^i=X at s hlt
    generalize y%B^i=Y at s hlt
    omega
   omega
  ·rw [if_neg hlt]
   by_cases e:carryA (x-y) y i=1
   ·rw [e,Nat.mul_one]at s
    generalize (x-y)%B^i=D at s hd
    generalize x%B^i=X at s hlt
    generalize y%B^i=Y at s hlt
    omega
   ·omega
 rw [s,e]
theorem sub_step{x y:Nat}(h:y≤x)(i:Nat):limb (x-y) i+(limb y i+borrowS x y i)=limb x i+B*borrowS x y (i+1):=by
 have s0:=diff_low h i
 have s1:=diff_low h (i+1)
 have hx:=low_succ x i
 have hy:=low_succ y i
 have hz:=low_succ (x-y) i
 rw [hx,hy,hz]at s1
 have hp:B^(i+1)=B^i*B:=Nat.pow_succ _ _
 rw [hp]at s1
 have key:B^i*(limb (x-y) i+(limb y i+borrowS x y i))=B^i*(limb x i+B*borrowS x y (i+1)):=by
  rw [Nat.mul_add,Nat.mul_add,Nat.mul_add]
  have:B^i*(B*borrowS x y (i+1))=B^i*B*borrowS x y (i+1):=(Nat.mul_assoc _ _ _).symm
  omega
 exact Nat.eq_of_mul_eq_mul_left (pow_pos' i) key
theorem sub_case{x y:Nat}(h:y≤x)(i:Nat):(limb x i<limb y i+borrowS x y i→borrowS x y (i+1)=1∧limb (x-y) i=limb x i+B-(limb y i+borrowS x y i))∧(¬limb x i<limb y i+borrowS x y i→borrowS x y (i+1)=0∧limb (x-y) i=limb x i-(limb y i+borrowS x y i)):=by
 have s:=sub_step h i
 have h1:=limb_lt (x-y) i
 have h2:=limb_lt y i
 have h3:=limb_lt x i
 have h4:=borrowS_le x y i
 have h5:=borrowS_le x y (i+1)
 have hb:borrowS x y (i+1)=0∨borrowS x y (i+1)=1:=by omega
 rcases hb with e|e
 ·rw [e]at s ⊢
  exact⟨fun q=>by omega,fun q=>⟨rfl,by omega⟩⟩
 ·rw [e]at s ⊢
  exact⟨fun q=>⟨rfl,by omega⟩,fun q=>by omega⟩
def LenIs(n k:Nat):Prop:=n<B^k∧(k=0∨B^(k-1)≤n)
theorem LenIs.unique{n k l:Nat}(h:LenIs n k)(h':LenIs n l):k=l:=by
 rcases Nat.lt_trichotomy k l with q|q|q
 ·have h2:=h'.2
  have:=pow_mono (i:=k) (j:=l-1) (by omega)
  have:=h.1
  omega
 ·exact q
 ·have h2:=h.2
  have:=pow_mono (i:=l) (j:=k-1) (by omega)
  have:=h'.1
  omega
theorem LenIs.top{n k:Nat}(h:LenIs n (k+1)):limb n k≠0:=by
 intro e
 have h1:=low_succ n k
 rw [e,Nat.mul_zero,low_high h.1]at h1
 have h2:=low_lt n k
 have h3:=h.2
 simp at h3
 omega
theorem lenIs_of{n k:Nat}(h:n<B^(k+1))(ht:limb n k≠0):LenIs n (k+1):=by
 refine⟨h,.inr ?_⟩
 have h1:=low_succ n k
 rw [low_high h]at h1
 have:B^k*1≤B^k*limb n k:=Nat.mul_le_mul_left _ (by omega)
 rw [Nat.add_sub_cancel]
 rw [Nat.mul_one]at this
 rw [h1]
 exact Nat.le_trans this (Nat.le_add_left _ _)
theorem lt_of_zero{n k:Nat}(h:n<B^(k+1))(ht:limb n k=0):n<B^k:=by
 have h1:=low_succ n k
 rw [low_high h,ht,Nat.mul_zero]at h1
 have:=low_lt n k
 omega
theorem LenIs.zero{n:Nat}(h:LenIs n 0):n=0:=by have:=h.1;rw [Nat.pow_zero]at this;omega
theorem lenIs_zero:LenIs 0 0:=⟨by decide,.inl rfl⟩
theorem limb_ext{m n:Nat}:∀{k:Nat},m<B^k→n<B^k→(∀i,i<k→limb m i=limb n i)→m=n:=by
 have key:∀k,(∀i,i<k→limb m i=limb n i)→m%B^k=n%B^k:=by
  intro k
  induction k with
  | zero=>intro _;rw [low_zero,low_zero]
  | succ k ih=>
   intro h
   rw [low_succ,low_succ,ih fun i hi=>h i (by omega),h k (by omega)]
 intro k h1 h2 h
 have:=key k h
 rw [low_high h1,low_high h2]at this
 exact this
theorem div_step(x i:Nat):x/B^i=B*(x/B^(i+1))+limb x i:=by
 unfold limb
 rw [Nat.pow_succ,←Nat.div_div_eq_div_mul]
 exact(Nat.div_add_mod _ _).symm
theorem short_step{b:Nat}(hb:0<b)(x i:Nat):(x/B^(i+1)%b*B+limb x i)/b=limb (x/b) i+(if b≤B then 0 else((x/B^(i+1)%b*B+limb x i)/b-limb (x/b) i))∧(x/B^(i+1)%b*B+limb x i)%b=x/B^i%b:=by
 have e:=div_step x i
 have h2:(x/B^(i+1)%b*B+limb x i)%b=x/B^i%b:=by
  rw [e,Nat.add_mod,Nat.add_mod (B*_),Nat.mul_comm B,Nat.mod_mul_mod]
 refine⟨?_,h2⟩
 have h3:x/B^i/b=x/b/B^i:=by rw [Nat.div_div_eq_div_mul,Nat.div_div_eq_div_mul,Nat.mul_comm]
 have h4:x/B^(i+1)/b=x/b/B^(i+1):=by rw [Nat.div_div_eq_div_mul,Nat.div_div_eq_div_mul,Nat.mul_comm]
 have d1:=Nat.div_add_mod (x/B^(i+1)) b
 have q:x/B^i/b=B*(x/B^(i+1)/b)+(x/B^(i+1)%b*B+limb x i)/b:=by
  rw [e]
  have:B*(x/B^(i+1))+limb x i=b*(B*(x/B^(i+1)/b))+(x/B^(i+1)%b*B+limb x i):=by
   have h:B*(x/B^(i+1))=b*(B*(x/B^(i+1)/b))+x/B^(i+1)%b*B:=by
    conv=>lhs;rw [←d1]
    rw [Nat.mul_add,←Nat.mul_assoc,←Nat.mul_assoc,Nat.mul_comm B b,Nat.mul_comm B (_%b)]
   rw [h];omega
  rw [this,Nat.mul_add_div hb]
 have s:=div_step (x/b) i
 rw [h3,h4,s]at q
 have q2:limb (x/b) i=(x/B^(i+1)%b*B+limb x i)/b:=by omega
 rw [q2]
 split <;> omega
theorem short_limb{b:Nat}(hb:0<b)(hB:b≤B)(x i:Nat):(x/B^(i+1)%b*B+limb x i)/b=limb (x/b) i:=by
 have:=(short_step hb x i).1
 rw [if_pos hB,Nat.add_zero]at this
 exact this
def rowT(S c b i j:Nat):Nat:=S+c*(b%B^j)*B^i
def carryM(S c b i j:Nat):Nat:=rowT S c b i j/B^(i+j)-S/B^(i+j)
theorem rowT_zero(S c b i:Nat):rowT S c b i 0=S:=by unfold rowT;rw [low_zero];simp
theorem carryM_zero(S c b i:Nat):carryM S c b i 0=0:=by unfold carryM;rw [rowT_zero];simp
theorem rowT_succ(S c b i j:Nat):rowT S c b i (j+1)=rowT S c b i j+c*limb b j*B^(i+j):=by
 unfold rowT
 have e:c*(b%B^(j+1))*B^i=c*(b%B^j)*B^i+c*limb b j*B^(i+j):=by
  rw [low_succ,Nat.mul_add,Nat.add_mul,Nat.pow_add]
  congr 1
  ac_rfl
 rw [e,Nat.add_assoc]
theorem row_over(S c b i j:Nat):rowT S c b i j/B^(i+j)=S/B^(i+j)+carryM S c b i j:=by
 unfold carryM
 have:S/B^(i+j)≤rowT S c b i j/B^(i+j):=Nat.div_le_div_right (by unfold rowT;omega)
 omega
theorem carryM_le(S c b i j:Nat):carryM S c b i j≤c:=by
 have h:=row_over S c b i j
 have h2:rowT S c b i j/B^(i+j)≤S/B^(i+j)+c:=by
  have h3:rowT S c b i j≤S+c*B^(i+j):=by
   unfold rowT
   have:c*(b%B^j)*B^i≤c*B^j*B^i:=Nat.mul_le_mul_right _ (Nat.mul_le_mul_left _ (Nat.le_of_lt (low_lt b j)))
   rw [Nat.pow_add,Nat.mul_comm (B^i),←Nat.mul_assoc]
   omega
  refine Nat.le_trans (Nat.div_le_div_right h3) ?_
  rw [Nat.add_mul_div_right _ _ (pow_pos' _)]
  exact Nat.le_refl _
 omega
theorem mul_step(S c b i j:Nat):limb (rowT S c b i (j+1)) (i+j)=(carryM S c b i j+limb S (i+j)+c*limb b j)%B∧carryM S c b i (j+1)=(carryM S c b i j+limb S (i+j)+c*limb b j)/B∧∀p,p<i+j→limb (rowT S c b i (j+1)) p=limb (rowT S c b i j) p:=by
 have e:=rowT_succ S c b i j
 have o:=row_over S c b i j
 have q:rowT S c b i (j+1)/B^(i+j)=B*(S/B^(i+j+1))+(carryM S c b i j+limb S (i+j)+c*limb b j):=by
  rw [e,Nat.add_mul_div_right _ _ (pow_pos' _),o,div_step S (i+j)]
  omega
 refine⟨?_,?_,fun p hp => ?_⟩
 ·unfold limb at *
  rw [q,Nat.mul_add_mod]
 ·have o2:=row_over S c b i (j+1)
  have d:rowT S c b i (j+1)/B^(i+(j+1))=S/B^(i+j+1)+(carryM S c b i j+limb S (i+j)+c*limb b j)/B:=by
   rw [show i+(j+1)=(i+j)+1 by omega,Nat.pow_succ,←Nat.div_div_eq_div_mul,q,Nat.mul_add_div B_pos]
   rw [Nat.pow_succ]
  rw [show i+(j+1)=i+j+1 by omega]at o2 d
  rw [d]at o2
  omega
 ·rw [e]
  unfold limb
  obtain⟨d,hd⟩:∃d,i+j=p+1+d:=⟨i+j-p-1,by omega⟩
  have:c*limb b j*B^(i+j)=B^p*(B*(c*limb b j*B^d)):=by
   rw [hd,Nat.pow_add,Nat.pow_succ]
   rw [Nat.mul_comm (c*limb b j),Nat.mul_assoc,Nat.mul_assoc,Nat.mul_comm (B^d)]
  unfold limb at this
  rw [this,Nat.add_mul_div_left _ _ (pow_pos' p),Nat.add_mul_mod_self_left]
theorem row_end{x y i l:Nat}(hy:y<B^l):rowT (x%B^i*y) (limb x i) y i l=x%B^(i+1)*y∧carryM (x%B^i*y) (limb x i) y i l=limb (x%B^(i+1)*y) (i+l):=by
 have e:rowT (x%B^i*y) (limb x i) y i l=x%B^(i+1)*y:=by
  unfold rowT
  rw [low_high hy,low_succ,Nat.add_mul]
  congr 1
  rw [Nat.mul_comm _ (B^i),←Nat.mul_assoc]
 refine⟨e,?_⟩
 unfold carryM limb
 unfold limb at e
 rw [e]
 have h0:x%B^i*y<B^(i+l):=by
  rw [Nat.pow_add]
  exact Nat.mul_lt_mul_of_lt_of_le (low_lt x i) (Nat.le_of_lt hy) (pow_pos' l)
 rw [Nat.div_eq_of_lt h0,Nat.sub_zero]
 refine(Nat.mod_eq_of_lt (Nat.div_lt_of_lt_mul ?_)).symm
 have h1:x%B^(i+1)*y<B^(i+1)*B^l:=Nat.mul_lt_mul_of_lt_of_le (low_lt x _) (Nat.le_of_lt hy) (pow_pos' l)
 have e2:B^(i+1)*B^l=B^(i+l)*B:=by
  rw [←Nat.pow_add,←Nat.pow_succ]
  congr 1
  omega
 rw [←e2]
 exact h1
theorem prod_len{x y k l:Nat}(hx:x<B^k)(hy:y<B^l):x*y<B^(k+l):=by
 rw [Nat.pow_add]
 exact Nat.mul_lt_mul_of_lt_of_le hx (Nat.le_of_lt hy) (pow_pos' l)
theorem guess_ge{R c i l top:Nat}(hl:0<l)(ht:top*B^(l-1)≤c)(ht0:0<top):R/(c*B^i)≤R/B^(i+l-1)/top:=by
 rcases Nat.eq_zero_or_pos c with hc|hc
 ·have:=Nat.mul_pos ht0 (pow_pos' (l-1))
  omega
 rw [Nat.le_div_iff_mul_le ht0,Nat.le_div_iff_mul_le (pow_pos' _)]
 have h1:R/(c*B^i)*(c*B^i)≤R:=Nat.div_mul_le_self _ _
 refine Nat.le_trans ?_ h1
 rw [Nat.mul_assoc]
 refine Nat.mul_le_mul_left _ ?_
 rw [show i+l-1=(l-1)+i by omega,Nat.pow_add,←Nat.mul_assoc]
 exact Nat.mul_le_mul_right _ ht
theorem guess_is{R D g:Nat}(_hD:0<D)(h1:g*D≤R)(h2:R/D≤g):g=R/D:=by
 have:g≤R/D:=(Nat.le_div_iff_mul_le _hD).2 h1
 omega
theorem guess_not{R D g:Nat}(_hD:0<D)(h:R<g*D):R/D<g:=Nat.div_lt_of_lt_mul (by rw [Nat.mul_comm];exact h)
theorem quo_step{A c i:Nat}(hc:0<c):limb (A/c) i=A%(c*B^(i+1))/(c*B^i)∧A%(c*B^(i+1))-A%(c*B^(i+1))/(c*B^i)*(c*B^i)=A%(c*B^i):=by
 have e:c*B^(i+1)=c*B^i*B:=by rw [Nat.pow_succ,Nat.mul_assoc]
 have hp:0<c*B^i:=Nat.mul_pos hc (pow_pos' i)
 refine⟨?_,?_⟩
 ·unfold limb
  rw [e,Nat.mod_mul_right_div_self,Nat.div_div_eq_div_mul]
 ·have h:=Nat.div_add_mod (A%(c*B^(i+1))) (c*B^i)
  rw [e,Nat.mod_mul_right_mod]at h
  rw [←e]at h
  rw [Nat.mul_comm (_/_)]
  omega
end Go.Num
namespace Go.Num
end Go.Num
namespace Go.Num
def sgn(neg:Bool)(n:Nat):Int:=if neg=true then -(n:Int)else(n:Int)
theorem sgn_abs(neg:Bool)(n:Nat):(sgn neg n).natAbs=n:=by unfold sgn;split <;> omega
theorem sgn_neg(neg:Bool)(n:Nat):sgn neg n<0↔neg=true∧0<n:=by
 unfold sgn
 cases neg <;> simp <;> omega
def frac(neg:Bool)(n d:Nat):Rat:=Rat.divInt (sgn neg n) (d:Int)
theorem frac_eq{neg:Bool}{n d:Nat}(hd:d≠0):frac neg n d=Rat.normalize (sgn neg n) d hd:=by
 unfold frac
 show Rat.divInt (sgn neg n) ((d:Nat):Int)=_
 rw [Rat.divInt_ofNat,Rat.mkRat_def,dif_neg hd]
theorem frac_parts{neg:Bool}{n d:Nat}(hd:d≠0):(frac neg n d).num.natAbs=n/Nat.gcd d n∧(frac neg n d).den=d/Nat.gcd d n∧((frac neg n d).num<0↔neg=true∧0<n):=by
 have hg:0<Nat.gcd n d:=Nat.gcd_pos_of_pos_right _ (Nat.pos_of_ne_zero hd)
 have e:(sgn neg n).natAbs.gcd d=Nat.gcd n d:=by rw [sgn_abs]
 rw [frac_eq hd,Rat.normalize_eq]
 refine⟨?_,?_,?_⟩
 ·show(sgn neg n/((sgn neg n).natAbs.gcd d:Int)).natAbs=_
  rw [e,Nat.gcd_comm d n]
  have hdv:((Nat.gcd n d:Nat):Int)∣sgn neg n:=by
   have:=Int.natCast_dvd_natCast.2 (Nat.gcd_dvd_left n d)
   unfold sgn
   split
   ·exact Int.dvd_neg.2 this
   ·exact this
  rw [Int.natAbs_ediv_of_dvd hdv,sgn_abs]
  rfl
 ·show d/(sgn neg n).natAbs.gcd d=_
  rw [e,Nat.gcd_comm d n]
 ·show sgn neg n/((sgn neg n).natAbs.gcd d:Int)<0↔_
  rw [e,←sgn_neg]
  have hg':(0:Int)<((Nat.gcd n d:Nat):Int):=by omega
  constructor
  ·intro h
   apply Classical.byContradiction
   intro hno
   have:=Int.ediv_nonneg (a:=sgn neg n) (b:=((Nat.gcd n d:Nat):Int)) (by omega) (by omega)
   omega
  ·intro h
   exact Int.ediv_neg_of_neg_of_pos h hg'
theorem frac_self(q:Rat):frac (decide (q.num<0)) q.num.natAbs q.den=q:=by
 have e:sgn (decide (q.num<0)) q.num.natAbs=q.num:=by
  unfold sgn
  by_cases h:q.num<0
  ·simp [h];omega
  ·simp [h];omega
 unfold frac
 rw [e]
 exact Rat.num_divInt_den q
theorem sgn_mul(a b:Bool)(m n:Nat):sgn a m*sgn b n=sgn (a != b) (m*n):=by
 unfold sgn
 cases a <;> cases b <;> simp [Int.neg_mul,Int.mul_neg]
theorem frac_times{a b:Bool}{m n d e:Nat}:frac a m d*frac b n e=frac (a != b) (m*n) (d*e):=by
 unfold frac
 rw [Rat.divInt_mul_divInt,sgn_mul]
 simp
theorem frac_plus{a b:Bool}{m n d e:Nat}(hd:d≠0)(he:e≠0):frac a m d+frac b n e=Rat.divInt (sgn a (m*e)+sgn b (n*d)) ((d*e:Nat):Int):=by
 unfold frac
 rw [Rat.divInt_add_divInt _ _ (by omega) (by omega)]
 have h:∀(a:Bool) (m e:Nat),sgn a m*(e:Int)=sgn a (m*e):=fun a m e=>by unfold sgn;cases a <;> simp [Int.neg_mul]
 rw [h,h]
 simp
theorem frac_sum{a b:Bool}{m n d e:Nat}(hd:d≠0)(he:e≠0) :
  frac a m d+frac b n e=(if a=b then frac a (m*e+n*d) (d*e)else if n*d≤m*e then frac a (m*e-n*d) (d*e)else frac b (n*d-m*e) (d*e)):=by
 rw [frac_plus hd he]
 unfold frac
 have h:∀(x y:Nat) (k:Int),Rat.divInt (sgn a x+sgn b y) k=if a=b then Rat.divInt (sgn a (x+y)) k else if y≤x then Rat.divInt (sgn a (x-y)) k else Rat.divInt (sgn b (y-x)) k:=fun x y k=>by
  by_cases hab:a=b
  ·subst hab
   rw [if_pos rfl]
   congr 1
   unfold sgn
   cases a <;> simp <;> omega
  ·rw [if_neg hab]
   by_cases hxy:y≤x
   ·rw [if_pos hxy]
    congr 1
    unfold sgn
    cases a <;> cases b <;> simp at hab ⊢ <;> omega
   ·rw [if_neg hxy]
    congr 1
    unfold sgn
    cases a <;> cases b <;> simp at hab ⊢ <;> omega
 exact h _ _ _
theorem frac_over{a b:Bool}{m n d e:Nat}:frac a m d/frac b n e=frac (a != b) (m*e) (d*n):=by
 rw [Rat.div_def]
 have hi:(frac b n e)⁻¹=frac b e n:=by
  unfold frac
  rw [Rat.inv_divInt]
  cases b with
  | false=>rfl
  | true=>
   have h1:sgn true n = -(n:Int):=rfl
   have h2:sgn true e = -(e:Int):=rfl
   rw [h1,h2,Rat.divInt_neg']
 rw [hi,frac_times]
theorem guess_le{R c l top:Nat}(_hc:0<c)(ht:c<(top+1)*B^(l-1)):R/B^(l-1)/(top+1)*c≤R:=by
 have hp:=pow_pos' (l-1)
 have h1:R/B^(l-1)/(top+1)*((top+1)*B^(l-1))≤R:=by
  rw [Nat.div_div_eq_div_mul,Nat.mul_comm (B^(l-1))]
  exact Nat.div_mul_le_self _ _
 exact Nat.le_trans (Nat.mul_le_mul_left _ (Nat.le_of_lt ht)) h1
theorem rest_step(x c i:Nat):(x/B^(i+1)%c*B+limb x i)%c=x/B^i%c∧(x/B^(i+1)/c*B+(x/B^(i+1)%c*B+limb x i)/c)=x/B^i/c:=by
 have e:=div_step x i
 have d1:=Nat.div_add_mod (x/B^(i+1)) c
 have k:x/B^i=c*(x/B^(i+1)/c*B)+(x/B^(i+1)%c*B+limb x i):=by
  rw [e]
  have h:B*(x/B^(i+1))=c*(x/B^(i+1)/c*B)+x/B^(i+1)%c*B:=by
   conv=>lhs;rw [←d1]
   rw [Nat.mul_add]
   congr 1
   ·ac_rfl
   ·exact Nat.mul_comm _ _
  rw [h];omega
 rw [k]
 refine⟨by rw [Nat.mul_add_mod],?_⟩
 rcases Nat.eq_zero_or_pos c with hc|hc
 ·subst hc;simp
 ·rw [Nat.mul_add_div hc]
theorem scale_div{a b d:Nat}(hd:0<d):a*d/(b*d)=a/b∧a*d%(b*d)/d=a%b:=by
 refine⟨Nat.mul_div_mul_right _ _ hd,?_⟩
 rw [Nat.mul_mod_mul_right,Nat.mul_div_cancel _ hd]
theorem gcd_step{a b:Nat}:Nat.gcd a b=Nat.gcd b (a%b):=by
 rw [Nat.gcd_comm a b,Nat.gcd_rec,Nat.gcd_comm]
theorem top_great{b k:Nat}(hb:LenIs b (k+1)):LenIs (b*(B/(limb b k+1))) (k+1)∧0<B/(limb b k+1)∧B/(limb b k+1)<B∧B/2≤limb (b*(B/(limb b k+1))) k:=by
 have ht:=hb.top
 have hl:=limb_lt b k
 have e:=low_succ b k
 rw [low_high hb.1]at e
 have hlow:=low_lt b k
 obtain⟨t,hts⟩:∃t,limb b k=t:=⟨_,rfl⟩
 obtain⟨r,hr⟩:∃r,b%B^k=r:=⟨_,rfl⟩
 obtain⟨P,hP⟩:∃P,B^k=P:=⟨_,rfl⟩
 obtain⟨d,hd⟩:∃d,B/(limb b k+1)=d:=⟨_,rfl⟩
 rw [hd]
 rw [hts]at hd ht hl e
 rw [hr,hP]at e
 rw [hr,hP]at hlow
 have hPp:0<P:=by rw [←hP];exact pow_pos' k
 have hd0:0<d:=by rw [←hd];exact Nat.div_pos (by omega) (by omega)
 have hdB:d<B:=by rw [←hd];exact Nat.div_lt_self B_pos (by omega)
 have hdm:d*(t+1)≤B:=by rw [←hd];exact Nat.div_mul_le_self _ _
 have hdm2:B<d*(t+1)+(t+1):=by
  have:=Nat.lt_div_mul_add (a:=B) (b:=t+1) (by omega)
  rw [hd]at this
  exact this
 have hlt:b*d<P*B:=by
  have h1:b<P*(t+1):=by rw [Nat.mul_add,Nat.mul_one];omega
  have h2:b*d<P*(t+1)*d:=Nat.mul_lt_mul_of_pos_right h1 hd0
  have h3:P*(t+1)*d≤P*B:=by rw [Nat.mul_assoc,Nat.mul_comm (t+1)];exact Nat.mul_le_mul_left _ hdm
  omega
 have hge:P*(t*d)≤b*d:=by
  have h1:P*t≤b:=by omega
  have:=Nat.mul_le_mul_right d h1
  rw [Nat.mul_assoc]at this
  exact this
 have htd:t*d≤b*d/P:=(Nat.le_div_iff_mul_le hPp).2 (by rw [Nat.mul_comm];exact hge)
 have hlimb:limb (b*d) k=b*d/P:=by
  unfold limb
  rw [hP]
  exact Nat.mod_eq_of_lt (Nat.div_lt_of_lt_mul hlt)
 have htop:B/2≤t*d:=by
  have hBB:B=1000000000:=rfl
  rw [Nat.mul_comm]
  rw [Nat.mul_add,Nat.mul_one]at hdm hdm2
  have k1:d≤d*t:=Nat.le_mul_of_pos_right d (by omega)
  have k2:t≤d*t:=Nat.le_mul_of_pos_left t hd0
  by_cases h1:t=1
  ·subst h1;omega
  ·by_cases h2:d=1
   ·subst h2;omega
   ·have k3:2*t≤d*t:=Nat.mul_le_mul_right t (by omega)
    have k4:d*2≤d*t:=Nat.mul_le_mul_left d (by omega)
    omega
 have hP1:B^(k+1)=P*B:=by rw [Nat.pow_succ,hP]
 refine⟨⟨by rw [hP1];exact hlt,.inr ?_⟩,hd0,hdB,by rw [hlimb];exact Nat.le_trans htop htd⟩
 rw [Nat.add_sub_cancel,hP]
 have:P*1≤P*(t*d):=Nat.mul_le_mul_left _ (Nat.mul_pos (by omega) hd0)
 omega
end Go.Num
namespace Go.Num
open Go.RowKit Go.Proofs Go.Proofs.YtepakfjilnpodaaGreatDoor
theorem _root_.Go.RowKit.Hid.intro{p:Prop}(h:p):Hid p:=h
@[simp] theorem wide_fn (f:FuncId):Fence.wide.fn f:=trivial
@[simp] theorem wide_depth:Fence.wide.depth=none:=rfl
def Stop(p:Prop):Prop:=p
theorem stop{p:Prop}(h:Stop p):p:=h
theorem add_block(a:Addr)(i:Nat):(a.add i).block=a.block:=by
 unfold Addr.add
 split <;> rfl
def intOf:Value→Int
 | .int _ n=>n
 | _=>0
theorem drewN_below(w:World)(m:Nat):Below w.heap.size w (w.drewN m):=⟨rfl,rfl,rfl,Nat.le_refl _,fun _ _=>rfl⟩
theorem drew2_below(w:World)(m n:Nat):Below w.heap.size w ((w.drewN m).drewN n):=⟨rfl,rfl,rfl,Nat.le_refl _,fun _ _=>rfl⟩
def Elem(w:World)(b:Nat)(e:TypeId):Prop:=∃cs fz,w.heap[b]? = some (.cells cs e fz)
theorem Elem.lt{w:World}{b:Nat}{e:TypeId}(h:Elem w b e):b<w.heap.size:=by
 obtain⟨cs,fz,h⟩:=h
 exact(Array.getElem?_eq_some_iff.1 h).1
theorem Elem.of_block{w w':World}{b:Nat}{e:TypeId}(h:Elem w b e)(hb:w'.heap[b]? = w.heap[b]?):Elem w' b e:=by
 obtain⟨cs,fz,h⟩:=h
 exact⟨cs,fz,hb.trans h⟩
theorem Elem.below{w w':World}{b:Nat}{e:TypeId}{c:Nat}(h:Elem w b e)(hb:Below c w w')(hc:b<c):Elem w' b e:=h.of_block (hb.block b hc)
theorem Elem.setCell{w:World}{b:Nat}{e:TypeId}(h:Elem w b e)(a:Addr)(v:Value):Elem (w.setCell a v) b e:=by
 obtain⟨cs,fz,h⟩:=h
 by_cases he:b=a.block
 ·subst he
  have hm:(w.setCell a v).heap[a.block]? = (w.heap.modify a.block fun | .cells c elem frozen => .cells (if a.spot.isSome then c else c.setIfInBounds a.off v) elem frozen|o=>o)[a.block]?:=rfl
  rw [Array.getElem?_modify,if_pos rfl,h]at hm
  exact⟨_,_,hm⟩
 ·exact⟨cs,fz,(Below.heap_setCell _ _ _ _ he).trans h⟩
theorem elem_new(w:World)(cs:Array Value)(e:TypeId):Elem (w.alloc (.cells cs e)) w.heap.size e:=⟨cs,(0,0),by show(w.heap.push _)[w.heap.size]? = _;simp⟩
theorem Elem.ne{w:World}{b c:Nat}{e f:TypeId}(h:Elem w b e)(h':Elem w c f)(hef:e≠f):b≠c:=by
 rintro rfl
 obtain⟨cs,fz,h⟩:=h
 obtain⟨cs',fz',h'⟩:=h'
 rw [h]at h'
 injection h' with h'
 injection h' with _ h'
 exact hef h'
def LimbsAt(w:World)(v:Value)(n k:Nat):Prop:=
 (k=0∧∃o c,v = .slice o 0 c)∨∃(a:Addr) (cap:Nat),v = .slice (some a) k cap∧0<k∧k≤cap∧(k≤1000000000∧cap≤9223372036854775807)∧Elem w a.block 116∧∀i,i<k→w.cell? (a.add i)=some (.int .u64 ((limb n i:Nat):Int))
def MagAt(w:World)(v:Value)(n:Nat):Prop:=∃k,LenIs n k∧LimbsAt w v n k
theorem LimbsAt.below{w w':World}{v:Value}{n k:Nat}(h:LimbsAt w v n k)(hb:Below w.heap.size w w'):LimbsAt w' v n k:=by
 rcases h with h|⟨a,cap,h1,h2,h3,h4,h5,h6⟩
 ·exact .inl h
 ·exact .inr ⟨a,cap,h1,h2,h3,h4,h5.below hb h5.lt,fun i hi=>(hb.cell (p:=a.add i) (by rw [add_block];exact h5.lt)).trans (h6 i hi)⟩
theorem LimbsAt.form{w:World}{v:Value}{n k:Nat}(h:LimbsAt w v n k):∃o c,v = .slice o k c∧(0<k→∃a:Addr,o=some a∧a.block<w.heap.size∧∀i,i<k→w.cell? (a.add i)=some (.int .u64 ((limb n i:Nat):Int))):=by
 rcases h with⟨rfl,o,c,rfl⟩|⟨a,cap,rfl,h2,h3,h4,h5,h6⟩
 ·exact⟨o,c,rfl,fun h=>by omega⟩
 ·exact⟨some a,cap,rfl,fun _=>⟨a,rfl,h5.lt,h6⟩⟩
theorem LimbsAt.elem{w:World}{a:Addr}{n k c:Nat}(h:LimbsAt w (.slice (some a) k c) n k)(hk:0<k):Elem w a.block 116:=by
 rcases h with⟨rfl,_⟩|⟨a',cap,e,h2,h3,h4,h5,h6⟩
 ·omega
 ·injection e with e _ _
  injection e with e
  subst e
  exact h5
theorem LimbsAt.small{w:World}{v:Value}{n k:Nat}(h:LimbsAt w v n k):k≤1000000000:=by
 rcases h with⟨rfl,_⟩|⟨a,cap,rfl,h2,h3,h4,h5,h6⟩ <;> omega
def CmpIs(x y:Nat)(r:Int):Prop:=(r<0↔x<y)∧(r=0↔x=y)
theorem cmp_len{x y k l:Nat}(hx:LenIs x k)(hy:LenIs y l)(h:k<l):x<y:=by
 have:=pow_mono (i:=k) (j:=l-1) (by omega)
 have h1:=hx.1
 have h2:=hy.2
 omega
set_option maxRecDepth 100000 in
set_option maxHeartbeats 4000000 in
theorem cmp_calls(w:World)(va vb:Value)(x y:Nat)(ha:MagAt w va x)(hb:MagAt w vb y) :
  CallsIn Fence.wide 0 Tryz.prog 135 #[va,vb] w fun e w'=>∃r:Int,CmpIs x y r∧e = .returned (.int .i64 r)∧Below w.heap.size w w':=by
 obtain⟨k,hk,hla⟩:=ha
 obtain⟨l,hl,hlb⟩:=hb
 have hks:=hla.small
 have hls:=hlb.small
 obtain⟨o1,c1,rfl,h1⟩:=hla.form
 obtain⟨o2,c2,rfl,h2⟩:=hlb.form
 have H1:=Hid.intro h1
 have H2:=Hid.intro h2
 have HK:=Hid.intro hk
 have HL:=Hid.intro hl
 clear h1 h2 hk hl hla hlb
 refine callsIn_of_wp Tryz.func135 rfl trivial ?_ rfl
 simp only [Tryz.ntmps135,List.size_toArray,List.length_cons,List.length_nil,Nat.reduceAdd,Nat.reduceSub,Array.replicate_succ,Array.replicate_zero,List.push_toArray,List.append_toArray,List.nil_append,List.cons_append]
 by_cases hkl:k=l
 ·subst hkl
  gi_wp2
  gi_loopw [5] (fun i wr=>∃i0:Int,-1≤i0∧i0<k∧i = .int .i64 i0∧Hid (x/B^(i0+1).toNat=y/B^(i0+1).toNat)∧Hid (Below w.heap.size w wr)) (fun i _=>(intOf i+1).toNat)
  case atStart=>exact⟨(k:Int)-1,by omega,by omega,rfl,Hid.intro (by
   rw [show((k:Int)-1+1).toNat=k by omega,Nat.div_eq_of_lt HK.out.1,Nat.div_eq_of_lt HL.out.1]),Below.refl _ _⟩
  case round=>
   obtain⟨i0,hi1,hi2,rfl,HE,HB⟩:=hrel
   by_cases h0:0≤i0
   ·obtain⟨m,rfl⟩:∃m:Nat,i0=(m:Int):=⟨i0.toNat,by omega⟩
    obtain⟨a1,rfl,ha1,hc1⟩:=H1.out (by omega)
    obtain⟨a2,rfl,ha2,hc2⟩:=H2.out (by omega)
    have p1:=(HB.out.cell (p:=a1.add m) (by rw [add_block];exact ha1)).trans (hc1 m (by omega))
    have p2:=(HB.out.cell (p:=a2.add m) (by rw [add_block];exact ha2)).trans (hc2 m (by omega))
    rw [show((m:Int)+1).toNat=m+1 by omega]at HE
    have dx:=div_step x m
    have dy:=div_step y m
    obtain⟨lx,hlx⟩:∃l,limb x m=l:=⟨_,rfl⟩
    obtain⟨ly,hly⟩:∃l,limb y m=l:=⟨_,rfl⟩
    rw [hlx]at p1 dx
    rw [hly]at p2 dy
    rw [HE.out]at dx
    have HX:=Hid.intro dx
    have HY:=Hid.intro dy
    clear hc1 hc2 hlx hly dx dy
    by_cases he:lx=ly
    ·subst he
     have hee:((lx:Int) != (lx:Int))=false:=by simp
     gi_wp2
     gi_quiet (fail)
     gi_wp2
     refine⟨⟨(m:Int)-1,by omega,by omega,by go_num,Hid.intro ?_,HB.out.trans ((drewN_below _ _).mono HB.out.size)⟩,by simp [intOf]⟩
     rw [show((m:Int)-1+1).toNat=m by omega,HX.out,HY.out]
    ·have he':¬(lx:Int)=(ly:Int):=by omega
     have he2:((lx:Int) != (ly:Int))=true:=by simp;omega
     have hcm:x/B^m<y/B^m↔lx<ly:=by rw [HX.out,HY.out];omega
     have hxy:CmpIs x y (if lx<ly then -1 else 1):=by
      have h1:lx<ly→x<y:=fun h=>by
       apply Classical.byContradiction
       intro hno
       have:=Nat.div_le_div_right (c:=B^m) (show y≤x by omega)
       have:=hcm.2 h
       omega
      have h2:¬lx<ly→y<x:=fun h=>by
       apply Classical.byContradiction
       intro hno
       have h3:=Nat.div_le_div_right (c:=B^m) (show x≤y by omega)
       rw [HX.out,HY.out]at h3
       omega
      by_cases h:lx<ly
      ·rw [if_pos h];have:=h1 h;exact⟨by omega,by omega⟩
      ·rw [if_neg h];have:=h2 h;exact⟨by omega,by omega⟩
     have HXY:=Hid.intro hxy
     clear hxy hcm
     gi_wp2
     gi_quiet (fail)
     gi_wp2
     by_cases hlt:lx<ly
     ·have hl1:decide ((lx:Int)<(ly:Int))=true:=by simp;omega
      have hl2:(lx:Int)<(ly:Int):=by omega
      rw [if_pos hlt]at HXY
      gi_quiet (fail)
      gi_wp2
      all_goals (first|go_returns|go_ret|go_end0)
      exact⟨-1,HXY.out,rfl,HB.out.trans (Below.mono (by first|exact drewN_below _ _|exact drew2_below _ _ _) HB.out.size)⟩
     ·have hl1:decide ((lx:Int)<(ly:Int))=false:=by simp;omega
      have hl2:¬(lx:Int)<(ly:Int):=by omega
      rw [if_neg hlt]at HXY
      gi_quiet (fail)
      gi_wp2
      all_goals (first|go_returns|go_ret|go_end0)
      exact⟨1,HXY.out,rfl,HB.out.trans (Below.mono (by first|exact drewN_below _ _|exact drew2_below _ _ _) HB.out.size)⟩
   ·have hm1:i0 = -1:=by omega
    subst hm1
    have hxy:x=y:=by
     have:=HE.out
     simpa using this
    gi_wp2
    all_goals (first|go_returns|go_ret|go_end0)
    exact⟨0,⟨by omega,by omega⟩,rfl,HB.out⟩
 ·have hkl':¬(k:Int)=(l:Int):=by omega
  gi_wp2
  all_goals (first|go_returns|go_ret|go_end0)
  refine⟨(k:Int)-(l:Int),⟨?_,?_⟩,rfl,Below.refl _ _⟩
  ·constructor
   ·intro h;exact cmp_len HK.out HL.out (by omega)
   ·intro h
    apply Classical.byContradiction
    intro hno
    have:=cmp_len HL.out HK.out (by omega)
    omega
  ·constructor
   ·intro h;omega
   ·intro h;subst h;exact absurd (HK.out.unique HL.out) hkl
set_option maxRecDepth 100000 in
set_option maxHeartbeats 4000000 in
theorem trim_calls(w:World)(v:Value)(n k:Nat)(h:LimbsAt w v n k)(hn:n<B^k) :
  CallsIn Fence.wide 0 Tryz.prog 138 #[v] w fun e w'=>∃v',e = .returned v'∧(MagAt w' v' n∧v'.ownBlock=v.ownBlock)∧Below w.heap.size w w':=by
 have hks:=h.small
 have HLA:=Hid.intro h
 obtain⟨o,c,rfl,h1⟩:=h.form
 have H1:=Hid.intro h1
 have HN:=Hid.intro hn
 have hkc:k≤c∧c≤9223372036854775807∨k=0:=by
  rcases h with⟨h0,_⟩|⟨a,cap,hv,h2,h3,h4,h5,h6⟩
  ·exact .inr h0
  ·injection hv with _ _ hc
   left;omega
 clear h h1 hn
 refine callsIn_of_wp Tryz.func138 rfl trivial ?_ rfl
 simp only [Tryz.ntmps138,List.size_toArray,List.length_cons,List.length_nil,Nat.reduceAdd,Nat.reduceSub,Array.replicate_succ,Array.replicate_zero,List.push_toArray,List.append_toArray,List.nil_append,List.cons_append]
 gi_wp2
 gi_loopw [3] (fun i wr=>∃j:Nat,j≤k∧i = .int .i64 (j:Int)∧Hid (n<B^j)∧Hid (Below w.heap.size w wr)) (fun i _=>(intOf i).toNat)
 case atStart=>exact⟨k,Nat.le_refl _,rfl,HN.out,Below.refl _ _⟩
 case round=>
  obtain⟨j,hj,rfl,HJ,HB⟩:=hrel
  by_cases h0:0<j
  ·obtain⟨m,rfl⟩:∃m,j=m+1:=⟨j-1,by omega⟩
   obtain⟨a,rfl,ha,hc⟩:=H1.out (by omega)
   have p:=(HB.out.cell (p:=a.add m) (by rw [add_block];exact ha)).trans (hc m (by omega))
   obtain⟨l,hl⟩:∃l,limb n m=l:=⟨_,rfl⟩
   rw [hl]at p
   have HLm:=Hid.intro hl
   clear hc hl
   by_cases hz:l=0
   ·subst hz
    gi_wp2
    exact⟨⟨m,by omega,rfl,lt_of_zero HJ.out HLm.out,HB.out⟩,by simp [intOf]⟩
   ·have hz':¬(l:Int)=0:=by omega
    gi_wp2
    all_goals (first|go_returns|go_ret|go_end0)
    obtain⟨a',e',ha',hc⟩:=H1.out (by omega)
    injection e' with e'
    subst e'
    exact⟨_,rfl,⟨⟨m+1,lenIs_of HJ.out (by rw [HLm.out];exact hz),.inr ⟨a,m+1,rfl,by omega,Nat.le_refl _,by omega,(HLA.out.elem (by omega)).below HB.out ha,fun i hi=>(HB.out.cell (p:=a.add i) (by rw [add_block];exact ha)).trans (hc i (by omega))⟩⟩,rfl⟩,HB.out⟩
  ·have hj0:j=0:=by omega
   subst hj0
   gi_wp2
   all_goals (first|go_returns|go_ret|go_end0)
   exact⟨_,rfl,⟨⟨0,⟨HJ.out,.inl rfl⟩,.inl ⟨rfl,o,0,rfl⟩⟩,by cases o <;> rfl⟩,HB.out⟩
theorem mag_one{w:World}{v:Value}{n:Nat}(h:MagAt w v n):(∃o c,v = .slice o 1 c∧0<n∧n<B∧∃a:Addr,o=some a∧a.block<w.heap.size∧w.cell? (a.add 0)=some (.int .u64 (n:Int)))∨(∃o k c,v = .slice o k c∧k≠1∧k≤1000000000∧n≠1):=by
 obtain⟨k,hk,hl⟩:=h
 have hs:=hl.small
 obtain⟨o,c,rfl,h1⟩:=hl.form
 by_cases hk1:k=1
 ·subst hk1
  left
  obtain⟨a,rfl,ha,hc⟩:=h1 (by omega)
  have h2:=hk.1
  have h3:=hk.2
  rw [Nat.pow_one]at h2
  simp at h3
  refine⟨_,_,rfl,by omega,h2,a,rfl,ha,?_⟩
  rw [hc 0 (by omega)]
  have:limb n 0=n:=by unfold limb;rw [Nat.pow_zero,Nat.div_one,Nat.mod_eq_of_lt h2]
  rw [this]
 ·right
  refine⟨o,k,c,rfl,hk1,hs,fun e=>hk1 ?_⟩
  subst e
  exact hk.unique ⟨by rw [Nat.pow_one];decide,.inr (by simp)⟩
set_option maxRecDepth 100000 in
set_option maxHeartbeats 4000000 in
theorem isOne_calls(w:World)(v:Value)(n:Nat)(h:MagAt w v n) :
  CallsIn Fence.wide 0 Tryz.prog 168 #[v] w fun e w'=>e = .returned (.bool (decide (n=1)))∧Below w.heap.size w w':=by
 rcases mag_one h with⟨o,c,rfl,h0,hB,a,rfl,ha,hc⟩|⟨o,k,c,rfl,hk,hs,hn⟩
 ·have hc':w.cell? a=some (.int .u64 (n:Int)):=hc
  clear h
  refine callsIn_of_wp Tryz.func168 rfl trivial ?_ rfl
  simp only [Tryz.ntmps168,List.size_toArray,List.length_cons,List.length_nil,Nat.reduceAdd,Nat.reduceSub,Array.replicate_succ,Array.replicate_zero,List.push_toArray,List.append_toArray,List.nil_append,List.cons_append]
  by_cases h1:n=1
  ·subst h1
   gi_wp2
   all_goals (first|go_returns|go_ret|go_end0)
   exact⟨by simp,Below.refl _ _⟩
  ·have h1':¬(n:Int)=1:=by omega
   gi_wp2
   all_goals (first|go_returns|go_ret|go_end0)
   exact⟨by simp [h1];exact h1',Below.refl _ _⟩
 ·have hk':¬(k:Int)=1:=by omega
  clear h
  refine callsIn_of_wp Tryz.func168 rfl trivial ?_ rfl
  simp only [Tryz.ntmps168,List.size_toArray,List.length_cons,List.length_nil,Nat.reduceAdd,Nat.reduceSub,Array.replicate_succ,Array.replicate_zero,List.push_toArray,List.append_toArray,List.nil_append,List.cons_append]
  gi_wp2
  all_goals (first|go_returns|go_ret|go_end0)
  exact⟨by simp [hn],Below.refl _ _⟩
def Fresh(b:Nat)(v:Value):Prop:=∀k,v.ownBlock=some k→b≤k
theorem fresh_of{b m c:Nat}{a:Addr}{v:Value}(h:v.ownBlock=(Value.slice (some a) m c).ownBlock)(hg:b≤a.block):Fresh b v:=by
 intro k hk
 rw [h]at hk
 have:a.block=k:=by simpa [Value.ownBlock]using hk
 omega
theorem Fresh.mono{b b':Nat}{v:Value}(h:Fresh b v)(hb:b'≤b):Fresh b' v:=fun k hk=>Nat.le_trans hb (h k hk)
theorem u64_small{x:Nat}(h:x<18446744073709551616):IntKind.u64.wrap (x:Int)=(x:Int):=by
 have e:IntKind.u64.wrap (x:Int)=(x:Int)%18446744073709551616:=rfl
 rw [e]
 omega
set_option maxRecDepth 100000 in
set_option maxHeartbeats 4000000 in
theorem magOf_calls(w:World)(n:Nat)(hn:n<18446744073709551616) :
  CallsIn Fence.wide 0 Tryz.prog 72 #[.int .u64 (n:Int)] w fun e w'=>∃v',e = .returned v'∧(MagAt w' v' n∧Fresh w.heap.size v')∧Below w.heap.size w w':=by
 have r0:((n:Int).tmod 1000000000)=((limb n 0:Nat):Int):=by
  unfold limb B
  rw [Nat.pow_zero,Nat.div_one]
  rfl
 have q1:((n:Int).tdiv 1000000000)=((n/1000000000:Nat):Int):=rfl
 have r1:(((n/1000000000:Nat):Int).tmod 1000000000)=((limb n 1:Nat):Int):=by
  unfold limb B
  rw [Nat.pow_one]
  rfl
 have q2:(((n/1000000000:Nat):Int).tdiv 1000000000)=((limb n 2:Nat):Int):=by
  have h:limb n 2=n/1000000000/1000000000:=by
   unfold limb B
   rw [Nat.div_div_eq_div_mul]
   omega
  rw [h]
  rfl
 obtain⟨l0,hl0⟩:∃l,limb n 0=l:=⟨_,rfl⟩
 obtain⟨l1,hl1⟩:∃l,limb n 1=l:=⟨_,rfl⟩
 obtain⟨l2,hl2⟩:∃l,limb n 2=l:=⟨_,rfl⟩
 obtain⟨d,hd⟩:∃d,n/1000000000=d:=⟨_,rfl⟩
 rw [hl0]at r0
 rw [hd]at q1
 rw [hd,hl1]at r1
 rw [hd,hl2]at q2
 have hdn:d<18446744073709551616:=by omega
 have hl2B:l2<B:=by rw [←hl2];exact limb_lt n 2
 have hBB:B=1000000000:=rfl
 have w1:=u64_small hdn
 have w2:=u64_small (x:=l2) (by omega)
 have HL0:=Hid.intro hl0
 have HL1:=Hid.intro hl1
 have HL2:=Hid.intro hl2
 clear hl0 hl1 hl2 hd
 refine callsIn_of_wp Tryz.func72 rfl trivial ?_ rfl
 simp only [Tryz.ntmps72,List.size_toArray,List.length_cons,List.length_nil,Nat.reduceAdd,Nat.reduceSub,Array.replicate_succ,Array.replicate_zero,List.push_toArray,List.append_toArray,List.nil_append,List.cons_append]
 gi_wp2_with (gi_at_call 138;refine stop ?_)
 unfold Stop
 refine(trim_calls _ _ n 3 (.inr ⟨⟨w.heap.size,0,none⟩,3,rfl,by omega,Nat.le_refl _,by omega,elem_new _ _ _,fun i hi => ?_⟩) ?_).mono ?_
 ·rw [Addr.add_lit,Nat.zero_add,World.cell?_alloc_new]
  have h3:i=0∨i=1∨i=2:=by omega
  rcases h3 with rfl|rfl|rfl
  ·rw [HL0.out];rfl
  ·rw [HL1.out];rfl
  ·rw [HL2.out];rfl
 ·have:B^3=1000000000000000000000000000:=by decide
  omega
 ·rintro e w2 ⟨v',rfl,hm,hB⟩
  have HM:=Hid.intro hm
  have HB:=Hid.intro (((Below.refl w.heap.size w).alloc (Nat.le_refl _) _).trans (hB.mono (by simp)))
  clear hm hB
  gi_wp2
  all_goals (first|go_returns|go_ret|go_end0)
  exact⟨_,rfl,⟨HM.out.1,fresh_of HM.out.2 (Nat.le_refl _)⟩,HB.out⟩
end Go.Num
