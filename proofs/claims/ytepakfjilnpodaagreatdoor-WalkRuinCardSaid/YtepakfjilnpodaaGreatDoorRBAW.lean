/-
  A function is run on pieces and a pointer to a value of three cells that lies in memory already and is only read. A function whose second re
  Conditions: see each statement.
-/
import Derived.Test.YtepakfjilnpodaaGreatDoorRBAT
import Derived.Test.YtepakfjilnpodaaGreatDoorRBAV
import Derived.Test.YtepakfjilnpodaaGreatDoorRBAO
import Derived.Test.YtepakfjilnpodaaGreatDoorRBAU
namespace Go.Eng
open Go.RowKit
inductive AM where
 | pc (t:AT)
 | row (t:AT)
 | cell (t:AT)
 | one (t:AT)
def AM.beq:AM→AM→Bool
 | .pc a,.pc b=>a.beq b
 | .row a,.row b=>a.beq b
 | .cell a,.cell b=>a.beq b
 | .one a,.one b=>a.beq b
 | _,_=>false
theorem AM.eq_of_beq{a b:AM}(h:a.beq b=true):a=b:=by
 cases a <;> cases b <;> simp only [AM.beq,Bool.false_eq_true]at h <;> rw [AT.eq_of_beq h]
def zle(cls:Tg→Sh)(H:AH):Nat→AV→Option AT
 | 0,_=>some .nil
 | n+1,.cons a (.cons b (.cons c r))=>match zol cls H (.agg (.cons a (.cons b (.cons c .nil)))),zle cls H n r with
  | some t,some ts=>some (.cons (.tag t) ts)
  | _,_=>none
 | _+1,_=>none
def zqD(cls:Tg→Sh)(H:AH)(a:AV):Option AM:=
 match a with
 | .slc i o len _ _ e=>bif Nat.beq e 3 then match H.cellsAt i o (len*3)with
   | some cs=>(zle cls H len cs).map .row
   | none=>none
  else none
 | .ptr i 0=>match H.cellsAt i 0 3 with
  | some cs=>(match zle cls H 1 cs with
   | some (.cons t .nil)=>some (.cell t)
   | _=>none)
  | none=>match H.cellsAt i 0 1 with
   | some (.cons v .nil)=>((atOf cls H v).1).map .one
   | _=>none
 | a=>((atOf cls H a).1).map .pc
def amOf(cls:Tg→Sh)(H:AH):AV→Option (List AM)
 | .nil=>some []
 | .cons a r=>match zqD cls H a,amOf cls H r with
  | some t,some ts=>some (t :: ts)
  | _,_=>none
 | _=>none
def zhQ(cls:Tg→Sh)(T:FuncId→List AM→Option AT)(f:FuncId)(args:AV)(H:AH):Option (AV × AH):=
 match amOf cls H args with
 | some ts=>match T f ts with
  | some rs=>zfw cls rs H fun vs H=>some (zkZ vs,H)
  | none=>none
 | none=>none
def orO(O1 O2:FuncId→AV→AH→Option (AV × AH))(f:FuncId)(args:AV)(H:AH):Option (AV × AH):=
 match O1 f args H with
 | some r=>some r
 | none=>O2 f args H
section
variable {P:Program} {B:Nat} {w0:World} {G:Sett}
def ziH(G:Sett)(w:World)(b:Nat):Nat→AT→Nat→Prop
 | _,.nil,n=>n=0
 | o,.cons t r,n=>∃m x0 x1 x2,n=m+1∧w.cell? ⟨b,o,none⟩=some x0∧w.cell? ⟨b,o+1,none⟩=some x1∧w.cell? ⟨b,o+2,none⟩=some x2∧zau G t (.agg #[x0,x1,x2]) w∧ziH G w b (o+3) r m
 | _,_,_=>False
def AMOK(G:Sett)(m:AM)(x:Value)(w:World):Prop:=
 match m with
 | .pc t=>zau G t x w
 | .row ts=>∃b o n c,x = .slice (some ⟨b,o,none⟩) n c∧b<w.heap.size∧ziH G w b o ts n
 | .cell t=>∃b,x = .pointer (some ⟨b,0,none⟩)∧b<w.heap.size∧ziH G w b 0 (.cons t .nil) 1
 | .one t=>∃b v,x = .pointer (some ⟨b,0,none⟩)∧b<w.heap.size∧w.cell? ⟨b,0,none⟩=some v∧zau G t v w
def zmC(G:Sett)(w:World):List AM→List Value→Prop
 | [],xs=>xs = []
 | m :: ms,xs=>∃x r,xs=x :: r∧AMOK G m x w∧zmC G w ms r
theorem zfL{cls:Tg→Sh}(hs:zdf G cls){μ:Mu}{H:AH}{w:World}(h:Rep P B w0 G μ H w)(b:Nat):∀(n:Nat) (cs:AV) (ts:AT) (o:Nat) (xs:List Value),zle cls H n cs=some ts→LR μ cs xs→(∀j v,xs[j]? = some v→w.cell? ⟨b,o+j,none⟩=some v)→ziH G w b o ts n
 | 0,cs,ts,o,xs,hi,_,_=>by
  simp only [zle,Option.some.injEq]at hi;subst hi;rfl
 | n+1,cs,ts,o,xs,hi,hx,hc=>by
  unfold zle at hi;split at hi
  ·rename_i he;cases he
  ·rename_i n' a b' c r he
   cases he
   split at hi
   ·rename_i t ts' h1 h2
    cases hi
    obtain⟨x0,r0,rfl,g0,k0⟩:=hx;obtain⟨x1,r1,rfl,g1,k1⟩:=k0;obtain⟨x2,r2,rfl,g2,k2⟩:=k1;refine⟨n,x0,x1,x2,rfl,hc 0 _ rfl,hc 1 _ rfl,hc 2 _ rfl,zfA hs h h1 ⟨#[x0,x1,x2],rfl,LR.cons g0 (LR.cons g1 (LR.cons g2 LR.nil))⟩,?_⟩;exact zfL hs h b n r ts' (o+3) r2 h2 k2 (fun j v hj=>by
     have:=hc (j+3) v (by simpa using hj);rwa [show o+3+j=o+(j+3)by omega])
   ·cases hi
  ·cases hi
theorem ziF{cls:Tg→Sh}(hs:zdf G cls){μ:Mu}{H:AH}{w:World}(h:Rep P B w0 G μ H w){a:AV}{m:AM}(hm:zqD cls H a=some m){x:Value}(hx:VR μ a x):AMOK G m x w:=by
 have plain:∀{a:AV},((atOf cls H a).1).map AM.pc=some m→VR μ a x→AMOK G m x w:=by
  intro a hm hx;rw [Option.map_eq_some_iff]at hm;obtain⟨t,h1,rfl⟩:=hm;exact(zcS hs h a).1 _ h1 _ hx
 have addE:∀(b o j:Nat),((⟨b,o,none⟩:Addr).add j)=⟨b,o+j,none⟩:=fun b o j=>by unfold Addr.add;split <;> simp_all
 unfold zqD at hm;split at hm
 ·rename_i i o len cm ex e
  cases he:Nat.beq e 3 with
  | false=>rw [he]at hm;cases hm
  | true=>
   rw [he]at hm;simp only [cond_true]at hm;split at hm
   ·rename_i cs hcs;rw [Option.map_eq_some_iff]at hm;obtain⟨ts,h1,rfl⟩:=hm;obtain⟨b,N,c,hb,rfl,_⟩:=hx;obtain⟨xs,_,k2,k3⟩:=h.load hcs hb;exact⟨b,o,len,c,rfl,(h.dom i b N hb).2,zfL hs h b len cs ts o xs h1 k2 (fun j v hj=>by rw [←addE];exact k3 j v hj)⟩
   ·cases hm
 ·rename_i i;obtain⟨b,N,hb,rfl⟩:=hx;split at hm
  ·rename_i cs hcs;split at hm
   ·rename_i t h1
    cases hm
    obtain⟨xs,_,k2,k3⟩:=h.load hcs hb;exact⟨b,rfl,(h.dom i b N hb).2,zfL hs h b 1 cs _ 0 xs h1 k2 (fun j v hj=>by rw [←addE];exact k3 j v hj)⟩
   ·cases hm
  ·split at hm
   ·rename_i v hcs;rw [Option.map_eq_some_iff]at hm;obtain⟨t,h1,rfl⟩:=hm;obtain⟨xs,_,k2,k3⟩:=h.load hcs hb;obtain⟨y,r,rfl,g1,_⟩:=k2;exact⟨b,y,rfl,(h.dom i b N hb).2,k3 0 _ rfl,(zcS hs h v).1 _ h1 _ g1⟩
   ·cases hm
 ·exact plain hm hx
theorem zjF{cls:Tg→Sh}(hs:zdf G cls){μ:Mu}{H:AH}{w:World}(h:Rep P B w0 G μ H w):∀(a:AV) (ms:List AM),amOf cls H a=some ms→∀xs,LR μ a xs→zmC G w ms xs
 | .nil,ms,hm,xs,hx=>by
  simp only [amOf,Option.some.injEq]at hm;subst hm;exact hx
 | .cons a r,ms,hm,xs,hx=>by
  simp only [amOf]at hm;split at hm
  ·rename_i t ts h1 h2
   cases hm
   obtain⟨x,r',rfl,g1,g2⟩:=hx;exact⟨x,r',rfl,ziF hs h h1 g1,zjF hs h r ts h2 r' g2⟩
  ·cases hm
 | .sc _,_,hm,_,_ | .ptr _ _,_,hm,_,_ | .slc _ _ _ _ _ _,_,hm,_,_ | .map _,_,hm,_,_ | .yield _,_,hm,_,_ | .fn _ _ _,_,hm,_,_ | .hc _ _,_,hm,_,_ | .hs _,_,hm,_,_ | .iface _ _,_,hm,_,_ | .agg _,_,hm,_,_ | .tup _,_,hm,_,_=>by simp only [amOf]at hm;cases hm
def zkq(P:Program)(B:Nat)(w0:World)(G:Sett)(T:FuncId→List AM→Option AT):Prop:=
 ∀f ts rs,T f ts=some rs→(∃fn:Func,P.funcs[f]? = some fn∧fn.body.isSome=true) ∧
  ∀w (xs:Array Value),Below B w0 w→zmC G w ts xs.toList→Calls P f xs w fun e w'=>∃x,e = .returned x∧zbP G rs x w'∧Below w.heap.size w w'
theorem zgE{cls:Tg→Sh}(hs:zdf G cls){T:FuncId→List AM→Option AT}(hT:zkq P B w0 G T):zcW P B w0 G (zhQ cls T):=by
 intro f args H v H' ho;unfold zhQ at ho;split at ho
 ·rename_i ts hts;split at ho
  ·rename_i rs hrs;obtain⟨h1,h2⟩:=hT _ _ _ hrs;refine⟨h1,fun μ w xs hrep hxs=>callsIn_wide.2 ((h2 w xs hrep.below (zjF hs hrep args ts hts _ hxs)).mono ?_)⟩;rintro e w' ⟨x,rfl,hp,hb⟩;obtain⟨v',μ',H2,k1,k2,k3,k4⟩:=zo0 hs (k:=fun v H=>some (v,H)) (hrep.onto hb) hp ho
   cases k1
   exact⟨x,μ',rfl,k3,k4,k2⟩
  ·cases ho
 ·cases ho
theorem zo2{O1 O2:FuncId→AV→AH→Option (AV × AH)}(h1:zcW P B w0 G O1)(h2:zcW P B w0 G O2):zcW P B w0 G (orO O1 O2):=by
 intro f args H v H' ho;unfold orO at ho;split at ho
 ·rename_i r hr
  cases ho
  exact h1 _ _ _ _ _ hr
 ·exact h2 _ _ _ _ _ ho
abbrev zgu:=FuncId × List AM × AT
def ziD:List AM→List AM→Bool
 | [],[]=>true
 | a :: r,b :: s=>a.beq b && ziD r s
 | _,_=>false
theorem ze2:∀{a b:List AM},ziD a b=true→a=b
 | [],[],_=>rfl
 | a :: r,b :: s,h=>by
  simp only [ziD,Bool.and_eq_true]at h;rw [AM.eq_of_beq h.1,ze2 h.2]
 | [],_ :: _,h=>by cases h
 | _ :: _,[],h=>by cases h
def zgH:List zgu→FuncId→List AM→Option AT
 | [],_,_=>none
 | (g,ts,rs) :: r,f,us=>bif Nat.beq f g && ziD ts us then some rs else zgH r f us
theorem zhx:zkq P B w0 G (zgH []):=fun _ _ _ q=>by cases q
theorem zi2{g:FuncId}{ts:List AM}{rs:AT}{r:List zgu}(hb:zfb P g)
  (h:∀w (xs:Array Value),Below B w0 w→zmC G w ts xs.toList→Calls P g xs w fun e w'=>∃x,e = .returned x∧zbP G rs x w'∧Below w.heap.size w w')
  (k:zkq P B w0 G (zgH r)):zkq P B w0 G (zgH ((g,ts,rs) :: r)):=by
 intro f us rs' q;unfold zgH at q
 cases hc:Nat.beq f g && ziD ts us with
 | true=>
  rw [hc]at q;simp only [cond_true,Option.some.injEq]at q;simp only [Bool.and_eq_true]at hc;have e1:=Nat.eq_of_beq_eq_true hc.1;have e2:=ze2 hc.2;subst e1;subst e2;subst q;exact⟨hb,h⟩
 | false=>
  rw [hc]at q;exact k f us rs' q
theorem zoh{g:FuncId}{a:AM}{rs:AT}{r:List zgu}(hb:zfb P g)
  (h:∀w v,Below B w0 w→AMOK G a v w→CallsIn Fence.wide 0 P g #[v] w fun e w'=>∃x,e = .returned x∧zbP G rs x w'∧Below w.heap.size w w')
  (k:zkq P B w0 G (zgH r)):zkq P B w0 G (zgH ((g,[a],rs) :: r)):=by
 refine zi2 hb (fun w xs hw hx => ?_) k;obtain⟨v,r,e,h1,h2⟩:=hx;have h2:r = []:=h2;subst h2;have:xs=#[v]:=Array.toList_inj.1 (by simpa using e);subst this;exact callsIn_wide.1 (h w v hw h1)
theorem zqU{g:FuncId}{a b:AM}{rs:AT}{r:List zgu}(hb:zfb P g)
  (h:∀w v u,Below B w0 w→AMOK G a v w→AMOK G b u w→CallsIn Fence.wide 0 P g #[v,u] w fun e w'=>∃x,e = .returned x∧zbP G rs x w'∧Below w.heap.size w w')
  (k:zkq P B w0 G (zgH r)):zkq P B w0 G (zgH ((g,[a,b],rs) :: r)):=by
 refine zi2 hb (fun w xs hw hx => ?_) k;obtain⟨v,r,e,h1,u,r2,e2,h2,h3⟩:=hx;subst e2;have h3:r2 = []:=h3;subst h3;have:xs=#[v,u]:=Array.toList_inj.1 (by simpa using e);subst this;exact callsIn_wide.1 (h w v u hw h1 h2)
end
def seeH(res:List TypeId)(t:Tg):AH:={res:=res,next:=12,objs:=Tr.set deep (Tr.set deep .nil 10 (some (.opq t))) 11 (some (.cells 11 0 0 (hcs 10 0 3))),fams:=Tr.set deep .nil 11 (some (5,0))}
def seeM(b N:Nat)(v:Value):Mu:=⟨fun j=>if j=11 then some (b,N)else none,fun j=>if j=10 then some v else none⟩
section
variable {P:Program} {B:Nat} {w0:World} {G:Sett}
theorem zeg{res:List TypeId}{t:Tg}{i:Nat}{o:AObj}(h:(seeH res t).objs.get i=some o):(i=11∧o = .cells 11 0 0 (hcs 10 0 3))∨(i=10∧o = .opq t):=by
 rcases Tr.get_set deep _ 11 _ i o h with⟨h1,h2⟩|⟨_,h2⟩
 ·exact .inl ⟨h1,(Option.some.inj h2).symm⟩
 ·rcases Tr.get_set deep _ 10 _ i o h2 with⟨h1,h2⟩|⟨_,h2⟩
  ·exact .inr ⟨h1,(Option.some.inj h2).symm⟩
  ·simp [Tr.get]at h2
theorem zlS{res:List TypeId}{t:Tg}{i:Nat}{o:Nat × Nat}(h:(seeH res t).fams.get i=some o):i=11∧o=(5,0):=by
 rcases Tr.get_set deep _ 11 _ i o h with⟨h1,h2⟩|⟨_,h2⟩
 ·exact⟨h1,(Option.some.inj h2).symm⟩
 ·simp [Tr.get]at h2
theorem zq0{w:World}(hids:G.ids = []){t:Tg}{x0 x1 x2:Value}(hi:G.I t (.agg #[x0,x1,x2]) w)(ho:∀x ∈ [x0,x1,x2],x.oneCell'=true){b:Nat}{arr:Array Value}{te:TypeId}{fz:Nat × Nat}(hb:w.heap[b]? = some (.cells arr te fz))
  (h0:arr[0]? = some x0) (h1:arr[1]? = some x1) (h2:arr[2]? = some x2):Rep P w.heap.size w G (seeM b arr.size (.agg #[x0,x1,x2])) (seeH G.res t) w:=by
 have hlt:b<w.heap.size:=(Array.getElem?_eq_some_iff.1 hb).1;have hsz:2<arr.size:=(Array.getElem?_eq_some_iff.1 h2).1;have htk:arr.toList.take 3 = [x0,x1,x2]:=by
  have e0:arr.toList[0]? = some x0:=by simpa using h0
  have e1:arr.toList[1]? = some x1:=by simpa using h1
  have e2:arr.toList[2]? = some x2:=by simpa using h2
  match h:arr.toList with
  | []=>rw [h]at e0;simp at e0
  | [_]=>rw [h]at e1;simp at e1
  | [_,_]=>rw [h]at e2;simp at e2
  | a :: c :: d :: r=>
   rw [h]at e0 e1 e2;simp at e0 e1 e2
   rw [e0,e1,e2];rfl
 have hm:∀i b' N,seeM b arr.size (.agg #[x0,x1,x2]) i=some (b',N)→i=11∧b'=b∧N=arr.size:=by
  intro i b' N e;have e:(if i=11 then some (b,arr.size)else none)=some (b',N):=e;split at e
  ·rename_i q;cases e;exact⟨q,rfl,rfl⟩
  ·cases e
 have hLR:LR (seeM b arr.size (.agg #[x0,x1,x2])) (hcs 10 0 3) [x0,x1,x2]:=by
  have:=zpk (μ:=seeM b arr.size (.agg #[x0,x1,x2])) (i:=10) (xs:=[x0,x1,x2]) ⟨.agg #[x0,x1,x2],rfl,rfl⟩ ho 3 0 rfl;simpa using this
 refine {resd:=rfl,hdom:=?_,fact:=?_,free:=?_,below:=Below.refl _ _,base:=Nat.le_refl _,dom:=?_,glob:=?_,own:=?_,sep:=?_,vtop:=?_,tip:=?_,write:=?_,cells:=?_,map:=?_,loop:=?_,defd:=?_}
 ·intro i v e;have e:(if i=10 then some (Value.agg #[x0,x1,x2])else none)=some v:=e;split at e
  ·rename_i q;subst q;show 10<12;omega
  ·cases e
 ·intro i t' e;rcases zeg e with⟨_,h⟩|⟨rfl,h⟩
  ·cases h
  ·cases h
   exact⟨_,rfl,hi⟩
 ·intro i b' N e hB;obtain⟨_,rfl,_⟩:=hm i b' N e;omega
 ·intro i b' N e;obtain⟨rfl,rfl,_⟩:=hm i b' N e;exact⟨by show 11<12;omega,hlt⟩
 ·intro g hg;rw [hids]at hg
  cases hg
 ·intro i o e;rcases zeg e with⟨rfl,rfl⟩|⟨rfl,rfl⟩
  ·exact⟨by show 11<12;omega,by show 11<12;omega⟩
  ·exact⟨by show 10<12;omega,by show 10<12;omega⟩
 ·intro i j oi oj b' N M e1 e2 m1 m2;obtain⟨rfl,_,_⟩:=hm _ _ _ m1;obtain⟨rfl,_,_⟩:=hm _ _ _ m2;rw [e1]at e2
  cases e2
  rfl
 ·intro i j fam vi ei ci vj ej cj lw e1 e2 f1 hne;obtain⟨rfl,h⟩:=zlS f1
  cases h
  rcases zeg e2 with⟨h,_⟩|⟨h,_⟩ <;> omega
 ·intro i j fam vi ei ci vj ej cj lw b' N M e1 e2 f1;obtain⟨rfl,h⟩:=zlS f1
  cases h
  rcases zeg e2 with⟨h,_⟩|⟨h,_⟩ <;> omega
 ·intro i fam ver e cs lw b' N e1 f1;obtain⟨rfl,h⟩:=zlS f1
  cases h
  rcases zeg e1 with⟨h,_⟩|⟨h,_⟩ <;> omega
 ·intro i fam ver e cs tip lw b' N e1 f1 hle m1;obtain⟨rfl,rfl,rfl⟩:=hm _ _ _ m1;rcases zeg e1 with⟨_,h⟩|⟨h,_⟩
  ·cases h
   refine⟨arr,te,fz,hb,rfl,by show 3≤arr.size;omega,?_,fun q=>by omega⟩;show LR _ _ (arr.toList.take 3)
   rw [htk];exact hLR
  ·omega
 ·intro i kt es b' N e1;rcases zeg e1 with⟨_,h⟩|⟨_,h⟩ <;> cases h
 ·intro i st pend fn nt T ps asg bd dd b' N e1;rcases zeg e1 with⟨_,h⟩|⟨_,h⟩ <;> cases h
 ·intro i op b' N e1;rcases zeg e1 with⟨_,h⟩|⟨_,h⟩ <;> cases h
def runS(P:Program)(cls:Tg→Sh)(O:FuncId→AV→AH→Option (AV × AH))(res:List TypeId)(n:Nat)(f:FuncId)(ts:AT)(t:Tg):Option AT:=
 zfw cls ts (seeH res t) fun args H=>match (cb P [] O [] n).call f (args.app (.cons (.ptr 11 0) .nil)) H with
  | some (v,H')=>(match v with | .tup _=>none|_=>(atOf cls H' v).1)
  | none=>none
theorem znH(hm:P.follows .mixedOrders=true)(hN:zbi P){cls:Tg→Sh}(hs:zdf G cls)(hids:G.ids = []){w:World}{O:FuncId→AV→AH→Option (AV × AH)}(hO:zcW P w.heap.size w G O){n:Nat}{f:FuncId}{ts:AT}{t:Tg}{r:AT}
  (h:runS P cls O G.res n f ts t=some r) {xs:List Value} (hx:zbq G ts xs w) {x0 x1 x2:Value} (hi:G.I t (.agg #[x0,x1,x2]) w) (ho:∀x ∈ [x0,x1,x2],x.oneCell'=true) {b:Nat} {arr:Array Value} {te:TypeId} {fz:Nat × Nat}
  (hb:w.heap[b]? = some (.cells arr te fz)) (h0:arr[0]? = some x0) (h1:arr[1]? = some x1) (h2:arr[2]? = some x2) :
  CallsIn Fence.wide 0 P f (xs ++ [Value.pointer (some ⟨b,0,none⟩)]).toArray w fun e w'=>∃x,e = .returned x∧zau G r x w'∧Below w.heap.size w w':=by
 unfold runS at h;obtain⟨vs,μ',H',k1,k2,k3,k4⟩:=(zh1 hs ts _ _ _ _ (zq0 hids hi ho hb h0 h1 h2) h).2 _ hx;have hp:VR μ' (.ptr 11 0) (.pointer (some ⟨b,0,none⟩)):=by
  have:(seeM b arr.size (.agg #[x0,x1,x2])) 11=some (b,arr.size):=rfl;exact⟨b,arr.size,k3.1 _ _ this,rfl⟩
 split at k1
 ·rename_i v H2 hcall;have hxs:LR μ' (vs.app (.cons (.ptr 11 0) .nil)) (xs ++ [Value.pointer (some ⟨b,0,none⟩)]).toArray.toList:=by
   rw [List.toList_toArray];exact LR.app (LR.cons hp LR.nil) k4
  refine callsIn_wide.2 ((zdJ (G:=G) hm hN hO (D:=[]) (by simp) (by rw [hids];exact hcall) k2 hxs).mono ?_);rintro e w' ⟨x,μ2,rfl,_,hv,hrep⟩;refine⟨x,rfl,?_,hrep.below⟩;split at k1
  ·cases k1
  ·exact(zcS hs hrep v).1 _ k1 _ hv
 ·cases k1
end
end Go.Eng
namespace Go.Num
open Go.Eng Go.Shelf Go.RowKit Go.Proofs Go.Proofs.YtepakfjilnpodaaGreatDoor
def zap(q:Rat):Leaf rs1 where
 sh:=.agg 3
 I:=fun v w=>zaj w v q
 stable:=fun _ _ _ hk h=>h.kept1 hk
 ok:=(zlb q).ok
 det:=fun h=>by cases h
def zg4(n:Int):Leaf rs1 where
 sh:=.one
 I:=fun v _=>v = .int .i64 n
 stable:=fun _ _ _ _ h=>h
 ok:=by rintro v w rfl;rfl
 det:=fun h=>by cases h
abbrev TI1(w0:World)(env:List (Leaf rs1))(L:List ziI):Prop:=zdM Tryz.prog w0.heap.size w0 (Gs env) (zfv L)
abbrev TM1(w0:World)(env:List (Leaf rs1))(L:List zgu):Prop:=zkq Tryz.prog w0.heap.size w0 (Gs env) (zgH L)
theorem zcA(r:Rat):∀n,zeC (List.replicate n r)=pw r n
 | 0=>rfl
 | n+1=>by rw [List.replicate_succ',zjh,zcA r n];rfl
def reps(k:Nat):Nat→AT
 | 0 => .nil
 | n+1 => .cons (tg k) (reps k n)
def zn7(env:List (Leaf rs1)):AT→List Rat→Prop
 | .nil,l=>l = []
 | .cons t r,l=>∃k q s,t=tg k∧l=q :: s∧env[k]? = some (zap q)∧zn7 env r s
 | _,_=>False
theorem zjf{env:List (Leaf rs1)}{w:World}{b:Nat}:∀(ts:AT) (l:List Rat) (o n:Nat),zn7 env ts l→ziH (Gs env) w b o ts n→n=l.length∧∀(i:Nat) (q:Rat),l[i]? = some q→∃x0 x1 x2,w.cell? ⟨b,o+i*3,none⟩=some x0∧w.cell? ⟨b,o+i*3+1,none⟩=some x1∧w.cell? ⟨b,o+i*3+2,none⟩=some x2∧zaj w (.agg #[x0,x1,x2]) q
 | .nil,l,o,n,h,hi=>by
  have h:l = []:=h;have hi:n=0:=hi;subst h;subst hi;exact⟨rfl,fun i q hq=>by simp at hq⟩
 | .cons t r,l,o,n,h,hi=>by
  obtain⟨k,q,s,rfl,rfl,he,hr⟩:=h;obtain⟨m,x0,x1,x2,rfl,c0,c1,c2,hp,hm⟩:=hi;obtain⟨hn,hall⟩:=zjf r s (o+3) m hr hm;refine⟨by rw [hn];rfl,fun i q' hq => ?_⟩;match i,hq with
  | 0,hq=>
   have hq:q=q':=by simpa using hq
   subst hq;refine⟨x0,x1,x2,c0,c1,c2,?_⟩;have hp:Leaf.at env (.leaf k) (.agg #[x0,x1,x2]) w:=hp;unfold Leaf.at at hp;simp only [he]at hp;exact hp
  | i+1,hq=>
   obtain⟨y0,y1,y2,d0,d1,d2,hy⟩:=hall i q' (by simpa using hq);refine⟨y0,y1,y2,?_,?_,?_,hy⟩
   ·rwa [show o+(i+1)*3=o+3+i*3 by omega]
   ·rwa [show o+(i+1)*3=o+3+i*3 by omega]
   ·rwa [show o+(i+1)*3=o+3+i*3 by omega]
 | .tag _,_,_,_,h,_ | .val _,_,_,_,h,_ | .agg _,_,_,_,h,_ | .fn _ _ _,_,_,_,h,_=>h.elim
theorem zqI{env:List (Leaf rs1)}{w:World}{ts:AT}{l:List Rat}{v:Value}(hts:zn7 env ts l)(h9:l.length≤1000000000)(h:AMOK (Gs env) (.row ts) v w):RowC w v l:=by
 obtain⟨b,o,n,c,rfl,hb,hi⟩:=h;obtain⟨rfl,hall⟩:=zjf ts l o n hts hi;refine⟨_,c,rfl,h9,fun i q hq=>⟨⟨b,o,none⟩,rfl,hb,?_⟩⟩;obtain⟨x0,x1,x2,c0,c1,c2,hr⟩:=hall i q hq;have e:(⟨b,o,none⟩:Addr).add (i*3)=⟨b,o+i*3,none⟩:=by unfold Addr.add;split <;> simp_all
 exact⟨x0,x1,x2,by rw [e];exact c0,by rw [e];exact c1,by rw [e];exact c2,hr⟩
section
variable {w0:World} {env:List (Leaf rs1)} {r:List zgu}
theorem zdj{k:Nat}{q:Rat}(hk:env[k]? = some (zap q)){v:Value}{w:World}(h:zaj w v q):zau (Gs env) (tg k) v w:=by
 show Leaf.at env (.leaf k) v w
 unfold Leaf.at;simp only [hk];exact h
theorem zcq{k:Nat}{q:Rat}(hk:env[k]? = some (zap q)){v:Value}{w:World}(h:zau (Gs env) (tg k) v w):zaj w v q:=by
 have h:Leaf.at env (.leaf k) v w:=h;unfold Leaf.at at h;simp only [hk]at h;exact h
theorem zi1{ts:AT}{l:List Rat}{k:Nat}{L:Nat}(hts:zn7 env ts l)(h9:l.length≤1000000000)(hk:env[k]? = some (zap (zeC l)))(hl:∀q∈l,zad q L)(hp:∀k,zad (zeC (l.take k)) L)(hs:∀k,zbR (zeC (l.take k))=true)(hL:L≤100000)(htab:zbh w0)(K:TM1 w0 env r) :
  TM1 w0 env ((68,[.row ts],A1 (tg k)) :: r):=by
 refine zoh ⟨_,Tryz.func68,rfl⟩ (fun w v hw hv => ?_) K;refine(zj0 w v l L (zqI hts h9 hv) hl hp hs hL (htab.below hw)).mono ?_;rintro e w' ⟨v',rfl,hr,hb⟩;exact⟨_,rfl,zdj hk hr,hb⟩
theorem zog{ts:AT}{l:List Rat}{k:Nat}{L:Nat}(hts:zn7 env ts l)(h9:l.length≤1000000000)(hk:env[k]? = some (zap (sumL l)))(hl:∀q∈l,zad q L)(hp:∀k,zad (sumL (l.take k)) L)(hs:∀k,zbR (sumL (l.take k))=true)(hL:L≤100000)(htab:zbh w0)(K:TM1 w0 env r) :
  TM1 w0 env ((65,[.row ts],A1 (tg k)) :: r):=by
 refine zoh ⟨_,Tryz.func65,rfl⟩ (fun w v hw hv => ?_) K;refine(zor w v l L (zqI hts h9 hv) hl hp hs hL (htab.below hw)).mono ?_;rintro e w' ⟨v',rfl,hr,hb⟩;exact⟨_,rfl,zdj hk hr,hb⟩
end
theorem zkS{env:List (Leaf rs1)}{k:Nat}{q:Rat}(hk:env[k]? = some (zap q)):∀n,zn7 env (reps k n) (List.replicate n q)
 | 0=>rfl
 | n+1=>⟨k,q,_,rfl,rfl,hk,zkS hk n⟩
def powO(n:Nat):FuncId→AV→AH→Option (AV × AH):=orO (zhQ (clsL [shR,shR]) (zgH [(68,[.row (reps 0 n)],A1 (tg 1))])) (zhR (clsL [shR,shR]) (zfv []))
noncomputable def zmU(n:Nat):Bool:=match runS Tryz.prog (clsL [shR,shR]) (powO n) rs1 3000 69 (A1 (.val (.sc (.int .i64 (.ofNat n))))) (.leaf 0)with
 | some (.tag (.leaf 1))=>true
 | _=>false
theorem zq5:(List.range 31).all zmU=true:=by kernel_rfl
theorem zq4{n:Nat}(hn:n≤30):runS Tryz.prog (clsL [shR,shR]) (powO n) rs1 3000 69 (A1 (.val (.sc (.int .i64 (.ofNat n))))) (.leaf 0)=some (tg 1):=by
 have h:=List.all_eq_true.1 zq5 n (List.mem_range.2 (by omega));unfold zmU at h;split at h
 ·rename_i e;exact e
 ·cases h
theorem zl1(w:World)(b:Nat)(r:Rat)(n L:Nat){x0 x1 x2:Value}(c0:w.cell? ⟨b,0,none⟩=some x0)(c1:w.cell? ⟨b,1,none⟩=some x1)(c2:w.cell? ⟨b,2,none⟩=some x2)(h:zaj w (.agg #[x0,x1,x2]) r)(hn:n≤30)
  (hl:zad r L) (hp:∀k,k≤n→zad (pw r k) L) (hs:∀k,k≤n→zbR (pw r k)=true) (hL:L≤100000) (htab:zbh w) :
  CallsIn Fence.wide 0 Tryz.prog 69 #[.int .i64 n,.pointer (some ⟨b,0,none⟩)] w fun e w'=>∃v',e = .returned v'∧zaj w' v' (pw r n)∧Below w.heap.size w w':=by
 obtain⟨arr,te,fz,hb,a0⟩:=Go.Sort.cells_of_cell? c0;have a1:arr[1]? = some x1:=by
  obtain⟨arr',_,_,hb',a⟩:=Go.Sort.cells_of_cell? c1;rw [hb]at hb'
  cases hb'
  exact a
 have a2:arr[2]? = some x2:=by
  obtain⟨arr',_,_,hb',a⟩:=Go.Sort.cells_of_cell? c2;rw [hb]at hb'
  cases hb'
  exact a
 have htk:∀k,(List.replicate n r).take k=List.replicate (min k n) r:=fun k=>by rw [List.take_replicate]
 have hM:TM1 w [zap r,zap (pw r n)] [(68,[.row (reps 0 n)],A1 (tg 1))]:=by
  refine zi1 (L:=L) (zkS (q:=r) rfl n) (by simp;omega) (by rw [zcA];rfl) ?_ ?_ ?_ hL htab zhx
  ·intro q hq;rw [List.eq_of_mem_replicate hq];exact hl
  ·intro k;rw [htk,zcA];exact hp _ (by omega)
  ·intro k;rw [htk,zcA];exact hs _ (by omega)
 have hO:zcW Tryz.prog w.heap.size w (Gs [zap r,zap (pw r n)]) (powO n):=zo2 (zgE (zdz rfl) hM) (zd1 (zdz rfl) zdI);have hone:∀x ∈ [x0,x1,x2],x.oneCell'=true:=by
  obtain⟨xs,e,_,h1⟩:=(zlb r).ok _ w h
  cases e
  exact h1
 have hx:zbq (Gs [zap r,zap (pw r n)]) (A1 (.val (.sc (.int .i64 (.ofNat n))))) [.int .i64 n] w:=ps1 rfl;refine(znH (G:=Gs [zap r,zap (pw r n)]) zak zac (zdz rfl) rfl hO (zq4 hn) hx (t:=.leaf 0) h hone hb a0 a1 a2).mono ?_;rintro e w' ⟨x,rfl,hx,hB⟩;exact⟨x,rfl,zcq (k:=1) rfl hx,hB⟩
end Go.Num
namespace Go.Eng
open Go.RowKit
def zhC(cls:Tg→Sh)(H:AH)(T:Tr AV):List Tmp→Option (List AM)
 | []=>some []
 | t :: r=>match T.get t with
  | some v=>(match zqD cls H v,zhC cls H T r with
   | some m,some ms=>some (m :: ms)
   | _,_=>none)
  | none=>none
def zhj(T:Tr AV)(lo nt:Nat):Bool:=(List.range nt).all fun j=>Nat.blt j lo || (match T.get j with|none=>true|some _=>false)
noncomputable def zje(P:Program)(cls:Tg→Sh)(O:FuncId→AV→AH→Option (AV × AH))(D:List FuncId)(res:List TypeId)(n:Nat)(fid:FuncId)(fn:Func)(r0 rest:Code)(ts:AT)(lo:Nat)(slots:List Tmp)(ams:List AM)(rs:AT):Bool:=
 match (zfw cls ts (bare res) fun args H=>bif Nat.ble args.len fn.ntmps then zez fn.ntmps .nil (List.range args.len) args fun T=>
  match (cb P [] O D n).code none fid r0 {T,nt:=fn.ntmps,ds:=[]} H with
  | some (.normal,a,H)=>(match a.ds,zhC cls H a.T slots with
   | [],some ms=>bif ziD ms ams && Nat.beq a.nt fn.ntmps && zhj a.T lo fn.ntmps then
     match (cb P [] O D n).code none fid rest a H with
     | some (.ret,a2,H2)=>zg8 H2 a2.ds fun H3=>match zbV P H3 a2 fn.results.toList with
      | some (.cons _ .nil)=>none
      | some vs=>(match (atOf cls H3 vs).2 with
       | some us=>bif us.beq rs then some (vs,H3)else none
       | none=>none)
      | none=>none
     | _=>none
    else none
   | _,_=>none)
  | _=>none else none:Option (AV × AH))with
 | some _=>true
 | none=>false
section
variable {P:Program}
theorem zf8{cls:Tg→Sh}{G:Sett}{B:Nat}{w0:World}(hs:zdf G cls){μ:Mu}{H:AH}{w:World}(h:Rep P B w0 G μ H w){nt:Nat}{T:Tr AV}{tmps:Array Value}(hT:TR μ nt T tmps):∀(slots:List Tmp) (ms:List AM),zhC cls H T slots=some ms→zmC G w ms (slots.map fun j=>tmps.getD j undef)
 | [],ms,hm=>by
  simp only [zhC,Option.some.injEq]at hm;subst hm;rfl
 | t :: r,ms,hm=>by
  simp only [zhC]at hm;split at hm
  ·rename_i v hv;split at hm
   ·rename_i m ms' h1 h2
    cases hm
    exact⟨_,_,rfl,ziF hs h h1 (hT.2 t v hv),zf8 hs h hT r ms' h2⟩
   ·cases hm
  ·cases hm
theorem zk1{T:Tr AV}{lo nt j:Nat}(h:zhj T lo nt=true)(hj:j<nt)(hl:lo≤j):T.get j=none:=by
 unfold zhj at h;have:=List.all_eq_true.1 h j (List.mem_range.2 hj);rw [Bool.or_eq_true]at this;rcases this with q|q
 ·have:=Nat.le_of_ble_eq_true q;have:j<lo:=this;omega
 ·split at q
  ·rename_i e;exact e
  ·cases q
theorem zjo{res:List TypeId}{env:List (Leaf res)}{S:List Sh}{w:World}(hm:P.follows .mixedOrders=true)(hN:zbi P)(hS:env.map (·.sh)=S){O:FuncId→AV→AH→Option (AV × AH)}(hO:zcW P w.heap.size w (Gs env) O){D:List FuncId}(hD:∀g∈D,zdc P g)
  {n:Nat} {fid:FuncId} {fn:Func} {r0 r1 rest:Code} (hfn:P.funcs[fid]? = some fn) (hbody:fn.body=some (.seq r0 (.seq r1 rest))) {ts rs:AT} {lo:Nat} {slots:List Tmp} {ams:List AM}
  (h:zje P (clsL S) O D res n fid fn r0 rest ts lo slots ams rs=true) {xs:Array Value} (hx:zbq (Gs env) ts xs.toList w)
  (hmid:∀(c:CAct) (w1:World),Below w.heap.size w w1→c.defers = []→c.tmps.size=fn.ntmps→zmC (Gs env) w1 ams (slots.map fun j=>c.tmps.getD j undef) →
   r1.wpIn Fence.wide 0 P (fun e c' w2=>e = .normal∧c'.defers = []∧c'.tmps.size=c.tmps.size∧(∀j,j<lo→c'.tmps.getD j undef=c.tmps.getD j undef)∧Below w1.heap.size w1 w2) c w1) :
  CallsIn Fence.wide 0 P fid xs w fun e w'=>∃x,e = .returned x∧zbP (Gs env) rs x w'∧Below w.heap.size w w':=by
 unfold zje at h;split at h
 ·rename_i r hr;obtain⟨args,μ0,H0,k1,k2,_,k4⟩:=(zh1 (P:=P) (B:=w.heap.size) (w0:=w) (zdz hS) ts _ _ _ _ (zkl (G:=Gs env) rfl w) hr).2 _ hx
  cases hle:Nat.ble args.len fn.ntmps with
  | false=>rw [hle]at k1;cases k1
  | true=>
   rw [hle]at k1;have hle:=Nat.le_of_ble_eq_true hle;simp only [cond_true,List.range_eq_range']at k1;obtain⟨T,h1,h2⟩:=zeO _ _ _ _ _ k1;have hlen:=k4.len;rw [Array.length_toList]at hlen;refine callsIn_of_wp_marks hfn hbody trivial ?_;have hT:TR μ0 fn.ntmps T (xs ++ Array.replicate (fn.ntmps-xs.size) undef):=by
    refine⟨by simp;omega,?_⟩;intro t u q;rcases h2 t u q with⟨i,rfl,hi⟩|q
    ·obtain⟨y,hy,hyv⟩:=k4.nth hi;have hy':xs[i]? = some y:=by simpa using hy
     have hlt:i<xs.size:=(Array.getElem?_eq_some_iff.1 hy').1;rw [Nat.zero_add,Array.getD_eq_getD_getElem?,Array.getElem?_append_left hlt,hy'];exact hyv
    ·simp [Tr.get]at q
   have hK:=(zrm (P:=P) (B:=w.heap.size) (w0:=w) (G:=Gs env) hm hN hO hD n).2.2;split at h1
   ·rename_i a H1 hcode;split at h1
    ·rename_i ms hds hms
     cases hb:ziD ms ams && Nat.beq a.nt fn.ntmps && zhj a.T lo fn.ntmps with
     | false=>rw [hb]at h1;cases h1
     | true=>
      rw [hb]at h1;simp only [Bool.and_eq_true]at hb;obtain⟨⟨hb1,hb2⟩,hb3⟩:=hb;have hb1:=ze2 hb1;subst hb1;have hnt:=Nat.eq_of_beq_eq_true hb2;simp only [cond_true]at h1;split at h1
      ·rename_i a2 H2 hcode2;have hc:=hK none fid r0 _ H0 .normal a H1 hcode μ0 w {tmps:=xs ++ Array.replicate (fn.ntmps-xs.size) undef,defers:=[]} none rfl k2 ⟨hT,rfl⟩;refine wpIn_seq (wpIn_mono (F:=Fence.wide) hc ?_);rintro e c1 w1 ⟨hxr,μ1,hext1,hact1,hrep1⟩
       cases e <;> first|exact hxr.elim|skip
       have hdef:c1.defers = []:=by
        have:=hact1.2;rw [hds]at this;exact this
       have hsz1:c1.tmps.size=fn.ntmps:=by rw [hact1.1.1,hnt]
       refine wpIn_seq (wpIn_mono (F:=Fence.wide) (hmid c1 w1 hrep1.below hdef hsz1 (zf8 (zdz hS) hrep1 hact1.1 slots ms hms)) ?_);rintro e c2 w2 ⟨rfl,q1,q2,q3,q5⟩;have hrep2:=hrep1.onto q5;have hact2:zc8 P μ1 a c2:=by
        refine⟨⟨by rw [q2];exact hact1.1.1,fun t v hv => ?_⟩,by rw [hds,q1];rfl⟩;by_cases hlt:t<lo
        ·rw [q3 t hlt];exact hact1.1.2 t v hv
        ·by_cases ht:t<fn.ntmps
         ·rw [zk1 hb3 ht (by omega)]at hv
          cases hv
         ·have:=hact1.1.2 t v hv;have e1:c1.tmps.getD t undef=undef:=by rw [Array.getD_eq_getD_getElem?,Array.getElem?_eq_none (by omega)];rfl
          have e2:c2.tmps.getD t undef=undef:=by rw [Array.getD_eq_getD_getElem?,Array.getElem?_eq_none (by omega)];rfl
          rw [e2];rw [e1]at this;exact this
       have hc2:=hK none fid rest a H1 .ret a2 H2 hcode2 μ1 w2 c2 none rfl hrep2 hact2;refine wpIn_mono (F:=Fence.wide) hc2 ?_;rintro e c3 w3 ⟨hxr3,μ3,hext3,hact3,hrep3⟩
       cases e <;> first|exact hxr3.elim|skip
       refine zfn a2.ds H2 _ _ h1 μ3 w3 c3.defers hrep3 hact3.2 ?_;intro H4 w4 hn hrep4 hk;split at hk
       ·cases hk
       ·rename_i vs hne hres;split at hk
        ·rename_i us hus
         cases hbe:us.beq rs with
         | false=>rw [hbe]at hk;cases hk
         | true=>
          have hue:=AT.eq_of_beq hbe;subst hue;obtain⟨ys,g1,g2⟩:=zdC hrep4 hact3.1 hres;have hpk:=(zcS (zdz hS) hrep4 vs).2 _ hus _ g2;refine⟨.tuple ys.toArray,?_,.tuple ys.toArray,rfl,?_,hrep4.below⟩
          ·have hsz:¬ys.length=1:=by
            intro q
            cases vs with
            | cons u t=>
             obtain⟨y,r,rfl,g3,g4⟩:=g2;have hr:r = []:=by apply List.length_eq_zero_iff.1;simpa using q
             subst hr
             cases t with
             | nil=>exact hne u rfl
             | cons u' t'=>obtain⟨_,_,q',_⟩:=g4;cases q'
             | _=>exact g4.elim
            | nil=>have:ys = []:=g2;subst this;simp at q
            | _=>exact g2.elim
           rw [zgB];simp [Array.mapM_eq_mapM_toList,g1,hsz]
          ·unfold zbP;split
           ·rename_i t;obtain⟨y,r,rfl,g3,g4⟩:=hpk;have g4:r = []:=g4;subst g4;exfalso
            cases vs with
            | cons u t=>
             obtain⟨y2,r2,e2,_,g5⟩:=g2
             cases e2
             cases t with
             | nil=>exact hne u rfl
             | cons u' t'=>obtain⟨_,_,q',_⟩:=g5;cases q'
             | _=>exact g5.elim
            | nil=>have:[y] = []:=g2;cases this
            | _=>exact g2.elim
           ·exact⟨ys.toArray,rfl,hpk⟩
        ·cases hk
       ·cases hk
      ·cases h1
    ·cases h1
   ·cases h1
 ·cases h
end
def GOn(ops:Array Oper)(a:CAct)(o:Oper):Prop:=∀x y,o.guard=some (x,y)→∃q d,ops[x]? = some q∧q.dst=some d∧a.tmps.getD d undef = .bool y
def GVal(ops:Array Oper)(val:Nat→Value)(o:Oper):Prop:=∀x y,o.guard=some (x,y)→(∃q d,ops[x]? = some q∧q.dst=some d)∧val x = .bool y
def zeU(o:Oper):Bool:=match o.op with | .defer _=>false | .select .. => false|_=>true
theorem zkD{t:Array Value}{d:Tmp}{b:Bool}(h:t.getD d undef = .bool b):t[d]? = some (.bool b):=by
 rw [Array.getD_eq_getD_getElem?]at h
 cases e:t[d]? with
 | none=>rw [e]at h;cases h
 | some v=>rw [e]at h;exact congrArg some h
def GWK(K:World→Prop)(ks:List Nat)(P:Program)(ro:Option Nat)(ops:Array Oper)(bs bars:List Nat)(Q:CAct→World→Prop):List Nat→CAct→World→Prop
 | [],a,w=>Q a w
 | i :: r,a,w=>∃o,ops[i]? = some o∧GOn ops a o ∧
   ((bars.contains i=true ∧
     ((∃f args,(execOp a.eval o).run P w = .ok (.enter f args) w∧CallsIn (Fz ro) 0 P f args w fun e w'=>∃v,e = .returned v∧((zeX bs ks ops.size i=true∧K w')∨Below w.heap.size w w')∧GWK K ks P ro ops bs bars Q r (a.put o.dst v) w') ∨
      (∃w' v,((execOp a.eval o).run P w = .ok (.value v) w'∨((execOp a.eval o).run P w = .ok .skip w'∧v=undef))∧((zeX bs ks ops.size i=true∧K w')∨Below w.heap.size w w')∧GWK K ks P ro ops bs bars Q r (a.put o.dst v) w'))) ∨
    (bars.contains i=false∧∃v,(∀w',(Below w.heap.size w w'∨(ks.contains i=true∧K w'))→(execOp a.eval o).run P w' = .ok (.value v) w')∧GWK K ks P ro ops bs bars Q r (a.put o.dst v) w))
section
variable {P:Program} {ops:Array Oper} {p:Plan}
structure zks(K:World→Prop)(ks:List Nat)(P:Program)(ro:Option Nat)(ops:Array Oper)(p:Plan)(bars:List Nat)(Q:CAct→World→Prop)(a:CAct)(ord done rest:List Nat)(val:Nat→Value)(g:CAct)(listed:Array Bool)(w:World):Prop where
 ord:done ++ rest=ord
 size:g.tmps.size=a.tmps.size
 defers:g.defers=a.defers
 gW:∀j∈done,∀o d,ops[j]? = some o→o.dst=some d→g.tmps.getD d undef=val j
 g0:∀t,(∀j∈done,∀o,ops[j]? = some o→o.dst≠some t)→g.tmps.getD t undef=a.tmps.getD t undef
 quiet:∀i∈done,¬Did listed i→∀o,ops[i]? = some o→i∉bars∧∀c:CAct,zct ops p val a i o c→∀w',(Below w.heap.size w w'∨(ks.contains i=true∧K w'))→(execOp c.eval o).run P w' = .ok (.value (val i)) w'
 cont:GWK K ks P ro ops p.bs bars Q rest g w
 gd:∀i∈done,∀o,ops[i]? = some o→GVal ops val o
theorem zim{K:World→Prop}{ks:List Nat}{ro:Option Nat}{bars:List Nat}{Q:CAct→World→Prop}{a:CAct}{ord done r:List Nat}{i:Nat}{val:Nat→Value}{g:CAct}{listed:Array Bool}{w:World}(hp:zbA ops p)(hord:zc2 p.bs bars ord=true)(hall:∀i,i<ops.size→i∈ord)
  (hC:zks K ks P ro ops p bars Q a ord done (i :: r) val g listed w) {o:Oper} (ho:ops[i]? = some o):zct ops p val a i o g:=by
 have hs:=hC.ord ▸ hord;obtain⟨h1,h2⟩:=zaD hs;intro t ht;refine⟨fun j q hj hq hd => ?_,fun hno => ?_⟩
 ·refine hC.gW j ?_ q t hq hd;have hjo:j∈ord:=hall j (Array.getElem?_eq_some_iff.1 hq).1;rw [←hC.ord]at hjo;rcases List.mem_append.1 hjo with h|h
  ·exact h
  ·rcases List.mem_cons.1 h with rfl|h
   ·have:=zda hp j o ho j hj;omega
   ·have:=(h1 j h).1;rw [hj]at this;cases this
 ·refine hC.g0 t fun j hj q hq hd => ?_
  rcases hp.reads i j o q t ho hq hd ht with rfl|hb|hb
  ·exact(h2 i hj).2.1 rfl
  ·exact hno j q hb hq hd
  ·have:=(h2 j hj).1;rw [hb]at this;cases this
theorem zik{K:World→Prop}{ks:List Nat}{ro:Option Nat}{bars:List Nat}{Q:CAct→World→Prop}{a:CAct}{ord done r:List Nat}{i:Nat}{val:Nat→Value}{g:CAct}{listed:Array Bool}{w:World}(hp:zbA ops p)(hord:zc2 p.bs bars ord=true)(hall:∀i,i<ops.size→i∈ord)
  (hC:zks K ks P ro ops p bars Q a ord done (i :: r) val g listed w) {o:Oper} (ho:ops[i]? = some o) (hg:GOn ops g o):GVal ops val o:=by
 intro x y hx;obtain⟨q,d,hq,hd,hv⟩:=hg x y hx;refine⟨⟨q,d,hq,hd⟩,?_⟩;have hb:=hp.guard i o x y ho hx;have hs:=hC.ord ▸ hord;obtain⟨h1,h2⟩:=zaD hs;have hxo:x∈ord:=hall x (Array.getElem?_eq_some_iff.1 hq).1;rw [←hC.ord]at hxo;have hxd:x∈done:=by
  rcases List.mem_append.1 hxo with h|h
  ·exact h
  ·rcases List.mem_cons.1 h with rfl|h
   ·have:=zda hp x o ho x hb;omega
   ·have:=(h1 x h).1;rw [hb]at this;cases this
 rw [←hC.gW x hxd q d hq hd];exact hv
theorem zlq{K:World→Prop}{ks:List Nat}{ro:Option Nat}{bars:List Nat}{Q:CAct→World→Prop}{a:CAct}{ord done r:List Nat}{i:Nat}{val:Nat→Value}{g:CAct}{listed listed':Array Bool}{w w':World}(hp:zbA ops p)(hord:zc2 p.bs bars ord=true)
  (hdst:∀o∈ops.toList,∀d,o.dst=some d→d<a.tmps.size)
  (hC:zks K ks P ro ops p bars Q a ord done (i :: r) val g listed w) {o:Oper} (ho:ops[i]? = some o) (v:Value) (hcont:GWK K ks P ro ops p.bs bars Q r (g.put o.dst v) w') (hgv:GVal ops val o)
  (hq:∀j∈done,¬Did listed' j→∀q,ops[j]? = some q→j∉bars∧∀c:CAct,zct ops p val a j q c→∀w2,(Below w'.heap.size w' w2∨(ks.contains j=true∧K w2))→(execOp c.eval q).run P w2 = .ok (.value (val j)) w2)
  (hi:¬Did listed' i→i∉bars∧∀c:CAct,zct ops p val a i o c→∀w2,(Below w'.heap.size w' w2∨(ks.contains i=true∧K w2))→(execOp c.eval o).run P w2 = .ok (.value v) w2) :
  zks K ks P ro ops p bars Q a ord (done ++ [i]) r (upd val i v) (g.put o.dst v) listed' w':=by
 have hs:=hC.ord ▸ hord;obtain⟨h1,h2⟩:=zaD hs;have hom:o∈ops.toList:=List.mem_of_getElem? (by simpa using ho);have hagree:∀j q c,(bsAt p.bs j).testBit i=false→zct ops p (upd val i v) a j q c→zct ops p val a j q c:=by
  intro j q c hji hA t ht;refine⟨fun k q' hk hq' hd => ?_,(hA t ht).2⟩;have:=(hA t ht).1 k q' hk hq' hd;rw [zbM _ _ _ (fun e=>by rw [e]at hk;rw [hk]at hji;cases hji)]at this;exact this
 refine⟨by rw [←hC.ord];simp,by rw [zcn];exact hC.size,by rw [zbx];exact hC.defers,?_,?_,?_,hcont,?_⟩
 ·intro j hj q d hq' hd;by_cases hji:j=i
  ·subst hji;rw [ho]at hq';cases hq';rw [zcb,hd,zco (by rw [hC.size];exact hdst o hom d hd)]
  ·rw [zbM _ _ _ hji,zaC (fun e=>hji (hp.dsts j i q o d hq' ho hd e))];rcases List.mem_append.1 hj with h|h
   ·exact hC.gW j h q d hq' hd
   ·simp at h;exact absurd h hji
 ·intro t ht;rw [zaC (ht i (by simp) o ho)];exact hC.g0 t fun j hj q hq'=>ht j (by simp [hj]) q hq'
 ·intro j hj hnd q hq';rcases List.mem_append.1 hj with h|h
  ·have hji:=h2 j h;rw [zbM _ _ _ hji.2.1];obtain⟨h3,h4⟩:=hq j h hnd q hq';exact⟨h3,fun c hA=>h4 c (hagree j q c hji.1 hA)⟩
  ·have hji:j=i:=by simpa using h
   subst hji;rw [ho]at hq';cases hq';rw [zcb];obtain⟨h3,h4⟩:=hi hnd;refine⟨h3,fun c hA=>h4 c (hagree j o c ?_ hA)⟩
   cases e:(bsAt p.bs j).testBit j with
   | false=>rfl
   | true=>have:=zda hp j o ho j e;omega
 ·intro j hj q hq';rcases List.mem_append.1 hj with h|h
  ·have hji:=h2 j h;intro x y hx;obtain⟨k1,k2⟩:=hC.gd j h q hq' x y hx;refine⟨k1,?_⟩;rw [zbM _ _ _ (fun e => ?_)]
   ·exact k2
   ·have:=hp.guard j q x y hq' hx;rw [e,hji.1]at this
    cases this
  ·have hji:j=i:=by simpa using h
   subst hji;rw [ho]at hq';cases hq';intro x y hx;obtain⟨k1,k2⟩:=hgv x y hx;refine⟨k1,?_⟩;rw [zbM _ _ _ (fun e => ?_)]
   ·exact k2
   ·have:=hp.guard j o x y ho hx;rw [e]at this;have:=zda hp j o ho j this;omega
theorem zer{K:World→Prop}{ks:List Nat}{ro:Option Nat}{bars:List Nat}{Q:CAct→World→Prop}{a:CAct}{ord:List Nat}{listed:Array Bool}{w:World}(hp:zbA ops p)(hord:zc2 p.bs bars ord=true)(hall:∀i,i<ops.size→i∈ord)
  (hnosel:∀o∈ops.toList,∀cs b,o.op ≠ .select cs b) (hdst:∀o∈ops.toList,∀d,o.dst=some d→d<a.tmps.size) :
  ∀(rest done:List Nat) (val:Nat→Value) (g:CAct),zks K ks P ro ops p bars Q a ord done rest val g listed w →
   ∃done' rest' val' g',zks K ks P ro ops p bars Q a ord done' rest' val' g' listed w∧(∀e r,rest'=e :: r→e∈bars)∧(∀j,j∈done→j∈done'∧val' j=val j)∧(∀j,j∈done'→j∈bars→j∈done)
 | [],done,val,g,hC=>⟨done,[],val,g,hC,fun e r h=>(by cases h),fun j hj=>⟨hj,rfl⟩,fun j hj _=>hj⟩
 | i :: r,done,val,g,hC=>by
  obtain⟨o,ho,hgo,hh⟩:=hC.cont;rcases hh with⟨hb,hh⟩|⟨hb,v,hv,hcont⟩
  ·exact⟨done,i :: r,val,g,hC,fun e r' h=>by injection h with h1 h2;subst h1;simpa using hb,fun j hj=>⟨hj,rfl⟩,fun j hj _=>hj⟩
  ·have hs:=hC.ord ▸ hord;obtain⟨h1,h2⟩:=zaD hs;have hnb:i∉bars:=by intro h;rw [show bars.contains i=true by simpa using h]at hb;cases hb
   have hA:=zim hp hord hall hC ho;have hom:o∈ops.toList:=List.mem_of_getElem? (by simpa using ho);have hC':=zlq hp hord hdst hC ho v hcont (zik hp hord hall hC ho hgo) hC.quiet (listed':=listed) (fun _=>⟨hnb,fun c hAc w2 hb2=>by
    rw [execOp_congr o (hnosel o hom) (hAc.eval hA)];exact hv w2 hb2⟩)
   obtain⟨done',rest',val',g',k1,k2,k3,k4⟩:=zer hp hord hall hnosel hdst r (done ++ [i]) _ _ hC';refine⟨done',rest',val',g',k1,k2,fun j hj => ?_,fun j hj hjb => ?_⟩
   ·obtain⟨h3,h4⟩:=k3 j (by simp [hj]);refine⟨h3,?_⟩;rw [h4,zbM _ _ _ (h2 j hj).2.1]
   ·have:=k4 j hj hjb;rcases List.mem_append.1 this with h|h
    ·exact h
    ·have:j=i:=by simpa using h
     subst this;exact absurd hjb hnb
structure zrs(K:World→Prop)(ks:List Nat)(P:Program)(ro:Option Nat)(ops:Array Oper)(p:Plan)(bars:List Nat)(Q:CAct→World→Prop)(a:CAct)(ord done rest:List Nat)(val:Nat→Value)(g:CAct)(listed:Array Bool)(c:CAct)(w:World):Prop where
 core:zks K ks P ro ops p bars Q a ord done rest val g listed w
 kw:K w
 head:∀e r,rest=e :: r→e∈bars
 lsize:listed.size=ops.size
 closed:∀i j,Did listed i→(bsAt p.bs i).testBit j=true→Did listed j
 sub:∀j,Did listed j→j∈done
 cdefers:c.defers=a.defers
 csize:c.tmps.size=a.tmps.size
 cW:∀j o d,Did listed j→ops[j]? = some o→o.dst=some d→c.tmps.getD d undef=val j
 c0:∀t,(∀j o,Did listed j→ops[j]? = some o→o.dst≠some t)→c.tmps.getD t undef=a.tmps.getD t undef
theorem zrQ{K:World→Prop}{ks:List Nat}(hKB:∀w w',K w→Below w.heap.size w w'→K w')(hp:zbA ops p){bars ord:List Nat}(hord:zc2 p.bs bars ord=true)(hall:∀i,i<ops.size→i∈ord)(hlt:∀i∈ord,i<ops.size)(hpl:∀o∈ops.toList,zeU o=true){a:CAct}{ro:Option Nat}{Q:Exit→CAct→World→Prop}
  (hdst:∀o∈ops.toList,∀d,o.dst=some d→d<a.tmps.size) :
  ∀(fuel:Nat) (done rest:List Nat) (val:Nat→Value) (g:CAct) (listed:Array Bool) (c:CAct) (w:World),zrs K ks P ro ops p bars (fun a' w'=>Q .normal a' w') a ord done rest val g listed c w→cntF (fun i=>listed.getD i false) ops.size≤fuel→wpAnyIn (Fz ro) 0 P .any ops Q fuel listed c w:=by
 have hnosel:∀o∈ops.toList,∀cs b,o.op ≠ .select cs b:=by
  intro o ho cs b e;have:=hpl o ho;unfold zeU at this;rw [e]at this
  cases this
 have fin:∀{done rest val g listed c w},zrs K ks P ro ops p bars (fun a' w'=>Q .normal a' w') a ord done rest val g listed c w→Region.ready .any ops listed = []→Q .normal c w:=by
  intro done rest val g listed c w hI hr;have hdid:=zeS hp hI.lsize hr;have hrest:rest = []:=by
   cases hre:rest with
   | nil=>rfl
   | cons e r=>
    exfalso;have hC:=hI.core;rw [hre]at hC;have heo:e∈ord:=by rw [←hC.ord];simp
    have hs:=hC.ord ▸ hord;have:=(zaD hs).2 e (hI.sub e (hdid e (hlt e heo)));exact this.2.1 rfl
  subst hrest;have hQ:=hI.core.cont;have hcg:c=g:=by
   refine zkp (by rw [hI.csize,hI.core.size]) (fun t ht => ?_) (by rw [hI.cdefers,hI.core.defers]);by_cases hw:∃(j:Nat) (o:Oper),ops[j]? = some o∧o.dst=some t
   ·obtain⟨j,o,ho,hod⟩:=hw;have hj:=hdid j (Array.getElem?_eq_some_iff.1 ho).1;rw [hI.cW j o t hj ho hod,hI.core.gW j (hI.sub j hj) o t ho hod]
   ·rw [hI.c0 t (fun j o _ ho hod=>hw ⟨j,o,ho,hod⟩),hI.core.g0 t (fun j _ o ho hod=>hw ⟨j,o,ho,hod⟩)]
  rw [hcg];exact hQ
 intro fuel;induction fuel with
 | zero=>
  intro done rest val g listed c w hI hcnt;have hz:cntF (fun i=>listed.getD i false) ops.size=0:=by omega
  have hal:=zd9 hz;have hr:Region.ready .any ops listed = []:=by
   cases hq:Region.ready .any ops listed with
   | nil=>rfl
   | cons i r=>
    have:=zbK hI.lsize (i:=i) (by rw [hq];simp);exact absurd (hal i this.1) this.2.1
  exact⟨hr,fin hI hr⟩
 | succ fuel ih=>
  intro done rest val g listed c w hI hcnt;refine⟨fin hI,?_⟩;intro i hi;obtain⟨hin,hnd,o,ho,hedges⟩:=zbK hI.lsize hi;have hready:=zgm hp hI.closed ho hedges;have hol:ops.toList[i]? = some o:=by simpa using ho
  have hom:o∈ops.toList:=List.mem_of_getElem? hol;have hilt:i<listed.size:=by rw [hI.lsize];exact hin
  have hcnt':cntF (fun j=>(listed.setIfInBounds i true).getD j false) ops.size≤fuel:=by
   have:=zfq (f:=fun j=>listed.getD j false) (g:=fun j=>(listed.setIfInBounds i true).getD j false) (i:=i) hnd (zay hilt) (by
    intro j hj;simp [Array.getD_eq_getD_getElem?,Ne.symm hj]) hin
   omega
  have hplo:=hpl o hom;have hop:=hplo;unfold zeU at hop;have hnodef:∀q,o.op ≠ .defer q:=by intro q e;rw [e]at hop;cases hop
  have hwantOf:GVal ops val o→Region.wanted o (yielded ops c.tmps)=true:=fun hgv=>by
   unfold Region.wanted
   cases hg:o.guard with
   | none=>rfl
   | some xy=>
    obtain⟨x,y⟩:=xy;obtain⟨⟨q,d,hq,hd⟩,hv⟩:=hgv x y hg;have hcv:=hI.cW x q d (hready x (hp.guard i o x y ho hg)) hq hd;rw [hv]at hcv;have hyv:yielded ops c.tmps x=some y:=by
     unfold yielded;rw [hq];simp only [Option.bind_some,hd];rw [zkD hcv]
    show(yielded ops c.tmps x == some y)=true
    rw [hyv];exact beq_self_eq_true _
  have hclosed':∀x j,Did (listed.setIfInBounds i true) x→(bsAt p.bs x).testBit j=true→Did (listed.setIfInBounds i true) j:=by
   intro x j hx hj;rcases zaR hx with rfl|hx
   ·exact zai (hready j hj)
   ·exact zai (hI.closed x j hx hj)
  have hcA:zct ops p val a i o c:=by
   intro t ht;refine⟨fun j q hj hq hd=>hI.cW j q t (hready j hj) hq hd,fun hno => ?_⟩;refine hI.c0 t fun j q hj hq hd => ?_
   rcases hp.reads i j o q t ho hq hd ht with rfl|hb|hb
   ·exact hnd hj
   ·exact hno j q hb hq hd
   ·exact hnd (hI.closed j i hj hb)
  have hput:∀(val':Nat→Value) (v:Value),(∀j,Did listed j→val' j=val j)→val' i=v →
    (c.put o.dst v).defers=a.defers∧(c.put o.dst v).tmps.size=a.tmps.size ∧
    (∀j q d,Did (listed.setIfInBounds i true) j→ops[j]? = some q→q.dst=some d→(c.put o.dst v).tmps.getD d undef=val' j) ∧
    (∀t,(∀j q,Did (listed.setIfInBounds i true) j→ops[j]? = some q→q.dst≠some t)→(c.put o.dst v).tmps.getD t undef=a.tmps.getD t undef):=by
   intro val' v hold hnew;refine⟨by rw [zbx];exact hI.cdefers,by rw [zcn];exact hI.csize,?_,?_⟩
   ·intro j q d hj hq hd;by_cases hji:j=i
    ·subst hji;rw [ho]at hq;cases hq;rw [hd,zco (by rw [hI.csize];exact hdst o hom d hd),hnew]
    ·rcases zaR hj with e|hj
     ·exact absurd e hji
     ·rw [zaC (fun e=>hji (hp.dsts j i q o d hq ho hd e)),hold j hj];exact hI.cW j q d hj hq hd
   ·intro t ht;rw [zaC (ht i o (zay hilt) ho)];exact hI.c0 t (fun j q hj hq=>ht j q (zai hj) hq)
  by_cases hid:i∈done
  ·
   obtain⟨hnb,hq⟩:=hI.core.quiet i hid hnd o ho;have hrun:=hq c hcA w (.inl (Below.refl _ _));obtain⟨e1,e2,e3,e4⟩:=hput val (val i) (fun _ _=>rfl) rfl;have hnext:zrs K ks P ro ops p bars (fun a' w'=>Q .normal a' w') a ord done rest val g (listed.setIfInBounds i true) (c.put o.dst (val i)) w:=
    ⟨⟨hI.core.ord,hI.core.size,hI.core.defers,hI.core.gW,hI.core.g0,fun j hj hnj=>hI.core.quiet j hj (fun h=>hnj (zai h)),hI.core.cont,hI.core.gd⟩,hI.kw,hI.head,by simp [hI.lsize],hclosed',
     fun j hj=>(zaR hj).elim (fun e=>e ▸ hid) (fun hj=>hI.sub j hj),e1,e2,e3,e4⟩
   have hrest:=ih _ _ _ _ _ _ _ hnext hcnt';simp only [wpOpIn,ho];rw [if_pos (hwantOf (hI.core.gd i hid o ho))];refine⟨fun f _=>zey ro f,?_⟩;rw [Oper.semAt_eq _ _ _ hnodef,hrun];exact hrest
  ·
   have hio:i∈ord:=hall i hin;rw [←hI.core.ord]at hio;have hir:i∈rest:=by
    rcases List.mem_append.1 hio with h|h
    ·exact absurd h hid
    ·exact h
   obtain⟨e,r,hre⟩:∃e r,rest=e :: r:=by
    cases hrest:rest with
    | nil=>rw [hrest]at hir;cases hir
    | cons e r=>exact⟨e,r,rfl⟩
   have heb:=hI.head e r hre;subst hre;have hs:=hI.core.ord ▸ hord;obtain⟨h1,h2⟩:=zaD hs;have hie:i=e:=by
    rcases List.mem_cons.1 hir with h|h
    ·exact h
    ·exfalso;have hm:=(h1 i h).2.2 heb;exact(h2 e (hI.sub e (hready e hm))).2.1 rfl
   subst hie;obtain⟨o',ho',hgo,hh⟩:=hI.core.cont;rw [ho]at ho';have ho':=Option.some.inj ho';subst ho';have hgA:=zim hp hord hall hI.core ho;have hexec:=execOp_congr o (hnosel o hom) (hcA.eval hgA);have hcontb:bars.contains i=true:=by simpa using heb
   have after:∀(v:Value) (w':World),((zeX p.bs ks ops.size i=true∧K w')∨Below w.heap.size w w')→GWK K ks P ro ops p.bs bars (fun a' w'=>Q .normal a' w') r (g.put o.dst v) w'→wpAnyIn (Fz ro) 0 P .any ops Q fuel (listed.setIfInBounds i true) (c.put o.dst v) w':=by
    intro v w' hB hcont;have hC':zks K ks P ro ops p bars (fun a' w'=>Q .normal a' w') a ord (done ++ [i]) r (upd val i v) (g.put o.dst v) (listed.setIfInBounds i true) w':=by
     refine zlq hp hord hdst hI.core ho v hcont (zik hp hord hall hI.core ho hgo) (fun j hj hnj q hq => ?_) (fun h=>absurd (zay hilt) h);obtain⟨h3,h4⟩:=hI.core.quiet j hj (fun h=>hnj (zai h)) q hq;rcases hB with⟨hr,hKw⟩|hB
     ·
      have hjl:j<ops.size:=(Array.getElem?_eq_some_iff.1 hq).1;unfold zeX at hr;rw [List.all_eq_true]at hr;have:=hr j (List.mem_range.2 hjl);rw [Bool.or_eq_true,Bool.or_eq_true,Bool.or_eq_true]at this;rcases this with h|(h|h)|h
      ·exact absurd (Nat.eq_of_beq_eq_true h) (fun e=>hid (e ▸ hj))
      ·exact absurd (zai (hready j h)) hnj
      ·rw [(h2 j hj).1]at h;cases h
      ·exact⟨h3,fun c' hA w2 hb2=>h4 c' hA w2 (.inr ⟨h,hb2.elim (fun q=>hKB _ _ hKw q) (fun q=>q.2)⟩)⟩
     ·exact⟨h3,fun c' hA w2 hb2=>h4 c' hA w2 (hb2.imp (fun q=>hB.trans (q.mono hB.size)) id)⟩
    obtain⟨done',rest',val',g',k1,k2,k3,k4⟩:=zer hp hord hall hnosel hdst r _ _ _ hC';obtain⟨e1,e2,e3,e4⟩:=hput val' v (fun j hj=>by
      rw [(k3 j (by simp [hI.sub j hj])).2,zbM _ _ _ (fun e:j=i=>hnd (e ▸ hj))]) (by rw [(k3 i (by simp)).2,zcb])
    refine ih done' rest' val' g' _ _ _ ⟨k1,hB.elim (fun q=>q.2) (fun q=>hKB _ _ hI.kw q),k2,by simp [hI.lsize],hclosed',fun j hj => ?_,e1,e2,e3,e4⟩ hcnt';rcases zaR hj with rfl|hj
    ·exact(k3 j (by simp)).1
    ·exact(k3 j (by simp [hI.sub j hj])).1
   simp only [wpOpIn,ho];rw [if_pos (hwantOf (zik hp hord hall hI.core ho hgo))];refine⟨fun f _=>zey ro f,?_⟩;rw [Oper.semAt_eq _ _ _ hnodef,hexec];rcases hh with⟨_,hh⟩|⟨hb,_⟩
   ·rcases hh with⟨f,args,hrun,hcalls⟩|⟨w',v,hrun,hB,hcont⟩
    ·rw [hrun];refine⟨fun h=>absurd (zft ro h) (by omega),?_⟩;refine CallsIn.mono hcalls ?_;rintro e w' ⟨v,rfl,hB,hcont⟩;exact after v w' hB hcont
    ·rcases hrun with hrun|⟨hrun,rfl⟩
     ·rw [hrun];exact after v w' hB hcont
     ·rw [hrun];exact after undef w' hB hcont
   ·rw [hcontb]at hb;cases hb
def zd0(l:List Oper)(bars ord:List Nat)(nt:Nat):Bool:=
 match zeT l.toArray with
 | none=>false
 | some p=>zc2 p.bs bars ord && (List.range l.length).all (fun i=>ord.contains i) && ord.all (fun i=>Nat.blt i l.length) && l.all zeU && l.all (fun o=>match o.dst with|some d=>Nat.blt d nt|none=>true)
theorem zhs{K:World→Prop}(ks:List Nat)(hKB:∀w w',K w→Below w.heap.size w w'→K w'){id:Nat}{l:List Oper}(bars ord:List Nat)(bs:List Nat){a:CAct}{w:World}{ro:Option Nat}{Q:Exit→CAct→World→Prop}(hm:P.follows .mixedOrders=true)
  (nt:Nat) (hnt:a.tmps.size=nt) (hc:zd0 l bars ord nt=true) (hbs:zeV l []=bs) (hK:K w.drew) (h:GWK K ks P ro l.toArray bs bars (fun a' w'=>Q .normal a' w') ord a w.drew):(Code.region id l.toArray true).wpIn (Fz ro) 0 P Q a w:=by
 subst hnt;unfold zd0 at hc;split at hc
 ·cases hc
 ·rename_i p hplan;have hp:=zhN hplan;have hpbs:p.bs=bs:=by
   have h2:=hplan;unfold zeT at h2;simp only [Bool.cond_eq_ite]at h2;split at h2
   ·injection h2 with h2;rw [←h2];exact hbs
   ·cases h2
  subst hpbs;simp only [Bool.and_eq_true,List.all_eq_true]at hc;obtain⟨⟨⟨⟨h1,h2⟩,h3⟩,h4⟩,h5⟩:=hc;have hall:∀i,i<l.toArray.size→i∈ord:=fun i hi=>by simpa using h2 i (List.mem_range.2 (by simpa using hi))
  have hlt:∀i∈ord,i<l.toArray.size:=fun i hi=>by simpa using (zbu _ _).1 (h3 i hi)
  have hpl:∀o∈l.toArray.toList,zeU o=true:=by simpa using h4
  have hdst:∀o∈l.toArray.toList,∀d,o.dst=some d→d<a.tmps.size:=fun o ho d hd=>by
   have:=h5 o (by simpa using ho);rw [hd]at this;exact(zbu _ _).1 this
  have hno:∀i,¬Did (Array.replicate l.toArray.size false) i:=by
   intro i hi;unfold Did at hi;rw [Array.getD_eq_getD_getElem?,Array.getElem?_replicate]at hi;split at hi <;> simp at hi
  have hnosel:∀o∈l.toArray.toList,∀cs b,o.op ≠ .select cs b:=by
   intro o ho cs b e;have:=hpl o ho;unfold zeU at this;rw [e]at this
   cases this
  have hC:zks K ks P ro l.toArray p bars (fun a' w'=>Q .normal a' w') a ord [] ord (fun _=>undef) a (Array.replicate l.toArray.size false) w.drew:=
   ⟨rfl,rfl,rfl,fun j hj=>(by cases hj),fun _ _=>rfl,fun j hj=>(by cases hj),h,fun j hj=>(by cases hj)⟩
  obtain⟨done',rest',val',g',k1,k2,k3,k4⟩:=zer hp h1 hall hnosel hdst ord [] _ _ hC;refine wpIn_region_any hm (zrQ hKB hp h1 hall hlt hpl hdst _ done' rest' val' g' _ _ _ ⟨k1,hK,k2,by simp,fun i j hi=>absurd hi (hno i),fun j hj=>absurd hj (hno j),rfl,rfl,fun j o d hj=>absurd hj (hno j),fun _ _=>rfl⟩ ?_);have:∀(f:Nat→Bool) n,cntF f n≤n:=by
   intro f n;induction n with
   | zero=>exact Nat.le_refl _
   | succ n ih=>simp only [cntF];split <;> omega
  exact this _ _
end
end Go.Eng
namespace Go.Eng
open Go.RowKit Go.Num Go.Proofs Go.Proofs.YtepakfjilnpodaaGreatDoor
def GV(K:World→Prop)(ks:List Nat)(P:Program)(nt:Nat)(ops:Array Oper)(bs bars:List Nat)(Q:CAct→World→Prop)(r:List Nat)(a:CAct)(ov:List (Tmp × Value))(w:World):Prop:=
 a.tmps.size=nt→zde nt ov→GWK K ks P none ops bs bars Q r (zaH a ov) w
def GOk(ops:Array Oper)(a:CAct)(ov:List (Tmp × Value)):Option (Nat × Bool)→Prop
 | none=>True
 | some (x,y)=>∃q d,ops[x]? = some q∧q.dst=some d∧zk8 a ov d = .bool y
section
variable {K:World→Prop} {ks:List Nat} {P:Program} {nt:Nat} {ops:Array Oper} {bs bars r:List Nat} {i:Nat} {a:CAct} {ov:List (Tmp × Value)} {w:World} {Q:CAct→World→Prop} {o:Oper} {gd:Option (Nat × Bool)}
theorem zqN(hk:zde a.tmps.size ov)(h:GOk ops a ov o.guard):GOn ops (zaH a ov) o:=by
 intro x y hg;rw [hg]at h;obtain⟨q,d,h1,h2,h3⟩:=h;exact⟨q,d,h1,h2,by rw [zds a ov hk];exact h3⟩
theorem GV.read{d:Tmp}(v:Value)(ho:ops[i]? = some o)(hg:GOk ops a ov o.guard)(hdst:o.dst=some d)(hb:bars.contains i=false)(hd:Nat.blt d nt=true)
  (hrun:∀w',(Below w.heap.size w w'∨(ks.contains i=true∧K w'))→(execOp (look a ov) o).run P w' = .ok (.value v) w') (h:GV K ks P nt ops bs bars Q r a ((d,v) :: ov) w):GV K ks P nt ops bs bars Q (i :: r) a ov w:=by
 intro hn hk;refine⟨o,ho,zqN (by rw [hn];exact hk) hg,.inr ⟨hb,v,fun w' hw' => ?_,?_⟩⟩
 ·rw [zaV a ov (by rw [hn];exact hk)];exact hrun w' hw'
 ·rw [hdst];exact h hn (hk.cons hd)
theorem GV.mv{x:Operand}{v:Value}{d:Tmp}{ty:TypeId}{ps:String}{af:Array Edge}(ho:ops[i]? = some {op:=.move x,dst:=some d,type:=ty,pos:=ps,after:=af,guard:=gd})(hg:GOk ops a ov gd)(hb:bars.contains i=false)(hd:Nat.blt d nt=true)
  (hx:look a ov x=v) (h:GV K ks P nt ops bs bars Q r a ((d,v) :: ov) w):GV K ks P nt ops bs bars Q (i :: r) a ov w:=
 GV.read v ho hg rfl hb hd (fun w' _=>by subst hx;rfl) h
theorem GV.pick{c x y:Operand}{b:Bool}{v:Value}{d:Tmp}{ty:TypeId}{ps:String}{af:Array Edge}(hc:look a ov c = .bool b)(hx:look a ov (bif b then x else y)=v)(ho:ops[i]? = some {op:=.pick c x y,dst:=some d,type:=ty,pos:=ps,after:=af,guard:=gd})(hg:GOk ops a ov gd)(hb:bars.contains i=false)(hd:Nat.blt d nt=true)
  (h:GV K ks P nt ops bs bars Q r a ((d,v) :: ov) w):GV K ks P nt ops bs bars Q (i :: r) a ov w:=
 GV.read v ho hg rfl hb hd (fun w' _=>by
  subst hx
  cases b <;> simp [execOp,hc,go_sem]) h
theorem GV.ldn{t:TypeId}{x:Operand}{p:Addr}{n:Nat}(cs:List Value){d:Tmp}{ty:TypeId}{ps:String}{af:Array Edge}(hL:zdO P t n)(hc:∀j v,cs[j]? = some v→w.cell? (p.add j)=some v)(hks:ks.contains i=false)(ho:ops[i]? = some {op:=.load t x,dst:=some d,type:=ty,pos:=ps,after:=af,guard:=gd})(hg:GOk ops a ov gd)(hb:bars.contains i=false)(hd:Nat.blt d nt=true)
  (hn:cs.length=n) (h0:0<n) (hx:look a ov x = .pointer (some p)) (h:GV K ks P nt ops bs bars Q r a ((d,.agg cs.toArray) :: ov) w):GV K ks P nt ops bs bars Q (i :: r) a ov w:=
 GV.read _ ho hg rfl hb hd (fun w' hb'=>by
  rcases hb' with hb'|⟨q,_⟩
  ·have hp:p.block<w.heap.size:=by
    have:=World.block_lt_of_cell? _ _ (hc 0 _ (List.getElem?_eq_getElem (by omega)));rwa [zaf]at this
   have h1:=hL p cs w' hn (fun j v hj=>(hb'.cell (p:=p.add j) (by rw [zaf];exact hp)).trans (hc j v hj));simp [execOp,hx,h1]
  ·rw [hks]at q;cases q) h
theorem GV.call{f:FuncId}{fn:Func}{xs:Array Operand}{ts:Array TypeId}(args:List Value){d:Tmp}{ty:TypeId}{ps:String}{af:Array Edge}{R:Value→World→Prop}{f':FuncId}(hfn:P.funcs[f]? = some fn)(hbody:fn.body.isSome=true)(hN:zbi P)
  (ho:ops[i]? = some {op:=.call {callee:=.value (.func f),args:=xs,argTypes:=ts},dst:=some d,type:=ty,pos:=ps,after:=af,guard:=gd}) (hg:GOk ops a ov gd) (hb:bars.contains i=true) (hd:Nat.blt d nt=true)
  (ha:xs.toList.map (look a ov)=args) (hf:f=f') (hcall:CallsIn Fence.wide 0 P f' args.toArray w fun e w'=>∃v,e = .returned v∧R v w'∧Below w.heap.size w w')
  (h:∀v w',R v w'→Below w.heap.size w w'→GV K ks P nt ops bs bars Q r a ((d,v) :: ov) w'):GV K ks P nt ops bs bars Q (i :: r) a ov w:=by
 intro hn hk;subst hf;have hk':zde a.tmps.size ov:=by rw [hn];exact hk
 refine⟨_,ho,zqN hk' hg,.inl ⟨hb,.inl ⟨f,args.toArray,?_,hcall.mono ?_⟩⟩⟩
 ·have ha':xs.map (zaH a ov).eval=args.toArray:=by rw [zaV a ov hk'];subst ha;apply Array.ext';rw [Array.toList_map]
  rw [←ha'];have hbn:fn.body≠none:=by intro q;rw [q]at hbody;simp at hbody
  have hev:(zaH a ov).eval (.func f) = .func (.func f) #[] #[]:=rfl;unfold execOp;simp only [resolve,hev,Deferred.ofValue,Sem.run_bind,Sem.run_pure,Result.andThen_ok,invoke,callFunc,run_program,hfn,hN f fn hfn hbody,Bool.false_eq_true,if_false];have:fn.body.isNone=false:=by cases hq:fn.body <;> simp_all
  rw [this];simp
 ·rintro e w' ⟨v,rfl,hR,hB⟩;exact⟨v,rfl,.inr hB,h v w' hR hB hn (hk.cons hd)⟩
theorem GV.done(h:Q (zaH a ov) w):GV K ks P nt ops bs bars Q [] a ov w:=fun _ _=>h
theorem ziK{id:Nat}{l:List Oper}(bars ord:List Nat)(bs:List Nat){a:CAct}{w:World}{ro:Option Nat}{Q:Exit→CAct→World→Prop}(hm:P.follows .mixedOrders=true)(hro:ro=none)
  (nt:Nat) (hnt:a.tmps.size=nt) (hc:zd0 l bars ord nt=true) (hbs:zeV l []=bs) (h:GV (fun _=>True) [] P nt l.toArray bs bars (fun a' w'=>Q .normal a' w') ord a [] w.drew):(Code.region id l.toArray true).wpIn (Fz ro) 0 P Q a w:=by
 subst hro;exact zhs [] (fun _ _ _ _=>trivial) bars ord bs hm nt hnt hc hbs trivial (h hnt (fun p hp=>by cases hp))
end
end Go.Eng
