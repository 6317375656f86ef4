/-
  'Ruin' of the reference. 'Ruin', of arguments that are as they should be. 'Ruin', of arguments that are as they should be: the runs. 'Ruin',
  Conditions: see each statement.
-/
import Derived.Test.YtepakfjilnpodaaGreatDoorRBAV
import Derived.Test.YtepakfjilnpodaaGreatDoorRBAW
import Derived.Test.YtepakfjilnpodaaGreatDoorRBAN
import Derived.Test.YtepakfjilnpodaaGreatDoorRBAU
import Derived.Test.YtepakfjilnpodaaGreatDoorRBAA
set_option maxRecDepth 100000
set_option maxHeartbeats 8000000
namespace Go.Eng
open Go.RowKit Go.Num Go.Proofs Go.Proofs.YtepakfjilnpodaaGreatDoor
section
variable {K:World→Prop} {ks:List Nat} {nt:Nat} {ops:Array Oper} {bs bars r:List Nat} {i:Nat} {a:CAct} {ov:List (Tmp × Value)} {w:World} {Q:CAct→World→Prop} {o:Oper} {gd:Option (Nat × Bool)}
theorem GV.lss{t t2:TypeId}{x y:Operand}{p q:Int}{b:Bool}{d:Tmp}{ty:TypeId}{ps:String}{af:Array Edge}(hpq:decide (p<q)=b)
  (ho:ops[i]? = some {op:=.binOp .lss t x y t2,dst:=some d,type:=ty,pos:=ps,after:=af,guard:=gd}) (hg:GOk ops a ov gd) (hb:bars.contains i=false) (hd:Nat.blt d nt=true)
  (hx:look a ov x = .int .i64 p) (hy:look a ov y = .int .i64 q) (h:GV K ks Tryz.prog nt ops bs bars Q r a ((d,.bool b) :: ov) w):GV K ks Tryz.prog nt ops bs bars Q (i :: r) a ov w:=
 GV.read _ ho hg rfl hb hd (fun w' _=>by
  rw [←hpq];simp [execOp,hx,hy,binOp,eqGuard,Op.intCmp,Sem.run_pure,go_sem]) h
theorem GV.gtr{t t2:TypeId}{x y:Operand}{p q:Int}{b:Bool}{d:Tmp}{ty:TypeId}{ps:String}{af:Array Edge}(hpq:decide (p>q)=b)
  (ho:ops[i]? = some {op:=.binOp .gtr t x y t2,dst:=some d,type:=ty,pos:=ps,after:=af,guard:=gd}) (hg:GOk ops a ov gd) (hb:bars.contains i=false) (hd:Nat.blt d nt=true)
  (hx:look a ov x = .int .i64 p) (hy:look a ov y = .int .i64 q) (h:GV K ks Tryz.prog nt ops bs bars Q r a ((d,.bool b) :: ov) w):GV K ks Tryz.prog nt ops bs bars Q (i :: r) a ov w:=
 GV.read _ ho hg rfl hb hd (fun w' _=>by
  rw [←hpq];simp [execOp,hx,hy,binOp,eqGuard,Op.intCmp,Sem.run_pure,go_sem]) h
theorem GV.geq{t t2:TypeId}{x y:Operand}{p q:Int}{b:Bool}{d:Tmp}{ty:TypeId}{ps:String}{af:Array Edge}(hpq:decide (p≥q)=b)
  (ho:ops[i]? = some {op:=.binOp .geq t x y t2,dst:=some d,type:=ty,pos:=ps,after:=af,guard:=gd}) (hg:GOk ops a ov gd) (hb:bars.contains i=false) (hd:Nat.blt d nt=true)
  (hx:look a ov x = .int .i64 p) (hy:look a ov y = .int .i64 q) (h:GV K ks Tryz.prog nt ops bs bars Q r a ((d,.bool b) :: ov) w):GV K ks Tryz.prog nt ops bs bars Q (i :: r) a ov w:=
 GV.read _ ho hg rfl hb hd (fun w' _=>by
  rw [←hpq];simp [execOp,hx,hy,binOp,eqGuard,Op.intCmp,Sem.run_pure,go_sem]) h
theorem GV.eql{t t2:TypeId}{x y:Operand}{p q:Int}{b:Bool}{d:Tmp}{ty:TypeId}{ps:String}{af:Array Edge}(hpq:decide (p=q)=b)
  (ho:ops[i]? = some {op:=.binOp .eql t x y t2,dst:=some d,type:=ty,pos:=ps,after:=af,guard:=gd}) (hg:GOk ops a ov gd) (hb:bars.contains i=false) (hd:Nat.blt d nt=true)
  (hx:look a ov x = .int .i64 p) (hy:look a ov y = .int .i64 q) (h:GV K ks Tryz.prog nt ops bs bars Q r a ((d,.bool b) :: ov) w):GV K ks Tryz.prog nt ops bs bars Q (i :: r) a ov w:=
 GV.read _ ho hg rfl hb hd (fun w' _=>by
  rw [←hpq];simp [execOp,hx,hy,binOp,eqGuard,Op.intCmp,Sem.run_pure,go_sem]
  rfl) h
theorem GV.not{t:TypeId}{x:Operand}{b:Bool}{d:Tmp}{ty:TypeId}{ps:String}{af:Array Edge}
  (ho:ops[i]? = some {op:=.unOp .not t x,dst:=some d,type:=ty,pos:=ps,after:=af,guard:=gd}) (hg:GOk ops a ov gd) (hb:bars.contains i=false) (hd:Nat.blt d nt=true)
  (hx:look a ov x = .bool b) (h:GV K ks Tryz.prog nt ops bs bars Q r a ((d,.bool (!b)) :: ov) w):GV K ks Tryz.prog nt ops bs bars Q (i :: r) a ov w:=
 GV.read _ ho hg rfl hb hd (fun w' _=>by
  simp [execOp,hx,go_sem]) h
theorem GV.ld1{t:TypeId}{x:Operand}{p:Addr}{v:Value}{d:Tmp}{ty:TypeId}{ps:String}{af:Array Edge}(hL:zfX Tryz.prog t)(hc:w.cell? p=some v)(hks:ks.contains i=false)(ho:ops[i]? = some {op:=.load t x,dst:=some d,type:=ty,pos:=ps,after:=af,guard:=gd})(hg:GOk ops a ov gd)(hb:bars.contains i=false)(hd:Nat.blt d nt=true)
  (hx:look a ov x = .pointer (some p)) (h:GV K ks Tryz.prog nt ops bs bars Q r a ((d,v) :: ov) w):GV K ks Tryz.prog nt ops bs bars Q (i :: r) a ov w:=
 GV.read _ ho hg rfl hb hd (fun w' hb'=>by
  rcases hb' with hb'|⟨q,_⟩
  ·have h1:=hL p v w' ((hb'.cell (World.block_lt_of_cell? _ _ hc)).trans hc);simp [execOp,hx,h1]
  ·rw [hks]at q;cases q) h
end
end Go.Eng
namespace Go.Num
open Go.Eng Go.Shelf Go.RowKit Go.Sort Go.Proofs Go.Proofs.YtepakfjilnpodaaGreatDoor
def sq1:Code→Code
 | .seq a _=>a
 | c=>c
def sq2:Code→Code
 | .seq _ b=>b
 | c=>c
def cX:Code→Code
 | .cond _ a _=>a
 | c=>c
noncomputable def b14:Code:=Tryz.f14.body.getD .skip
theorem zqP:Tryz.f14.body=some (.seq (sq1 b14) (.seq (.seq (sq1 (sq1 (sq2 b14))) (.cond (.tmp 41) (cX (sq2 (sq1 (sq2 b14)))) .skip)) (sq2 (sq2 b14)))):=by kernel_rfl
def zfx:Code→List Oper
 | .region _ l _=>l.toList
 | _ => []
theorem zr9:sq1 (sq1 (sq2 b14)) = .region 1 (zfx (sq1 (sq1 (sq2 b14)))).toArray true:=by kernel_rfl
theorem zlc{nt:Nat}{ov:List (Tmp × Value)}(h:(ov.all fun p=>Nat.blt p.1 nt)=true):zde nt ov:=fun p hp=>Nat.le_of_ble_eq_true (List.all_eq_true.1 h p hp)
theorem zgh(a:CAct):∀ov,(zaH a ov).defers=a.defers
 | []=>rfl
 | (_,_) :: r=>zgh a r
theorem zlz(b j:Nat):(⟨b,0,none⟩:Addr).add j=⟨b,j,none⟩:=by unfold Addr.add;split <;> simp_all
theorem zg3:zad ((1:Int):Rat) 100000:=(zbW (z:=1) (L:=1) (by decide) (by decide)).mono (by decide)
theorem lm27:zdO Tryz.prog 27 3:=zhY (by kernel_rfl) (by kernel_rfl)
theorem l3i:zfX Tryz.prog 3:=zfg (by kernel_rfl)
theorem zmN{w:World}{env:List (Leaf rs1)}{p:Rat}{k n:Int}(he0:env[0]? = some (zap p))(he1:env[1]? = some (zg4 k))(he2:env[2]? = some (zg4 n))(htab:zbh w)(hshort:zcv p=true)(hsgn:sgnR p=1)(hcmp:sgnR (p-(1:Int)) = -1)(hn1:1≤n)(hn2:n≤30)(hk1:0≤k)(hk2:k≤n)(hpL:zad p 100000)
  (c:CAct) (w1:World) (hw1:Below w.heap.size w w1) (hd:c.defers = []) (hsz:c.tmps.size=54) (hm:zmC (Gs env) w1 [.cell (tg 0),.one (tg 1),.one (tg 2)] ([3,4,5].map fun j=>c.tmps.getD j undef)) :
  (Code.seq (sq1 (sq1 (sq2 b14))) (.cond (.tmp 41) (cX (sq2 (sq1 (sq2 b14)))) .skip)).wpIn Fence.wide 0 Tryz.prog (fun e c' w2=>e = .normal∧c'.defers = []∧c'.tmps.size=c.tmps.size∧(∀j,j<9→c'.tmps.getD j undef=c.tmps.getD j undef)∧Below w1.heap.size w1 w2) c w1:=by
 obtain⟨v3,r,e,hm3,v4,r2,e2,hm4,v5,r3,e3,hm5,e4⟩:=hm;have e4:r3 = []:=e4;subst e4;subst e3;subst e2;simp only [List.map_cons,List.map_nil,List.cons.injEq,and_true]at e;obtain⟨h3,h4,h5⟩:=e;obtain⟨b3,rfl,hl3,m,x0,x1,x2,_,c0,c1,c2,hp,_⟩:=hm3;obtain⟨b4,u4,rfl,hl4,hc4,hi4⟩:=hm4;obtain⟨b5,u5,rfl,hl5,hc5,hi5⟩:=hm5;have hr:zaj w1 (.agg #[x0,x1,x2]) p:=zcq he0 hp;have hi4:Leaf.at env (.leaf 1) u4 w1:=hi4;have hi5:Leaf.at env (.leaf 2) u5 w1:=hi5;unfold Leaf.at at hi4 hi5;simp only [he1]at hi4;simp only [he2]at hi5;have hi4:u4 = .int .i64 k:=hi4;have hi5:u5 = .int .i64 n:=hi5;subst hi4;subst hi5;have HTab:=zHi htab;have hc3:∀w',Below w1.heap.size w1 w'→∀(j:Nat) (v:Value),[x0,x1,x2][j]? = some v→w'.cell? ((⟨b3,0,none⟩:Addr).add j)=some v:=by
  intro w' hb j v hj;rw [zlz,hb.cell (p:=⟨b3,j,none⟩) hl3];match j,hj with
  | 0,hj=>rw [←hj];exact c0
  | 1,hj=>rw [←hj];exact c1
  | 2,hj=>rw [←hj];exact c2
  | j+3,hj=>simp at hj
 refine wpIn_seq (wpIn_mono (F:=Fence.wide) (Q:=fun e c' w2=>e = .normal∧c'.defers = []∧c'.tmps.size=c.tmps.size∧(∀j,j<9→c'.tmps.getD j undef=c.tmps.getD j undef)∧c'.tmps.getD 41 undef = .bool false∧Below w1.heap.size w1 w2) ?reg ?rest)
 case rest=>
  rintro e c2 w2 ⟨rfl,q1,q2,q3,q4,q5⟩;refine wpIn_cond (t:=false) q4 ?_;simp only [Bool.false_eq_true,if_false];exact wpIn_skip ⟨rfl,q1,q2,q3,q5⟩
 rw [zr9];have hB:Below w1.heap.size w1 w1.drew:=zab w1;refine ziK (ro:=none) [1,5,10,11] (List.range 31) [0,1,3,7,15,31,63,127,255,511,511,2047,4095,8191,16383,32767,65535,131071,262143,524287,1048575,2097151,4194303,8388607,16777215,33554431,67108863,134217727,134217727,536870911,1073741823] zak rfl 54 hsz (by kernel_rfl) (by kernel_rfl) ?_;generalize w1.drew=wd at hB ⊢
 refine GV.ldn (p:=⟨b3,0,none⟩) [x0,x1,x2] lm27 (hc3 _ hB) rfl rfl trivial rfl rfl rfl (by decide) h3 ?_;refine GV.call (R:=fun v _=>v = .bool true) [.agg #[x0,x1,x2]] Tryz.func62 rfl zac rfl trivial rfl rfl rfl rfl ((zbo _ _ p (hr.below hB) hpL ((HTab.out.below hw1).below hB)).mono ?c1) ?_
 case c1=>
  rintro e w' ⟨rfl,hb⟩;exact⟨_,rfl,by rw [hshort],hb⟩
 rintro v1 w2 rfl hB2;replace hB:=hB.trans (hB2.mono hB.size);clear hB2;refine GV.not (b:=true) rfl trivial rfl rfl rfl ?_;refine GV.mv (v:=.bool false) rfl trivial rfl rfl rfl ?_;refine GV.ldn (p:=⟨b3,0,none⟩) [x0,x1,x2] lm27 (hc3 _ hB) rfl rfl ⟨_,_,rfl,rfl,rfl⟩ rfl rfl rfl (by decide) h3 ?_;refine GV.call (R:=fun v _=>v = .int .i64 1) [.agg #[x0,x1,x2]] Tryz.func25 rfl zac rfl ⟨_,_,rfl,rfl,rfl⟩ rfl rfl rfl rfl ((zaT _ _ p (hr.below hB)).mono ?c2) ?_
 case c2=>
  rintro e w' ⟨rfl,hb⟩;exact⟨_,rfl,by rw [hsgn],hb⟩
 rintro v2 w3 rfl hB2;replace hB:=hB.trans (hB2.mono hB.size);clear hB2;refine GV.eql (p:=1) (q:=0) (b:=false) rfl rfl ⟨_,_,rfl,rfl,rfl⟩ rfl rfl rfl rfl ?_;refine GV.pick (b:=false) (v:=.bool false) rfl rfl rfl trivial rfl rfl ?_;refine GV.mv (v:=.bool false) rfl trivial rfl rfl rfl ?_;refine GV.ldn (p:=⟨b3,0,none⟩) [x0,x1,x2] lm27 (hc3 _ hB) rfl rfl ⟨_,_,rfl,rfl,rfl⟩ rfl rfl rfl (by decide) h3 ?_;refine GV.call (R:=fun v w'=>zaj w' v (1:Int)) [.int .i64 1] Tryz.func16 rfl zac rfl ⟨_,_,rfl,rfl,rfl⟩ rfl rfl rfl rfl ((zbm _ 1 (by decide) (by decide)).mono ?c3) ?_
 case c3=>
  rintro e w' ⟨v',rfl,hr',hb⟩;exact⟨_,rfl,hr',hb⟩
 rintro v3 w4 hr3 hB2;replace hB:=hB.trans (hB2.mono hB.size);clear hB2;refine GV.call (R:=fun v _=>v = .int .i64 (-1)) [.agg #[x0,x1,x2],v3] Tryz.func15 rfl zac rfl ⟨_,_,rfl,rfl,rfl⟩ rfl rfl rfl rfl ((zbL _ _ _ p (1:Int) 100000 (hr.below hB) hr3 hpL zg3 (by decide)).mono ?c4) ?_
 case c4=>
  rintro e w' ⟨rfl,hb⟩;exact⟨_,rfl,by rw [hcmp],hb⟩
 rintro v4 w5 rfl hB2;replace hB:=hB.trans (hB2.mono hB.size);clear hB2 hr3;refine GV.geq (p:=-1) (q:=0) (b:=false) rfl rfl ⟨_,_,rfl,rfl,rfl⟩ rfl rfl rfl rfl ?_;refine GV.pick (b:=false) (v:=.bool false) rfl rfl rfl trivial rfl rfl ?_;refine GV.mv (v:=.bool false) rfl trivial rfl rfl rfl ?_;refine GV.ld1 (p:=⟨b5,0,none⟩) (v:=.int .i64 n) l3i ((hB.cell (p:=⟨b5,0,none⟩) hl5).trans hc5) rfl rfl ⟨_,_,rfl,rfl,rfl⟩ rfl rfl h5 ?_;refine GV.lss (p:=n) (q:=1) (b:=false) (decide_eq_false (by omega)) rfl ⟨_,_,rfl,rfl,rfl⟩ rfl rfl rfl rfl ?_;refine GV.pick (b:=false) (v:=.bool false) rfl rfl rfl trivial rfl rfl ?_;refine GV.mv (v:=.bool false) rfl trivial rfl rfl rfl ?_;refine GV.ld1 (p:=⟨b5,0,none⟩) (v:=.int .i64 n) l3i ((hB.cell (p:=⟨b5,0,none⟩) hl5).trans hc5) rfl rfl ⟨_,_,rfl,rfl,rfl⟩ rfl rfl h5 ?_;refine GV.gtr (p:=n) (q:=30) (b:=false) (decide_eq_false (by omega)) rfl ⟨_,_,rfl,rfl,rfl⟩ rfl rfl rfl rfl ?_;refine GV.pick (b:=false) (v:=.bool false) rfl rfl rfl trivial rfl rfl ?_;refine GV.mv (v:=.bool false) rfl trivial rfl rfl rfl ?_;refine GV.ld1 (p:=⟨b4,0,none⟩) (v:=.int .i64 k) l3i ((hB.cell (p:=⟨b4,0,none⟩) hl4).trans hc4) rfl rfl ⟨_,_,rfl,rfl,rfl⟩ rfl rfl h4 ?_;refine GV.lss (p:=k) (q:=0) (b:=false) (decide_eq_false (by omega)) rfl ⟨_,_,rfl,rfl,rfl⟩ rfl rfl rfl rfl ?_;refine GV.pick (b:=false) (v:=.bool false) rfl rfl rfl trivial rfl rfl ?_;refine GV.mv (v:=.bool false) rfl trivial rfl rfl rfl ?_;refine GV.ld1 (p:=⟨b4,0,none⟩) (v:=.int .i64 k) l3i ((hB.cell (p:=⟨b4,0,none⟩) hl4).trans hc4) rfl rfl ⟨_,_,rfl,rfl,rfl⟩ rfl rfl h4 ?_;refine GV.ld1 (p:=⟨b5,0,none⟩) (v:=.int .i64 n) l3i ((hB.cell (p:=⟨b5,0,none⟩) hl5).trans hc5) rfl rfl ⟨_,_,rfl,rfl,rfl⟩ rfl rfl h5 ?_;refine GV.gtr (p:=k) (q:=n) (b:=false) (decide_eq_false (by omega)) rfl ⟨_,_,rfl,rfl,rfl⟩ rfl rfl rfl rfl ?_;refine GV.pick (b:=false) (v:=.bool false) rfl rfl rfl trivial rfl rfl ?_;refine GV.done ?_;refine⟨rfl,?_,?_,?_,?_,?_⟩
 ·exact(zgh _ _).trans hd
 ·exact zfD _ _
 ·intro j hj;refine(zds _ _ (hsz ▸ zlc rfl) j).trans ?_;match j,hj with
  | 0,_|1,_|2,_|3,_|4,_|5,_|6,_|7,_|8,_=>rfl
 ·exact(zds _ _ (hsz ▸ zlc rfl) 41).trans rfl
 ·exact hB
theorem zh4{q:Rat}(h:zad q 2000):zbR q=true:=by
 unfold zbR zdN;have h1:=zem (k:=2000) (by decide) h.1;have h2:=zem (k:=2000) (by decide) h.2;rw [Bool.and_eq_true];refine⟨decide_eq_true (by omega),decide_eq_true ?_⟩;split
 ·have:=zc3 (show 0<1000000000 by decide);omega
 ·omega
theorem zaP:zad (1:Rat) 1:=zbW (z:=1) (L:=1) (by decide) (by decide)
theorem zej{r:Rat}{L:Nat}(h:zad r L):∀n,zad (pw r n) (1+n*L)
 | 0=>by rw [Nat.zero_mul];exact zaP
 | n+1=>by
  have:=zbF (zej h n) h;rw [Nat.add_mul,Nat.one_mul,←Nat.add_assoc];exact this
theorem zmH(x y:Rat):sumL [x,y]=x+y:=by
 show 0+x+y=x+y
 rw [Rat.zero_add]
theorem zkT(x y:Rat):zeC [x,y]=x*y:=by
 show 1*x*y=x*y
 rw [Rat.one_mul]
theorem zpR:zad (0:Rat) 1:=zcd (by decide)
section
variable {w0:World} {env:List (Leaf rs1)} {r:List zgu} {rt:List ziI}
theorem zcL{i j k:Nat}{x y z:Rat}{L:Nat}(hi:env[i]? = some (zap x))(hj:env[j]? = some (zap y))(hk:env[k]? = some (zap z))(hz:x+y=z)(hx:zad x L)(hy:zad y L)(hL:L≤900)(h0:0<L)(htab:zbh w0)(K:TM1 w0 env r) :
  TM1 w0 env ((65,[.row (A2 (tg i) (tg j))],A1 (tg k)) :: r):=by
 have h2:∀m,zad (sumL ([x,y].take m)) (L+L+1):=by
  intro m;match m with
  | 0=>exact zpR.mono (by omega)
  | 1=>exact(by show zad (0+x) _;rw [Rat.zero_add];exact hx.mono (by omega))
  | m+2=>
   have e:[x,y].take (m+2) = [x,y]:=by simp
   rw [e,zmH];exact zax hx hy
 refine zog (l:=[x,y]) (L:=L+L+1) ⟨i,x,[y],rfl,rfl,hi,j,y,[],rfl,rfl,hj,rfl⟩ (by simp) (by rw [zmH,hz];exact hk) ?_ h2 (fun m=>zh4 ((h2 m).mono (by omega))) (by omega) htab K;intro q hq;simp only [List.mem_cons,List.not_mem_nil,or_false]at hq;rcases hq with rfl|rfl
 ·exact hx.mono (by omega)
 ·exact hy.mono (by omega)
theorem zhw{i j k:Nat}{x y z:Rat}{L:Nat}(hi:env[i]? = some (zap x))(hj:env[j]? = some (zap y))(hk:env[k]? = some (zap z))(hz:x*y=z)(hx:zad x L)(hy:zad y L)(hL:L≤900)(h0:0<L)(htab:zbh w0)(K:TM1 w0 env r) :
  TM1 w0 env ((68,[.row (A2 (tg i) (tg j))],A1 (tg k)) :: r):=by
 have h2:∀m,zad (zeC ([x,y].take m)) (L+L+1):=by
  intro m;match m with
  | 0=>exact zaP.mono (by omega)
  | 1=>exact(by show zad (1*x) _;rw [Rat.one_mul];exact hx.mono (by omega))
  | m+2=>
   have e:[x,y].take (m+2) = [x,y]:=by simp
   rw [e,zkT];exact(zbF hx hy).mono (by omega)
 refine zi1 (l:=[x,y]) (L:=L+L+1) ⟨i,x,[y],rfl,rfl,hi,j,y,[],rfl,rfl,hj,rfl⟩ (by simp) (by rw [zkT,hz];exact hk) ?_ h2 (fun m=>zh4 ((h2 m).mono (by omega))) (by omega) htab K;intro q hq;simp only [List.mem_cons,List.not_mem_nil,or_false]at hq;rcases hq with rfl|rfl
 ·exact hx.mono (by omega)
 ·exact hy.mono (by omega)
theorem zkC{i j k:Nat}{x z:Rat}{n L:Nat}(hi:env[i]? = some (zg4 (n:Int)))(hj:env[j]? = some (zap x))(hk:env[k]? = some (zap z))(hz:pw x n=z)(hn:n≤30)(hx:zad x L)(hL:L≤60)(htab:zbh w0)(K:TM1 w0 env r) :
  TM1 w0 env ((69,[.pc (tg i),.cell (tg j)],A1 (tg k)) :: r):=by
 refine zqU ⟨_,Tryz.func69,rfl⟩ (fun w v u hw hv hu => ?_) K;obtain⟨b,rfl,hb,m,x0,x1,x2,_,c0,c1,c2,hp,_⟩:=hu;have hv:Leaf.at env (.leaf i) v w:=hv;unfold Leaf.at at hv;simp only [hi]at hv;have hv:v = .int .i64 (n:Int):=hv;subst hv;have hle:∀m,m≤n→zad (pw x m) 2000:=fun m hm=>(zej hx m).mono (by
  have:m*L≤30*60:=Nat.mul_le_mul (by omega) hL;omega)
 refine(zl1 w b x n 2000 c0 c1 c2 (zcq hj hp) hn (hx.mono (by omega)) hle (fun m hm=>zh4 (hle m hm)) (by decide) (htab.below hw)).mono ?_;rintro e w' ⟨v',rfl,hr,hb⟩;rw [hz]at hr;exact⟨_,rfl,zdj hk hr,hb⟩
theorem zeH{i k:Nat}{x z:Rat}(hi:env[i]? = some (zap x))(hk:env[k]? = some (zap z))(hz : -x=z)(K:TI1 w0 env rt):TI1 w0 env ((66,A1 (tg i),A1 (tg k)) :: rt):=by
 refine zed ⟨_,Tryz.func66,rfl⟩ (fun w v hw hv => ?_) K;refine(zhV w v x (zcq hi hv)).mono ?_;rintro e w' ⟨v',rfl,hr,hb⟩;rw [hz]at hr;exact⟨_,rfl,zdj hk hr,hb⟩
theorem zlJ{z:Int}{k:Nat}{x:Rat}(hk:env[k]? = some (zap x))(hz:(z:Rat)=x)(h1 : -9223372036854775808≤z)(h2:z≤9223372036854775807)(K:TI1 w0 env rt):TI1 w0 env ((16,A1 (vi z),A1 (tg k)) :: rt):=by
 refine zed ⟨_,Tryz.func16,rfl⟩ (fun w v hw hv => ?_) K;have hv:some (Value.int .i64 z)=some v:=hv
 cases hv
 refine(zbm w z h1 h2).mono ?_;rintro e w' ⟨v',rfl,hr,hb⟩;rw [hz]at hr;exact⟨_,rfl,zdj hk hr,hb⟩
theorem zhg{z:Int}{i k:Nat}{x:Rat}(hi:env[i]? = some (zg4 z))(hk:env[k]? = some (zap x))(hz:(z:Rat)=x)(h1 : -9223372036854775808≤z)(h2:z≤9223372036854775807)(K:TI1 w0 env rt):TI1 w0 env ((16,A1 (tg i),A1 (tg k)) :: rt):=by
 refine zed ⟨_,Tryz.func16,rfl⟩ (fun w v hw hv => ?_) K;have hv:Leaf.at env (.leaf i) v w:=hv;unfold Leaf.at at hv;simp only [hi]at hv;have hv:v = .int .i64 z:=hv;subst hv;refine(zbm w z h1 h2).mono ?_;rintro e w' ⟨v',rfl,hr,hb⟩;rw [hz]at hr;exact⟨_,rfl,zdj hk hr,hb⟩
theorem zeG{i j k:Nat}{x y z:Rat}{L:Nat}(hi:env[i]? = some (zap x))(hj:env[j]? = some (zap y))(hk:env[k]? = some (zap z))(hz:x/y=z)(hx:zad x L)(hy:zad y L)(hy0:y≠0)(hL:L≤900)(htab:zbh w0)(K:TI1 w0 env rt):TI1 w0 env ((67,A2 (tg i) (tg j),A1 (tg k)) :: rt):=by
 refine zlK ⟨_,Tryz.func67,rfl⟩ (fun w v u hw hv hu => ?_) K;have hle:=zbl hx hy;have hn:y.num≠0:=fun e=>hy0 (Rat.num_eq_zero.1 e)
 refine(zlF w v u x y L (zcq hi hv) (zcq hj hu) hx hy hn (by omega) (hle.mono (by omega)) (zh4 (hle.mono (by omega))) (htab.below hw)).mono ?_;rintro e w' ⟨v',rfl,hr,hb⟩;rw [hz]at hr;exact⟨_,rfl,zdj hk hr,hb⟩
theorem zkB{i j:Nat}{x y:Rat}{s:Int}{L:Nat}(hi:env[i]? = some (zap x))(hj:env[j]? = some (zap y))(hs:sgnR (x-y)=s)(hx:zad x L)(hy:zad y L)(hL:L≤900)(K:TI1 w0 env rt):TI1 w0 env ((15,A2 (tg i) (tg j),A1 (vi s)) :: rt):=by
 refine zlK ⟨_,Tryz.func15,rfl⟩ (fun w v u hw hv hu => ?_) K;refine(zbL w v u x y L (zcq hi hv) (zcq hj hu) hx hy (by omega)).mono ?_;rintro e w' ⟨rfl,hb⟩;rw [hs];exact⟨_,rfl,rfl,hb⟩
end
def sI:Sh:=.one
def zjb:List Sh:=[shR,sI,sI,shR,shR,shR,shR,shR,shR,shR,shR,shR,shR,shR,shR,shR,shR,shR,shR,shR,shR]
def zjU(p q N A r pa pn c g:Rat)(k n:Int):List (Leaf rs1):=
 [zap p,zg4 k,zg4 n,zap 1,zap (-p),zap q,zap N,zap A,zap r,zap pa,zap (-1),zap (pa-1),zap pn,zap (pn-1),zap c,zap (N*c),zap (-A),zap (N*c-A),zap (-q),zap (p-q),zap g]
def zrD(s:Int):List ziI:=[(16,A1 (vi 1),A1 (tg 3)),(16,A1 (vi (-1)),A1 (tg 10)),(16,A1 (tg 2),A1 (tg 6)),(16,A1 (tg 1),A1 (tg 7)),(66,A1 (tg 0),A1 (tg 4)),(66,A1 (tg 7),A1 (tg 16)),(66,A1 (tg 5),A1 (tg 18)),
 (67,A2 (tg 5) (tg 0),A1 (tg 8)),(15,A2 (tg 8) (tg 3),A1 (vi s)),(67,A2 (tg 11) (tg 13),A1 (tg 14)),(67,A2 (tg 17) (tg 19),A1 (tg 20))]
def zrE:List zgu:=[(65,[.row (A2 (tg 3) (tg 4))],A1 (tg 5)),(69,[.pc (tg 1),.cell (tg 8)],A1 (tg 9)),(69,[.pc (tg 2),.cell (tg 8)],A1 (tg 12)),(65,[.row (A2 (tg 9) (tg 10))],A1 (tg 11)),(65,[.row (A2 (tg 12) (tg 10))],A1 (tg 13)),
 (68,[.row (A2 (tg 6) (tg 14))],A1 (tg 15)),(65,[.row (A2 (tg 15) (tg 16))],A1 (tg 17)),(65,[.row (A2 (tg 0) (tg 18))],A1 (tg 19))]
def zp3(s:Int):FuncId→AV→AH→Option (AV × AH):=orO (zhQ (clsL zjb) (zgH zrE)) (zhR (clsL zjb) (zfv (zrD s)))
abbrev zmP:List AM:=[.cell (tg 0),.one (tg 1),.one (tg 2)]
theorem zoG:zje Tryz.prog (clsL zjb) (zp3 1) [133] rs1 3000 14 Tryz.f14 (sq1 b14) (sq2 (sq2 b14)) (A3 (tg 0) (tg 1) (tg 2)) 9 [3,4,5] zmP (A3 (tg 14) (tg 20) (vi 0))=true:=by kernel_rfl
theorem zoF:zje Tryz.prog (clsL zjb) (zp3 (-1)) [133] rs1 3000 14 Tryz.f14 (sq1 b14) (sq2 (sq2 b14)) (A3 (tg 0) (tg 1) (tg 2)) 9 [3,4,5] zmP (A3 (tg 14) (tg 20) (vi 0))=true:=by kernel_rfl
def zfh:List Sh:=[shR,sI,sI,shR,shR,shR,shR,shR,shR,shR,shR,shR,shR]
def zkg(p q N A r:Rat)(k n:Int):List (Leaf rs1):=
 [zap p,zg4 k,zg4 n,zap 1,zap (-p),zap q,zap N,zap A,zap r,zap (A/N),zap (-A),zap (N-A),zap (A*(N-A))]
def zrN:List ziI:=[(16,A1 (vi 1),A1 (tg 3)),(16,A1 (tg 2),A1 (tg 6)),(16,A1 (tg 1),A1 (tg 7)),(66,A1 (tg 0),A1 (tg 4)),(66,A1 (tg 7),A1 (tg 10)),
 (67,A2 (tg 5) (tg 0),A1 (tg 8)),(15,A2 (tg 8) (tg 3),A1 (vi 0)),(67,A2 (tg 7) (tg 6),A1 (tg 9))]
def zrP:List zgu:=[(65,[.row (A2 (tg 3) (tg 4))],A1 (tg 5)),(65,[.row (A2 (tg 6) (tg 10))],A1 (tg 11)),(68,[.row (A2 (tg 7) (tg 11))],A1 (tg 12))]
def zrO:FuncId→AV→AH→Option (AV × AH):=orO (zhQ (clsL zfh) (zgH zrP)) (zhR (clsL zfh) (zfv zrN))
theorem zqi:zje Tryz.prog (clsL zfh) zrO [133] rs1 3000 14 Tryz.f14 (sq1 b14) (sq2 (sq2 b14)) (A3 (tg 0) (tg 1) (tg 2)) 9 [3,4,5] zmP (A3 (tg 9) (tg 12) (vi 0))=true:=by kernel_rfl
theorem zjR{x:Rat}(h:0<x):sgnR x=1:=by
 have h1:0<x.num:=by
  have h2:=Rat.num_nonneg.2 (Rat.le_of_lt h);have h3:x.num≠0:=fun e=>by rw [Rat.num_eq_zero.1 e]at h;exact absurd h (by decide)
  omega
 unfold sgnR;rw [if_neg (by omega),if_neg (by omega)]
theorem zhF{x:Rat}(h:x<0):sgnR x = -1:=by
 have h1:¬0≤x.num:=fun e=>by
  have:=Rat.num_nonneg.1 e;exact absurd h (Rat.not_lt.2 this)
 unfold sgnR;rw [if_pos (by omega)]
theorem zcw{k:Nat}(h:k≤30) : -9223372036854775808≤(k:Int)∧(k:Int)≤9223372036854775807:=by omega
theorem zfe{k:Nat}(h:k≤30):zad (k:Rat) 1:=by
 have:=zbW (z:=(k:Int)) (L:=1) (by
  have:B^1=1000000000:=by decide
  omega) (by decide)
 rwa [Rat.intCast_natCast]at this
theorem znI(w:World)(v:Value)(p:Rat)(k n:Nat)(h:zaj w v p)(hp:zad p 1)(hshort:zcv p=true)(h0:0<p)(h1:p<1)(hn1:1≤n)(hn2:n≤30)(hk:k≤n)(htab:zbh w) :
  CallsIn Fence.wide 0 Tryz.prog 14 #[v,.int .i64 (k:Int),.int .i64 (n:Int)] w fun e w'=>∃a b,e = .returned (.tuple #[a,b,.int .i64 0])∧zaj w' a (zdA p k n)∧zaj w' b (zeB p k n)∧Below w.heap.size w w':=by
 have hpne:p≠0:=fun e=>by rw [e]at h0;exact absurd h0 (by decide)
 obtain⟨q,hq⟩:∃q,1-p=q:=⟨_,rfl⟩;obtain⟨r,hr⟩:∃r,q/p=r:=⟨_,rfl⟩;have hqL:zad q 3:=by
  have:=zax zaP (zat hp);rw [←Rat.sub_eq_add_neg,hq]at this;exact this
 have hrL:zad r 4:=by rw [←hr];exact zbl hqL hp
 have hmone:zad (-1:Rat) 1:=zat zaP;have hN:=zfe hn2;have hA:=zfe (k:=k) (by omega);have hn0:(n:Rat)≠0:=by
  intro e;have e:(n:Rat)=((0:Nat):Rat):=e;have:=Rat.natCast_inj.1 e;omega
 have hsgn:sgnR p=1:=zjR h0;have hcmp:sgnR (p-((1:Int):Rat)) = -1:=zhF (by
  have e:((1:Int):Rat)=1:=Rat.ext rfl rfl;rw [e];grind)
 have e1:((1:Int):Rat)=1:=Rat.ext rfl rfl;have em1:((-1:Int):Rat) = -1:=Rat.ext rfl rfl;have ek:((k:Int):Rat)=(k:Rat):=Rat.intCast_natCast k;have en:((n:Int):Rat)=(n:Rat):=Rat.intCast_natCast n;have hD:∀g ∈ [133],zdc Tryz.prog g:=by
  intro g hg;simp at hg
  rw [hg];exact zkI
 have hq1:(1:Rat) + -p=q:=by rw [←hq,Rat.sub_eq_add_neg]
 by_cases hr1:r=1
 ·have hc:zdA p k n=(k:Rat)/(n:Rat):=by unfold zdA;rw [hq,hr,if_pos hr1]
  have hg:zeB p k n=(k:Rat)*((n:Rat)-(k:Rat)):=by unfold zeB;rw [hq,hr,if_pos hr1]
  have hT:TI1 w (zkg p q n k r k n) zrN:=
   zlJ (k:=3) (x:=1) rfl e1 (by decide) (by decide) <| zhg (z:=n) (x:=n) rfl rfl en (zcw hn2).1 (zcw hn2).2 <| zhg (z:=k) (x:=k) rfl rfl ek (zcw (by omega)).1 (zcw (by omega)).2 <|
   zeH (x:=p) rfl rfl rfl <| zeH (x:=k) rfl rfl rfl <| zeG (x:=q) (y:=p) (L:=3) rfl rfl rfl hr hqL (hp.mono (by decide)) hpne (by decide) htab <|
   zkB (x:=r) (y:=1) (L:=4) rfl rfl (by rw [hr1,Rat.sub_self];rfl) hrL (zaP.mono (by decide)) (by decide) <| zeG (x:=k) (y:=n) (L:=1) rfl rfl rfl rfl hA hN hn0 (by decide) htab zdI
  have hM:TM1 w (zkg p q n k r k n) zrP:=
   zcL (x:=1) (y:=-p) (L:=1) rfl rfl rfl hq1 zaP (zat hp) (by decide) (by decide) htab <|
   zcL (x:=n) (y:=-k) (L:=1) rfl rfl rfl (by rw [Rat.sub_eq_add_neg]) hN (zat hA) (by decide) (by decide) htab <|
   zhw (x:=k) (y:=n-k) (L:=3) rfl rfl rfl rfl (hA.mono (by decide)) (by rw [Rat.sub_eq_add_neg];exact(zax hN (zat hA)).mono (by decide)) (by decide) (by decide) htab zhx
  have hO:zcW Tryz.prog w.heap.size w (Gs (zkg p q n k r k n)) zrO:=zo2 (zgE (zdz rfl) hM) (zd1 (zdz rfl) hT);refine(zjo zak zac (env:=zkg p q n k r k n) (S:=zfh) rfl hO hD Tryz.func14 zqP zqi (xs:=#[v,.int .i64 k,.int .i64 n]) (ps3 (zdj (k:=0) rfl h) rfl rfl)
   (fun c w1 hw hd hsz hm=>zmN (k:=k) (n:=n) rfl rfl rfl htab hshort hsgn hcmp (by omega) (by omega) (by omega) (by omega) (hp.mono (by decide)) c w1 hw hd hsz hm)).mono ?_
  rintro e w' ⟨x,rfl,hx,hB⟩;obtain⟨a,b,c,rfl,g1,g2,g3⟩:=un3 hx;have g3:some (Value.int .i64 0)=some c:=g3
  cases g3
  refine⟨a,b,rfl,?_,?_,hB⟩
  ·rw [hc];exact zcq (k:=9) rfl g1
  ·rw [hg];exact zcq (k:=12) rfl g2
 ·have hrpos:0<r:=by
   rw [←hr,Rat.div_def];exact Rat.mul_pos (by grind) (Rat.inv_pos.2 h0)
  obtain⟨pa,hpa⟩:∃x,pw r k=x:=⟨_,rfl⟩;obtain⟨pn,hpn⟩:∃x,pw r n=x:=⟨_,rfl⟩;obtain⟨c,hc⟩:∃x,(pa-1)/(pn-1)=x:=⟨_,rfl⟩;obtain⟨g,hg⟩:∃x,(n*c-k)/(p-q)=x:=⟨_,rfl⟩;have hC:zdA p k n=c:=by unfold zdA;rw [hq,hr,if_neg hr1,hpa,hpn,hc]
  have hG:zeB p k n=g:=by unfold zeB;rw [hC,hq,hr,if_neg hr1,hg]
  have hpaL:zad pa 121:=by rw [←hpa];exact(zej hrL k).mono (by omega)
  have hpnL:zad pn 121:=by rw [←hpn];exact(zej hrL n).mono (by omega)
  have hu:zad (pa-1) 123:=by rw [Rat.sub_eq_add_neg];exact(zax hpaL hmone).mono (by decide)
  have hv:zad (pn-1) 123:=by rw [Rat.sub_eq_add_neg];exact(zax hpnL hmone).mono (by decide)
  have hcL:zad c 246:=by rw [←hc];exact zbl hu hv
  have he1:zad (n*c) 247:=by have:=zbF hN hcL;exact this.mono (by decide)
  have he2:zad (n*c-k) 249:=by rw [Rat.sub_eq_add_neg];exact(zax he1 (zat hA)).mono (by decide)
  have he3:zad (p-q) 5:=by rw [Rat.sub_eq_add_neg];exact(zax hp (zat hqL)).mono (by decide)
  have hv0:pn-1≠0:=by
   have:=zp5 hrpos hr1 (n:=n) (by omega);rw [hpn]at this;grind
  have he30:p-q≠0:=by
   intro e;apply hr1
   rw [←hr];have:q=p:=by grind
   rw [this];grind
  have hM:TM1 w (zjU p q n k r pa pn c g k n) zrE:=
   zcL (x:=1) (y:=-p) (L:=1) rfl rfl rfl hq1 zaP (zat hp) (by decide) (by decide) htab <|
   zkC (x:=r) (n:=k) (L:=4) rfl rfl rfl hpa (by omega) hrL (by decide) htab <| zkC (x:=r) (n:=n) (L:=4) rfl rfl rfl hpn hn2 hrL (by decide) htab <|
   zcL (x:=pa) (y:=-1) (L:=121) rfl rfl rfl (by rw [Rat.sub_eq_add_neg]) hpaL (hmone.mono (by decide)) (by decide) (by decide) htab <|
   zcL (x:=pn) (y:=-1) (L:=121) rfl rfl rfl (by rw [Rat.sub_eq_add_neg]) hpnL (hmone.mono (by decide)) (by decide) (by decide) htab <|
   zhw (x:=n) (y:=c) (L:=246) rfl rfl rfl rfl (hN.mono (by decide)) hcL (by decide) (by decide) htab <|
   zcL (x:=n*c) (y:=-k) (L:=247) rfl rfl rfl (by rw [Rat.sub_eq_add_neg]) he1 ((zat hA).mono (by decide)) (by decide) (by decide) htab <|
   zcL (x:=p) (y:=-q) (L:=3) rfl rfl rfl (by rw [Rat.sub_eq_add_neg]) (hp.mono (by decide)) (zat hqL) (by decide) (by decide) htab zhx
  have hT:∀s,sgnR (r-1)=s→TI1 w (zjU p q n k r pa pn c g k n) (zrD s):=fun s hs=>
   zlJ (k:=3) (x:=1) rfl e1 (by decide) (by decide) <| zlJ (k:=10) (x:=-1) rfl em1 (by decide) (by decide) <| zhg (z:=n) (x:=n) rfl rfl en (zcw hn2).1 (zcw hn2).2 <| zhg (z:=k) (x:=k) rfl rfl ek (zcw (by omega)).1 (zcw (by omega)).2 <|
   zeH (x:=p) rfl rfl rfl <| zeH (x:=k) rfl rfl rfl <| zeH (x:=q) rfl rfl rfl <| zeG (x:=q) (y:=p) (L:=3) rfl rfl rfl hr hqL (hp.mono (by decide)) hpne (by decide) htab <|
   zkB (x:=r) (y:=1) (L:=4) rfl rfl hs hrL (zaP.mono (by decide)) (by decide) <| zeG (x:=pa-1) (y:=pn-1) (L:=123) rfl rfl rfl hc hu hv hv0 (by decide) htab <|
   zeG (x:=n*c-k) (y:=p-q) (L:=249) rfl rfl rfl hg he2 (he3.mono (by decide)) he30 (by decide) htab zdI
  have fin:∀s,sgnR (r-1)=s→zje Tryz.prog (clsL zjb) (zp3 s) [133] rs1 3000 14 Tryz.f14 (sq1 b14) (sq2 (sq2 b14)) (A3 (tg 0) (tg 1) (tg 2)) 9 [3,4,5] zmP (A3 (tg 14) (tg 20) (vi 0))=true →
    CallsIn Fence.wide 0 Tryz.prog 14 #[v,.int .i64 (k:Int),.int .i64 (n:Int)] w fun e w'=>∃a b,e = .returned (.tuple #[a,b,.int .i64 0])∧zaj w' a (zdA p k n)∧zaj w' b (zeB p k n)∧Below w.heap.size w w':=by
   intro s hs hrun;have hO:zcW Tryz.prog w.heap.size w (Gs (zjU p q n k r pa pn c g k n)) (zp3 s):=zo2 (zgE (zdz rfl) hM) (zd1 (zdz rfl) (hT s hs));refine(zjo zak zac (env:=zjU p q n k r pa pn c g k n) (S:=zjb) rfl hO hD Tryz.func14 zqP hrun (xs:=#[v,.int .i64 k,.int .i64 n]) (ps3 (zdj (k:=0) rfl h) rfl rfl)
    (fun c w1 hw hd hsz hm=>zmN (k:=k) (n:=n) rfl rfl rfl htab hshort hsgn hcmp (by omega) (by omega) (by omega) (by omega) (hp.mono (by decide)) c w1 hw hd hsz hm)).mono ?_
   rintro e w' ⟨x,rfl,hx,hB⟩;obtain⟨a,b,c',rfl,g1,g2,g3⟩:=un3 hx;have g3:some (Value.int .i64 0)=some c':=g3
   cases g3
   refine⟨a,b,rfl,?_,?_,hB⟩
   ·rw [hC];exact zcq (k:=14) rfl g1
   ·rw [hG];exact zcq (k:=20) rfl g2
  rcases Classical.em (1<r)with hlt|hge
  ·exact fin 1 (zjR (by grind)) zoG
  ·exact fin (-1) (zhF (by grind)) zoF
end Go.Num
namespace Go.Num
open Go.Eng Go.Proofs Go.Proofs.YtepakfjilnpodaaGreatDoor
end Go.Num
namespace Go.Num
open Go.Eng Go.Proofs Go.Proofs.YtepakfjilnpodaaGreatDoor
theorem zq1{p:Rat}{k n:Nat}(hp:zad p 1)(hn2:n≤30)(hk:k≤n):zad (zdA p k n) 300∧zad (zeB p k n) 300:=by
 have hqL:zad (1-p) 3:=by
  rw [Rat.sub_eq_add_neg];exact(zax zaP (zat hp)).mono (by decide)
 have hrL:zad ((1-p)/p) 4:=zbl hqL hp;have hmone:zad (-1:Rat) 1:=zat zaP;have hN:=zfe hn2;have hA:=zfe (k:=k) (by omega);have hpa:zad (pw ((1-p)/p) k) 121:=(zej hrL k).mono (by omega);have hpn:zad (pw ((1-p)/p) n) 121:=(zej hrL n).mono (by omega);have hc:zad (zdA p k n) 246:=by
  unfold zdA;split
  ·exact(zbl hA hN).mono (by decide)
  ·rw [Rat.sub_eq_add_neg,Rat.sub_eq_add_neg (pw _ n)];exact(zbl (zax hpa hmone) (zax hpn hmone)).mono (by decide)
 refine⟨hc.mono (by decide),?_⟩;unfold zeB;split
 ·rw [Rat.sub_eq_add_neg];exact(zbF hA (zax hN (zat hA))).mono (by decide)
 ·rw [Rat.sub_eq_add_neg,Rat.sub_eq_add_neg p];exact(zbl (zax (zbF hN hc) (zat hA)) (zax hp (zat hqL))).mono (by decide)
theorem zl0{k:Nat}(h:k≤2000):zad (k:Rat) 1:=by
 have:=zbW (z:=(k:Int)) (L:=1) (by
  have:B^1=1000000000:=by decide
  omega) (by decide)
 rwa [Rat.intCast_natCast]at this
theorem zrA{p c:Rat}(h0:0<p)(hp:zad p 1)(hc:c=0∨c=1){k:Nat}(hk:k≤40):zad (shA p k) 180∧zad (shB p c k) 200:=by
 have hqL:zad (1-p) 3:=by
  rw [Rat.sub_eq_add_neg];exact(zax zaP (zat hp)).mono (by omega)
 have hrL:zad ((1-p)/p) 4:=zbl hqL hp;have hmone:zad (-1:Rat) 1:=zat zaP;have hcL:zad c 1:=by
  rcases hc with rfl|rfl
  ·exact zcd (by decide)
  ·exact zaP
 have hkL:=zl0 (k:=k) (by omega);by_cases h:(1-p)/p=1
 ·have hp2:p=1/2:=by grind
  rw [(zhh hp2 k).1,(zjQ hp2 c k).1];refine⟨hkL.mono (by omega),?_⟩;rw [Rat.sub_eq_add_neg];exact(zbF (zat hcL) (zbF hkL (zax hkL hmone))).mono (by omega)
 ·have hA:zad (shA p k) 180:=by
   have e:=(zmL h0 h k).1;obtain⟨r,hr⟩:∃r,(1-p)/p=r:=⟨_,rfl⟩;rw [hr]at e hrL;rw [e,Rat.sub_eq_add_neg,Rat.sub_eq_add_neg];exact(zbl (zax ((zej hrL k).mono (show 1+k*4≤161 by omega)) hmone) (zax hrL hmone)).mono (by omega)
  refine⟨hA,?_⟩;rw [(zoE h0 h c k).1,Rat.sub_eq_add_neg (k:Rat),Rat.sub_eq_add_neg (1-p)];exact(zbF (zbl hcL (zax hqL (zat hp))) (zax hkL (zat hA))).mono (by omega)
theorem zrB{p:Rat}(h0:0<p)(h1:p<1){n:Nat}(hn:0<n):shA p n≠0:=by
 by_cases h:(1-p)/p=1
 ·have hp:p=1/2:=by grind
  rw [(zhh hp n).1];exact_mod_cast Nat.pos_iff_ne_zero.1 hn
 ·have hpp:0<(1-p)/p:=by
   rw [Rat.div_def];exact Rat.mul_pos (by grind) (Rat.inv_pos.2 h0)
  have hne:=zp5 hpp h hn;rw [(zmL h0 h n).1];have e1:pw ((1-p)/p) n-1≠0:=by grind
  have e2:(1-p)/p-1≠0:=by grind
  grind
theorem zoC{p c e:Rat}(h0:0<p)(hp:zad p 1)(hc:c=0∨c=1)(he:e=0∨e=1){m n:Nat}(hn:n≤30)(hm:m≤n) :
  zad p 2000∧zad (1-p) 2000∧zad c 2000∧zad e 2000∧(∀k,k≤n→zad (shA p k) 2000∧zad ((1-p)*shA p k) 2000∧zad (shA p (k+1)-(1-p)*shA p k) 2000) ∧
  (∀k,k≤n→zad (shB p c k) 2000∧zad ((1-p)*shB p c k) 2000∧zad (shB p c (k+1)-(1-p)*shB p c k) 2000∧zad (shB p c (k+1)-(1-p)*shB p c k-c) 2000) ∧
  zad (e-shB p c n) 2000∧zad ((e-shB p c n)/shA p n) 2000∧zad (shA p m*((e-shB p c n)/shA p n)) 2000:=by
 have hqL:zad (1-p) 3:=by
  rw [Rat.sub_eq_add_neg];exact(zax zaP (zat hp)).mono (by omega)
 have hcL:zad c 1:=by
  rcases hc with rfl|rfl
  ·exact zcd (by decide)
  ·exact zaP
 have heL:zad e 1:=by
  rcases he with rfl|rfl
  ·exact zcd (by decide)
  ·exact zaP
 have hA:=fun k (h:k≤40)=>(zrA h0 hp hc (k:=k) h).1
 have hB:=fun k (h:k≤40)=>(zrA h0 hp hc (k:=k) h).2
 have d1:zad (e-shB p c n) 202:=by
  rw [Rat.sub_eq_add_neg];exact(zax heL (zat (hB n (by omega)))).mono (by omega)
 have d2:zad ((e-shB p c n)/shA p n) 382:=(zbl d1 (hA n (by omega))).mono (by omega);refine⟨hp.mono (by omega),hqL.mono (by omega),hcL.mono (by omega),heL.mono (by omega),fun k hk => ?_,fun k hk => ?_,d1.mono (by omega),d2.mono (by omega),(zbF (hA m (by omega)) d2).mono (by omega)⟩
 ·have e1:=zbF hqL (hA k (by omega));refine⟨(hA k (by omega)).mono (by omega),e1.mono (by omega),?_⟩;rw [Rat.sub_eq_add_neg (shA p (k+1))];exact(zax (hA (k+1) (by omega)) (zat e1)).mono (by omega)
 ·have e1:=zbF hqL (hB k (by omega));have e2:zad (shB p c (k+1)-(1-p)*shB p c k) 404:=by
   rw [Rat.sub_eq_add_neg (shB p c (k+1))];exact(zax (hB (k+1) (by omega)) (zat e1)).mono (by omega)
  refine⟨(hB k (by omega)).mono (by omega),e1.mono (by omega),e2.mono (by omega),?_⟩;rw [Rat.sub_eq_add_neg _ c];exact(zax e2 (zat hcL)).mono (by omega)
theorem zkN(p:Rat)(n:Nat):zdA p 0 n=0∧zeB p 0 n=0:=by
 have e0:((0:Nat):Rat)=0:=rfl;have hc:zdA p 0 n=0:=by
  unfold zdA;split
  ·rw [e0,Rat.div_def,Rat.zero_mul]
  ·rw [show pw ((1-p)/p) 0=1 from rfl,Rat.sub_self,Rat.div_def,Rat.zero_mul]
 refine⟨hc,?_⟩;unfold zeB;split
 ·rw [e0,Rat.zero_mul]
 ·rw [hc,e0,Rat.mul_zero,Rat.sub_self,Rat.div_def,Rat.zero_mul]
theorem zmO{p:Rat}(h0:0<p)(h1:p<1){n:Nat}(hn:0<n):zdA p n n=1∧zeB p n n=0:=by
 have hn':(n:Rat)≠0:=by exact_mod_cast Nat.pos_iff_ne_zero.1 hn
 have hc:zdA p n n=1:=by
  unfold zdA;split
  ·grind
  ·rename_i h;have hpp:0<(1-p)/p:=by
    rw [Rat.div_def];exact Rat.mul_pos (by grind) (Rat.inv_pos.2 h0)
   have hne:=zp5 hpp h hn;have e1:pw ((1-p)/p) n-1≠0:=by grind
   grind
 refine⟨hc,?_⟩;unfold zeB;split
 ·rw [Rat.sub_self,Rat.mul_zero]
 ·rw [hc,Rat.mul_one,Rat.sub_self,Rat.div_def,Rat.zero_mul]
end Go.Num
namespace Go.Num
open Go.Eng Go.Shelf Go.RowKit Go.Sort Go.Proofs Go.Proofs.YtepakfjilnpodaaGreatDoor
theorem zdQ{fn:Func}{p q:Tmp}(h:fn.results=#[.cell p 62,.cell q 62]){tmps:Array Value}{w:World}{g g':Nat}{x0 x1 x2 x3 y0 y1 y2 y3:Value}(hp:tmps.getD p undef = .pointer (some ⟨g,0,none⟩))(hb:BoxL w g [x0,x1,x2,x3])(hq:tmps.getD q undef = .pointer (some ⟨g',0,none⟩))(hb':BoxL w g' [y0,y1,y2,y3]) :
  (results fn tmps).run Tryz.prog w = .ok (.tuple #[.agg #[x0,x1,x2,x3],.agg #[y0,y1,y2,y3]]) w:=by
 have h1:=lmQ ⟨g,0,none⟩ [x0,x1,x2,x3] w rfl hb.at9;have h2:=lmQ ⟨g',0,none⟩ [y0,y1,y2,y3] w rfl hb'.at9;simp only [Instr.loadAt,Instr.sureAddr,Sem.run_bind,Sem.run_pure,Result.andThen_ok]at h1 h2;unfold results;rw [h];have hp':tmps[p]?.getD undef = .pointer (some ⟨g,0,none⟩):=by rw [←hp,Array.getD_eq_getD_getElem?]
 have hq':tmps[q]?.getD undef = .pointer (some ⟨g',0,none⟩):=by rw [←hq,Array.getD_eq_getD_getElem?]
 simp [hp',hq',asAddr,Sem.run_bind,Result.andThen_ok,h1,h2]
theorem OV.ldnK{K:World→Prop}{ks:List Nat}{P:Program}{nt:Nat}{ops:Array Oper}{bs bars r:List Nat}{i:Nat}{a:CAct}{ov:List (Tmp × Value)}{w:World}{Q:CAct→World→Prop}{t:TypeId}{x:Operand}{p:Addr}{n:Nat}(cs:List Value){d:Tmp}{ty:TypeId}{ps:String}{af:Array Edge}(hL:zdO P t n)(hc:∀j v,cs[j]? = some v→w.cell? (p.add j)=some v)(hK:∀w',K w'→∀j v,cs[j]? = some v→w'.cell? (p.add j)=some v)(ho:ops[i]? = some {op:=.load t x,dst:=some d,type:=ty,pos:=ps,after:=af,guard:=none})(hb:bars.contains i=false)(hd:Nat.blt d nt=true)
  (hn:cs.length=n) (h0:0<n) (hx:Go.Eng.look a ov x = .pointer (some p)) (h:OV K ks P nt ops bs bars Q r a ((d,.agg cs.toArray) :: ov) w):OV K ks P nt ops bs bars Q (i :: r) a ov w:=
 OV.read _ ho rfl hb hd (fun w' hb'=>by
  have hp:p.block<w.heap.size:=by
   have:=World.block_lt_of_cell? _ _ (hc 0 _ (List.getElem?_eq_getElem (by omega)));rwa [zaf]at this
  have h1:=hL p cs w' hn (fun j v hj=>hb'.elim (fun hb'=>(hb'.cell (p:=p.add j) (by rw [zaf];exact hp)).trans (hc j v hj)) (fun q=>hK w' q.2 j v hj));simp [execOp,hx,h1]) h
theorem zeN:((1:Int):Rat)=1:=Rat.ext rfl rfl
theorem zlV(w:World)(vp:Value)(p:Rat)(k n:Nat)(hp:QAt w vp p)(h0:0<p)(h1:p<1)(hL:zad p 1)(hn0:1≤n)(hn:n≤30)(hk:k≤n) :
  CallsIn Fence.wide 0 Tryz.prog 38 #[vp,.int .i64 (k:Int),.int .i64 (n:Int)] w fun e' w'=>∃a b,e' = .returned (.tuple #[a,b])∧QAt w' a (zdA p k n)∧QAt w' b (zeB p k n)∧Below w.heap.size w w':=by
 obtain⟨s1,o1,k1,c1,o2,k2,c2,rfl⟩:=zdi hp;refine callsIn_of_wp Tryz.func38 rfl trivial ?_ rfl;simp only [Tryz.ntmps38,zsj,zsk,zsl,Nat.reduceAdd,Nat.reduceSub,zsm,zsn,zso,zsp,zsq,zsr];have HP0:=zHi hp;have H0:=zHi h0;have H1:=zHi h1;clear hp h0 h1;obtain⟨W3,hW3⟩:∃W,W=(((w.alloc (Obj.cells #[Value.bool s1,Value.slice o1 k1 c1,Value.bool false,Value.slice o2 k2 c2] 62)).alloc (Obj.cells #[Value.bool false,Value.slice none 0 0,Value.bool false,Value.slice none 0 0] 62)).alloc (Obj.cells #[Value.bool false,Value.slice none 0 0,Value.bool false,Value.slice none 0 0] 62)):=⟨_,rfl⟩;have hz3:W3.heap.size=w.heap.size+3:=by rw [hW3];simp
 have HW3:Hid (Below w.heap.size w W3):=zHi (by
  rw [hW3];exact((zaa w _).trans ((zaa _ _).mono (by simp))).trans ((zaa _ _).mono (by simp;omega)))
 have HX0:Hid (BoxL W3 w.heap.size [Value.bool s1,Value.slice o1 k1 c1,Value.bool false,Value.slice o2 k2 c2]):=zHi (by
  rw [hW3];have h:=zdK w [Value.bool s1,Value.slice o1 k1 c1,Value.bool false,Value.slice o2 k2 c2] 62;refine BoxL.below ?_ (zaa _ _);refine BoxL.below ?_ (zaa _ _);simpa using h)
 have HR6:Hid (W3.heap[w.heap.size+1]? = some zQ):=zHi (by
  have h:=heap_alloc_new (w.alloc (Obj.cells #[Value.bool s1,Value.slice o1 k1 c1,Value.bool false,Value.slice o2 k2 c2] 62)) zQ;have hb:=zaa ((w.alloc (Obj.cells #[Value.bool s1,Value.slice o1 k1 c1,Value.bool false,Value.slice o2 k2 c2] 62)).alloc zQ) zQ;rw [hW3];refine(hb.block _ (by simp)).trans ?_;simpa using h)
 have HR7:Hid (W3.heap[w.heap.size+1+1]? = some zQ):=zHi (by
  have h:=heap_alloc_new ((w.alloc (Obj.cells #[Value.bool s1,Value.slice o1 k1 c1,Value.bool false,Value.slice o2 k2 c2] 62)).alloc zQ) zQ;rw [hW3];simpa using h)
 have HP:=zHi (HP0.out.below HW3.out);by_cases hk0:k=0
 ·subst hk0;gi_wp2_with (gi_at_call 89;refine stop ?_)
  unfold Stop;rw [←hW3];refine(zbB _).mono ?_;rintro e4 w4 ⟨u4,rfl,hu4,hB4⟩;gi_wp2_with (gi_at_call 89;refine stop ?_)
  unfold Stop;refine(zbB _).mono ?_;rintro e5 w5 ⟨u5,rfl,hu5,hB5⟩;have hu4':=hu4.below hB5;obtain⟨s4,p4,l4,d4,p5,l5,d5,rfl⟩:=zdi hu4;obtain⟨s5,p6,l6,d6,p7,l7,d7,rfl⟩:=zdi hu5;have hb5:Below W3.heap.size W3 w5:=hB4.trans (hB5.mono hB4.size);have hs5:=hb5.size;have hr6:w5.heap[w.heap.size+1]? = some zQ:=by rw [hb5.block _ (by omega)];exact HR6.out
  have hr7:w5.heap[w.heap.size+1+1]? = some zQ:=by rw [hb5.block _ (by omega)];exact HR7.out
  obtain⟨w6,hrun6,hx6,hT6,hB6,hO6⟩:=zee (b:=w.heap.size+1) (base:=w.heap.size) (x0:=.bool s4) (x1:=.slice p4 l4 d4) (x2:=.bool false) (x3:=.slice p5 l5 d5) hr6 (by omega) (by simp [Value.oneCell']);have hr7':w6.heap[w.heap.size+1+1]? = some zQ:=by rw [hO6 _ (by omega) (by omega)];exact hr7
  obtain⟨w7,hrun7,hx7,hT7,hB7,hO7⟩:=zee (b:=w.heap.size+1+1) (base:=w.heap.size) (x0:=.bool s5) (x1:=.slice p6 l6 d6) (x2:=.bool false) (x3:=.slice p7 l7 d7) hr7' (by omega) (by simp [Value.oneCell']);have hx6':=hx6.eqB hT7.1 (hO7 _ hx6.1 (by omega));have hqa:=IQ.touch hT7 rfl _ [.bool s4,.slice p4 l4 d4,.bool false,.slice p5 l5 d5] (IQ.touch hT6 rfl _ _ hu4');have hqb:=IQ.touch hT7 rfl _ [.bool s5,.slice p6 l6 d6,.bool false,.slice p7 l7 d7] (IQ.touch hT6 rfl _ _ hu5);have hF:Below w.heap.size w w7:=((HW3.out.trans (hb5.mono (by omega))).trans hB6).trans hB7;gi_wp2_with (with_reducible refine zlN ?_)
  unfold Stop;refine zb0 _ rfl rfl hrun6 ?_;refine zb0 _ rfl rfl hrun7 ?_;clear hb5 hs5 hr6 hr7 hrun6 hT6 hO6 hr7' hrun7 hT7 hO7 hB6 hB7 hx6 hB4 hB5 hu4 hu4' hu5;gi_wp2;refine Go.bodyPost_ret (zdQ (g:=w.heap.size+1) (g':=w.heap.size+1+1) rfl rfl hx6' rfl hx7) rfl ⟨_,_,rfl,?_,?_,hF⟩
  ·rw [(zkN p n).1];exact hqa
  ·rw [(zkN p n).2];exact hqb
 ·by_cases hkn:k=n
  ·subst hkn;gi_wp2_with (gi_at_call 88;refine stop ?_)
   unfold Stop;rw [←hW3];refine(zd2 _).mono ?_;rintro e4 w4 ⟨u4,rfl,hu4,hB4⟩;rw [zeN]at hu4;gi_wp2_with (gi_at_call 89;refine stop ?_)
   unfold Stop;refine(zbB _).mono ?_;rintro e5 w5 ⟨u5,rfl,hu5,hB5⟩;have hu4':=hu4.below hB5;obtain⟨s4,p4,l4,d4,p5,l5,d5,rfl⟩:=zdi hu4;obtain⟨s5,p6,l6,d6,p7,l7,d7,rfl⟩:=zdi hu5;have hb5:Below W3.heap.size W3 w5:=hB4.trans (hB5.mono hB4.size);have hs5:=hb5.size;have hr6:w5.heap[w.heap.size+1]? = some zQ:=by rw [hb5.block _ (by omega)];exact HR6.out
   have hr7:w5.heap[w.heap.size+1+1]? = some zQ:=by rw [hb5.block _ (by omega)];exact HR7.out
   obtain⟨w6,hrun6,hx6,hT6,hB6,hO6⟩:=zee (b:=w.heap.size+1) (base:=w.heap.size) (x0:=.bool s4) (x1:=.slice p4 l4 d4) (x2:=.bool false) (x3:=.slice p5 l5 d5) hr6 (by omega) (by simp [Value.oneCell']);have hr7':w6.heap[w.heap.size+1+1]? = some zQ:=by rw [hO6 _ (by omega) (by omega)];exact hr7
   obtain⟨w7,hrun7,hx7,hT7,hB7,hO7⟩:=zee (b:=w.heap.size+1+1) (base:=w.heap.size) (x0:=.bool s5) (x1:=.slice p6 l6 d6) (x2:=.bool false) (x3:=.slice p7 l7 d7) hr7' (by omega) (by simp [Value.oneCell']);have hx6':=hx6.eqB hT7.1 (hO7 _ hx6.1 (by omega));have hqa:=IQ.touch hT7 rfl _ [.bool s4,.slice p4 l4 d4,.bool false,.slice p5 l5 d5] (IQ.touch hT6 rfl _ _ hu4');have hqb:=IQ.touch hT7 rfl _ [.bool s5,.slice p6 l6 d6,.bool false,.slice p7 l7 d7] (IQ.touch hT6 rfl _ _ hu5);have hF:Below w.heap.size w w7:=((HW3.out.trans (hb5.mono (by omega))).trans hB6).trans hB7;gi_wp2_with (with_reducible refine zlN ?_)
   unfold Stop;refine zb0 _ rfl rfl hrun6 ?_;refine zb0 _ rfl rfl hrun7 ?_;clear hb5 hs5 hr6 hr7 hrun6 hT6 hO6 hr7' hrun7 hT7 hO7 hB6 hB7 hx6 hB4 hB5 hu4 hu4' hu5;gi_wp2;refine Go.bodyPost_ret (zdQ (g:=w.heap.size+1) (g':=w.heap.size+1+1) rfl rfl hx6' rfl hx7) rfl ⟨_,_,rfl,?_,?_,hF⟩
   ·rw [(zmO H0.out H1.out hn0).1];exact hqa
   ·rw [(zmO H0.out H1.out hn0).2];exact hqb
  ·gi_wp2;rw [←hW3];have HK:=zHi hkn;obtain⟨za1,za2,za3,za4,za5,za6,za7,za8,za9⟩:=zoC (c:=0) (e:=1) H0.out hL (.inl rfl) (.inr rfl) hn hk;obtain⟨zb1,zb2,zb3,zb4,zb5,zb6,zb7,zb8,zb9⟩:=zoC (c:=1) (e:=0) H0.out hL (.inr rfl) (.inl rfl) hn hk;have hne:=zrB H0.out H1.out (n:=n) (by omega);have hbr:Below W3.heap.size W3 W3.drew:=zab W3;refine zcy (ro:=none) [0,2] [1,0,2] [0,0,3,0,15] 3 4 8 zQ zak rfl 39 rfl (by kernel_rfl) (by kernel_rfl) rfl znr rfl ?_;refine OU.ldn _ lmQ (HX0.out.below hbr).at9 rfl rfl rfl rfl (by decide) rfl ?_;refine OU.call [] Tryz.func88 rfl zac rfl rfl rfl rfl rfl (fun w1 hb1=>zd2 _) fun v1 w1' h1 hB1 => ?_
   rw [zeN]at h1;have hP1:=(HP.out.below hbr).below hB1;refine OU.call [v1,_] Tryz.func87 rfl zac rfl rfl rfl rfl rfl (fun w1 hb1=>zc4 _ _ _ 1 p (h1.below hb1) (hP1.below hb1) (zad.mono zaP (by decide)) (zad.mono hL (by decide))) fun v2 w2' h2 hB2 => ?_
   obtain⟨s2,p1,l1,d1,p2,l2,d2,rfl⟩:=zdi h2;refine OU.boxQ rfl rfl rfl (by simp [Value.oneCell']) fun g8 w3' w4 hg8 hb3 hbx hT4 hB4 => ?_
   have hBW:Below W3.heap.size W3 w4:=(((hbr.trans (hB1.mono hbr.size)).trans (hB2.mono (Nat.le_trans hbr.size hB1.size))).trans (hb3.mono (Nat.le_trans (Nat.le_trans hbr.size hB1.size) hB2.size))).trans hB4;have HV:=zHi (show QAt w4 (.agg #[.bool s2,.slice p1 l1 d1,.bool false,.slice p2 l2 d2]) (1-p)from IQ.touch hT4 rfl _ [.bool s2,.slice p1 l1 d1,.bool false,.slice p2 l2 d2] (h2.below hb3));have HX8:=zHi hbx;have HBW:=zHi hBW;simp only [zaH,Go.Act.put,zss,zst,zsu];clear h1 h2 hP1 hB1 hB2 hb3 hbx hT4 hB4 hBW hbr;gi_wp2;have hbr:Below w4.heap.size w4 w4.drew:=zab w4;have hbq:=HBW.out.trans (hbr.mono HBW.out.size);refine zcy (ro:=none) [4,5,6] [0,1,2,3,4,5,6] [0,0,0,0,0,16,63,0,255] 7 8 9 zQ zak rfl 39 rfl (by kernel_rfl) (by kernel_rfl) rfl znr rfl ?_;refine OU.ldn _ lmQ (HX0.out.below hbq).at9 rfl rfl rfl rfl (by decide) rfl ?_;refine OU.ldn _ lmQ (HX8.out.below hbr).at9 rfl rfl rfl rfl (by decide) rfl ?_;refine OU.mv (v:=.int .i64 (k:Int)) rfl rfl rfl rfl ?_;refine OU.mv (v:=.int .i64 (n:Int)) rfl rfl rfl rfl ?_;refine OU.call [] Tryz.func89 rfl zac rfl rfl rfl rfl rfl (fun w1 hb1=>zbB _) fun v1 w1' h1 hB1 => ?_
   refine OU.call [] Tryz.func88 rfl zac rfl rfl rfl rfl rfl (fun w1 hb1=>zd2 _) fun v2 w2' h2 hB2 => ?_
   rw [zeN]at h2;have hc2:=(hbr.trans (hB1.mono hbr.size)).trans (hB2.mono (Nat.le_trans hbr.size hB1.size));have hP2:=HP.out.below (HBW.out.trans (hc2.mono HBW.out.size));have hQ2:=HV.out.below hc2;have h1':=h1.below hB2;refine OU.call [_,_,.int .i64 (k:Int),.int .i64 (n:Int),v1,v2] Tryz.func101 rfl zac rfl rfl rfl rfl rfl (fun w1 hb1=>zi9 w1 _ _ _ _ p 0 1 k n 2000 hk (by omega) (by omega) H0.out (hP2.below hb1) (hQ2.below hb1) (h1'.below hb1) (h2.below hb1) (by decide) za1 za2 za3 za5 za6 za4 za7 za8 za9 hne) fun v3 w3' h3 hB3 => ?_
   rw [(zoD H0.out H1.out (by omega)).1]at h3;obtain⟨s3,p3,l3,d3,p4,l4,d4,rfl⟩:=zdi h3;refine OU.boxQ rfl rfl rfl (by simp [Value.oneCell']) fun g9 w5' w5 hg9 hb3 hbx hT4 hB4 => ?_
   have hBW:Below w4.heap.size w4 w5:=((hc2.trans (hB3.mono hc2.size)).trans (hb3.mono (Nat.le_trans hc2.size hB3.size))).trans hB4;have HC:=zHi (show QAt w5 (.agg #[.bool s3,.slice p3 l3 d3,.bool false,.slice p4 l4 d4]) (zdA p k n)from IQ.touch hT4 rfl _ [.bool s3,.slice p3 l3 d3,.bool false,.slice p4 l4 d4] (h3.below hb3));have HX9:=zHi hbx;replace HX8:=zHi (HX8.out.below hBW);replace HV:=zHi (HV.out.below hBW);replace HBW:=zHi (HBW.out.trans (hBW.mono HBW.out.size));simp only [zaH,Go.Act.put,zss,zst,zsu];clear h1 h2 h3 h1' hP2 hQ2 hc2 hB1 hB2 hB3 hb3 hbx hT4 hB4 hBW hbr hbq za1 za2 za3 za4 za5 za6 za7 za8 za9;gi_wp2;have hbr:Below w5.heap.size w5 w5.drew:=zab w5;have hbq:=HBW.out.trans (hbr.mono HBW.out.size);refine zcy (ro:=none) [4,5,6] [0,1,2,3,4,5,6] [0,0,0,0,0,16,63,0,255] 7 8 10 zQ zak rfl 39 rfl (by kernel_rfl) (by kernel_rfl) rfl znr rfl ?_;refine OU.ldn _ lmQ (HX0.out.below hbq).at9 rfl rfl rfl rfl (by decide) rfl ?_;refine OU.ldn _ lmQ (HX8.out.below hbr).at9 rfl rfl rfl rfl (by decide) rfl ?_;refine OU.mv (v:=.int .i64 (k:Int)) rfl rfl rfl rfl ?_;refine OU.mv (v:=.int .i64 (n:Int)) rfl rfl rfl rfl ?_;refine OU.call [] Tryz.func88 rfl zac rfl rfl rfl rfl rfl (fun w1 hb1=>zd2 _) fun v1 w1' h1 hB1 => ?_
   refine OU.call [] Tryz.func89 rfl zac rfl rfl rfl rfl rfl (fun w1 hb1=>zbB _) fun v2 w2' h2 hB2 => ?_
   rw [zeN]at h1;have hc2:=(hbr.trans (hB1.mono hbr.size)).trans (hB2.mono (Nat.le_trans hbr.size hB1.size));have hP2:=HP.out.below (HBW.out.trans (hc2.mono HBW.out.size));have hQ2:=HV.out.below hc2;have h1':=h1.below hB2;refine OU.call [_,_,.int .i64 (k:Int),.int .i64 (n:Int),v1,v2] Tryz.func101 rfl zac rfl rfl rfl rfl rfl (fun w1 hb1=>zi9 w1 _ _ _ _ p 1 0 k n 2000 hk (by omega) (by omega) H0.out (hP2.below hb1) (hQ2.below hb1) (h1'.below hb1) (h2.below hb1) (by decide) zb1 zb2 zb3 zb5 zb6 zb4 zb7 zb8 zb9 hne) fun v3 w3' h3 hB3 => ?_
   rw [(zoD H0.out H1.out (by omega)).2]at h3;obtain⟨s5,p5,l5,d5,p6,l6,d6,rfl⟩:=zdi h3;refine OU.boxQ rfl rfl rfl (by simp [Value.oneCell']) fun g10 w6' w6 hg10 hb3 hbx hT4 hB4 => ?_
   have hBW:Below w5.heap.size w5 w6:=((hc2.trans (hB3.mono hc2.size)).trans (hb3.mono (Nat.le_trans hc2.size hB3.size))).trans hB4;have HG:=zHi (show QAt w6 (.agg #[.bool s5,.slice p5 l5 d5,.bool false,.slice p6 l6 d6]) (zeB p k n)from IQ.touch hT4 rfl _ [.bool s5,.slice p5 l5 d5,.bool false,.slice p6 l6 d6] (h3.below hb3));have HX10:=zHi hbx;have hg10':W3.heap.size≤g10:=Nat.le_trans HBW.out.size hg10;replace HX9:=zHi (HX9.out.below hBW);replace HC:=zHi (HC.out.below hBW);replace HBW:=zHi (HBW.out.trans (hBW.mono HBW.out.size));simp only [zaH,Go.Act.put,zss,zst,zsu];clear hg8 hg9 hg10;clear h1 h2 h3 h1' hP2 hQ2 hc2 hB1 hB2 hB3 hb3 hbx hT4 hB4 hBW hbr hbq zb1 zb2 zb3 zb4 zb5 zb6 zb7 zb8 zb9 hne;gi_wp2;have hbr:Below w6.heap.size w6 w6.drew:=zab w6;have hbq:=HBW.out.trans (hbr.mono HBW.out.size);have hs6:=hbq.size;have hr6:w6.drew.heap[w.heap.size+1]? = some zQ:=by rw [hbq.block _ (by omega)];exact HR6.out
   have hr7:w6.drew.heap[w.heap.size+1+1]? = some zQ:=by rw [hbq.block _ (by omega)];exact HR7.out
   obtain⟨w7,hrun6,hx6,hT6,hB6,hO6⟩:=zee (b:=w.heap.size+1) (base:=w.heap.size) (x0:=.bool s3) (x1:=.slice p3 l3 d3) (x2:=.bool false) (x3:=.slice p4 l4 d4) hr6 (by omega) (by simp [Value.oneCell']);have hr7':w7.heap[w.heap.size+1+1]? = some zQ:=by rw [hO6 _ (by omega) (by omega)];exact hr7
   obtain⟨w8,hrun7,hx7,hT7,hB7,hO7⟩:=zee (b:=w.heap.size+1+1) (base:=w.heap.size) (x0:=.bool s5) (x1:=.slice p5 l5 d5) (x2:=.bool false) (x3:=.slice p6 l6 d6) hr7' (by omega) (by simp [Value.oneCell']);have hx6':=hx6.eqB hT7.1 (hO7 _ hx6.1 (by omega));have hx10:BoxL w7 g10 [.bool s5,.slice p5 l5 d5,.bool false,.slice p6 l6 d6]:=(HX10.out.below hbr).eqB hT6.1 (hO6 _ (HX10.out.below hbr).1 (by omega));have hqa:=IQ.touch hT7 rfl _ [.bool s3,.slice p3 l3 d3,.bool false,.slice p4 l4 d4] (IQ.touch hT6 rfl _ _ (HC.out.below hbr));have hqb:=IQ.touch hT7 rfl _ [.bool s5,.slice p5 l5 d5,.bool false,.slice p6 l6 d6] (IQ.touch hT6 rfl _ _ (HG.out.below hbr));have hF:Below w.heap.size w w8:=((HW3.out.trans (hbq.mono (by omega))).trans hB6).trans hB7;refine zeF (fun w'=>BoxL w' g10 [.bool s5,.slice p5 l5 d5,.bool false,.slice p6 l6 d6]) [1] (fun w1 w2 h hb=>h.below hb) (ro:=none) [2,3] [0,1,2,3] [0,0,1,7] zak rfl 39 rfl (by kernel_rfl) (by kernel_rfl) (HX10.out.below hbr) ?_;refine OV.ldn _ lmQ (HX9.out.below hbr).at9 rfl rfl rfl rfl rfl (by decide) rfl ?_;refine OV.ldnK _ lmQ (HX10.out.below hbr).at9 (fun w' h=>h.at9) rfl rfl rfl rfl (by decide) rfl ?_;refine OV.st hx10 hrun6 rfl rfl rfl rfl rfl ?_;refine OV.st (hx10.eqB hT7.1 (hO7 _ hx10.1 (by omega))) hrun7 rfl rfl rfl rfl rfl ?_;refine OV.done ?_;simp only [zaH,Go.Act.put,zss,zst,zsu];clear hbr hbq hs6 hr6 hr7 hrun6 hT6 hO6 hr7' hrun7 hT7 hO7 hB6 hB7 hx6 hx10;gi_wp2;refine Go.bodyPost_ret (zdQ (g:=w.heap.size+1) (g':=w.heap.size+1+1) rfl rfl hx6' rfl hx7) rfl ⟨_,_,rfl,hqa,hqb,hF⟩
end Go.Num
