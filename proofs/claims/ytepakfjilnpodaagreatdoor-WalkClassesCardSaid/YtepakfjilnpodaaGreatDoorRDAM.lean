/-
  Fractions of the reference: what its functions answer, by runs on opaque integers. Integers of the reference: what its functions answer, by 
  Conditions: see each statement.
-/
import Derived.Test.YtepakfjilnpodaaGreatDoorRDAL
import Derived.Test.YtepakfjilnpodaaGreatDoorRDAF
import Derived.Test.YtepakfjilnpodaaGreatDoorRDAK
import Derived.Lib.ItoaNum
namespace Go.Num
open Go.RowKit Go.Proofs Go.Proofs.YtepakfjilnpodaaGreatDoor Go.Eng
def sgnR(q:Rat):Int:=if q.num<0 then -1 else if q.num=0 then 0 else 1
set_option maxRecDepth 100000 in
set_option maxHeartbeats 8000000 in
theorem sign_calls(w:World)(v:Value)(q:Rat)(h:RatAt w v q) :
  CallsIn Fence.wide 0 Tryz.prog 25 #[v] w fun e w'=>e = .returned (.int .i64 (sgnR q))∧Below w.heap.size w w':=by
 obtain⟨vn,vd,rfl,hn,hd⟩:=h
 obtain⟨o,k,c,rfl,hk,hk9⟩:=mag_len hn
 obtain⟨o2,k2,c2,rfl,_,_⟩:=mag_len hd
 have HK:=Hid.intro hk
 clear hn hd hk
 refine callsIn_of_wp Tryz.func25 rfl trivial ?_ rfl
 simp only [Tryz.ntmps25,List.size_toArray,List.length_cons,List.length_nil,Nat.reduceAdd,Nat.reduceSub,Array.replicate_succ,Array.replicate_zero,List.push_toArray,List.append_toArray,List.nil_append,List.cons_append]
 by_cases h0:q.num<0
 ·have hs:Hid (sgnR q = -1):=if_pos h0
  have hd:decide (q.num<0)=true:=decide_eq_true h0
  rw [hd]
  clear hd h0
  gi_wp2
  all_goals (first|go_returns|go_ret|go_end0)
  exact⟨by rw [hs.out];rfl,alloc_below _ _⟩
 ·have hd:decide (q.num<0)=false:=decide_eq_false h0
  rw [hd]
  by_cases h1:q.num=0
  ·have hs:Hid (sgnR q=0):=Hid.intro (by unfold sgnR;rw [if_neg h0,if_pos h1])
   have hk0:k=0:=HK.out.2 (by rw [h1];rfl)
   subst hk0
   clear hd h0 h1
   gi_wp2
   all_goals (first|go_returns|go_ret|go_end0)
   exact⟨by rw [hs.out];rfl,alloc_below _ _⟩
  ·have hs:Hid (sgnR q=1):=Hid.intro (by unfold sgnR;rw [if_neg h0,if_neg h1])
   have hk0:(0:Int)<(k:Int):=by
    rcases Nat.eq_zero_or_pos k with h|h
    ·have:=HK.out.1 h;omega
    ·omega
   clear hd h0 h1
   gi_wp2
   all_goals (first|go_returns|go_ret|go_end0)
   exact⟨by rw [hs.out];rfl,alloc_below _ _⟩
theorem num_neg(q:Rat):(-q).num = -q.num:=rfl
theorem neg_parts(q:Rat):(-q).num.natAbs=q.num.natAbs∧(-q).den=q.den:=by
 rw [num_neg]
 exact⟨Int.natAbs_neg _,rfl⟩
theorem two_new(w:World)(x0 x1 x2 z0 z1 z2:Value):let W:=(w.alloc (.cells #[x0,x1,x2] 27)).alloc (.cells #[z0,z1,z2] 27)
  Box3 W w.heap.size x0 x1 x2∧Elem W (w.heap.size+1) 27∧(W.cell? ⟨w.heap.size+1,0,none⟩=some z0∧W.cell? ⟨w.heap.size+1,1,none⟩=some z1∧W.cell? ⟨w.heap.size+1,2,none⟩=some z2) ∧
  (W.frozen? ⟨w.heap.size+1,0,none⟩=false∧W.frozen? ⟨w.heap.size+1,1,none⟩=false∧W.frozen? ⟨w.heap.size+1,2,none⟩=false)∧Below w.heap.size w W:=by
 intro W
 have e1:(w.alloc (.cells #[x0,x1,x2] 27)).heap.size=w.heap.size+1:=by simp
 have h2:=box3_new (w.alloc (.cells #[x0,x1,x2] 27)) z0 z1 z2 27
 rw [e1]at h2
 refine⟨(box3_new w x0 x1 x2 27).below (alloc_below _ _),by rw [←e1];exact elem_new _ _ _,⟨h2.c0,h2.c1,h2.c2⟩,?_,(alloc_below w _).alloc (by simp) _⟩
 refine⟨?_,?_,?_⟩ <;> (rw [←e1];exact World.frozen?_alloc_new _ _ _ _)
set_option maxRecDepth 100000 in
set_option maxHeartbeats 8000000 in
theorem neg_calls(w:World)(v:Value)(q:Rat)(h:RatAt w v q) :
  CallsIn Fence.wide 0 Tryz.prog 66 #[v] w fun e w'=>∃v',e = .returned v'∧RatAt w' v' (-q)∧Below w.heap.size w w':=by
 obtain⟨vn,vd,rfl,hn,hd⟩:=h
 have HM0:=Hid.intro hn
 have HD0:=Hid.intro hd
 obtain⟨o,k,c,rfl,hk,hk9⟩:=mag_len hn
 obtain⟨o2,k2,c2,rfl,_,_⟩:=mag_len hd
 have HK:=Hid.intro hk
 have HN:=Hid.intro (neg_parts q)
 clear hn hd hk
 obtain⟨neg,hneg⟩:∃neg,decide (q.num<0)=neg:=⟨_,rfl⟩
 have HNG:=Hid.intro hneg
 rw [hneg]
 clear hneg
 refine callsIn_of_wp Tryz.func66 rfl trivial ?_ rfl
 simp only [Tryz.ntmps66,List.size_toArray,List.length_cons,List.length_nil,Nat.reduceAdd,Nat.reduceSub,Array.replicate_succ,Array.replicate_zero,List.push_toArray,List.append_toArray,List.nil_append,List.cons_append]
 cases neg with
 | true=>
  have HS:Hid (decide ((-q).num<0)=false):=Hid.intro (decide_eq_false (by have:=of_decide_eq_true HNG.out;rw [num_neg];omega))
  clear HNG
  gi_wp2
  have HT:=two_new w (.bool true) (.slice o k c) (.slice o2 k2 c2) (.bool false) (.slice o k c) (.slice o2 k2 c2)
  refine ret_rat rfl rfl (w.heap.size+1) rfl HT.2.2.1.1 HT.2.2.1.2.1 HT.2.2.1.2.2 ?_
  refine⟨_,rfl,⟨.slice o k c,.slice o2 k2 c2,by rw [HS.out],by rw [HN.out.1];exact HM0.out.below HT.2.2.2.2,by rw [HN.out.2];exact HD0.out.below HT.2.2.2.2⟩,HT.2.2.2.2⟩
 | false=>
  by_cases h1:q.num=0
  ·have hk0:k=0:=HK.out.2 (by rw [h1];rfl)
   have HS:Hid (decide ((-q).num<0)=false):=Hid.intro (decide_eq_false (by rw [num_neg];omega))
   subst hk0
   clear HNG h1
   gi_wp2
   have HT:=two_new w (.bool false) (.slice o 0 c) (.slice o2 k2 c2) (.bool false) (.slice o 0 c) (.slice o2 k2 c2)
   refine ret_rat rfl rfl (w.heap.size+1) rfl HT.2.2.1.1 HT.2.2.1.2.1 HT.2.2.1.2.2 ?_
   refine⟨_,rfl,⟨.slice o 0 c,.slice o2 k2 c2,by rw [HS.out],by rw [HN.out.1];exact HM0.out.below HT.2.2.2.2,by rw [HN.out.2];exact HD0.out.below HT.2.2.2.2⟩,HT.2.2.2.2⟩
  ·have hk0:(0:Int)<(k:Int):=by
    rcases Nat.eq_zero_or_pos k with h|h
    ·have:=HK.out.1 h;omega
    ·omega
   have hk1:decide ((0:Int)<(k:Int))=true:=decide_eq_true hk0
   have HS:Hid (decide ((-q).num<0)=true):=Hid.intro (decide_eq_true (by have:=of_decide_eq_false HNG.out;rw [num_neg];omega))
   clear HNG h1
   gi_wp2
   have HT:=two_new w (.bool false) (.slice o k c) (.slice o2 k2 c2) (.bool true) (.slice o k c) (.slice o2 k2 c2)
   rw [show decide (0<k)=true from decide_eq_true (by omega)]
   refine ret_rat rfl rfl (w.heap.size+1) rfl HT.2.2.1.1 HT.2.2.1.2.1 HT.2.2.1.2.2 ?_
   refine⟨_,rfl,⟨.slice o k c,.slice o2 k2 c2,by rw [HS.out],by rw [HN.out.1];exact HM0.out.below HT.2.2.2.2,by rw [HN.out.2];exact HD0.out.below HT.2.2.2.2⟩,HT.2.2.2.2⟩
structure Env where
 z:Nat→Int
 q:Nat→Rat
def ev(E:Env):Tg→Int × Rat
 | .leaf k=>(E.z k,E.q k)
 | .un 1 a=>let x:=ev E a;(-x.1,-x.2)
 | .un 20 a=>let x:=ev E a;(sgn false x.1.natAbs,0)
 | .un 21 a=>let x:=ev E a;(sgn true x.1.natAbs,0)
 | .un 30 a=>let x:=ev E a;(x.2.num,0)
 | .un 31 a=>let x:=ev E a;((x.2.den:Int),0)
 | .bin 1 a b=>let x:=ev E a;let y:=ev E b;(x.1+y.1,x.2+y.2)
 | .bin 2 a b=>let x:=ev E a;let y:=ev E b;(x.1-y.1,x.2-y.2)
 | .bin 3 a b=>let x:=ev E a;let y:=ev E b;(x.1*y.1,x.2*y.2)
 | .bin 4 a b=>let x:=ev E a;let y:=ev E b;(0,x.2/y.2)
 | .bin 11 a b=>let x:=ev E a;let y:=ev E b;((x.1.natAbs+y.1.natAbs:Nat),0)
 | .bin 12 a b=>let x:=ev E a;let y:=ev E b;((x.1.natAbs-y.1.natAbs:Nat),0)
 | .bin 13 a b=>let x:=ev E a;let y:=ev E b;((x.1.natAbs*y.1.natAbs:Nat),0)
 | .bin 14 a b=>let x:=ev E a;let y:=ev E b;((Nat.gcd x.1.natAbs y.1.natAbs:Nat),0)
 | .bin 15 a b=>let x:=ev E a;let y:=ev E b;((x.1.natAbs/y.1.natAbs:Nat),0)
 | .bin 16 a b=>let x:=ev E a;let y:=ev E b;((x.1.natAbs%y.1.natAbs:Nat),0)
 | .bin 17 a b=>let x:=ev E a;let y:=ev E b;(sgn (decide (x.1<0) != decide (y.1<0)) (x.1.natAbs/y.1.natAbs),0)
 | .bin 40 a b=>let x:=ev E a;let y:=ev E b;(0,(x.1:Rat)/(y.1:Rat))
 | _=>(0,0)
def evZ(E:Env)(t:Tg):Int:=(ev E t).1
def evN(E:Env)(t:Tg):Nat:=(ev E t).1.natAbs
def evQ(E:Env)(t:Tg):Rat:=(ev E t).2
def sz(L:Nat):Tg→Nat
 | .leaf _=>L
 | .un _ a=>sz L a
 | .bin _ a b=>sz L a+sz L b+1
def EnvOK(L:Nat)(E:Env):Prop:=0<L∧∀k,(E.z k).natAbs<B^L∧RatLe (E.q k) L
theorem RatLe.mono{q:Rat}{L M:Nat}(h:RatLe q L)(hL:L≤M):RatLe q M:=⟨Nat.lt_of_lt_of_le h.1 (pow_mono hL),Nat.lt_of_lt_of_le h.2 (pow_mono hL)⟩
theorem lt_lift{x a:Nat}(b:Nat)(h:x<B^a)(hab:a≤b):x<B^b:=Nat.lt_of_lt_of_le h (pow_mono hab)
theorem frac_le{s:Bool}{n d L:Nat}(hd:d≠0)(hn:n<B^L)(hdL:d<B^L):RatLe (frac s n d) L:=by
 have h:=frac_parts (neg:=s) (n:=n) hd
 exact⟨by rw [h.1];exact Nat.lt_of_le_of_lt (Nat.div_le_self _ _) hn,by rw [h.2.1];exact Nat.lt_of_le_of_lt (Nat.div_le_self _ _) hdL⟩
theorem ratLe_zero{L:Nat}(h:0<L):RatLe 0 L:=by
 have:1<B^L:=Nat.lt_of_lt_of_le (by decide:1<B^1) (pow_mono h)
 exact⟨by show 0<_;omega,this⟩
theorem ratLe_pos{q:Rat}{L:Nat}(h:RatLe q L):0<L:=by
 apply Classical.byContradiction
 intro hno
 have:L=0:=by omega
 subst this
 have h1:=h.2
 have h2:=q.den_pos
 rw [Nat.pow_zero]at h1
 omega
theorem ratLe_neg{q:Rat}{L:Nat}(h:RatLe q L):RatLe (-q) L:=⟨by rw [(neg_parts q).1];exact h.1,by rw [(neg_parts q).2];exact h.2⟩
theorem ratLe_add{p q:Rat}{a b:Nat}(hp:RatLe p a)(hq:RatLe q b):RatLe (p+q) (a+b+1):=by
 have h1:=prod_len hp.1 hq.2
 have h2:q.num.natAbs*p.den<B^(a+b):=by rw [Nat.add_comm];exact prod_len hq.1 hp.2
 have h3:=prod_len hp.2 hq.2
 have hd:p.den*q.den≠0:=Nat.mul_ne_zero p.den_nz q.den_nz
 have h4:B^(a+b)+B^(a+b)≤B^(a+b+1):=by
  rw [Nat.pow_succ]
  have:B^(a+b)*2≤B^(a+b)*B:=Nat.mul_le_mul_left _ (by decide)
  omega
 rw [rat_sum p q]
 split
 ·exact frac_le hd (by omega) (by omega)
 ·split
  ·exact frac_le hd (by omega) (by omega)
  ·exact frac_le hd (by omega) (by omega)
theorem ratLe_mul{p q:Rat}{a b:Nat}(hp:RatLe p a)(hq:RatLe q b):RatLe (p*q) (a+b):=by
 rw [rat_prod]
 exact frac_le (Nat.mul_ne_zero p.den_nz q.den_nz) (prod_len hp.1 hq.1) (prod_len hp.2 hq.2)
theorem ratLe_div{p q:Rat}{a b:Nat}(hp:RatLe p a)(hq:RatLe q b):RatLe (p/q) (a+b):=by
 by_cases h0:q.num=0
 ·have:q=0:=Rat.num_eq_zero.1 h0
  rw [this,show p/0=0 by simp [Rat.div_def]]
  exact ratLe_zero (by have:=ratLe_pos hp;omega)
 ·rw [rat_quot]
  exact frac_le (Nat.mul_ne_zero p.den_nz (by omega)) (prod_len hp.1 hq.2) (prod_len hp.2 hq.1)
theorem ratLe_int{z:Int}{L:Nat}(h:z.natAbs<B^L)(hL:0<L):RatLe (z:Rat) L:=by
 have:1<B^L:=Nat.lt_of_lt_of_le (by decide:1<B^1) (pow_mono hL)
 exact⟨h,this⟩
theorem natAbs_add_lt{x y:Int}{a b:Nat}(hx:x.natAbs<B^a)(hy:y.natAbs<B^b):x.natAbs+y.natAbs<B^(a+b+1):=by
 have h1:B^a≤B^(a+b):=pow_mono (by omega)
 have h2:B^b≤B^(a+b):=pow_mono (by omega)
 have h4:B^(a+b)*2≤B^(a+b)*B:=Nat.mul_le_mul_left _ (by decide)
 rw [←Nat.pow_succ]at h4
 have e:(a+b).succ=a+b+1:=rfl
 rw [e]at h4
 omega
theorem sz_pos{L:Nat}(hL:0<L)(t:Tg):0<sz L t:=by
 induction t with
 | leaf k=>exact hL
 | un k a ih=>exact ih
 | bin k a b=>show 0<sz L a+sz L b+1;omega
theorem ev_sz{L:Nat}{E:Env}(hE:EnvOK L E)(t:Tg):(ev E t).1.natAbs<B^sz L t∧RatLe (ev E t).2 (sz L t):=by
 have z0:∀t:Tg,(0:Int).natAbs<B^sz L t:=fun t=>by show 0<B^sz L t;exact pow_pos' _
 have q0:∀t:Tg,RatLe 0 (sz L t):=fun t=>ratLe_zero (sz_pos hE.1 t)
 induction t with
 | leaf k=>exact⟨(hE.2 k).1,(hE.2 k).2⟩
 | un k a ih=>
  have e:sz L (.un k a)=sz L a:=rfl
  rw [e]
  unfold ev
  split
  all_goals (try rename_i h;try (cases h))
  all_goals first
   | exact⟨by simpa using ih.1,ratLe_neg ih.2⟩
   | exact⟨by rw [sgn_abs];exact ih.1,q0 a⟩
   | exact⟨ih.2.1,q0 a⟩
   | exact⟨ih.2.2,q0 a⟩
   | exact⟨z0 a,q0 a⟩
 | bin k a b iha ihb=>
  have hs:=natAbs_add_lt iha.1 ihb.1
  have hm:(ev E a).1.natAbs*(ev E b).1.natAbs<B^(sz L a+sz L b+1):=Nat.lt_of_lt_of_le (prod_len iha.1 ihb.1) (pow_mono (by omega))
  have ha1:(ev E a).1.natAbs<B^(sz L a+sz L b+1):=Nat.lt_of_lt_of_le iha.1 (pow_mono (by omega))
  have hb1:(ev E b).1.natAbs<B^(sz L a+sz L b+1):=Nat.lt_of_lt_of_le ihb.1 (pow_mono (by omega))
  have hq:RatLe 0 (sz L a+sz L b+1):=ratLe_zero (by omega)
  show(ev E (.bin k a b)).1.natAbs<B^(sz L a+sz L b+1)∧RatLe (ev E (.bin k a b)).2 (sz L a+sz L b+1)
  unfold ev
  split
  all_goals (try rename_i h;try (cases h))
  all_goals first
   | exact⟨by show((ev E a).1+(ev E b).1).natAbs<_;omega,ratLe_add iha.2 ihb.2⟩
   | exact⟨by show((ev E a).1-(ev E b).1).natAbs<_;omega,by show RatLe ((ev E a).2-(ev E b).2) _;rw [Rat.sub_eq_add_neg];exact ratLe_add iha.2 (ratLe_neg ihb.2)⟩
   | exact⟨by rw [Int.natAbs_mul];exact hm,(ratLe_mul iha.2 ihb.2).mono (by omega)⟩
   | exact⟨z0 (.bin 4 a b),(ratLe_div iha.2 ihb.2).mono (by omega)⟩
   | exact⟨z0 (.bin 40 a b),(ratLe_div (ratLe_int iha.1 (sz_pos hE.1 a)) (ratLe_int ihb.1 (sz_pos hE.1 b))).mono (by omega)⟩
   | exact⟨hs,hq⟩
   | exact⟨Nat.lt_of_le_of_lt (Nat.sub_le _ _) ha1,hq⟩
   | exact⟨hm,hq⟩
   | exact⟨Nat.lt_of_le_of_lt (Nat.div_le_self _ _) ha1,hq⟩
   | exact⟨by rw [sgn_abs];exact Nat.lt_of_le_of_lt (Nat.div_le_self _ _) ha1,hq⟩
   | exact⟨Nat.lt_of_le_of_lt (Nat.mod_le _ _) ha1,hq⟩
   | exact⟨by
     show Nat.gcd (ev E a).1.natAbs (ev E b).1.natAbs<_
     rcases Nat.eq_zero_or_pos (ev E a).1.natAbs with h0|h0
     ·rw [h0,Nat.gcd_zero_left];exact hb1
     ·exact Nat.lt_of_le_of_lt (Nat.le_of_dvd h0 (Nat.gcd_dvd_left _ _)) ha1,hq⟩
   | exact⟨pow_pos' _,hq⟩
end Go.Num
namespace Go.Eng
open Go.RowKit
abbrev TTab:=FuncId→AT→Option AT
def TTab.or(T U:TTab):TTab:=fun f ts=>match T f ts with|some r=>some r|none=>U f ts
def t1(g:FuncId)(A:AT→Option Tg)(cond:Tg→Bool)(R:Tg→AT):TTab:=fun f ts=>
 bif Nat.beq f g then
  match ts with
  | .cons a .nil=>match A a with
   | some x=>bif cond x then some (R x)else none
   | none=>none
  | _=>none
 else none
def t2(g:FuncId)(A C:AT→Option Tg)(cond:Tg→Tg→Bool)(R:Tg→Tg→AT):TTab:=fun f ts=>
 bif Nat.beq f g then
  match ts with
  | .cons a (.cons c .nil)=>match A a,C c with
   | some x,some y=>bif cond x y then some (R x y)else none
   | _,_=>none
  | _=>none
 else none
section
variable {P:Program} {G:Sett}
theorem ToldT.or{T U:TTab}(h:ToldT P G T)(k:ToldT P G U):ToldT P G (T.or U):=by
 intro f ts rs q
 unfold TTab.or at q
 split at q
 ·rename_i r hr
  cases q
  exact h _ _ _ hr
 ·exact k _ _ _ q
theorem told_none:ToldT P G (fun _ _=>none):=fun _ _ _ q=>by cases q
def HasBody(P:Program)(g:FuncId):Prop:=∃fn:Func,P.funcs[g]? = some fn∧fn.body.isSome=true
theorem told_t1{g:FuncId}{A:AT→Option Tg}{cond:Tg→Bool}{R:Tg→AT}(hb:HasBody P g)(M:Tg→Value→World→Prop)(hA:∀a x,A a=some x→∀v w,PieceOK G a v w→M x v w)
  (h:∀x,cond x=true→∀w v,M x v w→Calls P g #[v] w fun e w'=>∃r,e = .returned r∧PackOK G (R x) r w'∧Below w.heap.size w w'):ToldT P G (t1 g A cond R):=by
 intro f ts rs q
 unfold t1 at q
 cases hf:Nat.beq f g with
 | false=>rw [hf]at q;cases q
 | true=>
  rw [hf]at q
  have hf:=(beq_iff _ _).1 hf
  subst hf
  refine⟨hb,fun w xs hx => ?_⟩
  simp only [cond_true]at q
  split at q
  ·rename_i a
   split at q
   ·rename_i x hxa
    cases hc:cond x with
    | false=>rw [hc]at q;cases q
    | true=>
     rw [hc]at q
     cases q
     obtain⟨v,r,e,h1,h2⟩:=hx
     have h2:r = []:=h2
     subst h2
     have e':xs=#[v]:=Array.toList_inj.1 (by simpa using e)
     subst e'
     exact h x hc w v (hA _ _ hxa _ _ h1)
   ·cases q
  ·cases q
theorem told_t2{g:FuncId}{A C:AT→Option Tg}{cond:Tg→Tg→Bool}{R:Tg→Tg→AT}(hb:HasBody P g)(M N:Tg→Value→World→Prop)(hA:∀a x,A a=some x→∀v w,PieceOK G a v w→M x v w)(hC:∀a x,C a=some x→∀v w,PieceOK G a v w→N x v w)
  (h:∀x y,cond x y=true→∀w v u,M x v w→N y u w→Calls P g #[v,u] w fun e w'=>∃r,e = .returned r∧PackOK G (R x y) r w'∧Below w.heap.size w w'):ToldT P G (t2 g A C cond R):=by
 intro f ts rs q
 unfold t2 at q
 cases hf:Nat.beq f g with
 | false=>rw [hf]at q;cases q
 | true=>
  rw [hf]at q
  have hf:=(beq_iff _ _).1 hf
  subst hf
  refine⟨hb,fun w xs hx => ?_⟩
  simp only [cond_true]at q
  split at q
  ·rename_i a c
   split at q
   ·rename_i x y hxa hyc
    cases hc:cond x y with
    | false=>rw [hc]at q;cases q
    | true=>
     rw [hc]at q
     cases q
     obtain⟨v,r,e,h1,u,r2,e2,h3,h4⟩:=hx
     subst e2
     have h4:r2 = []:=h4
     subst h4
     have e':xs=#[v,u]:=Array.toList_inj.1 (by simpa using e)
     subst e'
     exact h x y hc w v u (hA _ _ hxa _ _ h1) (hC _ _ hyc _ _ h3)
   ·cases q
  ·cases q
end
end Go.Eng
namespace Go.Num
open Go.Lib
def padL:Nat→Nat→List UInt8
 | 0,_ => []
 | j+1,n=>padL j (n/10) ++ [UInt8.ofNat (48+n%10)]
theorem dec_pad:∀(j hi lo:Nat),0<hi→lo<10^j→decDigits (hi*10^j+lo)=decDigits hi ++ padL j lo
 | 0,hi,lo,_,h=>by
  have:lo=0:=by simp at h;exact h
  subst this
  simp [padL]
 | j+1,hi,lo,h0,h=>by
  have e:hi*10^(j+1)+lo=(hi*10^j)*10+lo:=by rw [Nat.pow_succ,Nat.mul_assoc]
  have hp:0<10^j:=Nat.pow_pos (by decide)
  have hbig:¬(hi*10^(j+1)+lo<10):=by
   have:1*1≤hi*10^j:=Nat.mul_le_mul h0 hp
   omega
  rw [decDigits,dif_neg hbig,e]
  have e1:((hi*10^j)*10+lo)/10=hi*10^j+lo/10:=by omega
  have e2:((hi*10^j)*10+lo)%10=lo%10:=by omega
  rw [e1,e2,dec_pad j hi (lo/10) h0 (by rw [Nat.pow_succ]at h;omega),List.append_assoc]
  rfl
theorem pad_dec:∀(j n:Nat),n<10^(j+1)→padL (j+1) n=List.replicate (j+1-nDigits n) 48 ++ decDigits n
 | 0,n,h=>by
  have h:n<10:=by simpa using h
  rw [nDigits_small h,decDigits,dif_pos h]
  simp [padL,Nat.mod_eq_of_lt h]
 | j+1,n,h=>by
  by_cases hs:n<10
  ·have e:n/10=0:=by omega
   show padL (j+1) (n/10) ++ [UInt8.ofNat (48+n%10)]=_
   rw [e,pad_dec j 0 (Nat.pow_pos (by decide)),nDigits_small hs,nDigits_small (by decide),decDigits,dif_pos (by decide),decDigits,dif_pos hs,Nat.mod_eq_of_lt hs]
   have:j+1+1-1=(j+1-1)+1:=by omega
   rw [this,List.replicate_succ']
   rfl
  ·show padL (j+1) (n/10) ++ [UInt8.ofNat (48+n%10)]=_
   rw [pad_dec j (n/10) (by rw [Nat.pow_succ]at h;omega),nDigits_big hs,decDigits.eq_def n,dif_neg hs,List.append_assoc]
   congr 2
   omega
theorem dec_limb{hi lo:Nat}(h0:0<hi)(h:lo<B):decDigits (hi*B+lo)=decDigits hi ++ (List.replicate (9-nDigits lo) 48 ++ decDigits lo):=by
 rw [←pad_dec 8 lo h]
 exact dec_pad 9 hi lo h0 h
theorem dec_down{n i:Nat}(h0:0<n/B^(i+1)):decDigits (n/B^i)=decDigits (n/B^(i+1)) ++ (List.replicate (9-nDigits (limb n i)) 48 ++ decDigits (limb n i)):=by
 rw [←dec_limb h0 (limb_lt n i),Nat.mul_comm,←div_step]
end Go.Num
namespace Go.Num
open Go.RowKit Go.Proofs Go.Proofs.YtepakfjilnpodaaGreatDoor Go.Eng
def textZ(z:Int):ByteArray:=⟨(Lib.itoa z).toArray⟩
def textQ(q:Rat):ByteArray:=if q.den=1 then textZ q.num else⟨(Lib.itoa q.num ++ 47 :: Lib.decDigits q.den).toArray⟩
theorem Elem.kept{w w':World}{b:Nat}{e:TypeId}{res:List TypeId}(h:Elem w b e)(hk:Kept res w w')(he:res.contains e=true):w'.heap[b]? = w.heap[b]?:=by
 obtain⟨cs,fz,h⟩:=h
 rw [h,hk _ _ _ _ h he]
theorem NatI.kept{w w':World}{v:Value}{n:Nat}{res:List TypeId}(h:NatI w v n)(hk:Kept res w w')(he:res.contains 3=true):NatI w' v n:=by
 obtain⟨k,hk',hl⟩:=h
 refine⟨k,hk',?_⟩
 rcases hl with h|⟨a,cap,h1,h2,h3,h4,h5,h6⟩
 ·exact .inl h
 ·have hb:=h5.kept hk he
  exact .inr ⟨a,cap,h1,h2,h3,h4,h5.of_block hb,fun i hi=>(World.cell?_of_block (by rw [add_block];exact hb)).trans (h6 i hi)⟩
theorem MagAt.kept{w w':World}{v:Value}{n:Nat}{res:List TypeId}(h:MagAt w v n)(hk:Kept res w w')(he:res.contains 116=true):MagAt w' v n:=by
 obtain⟨k,hk',hl⟩:=h
 refine⟨k,hk',?_⟩
 rcases hl with h|⟨a,cap,h1,h2,h3,h4,h5,h6⟩
 ·exact .inl h
 ·have hb:=h5.kept hk he
  exact .inr ⟨a,cap,h1,h2,h3,h4,h5.of_block hb,fun i hi=>(World.cell?_of_block (by rw [add_block];exact hb)).trans (h6 i hi)⟩
theorem NatI.oneCell{w:World}{v:Value}{n:Nat}(h:NatI w v n):v.oneCell'=true:=by
 obtain⟨k,_,hl⟩:=h
 obtain⟨o,c,rfl,_⟩:=hl.form
 rfl
theorem MagAt.oneCell{w:World}{v:Value}{n:Nat}(h:MagAt w v n):v.oneCell'=true:=by
 obtain⟨k,_,hl⟩:=h
 obtain⟨o,c,rfl,_⟩:=hl.form
 rfl
def clsN:Tg→Sh
 | .un 105 _ => .str
 | .un 106 _ => .str
 | _ => .one
def iN(E:Env)(t:Tg)(v:Value)(w:World):Prop:=
 match t with
 | .un 100 e=>NatI w v (evN E e)
 | .un 103 e=>MagAt w v (evN E e)
 | .un 107 e=>v = .bool (decide (evZ E e<0))
 | .un 109 e=>v = .int .i64 (evZ E e).sign
 | .un 105 e=>v = .string (textQ (evQ E e))
 | .un 106 e=>v = .string (textZ (evZ E e))
 | .un 104 e=>MagAt w v (if(evQ E e).den=1 then 0 else(evQ E e).den)
 | .un 110 e=>v = .int .i64 (evZ E e) ∧ -9223372036854775808≤evZ E e∧evZ E e≤9223372036854775807
 | _=>False
def GN(E:Env):Sett where
 ids:=[]
 res:=[3,116]
 I:=iN E
 stable:=by
  intro t v w w' hk h
  unfold iN at h
  split at h
  ·exact NatI.kept h hk rfl
  ·exact MagAt.kept h hk rfl
  ·exact h
  ·exact h
  ·exact h
  ·exact h
  ·exact MagAt.kept h hk rfl
  ·exact h
  ·exact h.elim
theorem shapedN(E:Env):Shaped (GN E) clsN where
 ok:=by
  intro t v w h
  have h:iN E t v w:=h
  unfold iN at h
  split at h
  ·exact h.oneCell
  ·exact h.oneCell
  ·subst h;rfl
  ·subst h;rfl
  ·subst h;exact⟨_,rfl⟩
  ·subst h;exact⟨_,rfl⟩
  ·exact h.oneCell
  ·rw [h.1];rfl
  ·exact h.elim
 det:=by
  intro t ht v v' w h h'
  unfold clsN at ht
  split at ht
  ·have h:v=_:=h
   have h':v'=_:=h'
   rw [h,h']
  ·have h:v=_:=h
   have h':v'=_:=h'
   rw [h,h']
  ·cases ht
def tgN:AT→Option Tg
 | .tag (.un 100 a)=>some a
 | _=>none
def zc(a:Tg):AT:=.agg (.cons (.tag (.un 107 a)) (.cons (.tag (.un 100 a)) .nil))
def zs(b:Bool)(a:Tg):AT:=.agg (.cons (.val (.sc (.bool b))) (.cons (.tag (.un 100 a)) .nil))
theorem Tg.beq_eq{a:Tg}:∀{b:Tg},a.beq b=true→a=b:=by
 induction a with
 | leaf n=>intro b h;cases b <;> simp [Tg.beq]at h;rw [h]
 | un k a ih=>intro b h;cases b <;> simp [Tg.beq]at h;rw [h.1,ih h.2]
 | bin k a b ih1 ih2=>intro c h;cases c <;> simp [Tg.beq]at h;rw [h.1.1,ih1 h.1.2,ih2 h.2]
variable {E:Env}
theorem tgN_ok(a:AT)(x:Tg)(h:tgN a=some x)(v:Value)(w:World)(hp:PieceOK (GN E) a v w):NatI w v (evN E x):=by
 unfold tgN at h
 split at h
 ·cases h;exact hp
 ·cases h
theorem zc_ok(a:Tg)(v:Value)(w:World):PieceOK (GN E) (zc a) v w↔ZAt w v (evZ E a):=by
 constructor
 ·rintro⟨xs,rfl,x,r,e,h1,y,r2,rfl,h2,h3⟩
  have h3:r2 = []:=h3
  subst h3
  have e':xs=#[x,y]:=Array.toList_inj.1 (by simpa using e)
  subst e'
  have h1:x = .bool (decide (evZ E a<0)):=h1
  subst h1
  exact⟨y,rfl,h2⟩
 ·rintro⟨m,rfl,hm⟩
  exact⟨_,rfl,_,_,rfl,rfl,_,_,rfl,hm,rfl⟩
inductive Fact where
 | le (a b:Tg)
 | nz (b:Tg)
 | cmp (a b:Tg) (c:Int)
 | neg (a:Tg) (b:Bool)
def Fact.ok(E:Env):Fact→Prop
 | .le a b=>evN E b≤evN E a
 | .nz b=>evN E b≠0
 | .cmp a b c=>cmpI (evN E a) (evN E b)=c
 | .neg a b=>decide (evZ E a<0)=b
def hasLe(F:List Fact)(a b:Tg):Bool:=F.any fun | .le x y=>a.beq x && b.beq y|_=>false
def hasNz(F:List Fact)(b:Tg):Bool:=F.any fun | .nz y=>b.beq y|_=>false
def findCmp(F:List Fact)(a b:Tg):Option Int:=F.findSome? fun | .cmp x y c=>bif a.beq x && b.beq y then some c else none|_=>none
def Facts(E:Env)(F:List Fact):Prop:=∀f∈F,f.ok E
theorem hasLe_ok{F:List Fact}(hF:Facts E F){a b:Tg}(h:hasLe F a b=true):evN E b≤evN E a:=by
 unfold hasLe at h
 obtain⟨f,hf,h⟩:=List.any_eq_true.1 h
 split at h
 ·simp only [Bool.and_eq_true]at h
  rw [Tg.beq_eq h.1,Tg.beq_eq h.2]
  exact hF _ hf
 ·cases h
theorem hasNz_ok{F:List Fact}(hF:Facts E F){b:Tg}(h:hasNz F b=true):evN E b≠0:=by
 unfold hasNz at h
 obtain⟨f,hf,h⟩:=List.any_eq_true.1 h
 split at h
 ·rw [Tg.beq_eq h]
  exact hF _ hf
 ·cases h
theorem findCmp_ok{F:List Fact}(hF:Facts E F){a b:Tg}{c:Int}(h:findCmp F a b=some c):cmpI (evN E a) (evN E b)=c:=by
 unfold findCmp at h
 obtain⟨f,hf,h⟩:=List.exists_of_findSome?_eq_some h
 split at h
 ·rename_i x y c'
  cases hb:Tg.beq a x && Tg.beq b y with
  | false=>rw [hb]at h;cases h
  | true=>
   rw [hb]at h
   cases h
   simp only [Bool.and_eq_true]at hb
   rw [Tg.beq_eq hb.1,Tg.beq_eq hb.2]
   exact hF _ hf
 ·cases h
def findNeg(F:List Fact)(a:Tg):Option Bool:=F.findSome? fun | .neg x c=>bif a.beq x then some c else none|_=>none
theorem findNeg_ok{F:List Fact}(hF:Facts E F){a:Tg}{c:Bool}(h:findNeg F a=some c):decide (evZ E a<0)=c:=by
 unfold findNeg at h
 obtain⟨f,hf,h⟩:=List.exists_of_findSome?_eq_some h
 split at h
 ·rename_i x c'
  cases hb:Tg.beq a x with
  | false=>rw [hb]at h;cases h
  | true=>
   rw [hb]at h
   cases h
   rw [Tg.beq_eq hb]
   exact hF _ hf
 ·cases h
def zr(F:List Fact)(a:Tg):AT:=match findNeg F a with|some b=>zs b a|none=>zc a
def tgZ(F:List Fact):AT→Option Tg
 | .agg (.cons (.tag (.un 107 a)) (.cons (.tag (.un 100 b)) .nil))=>bif a.beq b then some a else none
 | .agg (.cons (.val (.sc (.bool b))) (.cons (.tag (.un 100 a)) .nil))=>match findNeg F a with|some c=>bif beqB b c then some a else none|none=>none
 | _=>none
theorem zs_iff{a:Tg}{b:Bool}(hb:decide (evZ E a<0)=b)(v:Value)(w:World):PieceOK (GN E) (zs b a) v w↔ZAt w v (evZ E a):=by
 constructor
 ·rintro⟨xs,rfl,x,r,e,h1,y,r2,rfl,h2,h3⟩
  have h3:r2 = []:=h3
  subst h3
  have e':xs=#[x,y]:=Array.toList_inj.1 (by simpa using e)
  subst e'
  have h1:some (Value.bool b)=some x:=h1
  cases h1
  exact⟨y,by rw [hb],h2⟩
 ·rintro⟨m,rfl,hm⟩
  exact⟨_,rfl,_,_,rfl,by show some (Value.bool b)=some _;rw [hb],_,_,rfl,hm,rfl⟩
theorem zr_ok{F:List Fact}(hF:Facts E F)(a:Tg)(v:Value)(w:World):PieceOK (GN E) (zr F a) v w↔ZAt w v (evZ E a):=by
 unfold zr
 cases h:findNeg F a with
 | none=>exact zc_ok a v w
 | some b=>exact zs_iff (findNeg_ok hF h) v w
theorem tgZ_ok{F:List Fact}(hF:Facts E F)(a:AT)(x:Tg)(h:tgZ F a=some x)(v:Value)(w:World)(hp:PieceOK (GN E) a v w):ZAt w v (evZ E x):=by
 unfold tgZ at h
 split at h
 ·rename_i a b
  cases hb:Tg.beq a b with
  | false=>rw [hb]at h;cases h
  | true=>
   rw [hb]at h
   cases h
   have:=Tg.beq_eq hb
   subst this
   exact(zc_ok _ v w).1 hp
 ·rename_i b a
  split at h
  ·rename_i c hc
   cases hb:beqB b c with
   | false=>rw [hb]at h;cases h
   | true=>
    rw [hb]at h
    cases h
    have:=beqB_eq hb
    subst this
    exact(zs_iff (findNeg_ok hF hc) v w).1 hp
  ·cases h
 ·cases h
def one(t:Tg):AT:=.cons (.tag t) .nil
def okSz(n:Nat):Bool:=Nat.ble n 10000000
def TN(L:Nat)(F:List Fact):TTab:=
 TTab.or (t2 199 tgN tgN (fun a b=>okSz (sz L a+sz L b)) fun a b=>one (.un 100 (.bin 11 a b))) <|
 TTab.or (t2 201 tgN tgN (fun a b=>okSz (sz L a+sz L b) && hasLe F a b) fun a b=>one (.un 100 (.bin 12 a b))) <|
 TTab.or (t2 159 tgN tgN (fun a b=>okSz (sz L a+sz L b)) fun a b=>one (.un 100 (.bin 13 a b))) <|
 TTab.or (t2 196 tgN tgN (fun a b=>okSz (sz L a+sz L b)) fun a b=>one (.un 100 (.bin 14 a b))) <|
 TTab.or (t2 197 tgN tgN (fun a b=>okSz (sz L a+sz L b) && hasNz F b) fun a b => .cons (.tag (.un 100 (.bin 15 a b))) (.cons (.tag (.un 100 (.bin 16 a b))) .nil)) <|
 TTab.or (t2 200 tgN tgN (fun a b=>(findCmp F a b).isSome) fun a b=>match findCmp F a b with|some c => .cons (.val (.sc (.int .i64 c))) .nil|none => .nil) <|
 fun _ _=>none
theorem sz_N{L:Nat}(hE:EnvOK L E)(a:Tg){M:Nat}(h:sz L a≤M):evN E a<B^M:=Nat.lt_of_lt_of_le (ev_sz hE a).1 (pow_mono h)
theorem okSz_ok{n:Nat}(h:okSz n=true):n≤10000000:=Nat.le_of_ble_eq_true h
theorem toldN{L:Nat}(hE:EnvOK L E){F:List Fact}(hF:Facts E F):ToldT Tryz.prog (GN E) (TN L F):=by
 have mN:=fun a x h v w hp=>tgN_ok (E:=E) a x h v w hp
 refine ToldT.or (told_t2 ⟨_,Tryz.func199,rfl⟩ _ _ mN mN ?_) <| ToldT.or (told_t2 ⟨_,Tryz.func201,rfl⟩ _ _ mN mN ?_) <| ToldT.or (told_t2 ⟨_,Tryz.func159,rfl⟩ _ _ mN mN ?_) <| ToldT.or (told_t2 ⟨_,Tryz.func196,rfl⟩ _ _ mN mN ?_) <| ToldT.or (told_t2 ⟨_,Tryz.func197,rfl⟩ _ _ mN mN ?_) <| ToldT.or (told_t2 ⟨_,Tryz.func200,rfl⟩ _ _ mN mN ?_) told_none
 ·intro a b hc w v u hv hu
  have hs:=okSz_ok hc
  refine(callsIn_wide.1 (addN_calls w v u _ _ (sz L a+sz L b) hv hu (sz_N hE a (by omega)) (sz_N hE b (by omega)) (by omega))).mono ?_
  rintro e w' ⟨r,rfl,⟨h1,_⟩,hb⟩
  exact⟨r,rfl,h1,hb⟩
 ·intro a b hc w v u hv hu
  simp only [Bool.and_eq_true]at hc
  have hs:=okSz_ok hc.1
  refine(callsIn_wide.1 (subN_calls w v u _ _ (sz L a+sz L b) hv hu (hasLe_ok hF hc.2) (sz_N hE a (by omega)) (by omega))).mono ?_
  rintro e w' ⟨r,rfl,⟨h1,_⟩,hb⟩
  exact⟨r,rfl,h1,hb⟩
 ·intro a b hc w v u hv hu
  have hs:=okSz_ok hc
  refine(callsIn_wide.1 (mulN_calls w v u _ _ (sz L a+sz L b) hv hu (sz_N hE a (by omega)) (sz_N hE b (by omega)) (by omega))).mono ?_
  rintro e w' ⟨r,rfl,⟨h1,_⟩,hb⟩
  exact⟨r,rfl,h1,hb⟩
 ·intro a b hc w v u hv hu
  have hs:=okSz_ok hc
  refine(callsIn_wide.1 (gcdN_calls w v u _ _ (sz L a+sz L b) hv hu (sz_N hE a (by omega)) (sz_N hE b (by omega)) (by omega))).mono ?_
  rintro e w' ⟨r,rfl,h1,hb⟩
  exact⟨r,rfl,h1,hb⟩
 ·intro a b hc w v u hv hu
  simp only [Bool.and_eq_true]at hc
  have hs:=okSz_ok hc.1
  have hz:=hasNz_ok hF hc.2
  refine(callsIn_wide.1 (divN_calls w v u _ _ (sz L a+sz L b) hv hu (by omega) (sz_N hE a (by omega)) (sz_N hE b (by omega)) (by omega))).mono ?_
  rintro e w' ⟨q,r,rfl,h1,h2,hb⟩
  exact⟨_,rfl,⟨_,rfl,q,[r],rfl,h1,r,[],rfl,h2,rfl⟩,hb⟩
 ·intro a b hc w v u hv hu
  refine(callsIn_wide.1 (cmpN_calls w v u _ _ hv hu)).mono ?_
  rintro e w' ⟨rfl,hb⟩
  refine⟨_,rfl,?_,hb⟩
  cases hf:findCmp F a b with
  | none=>rw [hf]at hc;cases hc
  | some c=>
   rw [findCmp_ok hF hf]
   exact rfl
variable {E:Env}
def sc20(b:Bool):Nat:=match b with|true=>21|false=>20
def tInt:TTab:=fun f ts=>
 bif Nat.beq f 94 then
  match ts with
  | .cons (.val (.sc (.bool b))) (.cons (.tag (.un 100 a)) .nil)=>some (.cons (zc (.un (sc20 b) a)) .nil)
  | _=>none
 else none
theorem told_int:ToldT Tryz.prog (GN E) tInt:=by
 intro f ts rs q
 unfold tInt at q
 cases hf:Nat.beq f 94 with
 | false=>rw [hf]at q;cases q
 | true=>
  rw [hf]at q
  have hf:=(beq_iff _ _).1 hf
  subst hf
  refine⟨⟨_,Tryz.func94,rfl⟩,fun w xs hx => ?_⟩
  simp only [cond_true]at q
  split at q
  ·rename_i b a
   cases q
   obtain⟨v,r,e,h1,u,r2,e2,h3,h4⟩:=hx
   subst e2
   have h4:r2 = []:=h4
   subst h4
   have e':xs=#[v,u]:=Array.toList_inj.1 (by simpa using e)
   subst e'
   have h1:some (Value.bool b)=some v:=h1
   cases h1
   refine(callsIn_wide.1 (int_calls w b u _ h3)).mono ?_
   rintro e w' ⟨v',rfl,hz,hb⟩
   refine⟨v',rfl,?_,hb⟩
   have:=(zc_ok (E:=E) (.un (sc20 b) a) v' w').2 (by cases b <;> exact hz)
   exact this
  ·cases q
def tSign(F:List Fact):TTab:=t1 98 (tgZ F) (fun _=>true) fun a=>one (.un 109 a)
theorem told_sign{F:List Fact}(hF:Facts E F):ToldT Tryz.prog (GN E) (tSign F):=by
 refine told_t1 ⟨_,Tryz.func98,rfl⟩ _ (fun a x h v w hp=>tgZ_ok hF a x h v w hp) ?_
 intro x _ w v hv
 refine(callsIn_wide.1 (zsign_calls w v _ hv)).mono ?_
 rintro e w' ⟨rfl,hb⟩
 exact⟨_,rfl,rfl,hb⟩
def TZ0(F:List Fact):TTab:=TTab.or (TN 100000 F) (TTab.or tInt (tSign F))
theorem toldZ0(hE:EnvOK 100000 E){F:List Fact}(hF:Facts E F):ToldT Tryz.prog (GN E) (TZ0 F):=.or (toldN hE hF) (.or told_int (told_sign hF))
theorem zs_ok{w:World}{v:Value}{z:Int}(h:ZAt w v z){b:Bool}(hb:decide (z<0)=b){k:Nat}(hz:E.z k=z):PieceOK (GN E) (zs b (.leaf k)) v w:=by
 obtain⟨m,rfl,hm⟩:=h
 rw [hb]
 refine⟨_,rfl,_,_,rfl,rfl,m,[],rfl,?_,rfl⟩
 show NatI w m (E.z k).natAbs
 rw [hz];exact hm
theorem zc_leaf{w:World}{v:Value}{z:Int}(h:ZAt w v z){k:Nat}(hz:E.z k=z):PieceOK (GN E) (zc (.leaf k)) v w:=(zc_ok _ v w).2 (by
 show ZAt w v (E.z k)
 rw [hz];exact h)
def envZ(x y:Int):Env:=⟨fun k=>if k=0 then x else y,fun _=>0⟩
theorem envZ_ok{x y:Int}(hx:x.natAbs<B^100000)(hy:y.natAbs<B^100000):EnvOK 100000 (envZ x y):=⟨by omega,fun k=>⟨by
 show(if k=0 then x else y).natAbs<_
 split <;> assumption,ratLe_zero (by omega)⟩⟩
theorem facts_nil:Facts E []:=fun _ h=>by cases h
theorem pack_one{t:AT}{x:Value}{w:World}{G:Sett}(h:PackOK G (.cons t .nil) x w):PieceOK G t x w:=h
theorem zneg_calls(w:World)(v:Value)(z:Int)(h:ZAt w v z)(hz:z.natAbs<B^100000) :
  CallsIn Fence.wide 0 Tryz.prog 158 #[v] w fun e w'=>∃v',e = .returned v'∧ZAt w' v' (-z)∧Below w.heap.size w w':=by
 refine callsIn_wide.2 ?_
 have hT:=toldZ0 (envZ_ok hz hz) (facts_nil (E:=envZ z z))
 cases hb:decide (z<0)with
 | true=>
  have hr:runF Tryz.prog clsN (TZ0 []) [3,116] [] 50 158 (.cons (zs true (.leaf 0)) .nil)=some (.cons (zc (.un 20 (.leaf 0))) .nil):=by kernel_rfl
  refine(run_sound follows namesOK (shapedN _) rfl hT (by simp) hr ⟨v,[],rfl,zs_ok h hb rfl,rfl⟩).mono ?_
  rintro e w' ⟨x,rfl,hp,hB⟩
  refine⟨x,rfl,?_,hB⟩
  have:=(zc_ok _ x w').1 (pack_one hp)
  have hlt:=of_decide_eq_true hb
  have e:evZ (envZ z z) (.un 20 (.leaf 0)) = -z:=by show sgn false z.natAbs = -z;unfold sgn;simp;omega
  rw [e]at this
  exact this
 | false=>
  have hr:runF Tryz.prog clsN (TZ0 []) [3,116] [] 50 158 (.cons (zs false (.leaf 0)) .nil)=some (.cons (zc (.un 21 (.leaf 0))) .nil):=by kernel_rfl
  refine(run_sound follows namesOK (shapedN _) rfl hT (by simp) hr ⟨v,[],rfl,zs_ok h hb rfl,rfl⟩).mono ?_
  rintro e w' ⟨x,rfl,hp,hB⟩
  refine⟨x,rfl,?_,hB⟩
  have:=(zc_ok _ x w').1 (pack_one hp)
  have hlt:=of_decide_eq_false hb
  have e:evZ (envZ z z) (.un 21 (.leaf 0)) = -z:=by show sgn true z.natAbs = -z;unfold sgn;simp;omega
  rw [e]at this
  exact this
theorem runZ{T:TTab}(hT:ToldT Tryz.prog (GN E) T){n:Nat}{f:FuncId}{ts r:AT}(hr:runF Tryz.prog clsN T [3,116] [] n f ts=some (.cons r .nil)){w:World}{xs:Array Value}(hx:PiecesOK (GN E) ts xs.toList w) :
  CallsIn Fence.wide 0 Tryz.prog f xs w fun e w'=>∃v',e = .returned v'∧PieceOK (GN E) r v' w'∧Below w.heap.size w w':=by
 refine callsIn_wide.2 ((run_sound follows namesOK (shapedN _) rfl hT (by simp) hr hx).mono ?_)
 rintro e w' ⟨x,rfl,hp,hB⟩
 exact⟨x,rfl,hp,hB⟩
abbrev l0:Tg:=.leaf 0
abbrev l1:Tg:=.leaf 1
theorem runZ2{x y z:Int}(hx:x.natAbs<B^100000)(hy:y.natAbs<B^100000){w:World}{u v:Value}(hu:ZAt w u x)(hv:ZAt w v y){F:List Fact}(hF:Facts (envZ x y) F){n:Nat}{f:FuncId}{bx by':Bool}(hbx:decide (x<0)=bx)(hby:decide (y<0)=by'){r:Tg}
  (hr:runF Tryz.prog clsN (TZ0 F) [3,116] [] n f (.cons (zs bx l0) (.cons (zs by' l1) .nil))=some (.cons (zc r) .nil)) (he:evZ (envZ x y) r=z) :
  CallsIn Fence.wide 0 Tryz.prog f #[u,v] w fun e w'=>∃v',e = .returned v'∧ZAt w' v' z∧Below w.heap.size w w':=by
 refine(runZ (toldZ0 (envZ_ok hx hy) hF) hr (xs:=#[u,v]) ⟨u,[v],rfl,zs_ok hu hbx rfl,v,[],rfl,zs_ok hv hby rfl,rfl⟩).mono ?_
 rintro e w' ⟨v',rfl,hp,hB⟩
 refine⟨v',rfl,?_,hB⟩
 rw [←he]
 exact(zc_ok _ v' w').1 hp
theorem zadd_calls(w:World)(u v:Value)(x y:Int)(hu:ZAt w u x)(hv:ZAt w v y)(hx:x.natAbs<B^100000)(hy:y.natAbs<B^100000) :
  CallsIn Fence.wide 0 Tryz.prog 160 #[u,v] w fun e w'=>∃v',e = .returned v'∧ZAt w' v' (x+y)∧Below w.heap.size w w':=by
 cases hbx:decide (x<0) <;> cases hby:decide (y<0)
 ·have h1:=of_decide_eq_false hbx
  have h2:=of_decide_eq_false hby
  exact runZ2 hx hy hu hv facts_nil (n:=50) (r:=.un 20 (.bin 11 l0 l1)) hbx hby (by kernel_rfl) (by show sgn false ((x.natAbs+y.natAbs:Nat):Int).natAbs=x+y;unfold sgn;simp;omega)
 ·have h1:=of_decide_eq_false hbx
  have h2:=of_decide_eq_true hby
  by_cases hc:y.natAbs≤x.natAbs
  ·have hF:∀c,cmpI x.natAbs y.natAbs=c→Facts (envZ x y) [.cmp l0 l1 c,.le l0 l1]:=by
    intro c hc' f hf
    rcases List.mem_cons.1 hf with rfl|hf
    ·exact hc'
    ·rcases List.mem_cons.1 hf with rfl|hf
     ·exact hc
     ·cases hf
   have he:evZ (envZ x y) (.un 20 (.bin 12 l0 l1))=x+y:=by show sgn false ((x.natAbs-y.natAbs:Nat):Int).natAbs=x+y;unfold sgn;simp;omega
   rcases Nat.lt_or_ge y.natAbs x.natAbs with hlt|hge
   ·exact runZ2 hx hy hu hv (hF 1 (cmpI_gt hlt)) (n:=50) hbx hby (by kernel_rfl) he
   ·exact runZ2 hx hy hu hv (hF 0 (by rw [show x.natAbs=y.natAbs by omega];exact cmpI_eq)) (n:=50) hbx hby (by kernel_rfl) he
  ·have hF:Facts (envZ x y) [.cmp l0 l1 (-1),.le l1 l0]:=by
    intro f hf
    rcases List.mem_cons.1 hf with rfl|hf
    ·exact cmpI_lt (by show x.natAbs<y.natAbs;omega)
    ·rcases List.mem_cons.1 hf with rfl|hf
     ·show x.natAbs≤y.natAbs;omega
     ·cases hf
   exact runZ2 hx hy hu hv hF (n:=50) (r:=.un 21 (.bin 12 l1 l0)) hbx hby (by kernel_rfl) (by show sgn true ((y.natAbs-x.natAbs:Nat):Int).natAbs=x+y;unfold sgn;simp;omega)
 ·have h1:=of_decide_eq_true hbx
  have h2:=of_decide_eq_false hby
  by_cases hc:y.natAbs≤x.natAbs
  ·have hF:∀c,cmpI x.natAbs y.natAbs=c→Facts (envZ x y) [.cmp l0 l1 c,.le l0 l1]:=by
    intro c hc' f hf
    rcases List.mem_cons.1 hf with rfl|hf
    ·exact hc'
    ·rcases List.mem_cons.1 hf with rfl|hf
     ·exact hc
     ·cases hf
   have he:evZ (envZ x y) (.un 21 (.bin 12 l0 l1))=x+y:=by show sgn true ((x.natAbs-y.natAbs:Nat):Int).natAbs=x+y;unfold sgn;simp;omega
   rcases Nat.lt_or_ge y.natAbs x.natAbs with hlt|hge
   ·exact runZ2 hx hy hu hv (hF 1 (cmpI_gt hlt)) (n:=50) hbx hby (by kernel_rfl) he
   ·exact runZ2 hx hy hu hv (hF 0 (by rw [show x.natAbs=y.natAbs by omega];exact cmpI_eq)) (n:=50) hbx hby (by kernel_rfl) he
  ·have hF:Facts (envZ x y) [.cmp l0 l1 (-1),.le l1 l0]:=by
    intro f hf
    rcases List.mem_cons.1 hf with rfl|hf
    ·exact cmpI_lt (by show x.natAbs<y.natAbs;omega)
    ·rcases List.mem_cons.1 hf with rfl|hf
     ·show x.natAbs≤y.natAbs;omega
     ·cases hf
   exact runZ2 hx hy hu hv hF (n:=50) (r:=.un 20 (.bin 12 l1 l0)) hbx hby (by kernel_rfl) (by show sgn false ((y.natAbs-x.natAbs:Nat):Int).natAbs=x+y;unfold sgn;simp;omega)
 ·have h1:=of_decide_eq_true hbx
  have h2:=of_decide_eq_true hby
  exact runZ2 hx hy hu hv facts_nil (n:=50) (r:=.un 21 (.bin 11 l0 l1)) hbx hby (by kernel_rfl) (by show sgn true ((x.natAbs+y.natAbs:Nat):Int).natAbs=x+y;unfold sgn;simp;omega)
theorem zmul_calls(w:World)(u v:Value)(x y:Int)(hu:ZAt w u x)(hv:ZAt w v y)(hx:x.natAbs<B^100000)(hy:y.natAbs<B^100000) :
  CallsIn Fence.wide 0 Tryz.prog 93 #[u,v] w fun e w'=>∃v',e = .returned v'∧ZAt w' v' (x*y)∧Below w.heap.size w w':=by
 have hp:=sgn_abs
 have hsx:∀b,decide (x<0)=b→sgn b x.natAbs=x:=fun b hb=>by subst hb;unfold sgn;simp;omega
 have hsy:∀b,decide (y<0)=b→sgn b y.natAbs=y:=fun b hb=>by subst hb;unfold sgn;simp;omega
 cases hbx:decide (x<0) <;> cases hby:decide (y<0)
 ·exact runZ2 hx hy hu hv facts_nil (n:=50) (r:=.un 20 (.bin 13 l0 l1)) hbx hby (by kernel_rfl) (by show sgn false ((x.natAbs*y.natAbs:Nat):Int).natAbs=x*y;rw [Int.natAbs_natCast,←hsx _ hbx,←hsy _ hby,sgn_mul,sgn_abs,sgn_abs];rfl)
 ·exact runZ2 hx hy hu hv facts_nil (n:=50) (r:=.un 21 (.bin 13 l0 l1)) hbx hby (by kernel_rfl) (by show sgn true ((x.natAbs*y.natAbs:Nat):Int).natAbs=x*y;rw [Int.natAbs_natCast,←hsx _ hbx,←hsy _ hby,sgn_mul,sgn_abs,sgn_abs];rfl)
 ·exact runZ2 hx hy hu hv facts_nil (n:=50) (r:=.un 21 (.bin 13 l0 l1)) hbx hby (by kernel_rfl) (by show sgn true ((x.natAbs*y.natAbs:Nat):Int).natAbs=x*y;rw [Int.natAbs_natCast,←hsx _ hbx,←hsy _ hby,sgn_mul,sgn_abs,sgn_abs];rfl)
 ·exact runZ2 hx hy hu hv facts_nil (n:=50) (r:=.un 20 (.bin 13 l0 l1)) hbx hby (by kernel_rfl) (by show sgn false ((x.natAbs*y.natAbs:Nat):Int).natAbs=x*y;rw [Int.natAbs_natCast,←hsx _ hbx,←hsy _ hby,sgn_mul,sgn_abs,sgn_abs];rfl)
theorem zquo_calls(w:World)(u v:Value)(x y:Int)(hu:ZAt w u x)(hv:ZAt w v y)(hx:x.natAbs<B^100000)(hy:y.natAbs<B^100000)(hy0:y.natAbs≠0) :
  CallsIn Fence.wide 0 Tryz.prog 157 #[u,v] w fun e w'=>∃v',e = .returned v'∧ZAt w' v' (sgn (decide (x<0) != decide (y<0)) (x.natAbs/y.natAbs))∧Below w.heap.size w w':=by
 have hF:Facts (envZ x y) [.nz l1]:=by
  intro f hf
  rcases List.mem_cons.1 hf with rfl|hf
  ·exact hy0
  ·cases hf
 cases hbx:decide (x<0) <;> cases hby:decide (y<0)
 ·exact runZ2 hx hy hu hv hF (n:=50) (r:=.un 20 (.bin 15 l0 l1)) hbx hby (by kernel_rfl) rfl
 ·exact runZ2 hx hy hu hv hF (n:=50) (r:=.un 21 (.bin 15 l0 l1)) hbx hby (by kernel_rfl) rfl
 ·exact runZ2 hx hy hu hv hF (n:=50) (r:=.un 21 (.bin 15 l0 l1)) hbx hby (by kernel_rfl) rfl
 ·exact runZ2 hx hy hu hv hF (n:=50) (r:=.un 20 (.bin 15 l0 l1)) hbx hby (by kernel_rfl) rfl
theorem zgcd_calls(w:World)(u v:Value)(x y:Int)(hu:ZAt w u x)(hv:ZAt w v y)(hx:x.natAbs<B^100000)(hy:y.natAbs<B^100000) :
  CallsIn Fence.wide 0 Tryz.prog 156 #[u,v] w fun e w'=>∃v',e = .returned v'∧ZAt w' v' ((Nat.gcd x.natAbs y.natAbs:Nat):Int)∧Below w.heap.size w w':=by
 refine(runZ (toldZ0 (envZ_ok hx hy) facts_nil) (n:=50) (r:=zc (.un 20 (.bin 14 l0 l1))) (ts:=.cons (zc l0) (.cons (zc l1) .nil)) (by kernel_rfl) (xs:=#[u,v]) ⟨u,[v],rfl,zc_leaf hu rfl,v,[],rfl,zc_leaf hv rfl,rfl⟩).mono ?_
 rintro e w' ⟨v',rfl,hp,hB⟩
 exact⟨v',rfl,(zc_ok _ v' w').1 hp,hB⟩
def okZ(n:Nat):Bool:=Nat.ble n 100000
def TZ(L:Nat)(F:List Fact):TTab:=
 TTab.or (t1 158 (tgZ F) (fun a=>okZ (sz L a)) fun a => .cons (zr F (.un 1 a)) .nil) <|
 TTab.or (t2 160 (tgZ F) (tgZ F) (fun a b=>okZ (sz L a) && okZ (sz L b)) fun a b => .cons (zr F (.bin 1 a b)) .nil) <|
 TTab.or (t2 93 (tgZ F) (tgZ F) (fun a b=>okZ (sz L a) && okZ (sz L b)) fun a b => .cons (zr F (.bin 3 a b)) .nil) <|
 TTab.or (t2 157 (tgZ F) (tgZ F) (fun a b=>okZ (sz L a) && okZ (sz L b) && hasNz F b) fun a b => .cons (zr F (.bin 17 a b)) .nil) <|
 TTab.or (t2 156 (tgZ F) (tgZ F) (fun a b=>okZ (sz L a) && okZ (sz L b)) fun a b => .cons (zr F (.bin 14 a b)) .nil) <|
 tSign F
theorem okZ_ok{L:Nat}(hE:EnvOK L E){a:Tg}(h:okZ (sz L a)=true):(evZ E a).natAbs<B^100000:=lt_lift 100000 (ev_sz hE a).1 (Nat.le_of_ble_eq_true h)
theorem toldZ{L:Nat}(hE:EnvOK L E){F:List Fact}(hF:Facts E F):ToldT Tryz.prog (GN E) (TZ L F):=by
 have mZ:=fun a x h v w hp=>tgZ_ok (E:=E) hF a x h v w hp
 have fin:∀{w:World} {z:Tg},(fun (e:Ending) (w':World)=>∃v',e = .returned v'∧ZAt w' v' (evZ E z)∧Below w.heap.size w w')=fun e w'=>∃v',e = .returned v'∧PackOK (GN E) (.cons (zr F z) .nil) v' w'∧Below w.heap.size w w':=by
  intro w z
  funext e w'
  apply propext
  constructor
  ·rintro⟨v',h1,h2,h3⟩;exact⟨v',h1,(zr_ok hF z v' w').2 h2,h3⟩
  ·rintro⟨v',h1,h2,h3⟩;exact⟨v',h1,(zr_ok hF z v' w').1 h2,h3⟩
 refine ToldT.or (told_t1 ⟨_,Tryz.func158,rfl⟩ _ mZ ?_) <| ToldT.or (told_t2 ⟨_,Tryz.func160,rfl⟩ _ _ mZ mZ ?_) <| ToldT.or (told_t2 ⟨_,Tryz.func93,rfl⟩ _ _ mZ mZ ?_) <| ToldT.or (told_t2 ⟨_,Tryz.func157,rfl⟩ _ _ mZ mZ ?_) <| ToldT.or (told_t2 ⟨_,Tryz.func156,rfl⟩ _ _ mZ mZ ?_) (told_sign hF)
 ·intro a hc w v hv
  rw [←fin]
  exact callsIn_wide.1 (zneg_calls w v _ hv (okZ_ok hE hc))
 ·intro a b hc w v u hv hu
  simp only [Bool.and_eq_true]at hc
  rw [←fin]
  exact callsIn_wide.1 (zadd_calls w v u _ _ hv hu (okZ_ok hE hc.1) (okZ_ok hE hc.2))
 ·intro a b hc w v u hv hu
  simp only [Bool.and_eq_true]at hc
  rw [←fin]
  exact callsIn_wide.1 (zmul_calls w v u _ _ hv hu (okZ_ok hE hc.1) (okZ_ok hE hc.2))
 ·intro a b hc w v u hv hu
  simp only [Bool.and_eq_true]at hc
  rw [←fin]
  exact callsIn_wide.1 (zquo_calls w v u _ _ hv hu (okZ_ok hE hc.1.1) (okZ_ok hE hc.1.2) (hasNz_ok hF hc.2))
 ·intro a b hc w v u hv hu
  simp only [Bool.and_eq_true]at hc
  rw [←fin]
  exact callsIn_wide.1 (zgcd_calls w v u _ _ hv hu (okZ_ok hE hc.1) (okZ_ok hE hc.2))
theorem envZ_ok'{L:Nat}(hL:0<L){x y:Int}(hx:x.natAbs<B^L)(hy:y.natAbs<B^L):EnvOK L (envZ x y):=⟨hL,fun k=>⟨by
 show(if k=0 then x else y).natAbs<_
 split <;> assumption,ratLe_zero hL⟩⟩
theorem zsub_calls(w:World)(u v:Value)(x y:Int)(hu:ZAt w u x)(hv:ZAt w v y)(hx:x.natAbs<B^50000)(hy:y.natAbs<B^50000) :
  CallsIn Fence.wide 0 Tryz.prog 152 #[u,v] w fun e w'=>∃v',e = .returned v'∧ZAt w' v' (x-y)∧Below w.heap.size w w':=by
 refine(runZ (toldZ (L:=50000) (envZ_ok' (by omega) hx hy) facts_nil) (n:=50) (r:=zc (.bin 1 l0 (.un 1 l1))) (ts:=.cons (zc l0) (.cons (zc l1) .nil)) (by kernel_rfl) (xs:=#[u,v]) ⟨u,[v],rfl,zc_leaf hu rfl,v,[],rfl,zc_leaf hv rfl,rfl⟩).mono ?_
 rintro e w' ⟨v',rfl,hp,hB⟩
 exact⟨v',rfl,(zc_ok _ v' w').1 hp,hB⟩
variable {E:Env}
def TZ2(L:Nat)(F:List Fact):TTab:=TTab.or (t2 152 (tgZ F) (tgZ F) (fun a b=>Nat.ble (sz L a) 50000 && Nat.ble (sz L b) 50000) fun a b => .cons (zr F (.bin 2 a b)) .nil) (TZ L F)
theorem toldZ2{L:Nat}(hE:EnvOK L E){F:List Fact}(hF:Facts E F):ToldT Tryz.prog (GN E) (TZ2 L F):=by
 have mZ:=fun a x h v w hp=>tgZ_ok (E:=E) hF a x h v w hp
 refine ToldT.or (told_t2 ⟨_,Tryz.func152,rfl⟩ _ _ mZ mZ ?_) (toldZ hE hF)
 intro a b hc w v u hv hu
 simp only [Bool.and_eq_true]at hc
 refine(callsIn_wide.1 (zsub_calls w v u _ _ hv hu (lt_lift 50000 (ev_sz hE a).1 (Nat.le_of_ble_eq_true hc.1)) (lt_lift 50000 (ev_sz hE b).1 (Nat.le_of_ble_eq_true hc.2)))).mono ?_
 rintro e w' ⟨v',rfl,hz,hb⟩
 exact⟨v',rfl,(zr_ok hF _ v' w').2 hz,hb⟩
theorem zcmp_calls(w:World)(u v:Value)(x y:Int)(hu:ZAt w u x)(hv:ZAt w v y)(hx:x.natAbs<B^50000)(hy:y.natAbs<B^50000) :
  CallsIn Fence.wide 0 Tryz.prog 99 #[u,v] w fun e w'=>e = .returned (.int .i64 (x-y).sign)∧Below w.heap.size w w':=by
 refine(runZ (toldZ2 (L:=50000) (envZ_ok' (by omega) hx hy) facts_nil) (n:=50) (r:=.tag (.un 109 (.bin 2 l0 l1))) (ts:=.cons (zc l0) (.cons (zc l1) .nil)) (by kernel_rfl) (xs:=#[u,v]) ⟨u,[v],rfl,zc_leaf hu rfl,v,[],rfl,zc_leaf hv rfl,rfl⟩).mono ?_
 rintro e w' ⟨v',rfl,hp,hB⟩
 have hp:v' = .int .i64 (x-y).sign:=hp
 exact⟨by rw [hp],hB⟩
def QAt(w:World)(v:Value)(q:Rat):Prop:=∃m1 m2,v = .agg #[.bool (decide (q.num<0)),m1,.bool false,m2]∧NatI w m1 q.num.natAbs∧NatI w m2 q.den
theorem QAt.below{w w':World}{v:Value}{q:Rat}(h:QAt w v q)(hb:Below w.heap.size w w'):QAt w' v q:=by
 obtain⟨m1,m2,e,h1,h2⟩:=h
 exact⟨m1,m2,e,h1.below hb,h2.below hb⟩
def cellsQ(a b:AT):AT:=
 match a,b with
 | .agg (.cons x (.cons y .nil)),.agg (.cons z (.cons u .nil)) => .agg (.cons x (.cons y (.cons z (.cons u .nil))))
 | _,_ => .nil
def qc(a:Tg):AT:=.agg (.cons (.tag (.un 107 (.un 30 a))) (.cons (.tag (.un 100 (.un 30 a))) (.cons (.val (.sc (.bool false))) (.cons (.tag (.un 100 (.un 31 a))) .nil))))
theorem qc_ok(a:Tg)(v:Value)(w:World):PieceOK (GN E) (qc a) v w↔QAt w v (evQ E a):=by
 constructor
 ·rintro⟨xs,rfl,x,r,e,h1,y,r2,rfl,h2,z,r3,rfl,h3,u,r4,rfl,h4,h5⟩
  have h5:r4 = []:=h5
  subst h5
  have e':xs=#[x,y,z,u]:=Array.toList_inj.1 (by simpa using e)
  subst e'
  have h1:x = .bool (decide ((evQ E a).num<0)):=h1
  have h3:some (Value.bool false)=some z:=h3
  cases h3
  subst h1
  exact⟨y,u,rfl,h2,h4⟩
 ·rintro⟨m1,m2,rfl,h1,h2⟩
  exact⟨_,rfl,_,_,rfl,rfl,_,_,rfl,h1,_,_,rfl,rfl,_,_,rfl,h2,rfl⟩
theorem int_quot{x y:Int}(_hy:y≠0):((x:Rat)/(y:Rat))=frac (decide (x<0) != decide (y<0)) x.natAbs y.natAbs:=by
 have h1:(x:Rat)=frac (decide (x<0)) x.natAbs 1:=(frac_self (x:Rat)).symm
 have h2:(y:Rat)=frac (decide (y<0)) y.natAbs 1:=(frac_self (y:Rat)).symm
 rw [h1,h2,frac_over,Nat.mul_one,Nat.one_mul]
theorem quot_parts{x y:Int}(hy:y≠0):((x:Rat)/(y:Rat)).num=sgn (decide (x<0) != decide (y<0)) (x.natAbs/Nat.gcd x.natAbs y.natAbs)∧((x:Rat)/(y:Rat)).den=y.natAbs/Nat.gcd x.natAbs y.natAbs:=by
 have hp:=frac_parts (neg:=decide (x<0) != decide (y<0)) (n:=x.natAbs) (d:=y.natAbs) (by omega)
 rw [int_quot hy]
 rw [Nat.gcd_comm y.natAbs]at hp
 obtain⟨h1,h2,h3⟩:=hp
 refine⟨?_,h2⟩
 obtain⟨q,hq⟩:∃q,(frac (decide (x<0) != decide (y<0)) x.natAbs y.natAbs).num=q:=⟨_,rfl⟩
 rw [hq]at h1 h3 ⊢
 obtain⟨b,hb⟩:∃b,(decide (x<0) != decide (y<0))=b:=⟨_,rfl⟩
 rw [hb]at h3 ⊢
 rw [←h1]
 cases b with
 | false=>unfold sgn;simp at h3 ⊢;omega
 | true=>
  unfold sgn
  simp at h3 ⊢
  by_cases hx:x=0
  ·subst hx
   simp at h1 h3
   omega
  ·have:=h3.2 hx;omega
theorem ratio_calls(w:World)(u v:Value)(x y:Int)(hu:ZAt w u x)(hv:ZAt w v y)(hx:x.natAbs<B^20000)(hy:y.natAbs<B^20000)(hy0:y≠0) :
  CallsIn Fence.wide 0 Tryz.prog 92 #[u,v] w fun e w'=>∃v',e = .returned v'∧QAt w' v' ((x:Rat)/(y:Rat))∧Below w.heap.size w w':=by
 have hg:Nat.gcd x.natAbs y.natAbs≠0:=by
  intro h
  have:=Nat.eq_zero_of_gcd_eq_zero_right h
  omega
 obtain⟨hn,hd⟩:=quot_parts (x:=x) hy0
 have hdiv:=Nat.div_pos (Nat.le_of_dvd (by omega) (Nat.gcd_dvd_right x.natAbs y.natAbs)) (Nat.pos_of_ne_zero hg)
 have hF:∀b,decide (y<0)=b→Facts (envZ x y) [.nz (.bin 14 l0 l1),.neg (.bin 17 l1 (.bin 14 l0 l1)) b]:=by
  intro b hb f hf
  rcases List.mem_cons.1 hf with rfl|hf
  ·exact hg
  ·rcases List.mem_cons.1 hf with rfl|hf
   ·show decide (sgn (decide (y<0) != decide (((Nat.gcd x.natAbs y.natAbs:Nat):Int)<0)) (y.natAbs/Nat.gcd x.natAbs y.natAbs)<0)=b
    have e:decide (((Nat.gcd x.natAbs y.natAbs:Nat):Int)<0)=false:=decide_eq_false (by omega)
    rw [e,hb]
    cases b with
    | false=>exact decide_eq_false (by rw [sgn_neg];simp)
    | true=>exact decide_eq_true (by rw [sgn_neg];exact⟨rfl,hdiv⟩)
   ·cases hf
 have e0:decide (((Nat.gcd x.natAbs y.natAbs:Nat):Int)<0)=false:=decide_eq_false (by omega)
 cases hby:decide (y<0)with
 | false=>
  refine(runZ (toldZ2 (L:=20000) (envZ_ok' (by omega) hx hy) (hF _ hby)) (n:=60) (r:=cellsQ (zc (.bin 17 l0 (.bin 14 l0 l1))) (zs false (.bin 17 l1 (.bin 14 l0 l1)))) (ts:=.cons (zc l0) (.cons (zc l1) .nil)) (by kernel_rfl) (xs:=#[u,v]) ⟨u,[v],rfl,zc_leaf hu rfl,v,[],rfl,zc_leaf hv rfl,rfl⟩).mono ?_
  rintro e w' ⟨v',rfl,⟨xs,rfl,a,r,e1,h1,b,r2,rfl,h2,c,r3,rfl,h3,d,r4,rfl,h4,h5⟩,hB⟩
  have h5:r4 = []:=h5
  subst h5
  have e':xs=#[a,b,c,d]:=Array.toList_inj.1 (by simpa using e1)
  subst e'
  have h3:some (Value.bool false)=some c:=h3
  cases h3
  have en:evZ (envZ x y) (.bin 17 l0 (.bin 14 l0 l1))=((x:Rat)/(y:Rat)).num:=by
   rw [hn,hby]
   show sgn (decide (x<0) != decide (((Nat.gcd x.natAbs y.natAbs:Nat):Int)<0)) (x.natAbs/Nat.gcd x.natAbs y.natAbs)=_
   rw [e0]
  have ed:evN (envZ x y) (.bin 17 l1 (.bin 14 l0 l1))=((x:Rat)/(y:Rat)).den:=by
   rw [hd]
   exact sgn_abs _ _
  refine⟨_,rfl,⟨b,d,?_,?_,?_⟩,hB⟩
  ·have h1:a = .bool (decide (evZ (envZ x y) (.bin 17 l0 (.bin 14 l0 l1))<0)):=h1
   rw [h1,en]
  ·rw [←en];exact h2
  ·rw [←ed];exact h4
 | true=>
  refine(runZ (toldZ2 (L:=20000) (envZ_ok' (by omega) hx hy) (hF _ hby)) (n:=60) (r:=cellsQ (zc (.un 1 (.bin 17 l0 (.bin 14 l0 l1)))) (zc (.un 1 (.bin 17 l1 (.bin 14 l0 l1))))) (ts:=.cons (zc l0) (.cons (zc l1) .nil)) (by kernel_rfl) (xs:=#[u,v]) ⟨u,[v],rfl,zc_leaf hu rfl,v,[],rfl,zc_leaf hv rfl,rfl⟩).mono ?_
  rintro e w' ⟨v',rfl,⟨xs,rfl,a,r,e1,h1,b,r2,rfl,h2,c,r3,rfl,h3,d,r4,rfl,h4,h5⟩,hB⟩
  have h5:r4 = []:=h5
  subst h5
  have e':xs=#[a,b,c,d]:=Array.toList_inj.1 (by simpa using e1)
  subst e'
  have en:evZ (envZ x y) (.un 1 (.bin 17 l0 (.bin 14 l0 l1)))=((x:Rat)/(y:Rat)).num:=by
   rw [hn,hby]
   show -sgn (decide (x<0) != decide (((Nat.gcd x.natAbs y.natAbs:Nat):Int)<0)) (x.natAbs/Nat.gcd x.natAbs y.natAbs)=_
   rw [e0]
   cases decide (x<0) <;> simp [sgn]
  have ez:evZ (envZ x y) (.un 1 (.bin 17 l1 (.bin 14 l0 l1)))=((y.natAbs/Nat.gcd x.natAbs y.natAbs:Nat):Int):=by
   show -sgn (decide (y<0) != decide (((Nat.gcd x.natAbs y.natAbs:Nat):Int)<0)) (y.natAbs/Nat.gcd x.natAbs y.natAbs)=_
   rw [e0,hby]
   simp [sgn]
  have ed:evN (envZ x y) (.un 1 (.bin 17 l1 (.bin 14 l0 l1)))=((x:Rat)/(y:Rat)).den:=by
   rw [hd]
   show(evZ (envZ x y) (.un 1 (.bin 17 l1 (.bin 14 l0 l1)))).natAbs=_
   rw [ez];rfl
  refine⟨_,rfl,⟨b,d,?_,?_,?_⟩,hB⟩
  ·have h1:a = .bool (decide (evZ (envZ x y) (.un 1 (.bin 17 l0 (.bin 14 l0 l1)))<0)):=h1
   have h3:c = .bool (decide (evZ (envZ x y) (.un 1 (.bin 17 l1 (.bin 14 l0 l1)))<0)):=h3
   rw [h1,en,h3,ez]
   have:decide (((y.natAbs/Nat.gcd x.natAbs y.natAbs:Nat):Int)<0)=false:=decide_eq_false (by omega)
   rw [this]
  ·rw [←en];exact h2
  ·rw [←ed];exact h4
def TQ0(L:Nat)(F:List Fact):TTab:=TTab.or (t2 92 (tgZ F) (tgZ F) (fun a b=>Nat.ble (sz L a) 20000 && Nat.ble (sz L b) 20000 && hasNz F b) fun a b => .cons (qc (.bin 40 a b)) .nil) <|
 TTab.or (t2 99 (tgZ F) (tgZ F) (fun a b=>Nat.ble (sz L a) 50000 && Nat.ble (sz L b) 50000) fun a b=>one (.un 109 (.bin 2 a b))) (TZ2 L F)
theorem bleZ{L M:Nat}(hE:EnvOK L E){a:Tg}(h:Nat.ble (sz L a) M=true):(evZ E a).natAbs<B^M:=Nat.lt_of_lt_of_le (ev_sz hE a).1 (pow_mono (Nat.le_of_ble_eq_true h))
theorem toldQ0{L:Nat}(hE:EnvOK L E){F:List Fact}(hF:Facts E F):ToldT Tryz.prog (GN E) (TQ0 L F):=by
 have mZ:=fun a x h v w hp=>tgZ_ok (E:=E) hF a x h v w hp
 refine ToldT.or (told_t2 ⟨_,Tryz.func92,rfl⟩ _ _ mZ mZ ?_) <| ToldT.or (told_t2 ⟨_,Tryz.func99,rfl⟩ _ _ mZ mZ ?_) (toldZ2 hE hF)
 ·intro a b hc w v u hv hu
  simp only [Bool.and_eq_true]at hc
  have hz:=hasNz_ok hF hc.2
  refine(callsIn_wide.1 (ratio_calls w v u _ _ hv hu (bleZ (M:=20000) hE hc.1.1) (bleZ (M:=20000) hE hc.1.2) (by intro h;exact hz (by show(evZ E b).natAbs=0;rw [h];rfl)))).mono ?_
  rintro e w' ⟨v',rfl,hz,hb⟩
  exact⟨v',rfl,(qc_ok _ v' w').2 hz,hb⟩
 ·intro a b hc w v u hv hu
  simp only [Bool.and_eq_true]at hc
  refine(callsIn_wide.1 (zcmp_calls w v u _ _ hv hu (bleZ (M:=50000) hE hc.1) (bleZ (M:=50000) hE hc.2))).mono ?_
  rintro e w' ⟨rfl,hb⟩
  exact⟨_,rfl,rfl,hb⟩
def envQ(p q:Rat):Env:=⟨fun _=>0,fun k=>if k=0 then p else q⟩
theorem envQ_ok{L:Nat}(hL:0<L){p q:Rat}(hp:RatLe p L)(hq:RatLe q L):EnvOK L (envQ p q):=⟨hL,fun k=>⟨pow_pos' _,by
 show RatLe (if k=0 then p else q) L
 split <;> assumption⟩⟩
theorem qc_leaf{w:World}{v:Value}{q:Rat}(h:QAt w v q){k:Nat}(hz:E.q k=q):PieceOK (GN E) (qc (.leaf k)) v w:=(qc_ok _ v w).2 (by
 show QAt w v (E.q k)
 rw [hz];exact h)
def fQ(l:List Fact):List Fact:=.neg (.un 31 l0) false :: .neg (.un 31 l1) false :: l
theorem factsQ{p q:Rat}{l:List Fact}(h:Facts (envQ p q) l):Facts (envQ p q) (fQ l):=by
 intro f hf
 rcases List.mem_cons.1 hf with rfl|hf
 ·exact decide_eq_false (by show ¬((p.den:Nat):Int)<0;omega)
 ·rcases List.mem_cons.1 hf with rfl|hf
  ·exact decide_eq_false (by show ¬((q.den:Nat):Int)<0;omega)
  ·exact h f hf
theorem sgnQ_calls(w:World)(u:Value)(p:Rat)(hu:QAt w u p)(hp:RatLe p 4700) :
  CallsIn Fence.wide 0 Tryz.prog 35 #[u] w fun e w'=>e = .returned (.int .i64 p.num.sign)∧Below w.heap.size w w':=by
 refine(runZ (toldQ0 (envQ_ok (by omega) hp hp) (factsQ (l:=[]) facts_nil)) (n:=60) (r:=.tag (.un 109 (.un 30 l0))) (ts:=.cons (qc l0) .nil) (by kernel_rfl) (xs:=#[u]) ⟨u,[],rfl,qc_leaf hu rfl,rfl⟩).mono ?_
 rintro e w' ⟨v',rfl,hp,hB⟩
 have hp:v' = .int .i64 p.num.sign:=hp
 exact⟨by rw [hp],hB⟩
end Go.Num
