/-
  'Ruin' of bad arguments, all of them; parts of the law WalkRuin. A block whose content is known to the last cell; a way to bring cases of a 
  Conditions: see each statement.
-/
import Derived.Test.YtepakfjilnpodaaGreatDoorRBAX
import Derived.Test.YtepakfjilnpodaaGreatDoorRBAY
import Derived.Test.YtepakfjilnpodaaGreatDoorRBAT
import Derived.Test.YtepakfjilnpodaaGreatDoorRBAR
import Derived.Test.YtepakfjilnpodaaGreatDoorRBAZ
import Derived.Test.YtepakfjilnpodaaGreatDoorRBBA
import Derived.Test.YtepakfjilnpodaaGreatDoorRBBB
import Derived.Test.YtepakfjilnpodaaGreatDoorRBBC
import Derived.Test.YtepakfjilnpodaaGreatDoorRBBD
import Derived.Test.YtepakfjilnpodaaGreatDoorRBBE
import Derived.Test.YtepakfjilnpodaaGreatDoorRBAV
import Derived.Test.YtepakfjilnpodaaGreatDoorRBAO
set_option maxRecDepth 100000
set_option maxHeartbeats 4000000
namespace Go.Eng
open Go.RowKit Go.Num Go.Proofs Go.Proofs.YtepakfjilnpodaaGreatDoor
section
variable {K:World→Prop} {ks:List Nat} {nt:Nat} {ops:Array Oper} {bs bars r:List Nat} {i:Nat} {a:CAct} {ov:List (Tmp × Value)} {w:World} {Q:CAct→World→Prop} {o:Oper} {gd:Option (Nat × Bool)}
theorem GS.leq{t t2:TypeId}{x y:Operand}{p q:Int}{b:Bool}{d:Tmp}{ty:TypeId}{ps:String}{af:Array Edge}(hpq:decide (p≤q)=b)
  (ho:ops[i]? = some {op:=.binOp .leq t x y t2,dst:=some d,type:=ty,pos:=ps,after:=af,guard:=gd}) (hg:GSt ops a ov true gd) (hb:bars.contains i=false) (hd:Nat.blt d nt=true)
  (hx:Go.Eng.look a ov x = .int .i64 p) (hy:Go.Eng.look a ov y = .int .i64 q) (h:GS K ks Tryz.prog nt ops bs bars Q r a ((d,.bool b) :: ov) w):GS K ks Tryz.prog nt ops bs bars Q (i :: r) a ov w:=
 GS.read _ ho hg rfl hb hd (fun w' _=>by
  rw [←hpq];simp [execOp,hx,hy,binOp,eqGuard,Op.intCmp,Sem.run_pure,go_sem]) h
theorem GS.asg{P:Program}{x:Operand}{v:Value}{d:Tmp}{ty:TypeId}{ps:String}{af:Array Edge}(ho:ops[i]? = some {op:=.assign x,dst:=some d,type:=ty,pos:=ps,after:=af,guard:=gd})(hg:GSt ops a ov true gd)(hb:bars.contains i=false)(hd:Nat.blt d nt=true)
  (hx:Go.Eng.look a ov x=v) (h:GS K ks P nt ops bs bars Q r a ((d,v) :: ov) w):GS K ks P nt ops bs bars Q (i :: r) a ov w:=
 GS.read v ho hg rfl hb hd (fun w' _=>by subst hx;rfl) h
end
end Go.Eng
namespace Go.Num
open Go.Eng Go.Shelf Go.RowKit Go.Sort Go.Proofs Go.Proofs.YtepakfjilnpodaaGreatDoor
theorem zot(p q:Rat):(0≤(p-q).num↔q.num*p.den≤p.num*q.den)∧((p-q).num≤0↔p.num*q.den≤q.num*p.den):=by
 constructor
 ·rw [Rat.num_nonneg,←Rat.le_iff_sub_nonneg,Rat.le_iff]
 ·have e:(q-p).num = -(p-q).num:=by
   rw [show q-p = -(p-q)by rw [Rat.neg_sub]];rfl
  have h:0≤(q-p).num↔p.num*q.den≤q.num*p.den:=by rw [Rat.num_nonneg,←Rat.le_iff_sub_nonneg,Rat.le_iff]
  rw [←h,e];omega
theorem zpY(p q:Rat):(p.num*(q.den:Int)-q.num*(p.den:Int)).sign=sgnR (p-q):=by
 have h:=zot p q;obtain⟨x,hx⟩:∃x,p.num*(q.den:Int)=x:=⟨_,rfl⟩;obtain⟨y,hy⟩:∃y,q.num*(p.den:Int)=y:=⟨_,rfl⟩;obtain⟨z,hz⟩:∃z,(p-q).num=z:=⟨_,rfl⟩;rw [hx,hy,hz]at h;rw [hx,hy];unfold sgnR;rw [hz];rcases Int.lt_trichotomy x y with hl|hl|hl
 ·rw [Int.sign_eq_neg_one_of_neg (by omega),if_pos (by omega)]
 ·rw [show x-y=0 by omega,if_neg (by omega),if_pos (by omega)];rfl
 ·rw [Int.sign_eq_one_of_pos (by omega),if_neg (by omega),if_neg (by omega)]
theorem zpZ(q:Rat):q.num.sign=sgnR q:=by
 unfold sgnR;rcases Int.lt_trichotomy q.num 0 with h|h|h
 ·rw [Int.sign_eq_neg_one_of_neg h,if_pos h]
 ·rw [h];rfl
 ·rw [Int.sign_eq_one_of_pos h,if_neg (by omega),if_neg (by omega)]
theorem zef(q:Rat):sgnR q = -1∨sgnR q=0∨sgnR q=1:=by
 unfold sgnR;split
 ·exact .inl rfl
 ·split
  ·exact .inr (.inl rfl)
  ·exact .inr (.inr rfl)
theorem zmM(q:Rat):(0<q↔sgnR q=1)∧(q<0↔sgnR q = -1):=by
 have h1:=@zjR q;have h2:=@zhF q;have h0:q=0→sgnR q=0:=fun e=>by rw [e];rfl
 rcases Classical.em (0<q)with a|a
 ·have:=h1 a;refine⟨⟨fun _=>this,fun _=>a⟩,⟨fun b => ?_,fun b => ?_⟩⟩
  ·exact absurd b (Rat.not_lt.2 (Rat.le_of_lt a))
  ·rw [this]at b;cases b
 ·rcases Classical.em (q<0)with b|b
  ·have:=h2 b;refine⟨⟨fun c=>absurd c a,fun c => ?_⟩,⟨fun _=>this,fun _=>b⟩⟩;rw [this]at c;cases c
  ·have e:q=0:=Rat.le_antisymm (Rat.not_lt.1 a) (Rat.not_lt.1 b);have:=h0 e;refine⟨⟨fun c=>absurd c a,fun c => ?_⟩,⟨fun c=>absurd c b,fun c => ?_⟩⟩
   ·rw [this]at c;cases c
   ·rw [this]at c;cases c
theorem zgY{w:World}{u:Value}{p:Rat}(hu:QAt w u p)(hp:zad p 4700):CallsIn Fence.wide 0 Tryz.prog 35 #[u] w fun e w'=>∃v,e = .returned v∧v = .int .i64 (sgnR p)∧Below w.heap.size w w':=
 (znG w u p hu hp).mono (by rintro e w' ⟨rfl,hb⟩;exact⟨_,rfl,by rw [zpZ],hb⟩)
theorem zir{w:World}{u v:Value}{p q:Rat}(hu:QAt w u p)(hv:QAt w v q)(hp:zad p 4700)(hq:zad q 4700):CallsIn Fence.wide 0 Tryz.prog 36 #[u,v] w fun e w'=>∃v,e = .returned v∧v = .int .i64 (sgnR (p-q))∧Below w.heap.size w w':=
 (ziU w u v p q hu hv hp hq).mono (by rintro e w' ⟨rfl,hb⟩;exact⟨_,rfl,by rw [zpY],hb⟩)
theorem zfc{w:World}{u:Value}{p:Rat}(hu:QAt w u p):CallsIn Fence.wide 0 Tryz.prog 37 #[u,.int .i64 6] w fun e w'=>∃v,e = .returned v∧v = .bool (zaU p 6)∧Below w.heap.size w w':=
 (zeL w u p 6 hu).mono (by rintro e w' ⟨rfl,hb⟩;exact⟨_,rfl,rfl,hb⟩)
theorem zkK{q:Rat}(h:zaU q 6=true):zad q 1:=by
 unfold zaU at h;rw [Bool.and_eq_true]at h;have h1:=of_decide_eq_true h.1;have h2:=of_decide_eq_true h.2;exact⟨zj8 1 (by omega),zj8 1 (by omega)⟩
def badB(q:Rat)(f t:Int):Bool:=decide (sgnR q≤0) || decide (0≤sgnR (q-((1:Int):Rat))) || !zaU q 6 || decide (t<1) || decide (30<t) || decide (f<0) || decide (t<f)
theorem zp1(w:World)(v:Value)(q:Rat)(f t:Int)(h:zaj w v q)(hq:zad q 2223)(hbad:badB q f t=true)(htab:zbh w) :
  CallsIn Fence.wide 0 Tryz.prog 14 #[v,.int .i64 f,.int .i64 t] w fun e w'=>∃a b,e = .returned (.tuple #[a,b,.int .i64 1])∧zaj w' a 0∧zaj w' b 0∧Below w.heap.size w w':=by
 have h3:=zef q;have h4:=zef (q-((1:Int):Rat));have hnum:sgnR q=1→0≤q.num:=fun e=>by
  unfold sgnR at e;split at e
  ·cases e
  ·omega
 cases hb0:zcv q with
 | false=>exact zgc w v q f t h hq false _ _ hb0 rfl rfl (.inl rfl) htab
 | true=>
  have hsm:zaU q 6=true:=by
   unfold zcv at hb0;rw [Bool.and_eq_true]at hb0;exact hb0.2
  have hn0:0≤q.num:=by
   unfold zcv at hb0;rw [Bool.and_eq_true]at hb0;exact of_decide_eq_true hb0.1
  have hL:=zkK hsm;have hsg:sgnR q ≠ -1:=by
   intro e;unfold sgnR at e;split at e
   ·omega
   ·split at e <;> cases e
  rcases h3 with e|e|e
  ·exact absurd e hsg
  ·exact zgc w v q f t h hq true 0 _ hb0 e rfl (.inr (.inl ⟨rfl,rfl⟩)) htab
  ·rcases h4 with k|k|k
   ·unfold badB at hbad;rw [e,k,hsm]at hbad;by_cases c1:t<1
    ·exact zoL w v q f t h hL true 1 (-1) hb0 e k ⟨rfl,rfl,rfl⟩ c1 htab
    ·by_cases c2:30<t
     ·exact zoK w v q f t h hL true 1 (-1) hb0 e k ⟨rfl,rfl,rfl⟩ c2 htab
     ·by_cases c3:f<0
      ·exact zoJ w v q f t h hL true 1 (-1) hb0 e k ⟨rfl,rfl,rfl⟩ ⟨by omega,by omega,c3⟩ htab
      ·by_cases c4:t<f
       ·exact zoI w v q f t h hL true 1 (-1) hb0 e k ⟨rfl,rfl,rfl⟩ ⟨by omega,by omega,by omega,c4⟩ htab
       ·simp [c1,c2,c3,c4]at hbad
   ·exact zgc w v q f t h hq true 1 0 hb0 e k (.inr (.inr ⟨rfl,rfl,.inl rfl⟩)) htab
   ·exact zgc w v q f t h hq true 1 1 hb0 e k (.inr (.inr ⟨rfl,rfl,.inr rfl⟩)) htab
theorem zfG:zad ((1:Int):Rat) 4700:=(zbW (z:=1) (L:=1) (by decide) (by decide)).mono (by decide)
def unB:Code→Code
 | .block _ a=>a
 | c=>c
def unL:Code→Code
 | .loop a=>a
 | c=>c
noncomputable def b5:Code:=Tryz.f5.body.getD .skip
noncomputable def p57:Code:=sq1 (sq2 (unB (sq1 (sq2 (unL (unB (sq2 (sq1 (sq2 (sq2 (sq2 b5)))))))))))
end Go.Num
namespace Go.Num
open Go.Eng Go.Shelf Go.RowKit Go.Sort Go.Proofs Go.Proofs.YtepakfjilnpodaaGreatDoor
def zfy(c:CAct)(w1:World)(b:Bool)(e:Exit)(c':CAct)(w2:World):Prop:=
 e = .normal∧∃z42 z43 z44 z45 z46 z47 z48 z49 z50 z51 z52 z53 z54 z55 z56 z57 z58 z59 z60 z61 z62 z63 z64 z65 z66 z67 z68 z69 z70 z71 z72 z73,c'=zaH c [(15,.bool b),(73,z73),(72,z72),(71,z71),(70,z70),(69,z69),(68,z68),(67,z67),(66,z66),(65,z65),(64,z64),(63,z63),(62,z62),(61,z61),(60,z60),(59,z59),(58,z58),(57,z57),(56,z56),(55,z55),(54,z54),(53,z53),(52,z52),(51,z51),(50,z50),(49,z49),(48,z48),(47,z47),(46,z46),(45,z45),(44,z44),(43,z43),(42,z42)]∧Below w1.heap.size w1 w2
theorem zr0{l:List Oper}(hl:l=zfx p57){c:CAct}{w1:World}(hsz:c.tmps.size=128){g9:Nat}{x0 x1 x2 x3:Value}{q:Rat}{sg:Int}(h9:c.tmps.getD 9 undef = .pointer (some ⟨g9,0,none⟩))(hbx:BoxL w1 g9 [x0,x1,x2,x3])(hq:QAt w1 (.agg #[x0,x1,x2,x3]) q)(hqL:zad q 4700)(hsg:sgnR q=sg)(hc:sg≤0):(Code.region 7 l.toArray true).wpIn Fence.wide 0 Tryz.prog (zfy c w1 true) c w1:=by
 subst hl;refine za0 (ro:=none) [1,5,6,7,12] (List.range 33) [0,1,3,7,15,15,47,127,255,511,1023,2047,4095,8191,16383,32767,65535,131071,262143,524287,1048575,2097151,4194303,8388607,16777215,33554431,67108863,134217727,268435455,268435455,1073741823,2147483647,4294967295] zak rfl 128 hsz (by kernel_rfl) (by kernel_rfl) ?_;have hB:Below w1.heap.size w1 w1.drew:=zab w1;generalize w1.drew=wd at hB ⊢
 refine GS.ldn (p:=⟨g9,0,none⟩) [x0,x1,x2,x3] lmQ (hbx.below hB).at9 rfl rfl rfl rfl rfl rfl (by decide) h9 ?_;refine GS.call [.agg #[x0,x1,x2,x3]] Tryz.func35 rfl zac rfl rfl rfl rfl rfl rfl (zgY (hq.below hB) hqL) fun v w2 h hB2 => ?_
 replace hB:=hB.trans (hB2.mono hB.size);subst h;rw [hsg];refine GS.leq (b:=true) (decide_eq_true (by omega)) rfl rfl rfl rfl rfl rfl ?_;refine GS.mv (v:=.bool true) rfl rfl rfl rfl rfl ?_;refine GS.skip rfl rfl rfl ⟨_,_,_,rfl,rfl,rfl,rfl⟩ ?_;refine GS.skip rfl rfl rfl ⟨_,_,_,rfl,rfl,rfl,rfl⟩ ?_;refine GS.skip rfl rfl rfl ⟨_,_,_,rfl,rfl,rfl,rfl⟩ ?_;refine GS.skip rfl rfl rfl ⟨_,_,_,rfl,rfl,rfl,rfl⟩ ?_;refine GS.skip rfl rfl rfl ⟨_,_,_,rfl,rfl,rfl,rfl⟩ ?_;refine GS.pick (b:=true) (v:=.bool true) rfl rfl rfl rfl rfl rfl ?_;refine GS.mv (v:=.bool true) rfl rfl rfl rfl rfl ?_;refine GS.skip rfl rfl rfl ⟨_,_,_,rfl,rfl,rfl,rfl⟩ ?_;refine GS.skip rfl rfl rfl ⟨_,_,_,rfl,rfl,rfl,rfl⟩ ?_;refine GS.skip rfl rfl rfl ⟨_,_,_,rfl,rfl,rfl,rfl⟩ ?_;refine GS.pick (b:=true) (v:=.bool true) rfl rfl rfl rfl rfl rfl ?_;refine GS.mv (v:=.bool true) rfl rfl rfl rfl rfl ?_;refine GS.skip rfl rfl rfl ⟨_,_,_,rfl,rfl,rfl,rfl⟩ ?_;refine GS.skip rfl rfl rfl ⟨_,_,_,rfl,rfl,rfl,rfl⟩ ?_;refine GS.pick (b:=true) (v:=.bool true) rfl rfl rfl rfl rfl rfl ?_;refine GS.mv (v:=.bool true) rfl rfl rfl rfl rfl ?_;refine GS.skip rfl rfl rfl ⟨_,_,_,rfl,rfl,rfl,rfl⟩ ?_;refine GS.skip rfl rfl rfl ⟨_,_,_,rfl,rfl,rfl,rfl⟩ ?_;refine GS.pick (b:=true) (v:=.bool true) rfl rfl rfl rfl rfl rfl ?_;refine GS.mv (v:=.bool true) rfl rfl rfl rfl rfl ?_;refine GS.skip rfl rfl rfl ⟨_,_,_,rfl,rfl,rfl,rfl⟩ ?_;refine GS.skip rfl rfl rfl ⟨_,_,_,rfl,rfl,rfl,rfl⟩ ?_;refine GS.pick (b:=true) (v:=.bool true) rfl rfl rfl rfl rfl rfl ?_;refine GS.mv (v:=.bool true) rfl rfl rfl rfl rfl ?_;refine GS.skip rfl rfl rfl ⟨_,_,_,rfl,rfl,rfl,rfl⟩ ?_;refine GS.skip rfl rfl rfl ⟨_,_,_,rfl,rfl,rfl,rfl⟩ ?_;refine GS.skip rfl rfl rfl ⟨_,_,_,rfl,rfl,rfl,rfl⟩ ?_;refine GS.pick (b:=true) (v:=.bool true) rfl rfl rfl rfl rfl rfl ?_;refine GS.asg (v:=.bool true) rfl rfl rfl rfl rfl ?_;exact GS.done ⟨rfl,_,_,_,_,_,_,_,_,_,_,_,_,_,_,_,_,_,_,_,_,_,_,_,_,_,_,_,_,_,_,_,_,rfl,hB⟩
theorem zrZ{l:List Oper}(hl:l=zfx p57){c:CAct}{w1:World}(hsz:c.tmps.size=128){g9:Nat}{x0 x1 x2 x3:Value}{q:Rat}{sg cm:Int}(h9:c.tmps.getD 9 undef = .pointer (some ⟨g9,0,none⟩))(hbx:BoxL w1 g9 [x0,x1,x2,x3])(hq:QAt w1 (.agg #[x0,x1,x2,x3]) q)(hqL:zad q 4700)(hsg:sgnR q=sg)(hcm:sgnR (q-((1:Int):Rat))=cm)(hc:0<sg∧0≤cm):(Code.region 7 l.toArray true).wpIn Fence.wide 0 Tryz.prog (zfy c w1 true) c w1:=by
 subst hl;refine za0 (ro:=none) [1,5,6,7,12] (List.range 33) [0,1,3,7,15,15,47,127,255,511,1023,2047,4095,8191,16383,32767,65535,131071,262143,524287,1048575,2097151,4194303,8388607,16777215,33554431,67108863,134217727,268435455,268435455,1073741823,2147483647,4294967295] zak rfl 128 hsz (by kernel_rfl) (by kernel_rfl) ?_;have hB:Below w1.heap.size w1 w1.drew:=zab w1;generalize w1.drew=wd at hB ⊢
 refine GS.ldn (p:=⟨g9,0,none⟩) [x0,x1,x2,x3] lmQ (hbx.below hB).at9 rfl rfl rfl rfl rfl rfl (by decide) h9 ?_;refine GS.call [.agg #[x0,x1,x2,x3]] Tryz.func35 rfl zac rfl rfl rfl rfl rfl rfl (zgY (hq.below hB) hqL) fun v w2 h hB2 => ?_
 replace hB:=hB.trans (hB2.mono hB.size);subst h;rw [hsg];refine GS.leq (b:=false) (decide_eq_false (by omega)) rfl rfl rfl rfl rfl rfl ?_;refine GS.mv (v:=.bool false) rfl rfl rfl rfl rfl ?_;refine GS.ldn (p:=⟨g9,0,none⟩) [x0,x1,x2,x3] lmQ (hbx.below hB).at9 rfl rfl ⟨_,_,_,rfl,rfl,rfl,rfl⟩ rfl rfl rfl (by decide) h9 ?_;refine GS.call [.int .i64 1] Tryz.func31 rfl zac rfl ⟨_,_,_,rfl,rfl,rfl,rfl⟩ rfl rfl rfl rfl (zaM _ 1 (by decide) (by decide)) fun v w2 h hB2 => ?_
 replace hB:=hB.trans (hB2.mono hB.size);obtain⟨v31,h31,e31⟩:∃u,ZAt w2 u 1∧u=v:=⟨_,h,rfl⟩;subst e31;clear h;refine GS.call [v31] Tryz.func30 rfl zac rfl ⟨_,_,_,rfl,rfl,rfl,rfl⟩ rfl rfl rfl rfl (zbr _ _ 1 h31) fun v w2 h hB2 => ?_
 replace hB:=hB.trans (hB2.mono hB.size);obtain⟨v30,h30,e30⟩:∃u,QAt w2 u ((1:Int):Rat)∧u=v:=⟨_,h,rfl⟩;subst e30;clear h;refine GS.call [.agg #[x0,x1,x2,x3],v30] Tryz.func36 rfl zac rfl ⟨_,_,_,rfl,rfl,rfl,rfl⟩ rfl rfl rfl rfl (zir (hq.below hB) h30 hqL zfG) fun v w2 h hB2 => ?_
 replace hB:=hB.trans (hB2.mono hB.size);subst h;rw [hcm];refine GS.geq (b:=true) (decide_eq_true (by omega)) rfl ⟨_,_,_,rfl,rfl,rfl,rfl⟩ rfl rfl rfl rfl ?_;refine GS.pick (b:=false) (v:=.bool true) rfl rfl rfl rfl rfl rfl ?_;refine GS.mv (v:=.bool true) rfl rfl rfl rfl rfl ?_;refine GS.skip rfl rfl rfl ⟨_,_,_,rfl,rfl,rfl,rfl⟩ ?_;refine GS.skip rfl rfl rfl ⟨_,_,_,rfl,rfl,rfl,rfl⟩ ?_;refine GS.skip rfl rfl rfl ⟨_,_,_,rfl,rfl,rfl,rfl⟩ ?_;refine GS.pick (b:=true) (v:=.bool true) rfl rfl rfl rfl rfl rfl ?_;refine GS.mv (v:=.bool true) rfl rfl rfl rfl rfl ?_;refine GS.skip rfl rfl rfl ⟨_,_,_,rfl,rfl,rfl,rfl⟩ ?_;refine GS.skip rfl rfl rfl ⟨_,_,_,rfl,rfl,rfl,rfl⟩ ?_;refine GS.pick (b:=true) (v:=.bool true) rfl rfl rfl rfl rfl rfl ?_;refine GS.mv (v:=.bool true) rfl rfl rfl rfl rfl ?_;refine GS.skip rfl rfl rfl ⟨_,_,_,rfl,rfl,rfl,rfl⟩ ?_;refine GS.skip rfl rfl rfl ⟨_,_,_,rfl,rfl,rfl,rfl⟩ ?_;refine GS.pick (b:=true) (v:=.bool true) rfl rfl rfl rfl rfl rfl ?_;refine GS.mv (v:=.bool true) rfl rfl rfl rfl rfl ?_;refine GS.skip rfl rfl rfl ⟨_,_,_,rfl,rfl,rfl,rfl⟩ ?_;refine GS.skip rfl rfl rfl ⟨_,_,_,rfl,rfl,rfl,rfl⟩ ?_;refine GS.pick (b:=true) (v:=.bool true) rfl rfl rfl rfl rfl rfl ?_;refine GS.mv (v:=.bool true) rfl rfl rfl rfl rfl ?_;refine GS.skip rfl rfl rfl ⟨_,_,_,rfl,rfl,rfl,rfl⟩ ?_;refine GS.skip rfl rfl rfl ⟨_,_,_,rfl,rfl,rfl,rfl⟩ ?_;refine GS.skip rfl rfl rfl ⟨_,_,_,rfl,rfl,rfl,rfl⟩ ?_;refine GS.pick (b:=true) (v:=.bool true) rfl rfl rfl rfl rfl rfl ?_;refine GS.asg (v:=.bool true) rfl rfl rfl rfl rfl ?_;exact GS.done ⟨rfl,_,_,_,_,_,_,_,_,_,_,_,_,_,_,_,_,_,_,_,_,_,_,_,_,_,_,_,_,_,_,_,_,rfl,hB⟩
theorem zrY{l:List Oper}(hl:l=zfx p57){c:CAct}{w1:World}(hsz:c.tmps.size=128){g9:Nat}{x0 x1 x2 x3:Value}{q:Rat}{sg cm:Int}{sm:Bool}(h9:c.tmps.getD 9 undef = .pointer (some ⟨g9,0,none⟩))(hbx:BoxL w1 g9 [x0,x1,x2,x3])(hq:QAt w1 (.agg #[x0,x1,x2,x3]) q)(hqL:zad q 4700)(hsg:sgnR q=sg)(hcm:sgnR (q-((1:Int):Rat))=cm)(hsm:zaU q 6=sm)(hc:0<sg∧cm<0)(hs:sm=false):(Code.region 7 l.toArray true).wpIn Fence.wide 0 Tryz.prog (zfy c w1 true) c w1:=by
 subst hl;subst hs;refine za0 (ro:=none) [1,5,6,7,12] (List.range 33) [0,1,3,7,15,15,47,127,255,511,1023,2047,4095,8191,16383,32767,65535,131071,262143,524287,1048575,2097151,4194303,8388607,16777215,33554431,67108863,134217727,268435455,268435455,1073741823,2147483647,4294967295] zak rfl 128 hsz (by kernel_rfl) (by kernel_rfl) ?_;have hB:Below w1.heap.size w1 w1.drew:=zab w1;generalize w1.drew=wd at hB ⊢
 refine GS.ldn (p:=⟨g9,0,none⟩) [x0,x1,x2,x3] lmQ (hbx.below hB).at9 rfl rfl rfl rfl rfl rfl (by decide) h9 ?_;refine GS.call [.agg #[x0,x1,x2,x3]] Tryz.func35 rfl zac rfl rfl rfl rfl rfl rfl (zgY (hq.below hB) hqL) fun v w2 h hB2 => ?_
 replace hB:=hB.trans (hB2.mono hB.size);subst h;rw [hsg];refine GS.leq (b:=false) (decide_eq_false (by omega)) rfl rfl rfl rfl rfl rfl ?_;refine GS.mv (v:=.bool false) rfl rfl rfl rfl rfl ?_;refine GS.ldn (p:=⟨g9,0,none⟩) [x0,x1,x2,x3] lmQ (hbx.below hB).at9 rfl rfl ⟨_,_,_,rfl,rfl,rfl,rfl⟩ rfl rfl rfl (by decide) h9 ?_;refine GS.call [.int .i64 1] Tryz.func31 rfl zac rfl ⟨_,_,_,rfl,rfl,rfl,rfl⟩ rfl rfl rfl rfl (zaM _ 1 (by decide) (by decide)) fun v w2 h hB2 => ?_
 replace hB:=hB.trans (hB2.mono hB.size);obtain⟨v31,h31,e31⟩:∃u,ZAt w2 u 1∧u=v:=⟨_,h,rfl⟩;subst e31;clear h;refine GS.call [v31] Tryz.func30 rfl zac rfl ⟨_,_,_,rfl,rfl,rfl,rfl⟩ rfl rfl rfl rfl (zbr _ _ 1 h31) fun v w2 h hB2 => ?_
 replace hB:=hB.trans (hB2.mono hB.size);obtain⟨v30,h30,e30⟩:∃u,QAt w2 u ((1:Int):Rat)∧u=v:=⟨_,h,rfl⟩;subst e30;clear h;refine GS.call [.agg #[x0,x1,x2,x3],v30] Tryz.func36 rfl zac rfl ⟨_,_,_,rfl,rfl,rfl,rfl⟩ rfl rfl rfl rfl (zir (hq.below hB) h30 hqL zfG) fun v w2 h hB2 => ?_
 replace hB:=hB.trans (hB2.mono hB.size);subst h;rw [hcm];refine GS.geq (b:=false) (decide_eq_false (by omega)) rfl ⟨_,_,_,rfl,rfl,rfl,rfl⟩ rfl rfl rfl rfl ?_;refine GS.pick (b:=false) (v:=.bool false) rfl rfl rfl rfl rfl rfl ?_;refine GS.mv (v:=.bool false) rfl rfl rfl rfl rfl ?_;refine GS.ldn (p:=⟨g9,0,none⟩) [x0,x1,x2,x3] lmQ (hbx.below hB).at9 rfl rfl ⟨_,_,_,rfl,rfl,rfl,rfl⟩ rfl rfl rfl (by decide) h9 ?_;refine GS.call [.agg #[x0,x1,x2,x3],.int .i64 6] Tryz.func37 rfl zac rfl ⟨_,_,_,rfl,rfl,rfl,rfl⟩ rfl rfl rfl rfl (zfc (hq.below hB)) fun v w2 h hB2 => ?_
 replace hB:=hB.trans (hB2.mono hB.size);subst h;rw [hsm];refine GS.not (b:=false) rfl ⟨_,_,_,rfl,rfl,rfl,rfl⟩ rfl rfl rfl ?_;refine GS.pick (b:=false) (v:=.bool true) rfl rfl rfl rfl rfl rfl ?_;refine GS.mv (v:=.bool true) rfl rfl rfl rfl rfl ?_;refine GS.skip rfl rfl rfl ⟨_,_,_,rfl,rfl,rfl,rfl⟩ ?_;refine GS.skip rfl rfl rfl ⟨_,_,_,rfl,rfl,rfl,rfl⟩ ?_;refine GS.pick (b:=true) (v:=.bool true) rfl rfl rfl rfl rfl rfl ?_;refine GS.mv (v:=.bool true) rfl rfl rfl rfl rfl ?_;refine GS.skip rfl rfl rfl ⟨_,_,_,rfl,rfl,rfl,rfl⟩ ?_;refine GS.skip rfl rfl rfl ⟨_,_,_,rfl,rfl,rfl,rfl⟩ ?_;refine GS.pick (b:=true) (v:=.bool true) rfl rfl rfl rfl rfl rfl ?_;refine GS.mv (v:=.bool true) rfl rfl rfl rfl rfl ?_;refine GS.skip rfl rfl rfl ⟨_,_,_,rfl,rfl,rfl,rfl⟩ ?_;refine GS.skip rfl rfl rfl ⟨_,_,_,rfl,rfl,rfl,rfl⟩ ?_;refine GS.pick (b:=true) (v:=.bool true) rfl rfl rfl rfl rfl rfl ?_;refine GS.mv (v:=.bool true) rfl rfl rfl rfl rfl ?_;refine GS.skip rfl rfl rfl ⟨_,_,_,rfl,rfl,rfl,rfl⟩ ?_;refine GS.skip rfl rfl rfl ⟨_,_,_,rfl,rfl,rfl,rfl⟩ ?_;refine GS.skip rfl rfl rfl ⟨_,_,_,rfl,rfl,rfl,rfl⟩ ?_;refine GS.pick (b:=true) (v:=.bool true) rfl rfl rfl rfl rfl rfl ?_;refine GS.asg (v:=.bool true) rfl rfl rfl rfl rfl ?_;exact GS.done ⟨rfl,_,_,_,_,_,_,_,_,_,_,_,_,_,_,_,_,_,_,_,_,_,_,_,_,_,_,_,_,_,_,_,_,rfl,hB⟩
theorem zrX{l:List Oper}(hl:l=zfx p57){c:CAct}{w1:World}(hsz:c.tmps.size=128){g9:Nat}{x0 x1 x2 x3:Value}{q:Rat}{t sg cm:Int}{sm:Bool}(h9:c.tmps.getD 9 undef = .pointer (some ⟨g9,0,none⟩))(h2:c.tmps.getD 2 undef = .int .i64 t)(hbx:BoxL w1 g9 [x0,x1,x2,x3])(hq:QAt w1 (.agg #[x0,x1,x2,x3]) q)(hqL:zad q 4700)(hsg:sgnR q=sg)(hcm:sgnR (q-((1:Int):Rat))=cm)(hsm:zaU q 6=sm)(hc:0<sg∧cm<0∧t<1)(hs:sm=true):(Code.region 7 l.toArray true).wpIn Fence.wide 0 Tryz.prog (zfy c w1 true) c w1:=by
 subst hl;subst hs;refine za0 (ro:=none) [1,5,6,7,12] (List.range 33) [0,1,3,7,15,15,47,127,255,511,1023,2047,4095,8191,16383,32767,65535,131071,262143,524287,1048575,2097151,4194303,8388607,16777215,33554431,67108863,134217727,268435455,268435455,1073741823,2147483647,4294967295] zak rfl 128 hsz (by kernel_rfl) (by kernel_rfl) ?_;have hB:Below w1.heap.size w1 w1.drew:=zab w1;generalize w1.drew=wd at hB ⊢
 refine GS.ldn (p:=⟨g9,0,none⟩) [x0,x1,x2,x3] lmQ (hbx.below hB).at9 rfl rfl rfl rfl rfl rfl (by decide) h9 ?_;refine GS.call [.agg #[x0,x1,x2,x3]] Tryz.func35 rfl zac rfl rfl rfl rfl rfl rfl (zgY (hq.below hB) hqL) fun v w2 h hB2 => ?_
 replace hB:=hB.trans (hB2.mono hB.size);subst h;rw [hsg];refine GS.leq (b:=false) (decide_eq_false (by omega)) rfl rfl rfl rfl rfl rfl ?_;refine GS.mv (v:=.bool false) rfl rfl rfl rfl rfl ?_;refine GS.ldn (p:=⟨g9,0,none⟩) [x0,x1,x2,x3] lmQ (hbx.below hB).at9 rfl rfl ⟨_,_,_,rfl,rfl,rfl,rfl⟩ rfl rfl rfl (by decide) h9 ?_;refine GS.call [.int .i64 1] Tryz.func31 rfl zac rfl ⟨_,_,_,rfl,rfl,rfl,rfl⟩ rfl rfl rfl rfl (zaM _ 1 (by decide) (by decide)) fun v w2 h hB2 => ?_
 replace hB:=hB.trans (hB2.mono hB.size);obtain⟨v31,h31,e31⟩:∃u,ZAt w2 u 1∧u=v:=⟨_,h,rfl⟩;subst e31;clear h;refine GS.call [v31] Tryz.func30 rfl zac rfl ⟨_,_,_,rfl,rfl,rfl,rfl⟩ rfl rfl rfl rfl (zbr _ _ 1 h31) fun v w2 h hB2 => ?_
 replace hB:=hB.trans (hB2.mono hB.size);obtain⟨v30,h30,e30⟩:∃u,QAt w2 u ((1:Int):Rat)∧u=v:=⟨_,h,rfl⟩;subst e30;clear h;refine GS.call [.agg #[x0,x1,x2,x3],v30] Tryz.func36 rfl zac rfl ⟨_,_,_,rfl,rfl,rfl,rfl⟩ rfl rfl rfl rfl (zir (hq.below hB) h30 hqL zfG) fun v w2 h hB2 => ?_
 replace hB:=hB.trans (hB2.mono hB.size);subst h;rw [hcm];refine GS.geq (b:=false) (decide_eq_false (by omega)) rfl ⟨_,_,_,rfl,rfl,rfl,rfl⟩ rfl rfl rfl rfl ?_;refine GS.pick (b:=false) (v:=.bool false) rfl rfl rfl rfl rfl rfl ?_;refine GS.mv (v:=.bool false) rfl rfl rfl rfl rfl ?_;refine GS.ldn (p:=⟨g9,0,none⟩) [x0,x1,x2,x3] lmQ (hbx.below hB).at9 rfl rfl ⟨_,_,_,rfl,rfl,rfl,rfl⟩ rfl rfl rfl (by decide) h9 ?_;refine GS.call [.agg #[x0,x1,x2,x3],.int .i64 6] Tryz.func37 rfl zac rfl ⟨_,_,_,rfl,rfl,rfl,rfl⟩ rfl rfl rfl rfl (zfc (hq.below hB)) fun v w2 h hB2 => ?_
 replace hB:=hB.trans (hB2.mono hB.size);subst h;rw [hsm];refine GS.not (b:=true) rfl ⟨_,_,_,rfl,rfl,rfl,rfl⟩ rfl rfl rfl ?_;refine GS.pick (b:=false) (v:=.bool false) rfl rfl rfl rfl rfl rfl ?_;refine GS.mv (v:=.bool false) rfl rfl rfl rfl rfl ?_;refine GS.mv (v:=.int .i64 t) rfl ⟨_,_,_,rfl,rfl,rfl,rfl⟩ rfl rfl h2 ?_;refine GS.lss (b:=true) (decide_eq_true (by omega)) rfl ⟨_,_,_,rfl,rfl,rfl,rfl⟩ rfl rfl rfl rfl ?_;refine GS.pick (b:=false) (v:=.bool true) rfl rfl rfl rfl rfl rfl ?_;refine GS.mv (v:=.bool true) rfl rfl rfl rfl rfl ?_;refine GS.skip rfl rfl rfl ⟨_,_,_,rfl,rfl,rfl,rfl⟩ ?_;refine GS.skip rfl rfl rfl ⟨_,_,_,rfl,rfl,rfl,rfl⟩ ?_;refine GS.pick (b:=true) (v:=.bool true) rfl rfl rfl rfl rfl rfl ?_;refine GS.mv (v:=.bool true) rfl rfl rfl rfl rfl ?_;refine GS.skip rfl rfl rfl ⟨_,_,_,rfl,rfl,rfl,rfl⟩ ?_;refine GS.skip rfl rfl rfl ⟨_,_,_,rfl,rfl,rfl,rfl⟩ ?_;refine GS.pick (b:=true) (v:=.bool true) rfl rfl rfl rfl rfl rfl ?_;refine GS.mv (v:=.bool true) rfl rfl rfl rfl rfl ?_;refine GS.skip rfl rfl rfl ⟨_,_,_,rfl,rfl,rfl,rfl⟩ ?_;refine GS.skip rfl rfl rfl ⟨_,_,_,rfl,rfl,rfl,rfl⟩ ?_;refine GS.skip rfl rfl rfl ⟨_,_,_,rfl,rfl,rfl,rfl⟩ ?_;refine GS.pick (b:=true) (v:=.bool true) rfl rfl rfl rfl rfl rfl ?_;refine GS.asg (v:=.bool true) rfl rfl rfl rfl rfl ?_;exact GS.done ⟨rfl,_,_,_,_,_,_,_,_,_,_,_,_,_,_,_,_,_,_,_,_,_,_,_,_,_,_,_,_,_,_,_,_,rfl,hB⟩
theorem zrW{l:List Oper}(hl:l=zfx p57){c:CAct}{w1:World}(hsz:c.tmps.size=128){g9:Nat}{x0 x1 x2 x3:Value}{q:Rat}{t sg cm:Int}{sm:Bool}(h9:c.tmps.getD 9 undef = .pointer (some ⟨g9,0,none⟩))(h2:c.tmps.getD 2 undef = .int .i64 t)(hbx:BoxL w1 g9 [x0,x1,x2,x3])(hq:QAt w1 (.agg #[x0,x1,x2,x3]) q)(hqL:zad q 4700)(hsg:sgnR q=sg)(hcm:sgnR (q-((1:Int):Rat))=cm)(hsm:zaU q 6=sm)(hc:0<sg∧cm<0∧30<t)(hs:sm=true):(Code.region 7 l.toArray true).wpIn Fence.wide 0 Tryz.prog (zfy c w1 true) c w1:=by
 subst hl;subst hs;refine za0 (ro:=none) [1,5,6,7,12] (List.range 33) [0,1,3,7,15,15,47,127,255,511,1023,2047,4095,8191,16383,32767,65535,131071,262143,524287,1048575,2097151,4194303,8388607,16777215,33554431,67108863,134217727,268435455,268435455,1073741823,2147483647,4294967295] zak rfl 128 hsz (by kernel_rfl) (by kernel_rfl) ?_;have hB:Below w1.heap.size w1 w1.drew:=zab w1;generalize w1.drew=wd at hB ⊢
 refine GS.ldn (p:=⟨g9,0,none⟩) [x0,x1,x2,x3] lmQ (hbx.below hB).at9 rfl rfl rfl rfl rfl rfl (by decide) h9 ?_;refine GS.call [.agg #[x0,x1,x2,x3]] Tryz.func35 rfl zac rfl rfl rfl rfl rfl rfl (zgY (hq.below hB) hqL) fun v w2 h hB2 => ?_
 replace hB:=hB.trans (hB2.mono hB.size);subst h;rw [hsg];refine GS.leq (b:=false) (decide_eq_false (by omega)) rfl rfl rfl rfl rfl rfl ?_;refine GS.mv (v:=.bool false) rfl rfl rfl rfl rfl ?_;refine GS.ldn (p:=⟨g9,0,none⟩) [x0,x1,x2,x3] lmQ (hbx.below hB).at9 rfl rfl ⟨_,_,_,rfl,rfl,rfl,rfl⟩ rfl rfl rfl (by decide) h9 ?_;refine GS.call [.int .i64 1] Tryz.func31 rfl zac rfl ⟨_,_,_,rfl,rfl,rfl,rfl⟩ rfl rfl rfl rfl (zaM _ 1 (by decide) (by decide)) fun v w2 h hB2 => ?_
 replace hB:=hB.trans (hB2.mono hB.size);obtain⟨v31,h31,e31⟩:∃u,ZAt w2 u 1∧u=v:=⟨_,h,rfl⟩;subst e31;clear h;refine GS.call [v31] Tryz.func30 rfl zac rfl ⟨_,_,_,rfl,rfl,rfl,rfl⟩ rfl rfl rfl rfl (zbr _ _ 1 h31) fun v w2 h hB2 => ?_
 replace hB:=hB.trans (hB2.mono hB.size);obtain⟨v30,h30,e30⟩:∃u,QAt w2 u ((1:Int):Rat)∧u=v:=⟨_,h,rfl⟩;subst e30;clear h;refine GS.call [.agg #[x0,x1,x2,x3],v30] Tryz.func36 rfl zac rfl ⟨_,_,_,rfl,rfl,rfl,rfl⟩ rfl rfl rfl rfl (zir (hq.below hB) h30 hqL zfG) fun v w2 h hB2 => ?_
 replace hB:=hB.trans (hB2.mono hB.size);subst h;rw [hcm];refine GS.geq (b:=false) (decide_eq_false (by omega)) rfl ⟨_,_,_,rfl,rfl,rfl,rfl⟩ rfl rfl rfl rfl ?_;refine GS.pick (b:=false) (v:=.bool false) rfl rfl rfl rfl rfl rfl ?_;refine GS.mv (v:=.bool false) rfl rfl rfl rfl rfl ?_;refine GS.ldn (p:=⟨g9,0,none⟩) [x0,x1,x2,x3] lmQ (hbx.below hB).at9 rfl rfl ⟨_,_,_,rfl,rfl,rfl,rfl⟩ rfl rfl rfl (by decide) h9 ?_;refine GS.call [.agg #[x0,x1,x2,x3],.int .i64 6] Tryz.func37 rfl zac rfl ⟨_,_,_,rfl,rfl,rfl,rfl⟩ rfl rfl rfl rfl (zfc (hq.below hB)) fun v w2 h hB2 => ?_
 replace hB:=hB.trans (hB2.mono hB.size);subst h;rw [hsm];refine GS.not (b:=true) rfl ⟨_,_,_,rfl,rfl,rfl,rfl⟩ rfl rfl rfl ?_;refine GS.pick (b:=false) (v:=.bool false) rfl rfl rfl rfl rfl rfl ?_;refine GS.mv (v:=.bool false) rfl rfl rfl rfl rfl ?_;refine GS.mv (v:=.int .i64 t) rfl ⟨_,_,_,rfl,rfl,rfl,rfl⟩ rfl rfl h2 ?_;refine GS.lss (b:=false) (decide_eq_false (by omega)) rfl ⟨_,_,_,rfl,rfl,rfl,rfl⟩ rfl rfl rfl rfl ?_;refine GS.pick (b:=false) (v:=.bool false) rfl rfl rfl rfl rfl rfl ?_;refine GS.mv (v:=.bool false) rfl rfl rfl rfl rfl ?_;refine GS.mv (v:=.int .i64 t) rfl ⟨_,_,_,rfl,rfl,rfl,rfl⟩ rfl rfl h2 ?_;refine GS.gtr (b:=true) (decide_eq_true (by omega)) rfl ⟨_,_,_,rfl,rfl,rfl,rfl⟩ rfl rfl rfl rfl ?_;refine GS.pick (b:=false) (v:=.bool true) rfl rfl rfl rfl rfl rfl ?_;refine GS.mv (v:=.bool true) rfl rfl rfl rfl rfl ?_;refine GS.skip rfl rfl rfl ⟨_,_,_,rfl,rfl,rfl,rfl⟩ ?_;refine GS.skip rfl rfl rfl ⟨_,_,_,rfl,rfl,rfl,rfl⟩ ?_;refine GS.pick (b:=true) (v:=.bool true) rfl rfl rfl rfl rfl rfl ?_;refine GS.mv (v:=.bool true) rfl rfl rfl rfl rfl ?_;refine GS.skip rfl rfl rfl ⟨_,_,_,rfl,rfl,rfl,rfl⟩ ?_;refine GS.skip rfl rfl rfl ⟨_,_,_,rfl,rfl,rfl,rfl⟩ ?_;refine GS.skip rfl rfl rfl ⟨_,_,_,rfl,rfl,rfl,rfl⟩ ?_;refine GS.pick (b:=true) (v:=.bool true) rfl rfl rfl rfl rfl rfl ?_;refine GS.asg (v:=.bool true) rfl rfl rfl rfl rfl ?_;exact GS.done ⟨rfl,_,_,_,_,_,_,_,_,_,_,_,_,_,_,_,_,_,_,_,_,_,_,_,_,_,_,_,_,_,_,_,_,rfl,hB⟩
theorem zrV{l:List Oper}(hl:l=zfx p57){c:CAct}{w1:World}(hsz:c.tmps.size=128){g9:Nat}{x0 x1 x2 x3:Value}{q:Rat}{f t sg cm:Int}{sm:Bool}(h9:c.tmps.getD 9 undef = .pointer (some ⟨g9,0,none⟩))(h1:c.tmps.getD 1 undef = .int .i64 f)(h2:c.tmps.getD 2 undef = .int .i64 t)(hbx:BoxL w1 g9 [x0,x1,x2,x3])(hq:QAt w1 (.agg #[x0,x1,x2,x3]) q)(hqL:zad q 4700)(hsg:sgnR q=sg)(hcm:sgnR (q-((1:Int):Rat))=cm)(hsm:zaU q 6=sm)(hc:0<sg∧cm<0∧1≤t∧t≤30∧f<0)(hs:sm=true):(Code.region 7 l.toArray true).wpIn Fence.wide 0 Tryz.prog (zfy c w1 true) c w1:=by
 subst hl;subst hs;refine za0 (ro:=none) [1,5,6,7,12] (List.range 33) [0,1,3,7,15,15,47,127,255,511,1023,2047,4095,8191,16383,32767,65535,131071,262143,524287,1048575,2097151,4194303,8388607,16777215,33554431,67108863,134217727,268435455,268435455,1073741823,2147483647,4294967295] zak rfl 128 hsz (by kernel_rfl) (by kernel_rfl) ?_;have hB:Below w1.heap.size w1 w1.drew:=zab w1;generalize w1.drew=wd at hB ⊢
 refine GS.ldn (p:=⟨g9,0,none⟩) [x0,x1,x2,x3] lmQ (hbx.below hB).at9 rfl rfl rfl rfl rfl rfl (by decide) h9 ?_;refine GS.call [.agg #[x0,x1,x2,x3]] Tryz.func35 rfl zac rfl rfl rfl rfl rfl rfl (zgY (hq.below hB) hqL) fun v w2 h hB2 => ?_
 replace hB:=hB.trans (hB2.mono hB.size);subst h;rw [hsg];refine GS.leq (b:=false) (decide_eq_false (by omega)) rfl rfl rfl rfl rfl rfl ?_;refine GS.mv (v:=.bool false) rfl rfl rfl rfl rfl ?_;refine GS.ldn (p:=⟨g9,0,none⟩) [x0,x1,x2,x3] lmQ (hbx.below hB).at9 rfl rfl ⟨_,_,_,rfl,rfl,rfl,rfl⟩ rfl rfl rfl (by decide) h9 ?_;refine GS.call [.int .i64 1] Tryz.func31 rfl zac rfl ⟨_,_,_,rfl,rfl,rfl,rfl⟩ rfl rfl rfl rfl (zaM _ 1 (by decide) (by decide)) fun v w2 h hB2 => ?_
 replace hB:=hB.trans (hB2.mono hB.size);obtain⟨v31,h31,e31⟩:∃u,ZAt w2 u 1∧u=v:=⟨_,h,rfl⟩;subst e31;clear h;refine GS.call [v31] Tryz.func30 rfl zac rfl ⟨_,_,_,rfl,rfl,rfl,rfl⟩ rfl rfl rfl rfl (zbr _ _ 1 h31) fun v w2 h hB2 => ?_
 replace hB:=hB.trans (hB2.mono hB.size);obtain⟨v30,h30,e30⟩:∃u,QAt w2 u ((1:Int):Rat)∧u=v:=⟨_,h,rfl⟩;subst e30;clear h;refine GS.call [.agg #[x0,x1,x2,x3],v30] Tryz.func36 rfl zac rfl ⟨_,_,_,rfl,rfl,rfl,rfl⟩ rfl rfl rfl rfl (zir (hq.below hB) h30 hqL zfG) fun v w2 h hB2 => ?_
 replace hB:=hB.trans (hB2.mono hB.size);subst h;rw [hcm];refine GS.geq (b:=false) (decide_eq_false (by omega)) rfl ⟨_,_,_,rfl,rfl,rfl,rfl⟩ rfl rfl rfl rfl ?_;refine GS.pick (b:=false) (v:=.bool false) rfl rfl rfl rfl rfl rfl ?_;refine GS.mv (v:=.bool false) rfl rfl rfl rfl rfl ?_;refine GS.ldn (p:=⟨g9,0,none⟩) [x0,x1,x2,x3] lmQ (hbx.below hB).at9 rfl rfl ⟨_,_,_,rfl,rfl,rfl,rfl⟩ rfl rfl rfl (by decide) h9 ?_;refine GS.call [.agg #[x0,x1,x2,x3],.int .i64 6] Tryz.func37 rfl zac rfl ⟨_,_,_,rfl,rfl,rfl,rfl⟩ rfl rfl rfl rfl (zfc (hq.below hB)) fun v w2 h hB2 => ?_
 replace hB:=hB.trans (hB2.mono hB.size);subst h;rw [hsm];refine GS.not (b:=true) rfl ⟨_,_,_,rfl,rfl,rfl,rfl⟩ rfl rfl rfl ?_;refine GS.pick (b:=false) (v:=.bool false) rfl rfl rfl rfl rfl rfl ?_;refine GS.mv (v:=.bool false) rfl rfl rfl rfl rfl ?_;refine GS.mv (v:=.int .i64 t) rfl ⟨_,_,_,rfl,rfl,rfl,rfl⟩ rfl rfl h2 ?_;refine GS.lss (b:=false) (decide_eq_false (by omega)) rfl ⟨_,_,_,rfl,rfl,rfl,rfl⟩ rfl rfl rfl rfl ?_;refine GS.pick (b:=false) (v:=.bool false) rfl rfl rfl rfl rfl rfl ?_;refine GS.mv (v:=.bool false) rfl rfl rfl rfl rfl ?_;refine GS.mv (v:=.int .i64 t) rfl ⟨_,_,_,rfl,rfl,rfl,rfl⟩ rfl rfl h2 ?_;refine GS.gtr (b:=false) (decide_eq_false (by omega)) rfl ⟨_,_,_,rfl,rfl,rfl,rfl⟩ rfl rfl rfl rfl ?_;refine GS.pick (b:=false) (v:=.bool false) rfl rfl rfl rfl rfl rfl ?_;refine GS.mv (v:=.bool false) rfl rfl rfl rfl rfl ?_;refine GS.mv (v:=.int .i64 f) rfl ⟨_,_,_,rfl,rfl,rfl,rfl⟩ rfl rfl h1 ?_;refine GS.lss (b:=true) (decide_eq_true (by omega)) rfl ⟨_,_,_,rfl,rfl,rfl,rfl⟩ rfl rfl rfl rfl ?_;refine GS.pick (b:=false) (v:=.bool true) rfl rfl rfl rfl rfl rfl ?_;refine GS.mv (v:=.bool true) rfl rfl rfl rfl rfl ?_;refine GS.skip rfl rfl rfl ⟨_,_,_,rfl,rfl,rfl,rfl⟩ ?_;refine GS.skip rfl rfl rfl ⟨_,_,_,rfl,rfl,rfl,rfl⟩ ?_;refine GS.skip rfl rfl rfl ⟨_,_,_,rfl,rfl,rfl,rfl⟩ ?_;refine GS.pick (b:=true) (v:=.bool true) rfl rfl rfl rfl rfl rfl ?_;refine GS.asg (v:=.bool true) rfl rfl rfl rfl rfl ?_;exact GS.done ⟨rfl,_,_,_,_,_,_,_,_,_,_,_,_,_,_,_,_,_,_,_,_,_,_,_,_,_,_,_,_,_,_,_,_,rfl,hB⟩
theorem zrU{l:List Oper}(hl:l=zfx p57){c:CAct}{w1:World}(hsz:c.tmps.size=128){g9:Nat}{x0 x1 x2 x3:Value}{q:Rat}{f t sg cm:Int}{sm:Bool}(h9:c.tmps.getD 9 undef = .pointer (some ⟨g9,0,none⟩))(h1:c.tmps.getD 1 undef = .int .i64 f)(h2:c.tmps.getD 2 undef = .int .i64 t)(hbx:BoxL w1 g9 [x0,x1,x2,x3])(hq:QAt w1 (.agg #[x0,x1,x2,x3]) q)(hqL:zad q 4700)(hsg:sgnR q=sg)(hcm:sgnR (q-((1:Int):Rat))=cm)(hsm:zaU q 6=sm)(hc:0<sg∧cm<0∧1≤t∧t≤30∧0≤f∧t<f)(hs:sm=true):(Code.region 7 l.toArray true).wpIn Fence.wide 0 Tryz.prog (zfy c w1 true) c w1:=by
 subst hl;subst hs;refine za0 (ro:=none) [1,5,6,7,12] (List.range 33) [0,1,3,7,15,15,47,127,255,511,1023,2047,4095,8191,16383,32767,65535,131071,262143,524287,1048575,2097151,4194303,8388607,16777215,33554431,67108863,134217727,268435455,268435455,1073741823,2147483647,4294967295] zak rfl 128 hsz (by kernel_rfl) (by kernel_rfl) ?_;have hB:Below w1.heap.size w1 w1.drew:=zab w1;generalize w1.drew=wd at hB ⊢
 refine GS.ldn (p:=⟨g9,0,none⟩) [x0,x1,x2,x3] lmQ (hbx.below hB).at9 rfl rfl rfl rfl rfl rfl (by decide) h9 ?_;refine GS.call [.agg #[x0,x1,x2,x3]] Tryz.func35 rfl zac rfl rfl rfl rfl rfl rfl (zgY (hq.below hB) hqL) fun v w2 h hB2 => ?_
 replace hB:=hB.trans (hB2.mono hB.size);subst h;rw [hsg];refine GS.leq (b:=false) (decide_eq_false (by omega)) rfl rfl rfl rfl rfl rfl ?_;refine GS.mv (v:=.bool false) rfl rfl rfl rfl rfl ?_;refine GS.ldn (p:=⟨g9,0,none⟩) [x0,x1,x2,x3] lmQ (hbx.below hB).at9 rfl rfl ⟨_,_,_,rfl,rfl,rfl,rfl⟩ rfl rfl rfl (by decide) h9 ?_;refine GS.call [.int .i64 1] Tryz.func31 rfl zac rfl ⟨_,_,_,rfl,rfl,rfl,rfl⟩ rfl rfl rfl rfl (zaM _ 1 (by decide) (by decide)) fun v w2 h hB2 => ?_
 replace hB:=hB.trans (hB2.mono hB.size);obtain⟨v31,h31,e31⟩:∃u,ZAt w2 u 1∧u=v:=⟨_,h,rfl⟩;subst e31;clear h;refine GS.call [v31] Tryz.func30 rfl zac rfl ⟨_,_,_,rfl,rfl,rfl,rfl⟩ rfl rfl rfl rfl (zbr _ _ 1 h31) fun v w2 h hB2 => ?_
 replace hB:=hB.trans (hB2.mono hB.size);obtain⟨v30,h30,e30⟩:∃u,QAt w2 u ((1:Int):Rat)∧u=v:=⟨_,h,rfl⟩;subst e30;clear h;refine GS.call [.agg #[x0,x1,x2,x3],v30] Tryz.func36 rfl zac rfl ⟨_,_,_,rfl,rfl,rfl,rfl⟩ rfl rfl rfl rfl (zir (hq.below hB) h30 hqL zfG) fun v w2 h hB2 => ?_
 replace hB:=hB.trans (hB2.mono hB.size);subst h;rw [hcm];refine GS.geq (b:=false) (decide_eq_false (by omega)) rfl ⟨_,_,_,rfl,rfl,rfl,rfl⟩ rfl rfl rfl rfl ?_;refine GS.pick (b:=false) (v:=.bool false) rfl rfl rfl rfl rfl rfl ?_;refine GS.mv (v:=.bool false) rfl rfl rfl rfl rfl ?_;refine GS.ldn (p:=⟨g9,0,none⟩) [x0,x1,x2,x3] lmQ (hbx.below hB).at9 rfl rfl ⟨_,_,_,rfl,rfl,rfl,rfl⟩ rfl rfl rfl (by decide) h9 ?_;refine GS.call [.agg #[x0,x1,x2,x3],.int .i64 6] Tryz.func37 rfl zac rfl ⟨_,_,_,rfl,rfl,rfl,rfl⟩ rfl rfl rfl rfl (zfc (hq.below hB)) fun v w2 h hB2 => ?_
 replace hB:=hB.trans (hB2.mono hB.size);subst h;rw [hsm];refine GS.not (b:=true) rfl ⟨_,_,_,rfl,rfl,rfl,rfl⟩ rfl rfl rfl ?_;refine GS.pick (b:=false) (v:=.bool false) rfl rfl rfl rfl rfl rfl ?_;refine GS.mv (v:=.bool false) rfl rfl rfl rfl rfl ?_;refine GS.mv (v:=.int .i64 t) rfl ⟨_,_,_,rfl,rfl,rfl,rfl⟩ rfl rfl h2 ?_;refine GS.lss (b:=false) (decide_eq_false (by omega)) rfl ⟨_,_,_,rfl,rfl,rfl,rfl⟩ rfl rfl rfl rfl ?_;refine GS.pick (b:=false) (v:=.bool false) rfl rfl rfl rfl rfl rfl ?_;refine GS.mv (v:=.bool false) rfl rfl rfl rfl rfl ?_;refine GS.mv (v:=.int .i64 t) rfl ⟨_,_,_,rfl,rfl,rfl,rfl⟩ rfl rfl h2 ?_;refine GS.gtr (b:=false) (decide_eq_false (by omega)) rfl ⟨_,_,_,rfl,rfl,rfl,rfl⟩ rfl rfl rfl rfl ?_;refine GS.pick (b:=false) (v:=.bool false) rfl rfl rfl rfl rfl rfl ?_;refine GS.mv (v:=.bool false) rfl rfl rfl rfl rfl ?_;refine GS.mv (v:=.int .i64 f) rfl ⟨_,_,_,rfl,rfl,rfl,rfl⟩ rfl rfl h1 ?_;refine GS.lss (b:=false) (decide_eq_false (by omega)) rfl ⟨_,_,_,rfl,rfl,rfl,rfl⟩ rfl rfl rfl rfl ?_;refine GS.pick (b:=false) (v:=.bool false) rfl rfl rfl rfl rfl rfl ?_;refine GS.mv (v:=.bool false) rfl rfl rfl rfl rfl ?_;refine GS.mv (v:=.int .i64 f) rfl ⟨_,_,_,rfl,rfl,rfl,rfl⟩ rfl rfl h1 ?_;refine GS.mv (v:=.int .i64 t) rfl ⟨_,_,_,rfl,rfl,rfl,rfl⟩ rfl rfl h2 ?_;refine GS.gtr (b:=true) (decide_eq_true (by omega)) rfl ⟨_,_,_,rfl,rfl,rfl,rfl⟩ rfl rfl rfl rfl ?_;refine GS.pick (b:=false) (v:=.bool true) rfl rfl rfl rfl rfl rfl ?_;refine GS.asg (v:=.bool true) rfl rfl rfl rfl rfl ?_;exact GS.done ⟨rfl,_,_,_,_,_,_,_,_,_,_,_,_,_,_,_,_,_,_,_,_,_,_,_,_,_,_,_,_,_,_,_,_,rfl,hB⟩
theorem zrT{l:List Oper}(hl:l=zfx p57){c:CAct}{w1:World}(hsz:c.tmps.size=128){g9:Nat}{x0 x1 x2 x3:Value}{q:Rat}{f t sg cm:Int}{sm:Bool}(h9:c.tmps.getD 9 undef = .pointer (some ⟨g9,0,none⟩))(h1:c.tmps.getD 1 undef = .int .i64 f)(h2:c.tmps.getD 2 undef = .int .i64 t)(hbx:BoxL w1 g9 [x0,x1,x2,x3])(hq:QAt w1 (.agg #[x0,x1,x2,x3]) q)(hqL:zad q 4700)(hsg:sgnR q=sg)(hcm:sgnR (q-((1:Int):Rat))=cm)(hsm:zaU q 6=sm)(hc:0<sg∧cm<0∧1≤t∧t≤30∧0≤f∧f≤t)(hs:sm=true):(Code.region 7 l.toArray true).wpIn Fence.wide 0 Tryz.prog (zfy c w1 false) c w1:=by
 subst hl;subst hs;refine za0 (ro:=none) [1,5,6,7,12] (List.range 33) [0,1,3,7,15,15,47,127,255,511,1023,2047,4095,8191,16383,32767,65535,131071,262143,524287,1048575,2097151,4194303,8388607,16777215,33554431,67108863,134217727,268435455,268435455,1073741823,2147483647,4294967295] zak rfl 128 hsz (by kernel_rfl) (by kernel_rfl) ?_;have hB:Below w1.heap.size w1 w1.drew:=zab w1;generalize w1.drew=wd at hB ⊢
 refine GS.ldn (p:=⟨g9,0,none⟩) [x0,x1,x2,x3] lmQ (hbx.below hB).at9 rfl rfl rfl rfl rfl rfl (by decide) h9 ?_;refine GS.call [.agg #[x0,x1,x2,x3]] Tryz.func35 rfl zac rfl rfl rfl rfl rfl rfl (zgY (hq.below hB) hqL) fun v w2 h hB2 => ?_
 replace hB:=hB.trans (hB2.mono hB.size);subst h;rw [hsg];refine GS.leq (b:=false) (decide_eq_false (by omega)) rfl rfl rfl rfl rfl rfl ?_;refine GS.mv (v:=.bool false) rfl rfl rfl rfl rfl ?_;refine GS.ldn (p:=⟨g9,0,none⟩) [x0,x1,x2,x3] lmQ (hbx.below hB).at9 rfl rfl ⟨_,_,_,rfl,rfl,rfl,rfl⟩ rfl rfl rfl (by decide) h9 ?_;refine GS.call [.int .i64 1] Tryz.func31 rfl zac rfl ⟨_,_,_,rfl,rfl,rfl,rfl⟩ rfl rfl rfl rfl (zaM _ 1 (by decide) (by decide)) fun v w2 h hB2 => ?_
 replace hB:=hB.trans (hB2.mono hB.size);obtain⟨v31,h31,e31⟩:∃u,ZAt w2 u 1∧u=v:=⟨_,h,rfl⟩;subst e31;clear h;refine GS.call [v31] Tryz.func30 rfl zac rfl ⟨_,_,_,rfl,rfl,rfl,rfl⟩ rfl rfl rfl rfl (zbr _ _ 1 h31) fun v w2 h hB2 => ?_
 replace hB:=hB.trans (hB2.mono hB.size);obtain⟨v30,h30,e30⟩:∃u,QAt w2 u ((1:Int):Rat)∧u=v:=⟨_,h,rfl⟩;subst e30;clear h;refine GS.call [.agg #[x0,x1,x2,x3],v30] Tryz.func36 rfl zac rfl ⟨_,_,_,rfl,rfl,rfl,rfl⟩ rfl rfl rfl rfl (zir (hq.below hB) h30 hqL zfG) fun v w2 h hB2 => ?_
 replace hB:=hB.trans (hB2.mono hB.size);subst h;rw [hcm];refine GS.geq (b:=false) (decide_eq_false (by omega)) rfl ⟨_,_,_,rfl,rfl,rfl,rfl⟩ rfl rfl rfl rfl ?_;refine GS.pick (b:=false) (v:=.bool false) rfl rfl rfl rfl rfl rfl ?_;refine GS.mv (v:=.bool false) rfl rfl rfl rfl rfl ?_;refine GS.ldn (p:=⟨g9,0,none⟩) [x0,x1,x2,x3] lmQ (hbx.below hB).at9 rfl rfl ⟨_,_,_,rfl,rfl,rfl,rfl⟩ rfl rfl rfl (by decide) h9 ?_;refine GS.call [.agg #[x0,x1,x2,x3],.int .i64 6] Tryz.func37 rfl zac rfl ⟨_,_,_,rfl,rfl,rfl,rfl⟩ rfl rfl rfl rfl (zfc (hq.below hB)) fun v w2 h hB2 => ?_
 replace hB:=hB.trans (hB2.mono hB.size);subst h;rw [hsm];refine GS.not (b:=true) rfl ⟨_,_,_,rfl,rfl,rfl,rfl⟩ rfl rfl rfl ?_;refine GS.pick (b:=false) (v:=.bool false) rfl rfl rfl rfl rfl rfl ?_;refine GS.mv (v:=.bool false) rfl rfl rfl rfl rfl ?_;refine GS.mv (v:=.int .i64 t) rfl ⟨_,_,_,rfl,rfl,rfl,rfl⟩ rfl rfl h2 ?_;refine GS.lss (b:=false) (decide_eq_false (by omega)) rfl ⟨_,_,_,rfl,rfl,rfl,rfl⟩ rfl rfl rfl rfl ?_;refine GS.pick (b:=false) (v:=.bool false) rfl rfl rfl rfl rfl rfl ?_;refine GS.mv (v:=.bool false) rfl rfl rfl rfl rfl ?_;refine GS.mv (v:=.int .i64 t) rfl ⟨_,_,_,rfl,rfl,rfl,rfl⟩ rfl rfl h2 ?_;refine GS.gtr (b:=false) (decide_eq_false (by omega)) rfl ⟨_,_,_,rfl,rfl,rfl,rfl⟩ rfl rfl rfl rfl ?_;refine GS.pick (b:=false) (v:=.bool false) rfl rfl rfl rfl rfl rfl ?_;refine GS.mv (v:=.bool false) rfl rfl rfl rfl rfl ?_;refine GS.mv (v:=.int .i64 f) rfl ⟨_,_,_,rfl,rfl,rfl,rfl⟩ rfl rfl h1 ?_;refine GS.lss (b:=false) (decide_eq_false (by omega)) rfl ⟨_,_,_,rfl,rfl,rfl,rfl⟩ rfl rfl rfl rfl ?_;refine GS.pick (b:=false) (v:=.bool false) rfl rfl rfl rfl rfl rfl ?_;refine GS.mv (v:=.bool false) rfl rfl rfl rfl rfl ?_;refine GS.mv (v:=.int .i64 f) rfl ⟨_,_,_,rfl,rfl,rfl,rfl⟩ rfl rfl h1 ?_;refine GS.mv (v:=.int .i64 t) rfl ⟨_,_,_,rfl,rfl,rfl,rfl⟩ rfl rfl h2 ?_;refine GS.gtr (b:=false) (decide_eq_false (by omega)) rfl ⟨_,_,_,rfl,rfl,rfl,rfl⟩ rfl rfl rfl rfl ?_;refine GS.pick (b:=false) (v:=.bool false) rfl rfl rfl rfl rfl rfl ?_;refine GS.asg (v:=.bool false) rfl rfl rfl rfl rfl ?_;exact GS.done ⟨rfl,_,_,_,_,_,_,_,_,_,_,_,_,_,_,_,_,_,_,_,_,_,_,_,_,_,_,_,_,_,_,_,_,rfl,hB⟩
def Cel(w:World)(g:Nat)(ty:TypeId)(xs:List Value):Prop:=w.heap[g]? = some (Obj.cells xs.toArray ty)
section
variable {w w':World} {g:Nat} {ty:TypeId} {xs ys:List Value}
theorem Cel.new(w:World)(ty:TypeId)(xs:List Value):Cel (w.alloc (.cells xs.toArray ty)) w.heap.size ty xs:=heap_alloc_new w _
theorem Cel.lt(h:Cel w g ty xs):g<w.heap.size:=(Array.getElem?_eq_some_iff.1 h).1
theorem Cel.eqB(h:Cel w g ty xs)(e:w'.heap[g]? = w.heap[g]?):Cel w' g ty xs:=e.trans h
theorem Cel.below(h:Cel w g ty xs)(hb:Below w.heap.size w w'):Cel w' g ty xs:=h.eqB (hb.block g h.lt)
theorem Cel.cell(h:Cel w g ty xs){j:Nat}{v:Value}(hj:xs[j]? = some v):w.cell? ⟨g,j,none⟩=some v:=by
 unfold Cel at h;simp [World.cell?,h,hj]
theorem Cel.frozen(h:Cel w g ty xs)(j:Nat):w.frozen? ⟨g,j,none⟩=false:=by
 unfold Cel at h;simp [World.frozen?,h]
theorem Cel.box(h:Cel w g ty xs):BoxL w g xs:=⟨h.lt,fun _ _ hj=>h.cell hj⟩
theorem Cel.there(h:Cel w g ty xs):w.there g 0 xs.length:=fun j hj=>by
 rw [Nat.zero_add];exact⟨by rw [h.cell (List.getElem?_eq_getElem hj)];rfl,h.frozen j⟩
theorem Cel.touch(h:Cel w g ty xs)(hw:∀k,k<w.heap.size→k≠g→w'.heap[k]? = w.heap[k]?)(hs:w.heap.size≤w'.heap.size):Touch ty w w':=by
 refine⟨hs,fun k cs e fz hc hne => ?_⟩;have hkl:k<w.heap.size:=(Array.getElem?_eq_some_iff.1 hc).1;rw [hw k hkl (fun e2=>by
  unfold Cel at h;rw [e2,h]at hc;injection hc with hc;injection hc with _ hc _;exact hne hc.symm)]
 exact hc
end
theorem zfT{w:World}{g o:Nat}{ty:TypeId}{cur:Array Value}(v:Value)(h:w.heap[g]? = some (Obj.cells cur ty)):(w.setCell ⟨g,o,none⟩ v).heap[g]? = some (Obj.cells (cur.setIfInBounds o v) ty):=by
 exact Go.heap_setCell_same w g o cur ty v h
theorem Cel.store4{w:World}{g base:Nat}{ty:TypeId}{y0 y1 y2 y3 x0 x1 x2 x3:Value}(h:Cel w g ty [y0,y1,y2,y3])(hi:(Tryz.prog.info? ty).map (·.size)=some 4)(hb:base≤g)(h1:#[x0,x1,x2,x3].all (·.oneCell')=true) :
  ∃w2,(Instr.storeAt ty (.pointer (some ⟨g,0,none⟩)) (.agg #[x0,x1,x2,x3])).run Tryz.prog w = .ok () w2∧Cel w2 g ty [x0,x1,x2,x3]∧Touch ty w w2∧Below base w w2∧∀k,k<w.heap.size→k≠g→w2.heap[k]? = w.heap[k]?:=by
 have hrun:=run_storeAt_mid (P:=Tryz.prog) w g 0 ty #[x0,x1,x2,x3] h.there hi h1;have hB:Below base w (w.setCells g 0 [x0,x1,x2,x3]):=((((Below.refl base w).setCell (p:=⟨g,0,none⟩) hb x0).setCell (p:=⟨g,0+1,none⟩) hb x1).setCell (p:=⟨g,0+1+1,none⟩) hb x2).setCell (p:=⟨g,0+1+1+1,none⟩) hb x3;have hot:∀k,k<w.heap.size→k≠g→(w.setCells g 0 [x0,x1,x2,x3]).heap[k]? = w.heap[k]?:=fun k hk hne=>World.heap_setCells_other w g 0 _ hk hne
 exact⟨w.setCells g 0 [x0,x1,x2,x3],hrun,zfT (o:=0+1+1+1) x3 (zfT (o:=0+1+1) x2 (zfT (o:=0+1) x1 (zfT (o:=0) x0 h))),h.touch hot hB.size,hB,hot⟩
theorem Cel.store3{w:World}{g base:Nat}{ty:TypeId}{y0 y1 y2 x0 x1 x2:Value}(h:Cel w g ty [y0,y1,y2])(hi:(Tryz.prog.info? ty).map (·.size)=some 3)(hb:base≤g)(h1:#[x0,x1,x2].all (·.oneCell')=true) :
  ∃w2,(Instr.storeAt ty (.pointer (some ⟨g,0,none⟩)) (.agg #[x0,x1,x2])).run Tryz.prog w = .ok () w2∧Cel w2 g ty [x0,x1,x2]∧Touch ty w w2∧Below base w w2∧∀k,k<w.heap.size→k≠g→w2.heap[k]? = w.heap[k]?:=by
 have hrun:=run_storeAt_mid (P:=Tryz.prog) w g 0 ty #[x0,x1,x2] h.there hi h1;have hB:Below base w (w.setCells g 0 [x0,x1,x2]):=(((Below.refl base w).setCell (p:=⟨g,0,none⟩) hb x0).setCell (p:=⟨g,0+1,none⟩) hb x1).setCell (p:=⟨g,0+1+1,none⟩) hb x2;have hot:∀k,k<w.heap.size→k≠g→(w.setCells g 0 [x0,x1,x2]).heap[k]? = w.heap[k]?:=fun k hk hne=>World.heap_setCells_other w g 0 _ hk hne
 exact⟨w.setCells g 0 [x0,x1,x2],hrun,zfT (o:=0+1+1) x2 (zfT (o:=0+1) x1 (zfT (o:=0) x0 h)),h.touch hot hB.size,hB,hot⟩
theorem zkj{P:Program}{F:Fence}{n:Nat}{code:Code}{c0:CAct}{w:World}{Q:Exit→CAct→World→Prop}(S:CAct→Exit→CAct→World→Prop)(h1:code.wpIn F n P (S c0) c0 w)(h2:∀e c' w',S c0 e c' w'→Q e c' w'):code.wpIn F n P Q c0 w:=wpIn_mono h1 h2
theorem zoa(z:Int):∃D:Nat,IntKind.u64.wrap z=(D:Int)∧D<18446744073709551616:=by
 have h:IntKind.u64.wrap z=z%18446744073709551616:=by
  simp [IntKind.wrap,IntKind.bits,IntKind.signed]
 refine⟨(z%18446744073709551616).toNat,?_,by omega⟩;rw [h];omega
theorem w64{z:Int}(h1 : -9223372036854775808≤z)(h2:z≤9223372036854775807):wrap64 z=z:=by
 unfold wrap64;omega
theorem zrv{x:Nat}(h:x<18446744073709551616):IntKind.u64.wrap (x:Int)=(x:Int):=zdw h
theorem zrH(c:Int)(n:Nat)(h1:1≤n)(h2:n≤30):∃k:Nat,wrap64 ((IntKind.u64.wrap c).tmod (IntKind.u64.wrap (wrap64 ((n:Int)+1))))=(k:Int)∧¬IntKind.u64.wrap (wrap64 ((n:Int)+1))=0∧k≤n:=by
 obtain⟨C,e1,hC⟩:=zoa c;have e3:wrap64 ((n:Int)+1)=((n+1:Nat):Int):=by rw [w64 (by omega) (by omega)];omega
 have e2:(C:Int).tmod ((n+1:Nat):Int)=((C%(n+1):Nat):Int):=rfl;have hlt:C%(n+1)<n+1:=Nat.mod_lt _ (by omega);rw [e1,e3,zrv (by omega),e2];generalize C%(n+1)=M at hlt
 rw [w64 (z:=(M:Int)) (by omega) (by omega)];exact⟨M,rfl,by omega,by omega⟩
theorem zaj.form'{w:World}{v:Value}{q:Rat}(h:zaj w v q):∃s o k c o2 k2 c2,v = .agg #[.bool s,.slice o k c,.slice o2 k2 c2]:=by
 obtain⟨o,k,c,o2,k2,c2,e⟩:=h.form;exact⟨_,o,k,c,o2,k2,c2,e⟩
theorem zn4{q:Rat}{f t:Int}(h:badB q f t=false):sgnR q=1∧sgnR (q-((1:Int):Rat)) = -1∧zaU q 6=true∧1≤t∧t≤30∧0≤f∧f≤t:=by
 unfold badB at h;simp only [Bool.or_eq_false_iff,decide_eq_false_iff_not,Bool.not_eq_false']at h;obtain⟨⟨⟨⟨⟨⟨h1,h2⟩,h3⟩,h4⟩,h5⟩,h6⟩,h7⟩:=h;have k1:=zef q;have k2:=zef (q-((1:Int):Rat));refine⟨by omega,by omega,h3,by omega,by omega,by omega,by omega⟩
theorem zh6{q:Rat}{f t:Int}(h:badB q f t=false):0<q∧q<1∧zad q 1∧zcv q=true∧1≤t.toNat∧t.toNat≤30∧f.toNat≤t.toNat∧f=(f.toNat:Int)∧t=(t.toNat:Int):=by
 obtain⟨h1,h2,h3,h4,h5,h6,h7⟩:=zn4 h;have hq:=(zmM q).1.2 h1;have hq1:=(zmM (q-((1:Int):Rat))).2.2 h2;rw [zeN]at hq1;refine⟨hq,by grind,zkK h3,?_,by omega,by omega,by omega,by omega,by omega⟩;unfold zcv;rw [h3];have:0≤q.num:=Rat.num_nonneg.2 (Rat.le_of_lt hq);simp [this]
def ruA(q:Rat)(f t:Int):Rat:=if badB q f t=true then 0 else zdA q f.toNat t.toNat
def ruB(q:Rat)(f t:Int):Rat:=if badB q f t=true then 0 else zeB q f.toNat t.toNat
def ruE(q:Rat)(f t:Int):Int:=if badB q f t=true then 1 else 0
theorem zp2(w:World)(v:Value)(q:Rat)(f t:Int)(h:zaj w v q)(hq:zad q 2223)(htab:zbh w) :
  CallsIn Fence.wide 0 Tryz.prog 14 #[v,.int .i64 f,.int .i64 t] w fun e w'=>∃a b,e = .returned (.tuple #[a,b,.int .i64 (ruE q f t)])∧zaj w' a (ruA q f t)∧zaj w' b (ruB q f t)∧Below w.heap.size w w':=by
 unfold ruA ruB ruE
 cases hb:badB q f t with
 | true=>
  simp only [if_true];exact zp1 w v q f t h hq hb htab
 | false=>
  simp only [Bool.false_eq_true,if_false];obtain⟨h0,h1,hL,hs,hn1,hn2,hk,ef,et⟩:=zh6 hb;have:=znI w v q f.toNat t.toNat h hL hs h0 h1 hn1 hn2 hk htab;rw [←ef,←et]at this;exact this
theorem zoH{w:World}{v:Value}{q:Rat}{f t:Int}(h:QAt w v q)(hb:badB q f t=false) :
  CallsIn Fence.wide 0 Tryz.prog 38 #[v,.int .i64 f,.int .i64 t] w fun e w'=>∃a b,e = .returned (.tuple #[a,b])∧QAt w' a (ruA q f t)∧QAt w' b (ruB q f t)∧Below w.heap.size w w':=by
 unfold ruA ruB;rw [hb];simp only [Bool.false_eq_true,if_false];obtain⟨h0,h1,hL,hs,hn1,hn2,hk,ef,et⟩:=zh6 hb;have:=zlV w v q f.toNat t.toNat h h0 h1 hL hn1 hn2 hk;rw [←ef,←et]at this;exact this
theorem zr8{q:Rat}{f t:Int}(hb:badB q f t=false):zad (ruA q f t) 300∧zad (ruB q f t) 300:=by
 unfold ruA ruB;rw [hb];simp only [Bool.false_eq_true,if_false];obtain⟨h0,h1,hL,hs,hn1,hn2,hk,ef,et⟩:=zh6 hb;exact zq1 hL hn2 hk
theorem bad7{l:List Oper}(hl:l=zfx p57){c:CAct}{w1:World}(hsz:c.tmps.size=128){g9:Nat}{x0 x1 x2 x3:Value}{q:Rat}{f t:Int}(h9:c.tmps.getD 9 undef = .pointer (some ⟨g9,0,none⟩))(h1:c.tmps.getD 1 undef = .int .i64 f)(h2:c.tmps.getD 2 undef = .int .i64 t)
  (hbx:BoxL w1 g9 [x0,x1,x2,x3]) (hq:QAt w1 (.agg #[x0,x1,x2,x3]) q) (hqL:zad q 4700):(Code.region 7 l.toArray true).wpIn Fence.wide 0 Tryz.prog (zfy c w1 (badB q f t)) c w1:=by
 obtain⟨sg,hsg⟩:∃sg,sgnR q=sg:=⟨_,rfl⟩;obtain⟨cm,hcm⟩:∃cm,sgnR (q-((1:Int):Rat))=cm:=⟨_,rfl⟩;obtain⟨sm,hsm⟩:∃sm,zaU q 6=sm:=⟨_,rfl⟩;unfold badB;rw [hsg,hcm,hsm];by_cases c0:sg≤0
 ·simp only [c0,decide_true,Bool.true_or];exact zr0 hl hsz h9 hbx hq hqL hsg c0
 ·by_cases c1:0≤cm
  ·simp only [c0,c1,decide_true,decide_false,Bool.true_or,Bool.or_true];exact zrZ hl hsz h9 hbx hq hqL hsg hcm ⟨by omega,c1⟩
  ·cases hs:sm with
   | false=>
    simp only [c0,c1,decide_false,Bool.not_false,Bool.true_or,Bool.or_true];exact zrY hl hsz h9 hbx hq hqL hsg hcm hsm ⟨by omega,by omega⟩ hs
   | true=>
    by_cases c3:t<1
    ·simp only [c0,c1,c3,decide_true,decide_false,Bool.true_or,Bool.or_true];exact zrX hl hsz h9 h2 hbx hq hqL hsg hcm hsm ⟨by omega,by omega,c3⟩ hs
    ·by_cases c4:30<t
     ·simp only [c0,c1,c3,c4,decide_true,decide_false,Bool.true_or,Bool.or_true];exact zrW hl hsz h9 h2 hbx hq hqL hsg hcm hsm ⟨by omega,by omega,c4⟩ hs
     ·by_cases c5:f<0
      ·simp only [c0,c1,c3,c4,c5,decide_true,decide_false,Bool.true_or,Bool.or_true];exact zrV hl hsz h9 h1 h2 hbx hq hqL hsg hcm hsm ⟨by omega,by omega,by omega,by omega,c5⟩ hs
      ·by_cases c6:t<f
       ·simp only [c0,c1,c3,c4,c5,c6,decide_true,decide_false,Bool.or_true];exact zrU hl hsz h9 h1 h2 hbx hq hqL hsg hcm hsm ⟨by omega,by omega,by omega,by omega,by omega,c6⟩ hs
       ·simp only [c0,c1,c3,c4,c5,c6,decide_false,Bool.not_true,Bool.or_false];exact zrT hl hsz h9 h1 h2 hbx hq hqL hsg hcm hsm ⟨by omega,by omega,by omega,by omega,by omega,by omega⟩ hs
def QC(w:World)(g:Nat)(q:Rat):Prop:=∃s o1 k1 c1 o2 k2 c2,Cel w g 62 [.bool s,.slice o1 k1 c1,.bool false,.slice o2 k2 c2]∧QAt w (.agg #[.bool s,.slice o1 k1 c1,.bool false,.slice o2 k2 c2]) q
def RC(w:World)(g:Nat)(q:Rat):Prop:=∃s o1 k1 c1 o2 k2 c2,Cel w g 27 [.bool s,.slice o1 k1 c1,.slice o2 k2 c2]∧zaj w (.agg #[.bool s,.slice o1 k1 c1,.slice o2 k2 c2]) q
theorem QC.below{w w':World}{g:Nat}{q:Rat}(h:QC w g q)(hb:Below w.heap.size w w'):QC w' g q:=by
 obtain⟨s,o1,k1,c1,o2,k2,c2,h1,h2⟩:=h;exact⟨s,o1,k1,c1,o2,k2,c2,h1.below hb,h2.below hb⟩
theorem RC.below{w w':World}{g:Nat}{q:Rat}(h:RC w g q)(hb:Below w.heap.size w w'):RC w' g q:=by
 obtain⟨s,o1,k1,c1,o2,k2,c2,h1,h2⟩:=h;exact⟨s,o1,k1,c1,o2,k2,c2,h1.below hb,h2.below hb⟩
theorem zrC(d:Int):∃n:Nat,wrap64 (1+wrap64 ((IntKind.u64.wrap d).tmod 12))=(n:Int)∧1≤n∧n≤30:=by
 obtain⟨D,e1,hD⟩:=zoa d;have e2:(D:Int).tmod 12=((D%12:Nat):Int):=rfl;have hlt:D%12<12:=Nat.mod_lt _ (by decide);rw [e1,e2];generalize D%12=M at hlt
 rw [w64 (z:=(M:Int)) (by omega) (by omega),w64 (by omega) (by omega)];exact⟨1+M,by omega,by omega,by omega⟩
theorem len5(N:Nat):∃a:Nat,1+(N:Int)%5=(a:Int)∧1≤a∧a≤5:=⟨1+N%5,by omega,by omega,by omega⟩
theorem zgZ{a:Nat}(h:a≤5):zbR (((a:Int):Rat)/((7:Int):Rat))=true:=by
 have h1:(a:Int).natAbs<B^3:=zd5 (by omega) (by omega);have h2:(7:Int).natAbs<B^3:=zd5 (by decide) (by decide);exact zh4 ((zoV h1 h2).mono (by decide))
end Go.Num
