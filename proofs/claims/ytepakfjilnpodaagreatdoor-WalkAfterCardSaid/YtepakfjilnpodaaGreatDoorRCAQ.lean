/-
  The machine on rational numbers: an opaque fraction bears its number in its tag; what the program's arithmetic answers is told.
  Conditions: all numbers that come up have at most nine digits.
-/
import Derived.Test.YtepakfjilnpodaaGreatDoorRCAP
import Derived.Test.YtepakfjilnpodaaGreatDoorRCAO
namespace Go.Num
open Go.Eng Go.Shelf Go.RowKit Go.Proofs Go.Proofs.YtepakfjilnpodaaGreatDoor
def cR(q:Rat):Tg:=match q.num with
 | .ofNat a => .bin 50 (.leaf a) (.leaf q.den)
 | .negSucc a => .bin 51 (.leaf (a+1)) (.leaf q.den)
def dR:Tg→Option Rat
 | .bin k (.leaf a) (.leaf b)=>bif Nat.beq k 50 then some (mkRat (.ofNat a) b)else bif Nat.beq k 51 then some (mkRat (-(.ofNat a)) b)else none
 | _=>none
theorem dR_cR(q:Rat):dR (cR q)=some q:=by
 have h:mkRat q.num q.den=q:=Rat.mkRat_self q
 unfold cR
 split
 ·rename_i a e
  rw [e]at h
  show some (mkRat (.ofNat a) q.den)=some q
  rw [h]
 ·rename_i a e
  rw [e]at h
  have h2:some (mkRat (Int.negSucc a) q.den)=some q:=by rw [h]
  exact h2
abbrev rs1:List TypeId:=[116]
theorem RatAt.kept1{w w':World}{v:Value}{q:Rat}(h:RatAt w v q)(hk:Go.Eng.Kept rs1 w w'):RatAt w' v q:=by
 obtain⟨vn,vd,e,h1,h2⟩:=h
 exact⟨vn,vd,e,h1.kept hk rfl,h2.kept hk rfl⟩
def IR1(t:Tg)(v:Value)(w:World):Prop:=match dR t with
 | some q=>RatAt w v q
 | none=>False
def GR:Sett where
 ids:=[]
 res:=rs1
 I:=IR1
 stable:=by
  intro t v w w' hk h
  unfold IR1 at h ⊢
  split at h
  ·exact h.kept1 hk
  ·exact h.elim
def clsR(t:Tg):Sh:=match dR t with
 | some _ => .agg 3
 | none => .one
theorem shapedR:Shaped GR clsR where
 ok:=by
  intro t v w h
  replace h:IR1 t v w:=h
  unfold IR1 at h
  unfold clsR
  split at h
  ·rename_i q e
   exact(leafR q).ok v w h
  ·exact h.elim
 det:=by
  intro t ht
  unfold clsR at ht
  split at ht <;> cases ht
theorem pR{w:World}{v:Value}{q:Rat}(h:RatAt w v q):PieceOK GR (.tag (cR q)) v w:=by
 show IR1 (cR q) v w
 unfold IR1
 rw [dR_cR]
 exact h
theorem uR{w:World}{v:Value}{t:Tg}{q:Rat}(hq:dR t=some q)(h:PieceOK GR (.tag t) v w):RatAt w v q:=by
 have h:IR1 t v w:=h
 unfold IR1 at h
 rw [hq]at h
 exact h
def sm(q:Rat):Bool:=Nat.blt q.num.natAbs 1000000000 && Nat.blt q.den 1000000000
theorem sm_le{q:Rat}(h:sm q=true):RatLe q 1:=by
 unfold sm at h
 rw [Bool.and_eq_true]at h
 exact⟨by rw [Nat.pow_one];exact bltN_lt h.1,by rw [Nat.pow_one];exact bltN_lt h.2⟩
theorem sm_kept{q:Rat}(h:sm q=true):Kept1 q=true:=by
 unfold sm at h
 rw [Bool.and_eq_true]at h
 have h1:=nDigits_9 (bltN_lt h.1)
 have h2:=nDigits_9 (bltN_lt h.2)
 unfold Kept1 SmallN
 rw [Bool.and_eq_true]
 refine⟨decide_eq_true (by omega),decide_eq_true ?_⟩
 split
 ·have:=nDigits_9 (show 0<1000000000 by decide);omega
 ·omega
def lN(n:Nat):List UInt8:=decF 20 n []
def lZ(z:Int):List UInt8:=match z with
 | .ofNat a=>lN a
 | .negSucc a=>45 :: lN (a+1)
def lQ(q:Rat):List UInt8:=bif Nat.beq q.den 1 then lZ q.num else lZ q.num ++ 47 :: lN q.den
theorem lN_is{n:Nat}(h:n<1000000000):lN n=Lib.decDigits n:=dec_fuel (k:=1) (by rw [Nat.pow_one];exact h) (by decide) (by decide)
theorem lZ_is{z:Int}(h:z.natAbs<1000000000):lZ z=Lib.itoa z:=by
 unfold lZ Lib.itoa
 split
 ·rename_i a
  have h0:¬(Int.ofNat a<0):=by show ¬((a:Int)<0);omega
  rw [if_neg h0,lN_is (by simpa using h)]
  rfl
 ·rename_i a
  rw [if_pos (Int.negSucc_lt_zero a),lN_is (by simpa using h)]
  rfl
theorem lQ_is{q:Rat}(h:sm q=true):textQ q=⟨⟨lQ q⟩⟩:=by
 unfold sm at h
 rw [Bool.and_eq_true]at h
 unfold textQ lQ textZ
 cases e:Nat.beq q.den 1 with
 | true=>
  rw [if_pos (Nat.eq_of_beq_eq_true e),cond_true,lZ_is (bltN_lt h.1)]
 | false=>
  rw [if_neg (fun e2=>by rw [e2]at e;cases e),cond_false,lZ_is (bltN_lt h.1),lN_is (bltN_lt h.2)]
def st(l:List UInt8):AT:=.val (.sc (.str ⟨⟨l⟩⟩))
def tR(q:Rat):AT:=.tag (cR q)
def unR(f:FuncId)(p:Rat):Option AT:=
 bif !sm p then none else
 bif Nat.beq f 66 then some (A1 (tR (-p)))else
 bif Nat.beq f 25 then some (A1 (vi (sgnR p)))else
 bif Nat.beq f 18 then some (A1 (st (lQ p)))else
 bif Nat.beq f 74 then some (A1 (tR p))else
 bif Nat.beq f 218 then some (A1 (vb false))else
 bif Nat.beq f 75 then some (A2 (st (lZ p.num)) (st (lN p.den)))else none
def biR(f:FuncId)(p q:Rat):Option AT:=
 bif !(sm p && sm q)then none else
 bif Nat.beq f 17 then(bif sm (p+q)then some (A2 (tR (p+q)) (vi 0))else none)else
 bif Nat.beq f 71 then some (A1 (tR (p+q)))else
 bif Nat.beq f 44 then(bif sm (p*q)then some (A2 (tR (p*q)) (vi 0))else none)else
 bif Nat.beq f 111 then some (A1 (tR (p*q)))else
 bif Nat.beq f 15 then some (A1 (vi (sgnR (p-q))))else
 bif Nat.beq q.num.natAbs 0 then none else
 bif Nat.beq f 45 then(bif sm (p/q)then some (A2 (tR (p/q)) (vi 0))else none)else
 bif Nat.beq f 61 then some (A1 (tR (p/q)))else none
def zAV:AV:=.agg (.cons (.sc (.bool false)) (.cons (.sc .nilSlice) (.cons (.sc .nilSlice) .nil)))
def numT:AT→Option Rat
 | .tag t=>dR t
 | .val (.agg cs)=>bif (AV.agg cs).beq zAV then some 0 else none
 | _=>none
def intT:AT→Option Int
 | .val (.sc (.int .i64 n))=>some n
 | _=>none
def TR:TTab:=fun f ts=>
 match ts with
 | .cons a .nil=>(match numT a with
  | some p=>unR f p
  | none=>match intT a with
   | some n=>bif Nat.beq f 16 && Nat.blt n.natAbs 1000000000 then some (A1 (tR (n:Rat)))else none
   | none=>none)
 | .cons a (.cons b .nil)=>(match numT a,numT b with
  | some p,some q=>biR f p q
  | _,_=>match intT a,intT b with
   | some n,some m=>bif Nat.beq f 13 && Nat.blt n.natAbs 1000000000 && Nat.blt m.natAbs 1000000000 && !Nat.beq m.natAbs 0 then some (A2 (tR ((n:Rat)/(m:Rat))) (vi 0))else none
   | _,_=>none)
 | _=>none
theorem numT_ok{w:World}{a:AT}{v:Value}{q:Rat}(hq:numT a=some q)(h:PieceOK GR a v w):RatAt w v q:=by
 unfold numT at hq
 split at hq
 ·exact uR hq h
 ·rename_i cs
  cases e:(AV.agg cs).beq zAV with
  | false=>rw [e]at hq;cases hq
  | true=>
   rw [e]at hq
   cases hq
   have:=AV.beq_eq e
   have h:(AV.agg cs).closed=some v:=h
   rw [this]at h
   cases h
   exact ratAt_zero w
 ·cases hq
theorem intT_ok{w:World}{a:AT}{v:Value}{n:Int}(hq:intT a=some n)(h:PieceOK GR a v w):v = .int .i64 n:=by
 unfold intT at hq
 split at hq
 ·cases hq
  have h:some (Value.int .i64 _)=some v:=h
  cases h;rfl
 ·cases hq
theorem bif_f{f k:Nat}{a b:Option AT}{r:AT}(h:(bif Nat.beq f k then a else b)=some r):(f=k∧a=some r)∨b=some r:=by
 cases e:Nat.beq f k with
 | true=>rw [e]at h;exact .inl ⟨Nat.eq_of_beq_eq_true e,h⟩
 | false=>rw [e]at h;exact .inr h
theorem bif_t{c:Bool}{a:Option AT}{r:AT}(h:(bif c then a else none)=some r):c=true∧a=some r:=by
 cases c with
 | true=>exact⟨rfl,h⟩
 | false=>cases h
theorem bif_n{c:Bool}{b:Option AT}{r:AT}(h:(bif c then none else b)=some r):c=false∧b=some r:=by
 cases c with
 | true=>cases h
 | false=>exact⟨rfl,h⟩
abbrev RetOK(w:World)(rs:AT)(e:Ending)(w':World):Prop:=∃x,e = .returned x∧PackOK GR rs x w'∧Below w.heap.size w w'
theorem unR_told{f:FuncId}{p:Rat}{rs:AT}(h:unR f p=some rs):(∃fn:Func,Tryz.prog.funcs[f]? = some fn∧fn.body.isSome=true)∧∀w v,RatAt w v p→Pow10 w→CallsIn Fence.wide 0 Tryz.prog f #[v] w (RetOK w rs):=by
 unfold unR at h
 obtain⟨hs,h⟩:=bif_n h
 have hs:sm p=true:=by simpa using hs
 have hL:RatLe p 100000:=(sm_le hs).mono (by decide)
 rcases bif_f h with⟨rfl,h⟩|h
 ·cases h
  refine⟨⟨_,Tryz.func66,rfl⟩,fun w v hv _=>(neg_calls w v p hv).mono ?_⟩
  rintro e w' ⟨x,rfl,hr,hb⟩
  exact⟨x,rfl,pR hr,hb⟩
 rcases bif_f h with⟨rfl,h⟩|h
 ·cases h
  refine⟨⟨_,Tryz.func25,rfl⟩,fun w v hv _=>(sign_calls w v p hv).mono ?_⟩
  rintro e w' ⟨rfl,hb⟩
  exact⟨_,rfl,rfl,hb⟩
 rcases bif_f h with⟨rfl,h⟩|h
 ·cases h
  refine⟨⟨_,Tryz.func18,rfl⟩,fun w v hv ht=>(string_calls w v p hv hL ht).mono ?_⟩
  rintro e w' ⟨rfl,hb⟩
  exact⟨_,rfl,by rw [lQ_is hs];rfl,hb⟩
 rcases bif_f h with⟨rfl,h⟩|h
 ·cases h
  refine⟨⟨_,Tryz.func74,rfl⟩,fun w v hv ht=>(kept_calls w v p hv hL (sm_kept hs) ht).mono ?_⟩
  rintro e w' ⟨x,rfl,hr,hb⟩
  exact⟨x,rfl,pR hr,hb⟩
 rcases bif_f h with⟨rfl,h⟩|h
 ·cases h
  refine⟨⟨_,Tryz.func218,rfl⟩,fun w v hv ht=>(isLong_calls w v p hv hL ht).mono ?_⟩
  rintro e w' ⟨rfl,hb⟩
  have hq:SmallQ p 20=true:=by
   unfold sm at hs
   rw [Bool.and_eq_true]at hs
   have h1:=nDigits_9 (bltN_lt hs.1)
   have h2:=nDigits_9 (bltN_lt hs.2)
   unfold SmallQ
   rw [decide_eq_true (by omega),decide_eq_true (by omega)];rfl
  rw [hq]
  exact⟨_,rfl,rfl,hb⟩
 rcases bif_f h with⟨rfl,h⟩|h
 ·cases h
  refine⟨⟨_,Tryz.func75,rfl⟩,fun w v hv ht=>(parts_calls w v p hv hL ht).mono ?_⟩
  rintro e w' ⟨rfl,hb⟩
  unfold sm at hs
  rw [Bool.and_eq_true]at hs
  refine⟨_,rfl,pk2 ?_ ?_,hb⟩
  ·show some (Value.string ⟨⟨lZ p.num⟩⟩)=_
   rw [lZ_is (bltN_lt hs.1)];rfl
  ·show some (Value.string ⟨⟨lN p.den⟩⟩)=_
   rw [lN_is (bltN_lt hs.2)];rfl
 ·cases h
theorem biR_told{f:FuncId}{p q:Rat}{rs:AT}(h:biR f p q=some rs):(∃fn:Func,Tryz.prog.funcs[f]? = some fn∧fn.body.isSome=true)∧∀w v u,RatAt w v p→RatAt w u q→Pow10 w→CallsIn Fence.wide 0 Tryz.prog f #[v,u] w (RetOK w rs):=by
 unfold biR at h
 obtain⟨hs,h⟩:=bif_n h
 have hs:sm p=true∧sm q=true:=by simpa using hs
 have hp:=sm_le hs.1
 have hq:=sm_le hs.2
 rcases bif_f h with⟨rfl,h⟩|h
 ·obtain⟨h1,h⟩:=bif_t h
  cases h
  refine⟨⟨_,Tryz.func17,rfl⟩,fun w v u hv hu ht=>(addR_calls w v u p q 1 hv hu hp hq (by decide) ((sm_le h1).mono (by decide)) (sm_kept h1) ht).mono ?_⟩
  rintro e w' ⟨x,rfl,hr,hb⟩
  exact⟨_,rfl,pk2 (pR hr) rfl,hb⟩
 rcases bif_f h with⟨rfl,h⟩|h
 ·cases h
  refine⟨⟨_,Tryz.func71,rfl⟩,fun w v u hv hu ht=>(plus_calls w v u p q 1 hv hu hp hq (by decide)).mono ?_⟩
  rintro e w' ⟨x,rfl,hr,hb⟩
  exact⟨_,rfl,pR hr,hb⟩
 rcases bif_f h with⟨rfl,h⟩|h
 ·obtain⟨h1,h⟩:=bif_t h
  cases h
  refine⟨⟨_,Tryz.func44,rfl⟩,fun w v u hv hu ht=>(mulR_calls w v u p q 1 hv hu hp hq (by decide) ((sm_le h1).mono (by decide)) (sm_kept h1) ht).mono ?_⟩
  rintro e w' ⟨x,rfl,hr,hb⟩
  exact⟨_,rfl,pk2 (pR hr) rfl,hb⟩
 rcases bif_f h with⟨rfl,h⟩|h
 ·cases h
  refine⟨⟨_,Tryz.func111,rfl⟩,fun w v u hv hu ht=>(times_calls w v u p q 1 hv hu hp hq (by decide)).mono ?_⟩
  rintro e w' ⟨x,rfl,hr,hb⟩
  exact⟨_,rfl,pR hr,hb⟩
 rcases bif_f h with⟨rfl,h⟩|h
 ·cases h
  refine⟨⟨_,Tryz.func15,rfl⟩,fun w v u hv hu ht=>(cmpR_calls w v u p q 1 hv hu hp hq (by decide)).mono ?_⟩
  rintro e w' ⟨rfl,hb⟩
  exact⟨_,rfl,rfl,hb⟩
 obtain⟨h0,h⟩:=bif_n h
 have hq0:q.num≠0:=by
  intro e
  rw [e]at h0
  cases h0
 rcases bif_f h with⟨rfl,h⟩|h
 ·obtain⟨h1,h⟩:=bif_t (c:=sm (p/q)) (a:=some (A2 (tR (p/q)) (vi 0))) h
  cases h
  refine⟨⟨_,Tryz.func45,rfl⟩,fun w v u hv hu ht=>(quoR_calls w v u p q 1 hv hu hp hq hq0 (by decide) ((sm_le h1).mono (by decide)) (sm_kept h1) ht).mono ?_⟩
  rintro e w' ⟨x,rfl,hr,hb⟩
  exact⟨_,rfl,pk2 (pR hr) rfl,hb⟩
 rcases bif_f h with⟨rfl,h⟩|h
 ·cases h
  refine⟨⟨_,Tryz.func61,rfl⟩,fun w v u hv hu ht=>(over_calls w v u p q 1 hv hu hp hq hq0 (by decide)).mono ?_⟩
  rintro e w' ⟨x,rfl,hr,hb⟩
  exact⟨_,rfl,pR hr,hb⟩
 ·cases h
def forceTg{β:Type}:Tg→(Tg→β)→β
 | .leaf n,k=>fN n fun n=>k (.leaf n)
 | .un n a,k=>fN n fun n=>forceTg a fun a=>k (.un n a)
 | .bin n a b,k=>fN n fun n=>forceTg a fun a=>forceTg b fun b=>k (.bin n a b)
theorem forceTg_eq{β:Type}:∀(t:Tg) (k:Tg→β),forceTg t k=k t
 | .leaf n,k=>by unfold forceTg;rw [fN_eq]
 | .un n a,k=>by unfold forceTg;rw [fN_eq,forceTg_eq a]
 | .bin n a b,k=>by unfold forceTg;rw [fN_eq,forceTg_eq a,forceTg_eq b]
def forceAT{β:Type}:AT→(AT→β)→β
 | .tag t,k=>forceTg t fun t=>k (.tag t)
 | .val v,k=>v.force fun v=>k (.val v)
 | .cons a b,k=>forceAT a fun a=>forceAT b fun b=>k (.cons a b)
 | t,k=>k t
theorem forceAT_eq{β:Type}:∀(t:AT) (k:AT→β),forceAT t k=k t
 | .tag t,k=>by unfold forceAT;rw [forceTg_eq]
 | .val v,k=>by unfold forceAT;rw [AV.force_eq]
 | .cons a b,k=>by unfold forceAT;rw [forceAT_eq a,forceAT_eq b]
 | .agg _,_=>rfl
 | .fn _ _ _,_=>rfl
 | .nil,_=>rfl
def TF:TTab:=fun f ts=>match TR f ts with
 | some r=>forceAT r some
 | none=>none
theorem TF_eq:TF=TR:=by
 funext f ts
 unfold TF
 cases TR f ts with
 | none=>rfl
 | some r=>exact forceAT_eq r some
theorem told_R{w0:World}(ht:Pow10 w0):ToldIn Tryz.prog w0.heap.size w0 GR TF:=by
 rw [TF_eq]
 intro f ts rs h
 unfold TR at h
 split at h
 ·rename_i a
  split at h
  ·rename_i p hp
   obtain⟨hb,hc⟩:=unR_told h
   refine⟨hb,fun w xs hw hx => ?_⟩
   obtain⟨v,r,e,h1,h2⟩:=hx
   have h2:r = []:=h2
   subst h2
   have:xs=#[v]:=Array.toList_inj.1 (by simpa using e)
   subst this
   exact callsIn_wide.1 (hc w v (numT_ok hp h1) (ht.below hw))
  ·split at h
   ·rename_i n hn'
    obtain⟨hc,h⟩:=bif_t h
    cases h
    rw [Bool.and_eq_true]at hc
    obtain rfl:=Nat.eq_of_beq_eq_true hc.1
    have hn:=bltN_lt hc.2
    refine⟨⟨_,Tryz.func16,rfl⟩,fun w xs hw hx => ?_⟩
    obtain⟨v,r,e,h1,h2⟩:=hx
    have h2:r = []:=h2
    subst h2
    have:xs=#[v]:=Array.toList_inj.1 (by simpa using e)
    subst this
    obtain rfl:=intT_ok hn' h1
    refine callsIn_wide.1 ((ofN_calls w n (by omega) (by omega)).mono ?_)
    rintro e w' ⟨x,rfl,hr,hb⟩
    exact⟨_,rfl,pR hr,hb⟩
   ·cases h
 ·rename_i a b
  split at h
  ·rename_i p q hp hq
   obtain⟨hb,hc⟩:=biR_told h
   refine⟨hb,fun w xs hw hx => ?_⟩
   obtain⟨v,r,e,h1,u,r2,e2,h2,h3⟩:=hx
   subst e2
   have h3:r2 = []:=h3
   subst h3
   have:xs=#[v,u]:=Array.toList_inj.1 (by simpa using e)
   subst this
   exact callsIn_wide.1 (hc w v u (numT_ok hp h1) (numT_ok hq h2) (ht.below hw))
  ·split at h
   ·rename_i n m hn' hm'
    obtain⟨hc,h⟩:=bif_t h
    cases h
    simp only [Bool.and_eq_true]at hc
    obtain⟨⟨⟨hf,hn⟩,hm⟩,h0⟩:=hc
    obtain rfl:=Nat.eq_of_beq_eq_true hf
    have hn:=bltN_lt hn
    have hm:=bltN_lt hm
    have hm0:m≠0:=by
     intro e
     subst e
     cases h0
    refine⟨⟨_,Tryz.func13,rfl⟩,fun w xs hw hx => ?_⟩
    obtain⟨v,r,e,h1,u,r2,e2,h2,h3⟩:=hx
    subst e2
    have h3:r2 = []:=h3
    subst h3
    have:xs=#[v,u]:=Array.toList_inj.1 (by simpa using e)
    subst this
    obtain rfl:=intT_ok hn' h1
    obtain rfl:=intT_ok hm' h2
    refine callsIn_wide.1 ((make_calls w n m (by omega) (by omega) (by omega) (by omega) hm0).mono ?_)
    rintro e w' ⟨x,rfl,hr,hb⟩
    exact⟨_,rfl,pk2 (pR hr) rfl,hb⟩
   ·cases h
 ·cases h
end Go.Num
