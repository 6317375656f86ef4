/-
  A region that draws its order.
  Conditions: see each statement.
-/
import Derived.Test.YtoamcgjbelhnkaaGreatDoorSAA
import Derived.MapKept
import Derived.Laws.Tables
import Derived.Laws.MakeOwn
import Derived.Laws.AppendOwn
import Derived.DefersIn
namespace Go.Eng
open Go.RowKit
section
variable {P:Program} {B:Nat} {w0:World} {G:Sett} {μ:Mu} {H:AH} {w:World}
theorem zca(m n:Nat):Nat.blt m n=true↔m<n:=⟨fun h=>Nat.le_of_ble_eq_true h,fun h=>Nat.ble_eq_true_of_le h⟩
theorem zmv{s:Sem Value}{x:Value}{w':World}(h:s.run P w = .ok x w'):(do pure (Next.value (←s)):Sem Next).run P w = .ok (.value x) w':=by
 simp [h]
theorem zfr{v:AV}{n:Nat}{x:Value}(h:ziv v=some n)(hv:VR μ v x):∃k,x = .int k (n:Int):=by
 obtain⟨k,rfl⟩:=zqj h;exact⟨k,hv⟩
theorem znZ(h:Rep P B w0 G μ H w){t:TypeId}{i off n:Nat}{x:Value}{cs:AV}(ha:aggT P t=some true)(hs:zdH P t=some n)(hx:VR μ (.ptr i off) x)(hc:H.cellsAt i off n=some cs) :
  ∃y,(Instr.loadAt t x).run P w = .ok y w∧VR μ (.agg cs) y:=by
 obtain⟨b,N,hm,rfl⟩:=hx;obtain⟨xs,hl,hL,hcell⟩:=h.load hc hm;have hr:=run_loadCells_list (P:=P) w ⟨b,off,none⟩ xs hcell;rw [hl]at hr;exact⟨.agg xs.toArray,by simp [Instr.loadAt,Instr.sureAddr,loadVar,zjT ha,zbb hs,hr],_,rfl,hL⟩
theorem znY(h:Rep P B w0 G μ H w){t:TypeId}{i off:Nat}{x:Value}{v r:AV}(ha:aggT P t=some false)(hx:VR μ (.ptr i off) x)(hc:H.cellsAt i off 1=some (.cons v r)) :
  ∃y,(Instr.loadAt t x).run P w = .ok y w∧VR μ v y:=by
 obtain⟨b,N,hm,rfl⟩:=hx;obtain⟨xs,hl,hL,hcell⟩:=h.load hc hm;obtain⟨y,r',rfl,h1,h2⟩:=hL;have:=hcell 0 y rfl;rw [zeh,Nat.add_zero]at this;exact⟨y,by simp [Instr.loadAt,Instr.sureAddr,loadVar,zjT ha,this],h1⟩
theorem zqh{t:TypeId}{a b:AV}{x y:Value}{r:Bool}(h:zqi P t a b=some r)(hx:VR μ a x)(hy:VR μ b y)(w:World)(d:Nat):(Op.equalIn (d+1) t x y).run P w = .ok r w:=by
 unfold zqi at h;split at h <;> simp at h <;> subst h <;> rename_i hu
 ·have e1:x = .pointer none:=hx;have e2:y = .pointer none:=hy;subst e1;subst e2;simp [Op.equalIn,run_underlying hu]
 ·obtain⟨b,N,hm,rfl⟩:=hx;have e2:y = .pointer none:=hy;subst e2;simp [Op.equalIn,run_underlying hu]
 ·obtain⟨b,N,hm,rfl⟩:=hy;have e2:x = .pointer none:=hx;subst e2;simp [Op.equalIn,run_underlying hu]
 ·have e1:x = .slice none 0 0:=hx;have e2:y = .slice none 0 0:=hy;subst e1;subst e2;simp [Op.equalIn,run_underlying hu]
 ·obtain⟨b,N,c,hm,rfl,_⟩:=hx;have e2:y = .slice none 0 0:=hy;subst e2;simp [Op.equalIn,run_underlying hu]
 ·have e1:x = .map none:=hx;have e2:y = .map none:=hy;subst e1;subst e2;simp [Op.equalIn,run_underlying hu]
 ·obtain⟨b,N,hm,rfl⟩:=hx;have e2:y = .map none:=hy;subst e2;simp [Op.equalIn,run_underlying hu]
 ·have e1:x = .nilFunc:=hx;have e2:y = .nilFunc:=hy;subst e1;subst e2;simp [Op.equalIn,run_underlying hu]
 ·obtain⟨xs,ys,rfl,_⟩:=hx;have e2:y = .nilFunc:=hy;subst e2;simp [Op.equalIn,run_underlying hu]
theorem zcS(op:BinOp)(t:TypeId)(x y:Operand)(a b:Value)(h:(∀zAs bs,a = .agg zAs→b = .agg bs→P.eqGuardType P.depth t=false))(hn:¬(a = .nilIface∧b = .nilIface))(w:World) :
  (eqGuard op t x y a b).run P w = .ok () w:=by
 have core:(match a,b with
   | .nilIface,.nilIface=>(eqGuard op t x y .nilIface .nilIface).run P w
   | .agg zAs,.agg bs=>(eqGuard op t x y (.agg zAs) (.agg bs)).run P w
   | _,_=>Result.ok () w) = .ok () w:=by
  split
  ·exact absurd ⟨rfl,rfl⟩ hn
  ·rename_i zAs bs;exact run_eqGuard_agg w op t x y zAs bs (h _ _ rfl rfl)
  ·rfl
 split at core
 ·exact core
 ·exact core
 ·rename_i h1 h2;unfold eqGuard
  cases op <;> simp only [Bool.not_true,Bool.not_false,if_true,Bool.false_eq_true,if_false] <;> first|rfl|(split <;> first|rfl|exact(h1 rfl rfl).elim|exact(h2 _ _ rfl rfl).elim)
theorem zl2{t:TypeId}{a b:AV}{x y:Value}{r:Bool}(h:zqi P t a b=some r)(hx:VR μ a x)(hy:VR μ b y)(w:World) :
  (binOp .eql t x y).run P w = .ok (.bool r) w∧(binOp .neq t x y).run P w = .ok (.bool (!r)) w∧(∀zAs bs,x = .agg zAs→y = .agg bs→P.eqGuardType P.depth t=false)∧¬(x = .nilIface∧y = .nilIface):=by
 have he:(Op.equal t x y).run P w = .ok r w:=zqh h hx hy w 9999;unfold zqi at h;split at h <;> simp at h <;> subst h
 ·have e1:x = .pointer none:=hx;have e2:y = .pointer none:=hy;subst e1;subst e2;simp [binOp,he]
 ·obtain⟨b,N,hm,rfl⟩:=hx;have e2:y = .pointer none:=hy;subst e2;simp [binOp,he]
 ·obtain⟨b,N,hm,rfl⟩:=hy;have e2:x = .pointer none:=hx;subst e2;simp [binOp,he]
 ·have e1:x = .slice none 0 0:=hx;have e2:y = .slice none 0 0:=hy;subst e1;subst e2;simp [binOp,he]
 ·obtain⟨b,N,c,hm,rfl,_⟩:=hx;have e2:y = .slice none 0 0:=hy;subst e2;simp [binOp,he]
 ·have e1:x = .map none:=hx;have e2:y = .map none:=hy;subst e1;subst e2;simp [binOp,he]
 ·obtain⟨b,N,hm,rfl⟩:=hx;have e2:y = .map none:=hy;subst e2;simp [binOp,he]
 ·have e1:x = .nilFunc:=hx;have e2:y = .nilFunc:=hy;subst e1;subst e2;simp [binOp,he]
 ·obtain⟨xs,ys,rfl,_⟩:=hx;have e2:y = .nilFunc:=hy;subst e2;simp [binOp,he]
theorem zq1{op:BinOp}{t:TypeId}{ox oy:Operand}{a b v:AV}{x y:Value}(h:binV P op t a b=some v)(hx:VR μ a x)(hy:VR μ b y)(w:World) :
  ∃z,(do eqGuard op t ox oy x y;binOp op t x y:Sem Value).run P w = .ok z w∧VR μ v z:=by
 unfold binV at h;split at h
 ·rename_i j p l q;have e1:x = .int j p:=hx;have e2:y = .int l q:=hy;subst e1;subst e2;obtain⟨z,h1,h2⟩:=zcx (w:=w) μ h;exact⟨z,by simp [zcS op t ox oy (.int j p) (.int l q) (by simp) (by simp) w,h1],h2⟩
 ·rename_i p q;have e1:x = .bool p:=hx;have e2:y = .bool q:=hy;subst e1;subst e2;obtain⟨z,h1,h2⟩:=zcx (w:=w) μ h;exact⟨z,by simp [zcS op t ox oy (.bool p) (.bool q) (by simp) (by simp) w,h1],h2⟩
 ·rename_i p q;have e1:x = .string p:=hx;have e2:y = .string q:=hy;subst e1;subst e2;obtain⟨z,h1,h2⟩:=zcx (w:=w) μ h;exact⟨z,by simp [zcS op t ox oy (.string p) (.string q) (by simp) (by simp) w,h1],h2⟩
 ·rename_i p q
  cases hb:(zaZ P t (.agg p) && zaZ P t (.agg q) && !P.eqGuardType P.depth t)with
  | false=>rw [hb]at h;simp at h
  | true=>
   rw [hb]at h;simp only [Bool.and_eq_true,Bool.not_eq_true']at hb;have heq:=zlT hb.1.1 hb.1.2 hx hy 9998 w;have heq':(Op.equal t x y).run P w = .ok ((AV.agg p).beq (.agg q)) w:=heq;obtain⟨xs,rfl,_⟩:=hx;obtain⟨ys,rfl,_⟩:=hy;have hg:=zcS op t ox oy (.agg xs) (.agg ys) (fun _ _ _ _=>hb.2) (by simp) w;simp only [cond_true]at h
   cases op <;> simp at h <;> subst h
   ·exact⟨.bool (p.beq q),by simp [hg,binOp,heq',AV.beq],rfl⟩
   ·exact⟨.bool (!p.beq q),by simp [hg,binOp,heq',AV.beq],rfl⟩
 ·rename_i i j
  cases hij:Nat.beq i j with
  | false=>rw [hij]at h;simp at h
  | true=>
   rw [hij]at h;have hij:=(zam _ _).1 hij;subst hij;obtain⟨s,h1,rfl⟩:=hx;obtain⟨s',h2,rfl⟩:=hy;rw [h1]at h2
   cases h2
   simp only [cond_true]at h;have hself:(Op.stringOp .eql s s)=pure (.bool true)∧(Op.stringOp .neq s s)=pure (.bool false):=by simp [Op.stringOp]
   split at h
   ·rename_i hu;simp at h;subst h
    have hb:(binOp .eql t (.string s) (.string s)).run P w = .ok (.bool true) w:=by
     simp [binOp,hself.1]
    exact⟨.bool true,by simp [zcS _ t ox oy (.string s) (.string s) (by simp) (by simp) w,hb],rfl⟩
   ·rename_i hu;simp at h;subst h
    have hb:(binOp .neq t (.string s) (.string s)).run P w = .ok (.bool false) w:=by
     simp [binOp,hself.2]
    exact⟨.bool false,by simp [zcS _ t ox oy (.string s) (.string s) (by simp) (by simp) w,hb],rfl⟩
   ·simp at h
 ·split at h
  ·rename_i q hr;simp at h;subst h
   obtain⟨h1,h2,h3,h4⟩:=zl2 hr hx hy w;exact⟨.bool q,by simp [zcS _ t ox oy x y h3 h4 w,h1],rfl⟩
  ·rename_i q hr;simp at h;subst h
   obtain⟨h1,h2,h3,h4⟩:=zl2 hr hx hy w;exact⟨.bool (!q),by simp [zcS _ t ox oy x y h3 h4 w,h2],rfl⟩
  ·simp at h
theorem zeW{b:Option (Option AV)}{d l y:Nat}{c:BoundsCode}{ov:Option Value}(h:zdX b d=some l)(ho:∀v,b=some (some v)→∃x,ov=some x∧VR μ v x)(hn:b=none→ov=none)(hy:l≤y)(hd:b=none→d=l)(w:World) :
  (b=none∧ov=none∧l=d)∨∃x,ov=some x∧(Instr.sliceBound x y c).run P w = .ok l w:=by
 unfold zdX at h;split at h
 ·exact .inl ⟨rfl,hn rfl,(hd rfl).symm⟩
 ·rename_i v;obtain⟨x,hx,hv⟩:=ho v rfl;obtain⟨k,rfl⟩:=zfr h hv;refine .inr ⟨_,hx,?_⟩;have h0:(0:Int)≤(l:Int)∧(l:Int)≤(y:Int):=⟨by omega,by omega⟩;simp [Instr.sliceBound,asIntOf,h0]
 ·simp at h
theorem zdW{blo bhi:Option (Option AV)}{lo hi:Option Value}{l h len cap:Nat}(isS:Bool)(e1:zdX blo 0=some l)(e2:zdX bhi len=some h)
  (o1:∀v,blo=some (some v)→∃x,lo=some x∧VR μ v x) (n1:blo=none→lo=none) (o2:∀v,bhi=some (some v)→∃x,hi=some x∧VR μ v x) (n2:bhi=none→hi=none)
  (h1:l≤h) (h2:h≤cap) (w:World):(Instr.sliceBounds isS len cap lo hi none).run P w = .ok (l,h,cap) w:=by
 have a1:bhi=none→len=h:=by intro q;rw [q]at e2;simpa [zdX]using e2
 have a2:blo=none→0=l:=by intro q;rw [q]at e1;simpa [zdX]using e1
 have r2:=fun c=>zeW (P:=P) (c:=c) (y:=cap) e2 o2 n2 h2 a1 w
 have r1:=fun c=>zeW (P:=P) (c:=c) (y:=h) e1 o1 n1 h1 a2 w
 unfold Instr.sliceBounds;rcases r2 (if isS=true then .sliceAcap else .sliceAlen)with⟨_,rfl,rfl⟩|⟨x,rfl,hx⟩ <;> rcases r1 .sliceB with⟨_,rfl,rfl⟩|⟨y,rfl,hy⟩
 ·simp
 ·simp [hy]
 ·simp [hx]
 ·simp [hx,hy]
theorem zih{blo bhi bmx:Option (Option AV)}{lo hi mx:Option Value}{l h m len cap:Nat}(isS:Bool)(e1:zdX blo 0=some l)(e2:zdX bhi len=some h)(e3:zdX bmx 0=some m)(hsome:bhi≠none)(hsome3:bmx≠none)
  (o1:∀v,blo=some (some v)→∃x,lo=some x∧VR μ v x) (n1:blo=none→lo=none) (o2:∀v,bhi=some (some v)→∃x,hi=some x∧VR μ v x) (n2:bhi=none→hi=none)
  (o3:∀v,bmx=some (some v)→∃x,mx=some x∧VR μ v x) (n3:bmx=none→mx=none)
  (h1:l≤h) (h2:h≤m) (h3:m≤cap) (w:World):(Instr.sliceBounds isS len cap lo hi mx).run P w = .ok (l,h,m) w:=by
 have a1:bhi=none→len=h:=fun q=>absurd q hsome
 have a2:blo=none→0=l:=by intro q;rw [q]at e1;simpa [zdX]using e1
 have r3:=fun c=>zeW (P:=P) (c:=c) (y:=cap) e3 o3 n3 h3 (fun q=>absurd q hsome3) w
 have r2:=fun c=>zeW (P:=P) (c:=c) (y:=m) e2 o2 n2 h2 a1 w
 have r1:=fun c=>zeW (P:=P) (c:=c) (y:=h) e1 o1 n1 h1 a2 w
 unfold Instr.sliceBounds;rcases r3 (if isS=true then .slice3Acap else .slice3Alen)with⟨q,_⟩|⟨z,rfl,hz⟩
 ·exact absurd q hsome3
 ·rcases r2 .slice3B with⟨q,_⟩|⟨x,rfl,hx⟩
  ·exact absurd q hsome
  ·rcases r1 .slice3C with⟨_,rfl,rfl⟩|⟨y,rfl,hy⟩
   ·simp [hx,hz]
   ·simp [hx,hy,hz]
theorem zms(hR:Rep P B w0 G μ H w){t:TypeId}{v u:AV}{x:Value}{blo bhi bmx:Option (Option AV)}{lo hi mx:Option Value}(h:zpI P H t v blo bhi bmx=some u)(hx:VR μ v x)
  (o1:∀v,blo=some (some v)→∃x,lo=some x∧VR μ v x) (n1:blo=none→lo=none) (o2:∀v,bhi=some (some v)→∃x,hi=some x∧VR μ v x) (n2:bhi=none→hi=none)
  (o3:∀v,bmx=some (some v)→∃x,mx=some x∧VR μ v x) (n3:bmx=none→mx=none) :
  ∃y,(Instr.sliceAt t x lo hi mx).run P w = .ok y w∧VR μ u y:=by
 unfold zpI at h;split at h
 ·rename_i e i o len cm ex esz hu;obtain⟨b,N,c,hm,rfl,hc1,hc2,hc3,hc4⟩:=hx;split at h
  ·rename_i sz l hh hs e1 e2;have hmx:=n3 rfl;subst hmx
   cases hb:(Nat.beq sz esz && Nat.ble l hh && Nat.ble hh cm && Nat.blt l cm)with
   | true=>
    rw [hb]at h;simp only [Bool.and_eq_true]at hb;obtain⟨⟨⟨b1,b2⟩,b3⟩,b4⟩:=hb;have b1:=(zam _ _).1 b1;have b2:=Nat.le_of_ble_eq_true b2;have b3:=Nat.le_of_ble_eq_true b3;have b4:=(zca _ _).1 b4;subst b1;simp only [cond_true,Option.some.injEq]at h;subst h;have hbd:=zdW (P:=P) true e1 e2 o1 n1 o2 n2 b2 (show hh≤c by omega) w;have hne:¬c=l:=by omega
    refine⟨.slice (some ⟨b,o+l*sz,none⟩) (hh-l) (c-l),?_,b,N,c-l,hm,rfl,by omega,?_,?_,by omega⟩
    ·simp [Instr.sliceAt,Instr.slice,run_underlying hu,hbd,zbb hs,hne,zeh]
    ·intro q;have:=hc2 q;omega
    ·have:l*sz+(c-l)*sz=c*sz:=by rw [←Nat.add_mul];congr 1;omega
     omega
   | false=>
    rw [hb]at h;simp only [cond_false]at h
    cases hb':(Nat.beq sz esz && Nat.beq l 0 && Nat.beq hh 0 && Nat.beq cm 0 && ex)with
    | false=>rw [hb']at h;simp at h
    | true=>
     rw [hb']at h;simp only [Bool.and_eq_true]at hb';obtain⟨⟨⟨⟨b1,b2⟩,b3⟩,b4⟩,b5⟩:=hb';have b1:=(zam _ _).1 b1;have b2:=(zam _ _).1 b2;have b3:=(zam _ _).1 b3;have b4:=(zam _ _).1 b4;subst b1 b2 b3 b4;simp only [cond_true,Option.some.injEq]at h;subst h;have hc0:=hc2 b5;subst hc0;have hbd:=zdW (P:=P) true e1 e2 o1 n1 o2 n2 (Nat.le_refl 0) (Nat.le_refl 0) w;refine⟨.slice (some ⟨b,o,none⟩) 0 0,?_,b,N,0,hm,rfl,by omega,fun _=>rfl,by omega,by omega⟩;simp [Instr.sliceAt,Instr.slice,run_underlying hu,hbd,zbb hs]
  ·rename_i sz l hh mx' hs e1 e2;split at h
   ·rename_i hi' m e3
    cases hb:(Nat.beq sz esz && Nat.ble l hh && Nat.ble hh m && Nat.ble m cm)with
    | false=>rw [hb]at h;simp at h
    | true=>
     rw [hb]at h;simp only [Bool.and_eq_true]at hb;obtain⟨⟨⟨b1,b2⟩,b3⟩,b4⟩:=hb;have b1:=(zam _ _).1 b1;have b2:=Nat.le_of_ble_eq_true b2;have b3:=Nat.le_of_ble_eq_true b3;have b4:=Nat.le_of_ble_eq_true b4;subst b1;simp only [cond_true]at h;have hbd:=zih (P:=P) true e1 e2 e3 (by simp) (by simp) o1 n1 o2 n2 o3 n3 b2 b3 (show m≤c by omega) w
     cases hml:Nat.beq m l with
     | true=>
      rw [hml]at h;simp only [cond_true,Option.some.injEq]at h;have hml':=(zam _ _).1 hml;subst hml' h;refine⟨.slice (some ⟨b,o,none⟩) (hh-m) (m-m),?_,b,N,m-m,hm,rfl,by omega,fun _=>rfl,by simp;omega,by omega⟩;simp [Instr.sliceAt,Instr.slice,run_underlying hu,hbd,zbb hs]
     | false=>
      rw [hml]at h;simp only [cond_false,Option.some.injEq]at h;have hml':=(beq_false _ _).1 hml;subst h;refine⟨.slice (some ⟨b,o+l*sz,none⟩) (hh-l) (m-l),?_,b,N,m-l,hm,rfl,by omega,fun _=>rfl,?_,by omega⟩
      ·simp [Instr.sliceAt,Instr.slice,run_underlying hu,hbd,zbb hs,hml',zeh]
      ·have:l*sz+(m-l)*sz=m*sz:=by rw [←Nat.add_mul];congr 1;omega
       have:m*sz≤c*sz:=Nat.mul_le_mul_right _ (by omega);omega
   ·simp at h
  ·simp at h
 ·rename_i e hu;have hx':x = .slice none 0 0:=hx;subst hx';split at h
  ·rename_i sz hs e1 e2;simp at h;subst h
   have hmx:=n3 rfl;subst hmx;have hbd:=zdW (P:=P) (len:=0) (cap:=0) true e1 e2 o1 n1 o2 n2 (Nat.le_refl 0) (Nat.le_refl 0) w;exact⟨.slice none 0 0,by simp [Instr.sliceAt,Instr.slice,run_underlying hu,hbd,zbb hs],rfl⟩
  ·rename_i sz mx' hs e1 e2;split at h
   ·rename_i hi' e3;simp at h;subst h
    have hbd:=zih (P:=P) (len:=0) (cap:=0) true e1 e2 e3 (by simp) (by simp) o1 n1 o2 n2 o3 n3 (Nat.le_refl 0) (Nat.le_refl 0) (Nat.le_refl 0) w;exact⟨.slice none 0 0,by simp [Instr.sliceAt,Instr.slice,run_underlying hu,hbd,zbb hs],rfl⟩
   ·simp at h
  ·simp at h
 ·rename_i n e i o hu;obtain⟨b,N,hm,rfl⟩:=hx;split at h
  ·rename_i esz l hh hs e1 e2;have hmx:=n3 rfl;subst hmx;split at h
   ·rename_i fam ver te cs hl
    cases hb:(Nat.ble l hh && Nat.ble hh n && Nat.blt l n && Nat.ble (o+n*esz) cs.len)with
    | false=>rw [hb]at h;simp at h
    | true=>
     rw [hb]at h;simp only [Bool.and_eq_true]at hb;obtain⟨⟨⟨b1,b2⟩,b3⟩,b4⟩:=hb;have b1:=Nat.le_of_ble_eq_true b1;have b2:=Nat.le_of_ble_eq_true b2;have b3:=(zca _ _).1 b3;have b4:=Nat.le_of_ble_eq_true b4;simp only [cond_true,Option.some.injEq]at h;subst h;obtain⟨ho,tip,lw,hf,hle⟩:=zhG hl;obtain⟨_,_,_,_,_,hcN,_,_⟩:=hR.cells _ _ _ _ _ _ _ _ _ ho hf hle hm;have hbd:=zdW (P:=P) false e1 e2 o1 n1 o2 n2 b1 b2 w;have hne:¬n=l:=by omega
     refine⟨.slice (some ⟨b,o+l*esz,none⟩) (hh-l) (n-l),?_,b,N,n-l,hm,rfl,by omega,fun _=>rfl,?_,by omega⟩
     ·simp [Instr.sliceAt,Instr.sureAddr,run_underlying hu,hbd,zbb hs,hne,zeh]
     ·have:l*esz+(n-l)*esz=n*esz:=by rw [←Nat.add_mul];congr 1;omega
      omega
   ·simp at h
  ·simp at h
 ·rename_i s hu;have hx':x = .string s:=hx;subst hx';split at h
  ·rename_i l hh e1 e2;have hmx:=n3 rfl;subst hmx
   cases hb:(Nat.ble l hh && Nat.ble hh s.size)with
   | false=>rw [hb]at h;simp at h
   | true=>
    rw [hb]at h;simp only [Bool.and_eq_true]at hb;have b1:=Nat.le_of_ble_eq_true hb.1;have b2:=Nat.le_of_ble_eq_true hb.2;simp only [cond_true,Option.some.injEq]at h;subst h;have hbd:=zdW (P:=P) false e1 e2 o1 n1 o2 n2 b1 b2 w;exact⟨.string (s.extract l hh),by simp [Instr.sliceAt,Instr.slice,run_underlying hu,hbd],rfl⟩
  ·simp at h
 ·simp at h
theorem zsh(cs:List Value):∀(off:Nat) (cells:Array Value),off+cs.length≤cells.size →
  ((cs.zipIdx).foldl (fun (acc:Array Value) (p:Value × Nat)=>acc.setIfInBounds (off+p.2) p.1) cells).toList=cells.toList.take off ++ cs ++ cells.toList.drop (off+cs.length):=by
 have key:∀(cs:List Value) (s off:Nat) (cells:Array Value),off+s+cs.length≤cells.size →
   ((cs.zipIdx s).foldl (fun (acc:Array Value) (p:Value × Nat)=>acc.setIfInBounds (off+p.2) p.1) cells).toList=cells.toList.take (off+s) ++ cs ++ cells.toList.drop (off+s+cs.length):=by
  intro cs;induction cs with
  | nil=>intro s off cells h;simp
  | cons c r ih=>
   intro s off cells h;rw [List.zipIdx_cons,List.foldl_cons,ih (s+1) off _ (by simp at h ⊢;omega)];simp only [Array.toList_setIfInBounds,ztI]at h ⊢;have hl:off+s<cells.toList.length:=by simp;omega
   rw [show off+(s+1)=off+s+1 from by omega];generalize off+s=k at *
   rw [List.set_eq_take_append_cons_drop,if_pos hl];have e1:(cells.toList.take k).length=k:=by simp;omega
   have e2:(cells.toList.take k ++ c :: cells.toList.drop (k+1)).take (k+1)=cells.toList.take k ++ [c]:=by
    rw [List.take_append,e1,List.take_of_length_le (by omega),Nat.add_sub_cancel_left];rfl
   have e3:(cells.toList.take k ++ c :: cells.toList.drop (k+1)).drop (k+1+r.length)=cells.toList.drop (k+(r.length+1)):=by
    rw [List.drop_append,e1,List.drop_eq_nil_of_le (by omega),show k+1+r.length-k=r.length+1 from by omega,List.drop_succ_cons,List.drop_drop,List.nil_append];congr 1;omega
   rw [e2,e3];simp
 intro off cells h;have:=key cs 0 off cells (by omega);simpa using this
theorem zgx{ρ:Env}{ρc:Operand→Value}{pl:Nat→Option (Nat × Nat)}:∀(ps:List (Nat × Operand)) (cs out:AV) (cells:Array Value),
  (∀p∈ps,∀v,ρ p.2=some v→VR μ v (ρc p.2))→LR μ cs cells.toList→zb2 pl ρ cs ps=some out →
  ∃cells',Instr.fill pl cells (ps.map fun (p:Nat × Operand)=>(p.1,ρc p.2))=some cells'∧LR μ out cells'.toList:=by
 intro ps;induction ps with
 | nil=>intro cs out cells _ hL h;simp [zb2]at h;subst h;exact⟨cells,rfl,hL⟩
 | cons p r ih=>
  obtain⟨i,x⟩:=p;intro cs out cells hρ hL h;simp only [zb2]at h;split at h
  ·rename_i off n v hp hx
   cases hb:Nat.beq v.cells.len n with
   | false=>rw [hb]at h;simp at h
   | true=>
    rw [hb]at h;have hb:=(zam _ _).1 hb;simp only [cond_true]at h;split at h
    ·rename_i cs' hput;have hv:=(hρ (i,x) (by simp) v hx).cells;obtain⟨h1,h2⟩:=LR.put hL hv hput;have hlen:=hv.len;have hsz:(ρc x).cells.size=n:=by rw [←Array.length_toList,hlen,hb]
     have hz:=zsh (ρc x).cells.toList off cells (by simpa using h1);have e0:((ρc x).cells.zipIdx.foldl (fun cs (q:Value × Nat)=>cs.setIfInBounds (off+q.2) q.1) cells).toList=cells.toList.take off ++ (ρc x).cells.toList ++ cells.toList.drop (off+(ρc x).cells.toList.length):=by
      rw [←hz,←Array.foldl_toList,Array.toList_zipIdx]
     obtain⟨cells',h3,h4⟩:=ih cs' out _ (fun q hq=>hρ q (by simp [hq])) (by rw [e0];exact h2) h;refine⟨cells',?_,h4⟩;simp only [List.map_cons,Instr.fill,hp];rw [if_neg ?_]
     ·exact h3
     ·simp only [Bool.or_eq_true,decide_eq_true_eq];rintro (q|q)
      ·exact q hsz
      ·simp at h1;omega
    ·simp at h
  ·simp at h
end
section
variable {P:Program} {B:Nat} {w0:World} {G:Sett} {μ:Mu} {H:AH} {w:World}
theorem zqB{k:IntKind}:∀{cs:AV} {xs:List Value} {i:Nat},LR μ cs xs→zcI k cs=true→i<cs.len→∃n,xs[i]? = some (.int k n)
 | .nil,xs,i,_,_,h=>by simp [AV.len]at h
 | .cons h t,xs,i,hL,hi,hlt=>by
  obtain⟨n,rfl,h2⟩:=zdv hi;obtain⟨x,r,rfl,h3,h4⟩:=hL;have hx:x = .int k n:=h3
  cases i with
  | zero=>exact⟨n,by simp [hx]⟩
  | succ i=>
   obtain⟨m,hm⟩:=zqB h4 h2 (by simp [AV.len]at hlt;omega:i<t.len);exact⟨m,by simpa using hm⟩
 | .sc _,_,_,h,_,_ | .ptr ..,_,_,h,_,_ | .slc ..,_,_,h,_,_ | .map _,_,_,h,_,_ | .yield _,_,_,h,_,_ | .fn ..,_,_,h,_,_ | .iface ..,_,_,h,_,_ | .agg _,_,_,h,_,_ | .tup _,_,_,h,_,_=>h.elim
theorem zeS{kt:TypeId}{key:AV}{x:Value}(hk:zaZ P kt key=true)(hx:VR μ key x)(em:Bool)(w:World):(Instr.checkKey em 10000 kt x).run P w = .ok () w:=by
 rcases za1 hk with⟨k,n,hu,rfl⟩|⟨s,hu,rfl⟩|⟨q,hu,rfl⟩|⟨n,e,k,cs,hu,he,hs,rfl,hl,hi⟩
 ·have hx':x = .int k n:=hx;subst hx';exact Go.MapKept.run_checkKey hu (by simp [Go.MapKept.IsKey]) em 9999
 ·have hx':x = .string s:=hx;subst hx';exact Go.MapKept.run_checkKey hu (by simp [Go.MapKept.IsKey]) em 9999
 ·have hx':x = .bool q:=hx;subst hx';exact Go.MapKept.run_checkKey hu (by simp [Go.MapKept.IsKey]) em 9999
 ·obtain⟨xs,rfl,hx1⟩:=hx;have hstep:∀d,(Instr.checkKey em (d+2) kt (.agg xs)).run P w = .ok () w:=by
   intro d;rw [Instr.checkKey];simp only [Sem.run_bind,run_underlying hu,Result.andThen_ok,Std.Legacy.Range.forIn_eq_forIn_range',Std.Legacy.Range.size,Nat.sub_zero,Nat.add_sub_cancel,Nat.div_one];have hr:∀i∈List.range' 0 n 1,i<cs.len:=fun i q=>by have:=(List.mem_range'_1.1 q).2;omega
   generalize List.range' 0 n 1=is at hr
   induction is with
   | nil=>simp
   | cons i r ih=>
    obtain⟨m,hm⟩:=zqB hx1 hi (hr i (by simp));have hm':xs[i]? = some (.int k m):=by simpa using hm
    have p1:(part e xs (i*1)).run P w = .ok (.int k m) w:=by simp [part,isAgg,run_underlying he,hm']
    have p2:(Instr.checkKey em (d+1) e (.int k m)).run P w = .ok () w:=Go.MapKept.run_checkKey he (by simp [Go.MapKept.IsKey]) em d;simp only [List.forIn_cons,Sem.run_bind,zbb hs,p1,p2,Result.andThen_ok,Sem.run_pure];exact ih (fun j hj=>hr j (by simp [hj]))
  exact hstep 9998
def Found(P:Program)(μ:Mu)(kt:TypeId)(key:AV)(x:Value)(aes:AV)(es:List MapEntry)(i:Nat)(res:Option (Nat × Value)):Prop:=
 (zlR key aes=none∧res=none∧∀v y n,VR μ v y→ER P μ kt (updE key v aes) (es ++ [{key:=x,val:=y,born:=n}])) ∨
 (∃v j e,zlR key aes=some v∧res=some (i+j,e.val)∧es[j]? = some e∧VR μ v e.val∧e.key=x ∧
  ∀v' y,VR μ v' y→ER P μ kt (updE key v' aes) (es.modify j fun e=>{e with key:=x,val:=y}))
theorem zsD{kt:TypeId}{key:AV}{x y:Value}(hk:zaZ P kt key=true)(hx:VR μ key x)(hy:VR μ key y):x=y:=by
 rcases za1 hk with⟨k,n,hu,rfl⟩|⟨s,hu,rfl⟩|⟨q,hu,rfl⟩|⟨n,e,k,cs,hu,he,hs,rfl,hl,hi⟩
 ·exact(show x=_ from hx).trans (show y=_ from hy).symm
 ·exact(show x=_ from hx).trans (show y=_ from hy).symm
 ·exact(show x=_ from hx).trans (show y=_ from hy).symm
 ·obtain⟨xs,rfl,hx1⟩:=hx;obtain⟨ys,rfl,hy1⟩:=hy;have key:∀(cs:AV),zcI k cs=true→∃l,zcW cs=some l:=by
   intro cs;induction cs with
   | nil=>intro _;exact⟨[],rfl⟩
   | cons a t _ ih=>
    intro h;obtain⟨m,rfl,h2⟩:=zdv h;obtain⟨l,hl⟩:=ih h2;exact⟨Sc.val (.int k m) :: l,by simp [zcW,hl]⟩
   | _=>intro h;simp [zcI]at h
  obtain⟨l,hl'⟩:=key cs hi;have e1:=LR.det hl' hx1;have e2:=LR.det hl' hy1;congr 1
  exact Array.toList_inj.1 (e1.trans e2.symm)
theorem ze7{kt:TypeId}{key k' v':AV}{x:Value}{t:AV}{e:MapEntry}{r:List MapEntry}{i:Nat}{res:Option (Nat × Value)}(hk:zaZ P kt key=true)(hx:VR μ key x)(hk':zaZ P kt k'=true)(h2:VR μ k' e.key)(h3:VR μ v' e.val)
  (h4:ER P μ kt t r) (hyes:key.beq k'=true→res=some (i,e.val)) (hno:key.beq k'=false→Found P μ kt key x t r (i+1) res):Found P μ kt key x (.cons (.cons k' v') t) (e :: r) i res:=by
 cases hb:key.beq k' with
 | true=>
  have hkk:=AV.beq_eq hb;subst hkk;have hxe:e.key=x:=zsD hk h2 hx;refine .inr ⟨v',0,e,by simp [zlR,hb],hyes hb,rfl,h3,hxe,?_⟩;intro v y hv;simp only [updE,hb,cond_true,List.modify_zero_cons];exact⟨_,r,rfl,hk,hx,hv,h4⟩
 | false=>
  rcases hno hb with⟨g1,g2,g3⟩|⟨v,j,e',g1,g2,g3,g4,g5,g6⟩
  ·refine .inl ⟨by simp [zlR,hb,g1],g2,?_⟩;intro v y n hv;simp only [updE,hb,cond_false,ztP];exact⟨e,_,rfl,hk',h2,h3,g3 v y n hv⟩
  ·refine .inr ⟨v,j+1,e',by simp [zlR,hb,g1],by rw [g2];congr 2;omega,by simpa using g3,g4,g5,?_⟩;intro v'' y hv;simp only [updE,hb,cond_false,List.modify_succ_cons];exact⟨e,_,rfl,hk',h2,h3,g6 v'' y hv⟩
theorem zjz{kt:TypeId}{key:AV}{x:Value}(hk:zaZ P kt key=true)(hx:VR μ key x)(w:World):∀(aes:AV) (es:List MapEntry) (i:Nat),ER P μ kt aes es →
  ∃res,(Instr.findAsking kt x es i).run P w = .ok res w∧Found P μ kt key x aes es i res
 | .nil,es,i,h=>by
  have h':es = []:=h;subst h';exact⟨none,rfl,.inl ⟨rfl,rfl,fun v y n hv=>⟨_,[],rfl,hk,hx,hv,rfl⟩⟩⟩
 | .cons (.cons k' v') t,es,i,h=>by
  obtain⟨e,r,rfl,hk',h2,h3,h4⟩:=h;have heq:(Op.equal kt x e.key).run P w = .ok (key.beq k') w:=zlT hk hk' hx h2 9998 w
  cases hb:key.beq k' with
  | true=>
   refine⟨some (i,e.val),by simp [Instr.findAsking,heq,hb],ze7 hk hx hk' h2 h3 h4 (fun _=>rfl) (fun q=>by rw [hb]at q;cases q)⟩
  | false=>
   obtain⟨res,g1,g2⟩:=zjz hk hx w t r (i+1) h4;exact⟨res,by simp [Instr.findAsking,heq,hb,g1],ze7 hk hx hk' h2 h3 h4 (fun q=>by rw [hb]at q;cases q) (fun _=>g2)⟩
 | .sc _,_,_,h | .ptr ..,_,_,h | .slc ..,_,_,h | .map _,_,_,h | .yield _,_,_,h | .fn ..,_,_,h | .iface ..,_,_,h | .agg _,_,_,h | .tup _,_,_,h=>h.elim
 | .cons (.sc _) _,_,_,h | .cons (.ptr ..) _,_,_,h | .cons (.slc ..) _,_,_,h | .cons (.map _) _,_,_,h | .cons (.yield _) _,_,_,h | .cons (.fn ..) _,_,_,h | .cons (.iface ..) _,_,_,h | .cons (.agg _) _,_,_,h | .cons (.tup _) _,_,_,h | .cons .nil _,_,_,h=>h.elim
theorem zkb{kt:TypeId}{d:TypeDesc}{key:AV}{x:Value}(hk:zaZ P kt key=true)(hx:VR μ key x)(hs:∀k' y,zaZ P kt k'=true→VR μ k' y→Instr.sameNow d x y=some (key.beq k')):∀(aes:AV) (es:List MapEntry) (i:Nat),ER P μ kt aes es →
  ∃res,Instr.findNow d x es i=some res∧Found P μ kt key x aes es i res
 | .nil,es,i,h=>by
  have h':es = []:=h;subst h';exact⟨none,rfl,.inl ⟨rfl,rfl,fun v y n hv=>⟨_,[],rfl,hk,hx,hv,rfl⟩⟩⟩
 | .cons (.cons k' v') t,es,i,h=>by
  obtain⟨e,r,rfl,hk',h2,h3,h4⟩:=h;have heq:=hs k' e.key hk' h2
  cases hb:key.beq k' with
  | true=>
   refine⟨some (i,e.val),by simp [Instr.findNow,heq,hb],ze7 hk hx hk' h2 h3 h4 (fun _=>rfl) (fun q=>by rw [hb]at q;cases q)⟩
  | false=>
   obtain⟨res,g1,g2⟩:=zkb hk hx hs t r (i+1) h4;exact⟨res,by simp [Instr.findNow,heq,hb,g1],ze7 hk hx hk' h2 h3 h4 (fun q=>by rw [hb]at q;cases q) (fun _=>g2)⟩
 | .sc _,_,_,h | .ptr ..,_,_,h | .slc ..,_,_,h | .map _,_,_,h | .yield _,_,_,h | .fn ..,_,_,h | .iface ..,_,_,h | .agg _,_,_,h | .tup _,_,_,h=>h.elim
 | .cons (.sc _) _,_,_,h | .cons (.ptr ..) _,_,_,h | .cons (.slc ..) _,_,_,h | .cons (.map _) _,_,_,h | .cons (.yield _) _,_,_,h | .cons (.fn ..) _,_,_,h | .cons (.iface ..) _,_,_,h | .cons (.agg _) _,_,_,h | .cons (.tup _) _,_,_,h | .cons .nil _,_,_,h=>h.elim
theorem zfw{kt:TypeId}{key:AV}{x:Value}(hk:zaZ P kt key=true)(hx:VR μ key x)(w:World){aes:AV}{es:List MapEntry}(h:ER P μ kt aes es) :
  ∃res,(Instr.findKey kt x es).run P w = .ok res w∧Found P μ kt key x aes es 0 res:=by
 rcases za1 hk with⟨k,n,hu,rfl⟩|⟨s,hu,rfl⟩|⟨q,hu,rfl⟩|⟨n,e,k,cs,hu,he,hs,rfl,hl,hi⟩
 ·have hx':x = .int k n:=hx;obtain⟨res,g1,g2⟩:=zkb (d:=.int k) hk hx (by
   intro k' y hk' hy;rcases za1 hk' with⟨j,m,hu',rfl⟩|⟨s,hu',rfl⟩|⟨q,hu',rfl⟩|⟨n,e,k,cs,hu',_⟩ <;> rw [hu]at hu' <;> simp at hu'
   have hy':y = .int j m:=hy;subst hu';subst hx';subst hy';simp [Instr.sameNow,AV.beq,Sc.beq,zik,zkz]) aes es 0 h
  exact⟨res,Go.MapKept.run_findKey hu g1,g2⟩
 ·have hx':x = .string s:=hx;obtain⟨res,g1,g2⟩:=zkb (d:=.string) hk hx (by
   intro k' y hk' hy;rcases za1 hk' with⟨j,m,hu',rfl⟩|⟨s',hu',rfl⟩|⟨q,hu',rfl⟩|⟨n,e,k,cs,hu',_⟩ <;> rw [hu]at hu' <;> simp at hu'
   have hy':y = .string s':=hy;subst hx';subst hy';simp [Instr.sameNow,AV.beq,Sc.beq,zgD]) aes es 0 h
  exact⟨res,Go.MapKept.run_findKey hu g1,g2⟩
 ·have hx':x = .bool q:=hx;obtain⟨res,g1,g2⟩:=zkb (d:=.bool) hk hx (by
   intro k' y hk' hy;rcases za1 hk' with⟨j,m,hu',rfl⟩|⟨s,hu',rfl⟩|⟨q',hu',rfl⟩|⟨n,e,k,cs,hu',_⟩ <;> rw [hu]at hu' <;> simp at hu'
   have hy':y = .bool q':=hy;subst hx';subst hy';simp [Instr.sameNow,AV.beq,Sc.beq,zg9]) aes es 0 h
  exact⟨res,Go.MapKept.run_findKey hu g1,g2⟩
 ·obtain⟨res,g1,g2⟩:=zjz hk hx w aes es 0 h;refine⟨res,?_,g2⟩;simp only [Instr.findKey,Sem.run_bind,run_underlying hu,Result.andThen_ok]
  cases es with
  | nil=>simp only [Instr.findNow,Sem.run_pure];exact g1
  | cons e' r=>
   obtain⟨xs,rfl,_⟩:=hx;simp only [Instr.findNow,Instr.sameNow];exact g1
theorem zjS{kt:TypeId}{key:AV}{x:Value}(hk:zaZ P kt key=true)(hx:VR μ key x):Instr.sameBits 10000 x x=true:=by
 rcases za1 hk with⟨k,n,hu,rfl⟩|⟨s,hu,rfl⟩|⟨q,hu,rfl⟩|⟨n,e,k,cs,hu,he,hs,rfl,hl,hi⟩
 ·have hx':x = .int k n:=hx;subst hx';simp [Instr.sameBits]
 ·have hx':x = .string s:=hx;subst hx';have:(s == s)=true:=by rw [←zgD];exact zee _
  simp [Instr.sameBits,this]
 ·have hx':x = .bool q:=hx;subst hx';simp [Instr.sameBits]
 ·obtain⟨xs,rfl,hx1⟩:=hx;replace hx1:LR μ cs xs.toList:=hx1;have:∀d,Instr.sameBits (d+1) (.agg xs) (.agg xs)=true:=by
   intro d;simp only [Instr.sameBits,beq_self_eq_true,Bool.true_and,List.all_eq_true];rintro⟨a,b⟩ hab;obtain⟨i,hi1,hi2⟩:=List.getElem_of_mem hab;rw [List.getElem_zip]at hi2;simp only [Prod.mk.injEq]at hi2;have hlt:i<cs.len:=by rw [←hx1.len];simp at hi1;simpa using hi1
   obtain⟨m,hm⟩:=zqB hx1 hi hlt;have e1:a = .int k m:=by
    rw [←hi2.1];have:=(List.getElem?_eq_some_iff.1 hm).2;exact this
   have e2:b = .int k m:=by rw [←hi2.2,hi2.1,e1]
   subst e1;rw [e2]
   cases d <;> simp [Instr.sameBits]
  exact this 9999
end
section
variable {P:Program} {B:Nat} {w0:World} {G:Sett} {μ:Mu} {H:AH} {w:World}
theorem zge{ρ:Env}{ρc:Operand→Value}:∀{l:List Operand} {v:AV},(∀x∈l,∀v,ρ x=some v→VR μ v (ρc x))→znh ρ l=some v→LR μ v (l.map ρc)
 | [],v,_,h=>by simp [znh]at h;subst h;rfl
 | x :: r,v,hρ,h=>by
  simp only [znh]at h;split at h
  ·rename_i u t hu ht;simp at h;subst h
   exact LR.cons (hρ x (by simp) u hu) (zge (fun y hy=>hρ y (by simp [hy])) ht)
  ·simp at h
theorem zlA(h:Rep P B w0 G μ H w){t kt et:TypeId}{m key z v:AV}{x y:Value}{okk:Bool}{es:AV}(hu:P.underlying t=some (.map kt et))(hk:zaZ P kt key=true)(he:zhW H kt m=some es)(hz:zfG P et=some z)
  (hx:VR μ m x) (hy:VR μ key y)
  (hv:(match zlR key es with
   | some v=>bif okk then some (.tup (.cons v (.cons (.sc (.bool true)) .nil)))else some v
   | none=>bif okk then some (.tup (.cons z (.cons (.sc (.bool false)) .nil)))else some z)=some v):∃u,(Instr.lookup t x y okk).run P w = .ok u w∧VR μ v u:=by
 obtain⟨zi,zx,hz1,hz2,hz3,hz4⟩:=zfh μ hz;have hent:(x = .map none∧es = .nil)∨∃(b:Nat) (en:Array MapEntry) (cl:Nat),x = .map (some b)∧w.heap[b]? = some (.map en cl)∧ER P μ kt es en.toList:=by
  unfold zhW at he;split at he
  ·simp at he;subst he
   exact .inl ⟨hx,rfl⟩
  ·rename_i i;obtain⟨b,N,hm,rfl⟩:=hx;split at he
   ·rename_i kt' es' ho
    cases hb:Nat.beq kt kt' with
    | false=>rw [hb]at he;simp at he
    | true=>
     rw [hb]at he;simp at he;subst he
     have:=(zam _ _).1 hb;subst this;obtain⟨_,en,cl,h2,h3⟩:=h.map _ _ _ _ _ ho hm;exact .inr ⟨b,en,cl,rfl,h2,h3⟩
   ·simp at he
  ·simp at he
 rcases hent with⟨rfl,rfl⟩|⟨b,en,cl,rfl,h2,h3⟩
 ·obtain⟨res,hf,hfound⟩:=zfw hk hy w (aes:=.nil) (es:=[]) rfl;have hck:=zeS hk hy true w;rcases hfound with⟨g1,rfl,_⟩|⟨u,j,e,g1,rfl,g3,g4,_⟩
  ·rw [g1]at hv
   cases okk with
   | true=>simp at hv;subst hv;exact⟨.tuple #[zx,.bool false],by simp [Instr.lookup,run_underlying hu,hck,hf,hz4],_,rfl,LR.cons hz3 (LR.cons rfl rfl)⟩
   | false=>simp at hv;subst hv;exact⟨zx,by simp [Instr.lookup,run_underlying hu,hck,hf,hz4],hz3⟩
  ·rw [g1]at hv
   cases okk with
   | true=>simp at hv;subst hv;exact⟨.tuple #[e.val,.bool true],by simp [Instr.lookup,run_underlying hu,hck,hf],_,rfl,LR.cons g4 (LR.cons rfl rfl)⟩
   | false=>simp at hv;subst hv;exact⟨e.val,by simp [Instr.lookup,run_underlying hu,hck,hf],g4⟩
 ·have hg:(getObj b).run P w = .ok (.map en cl) w:=by simp [getObj,Sem.run,h2]
  obtain⟨res,hf,hfound⟩:=zfw hk hy w h3;have hck:=zeS hk hy en.isEmpty w;rcases hfound with⟨g1,rfl,_⟩|⟨u,j,e,g1,rfl,g3,g4,_⟩
  ·rw [g1]at hv
   cases okk with
   | true=>simp at hv;subst hv;exact⟨.tuple #[zx,.bool false],by simp [Instr.lookup,run_underlying hu,hg,hck,hf,hz4],_,rfl,LR.cons hz3 (LR.cons rfl rfl)⟩
   | false=>simp at hv;subst hv;exact⟨zx,by simp [Instr.lookup,run_underlying hu,hg,hck,hf,hz4],hz3⟩
  ·rw [g1]at hv
   cases okk with
   | true=>simp at hv;subst hv;exact⟨.tuple #[e.val,.bool true],by simp [Instr.lookup,run_underlying hu,hg,hck,hf],_,rfl,LR.cons g4 (LR.cons rfl rfl)⟩
   | false=>simp at hv;subst hv;exact⟨e.val,by simp [Instr.lookup,run_underlying hu,hg,hck,hf],g4⟩
theorem zqs(h:Rep P B w0 G μ H w){t ty:TypeId}{v u:AV}{x:Value}(hl:lenV P H t v=some u)(hx:VR μ v x):∃y,(Builtin.len_ #[t] ty #[x]).run P w = .ok y w∧VR μ u y:=by
 unfold lenV at hl;split at hl
 ·rename_i e i o len cm ex esz hu;obtain⟨b,N,c,hm,rfl,_⟩:=hx;simp at hl;subst hl
  exact⟨goInt len,by simp [Builtin.len_,run_underlying hu],rfl⟩
 ·rename_i e hu;have hx':x = .slice none 0 0:=hx;subst hx';simp at hl;subst hl
  exact⟨goInt 0,by simp [Builtin.len_,run_underlying hu],rfl⟩
 ·rename_i s hu;have hx':x = .string s:=hx;subst hx';simp at hl;subst hl
  exact⟨goInt s.size,by simp [Builtin.len_,run_underlying hu],rfl⟩
 ·rename_i n e hu;simp at hl;subst hl
  exact⟨goInt n,by simp [Builtin.len_,run_underlying hu],rfl⟩
 ·rename_i a e hu;have hx':x = .map none:=hx;subst hx';simp at hl;subst hl
  exact⟨goInt 0,by simp [Builtin.len_,run_underlying hu],rfl⟩
 ·rename_i a e i hu;obtain⟨b,N,hm,rfl⟩:=hx;split at hl
  ·rename_i kt es ho;simp at hl;subst hl
   obtain⟨_,en,cl,h2,h3⟩:=h.map _ _ _ _ _ ho hm;have hlen:∀{aes:AV} {l:List MapEntry},ER P μ kt aes l→l.length=aes.len:=by
    intro aes;induction aes with
    | nil=>intro l q;have q':l = []:=q;subst q';rfl
    | cons p t _ ih=>
     intro l q
     cases p with
     | cons k v=>obtain⟨e,r,rfl,_,_,_,q'⟩:=q;simp [AV.len,ih q']
     | _=>exact q.elim
    | _=>intro l q;exact q.elim
   have:=hlen h3;exact⟨goInt en.size,by simp [Builtin.len_,run_underlying hu,getObj,Sem.run,h2],by show goInt en.size=_;simp [goInt,Sc.val,←this]⟩
  ·simp at hl
 ·simp at hl
theorem zht(h:Rep P B w0 G μ H w){ρ:Env}{ρc:Operand→Value}{o:Oper}(hρ:∀x∈o.op.operands,∀v,ρ x=some v→VR μ v (ρc x)){v:AV}(hq:zaW P ρ o.op H=some v) :
  ∃x,(execOp ρc o).run P w = .ok (.value x) w∧VR μ v x:=by
 obtain⟨dst,op,type,pos,after,guard⟩:=o;simp only at hρ hq;have val:∀{s:Sem Value} {y:Value},s.run P w = .ok y w→(do pure (Next.value (←s)):Sem Next).run P w = .ok (.value y) w:=zmv
 cases op with
 | move x=>
  exact⟨ρc x,rfl,hρ x (by simp [Op.operands]) v hq⟩
 | assign x=>exact⟨ρc x,rfl,hρ x (by simp [Op.operands]) v hq⟩
 | pick c a b=>
  simp only [zaW]at hq;split at hq
  ·rename_i hc;have h1:ρc c = .bool true:=hρ c (by simp [Op.operands]) _ hc;exact⟨ρc a,by simp [execOp,h1,asBool],hρ a (by simp [Op.operands]) v hq⟩
  ·rename_i hc;have h1:ρc c = .bool false:=hρ c (by simp [Op.operands]) _ hc;exact⟨ρc b,by simp [execOp,h1,asBool],hρ b (by simp [Op.operands]) v hq⟩
  ·simp at hq
 | load t a=>
  simp only [zaW]at hq;split at hq
  ·rename_i i off n ha hg hs;simp only [Option.map_eq_some_iff]at hq;obtain⟨cs,hc,rfl⟩:=hq;obtain⟨y,h1,h2⟩:=znZ h hg hs (hρ a (by simp [Op.operands]) _ ha) hc;exact⟨y,val h1,h2⟩
  ·rename_i i off n ha hg hs;split at hq
   ·rename_i u r hc;simp at hq;subst hq
    obtain⟨y,h1,h2⟩:=znY h hg (hρ a (by simp [Op.operands]) _ ha) hc;exact⟨y,val h1,h2⟩
   ·simp at hq
  ·simp at hq
 | nilCheck x=>
  simp only [zaW]at hq;split at hq
  ·rename_i i off hx;simp at hq;subst hq
   have h1:=hρ x (by simp [Op.operands]) _ hx;obtain⟨b,N,hm,hc⟩:=h1;exact⟨ρc x,by simp [execOp,hc],b,N,hm,hc⟩
  ·rename_i f a b hx;simp at hq;subst hq
   have h1:=hρ x (by simp [Op.operands]) _ hx;obtain⟨xs,ys,hc,hm⟩:=h1;exact⟨ρc x,by simp [execOp,hc],xs,ys,hc,hm⟩
  ·simp at hq
 | binOp op t x y yt=>
  simp only [zaW]at hq;split at hq
  ·rename_i a b ha hb;obtain⟨z,h1,h2⟩:=zq1 (ox:=x) (oy:=y) hq (hρ x (by simp [Op.operands]) _ ha) (hρ y (by simp [Op.operands]) _ hb) w;exact⟨z,val h1,h2⟩
  ·simp at hq
 | unOp op t x=>
  simp only [zaW]at hq;split at hq
  ·rename_i s hx;have h1:ρc x=s.val:=hρ x (by simp [Op.operands]) _ hx;obtain⟨z,h2,h3⟩:=zcx (w:=w) μ hq;exact⟨z,val (by rw [h1];exact h2),h3⟩
  ·simp at hq
 | convert s d x=>
  simp only [zaW]at hq;split at hq
  ·rename_i j n hx;have h1:ρc x = .int j n:=hρ x (by simp [Op.operands]) _ hx;obtain⟨z,h2,h3⟩:=zcx (w:=w) μ hq;exact⟨z,val (by rw [h1];exact h2),h3⟩
  ·simp at hq
 | makeInterface t x=>
  simp only [zaW]at hq;split at hq
  ·simp at hq
  ·rename_i u d hni hx hu;simp at hq;subst hq
   refine⟨.iface t (ρc x),val ?_,_,rfl,hρ x (by simp [Op.operands]) _ hx⟩;simp only [Instr.makeInterface,Sem.run_bind,run_underlying hu,Result.andThen_ok]
   cases d <;> first|rfl|exact(hni _ rfl).elim
  ·simp at hq
 | makeFunc fn fs cs=>
  cases fn with
  | func f=>
   simp only [zaW]at hq;split at hq
   ·rename_i a b ha hb;simp at hq;subst hq
    refine⟨.func (.func f) (fs.map ρc) (cs.map ρc),by simp [execOp,Instr.makeFunc],_,_,rfl,?_,?_⟩
    ·have:=zge (fun x hx=>hρ x (by simp [Op.operands];exact .inl (by simpa using hx))) ha;simpa [LR]using this
    ·have:=zge (fun x hx=>hρ x (by simp [Op.operands];exact .inr (by simpa using hx))) hb;simpa [LR]using this
   ·simp at hq
  | _=>simp [zaW]at hq
 | build t zdk=>
  have hp:∀p∈zdk.toList,∀v,ρ p.2=some v→VR μ v (ρc p.2):=by
   intro p hp;exact hρ p.2 (by simp only [Op.operands,List.mem_toArray,List.mem_map];exact⟨p,hp,rfl⟩)
  have hmap:(zdk.map fun (i,x)=>(i,ρc x)).toList=zdk.toList.map fun (p:Nat × Operand)=>(p.1,ρc p.2):=by simp
  simp only [zaW]at hq;split at hq
  ·rename_i z fields hz hu;split at hq
   ·rename_i places hpl;simp only [Option.map_eq_some_iff]at hq;obtain⟨out,hfill,rfl⟩:=hq;obtain⟨zi,zx,hz1,hz2,hz3,hz4⟩:=zfh μ hz;obtain⟨zs,rfl,hzs⟩:=hz3;obtain⟨cells',h1,h2⟩:=zgx zdk.toList z out zs hp hzs hfill;refine⟨.agg cells',val (run_build w t _ cells' ?_),_,rfl,h2⟩;simp only [Program.built,hz1,hu,hz2,hpl,Value.cells,hmap];exact h1
   ·simp at hq
  ·rename_i z n e hz hu;split at hq
   ·rename_i sz hs;simp only [Option.map_eq_some_iff]at hq;obtain⟨out,hfill,rfl⟩:=hq;obtain⟨zi,zx,hz1,hz2,hz3,hz4⟩:=zfh μ hz;obtain⟨zs,rfl,hzs⟩:=hz3;obtain⟨cells',h1,h2⟩:=zgx zdk.toList z out zs hp hzs hfill;refine⟨.agg cells',val ?_,_,rfl,h2⟩;simp only [Instr.build,Sem.run_bind,hz4,run_underlying hu,Result.andThen_ok,zbb hs,Value.cells,hmap,h1,Sem.run_pure]
   ·simp at hq
  ·simp at hq
 | slice t x lo hi mx=>
  simp only [zaW]at hq;split at hq
  ·rename_i u hx;have mem:∀{oo:Option Operand} (hsub:∀y,oo=some y→y∈(Op.slice t x lo hi mx).operands),(∀v,oo.map ρ=some (some v)→∃z,oo.map ρc=some z∧VR μ v z)∧(oo.map ρ=none→oo.map ρc=none):=by
    intro oo hsub
    cases oo with
    | none=>exact⟨by simp,by simp⟩
    | some y=>exact⟨fun v hv=>⟨ρc y,rfl,hρ y (hsub y rfl) v (by simpa using hv)⟩,by simp⟩
   have m1:=mem (oo:=lo) (by intro y hy;simp [Op.operands,hy]);have m2:=mem (oo:=hi) (by intro y hy;simp [Op.operands,hy]);have m3:=mem (oo:=mx) (by intro y hy;simp [Op.operands,hy]);obtain⟨y,h1,h2⟩:=zms h hq (hρ x (by simp [Op.operands]) _ hx) m1.1 m1.2 m2.1 m2.2 m3.1 m3.2;exact⟨y,val h1,h2⟩
  ·simp at hq
 | fieldAddr s x f=>
  simp only [zaW]at hq;split at hq
  ·rename_i i off fields hx hu;split at hq
   ·rename_i fd hf;split at hq
    ·rename_i n hs
     cases hb:Nat.beq n 0 with
     | true=>rw [hb]at hq;simp at hq
     | false=>
      rw [hb]at hq;have hb:=(beq_false _ _).1 hb;simp at hq;subst hq
      obtain⟨b,N,hm,hc⟩:=hρ x (by simp [Op.operands]) _ hx;exact⟨.pointer (some ⟨b,off+fd.offset,none⟩),val (by simp [hc,Instr.fieldAt,run_underlying hu,hf,Instr.sureAddr,fieldPlace,zbb hs,hb,zeh]),b,N,hm,rfl⟩
    ·simp at hq
   ·simp at hq
  ·simp at hq
 | field s x f=>
  simp only [zaW]at hq;split at hq
  ·rename_i cs fields hx hu;split at hq
   ·rename_i fd hf;obtain⟨xs,hc,hL⟩:=hρ x (by simp [Op.operands]) _ hx;obtain⟨y,h1,h2⟩:=znN hq hL w;exact⟨y,val (by simp [hc,Instr.field,run_underlying hu,hf,asAgg,h1]),h2⟩
   ·simp at hq
  ·simp at hq
 | indexAddr t x ix=>
  simp only [zaW]at hq;split at hq
  ·rename_i i off ixv n e hx hix hu;split at hq
   ·rename_i j sz hj hs
    cases hb:Nat.blt j n with
    | false=>rw [hb]at hq;simp at hq
    | true=>
     rw [hb]at hq;have hb:=(zca _ _).1 hb;simp at hq;subst hq
     obtain⟨b,N,hm,hc⟩:=hρ x (by simp [Op.operands]) _ hx;obtain⟨k,hk⟩:=zfr hj (hρ ix (by simp [Op.operands]) _ hix);exact⟨.pointer (some ⟨b,off+j*sz,none⟩),val (by simp [hc,hk,Instr.indexAt,asIntOf,run_underlying hu,Instr.sureAddr,hb,zbb hs,zeh]),b,N,hm,rfl⟩
   ·simp at hq
  ·rename_i i off len cm ex esz ixv e hx hix hu;split at hq
   ·rename_i j sz hj hs
    cases hb:(Nat.blt j len && Nat.beq sz esz)with
    | false=>rw [hb]at hq;simp at hq
    | true=>
     rw [hb]at hq;simp only [Bool.and_eq_true]at hb;have hb1:=(zca _ _).1 hb.1;simp at hq;subst hq
     obtain⟨b,N,c,hm,hc,_⟩:=hρ x (by simp [Op.operands]) _ hx;obtain⟨k,hk⟩:=zfr hj (hρ ix (by simp [Op.operands]) _ hix);exact⟨.pointer (some ⟨b,off+j*sz,none⟩),val (by simp [hc,hk,Instr.indexAt,asIntOf,run_underlying hu,hb1,zbb hs,zeh]),b,N,hm,rfl⟩
   ·simp at hq
  ·simp at hq
 | index t x ix=>
  simp only [zaW]at hq;split at hq
  ·rename_i cs ixv n e hx hix hu;split at hq
   ·rename_i j sz hj hs
    cases hb:Nat.blt j n with
    | false=>rw [hb]at hq;simp at hq
    | true=>
     rw [hb]at hq;have hb:=(zca _ _).1 hb;simp only [cond_true]at hq;obtain⟨xs,hc,hL⟩:=hρ x (by simp [Op.operands]) _ hx;obtain⟨k,hk⟩:=zfr hj (hρ ix (by simp [Op.operands]) _ hix);obtain⟨y,h1,h2⟩:=znN hq hL w;exact⟨y,val (by simp [hc,hk,Instr.index,asIntOf,run_underlying hu,hb,zbb hs,h1]),h2⟩
   ·simp at hq
  ·rename_i s ixv hx hix hu;split at hq
   ·rename_i j hj;split at hq
    ·rename_i b hb;simp at hq;subst hq
     have hc:ρc x = .string s:=hρ x (by simp [Op.operands]) _ hx;obtain⟨k,hk⟩:=zfr hj (hρ ix (by simp [Op.operands]) _ hix);have hb':s[j]? = some b:=by
      have h1:s.data[j]? = some b:=by simpa using hb
      obtain⟨hlt,h2⟩:=Array.getElem?_eq_some_iff.1 h1;exact getElem?_eq_some_iff.2 ⟨hlt,h2⟩
     exact⟨.int .u8 (b.toNat:Int),val (by simp [hc,hk,Instr.index,asIntOf,run_underlying hu,hb']),rfl⟩
    ·simp at hq
   ·simp at hq
  ·simp at hq
 | lookup t m x okk=>
  simp only [zaW]at hq;split at hq
  ·rename_i mv key kt et hm hx hu
   cases hb:zaZ P kt key with
   | false=>rw [hb]at hq;simp at hq
   | true=>
    rw [hb]at hq;simp only [cond_true]at hq;split at hq
    ·rename_i es z he hz;obtain⟨y,h1,h2⟩:=zlA h hu hb he hz (hρ m (by simp [Op.operands]) _ hm) (hρ x (by simp [Op.operands]) _ hx) hq;exact⟨y,val h1,h2⟩
    ·simp at hq
  ·simp at hq
 | extract x ix=>
  simp only [zaW]at hq;split at hq
  ·rename_i cs hx;obtain⟨xs,hc,hL⟩:=hρ x (by simp [Op.operands]) _ hx;obtain⟨y,h1,h2⟩:=LR.nth (show LR μ cs xs.toList from hL) hq;have h1':xs[ix]? = some y:=by simpa using h1
   exact⟨y,val (by simp [hc,Instr.extract,h1']),h2⟩
  ·simp at hq
 | call c=>
  obtain⟨callee,args,argTypes⟩:=c
  cases callee with
  | builtin b=>
   simp only [zaW]at hq;split at hq
   ·rename_i x hargs;split at hq
    ·rename_i t u htypes hx;have ha:args=#[x]:=by apply Array.toList_inj.1;simpa using hargs
     have ht:argTypes=#[t]:=by apply Array.toList_inj.1;simpa using htypes
     subst ha ht;obtain⟨y,h1,h2⟩:=zqs h (ty:=type) hq (hρ x (by simp [Op.operands,Call.operands]) _ hx);exact⟨y,by simp [execOp,resolve,invoke,builtin,h1],h2⟩
    ·simp at hq
   ·rename_i x y hargs;split at hq
    ·rename_i j a l b hx hy;have ha:args=#[x,y]:=by apply Array.toList_inj.1;simpa using hargs
     subst ha;have e1:ρc x = .int j a:=hρ x (by simp [Op.operands,Call.operands]) _ hx;have e2:ρc y = .int l b:=hρ y (by simp [Op.operands,Call.operands]) _ hy;obtain⟨z,h2,h3⟩:=zcx (w:=w) μ hq;exact⟨z,by simp [execOp,resolve,invoke,builtin,Builtin.min_,e1,e2,h2],h3⟩
    ·simp at hq
   ·rename_i x y hargs;split at hq
    ·rename_i j a l b hx hy;have ha:args=#[x,y]:=by apply Array.toList_inj.1;simpa using hargs
     subst ha;have e1:ρc x = .int j a:=hρ x (by simp [Op.operands,Call.operands]) _ hx;have e2:ρc y = .int l b:=hρ y (by simp [Op.operands,Call.operands]) _ hy;obtain⟨z,h2,h3⟩:=zcx (w:=w) μ hq;exact⟨z,by simp [execOp,resolve,invoke,builtin,Builtin.max_,e1,e2,h2],h3⟩
    ·simp at hq
   ·simp at hq
  | _=>simp [zaW]at hq
 | _=>simp [zaW]at hq
end
def Mk.obj:Mk→Nat→AObj
 | .cells e cs,i => .cells i 0 e cs
 | .map kt,_ => .map kt .nil
section
variable {P:Program} {B:Nat} {w0:World} {G:Sett} {μ:Mu} {H:AH} {w:World}
theorem zhs(A:Array Value)(hs:0<A.size):∀n,(List.range (n*A.size)).map (fun i=>A[i%A.size]!)=(List.replicate n A.toList).flatten
 | 0=>by simp
 | n+1=>by
  have ih:=zhs A hs n;rw [show(n+1)*A.size=A.size+n*A.size from by rw [Nat.add_mul];omega,List.range_add,List.map_append,List.map_map];have e1:(List.range A.size).map (fun i=>A[i%A.size]!)=A.toList:=by
   apply List.ext_getElem
   ·simp
   ·intro i h1 h2;have hi:i<A.size:=by simpa using h1
    simp [Nat.mod_eq_of_lt hi,hi]
  have e2:(List.range (n*A.size)).map ((fun i=>A[i%A.size]!) ∘ fun x=>A.size+x)=(List.replicate n A.toList).flatten:=by
   rw [←ih];apply List.map_congr_left
   intro i _;simp
  rw [e1,e2,List.replicate_succ,List.flatten_cons]
theorem zqo{z:AV}{A:Array Value}(hz:LR μ z A.toList)(hs:0<A.size)(n m:Nat)(hm:m=n*A.size):LR μ (AV.rep n z) ((Array.range m).map (A[· % A.size]!)).toList:=by
 subst hm;rw [Array.toList_map,Array.toList_range,zhs A hs];exact LR.rep hz n
theorem ze8{R:List TypeId}{e:TypeId}{cs:AV}{arr:Array Value}(hr:R.contains e=false)(hL:LR μ cs arr.toList)(i:Nat):Fits P R μ ((Mk.cells e cs).obj i) (.cells arr e) arr.size where
 nopq:=by intro t h;cases h
 free:=by intro _ _ _ h;cases h;exact hr
 cells:=by
  intro fam ver e' cs' he
  cases he
  have:=hL.len;rw [Array.length_toList]at this;refine⟨arr,_,rfl,rfl,by omega,?_⟩;rw [List.take_of_length_le (by simp;omega)];exact hL
 map:=by intro kt es he;cases he
 loop:=by intro _ _ _ _ _ _ _ _ _ he;cases he
 defd:=by intro _ he;cases he
theorem zrM{R:List TypeId}(kt:TypeId)(i N:Nat):Fits P R μ ((Mk.map kt).obj i) (.map #[] 0) N where
 nopq:=by intro t h;cases h
 free:=by intro _ _ _ h;cases h
 cells:=by intro _ _ _ _ he;cases he
 map:=by intro kt' es he;cases he;exact⟨#[],0,rfl,rfl⟩
 loop:=by intro _ _ _ _ _ _ _ _ _ he;cases he
 defd:=by intro _ he;cases he
theorem zf9{ρ:Env}{pl:Nat→Option (Nat × Nat)}:∀{ps:List (Nat × Operand)} {a b:AV},zb2 pl ρ a ps=some b→b.len=a.len
 | [],a,b,q=>by simp [zb2]at q;rw [q]
 | (i,x) :: r,a,b,q=>by
  simp only [zb2]at q;split at q
  ·rename_i off n v hp hx
   cases hb:Nat.beq v.cells.len n with
   | false=>rw [hb]at q;simp at q
   | true=>
    rw [hb]at q;simp only [cond_true]at q;split at q
    ·rename_i c hc;rw [zf9 q,zp4 hc]
    ·simp at q
  ·simp at q
theorem zpV{z:AV}(h:z.isList=true):∀n,(AV.rep n z).len=n*z.len
 | 0=>by simp [AV.rep,AV.len]
 | n+1=>by rw [AV.rep,zkk h,zpV h n,Nat.add_mul];omega
theorem zfD{ρ:Env}{ρc:Operand→Value}{o:Oper}(hρ:∀x∈o.op.operands,∀v,ρ x=some v→VR μ v (ρc x)){mk:Mk}{f:Nat→AV}{R:List TypeId}(ha:zcH P ρ o.op=some (mk,f))(hR:mk.bad R=false)(w:World) :
  ∃obj N x,(execOp ρc o).run P w = .ok (.value x) (w.alloc obj)∧(∀i,Fits P R μ (mk.obj i) obj N)∧∀(ν:Mu) i,ν i=some (w.heap.size,N)→VR ν (f i) x:=by
 obtain⟨dst,op,type,pos,after,guard⟩:=o;simp only at hρ ha
 cases op with
 | alloc e=>
  simp only [zcH,Option.map_eq_some_iff]at ha;obtain⟨z,hz,ha⟩:=ha
  cases ha
  obtain⟨zi,zx,hz1,hz2,hz3,hz4⟩:=zfh μ hz;refine⟨.cells zx.cells e,zx.cells.size,.pointer (some ⟨w.heap.size,0,none⟩),?_,fun i=>ze8 hR hz3.cells i,fun ν i hν=>⟨_,_,hν,rfl⟩⟩;simp [execOp,Instr.alloc,hz4,newVar,newRow]
 | box e x=>
  simp only [zcH,Option.map_eq_some_iff]at ha;obtain⟨v,hv,ha⟩:=ha
  cases ha
  have h1:=hρ x (by simp [Op.operands]) _ hv;refine⟨.cells (ρc x).cells e,(ρc x).cells.size,.pointer (some ⟨w.heap.size,0,none⟩),?_,fun i=>ze8 hR h1.cells i,fun ν i hν=>⟨_,_,hν,rfl⟩⟩;simp [execOp,Instr.box,newVar,newRow]
 | buildSlice t len zdk=>
  simp only [zcH]at ha;split at ha
  ·rename_i e hu;split at ha
   ·rename_i z n hz hs
    cases hb:(Nat.beq n 0 || Nat.ble 1000000 (len*n) || !Nat.beq z.cells.len n)with
    | true=>rw [hb]at ha;simp at ha
    | false=>
     rw [hb]at ha;simp only [Bool.or_eq_false_iff,Bool.not_eq_false']at hb;obtain⟨⟨b1,b2⟩,b3⟩:=hb;have b1:=(beq_false _ _).1 b1;have b3:=(zam _ _).1 b3;have b2:len*n<1000000:=by
      refine Decidable.byContradiction fun q => ?_
      rw [Nat.ble_eq_true_of_le (by omega)]at b2;cases b2
     simp only [cond_false,Option.map_eq_some_iff]at ha;obtain⟨cs,hfill,ha⟩:=ha
     cases ha
     obtain⟨zi,zx,hz1,hz2,hz3,hz4⟩:=zfh μ hz;have hzc:=hz3.cells;have hzs:zx.cells.size=n:=by rw [←Array.length_toList,hzc.len,b3]
     have hp:∀p∈zdk.toList,∀v,ρ p.2=some v→VR μ v (ρc p.2):=by
      intro p hp;exact hρ p.2 (by simp only [Op.operands,List.mem_toArray,List.mem_map];exact⟨p,hp,rfl⟩)
     have hmap:(zdk.map fun (i,x)=>(i,ρc x)).toList=zdk.toList.map fun (p:Nat × Operand)=>(p.1,ρc p.2):=by simp
     obtain⟨cells',h1,h2⟩:=zgx zdk.toList _ cs _ hp (zqo hzc (by omega) len (len*n) (by rw [hzs])) hfill;refine⟨.cells cells' e,cells'.size,.slice (some ⟨w.heap.size,0,none⟩) len len,?_,fun i=>ze8 hR h2 i,fun ν i hν=>⟨_,_,len,hν,rfl,Nat.le_refl _,fun _=>rfl,?_,Nat.le_refl _⟩⟩
     ·have hbig:¬(16777216<len*n):=by omega
      refine zmv ?_;simp only [Instr.buildSlice,Sem.run_bind,run_underlying hu,Result.andThen_ok,zbb hs];rw [if_neg (by simpa using hbig)];by_cases hln:len*n=0
      ·simp only [if_pos hln,Sem.run_bind,Sem.run_pure,Result.andThen_ok,hmap];have hl0:len=0:=by
        rcases Nat.mul_eq_zero.1 hln with q|q
        ·exact q
        ·omega
       subst hl0;have e1:(Array.range (0*n)).map (fun i=>zx.cells[i%zx.cells.size]!)=(Array.range (0*n)).map (fun i=>(#[]:Array Value)[i%(#[]:Array Value).size]!):=by simp
       rw [e1]at h1;rw [h1];simp [newRow]
      ·simp only [if_neg hln,Sem.run_bind,hz4,Sem.run_pure,Result.andThen_ok,hmap,h1];simp [newRow]
     ·have hcl:=h2.len;rw [zf9 hfill,zpV (hzc.isList),b3,Array.length_toList]at hcl;omega
   ·simp at ha
  ·simp at ha
 | makeSlice t l c=>
  simp only [zcH]at ha;split at ha
  ·rename_i e lv cv hu hl hc;split at ha
   ·rename_i z inf len cap hz hi hln hcn
    cases hb:(Nat.beq inf.size 0 || Nat.ble 1000000000 ((cap+1)*(inf.bytes+1)) || Nat.blt cap len || !Nat.beq z.cells.len inf.size)with
    | true=>rw [hb]at ha;simp at ha
    | false=>
     rw [hb]at ha;simp only [Bool.or_eq_false_iff,Bool.not_eq_false']at hb;obtain⟨⟨⟨b1,b2⟩,b3⟩,b4⟩:=hb;have b1:=(beq_false _ _).1 b1;have b4:=(zam _ _).1 b4;have b2:(cap+1)*(inf.bytes+1)<1000000000:=by
      refine Decidable.byContradiction fun q => ?_
      rw [Nat.ble_eq_true_of_le (by omega)]at b2;cases b2
     have b3:len≤cap:=by
      refine Decidable.byContradiction fun q => ?_
      rw [(zca cap len).2 (by omega)]at b3;cases b3
     simp only [cond_false,Option.some.injEq]at ha
     cases ha
     obtain⟨zi,zx,hz1,hz2,hz3,hz4⟩:=zfh μ hz;rw [hi]at hz1;cases hz1;have hzc:=hz3.cells;have hzs:zx.cells.size=inf.size:=by rw [←Array.length_toList,hzc.len,b4]
     obtain⟨kl,el⟩:=zfr hln (hρ l (by simp [Op.operands]) _ hl);obtain⟨kc,ec⟩:=zfr hcn (hρ c (by simp [Op.operands]) _ hc);have hcap:cap+1≤(cap+1)*(inf.bytes+1):=Nat.le_mul_of_pos_right _ (by omega);have hby:inf.bytes*cap≤(cap+1)*(inf.bytes+1):=by rw [Nat.mul_comm];exact Nat.mul_le_mul (by omega) (by omega)
     have hrun:=run_make w t e inf zx hu hi hz2 kl kc (len:Int) (cap:Int) (by omega) (by omega) (by
      have:((inf.bytes*cap:Nat):Int)≤281474976710656:=by omega
      simpa using this) (by omega)
     have hLR:=zqo hzc (by omega) cap (cap*inf.size) (by rw [hzs]);refine⟨.cells (madeCells zx.cells (cap*inf.size)) e,(madeCells zx.cells (cap*inf.size)).size,.slice (some ⟨w.heap.size,0,none⟩) len cap,?_,fun i=>ze8 hR hLR i,fun ν i hν=>⟨_,_,cap,hν,rfl,Nat.le_refl _,fun _=>rfl,by simp [madeCells],b3⟩⟩;refine zmv ?_;rw [el,ec];simpa using hrun
   ·simp at ha
  ·simp at ha
 | makeMap t r=>
  cases r with
  | some x=>simp [zcH]at ha
  | none=>
   simp only [zcH]at ha;split at ha
   ·rename_i kt et hu
    cases ha
    refine⟨.map #[] 0,0,.map (some w.heap.size),?_,fun i=>zrM kt i 0,fun ν i hν=>⟨_,_,hν,rfl⟩⟩;simp [execOp,Instr.makeMap]
   ·simp at ha
 | _=>simp [zcH]at ha
end
section
variable {P:Program} {B:Nat} {w0:World} {G:Sett} {μ:Mu} {H:AH} {w:World}
theorem zmn{β:Type}(h:Rep P B w0 G μ H w){t:TypeId}{i off n:Nat}{v:AV}{x y:Value}{k:AH→Option β}{r:β}(hs:zdH P t=some n)(hn:v.cells.len=n)
  (hx:VR μ (.ptr i off) x) (hy:VR μ v y) (hk:H.storeCells i off v.cells k=some r) :
  ∃H' w',k H'=some r∧(Instr.storeAt t x y).run P w = .ok () w'∧Rep P B w0 G μ H' w'∧H'.next=H.next:=by
 obtain⟨fam,ver,e,cs,lw,cs',ho,hf,hl,hone,hp,hk'⟩:=zew hk;obtain⟨b,N,hm,rfl⟩:=hx;have hc:=hy.cells;obtain⟨arr,te,hw,hfit,hrep⟩:=h.store ho hf hl hm hc hp;have hst:=run_storeCells_at P b off te y.cells.toList 0 arr w hw (by simpa using hfit) (hc.allOne hone);simp only [Nat.add_zero]at hst;have hsz:y.cells.size=n:=by rw [←Array.length_toList,hc.len,hn]
 refine⟨_,_,hk',?_,hrep,rfl⟩;simp only [Instr.storeAt,Instr.sureAddr,Sem.run_bind,Sem.run_pure,Result.andThen_ok,storeVar,zbb hs,ne_eq,hsz,not_true_eq_false,if_false];exact hst
theorem zhE{β:Type}(h:Rep P B w0 G μ H w){t kt et:TypeId}{i:Nat}{key v es:AV}{x y z:Value}{k:AH→Option β}{r:β}(hu:P.underlying t=some (.map kt et))(hkf:zaZ P kt key=true)
  (ho:H.objs.get i=some (.map kt es)) (hx:VR μ (.map i) x) (hy:VR μ key y) (hz:VR μ v z) (hk:k (H.set i (.map kt (updE key v es)))=some r) :
  ∃H' w',k H'=some r∧(Instr.mapUpdate t x y z).run P w = .ok () w'∧Rep P B w0 G μ H' w'∧H'.next=H.next:=by
 obtain⟨b,N,hm,rfl⟩:=hx;obtain⟨hB,en,cl,hw,hER⟩:=h.map _ _ _ _ _ ho hm;obtain⟨res,hf,hfound⟩:=zfw hkf hy w hER;have hck:=zeS hkf hy false w;have hset:∀o,(setObj b o).run P w = .ok () (zaz w b o):=fun o=>by simp [setObj,Sem.run,hw,zaz]
 have hget:(getObj b).run P w = .ok (.map en cl) w:=by simp [getObj,Sem.run,hw]
 have fits:∀(en':Array MapEntry) cl',ER P μ kt (updE key v es) en'.toList→Fits P G.res μ (.map kt (updE key v es)) (.map en' cl') N:=by
  intro en' cl' hE;exact⟨(by intro _ he;cases he),(by intro _ _ _ he;cases he),(by intro _ _ _ _ he;cases he),(by intro kt' es' he;cases he;exact⟨en',cl',rfl,hE⟩),(by intro _ _ _ _ _ _ _ _ _ he;cases he),(by intro _ he;cases he)⟩
 rcases hfound with⟨g1,rfl,g2⟩|⟨u,j,e,g1,rfl,g3,g4,g5,g6⟩
 ·refine⟨_,zaz w b (.map (en.push {key:=y,val:=z,born:=cl}) (cl+1)),hk,?_,h.setObj ho hm hB (by simp) (by simp) (by simp) (fits _ _ (by simpa using g2 v z cl hz)),rfl⟩;simp only [Instr.mapUpdate,Sem.run_bind,run_underlying hu,Result.andThen_ok,hget,hck,hf,hset]
 ·have hkey:((en[0+j]?).map (·.key)).getD y=y:=by
   have:en[j]? = some e:=by simpa using g3
   simp [this,g5]
  have hstay:(Instr.keyThatStays y y).run P w = .ok y w:=by simp [Instr.keyThatStays,zjS hkf hy]
  refine⟨_,zaz w b (.map (en.modify (0+j) fun e=>{e with key:=y,val:=z}) cl),hk,?_,h.setObj ho hm hB (by simp) (by simp) (by simp) (fits _ _ ?_),rfl⟩
  ·simp only [Instr.mapUpdate,Sem.run_bind,run_underlying hu,Result.andThen_ok,hget,hck,hf,hset,hkey,hstay]
  ·have:=g6 v z hz;rw [Nat.zero_add,Array.toList_modify];exact this
theorem zpF(h:Rep P B w0 G μ H w){x:AV}{y:Value}{esz n:Nat}{xs:AV}(hx:VR μ x y)
  (hs:zsr H esz x=some (n,xs)) :
  ∃a c news,y = .slice a n c∧news.length=n*esz∧LR μ xs news∧(∀w',w'.heap=w.heap→(Builtin.firstCells esz n y).run P w' = .ok news.toArray w'):=by
 unfold zsr at hs
 cases x with
 | sc q=>
  cases q with
  | nilSlice=>
   simp at hs
   obtain⟨rfl,rfl⟩:=hs;have hy:y = .slice none 0 0:=hx;exact⟨none,0,[],hy,by simp,rfl,fun w' _=>by subst hy;simp [Builtin.firstCells]⟩
  | _=>simp at hs
 | slc i o len cm ex es=>
  simp only at hs;split at hs
  ·rename_i cs hc;simp at hs
   obtain⟨rfl,rfl⟩:=hs;obtain⟨b,N,c,hm,rfl,_⟩:=hx;obtain⟨news,h1,h2,h3⟩:=h.load hc hm;refine⟨_,c,news,rfl,h1,h2,fun w' hw' => ?_⟩;have:=run_firstCells_some (P:=P) w' esz len ⟨b,o,none⟩ len c news h1 (fun j v q=>by
    have:=h3 j v q;simpa [World.cell?,hw']using this)
   exact this
  ·simp at hs
 | _=>simp at hs
theorem Rep.loadAll(h:Rep P B w0 G μ H w){i fam ver lw b N tip:Nat}{e:TypeId}{cs:AV}(ho:H.objs.get i=some (.cells fam ver e cs))(hf:H.fams.get fam=some (tip,lw))(hl:lw≤ver)(hm:μ i=some (b,N)) :
  ∃xs:List Value,xs.length=cs.len∧LR μ cs xs∧∀j v,xs[j]? = some v→w.cell? ⟨b,j,none⟩=some v:=by
 obtain⟨arr,te,fz,hw,hN,hcN,hLR,_⟩:=h.cells _ _ _ _ _ _ _ _ _ ho hf hl hm;refine⟨_,hLR.len,hLR,?_⟩;intro j v hj;rw [List.getElem?_take]at hj;split at hj
 ·rw [cell?_of hw];simpa using hj
 ·simp at hj
theorem zeX{t u ty e e':TypeId}{inf:TypeInfo}(hut:P.underlying t=some (.slice e))(huu:P.underlying u=some (.slice e'))(hi:P.info? e=some inf){b o sLen sCap n c:Nat}{a:Option Addr}{news:List Value}{arr:Array Value}{te:TypeId}
  (hfirst:∀w',w'.heap=w.heap→(Builtin.firstCells inf.size n (.slice a n c)).run P w' = .ok news.toArray w') (hw:w.heap[b]? = some (.cells arr te (0,0))) (hroom:sLen+n≤sCap)
  (hfit:o+sLen*inf.size+news.length≤arr.size) (hone:∀v∈news,v.oneCell'=true) :
  (Builtin.append_ #[t,u] ty #[.slice (some ⟨b,o,none⟩) sLen sCap,.slice a n c]).run P w =
   .ok (.slice (some ⟨b,o,none⟩) (sLen+n) sCap) (w.setRow b (arr.toList.take (o+sLen*inf.size) ++ news ++ arr.toList.drop (o+sLen*inf.size+news.length)).toArray):=by
 have hf:=hfirst w rfl;have hst:=run_storeCells_at P b (o+sLen*inf.size) te news 0 arr w hw (by simpa using hfit) hone;simp only [Nat.add_zero]at hst;simp [Builtin.append_,run_underlying hut,run_underlying huu,sizeOf,typeInfo,hi,Builtin.lenOf,hroom,hf,zeh,hst]
theorem zdp{t u ty e e':TypeId}{inf:TypeInfo}{z:Value}(hut:P.underlying t=some (.slice e))(huu:P.underlying u=some (.slice e'))(hi:P.info? e=some inf)(hz:inf.zero=some z){sLen sCap n c:Nat}{a base:Option Addr}{olds news:List Value}
  (hfirst:∀w',w'.heap=w.heap→(Builtin.firstCells inf.size n (.slice a n c)).run P w' = .ok news.toArray w') (hold:∀w',w'.heap=w.heap→(Builtin.firstCells inf.size sLen (.slice base sLen sCap)).run P w' = .ok olds.toArray w')
  (hg:sCap<sLen+n) (hfit:4*(sLen+n+1)*(inf.bytes+1)≤1000000000) :
  ∃C,sLen+n≤C∧(Builtin.append_ #[t,u] ty #[.slice base sLen sCap,.slice a n c]).run P w =
   .ok (.slice (some ⟨w.heap.size,0,none⟩) (sLen+n) C) (({w with drawn:=w.drawn+1}:World).alloc (.cells (olds.toArray ++ news.toArray ++ Builtin.zeroCells z.cells (C-(sLen+n))) e)):=by
 refine⟨grownCap w (sLen+n) sCap e,Nat.le_add_right _ _,?_⟩;have hn:¬(sLen+n≤sCap):=by omega
 have hbig:4*(sLen+n+1)≤4*(sLen+n+1)*(inf.bytes+1):=Nat.le_mul_of_pos_right _ (by omega);have h63':¬(9223372036854775807<((sLen:Int)+(n:Int))):=by omega
 have h1:Builtin.nextslicecap (sLen+n) sCap≤2*(sLen+n):=nextslicecap_le hg;have h2:Builtin.nextslicecap (sLen+n) sCap*inf.bytes≤4*(sLen+n+1)*(inf.bytes+1):=Nat.mul_le_mul (by omega) (by omega);have h48':¬(281474976710656<Builtin.nextslicecap (sLen+n) sCap*inf.bytes):=by omega
 have hf:=hfirst w.drew rfl;have hfo:=hold w.drew rfl;simp [Builtin.append_,run_underlying hut,run_underlying huu,sizeOf,typeInfo,zeroValue,hi,hz,Builtin.lenOf,hn,h63',h48',Question.forced,hf,hfo,newRow,grownCap]
 congr 2
 apply Array.ext'
 simp [List.append_assoc]
theorem zl7{β:Type}(h:Rep P B w0 G μ H w){ts:Array TypeId}{ty:TypeId}{s x:AV}{sv xv:Value}{k:AV→AH→Option β}{r:β}(hs:VR μ s sv)(hx:VR μ x xv)(hk:zj7 P ts s x H k=some r) :
  ∃v H' w' μ' y,k v H'=some r∧(Builtin.append_ ts ty #[sv,xv]).run P w = .ok y w'∧Ext H μ H' μ'∧VR μ' v y∧Rep P B w0 G μ' H' w':=by
 unfold zj7 at hk;split at hk
 ·rename_i t u hts;have ht:ts=#[t,u]:=by apply Array.toList_inj.1;simpa using hts
  subst ht;split at hk
  ·rename_i e e' hut huu;split at hk
   ·rename_i inf za hi hza;obtain⟨zi,z,hz1,hz2,hz3,_⟩:=zfh μ hza;rw [hi]at hz1;cases hz1
    cases hcond:(Nat.beq inf.size 0 || !Nat.beq za.cells.len inf.size || H.res.contains e)with
    | true=>simp only [hcond,cond_true]at hk;cases hk
    | false=>
     simp only [hcond,cond_false]at hk;simp only [Bool.or_eq_false_iff,Bool.not_eq_false']at hcond;have hesz:=(beq_false _ _).1 hcond.1.1;have hzl:=(zam _ _).1 hcond.1.2;have hres:G.res.contains e=false:=by rw [←h.resd];exact hcond.2
     have hzs:z.cells.size=inf.size:=by rw [←Array.length_toList,hz3.cells.len,hzl]
     have hdrawn:Rep P B w0 G μ H {w with drawn:=w.drawn+1}:=h.drewN _;have fresh:∀(cs:AV) (olds news:List Value) (C need:Nat) (k':Nat→AH→Option β),LR μ cs (olds ++ news)→(olds ++ news).length=need*inf.size→need≤C→H.newCells e cs k'=some r →
       ∃H',k' H.next H'=some r∧VR (μ.add H.next w.heap.size ((olds.toArray ++ news.toArray ++ Builtin.zeroCells z.cells (C-need)).size)) (.slc H.next 0 need need false inf.size) (.slice (some ⟨w.heap.size,0,none⟩) need C) ∧
        Ext H μ H' (μ.add H.next w.heap.size ((olds.toArray ++ news.toArray ++ Builtin.zeroCells z.cells (C-need)).size)) ∧
        Rep P B w0 G (μ.add H.next w.heap.size ((olds.toArray ++ news.toArray ++ Builtin.zeroCells z.cells (C-need)).size)) H' (({w with drawn:=w.drawn+1}:World).alloc (.cells (olds.toArray ++ news.toArray ++ Builtin.zeroCells z.cells (C-need)) e)):=by
      intro cs olds news C need k' hL hlen hC hkk;rw [zfq]at hkk;have hun:=h.notYet (i:=H.next) (Nat.le_refl _);have hl:=hL.len;have hsz:(olds.toArray ++ news.toArray ++ Builtin.zeroCells z.cells (C-need)).size=C*inf.size:=by
       simp only [Array.size_append,ztH,Builtin.zeroCells,Array.size_map,Array.size_range,hzs];rw [←List.length_append,hlen,←Nat.add_mul];congr 1;omega
      refine⟨_,hkk,⟨w.heap.size,_,C,if_pos rfl,rfl,hC,(fun q=>by cases q),by rw [hsz];omega,Nat.le_refl _⟩,.add hun (Nat.le_succ _),?_⟩;have hob:∀o,(H.withCells e cs).objs.get H.next=some o→o = .cells H.next 0 e cs:=by
       intro o ho;rcases Tr.get_set deep H.objs H.next (some (.cells H.next 0 e cs)) H.next o ho with⟨_,q⟩|⟨q,_⟩
       ·exact(Option.some.inj q).symm
       ·exact absurd rfl q
      refine(hdrawn.layCells e cs).bind (Nat.lt_succ_self _) hob hun ?_;refine⟨(by intro _ he;cases he),(by intro _ _ _ he;cases he;exact hres),?_,(by intro _ _ he;cases he),(by intro _ _ _ _ _ _ _ _ _ he;cases he),(by intro _ he;cases he)⟩;intro fam ver e2 cs2 he
      cases he
      refine⟨_,_,rfl,rfl,by rw [←hl,hlen,hsz];exact Nat.mul_le_mul_right _ hC,?_⟩;have:((olds.toArray ++ news.toArray ++ Builtin.zeroCells z.cells (C-need)).toList).take cs.len=olds ++ news:=by
       simp only [Array.toList_append];rw [List.take_append_of_le_length (by simp at hl ⊢;omega),List.take_of_length_le (by simp at hl ⊢;omega)]
      rw [this];exact hL
     split at hk
     ·cases hk
     ·rename_i n xs hsrc;obtain⟨a,c,news,rfl,hnl,hnL,hfirst⟩:=zpF h hx hsrc;split at hk
      ·have hsv:sv = .slice none 0 0:=hs;subst hsv
       cases hn0:Nat.beq n 0 with
       | true=>
        simp only [hn0,cond_true]at hk;have hn0:=(zam _ _).1 hn0;subst hn0;simp [ok]at hk
        refine⟨_,H,w,μ,.slice none 0 0,hk,?_,.refl H μ,hs,h⟩;have hf:=hfirst w rfl;have hnil:news = []:=by apply List.length_eq_zero_iff.1;simpa using hnl
        subst hnil;simp [Builtin.append_,run_underlying hut,run_underlying huu,sizeOf,typeInfo,hi,Builtin.lenOf,hf]
       | false=>
        simp only [hn0,cond_false]at hk;have hn0:=(beq_false _ _).1 hn0
        cases hroom:Nat.ble (4*(n+1)*(inf.bytes+1)) 1000000000 with
        | false=>rw [hroom]at hk;cases hk
        | true=>
         rw [hroom]at hk;have hroom:=Nat.le_of_ble_eq_true hroom;simp only [cond_true]at hk;obtain⟨C,hC,hrun⟩:=zdp (w:=w) (ty:=ty) (sLen:=0) (sCap:=0) (base:=none) (olds:=[]) hut huu hi hz2 hfirst (fun w' _=>by simp [Builtin.firstCells]) (by omega) (by simpa using hroom);obtain⟨H',g1,g2,g3,g4⟩:=fresh xs [] news C n _ hnL hnl (by omega) hk;simp only [Nat.zero_add]at hrun;simp only [ok,AV.force_eq]at g1;exact⟨_,H',_,_,_,g1,hrun,g3,g2,g4⟩
      ·rename_i i o len cm ex esz';obtain⟨b,N,cp,hm,rfl,hcp1,hcp2,hcp3,hcp4⟩:=hs
       cases hee:Nat.beq inf.size esz' with
       | false=>rw [hee]at hk;cases hk
       | true=>
        rw [hee]at hk;have hee:=(zam _ _).1 hee;subst hee;simp only [cond_true]at hk
        cases hn0:Nat.beq n 0 with
        | true=>
         rw [hn0]at hk;have hn0:=(zam _ _).1 hn0;subst hn0;simp [ok]at hk
         refine⟨_,H,w,μ,.slice (some ⟨b,o,none⟩) len cp,hk,?_,.refl H μ,⟨b,N,cp,hm,rfl,hcp1,hcp2,hcp3,hcp4⟩,h⟩;have hf:=hfirst w rfl;have hnil:news = []:=by apply List.length_eq_zero_iff.1;simpa using hnl
         subst hnil;have hle:len≤cp:=by omega
         simp [Builtin.append_,run_underlying hut,run_underlying huu,sizeOf,typeInfo,hi,Builtin.lenOf,hf,hle,storeCells]
        | false=>
         rw [hn0]at hk;have hn0:=(beq_false _ _).1 hn0;simp only [cond_false]at hk
         cases hcm:Nat.ble (len+n) cm with
         | true=>
          rw [hcm]at hk;have hcm:=Nat.le_of_ble_eq_true hcm;simp only [cond_true]at hk;obtain⟨fam,ver,te,cs,lw,cs',ho,hf,hl,hone,hp,hk'⟩:=zew hk;obtain⟨arr,te',hw,hfit,hrep⟩:=h.store ho hf hl hm hnL hp;have hrun:=zeX (ty:=ty) (sCap:=cp) (o:=o) hut huu hi hfirst hw (show len+n≤cp by omega) hfit (hnL.allOne hone);simp only [ok,AV.force_eq]at hk';exact⟨_,_,_,μ,_,hk',hrun,.same μ rfl,⟨b,N,cp,hm,rfl,hcp1,hcp2,hcp3,hcm⟩,hrep⟩
         | false=>
          rw [hcm]at hk;have hcm:cm<len+n:=by
           refine Decidable.byContradiction fun q => ?_
           rw [Nat.ble_eq_true_of_le (by omega)]at hcm;cases hcm
          simp only [cond_false]at hk
          cases hroom:Nat.ble (4*(len+n+1)*(inf.bytes+1)) 1000000000 with
          | false=>rw [hroom]at hk;cases hk
          | true=>
           rw [hroom]at hk;have hroom:=Nat.le_of_ble_eq_true hroom;simp only [cond_true]at hk
           cases ex with
           | true=>
            simp only [cond_true]at hk;have hcc:=hcp2 rfl;subst hcc;split at hk
            ·rename_i old hold;obtain⟨olds,hol,hoL,hoc⟩:=h.load hold hm;have hof:∀w':World,w'.heap=w.heap→(Builtin.firstCells inf.size len (.slice (some ⟨b,o,none⟩) len cp)).run P w' = .ok olds.toArray w':=fun w' hw'=>
              run_firstCells_some (P:=P) w' inf.size len ⟨b,o,none⟩ len cp olds hol (fun j v q=>by
               have:=hoc j v q;simpa [World.cell?,hw']using this)
             obtain⟨C,hC,hrun⟩:=zdp (w:=w) (ty:=ty) hut huu hi hz2 hfirst hof hcm hroom;obtain⟨H',g1,g2,g3,g4⟩:=fresh (old.app xs) olds news C (len+n) _ (LR.app hnL hoL) (by rw [List.length_append,hol,hnl,Nat.add_mul]) hC hk;simp only [ok,AV.force_eq]at g1;exact⟨_,H',_,_,_,g1,hrun,g3,g2,g4⟩
            ·cases hk
           | false=>
            simp only [cond_false]at hk;split at hk
            ·rename_i f1 f2 f3 cs1 hlive
             cases hbb:(Nat.beq (o+len*inf.size) cs1.len && Nat.beq o 0)with
             | false=>rw [hbb]at hk;cases hk
             | true=>
              rw [hbb]at hk;simp only [Bool.and_eq_true]at hbb;have hb1:=(zam _ _).1 hbb.1;have hb2:=(zam _ _).1 hbb.2;subst hb2;simp only [cond_true]at hk;obtain⟨fam,ver,te,cs,lw,ho,hf,hl,hone,hk'⟩:=zkP hk;obtain⟨ho',_⟩:=zhG hlive;have hcs:cs1=cs:=by rw [ho]at ho';cases ho';rfl
              rw [hcs]at hb1;have hun:=h.notYet (i:=H.next) (Nat.le_refl _);simp only [ok,AV.force_eq]at hk';by_cases hroomy:len+n≤cp
              ·have hNfit:cs.len+news.length≤N:=by
                rw [hnl,←hb1,Nat.zero_add,←Nat.add_mul];have:=Nat.mul_le_mul_right inf.size hroomy;omega
               obtain⟨arr,te',hw,hsz,hrep⟩:=h.versionHere ho hf hl hm hnL hNfit;have hrun:=zeX (ty:=ty) (sCap:=cp) (o:=0) hut huu hi hfirst hw hroomy (by rw [hb1,hsz];exact hNfit) (hnL.allOne hone);rw [hb1]at hrun;exact⟨_,_,_,_,_,hk',hrun,.add hun (Nat.le_succ _),⟨b,N,cp,if_pos rfl,rfl,hroomy,(fun q=>by cases q),hcp3,Nat.le_refl _⟩,hrep⟩
              ·obtain⟨olds,hol,hoL,hoc⟩:=h.loadAll ho hf hl hm;have hol':olds.length=len*inf.size:=by rw [hol,←hb1];omega
               have hof:∀w':World,w'.heap=w.heap→(Builtin.firstCells inf.size len (.slice (some ⟨b,0,none⟩) len cp)).run P w' = .ok olds.toArray w':=fun w' hw'=>
                run_firstCells_some (P:=P) w' inf.size len ⟨b,0,none⟩ len cp olds hol' (fun j v q=>by
                 have:=hoc j v q;rw [zeh,Nat.zero_add];simpa [World.cell?,hw']using this)
               obtain⟨C,hC,hrun⟩:=zdp (w:=w) (ty:=ty) hut huu hi hz2 hfirst hof (by omega) hroom;have hL2:LR μ (cs.app xs) (olds ++ news):=LR.app hnL hoL;have hlen2:(olds ++ news).length=(len+n)*inf.size:=by rw [List.length_append,hol',hnl,Nat.add_mul]
               have hsz:(olds.toArray ++ news.toArray ++ Builtin.zeroCells z.cells (C-(len+n))).size=C*inf.size:=by
                simp only [Array.size_append,ztH,Builtin.zeroCells,Array.size_map,Array.size_range,hzs];rw [←List.length_append,hlen2,←Nat.add_mul];congr 1;omega
               have hl2:=hL2.len;have hob:∀q,(H.versioned fam ver lw te (cs.app xs)).objs.get H.next=some q→q = .cells fam (ver+1) te (cs.app xs):=by
                intro q hq;rcases Tr.get_set deep H.objs H.next (some (.cells fam (ver+1) te (cs.app xs))) H.next q hq with⟨_,q'⟩|⟨q',_⟩
                ·exact(Option.some.inj q').symm
                ·exact absurd rfl q'
               refine⟨_,_,_,μ.add H.next w.heap.size (olds.toArray ++ news.toArray ++ Builtin.zeroCells z.cells (C-(len+n))).size,_,hk',hrun,.add hun (Nat.le_succ _),⟨w.heap.size,_,C,if_pos rfl,rfl,hC,(fun q=>by cases q),by rw [hsz];omega,Nat.le_refl _⟩,
                (hdrawn.layVersion ho hf (cs.app xs)).bind (Nat.lt_succ_self _) hob hun ⟨(by intro _ he;cases he),(by intro _ _ _ he;cases he;exact hres),?_,(by intro _ _ he;cases he),(by intro _ _ _ _ _ _ _ _ _ he;cases he),(by intro _ he;cases he)⟩⟩
               intro fam2 ver2 e2 cs2 he
               cases he
               refine⟨_,_,rfl,rfl,by rw [←hl2,hlen2,hsz];exact Nat.mul_le_mul_right _ hC,?_⟩;have:((olds.toArray ++ news.toArray ++ Builtin.zeroCells z.cells (C-(len+n))).toList).take (cs.app xs).len=olds ++ news:=by
                simp only [Array.toList_append];rw [List.take_append_of_le_length (by simp at hl2 ⊢;omega),List.take_of_length_le (by simp at hl2 ⊢;omega)]
               rw [this];exact hL2
            ·cases hk
      ·cases hk
   ·cases hk
  ·cases hk
 ·cases hk
end
abbrev CAct:=_root_.Go.Act
def zsf(P:Program)(d:Deferred):Prop:=∃g cap,d.target = .fn (.func g) cap∧(∀w,(invoke d.target d.args).run P w = .ok (.enter g (d.args ++ cap)) w) ∧
 ∀w,CallsDIn Fence.wide 0 P g (d.args ++ cap) .returning w fun e u w'=>(∃v,e = .returned v)∧u = .returning∧w'.heap=w.heap∧Below w.heap.size w w'
def DR(P:Program)(μ:Mu):List Mark→List Deferred→Prop
 | [],l=>l = []
 | .loop i :: r,l=>∃b N t,l={target:=.collected b,args:=#[]} :: t∧μ i=some (b,N)∧DR P μ r t
 | .still :: r,l=>∃d t,l=d :: t∧zsf P d∧DR P μ r t
theorem DR.mono{P:Program}{μ ν:Mu}(h:μ.le ν):∀{ds:List Mark} {l:List Deferred},DR P μ ds l→DR P ν ds l
 | [],_,h'=>h'
 | .loop _ :: _,_,⟨b,N,t,e,hm,ht⟩=>⟨b,N,t,e,h _ _ hm,DR.mono h ht⟩
 | .still :: _,_,⟨d,t,e,hd,ht⟩=>⟨d,t,e,hd,DR.mono h ht⟩
def zc3(P:Program)(μ:Mu)(a:Act)(c:CAct):Prop:=TR μ a.nt a.T c.tmps∧DR P μ a.ds c.defers
theorem zc3.mono{P:Program}{μ ν:Mu}(h:μ.le ν){a:Act}{c:CAct}(ha:zc3 P μ a c):zc3 P ν a c:=⟨ha.1.mono h,ha.2.mono h⟩
def znm(P:Program)(B:Nat)(w0:World)(G:Sett)(μ:Mu)(H:AH)(v:AV)(H':AH):Ending→World→Prop:=
 fun e w'=>∃x μ',e = .returned x∧Ext H μ H' μ'∧VR μ' v x∧Rep P B w0 G μ' H' w'
def zq9(P:Program)(self:Cb):Prop:=
 ∀g,self.still g=true→(∃fn:Func,P.funcs[g]? = some fn∧fn.body.isSome=true) ∧
  ∀args w,CallsDIn Fence.wide 0 P g args .returning w fun e u w'=>(∃v,e = .returned v)∧u = .returning∧w'.heap=w.heap∧Below w.heap.size w w'
def zgH(P:Program)(B:Nat)(w0:World)(G:Sett)(call:FuncId→AV→AH→Option (AV × AH)):Prop:=
 ∀f args H v H',call f args H=some (v,H')→(∃fn:Func,P.funcs[f]? = some fn∧fn.body.isSome=true) ∧
  ∀μ w (xs:Array Value),Rep P B w0 G μ H w→LR μ args xs.toList→CallsIn Fence.wide 0 P f xs w (znm P B w0 G μ H v H')
def zgW(P:Program)(B:Nat)(w0:World)(G:Sett)(self:Cb):Prop:=
 zq9 P self∧zgH P B w0 G self.call
def zeZ(P:Program)(B:Nat)(w0:World)(G:Sett)(self:Cb):Prop:=
 ∀l xs H v H',self.round l xs H=some (v,H')→∀μ w b N (ys:Array Value),Rep P B w0 G μ H w→μ l=some (b,N)→LR μ xs ys.toList →
  ∃L:Loop,w.heap[b]? = some (.loop L)∧ys.size=L.params.size ∧
   RoundIn Fence.wide 0 P b L.fn ((L.params.zip ys).foldl (fun tmps (t,a)=>tmps.setIfInBounds t a) L.tmps) L.assign L.body w (znm P B w0 G μ H v H')
def zbO(P:Program):Prop:=∀(f:FuncId) (fn:Func),P.funcs[f]? = some fn→fn.body.isSome=true→(fn.name == "runtime.NumGoroutine")=false
def Fz:Option Nat→Fence
 | none=>Fence.wide
 | some l=>Fence.wide.inRound l
theorem zkI(ro:Option Nat)(f:FuncId):(Fz ro).fn f:=by cases ro <;> exact trivial
theorem zkJ(ro:Option Nat):(Fz ro).depth.isSome=true→1≤0:=by cases ro <;> (intro h;cases h)
theorem zr2{ro:Option Nat}{n:Nat}{P:Program}{f:FuncId}{args:Array Value}{w:World}{R:Ending→World→Prop}(h:CallsIn Fence.wide n P f args w R):CallsIn (Fz ro) n P f args w R:=by
 cases ro <;> exact h
theorem zrc{ro:Option Nat}{n:Nat}{P:Program}{l:Nat}{f:FuncId}{t:Array Value}{zAs bd:Code}{w:World}{R:Ending→World→Prop}(h:RoundIn Fence.wide n P l f t zAs bd w R):RoundIn (Fz ro) n P l f t zAs bd w R:=by
 cases ro <;> exact h
section
variable {P:Program} {B:Nat} {w0:World} {G:Sett} {μ:Mu} {H:AH} {w:World}
theorem zhV(h:Rep P B w0 G μ H w){a:Act}{c:CAct}(ha:TR μ a.nt a.T c.tmps){x:Operand}{v:AV}(hx:a.env G x=some v):VR μ v (c.eval x):=by
 cases x with
 | tmp t=>exact ha.2 t v hx
 | const u=>exact zj8 μ hx
 | global g=>
  simp only [Act.env]at hx
  cases hc:G.ids.contains g with
  | false=>rw [hc]at hx;cases hx
  | true=>
   rw [hc]at hx;simp at hx;subst hx
   obtain⟨N,hN⟩:=h.glob g (by simpa using hc);exact⟨g,N,hN,rfl⟩
 | func f=>
  simp [Act.env]at hx;subst hx
  exact⟨#[],#[],rfl,rfl,rfl⟩
theorem TR.put{nt:Nat}{T:Tr AV}{tmps:Array Value}(h:TR μ nt T tmps){d:Nat}{v:AV}{x:Value}(hd:d<nt)(hv:VR μ v x):TR μ nt (Tr.set deep T d (some v)) (tmps.setIfInBounds d x):=by
 refine⟨by simp [h.1],?_⟩;intro t u ht;rcases Tr.get_set deep T d (some v) t u ht with⟨rfl,q⟩|⟨hne,q⟩
 ·cases q
  have:t<tmps.size:=by rw [h.1];exact hd
  simpa [this]using hv
 ·have:=h.2 t u q;simpa [Array.getD_eq_getD_getElem?,Array.getElem?_setIfInBounds,Ne.symm hne]using this
theorem zj1{β:Type}{a:Act}{dst:Option Tmp}{v:AV}{k:Act→Option β}{r:β}(h:a.put dst v k=some r){c:CAct}(ha:zc3 P μ a c){x:Value}(hv:VR μ v x) :
  ∃a',k a'=some r∧zc3 P μ a' (c.put dst x)∧a'.nt=a.nt∧a'.ds=a.ds:=by
 cases dst with
 | none=>exact⟨a,h,ha,rfl,rfl⟩
 | some d=>
  simp only [Act.put]at h
  cases hd:Nat.blt d a.nt with
  | false=>rw [hd]at h;cases h
  | true=>
   rw [hd]at h;simp only [cond_true,Tr.setK_eq]at h;exact⟨_,h,⟨ha.1.put ((zca _ _).1 hd) hv,ha.2⟩,rfl,rfl⟩
theorem zq4{β:Type}(h:Rep P B w0 G μ H w){ρ:Env}{ρc:Operand→Value}{o:Oper}(hρ:∀x∈o.op.operands,∀v,ρ x=some v→VR μ v (ρc x)){k:AV→AH→Option β}{r:β}(hk:zkA P ρ o.op H k=some r) :
  ∃v H' w' μ' x res,k v H'=some r∧(execOp ρc o).run P w = .ok res w'∧(res = .value x∨(res = .skip∧x=undef))∧Ext H μ H' μ'∧VR μ' v x∧Rep P B w0 G μ' H' w':=by
 obtain⟨dst,op,type,pos,after,guard⟩:=o;simp only at hρ hk;have upd:∀{t m x v},(op = .mapUpdate t m x v∨op = .insert t m x v)→(match ρ m,ρ x,ρ v,P.underlying t with
   | some (.map i),some key,some v,some (.map kt _)=>bif zaZ P kt key then
     match H.objs.get i with
     | some (.map kt' es)=>bif Nat.beq kt kt' then(updE key v es).force fun es=>H.withObj i (.map kt es) fun H=>k (.sc .undef) H else none
     | _=>none
    else none
   | _,_,_,_=>none)=some r→∃v' H' w' μ' y res,k v' H'=some r∧((do Instr.mapUpdate t (ρc m) (ρc x) (ρc v);pure Next.skip):Sem Next).run P w = .ok res w'∧(res = .value y∨(res = .skip∧y=undef))∧Ext H μ H' μ'∧VR μ' v' y∧Rep P B w0 G μ' H' w':=by
  intro t m x v hop hk;have hmem:∀y,y=m∨y=x∨y=v→y∈op.operands:=by
   intro y hy;rcases hop with rfl|rfl <;> simpa [Op.operands]using hy
  split at hk
  ·rename_i i key u kt et hm hx hv hu
   cases hf:zaZ P kt key with
   | false=>rw [hf]at hk;cases hk
   | true=>
    rw [hf]at hk;simp only [cond_true]at hk;split at hk
    ·rename_i kt' es ho
     cases hkk:Nat.beq kt kt' with
     | false=>rw [hkk]at hk;cases hk
     | true=>
      rw [hkk]at hk;have:=(zam _ _).1 hkk;subst this;simp only [cond_true,AV.force_eq,zbR]at hk;obtain⟨H',w',g1,g2,g3,g4⟩:=zhE (k:=fun H=>k (.sc .undef) H) h hu hf ho (hρ m (hmem m (by simp)) _ hm) (hρ x (hmem x (by simp)) _ hx) (hρ v (hmem v (by simp)) _ hv) hk;exact⟨_,H',w',μ,undef,.skip,g1,by simp [g2],.inr ⟨rfl,rfl⟩,.same μ g4,rfl,g3⟩
    ·cases hk
  ·cases hk
 cases op with
 | store t a x=>
  simp only [zkA]at hk;split at hk
  ·rename_i i off v n ha hx hs
   cases hn:Nat.beq v.cells.len n with
   | false=>rw [hn]at hk;cases hk
   | true=>
    rw [hn]at hk;simp only [cond_true]at hk;obtain⟨H',w',g1,g2,g3,g4⟩:=zmn h hs ((zam _ _).1 hn) (hρ a (by simp [Op.operands]) _ ha) (hρ x (by simp [Op.operands]) _ hx) hk;exact⟨_,H',w',μ,undef,.skip,g1,by simp [execOp,g2],.inr ⟨rfl,rfl⟩,.same μ g4,rfl,g3⟩
  ·cases hk
 | mapUpdate t m x v=>
  obtain⟨v',H',w',μ',y,res,g1,g2,g3⟩:=upd (.inl rfl) hk;exact⟨v',H',w',μ',y,res,g1,g2,g3⟩
 | insert t m x v=>
  obtain⟨v',H',w',μ',y,res,g1,g2,g3⟩:=upd (.inr rfl) hk;exact⟨v',H',w',μ',y,res,g1,g2,g3⟩
 | call c=>
  obtain⟨callee,args,argTypes⟩:=c
  cases callee with
  | builtin b=>
   cases b with
   | append=>
    simp only [zkA]at hk;split at hk
    ·rename_i s x hargs;split at hk
     ·rename_i sv xv hs hx;have ha:args=#[s,x]:=by apply Array.toList_inj.1;simpa using hargs
      subst ha;obtain⟨v,H',w',μ',y,g1,g2,g3,g4,g5⟩:=zl7 (ty:=type) h (hρ s (by simp [Op.operands,Call.operands]) _ hs) (hρ x (by simp [Op.operands,Call.operands]) _ hx) hk;exact⟨v,H',w',μ',y,.value y,g1,by simp [execOp,resolve,invoke,builtin,g2],.inl rfl,g3,g4,g5⟩
     ·cases hk
    ·cases hk
   | _=>simp [zkA]at hk
  | _=>simp [zkA]at hk
 | _=>simp [zkA]at hk
end
section
variable {P:Program} {B:Nat} {w0:World} {G:Sett} {μ:Mu} {H:AH} {w:World}
theorem zim{a b:AV}{xs ys:Array Value}(h1:LR μ a xs.toList)(h2:LR μ b ys.toList):LR μ (a.app b) (xs ++ ys).toList:=by
 rw [Array.toList_append];exact LR.app h2 h1
theorem zcu{o:Oper}{c:CAct}{ro:Option Nat}{K:CAct→World→Prop}{Q:Exit→CAct→World→Prop}{res:Next}{x:Value}{w':World}(hd:∀q,o.op ≠ .defer q)(hr:(execOp c.eval o).run P w = .ok res w')
  (hx:res = .value x∨(res = .skip∧x=undef)) (hK:K (c.put o.dst x) w'):o.wpIn (Fz ro) 0 P c w K Q:=by
 refine⟨fun f _=>zkI ro f,?_⟩;rw [Oper.semAt_eq _ _ _ hd,hr];rcases hx with rfl|⟨rfl,rfl⟩
 ·exact hK
 ·exact hK
theorem zf0{ρ:Env}{op:Op}{v:AV}(h:zaW P ρ op H=some v)(q:Call):op ≠ .defer q:=by
 rintro rfl;simp [zaW]at h
theorem zeg{ρ:Env}{op:Op}{v:Mk × (Nat→AV)}(h:zcH P ρ op=some v)(q:Call):op ≠ .defer q:=by
 rintro rfl;simp [zcH]at h
theorem zne{β:Type}{ρ:Env}{op:Op}{k:AV→AH→Option β}{r:β}(h:zkA P ρ op H k=some r)(q:Call):op ≠ .defer q:=by
 rintro rfl;simp [zkA]at h
theorem lay_mk(h:Rep P B w0 G μ H w)(m:Mk):Rep P B w0 G μ (match m with | .cells e cs=>H.withCells e cs | .map kt=>H.withNew (.map kt .nil)) w:=by
 cases m with
 | cells e cs=>exact h.layCells e cs
 | map kt=>exact h.layObj _ (by simp)
def AH.made(H:AH):Mk→AH
 | .cells e cs=>H.withCells e cs
 | .map kt=>H.withNew (.map kt .nil)
theorem zrw{m:Mk}{o:AObj}(h:(H.made m).objs.get H.next=some o):o=m.obj H.next:=by
 cases m with
 | cells e cs=>
  rcases Tr.get_set deep H.objs H.next (some (.cells H.next 0 e cs)) H.next o h with⟨_,q⟩|⟨q,_⟩
  ·exact(Option.some.inj q).symm
  ·exact absurd rfl q
 | map kt=>
  rcases Tr.get_set deep H.objs H.next (some (.map kt .nil)) H.next o h with⟨_,q⟩|⟨q,_⟩
  ·exact(Option.some.inj q).symm
  ·exact absurd rfl q
theorem zhF(m:Mk):(H.made m).next=H.next+1:=by cases m <;> rfl
theorem Rep.make(h:Rep P B w0 G μ H w){m:Mk}{obj:Obj}{N:Nat}(hfit:Fits P G.res μ (m.obj H.next) obj N):Rep P B w0 G (μ.add H.next w.heap.size N) (H.made m) (w.alloc obj):=by
 have h':Rep P B w0 G μ (H.made m) w:=by
  cases m with
  | cells e cs=>exact h.layCells e cs
  | map kt=>exact h.layObj _ (by simp)
 exact h'.bind (by rw [zhF];exact Nat.lt_succ_self _) (fun o ho=>zrw ho) (h.notYet (Nat.le_refl _)) hfit
theorem zsy{β:Type}(h:Rep P B w0 G μ H w){ρ:Env}{c:CAct}{o:Oper}(hρ:∀x∈o.op.operands,∀v,ρ x=some v→VR μ v (c.eval x)){k:AV→AH→Option β}{r:β}(hk:opOf P ρ o H k=some r){ro:Option Nat}{K:CAct→World→Prop}{Q:Exit→CAct→World→Prop}
  (hK:∀v H' μ' x w',k v H'=some r→Ext H μ H' μ'→VR μ' v x→Rep P B w0 G μ' H' w'→K (c.put o.dst x) w'):o.wpIn (Fz ro) 0 P c w K Q:=by
 unfold opOf at hk
 cases hb:zmR o.op with
 | true=>
  rw [hb]at hk;simp only [cond_true]at hk;obtain⟨v,H',w',μ',x,res,g1,g2,g3,g4,g5,g6⟩:=zq4 h hρ hk;exact zcu (zne hk) g2 g3 (hK v H' μ' x w' g1 g4 g5 g6)
 | false=>
  rw [hb]at hk;simp only [cond_false]at hk
  cases hal:zkq o.op with
  | true=>
   rw [hal]at hk;simp only [cond_true]at hk;split at hk
   ·rename_i e cs f hmk
    cases hbad:H.res.contains e with
    | true=>rw [hbad]at hk;cases hk
    | false=>
    rw [hbad]at hk;simp only [cond_false]at hk;obtain⟨obj,N,x,g1,g2,g3⟩:=zfD (R:=G.res) hρ hmk (by rw [←h.resd];exact hbad) w;rw [zfq]at hk;exact zcu (zeg hmk) g1 (.inl rfl) (hK _ _ _ x _ hk (.add (h.notYet (Nat.le_refl _)) (Nat.le_succ _)) (g3 _ _ (if_pos rfl)) (h.make (m:=.cells e cs) (g2 _)))
   ·rename_i kt f hmk;obtain⟨obj,N,x,g1,g2,g3⟩:=zfD (R:=G.res) hρ hmk rfl w;rw [zf7]at hk;exact zcu (zeg hmk) g1 (.inl rfl) (hK _ _ _ x _ hk (.add (h.notYet (Nat.le_refl _)) (Nat.le_succ _)) (g3 _ _ (if_pos rfl)) (h.make (m:=.map kt) (g2 _)))
   ·cases hk
  | false=>
   rw [hal]at hk;simp only [cond_false]at hk;split at hk
   ·rename_i v hq;obtain⟨x,g1,g2⟩:=zht h hρ hq;have hk':k v H=some r:=by
     cases hp:zp7 o.op with
     | true=>rw [hp]at hk;exact hk
     | false=>rw [hp]at hk;simpa [ok]using hk
    exact zcu (zf0 hq) g1 (.inl rfl) (hK v H μ x w hk' (.refl H μ) g2 h)
   ·cases hk
theorem znC{β:Type}{self:Cb}(hN:zbO P)(hC:zgW P B w0 G self)(hR:zeZ P B w0 G self)(h:Rep P B w0 G μ H w){ρ:Env}{c:CAct}{o:Oper}(hρ:∀x∈o.op.operands,∀v,ρ x=some v→VR μ v (c.eval x)){k:AV→AH→Option β}{r:β}
  (hk:zrm P self ρ o H k=some r) {ro:Option Nat} {K:CAct→World→Prop} {Q:Exit→CAct→World→Prop}
  (hK:∀v H' μ' x w',k v H'=some r→Ext H μ H' μ'→VR μ' v x→Rep P B w0 G μ' H' w'→K (c.put o.dst x) w'):o.wpIn (Fz ro) 0 P c w K Q:=by
 unfold zrm at hk;split at hk
 ·rename_i f args at' hop;have hd:∀q,o.op ≠ .defer q:=by intro q;rw [hop];simp
  have hsem:o.semAt (Fz ro).round c.eval=execOp c.eval o:=Oper.semAt_eq _ _ _ hd;split at hk
  ·rename_i g fs cs xs hf hxs;split at hk
   ·rename_i v H' hcall;simp only [ok,AV.force_eq]at hk;obtain⟨⟨fn,hfn,hbody⟩,hcalls⟩:=hC.2 _ _ _ _ _ hcall;obtain⟨us,vs,hev,hus,hvs⟩:=hρ f (by rw [hop];simp [Op.operands,Call.operands]) _ hf;have hargs:LR μ xs (args.map c.eval).toList:=by
     have:=zge (ρc:=c.eval) (fun x hx v hv=>hρ x (by rw [hop];simp [Op.operands,Call.operands];exact .inr (by simpa using hx)) v hv) hxs;rw [Array.toList_map];exact this
    have hall:LR μ (fs.app (xs.app cs)) ((us ++ args.map c.eval) ++ vs).toList:=by
     rw [Array.append_assoc];exact zim hus (zim hargs hvs)
    have hrun:(execOp c.eval o).run P w = .ok (.enter g ((us ++ args.map c.eval) ++ vs)) w:=by
     have hbn:fn.body≠none:=by intro q;rw [q]at hbody;simp at hbody
     unfold execOp;rw [hop];simp only [resolve,hev,Deferred.ofValue,Sem.run_bind,Sem.run_pure,Result.andThen_ok,invoke,callFunc,run_program,hfn,hN g fn hfn hbody,Bool.false_eq_true,if_false];have:fn.body.isNone=false:=by cases hq:fn.body <;> simp_all
     rw [this];rfl
    refine⟨fun f _=>zkI ro f,?_⟩;rw [hsem,hrun];exact⟨zkJ ro,zr2 ((hcalls μ w _ h hall).mono (fun e w' q=>by obtain⟨x,μ',he,g1,g2,g3⟩:=q;subst he;exact hK v H' μ' x w' hk g1 g2 g3))⟩
   ·cases hk
  ·rename_i l xs hf hxs;split at hk
   ·rename_i v H' hround;simp only [ok,AV.force_eq]at hk;obtain⟨b,N,hm,hev⟩:=hρ f (by rw [hop];simp [Op.operands,Call.operands]) _ hf;have hargs:LR μ xs (args.map c.eval).toList:=by
     have:=zge (ρc:=c.eval) (fun x hx v hv=>hρ x (by rw [hop];simp [Op.operands,Call.operands];exact .inr (by simpa using hx)) v hv) hxs;rw [Array.toList_map];exact this
    obtain⟨L,hL,hsz,hrd⟩:=hR _ _ _ _ _ hround μ w b N (args.map c.eval) h hm hargs;have hrun:(execOp c.eval o).run P w = .ok (.round b L.fn ((L.params.zip (args.map c.eval)).foldl (fun tmps (t,a)=>tmps.setIfInBounds t a) L.tmps) L.assign L.body) w:=by
     unfold execOp;rw [hop];have hget:(Instr.getLoop b).run P w = .ok L w:=by simp [Instr.getLoop,getObj,Sem.run,hL]
     simp only [resolve,hev,Deferred.ofValue,Sem.run_bind,Sem.run_pure,Result.andThen_ok,invoke,Instr.yield,hget];have:¬((#[]:Array Value) ++ args.map c.eval).size≠L.params.size:=by simpa using hsz
     rw [if_neg this];simp
    refine⟨fun f _=>zkI ro f,?_⟩;rw [hsem,hrun];exact⟨zkJ ro,zrc (hrd.mono (fun e w' q=>by obtain⟨x,μ',he,g1,g2,g3⟩:=q;subst he;exact hK v H' μ' x w' hk g1 g2 g3))⟩
   ·cases hk
  ·cases hk
 ·exact zsy h hρ hk hK
theorem ziL{a:Act}{c:CAct}(ha:TR μ a.nt a.T c.tmps){ops:Array Oper}{o:Oper}{b:Bool}(hw:zmi ops a o=some b):Region.wanted o (yielded ops c.tmps)=b:=by
 unfold zmi at hw;unfold Region.wanted;split at hw
 ·rename_i hg;simp at hw;subst hw;rw [hg]
 ·rename_i j want hg;rw [hg];simp only [yielded];split at hw
  ·rename_i hd;simp at hw;subst hw;rw [hd];simp
  ·rename_i d hd;rw [hd];simp only [Option.bind_some];split at hw
   ·rename_i q hq;simp at hw;subst hw
    have hv:c.tmps.getD d undef = .bool q:=ha.2 d _ hq;have hlt:c.tmps[d]? = some (.bool q):=by
     rw [Array.getD_eq_getD_getElem?]at hv
     cases hcd:c.tmps[d]? with
     | none=>rw [hcd]at hv;simp [undef]at hv
     | some x=>rw [hcd]at hv;simpa using hv
    rw [hlt];simp [zg9]
   ·rename_i hq;simp at hw;subst hw
    have hv:c.tmps.getD d undef = .tuple #[]:=ha.2 d _ hq;rw [Array.getD_eq_getD_getElem?]at hv
    cases hcd:c.tmps[d]? with
    | none=>simp
    | some x=>rw [hcd]at hv;simp at hv;subst hv;simp
   ·cases hw
theorem zlX{self:Cb}(hN:zbO P)(hS:zq9 P self){ρ:Env}{c:CAct}{o:Oper}(hρ:∀x∈o.op.operands,∀v,ρ x=some v→VR μ v (c.eval x))(h:defers self ρ o.op=true) :
  ∃d,(∀w,(execOp c.eval o).run P w = .ok (.defer d) w)∧zsf P d:=by
 unfold defers at h;split at h
 ·rename_i f args at' hop;split at h
  ·rename_i g fs cs hf;simp only [Bool.and_eq_true]at h;obtain⟨⟨fn,hfn,hbody⟩,hst⟩:=hS g h.2;obtain⟨us,vs,hev,hus,hvs⟩:=hρ f (by rw [hop];simp [Op.operands,Call.operands]) _ hf;refine⟨{target:=.fn (.func g) vs,args:=us ++ args.map c.eval},?_,g,vs,rfl,?_,fun w=>hst _ w⟩
   ·intro w;unfold execOp;rw [hop];simp only [resolve,hev,Deferred.ofValue,Sem.run_bind,Sem.run_pure,Result.andThen_ok]
   ·intro w;have:fn.body.isNone=false:=by cases hq:fn.body <;> simp_all
    simp only [invoke,callFunc,Sem.run_bind,run_program,Result.andThen_ok,hfn,hN g fn hfn hbody,Bool.false_eq_true,if_false,this];rfl
  ·cases h
 ·cases h
theorem zfR{self:Cb}(hN:zbO P)(hC:zgW P B w0 G self)(hR:zeZ P B w0 G self){ops:Array Oper}{top:Bool}{ro:Option Nat}(htop:top=true→ro=none){Q:Exit→CAct→World→Prop}:∀(l:List Nat) (a:Act) (H:AH) (c:CAct) (μ:Mu) (w:World) (a':Act) (H':AH),
  zho P G self top ops l a H=some (a',H')→Rep P B w0 G μ H w→zc3 P μ a c→(∀c' μ' w',Ext H μ H' μ'→zc3 P μ' a' c'→Rep P B w0 G μ' H' w'→Q .normal c' w')→wpOpsIn (Fz ro) 0 P ops Q l c w
 | [],a,H,c,μ,w,a',H',hr,h,ha,hQ=>by
  simp [zho]at hr
  obtain⟨rfl,rfl⟩:=hr;exact hQ c μ w (.refl _ μ) ha h
 | i :: r,a,H,c,μ,w,a',H',hr,h,ha,hQ=>by
  simp only [zho]at hr;simp only [wpOpsIn];split at hr
  ·cases hr
  ·rename_i o ho;rw [ho];simp only;split at hr
   ·rename_i hw;rw [ziL ha.1 hw];simp only [if_true]
    cases hdf:top && defers self (a.env G) o.op with
    | true=>
     rw [hdf]at hr;simp only [cond_true]at hr;simp only [Bool.and_eq_true]at hdf;have hro:=htop hdf.1;subst hro;obtain⟨d,hd1,hd2⟩:=zlX hN hC.1 (fun x _ v hv=>zhV h ha.1 hv) hdf.2;refine⟨fun f _=>zkI none f,?_⟩;rw [show Oper.semAt (Fz none).round c.eval o=execOp c.eval o from rfl,hd1 w,Oper.uponIn_defer];obtain⟨a1,g5,g6,_,_⟩:=zj1 hr ha (x:=undef) rfl;refine zfR hN hC hR htop r _ H _ μ w a' H' g5 h ?_ hQ;have e:({c with defers:=d :: c.defers}:CAct).put o.dst undef={c.put o.dst undef with defers:=d :: (c.put o.dst undef).defers}:=by
      cases o.dst <;> rfl
     rw [e];exact⟨g6.1,d,_,rfl,hd2,g6.2⟩
    | false=>
    rw [hdf]at hr;simp only [cond_false]at hr;refine znC hN hC hR h (fun x _ v hv=>zhV h ha.1 hv) hr ?_;intro v H1 μ1 x w1 g1 g2 g3 g4;obtain⟨a1,g5,g6,_,_⟩:=zj1 g1 (ha.mono g2.1) g3;exact zfR hN hC hR htop r a1 H1 _ μ1 w1 a' H' g5 g4 g6 (fun c' μ' w' q1 q2 q3=>hQ c' μ' w' (g2.trans q1) q2 q3)
   ·rename_i hw;rw [ziL ha.1 hw];simp only [Bool.false_eq_true,if_false];refine⟨fun f _=>zkI ro f,?_⟩;obtain⟨a1,g5,g6,_,_⟩:=zj1 hr ha (x:=undef) rfl;exact zfR hN hC hR htop r a1 H _ μ w a' H' g5 h g6 hQ
   ·cases hr
end
theorem zgs(bs:List Nat):∀(l:List Edge) (j:Nat),(zlx bs l).testBit j=true→∃e∈l,Region.binds .any e=true∧(j=e.on∨(bsAt bs e.on).testBit j=true)
 | [],j,h=>by simp [zlx]at h
 | e :: r,j,h=>by
  simp only [zlx]at h
  cases hb:Region.binds .any e with
  | false=>
   rw [hb]at h;obtain⟨e',h1,h2⟩:=zgs bs r j h;exact⟨e',by simp [h1],h2⟩
  | true=>
   rw [hb]at h;simp only [cond_true,Nat.testBit_or,Bool.or_eq_true]at h;rcases h with (h|h)|h
   ·rw [Nat.testBit_two_pow]at h;exact⟨e,by simp,hb,.inl (of_decide_eq_true h).symm⟩
   ·exact⟨e,by simp,hb,.inr h⟩
   ·obtain⟨e',h1,h2⟩:=zgs bs r j h;exact⟨e',by simp [h1],h2⟩
structure zen(ops:Array Oper)(p:Plan):Prop where
 mask:∀i o,ops[i]? = some o→∀j,(bsAt p.bs i).testBit j=true→∃e∈o.after.toList,Region.binds .any e=true∧(j=e.on∨(bsAt p.bs e.on).testBit j=true)
 lower:∀i o,ops[i]? = some o→∀e∈o.after.toList,Region.binds .any e=true→e.on<i
 guard:∀i o j want,ops[i]? = some o→o.guard=some (j,want)→(bsAt p.bs i).testBit j=true
 dsts:∀(i j:Nat) (o q:Oper) (d:Tmp),ops[i]? = some o→ops[j]? = some q→o.dst=some d→q.dst=some d→i=j
 reads:∀(i j:Nat) (o q:Oper) (d:Tmp),ops[i]? = some o→ops[j]? = some q→q.dst=some d→d∈zgI o→i=j∨(bsAt p.bs i).testBit j=true∨(bsAt p.bs j).testBit i=true
 bars:p.bars=zjx ops
 chain:zfA p.bs p.bars=true
theorem zp6{ops:Array Oper}{p:Plan}(h:zi4 ops=some p):zen ops p:=by
 unfold zi4 at h;simp only at h
 cases hc:((List.range ops.size).all (fun i=>zqm ops (zgY ops.toList []) i && zmU ops (zgY ops.toList []) i && (List.range ops.size).all fun j=>zkC ops (zgY ops.toList []) i j) && zfA (zgY ops.toList []) (zjx ops))with
 | false=>rw [hc]at h;cases h
 | true=>
  rw [hc]at h;simp only [cond_true,Option.some.injEq]at h;subst h;simp only [Bool.and_eq_true,List.all_eq_true,List.mem_range]at hc;obtain⟨hall,hchain⟩:=hc;have lt:∀{i:Nat} {o:Oper},ops[i]? = some o→i<ops.size:=fun q=>(Array.getElem?_eq_some_iff.1 q).1
  have mk:∀i o,ops[i]? = some o→bsAt (zgY ops.toList []) i=zlx (zgY ops.toList []) o.after.toList∧∀e∈o.after.toList,Region.binds .any e=true→e.on<i:=by
   intro i o ho;have:=(hall i (lt ho)).1.1;simp only [zqm,ho,Bool.and_eq_true,List.all_eq_true,Bool.or_eq_true,Bool.not_eq_true']at this;refine⟨(zam _ _).1 this.1,fun e he hb => ?_⟩;rcases this.2 e he with q|q
   ·rw [hb]at q;cases q
   ·exact(zca _ _).1 q
  refine⟨?_,fun i o ho=>(mk i o ho).2,?_,?_,?_,rfl,hchain⟩
  ·intro i o ho j hj;simp only at hj;rw [(mk i o ho).1]at hj;exact zgs _ _ _ hj
  ·intro i o j want ho hg;have:=(hall i (lt ho)).1.2;simpa [zmU,ho,hg]using this
  ·intro i j o q d ho hq hd hd';have:=(hall i (lt ho)).2 j (lt hq);simp only [zkC,ho,hq,hd',hd,Bool.or_eq_true,Bool.and_eq_true,Bool.not_eq_true']at this;rcases this with q|⟨q,_⟩
   ·exact(zam _ _).1 q
   ·rw [(zam d d).2 rfl]at q;cases q
  ·intro i j o q d ho hq hd' hmem;have:=(hall i (lt ho)).2 j (lt hq);simp only [zkC,ho,hq,hd',Bool.or_eq_true,Bool.and_eq_true,Bool.not_eq_true']at this;rcases this with q|⟨_,(q|q)|q⟩
   ·exact .inl ((zam _ _).1 q)
   ·have:(zgI o).contains d=true:=by simpa using hmem
    rw [this]at q;cases q
   ·exact .inr (.inl q)
   ·exact .inr (.inr q)
theorem zaQ{j i:Nat}{x:AV × Option Nat}{r:Vals}(h:j≠i):getV ((j,x) :: r) i=getV r i:=by
 simp only [getV];rw [(beq_false j i).2 h];rfl
theorem zbd{i:Nat}{x:AV × Option Nat}{r:Vals}:getV ((i,x) :: r) i=some x:=by
 simp only [getV];rw [(zam i i).2 rfl];rfl
theorem zjE{ops:Array Oper}{m:Nat}{t j:Nat}(h:zfH ops m t=some j):j<ops.size∧m.testBit j=true∧∃o,ops[j]? = some o∧o.dst=some t:=by
 unfold zfH at h;have h1:=List.find?_some h;have h2:=List.mem_of_find?_eq_some h;simp only [Bool.and_eq_true]at h1;refine⟨by simpa using h2,h1.1,?_⟩;have h3:=h1.2;split at h3
 ·rename_i d hd;have hdt:=(zam _ _).1 h3;subst hdt;rw [Option.bind_eq_some_iff]at hd;obtain⟨o,ho,hod⟩:=hd;exact⟨o,ho,hod⟩
 ·cases h3
theorem zjF{ops:Array Oper}{m t:Nat}(h:zfH ops m t=none){j:Nat}{o:Oper}(ho:ops[j]? = some o)(hd:o.dst=some t):m.testBit j=false:=by
 unfold zfH at h;rw [List.find?_eq_none]at h;have hj:j<ops.size:=(Array.getElem?_eq_some_iff.1 ho).1;have:=h j (by simpa using hj);rw [ho]at this;simp only [Option.bind_some,hd]at this;rw [(zam t t).2 rfl]at this;simpa using this
section
variable {P:Program} {B:Nat} {w0:World} {G:Sett} {self:Cb} {ops:Array Oper} {p:Plan} {T:Tr AV}
abbrev Did(listed:Array Bool)(i:Nat):Prop:=listed.getD i false=true
structure Inv(P:Program)(B:Nat)(w0:World)(G:Sett)(sf:Cb)(ops:Array Oper)(p:Plan)(T:Tr AV)(nt:Nat)(ds:List Mark)(H0:AH)(μ0:Mu)(valsF:Vals)(HF:AH)
  (es:List Nat) (prev:Option Nat) (stage:Nat) (vals:Vals) (H:AH) (listed:Array Bool) (c:CAct) (w:World) (μ:Mu):Prop where
 rep:Rep P B w0 G μ H w
 ext:Ext H0 μ0 H μ
 defers:DR P μ ds c.defers
 size:c.tmps.size=nt
 lsize:listed.size=ops.size
 closed:∀i j,Did listed i→(bsAt p.bs i).testBit j=true→Did listed j
 tmpsW:∀j o d,Did listed j→ops[j]? = some o→o.dst=some d→∃v id,getV vals j=some (v,id)∧VR μ v (c.tmps.getD d undef)
 tmps0:∀t,(∀j o,Did listed j→ops[j]? = some o→o.dst≠some t)→∀v,T.get t=some v→VR μ v (c.tmps.getD t undef)
 split:∃done,p.bars=done ++ es∧done.length=stage∧∀e∈done,Did listed e
 left:∀e∈es,¬Did listed e
 prevL:∀e,prev=some e→Did listed e
 ids:∀j v id,getV vals j=some (v,some id)→H0.next≤id∧id<H.next∧(¬Did listed j→μ id=none)
 inj:∀i j v v' id,getV vals i=some (v,some id)→getV vals j=some (v',some id)→i=j
 check:zdc P G ops p T vals H stage prev=true
 run:zeC P G sf ops p T es stage vals H=some (valsF,HF)
theorem zeQ{listed:Array Bool}{i j:Nat}:Did (listed.setIfInBounds i true) j→(j=i∨Did listed j):=by
 intro h;by_cases hij:j=i
 ·exact .inl hij
 ·right;unfold Did at *;simpa [Array.getD_eq_getD_getElem?,Array.getElem?_setIfInBounds,Ne.symm hij]using h
theorem zaO{listed:Array Bool}{i j:Nat}(h:Did listed j):Did (listed.setIfInBounds i true) j:=by
 unfold Did at *;rw [Array.getD_eq_getD_getElem?,Array.getElem?_setIfInBounds];split
 ·rename_i hij;subst hij;have hlt:i<listed.size:=by
   refine Decidable.byContradiction fun q => ?_
   rw [Array.getD_eq_getD_getElem?,Array.getElem?_eq_none (by omega)]at h;simp at h
  simp [hlt]
 ·rw [Array.getD_eq_getD_getElem?]at h;exact h
theorem zbK{listed:Array Bool}{i:Nat}(h:i<listed.size):Did (listed.setIfInBounds i true) i:=by
 simp [Did,h]
structure ziI(μ:Mu)(vals:Vals)(H:AH)(vals':Vals)(H':AH):Prop where
 old:∀j x,getV vals j=some x→getV vals' j=some x
 new:∀j v id,getV vals' j=some (v,some id)→getV vals j=some (v,some id)∨(H.next≤id∧id<H'.next)
 inj:(∀j v id,getV vals j=some (v,some id)→id<H.next)→(∀i j v v' id,getV vals i=some (v,some id)→getV vals j=some (v',some id)→i=j) →
  ∀i j v v' id,getV vals' i=some (v,some id)→getV vals' j=some (v',some id)→i=j
 next:H.next≤H'.next
 rep:∀w,Rep P B w0 G μ H w→Rep P B w0 G μ H' w
theorem ziI.refl(μ:Mu)(vals:Vals)(H:AH):ziI (P:=P) (B:=B) (w0:=w0) (G:=G) μ vals H vals H:=
 ⟨fun _ _ h=>h,fun _ _ _ h => .inl h,fun _ h=>h,Nat.le_refl _,fun _ h=>h⟩
theorem ziI.trans{μ:Mu}{v1 v2 v3:Vals}{H1 H2 H3:AH}(h:ziI (P:=P) (B:=B) (w0:=w0) (G:=G) μ v1 H1 v2 H2)(k:ziI (P:=P) (B:=B) (w0:=w0) (G:=G) μ v2 H2 v3 H3):ziI (P:=P) (B:=B) (w0:=w0) (G:=G) μ v1 H1 v3 H3 where
 old:=fun j x q=>k.old j x (h.old j x q)
 new:=by
  intro j v id q;rcases k.new j v id q with q|q
  ·rcases h.new j v id q with q|q
   ·exact .inl q
   ·exact .inr ⟨q.1,Nat.lt_of_lt_of_le q.2 k.next⟩
  ·exact .inr ⟨Nat.le_trans h.next q.1,q.2⟩
 inj:=by
  intro hid hinj;refine k.inj ?_ (h.inj hid hinj);intro j v id q;rcases h.new j v id q with q|q
  ·exact Nat.lt_of_lt_of_le (hid j v id q) h.next
  ·exact q.2
 next:=Nat.le_trans h.next k.next
 rep:=fun w q=>k.rep w (h.rep w q)
theorem zfE(μ:Mu){vals:Vals}{H:AH}{i:Nat}{v:AV}(hi:getV vals i=none):ziI (P:=P) (B:=B) (w0:=w0) (G:=G) μ vals H ((i,v,none) :: vals) H where
 old:=by
  intro j x q;by_cases hij:i=j
  ·subst hij;rw [hi]at q;cases q
  ·rw [zaQ hij];exact q
 new:=by
  intro j u id q;by_cases hij:i=j
  ·subst hij;rw [zbd]at q;cases q
  ·rw [zaQ hij]at q;exact .inl q
 inj:=by
  intro _ hinj a b u u' id q1 q2;by_cases h1:i=a
  ·subst h1;rw [zbd]at q1;cases q1
  ·by_cases h2:i=b
   ·subst h2;rw [zbd]at q2;cases q2
   ·rw [zaQ h1]at q1;rw [zaQ h2]at q2;exact hinj a b u u' id q1 q2
 next:=Nat.le_refl _
 rep:=fun _ h=>h
theorem zjC(μ:Mu){vals:Vals}{H:AH}{i:Nat}{v:AV}(m:Mk)(hi:getV vals i=none):ziI (P:=P) (B:=B) (w0:=w0) (G:=G) μ vals H ((i,v,some H.next) :: vals) (H.made m) where
 old:=by
  intro j x q;by_cases hij:i=j
  ·subst hij;rw [hi]at q;cases q
  ·rw [zaQ hij];exact q
 new:=by
  intro j u id q;by_cases hij:i=j
  ·subst hij;rw [zbd]at q;cases q;exact .inr ⟨Nat.le_refl _,by rw [zhF];exact Nat.lt_succ_self _⟩
  ·rw [zaQ hij]at q;exact .inl q
 inj:=by
  intro hid hinj a b u u' id q1 q2;by_cases h1:i=a <;> by_cases h2:i=b
  ·omega
  ·subst h1;rw [zbd]at q1;cases q1;rw [zaQ h2]at q2;have:=hid b _ _ q2;omega
  ·subst h2;rw [zbd]at q2;cases q2;rw [zaQ h1]at q1;have:=hid a _ _ q1;omega
  ·rw [zaQ h1]at q1;rw [zaQ h2]at q2;exact hinj a b u u' id q1 q2
 next:=by rw [zhF];exact Nat.le_succ _
 rep:=fun w h=>by
  cases m with
  | cells e cs=>exact h.layCells e cs
  | map kt=>exact h.layObj _ (by simp)
theorem zbz(μ:Mu){stage:Nat}:∀(l:List Nat) (vals:Vals) (H:AH) (vals':Vals) (H':AH),zc4 P G ops p T stage l vals H=some (vals',H')→ziI (P:=P) (B:=B) (w0:=w0) (G:=G) μ vals H vals' H'
 | [],vals,H,vals',H',h=>by simp [zc4]at h;obtain⟨rfl,rfl⟩:=h;exact .refl μ vals H
 | i :: r,vals,H,vals',H',h=>by
  simp only [zc4]at h;split at h
  ·cases h
  ·rename_i o ho
   cases hb:(zmR o.op || !Nat.beq (zfm p i) stage)with
   | true=>rw [hb]at h;exact zbz μ r _ _ _ _ h
   | false=>
    rw [hb]at h;simp only [cond_false]at h
    cases hs:(getV vals i).isSome with
    | true=>rw [hs]at h;cases h
    | false=>
     rw [hs]at h;have hn:getV vals i=none:=by cases hq:getV vals i <;> simp_all
     simp only [cond_false]at h;split at h
     ·split at h
      ·split at h
       ·rename_i e cs f hm
        cases hbad:H.res.contains e with
        | true=>rw [hbad]at h;cases h
        | false=>
        rw [hbad]at h;simp only [cond_false,AV.force_eq,zfq]at h;exact(zjC μ (.cells e cs) hn).trans (zbz μ r _ _ _ _ h)
       ·rename_i kt f hm;simp only [zf7]at h;exact(zjC μ (.map kt) hn).trans (zbz μ r _ _ _ _ h)
       ·cases h
      ·split at h
       ·rename_i v hv;simp only [AV.force_eq]at h;exact(zfE μ hn).trans (zbz μ r _ _ _ _ h)
       ·cases h
     ·exact(zfE μ hn).trans (zbz μ r _ _ _ _ h)
     ·cases h
theorem zga{stage:Nat}{prev:Option Nat}{vals vals':Vals}{H H':AH}(h:zfa P G ops p T stage prev vals H=some (vals',H'))(μ:Mu) :
  ziI (P:=P) (B:=B) (w0:=w0) (G:=G) μ vals H vals' H'∧zdc P G ops p T vals' H' stage prev=true:=by
 unfold zfa at h;split at h
 ·rename_i v1 H1 hr
  cases hc:zdc P G ops p T v1 H1 stage prev with
  | false=>rw [hc]at h;cases h
  | true=>
   rw [hc]at h;simp at h
   obtain⟨rfl,rfl⟩:=h;exact⟨zbz μ _ _ _ _ _ hr,hc⟩
 ·cases h
end
def cntF(f:Nat→Bool):Nat→Nat
 | 0=>0
 | n+1=>cntF f n+if f n=true then 0 else 1
theorem zh8{f:Nat→Bool}:∀{n:Nat},cntF f n=0→∀i,i<n→f i=true
 | n+1,h,i,hi=>by
  simp only [cntF]at h;by_cases hn:f n=true
  ·rcases Nat.lt_succ_iff_lt_or_eq.1 hi with q|rfl
   ·exact zh8 (by omega) i q
   ·exact hn
  ·rw [if_neg hn]at h;omega
theorem zkx{f g:Nat→Bool}{i:Nat}(hf:f i≠true)(hg:g i=true)(ho:∀j,j≠i→g j=f j):∀{n:Nat},i<n→cntF g n+1=cntF f n
 | n+1,hi=>by
  simp only [cntF];rcases Nat.lt_succ_iff_lt_or_eq.1 hi with q|rfl
  ·have:=zkx hf hg ho q;rw [ho n (by omega)];omega
  ·have:∀m,m≤i→cntF g m=cntF f m:=by
    intro m;induction m with
    | zero=>intro _;rfl
    | succ m ih=>intro hm;simp only [cntF];rw [ih (by omega),ho m (by omega)]
   rw [this i (Nat.le_refl _),if_pos hg,if_neg hf]
section
variable {P:Program} {B:Nat} {w0:World} {G:Sett} {self:Cb} {ops:Array Oper} {p:Plan} {T:Tr AV}
theorem ze1{listed:Array Bool}(hs:listed.size=ops.size){i:Nat}(h:i∈Region.ready .any ops listed):i<ops.size∧¬Did listed i∧∃o,ops[i]? = some o∧∀e∈o.after.toList,Region.binds .any e=true→Did listed e.on:=by
 unfold Region.ready at h;simp only [List.mem_filter,List.mem_range,Bool.and_eq_true,Bool.not_eq_true']at h;obtain⟨hi,h1,h2⟩:=h;refine⟨hi,?_,?_⟩
 ·intro q;unfold Did at q;have hlt:i<listed.size:=by omega
  rw [Array.getD_eq_getD_getElem?,Array.getElem?_eq_getElem hlt]at q h1;simp at q h1
  rw [q]at h1;cases h1
 ·have ho:ops[i]? = some ops[i]:=Array.getElem?_eq_getElem hi;refine⟨ops[i],ho,?_⟩;rw [ho]at h2;simp only [Option.map_some,Option.getD_some,Array.all_eq_true_iff_forall_mem,Bool.or_eq_true,Bool.not_eq_true']at h2;intro e he hb;rcases h2 e (by simpa using he)with q|q
  ·rw [hb]at q;cases q
  ·exact q
theorem zld(hp:zen ops p){listed:Array Bool}(hs:listed.size=ops.size)(h:Region.ready .any ops listed = []):∀i,i<ops.size→Did listed i:=by
 intro i;induction i using Nat.strongRecOn with
 | ind i ih=>
  intro hi;refine Decidable.byContradiction fun hnd => ?_
  have ho:ops[i]? = some ops[i]:=Array.getElem?_eq_getElem hi;have:i∈Region.ready .any ops listed:=by
   unfold Region.ready;simp only [List.mem_filter,List.mem_range,Bool.and_eq_true,Bool.not_eq_true'];refine⟨hi,?_,?_⟩
   ·have hlt:i<listed.size:=by omega
    unfold Did at hnd;rw [Array.getD_eq_getD_getElem?,Array.getElem?_eq_getElem hlt]at hnd ⊢;simpa using hnd
   ·rw [ho];simp only [Option.map_some,Option.getD_some,Array.all_eq_true_iff_forall_mem,Bool.or_eq_true,Bool.not_eq_true'];intro e he
    cases hb:Region.binds .any e with
    | false=>exact .inl rfl
    | true=>
     have hlow:=hp.lower i _ ho e (by simpa using he) hb;exact .inr (ih e.on hlow (by omega))
  rw [h]at this;cases this
theorem zeJ{vals:Vals}{nt:Nat}:∀(l:List Nat) (T T':Tr AV),zfu ops vals nt l T=some T' →
  (∀i∈l,∃o,ops[i]? = some o∧∀d,o.dst=some d→d<nt) ∧
  ∀t v,T'.get t=some v→(∃j∈l,∃o id,ops[j]? = some o∧o.dst=some t∧getV vals j=some (v,id))∨((∀j∈l,∀o,ops[j]? = some o→o.dst≠some t)∧T.get t=some v)
 | [],T,T',h=>by
  simp [zfu]at h;subst h
  exact⟨by simp,fun t v q => .inr ⟨by simp,q⟩⟩
 | i :: r,T,T',h=>by
  simp only [zfu]at h;split at h
  ·cases h
  ·rename_i o ho;split at h
   ·rename_i d v id hd hv
    cases hlt:Nat.blt d nt with
    | false=>rw [hlt]at h;cases h
    | true=>
     rw [hlt]at h;simp only [cond_true,Tr.setK_eq]at h;obtain⟨h1,h2⟩:=zeJ r _ _ h;refine⟨?_,?_⟩
     ·intro j hj;rcases List.mem_cons.1 hj with rfl|hj
      ·exact⟨o,ho,fun d' hd'=>by rw [hd]at hd';cases hd';exact(zca _ _).1 hlt⟩
      ·exact h1 j hj
     ·intro t u q;rcases h2 t u q with⟨j,hj,o',id',g1,g2,g3⟩|⟨g1,g2⟩
      ·exact .inl ⟨j,by simp [hj],o',id',g1,g2,g3⟩
      ·rcases Tr.get_set deep T d (some v) t u g2 with⟨rfl,q'⟩|⟨hne,q'⟩
       ·cases q';exact .inl ⟨i,by simp,o,id,ho,hd,hv⟩
       ·refine .inr ⟨?_,q'⟩;intro j hj o' ho';rcases List.mem_cons.1 hj with rfl|hj
        ·rw [ho]at ho';cases ho';rw [hd];intro e;cases e;exact hne rfl
        ·exact g1 j hj o' ho'
   ·rename_i x hd hv;obtain⟨h1,h2⟩:=zeJ r _ _ h;refine⟨?_,?_⟩
    ·intro j hj;rcases List.mem_cons.1 hj with rfl|hj
     ·exact⟨o,ho,fun d' hd'=>by rw [hd]at hd';cases hd'⟩
     ·exact h1 j hj
    ·intro t u q;rcases h2 t u q with⟨j,hj,o',id',g1,g2,g3⟩|⟨g1,g2⟩
     ·exact .inl ⟨j,by simp [hj],o',id',g1,g2,g3⟩
     ·refine .inr ⟨?_,g2⟩;intro j hj o' ho';rcases List.mem_cons.1 hj with rfl|hj
      ·rw [ho]at ho';cases ho';rw [hd];simp
      ·exact g1 j hj o' ho'
   ·cases h
theorem zg2(c:CAct)(dst:Option Tmp)(x:Value):(c.put dst x).tmps.size=c.tmps.size:=by
 cases dst <;> simp [Go.Act.put]
theorem zgo(c:CAct)(dst:Option Tmp)(x:Value):(c.put dst x).defers=c.defers:=by
 cases dst <;> simp [Go.Act.put]
theorem zdi{c:CAct}{dst:Option Tmp}{x:Value}{t:Nat}(h:dst≠some t):(c.put dst x).tmps.getD t undef=c.tmps.getD t undef:=by
 cases dst with
 | none=>rfl
 | some d=>
  have:d≠t:=by intro e;subst e;exact h rfl
  simp [Go.Act.put,Array.getD_eq_getD_getElem?,this]
theorem zg3{c:CAct}{d:Nat}{x:Value}(h:d<c.tmps.size):(c.put (some d) x).tmps.getD d undef=x:=by
 simp [Go.Act.put,Array.getD_eq_getD_getElem?,h]
section
variable {nt:Nat} {ds:List Mark} {H0:AH} {μ0:Mu} {valsF:Vals} {HF:AH} {es:List Nat} {prev:Option Nat} {stage:Nat} {vals:Vals} {H:AH} {listed:Array Bool} {c:CAct} {w:World} {μ:Mu}
theorem Inv.next(hp:zen ops p)(hI:Inv P B w0 G self ops p T nt ds H0 μ0 valsF HF es prev stage vals H listed c w μ){i:Nat}{o:Oper}(ho:ops[i]? = some o)(hnd:¬Did listed i)
  (hready:∀j,(bsAt p.bs i).testBit j=true→Did listed j) (hdst:∀d,o.dst=some d→d<nt) {es':List Nat} {prev':Option Nat} {stage':Nat} {vals':Vals} {H':AH} {μ':Mu} {w':World} {v:AV} {id:Option Nat} {x:Value}
  (hold:∀j y,getV vals j=some y→getV vals' j=some y) (hv:getV vals' i=some (v,id)) (hx:VR μ' v x) (hmono:μ.le μ')
  (rep:Rep P B w0 G μ' H' w') (ext:Ext H0 μ0 H' μ') (split:∃done,p.bars=done ++ es'∧done.length=stage'∧∀e∈done,Did (listed.setIfInBounds i true) e) (left:∀e∈es',¬Did (listed.setIfInBounds i true) e)
  (prevL:∀e,prev'=some e→Did (listed.setIfInBounds i true) e) (ids:∀j v id,getV vals' j=some (v,some id)→H0.next≤id∧id<H'.next∧(¬Did (listed.setIfInBounds i true) j→μ' id=none))
  (inj:∀i j v v' id,getV vals' i=some (v,some id)→getV vals' j=some (v',some id)→i=j) (check:zdc P G ops p T vals' H' stage' prev'=true) (run:zeC P G self ops p T es' stage' vals' H'=some (valsF,HF)) :
  Inv P B w0 G self ops p T nt ds H0 μ0 valsF HF es' prev' stage' vals' H' (listed.setIfInBounds i true) (c.put o.dst x) w' μ' where
 rep:=rep
 ext:=ext
 defers:=by rw [zgo];exact hI.defers.mono hmono
 size:=by rw [zg2];exact hI.size
 lsize:=by simp [hI.lsize]
 closed:=by
  intro a j ha hj;rcases zeQ ha with rfl|ha
  ·exact zaO (hready j hj)
  ·exact zaO (hI.closed a j ha hj)
 tmpsW:=by
  intro j q d hj hq hd;by_cases hji:j=i
  ·subst hji;rw [ho]at hq;cases hq;refine⟨v,id,hv,?_⟩;rw [hd,zg3 (by rw [hI.size];exact hdst d hd)];exact hx
  ·rcases zeQ hj with e|hj
   ·exact absurd e hji
   ·obtain⟨u,id',h1,h2⟩:=hI.tmpsW j q d hj hq hd;refine⟨u,id',hold j _ h1,?_⟩;rw [zdi (fun e=>hji (hp.dsts j i q o d hq ho hd e))];exact h2.mono hmono
 tmps0:=by
  intro t ht u hu;have hlt:i<listed.size:=by rw [hI.lsize];exact(Array.getElem?_eq_some_iff.1 ho).1
  rw [zdi (ht i o (zbK hlt) ho)];exact(hI.tmps0 t (fun j q hj hq=>ht j q (zaO hj) hq) u hu).mono hmono
 split:=split
 left:=left
 prevL:=prevL
 ids:=ids
 inj:=inj
 check:=check
 run:=run
theorem Inv.env(hp:zen ops p)(hI:Inv P B w0 G self ops p T nt ds H0 μ0 valsF HF es prev stage vals H listed c w μ){i:Nat}{o:Oper}(ho:ops[i]? = some o)(hnd:¬Did listed i)
  (hready:∀j,(bsAt p.bs i).testBit j=true→Did listed j):∀x∈o.op.operands,∀v,envD G ops (bsAt p.bs i) T vals x=some v→VR μ v (c.eval x):=by
 intro x hx v hv
 cases x with
 | tmp t=>
  simp only [envD]at hv;split at hv
  ·rename_i j hj;obtain⟨_,hb,q,hq,hqd⟩:=zjE hj;obtain⟨u,id,h1,h2⟩:=hI.tmpsW j q t (hready j hb) hq hqd;rw [h1]at hv;simp at hv;subst hv
   exact h2
  ·rename_i hnone;refine hI.tmps0 t ?_ v hv;intro j q hj hq hqd;have hmem:t∈zgI o:=by
    unfold zgI;rw [List.mem_filterMap];exact⟨.tmp t,by simpa using hx,rfl⟩
   rcases hp.reads i j o q t ho hq hqd hmem with rfl|hb|hb
   ·exact hnd hj
   ·rw [zjF hnone hq hqd]at hb;cases hb
   ·exact hnd (hI.closed j i hj hb)
 | const u=>exact zj8 μ hv
 | global g=>
  simp only [envD]at hv
  cases hc:G.ids.contains g with
  | false=>rw [hc]at hv;cases hv
  | true=>
   rw [hc]at hv;simp at hv;subst hv
   obtain⟨N,hN⟩:=hI.rep.glob g (by simpa using hc);exact⟨g,N,hN,rfl⟩
 | func f=>
  simp [envD]at hv;subst hv
  exact⟨#[],#[],rfl,rfl,rfl⟩
theorem Inv.wanted(hp:zen ops p)(hI:Inv P B w0 G self ops p T nt ds H0 μ0 valsF HF es prev stage vals H listed c w μ){i:Nat}{o:Oper}(ho:ops[i]? = some o)
  (hready:∀j,(bsAt p.bs i).testBit j=true→Did listed j) {b:Bool} (hw:zhb ops vals o=some b):Region.wanted o (yielded ops c.tmps)=b:=by
 unfold zhb at hw;unfold Region.wanted;split at hw
 ·rename_i hg;simp at hw;subst hw;rw [hg]
 ·rename_i j want hg;rw [hg];simp only [yielded];have hj:=hready j (hp.guard i o j want ho hg);split at hw
  ·rename_i hd;simp at hw;subst hw;rw [hd];simp
  ·rename_i d hd;rw [hd];simp only [Option.bind_some];rw [Option.bind_eq_some_iff]at hd;obtain⟨q,hq,hqd⟩:=hd;obtain⟨u,id,h1,h2⟩:=hI.tmpsW j q d hj hq hqd;rw [h1]at hw;split at hw
   ·rename_i bb _ heq;simp only [Option.some.injEq,Prod.mk.injEq]at heq;obtain⟨rfl,_⟩:=heq;simp at hw;subst hw
    have hv:c.tmps.getD d undef = .bool bb:=h2;have hlt:c.tmps[d]? = some (.bool bb):=by
     rw [Array.getD_eq_getD_getElem?]at hv
     cases hcd:c.tmps[d]? with
     | none=>rw [hcd]at hv;simp [undef]at hv
     | some x=>rw [hcd]at hv;simpa using hv
    rw [hlt];simp [zg9]
   ·rename_i _ heq;simp only [Option.some.injEq,Prod.mk.injEq]at heq;obtain⟨rfl,_⟩:=heq;simp at hw;subst hw
    have hv:c.tmps.getD d undef = .tuple #[]:=h2;rw [Array.getD_eq_getD_getElem?]at hv
    cases hcd:c.tmps[d]? with
    | none=>simp
    | some x=>rw [hcd]at hv;simp at hv;subst hv;simp
   ·cases hw
theorem zjP{i:Nat}{m:Mk}(h:zhj H i m=true):H.objs.get i=some (m.obj i):=by
 unfold zhj at h
 cases m with
 | cells e cs=>
  simp only at h;split at h
  ·rename_i fam ver e' cs' ho;simp only [Bool.and_eq_true]at h;obtain⟨⟨⟨h1,h2⟩,h3⟩,h4⟩:=h;rw [ho,(zam _ _).1 h1,(zam _ _).1 h2,←(zam _ _).1 h3,AV.beq_eq h4];rfl
  ·cases h
 | map kt=>
  simp only at h;split at h
  ·rename_i kt' es' ho;simp only [Bool.and_eq_true]at h;rw [ho,←(zam _ _).1 h.1,AV.beq_eq h.2];rfl
  ·cases h
end
end
end Go.Eng
