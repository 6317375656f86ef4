/-
  Each quiet operation of the abstract machine gives what the model's operation gives. Maps: look-ups and stores of the abstract machine are t
  Conditions: see each statement.
-/
import Derived.Test.YtepakfjilnpodaaGreatDoorRDAB
import Derived.MapKept
import Derived.Laws.Tables
import Derived.Laws.MakeOwn
namespace Go.Eng
open Go.RowKit
section
variable {P:Program} {B:Nat} {w0:World} {G:Sett} {μ:Mu} {H:AH} {w:World}
theorem blt_iff(m n:Nat):Nat.blt m n=true↔m<n:=⟨fun h=>Nat.le_of_ble_eq_true h,fun h=>Nat.ble_eq_true_of_le h⟩
theorem run_val{s:Sem Value}{x:Value}{w':World}(h:s.run P w = .ok x w'):(do pure (Next.value (←s)):Sem Next).run P w = .ok (.value x) w':=by
 simp [h]
theorem nat_val{v:AV}{n:Nat}{x:Value}(h:natOf v=some n)(hv:VR μ v x):∃k,x = .int k (n:Int):=by
 obtain⟨k,rfl⟩:=natOf_int h
 exact⟨k,hv⟩
theorem load_agg(h:Rep P B w0 G μ H w){t:TypeId}{i off n:Nat}{x:Value}{cs:AV}(ha:aggT P t=some true)(hs:sizeT P t=some n)(hx:VR μ (.ptr i off) x)(hc:H.cellsAt i off n=some cs) :
  ∃y,(Instr.loadAt t x).run P w = .ok y w∧VR μ (.agg cs) y:=by
 obtain⟨b,N,hm,rfl⟩:=hx
 obtain⟨xs,hl,hL,hcell⟩:=h.load hc hm
 have hr:=run_loadCells_list (P:=P) w ⟨b,off,none⟩ xs hcell
 rw [hl]at hr
 exact⟨.agg xs.toArray,by simp [Instr.loadAt,Instr.sureAddr,loadVar,run_agg ha,run_size hs,hr],_,rfl,hL⟩
theorem load_one(h:Rep P B w0 G μ H w){t:TypeId}{i off:Nat}{x:Value}{v r:AV}(ha:aggT P t=some false)(hx:VR μ (.ptr i off) x)(hc:H.cellsAt i off 1=some (.cons v r)) :
  ∃y,(Instr.loadAt t x).run P w = .ok y w∧VR μ v y:=by
 obtain⟨b,N,hm,rfl⟩:=hx
 obtain⟨xs,hl,hL,hcell⟩:=h.load hc hm
 obtain⟨y,r',rfl,h1,h2⟩:=hL
 have:=hcell 0 y rfl
 rw [add_off,Nat.add_zero]at this
 exact⟨y,by simp [Instr.loadAt,Instr.sureAddr,loadVar,run_agg ha,this],h1⟩
theorem nilEq_run{t:TypeId}{a b:AV}{x y:Value}{r:Bool}(h:nilEq P t a b=some r)(hx:VR μ a x)(hy:VR μ b y)(w:World)(d:Nat):(Op.equalIn (d+1) t x y).run P w = .ok r w:=by
 unfold nilEq at h
 split at h <;> simp at h <;> subst h <;> rename_i hu
 ·have e1:x = .pointer none:=hx
  have e2:y = .pointer none:=hy
  subst e1;subst e2;simp [Op.equalIn,run_underlying hu]
 ·obtain⟨b,N,hm,rfl⟩:=hx
  have e2:y = .pointer none:=hy
  subst e2;simp [Op.equalIn,run_underlying hu]
 ·obtain⟨b,N,hm,rfl⟩:=hy
  have e2:x = .pointer none:=hx
  subst e2;simp [Op.equalIn,run_underlying hu]
 ·have e1:x = .slice none 0 0:=hx
  have e2:y = .slice none 0 0:=hy
  subst e1;subst e2;simp [Op.equalIn,run_underlying hu]
 ·obtain⟨b,N,c,hm,rfl,_⟩:=hx
  have e2:y = .slice none 0 0:=hy
  subst e2;simp [Op.equalIn,run_underlying hu]
 ·have e1:x = .map none:=hx
  have e2:y = .map none:=hy
  subst e1;subst e2;simp [Op.equalIn,run_underlying hu]
 ·obtain⟨b,N,hm,rfl⟩:=hx
  have e2:y = .map none:=hy
  subst e2;simp [Op.equalIn,run_underlying hu]
 ·have e1:x = .nilFunc:=hx
  have e2:y = .nilFunc:=hy
  subst e1;subst e2;simp [Op.equalIn,run_underlying hu]
 ·obtain⟨xs,ys,rfl,_⟩:=hx
  have e2:y = .nilFunc:=hy
  subst e2;simp [Op.equalIn,run_underlying hu]
theorem guard_run(op:BinOp)(t:TypeId)(x y:Operand)(a b:Value)(h:(∀az bs,a = .agg az→b = .agg bs→P.eqGuardType P.depth t=false))(hn:¬(a = .nilIface∧b = .nilIface))(w:World) :
  (eqGuard op t x y a b).run P w = .ok () w:=by
 have core:(match a,b with
   | .nilIface,.nilIface=>(eqGuard op t x y .nilIface .nilIface).run P w
   | .agg az,.agg bs=>(eqGuard op t x y (.agg az) (.agg bs)).run P w
   | _,_=>Result.ok () w) = .ok () w:=by
  split
  ·exact absurd ⟨rfl,rfl⟩ hn
  ·rename_i az bs
   exact run_eqGuard_agg w op t x y az bs (h _ _ rfl rfl)
  ·rfl
 split at core
 ·exact core
 ·exact core
 ·rename_i h1 h2
  unfold eqGuard
  cases op <;> simp only [Bool.not_true,Bool.not_false,if_true,Bool.false_eq_true,if_false] <;> first|rfl|(split <;> first|rfl|exact(h1 rfl rfl).elim|exact(h2 _ _ rfl rfl).elim)
theorem binOp_nil{t:TypeId}{a b:AV}{x y:Value}{r:Bool}(h:nilEq P t a b=some r)(hx:VR μ a x)(hy:VR μ b y)(w:World) :
  (binOp .eql t x y).run P w = .ok (.bool r) w∧(binOp .neq t x y).run P w = .ok (.bool (!r)) w∧(∀az bs,x = .agg az→y = .agg bs→P.eqGuardType P.depth t=false)∧¬(x = .nilIface∧y = .nilIface):=by
 have he:(Op.equal t x y).run P w = .ok r w:=nilEq_run h hx hy w 9999
 unfold nilEq at h
 split at h <;> simp at h <;> subst h
 ·have e1:x = .pointer none:=hx
  have e2:y = .pointer none:=hy
  subst e1;subst e2;simp [binOp,he]
 ·obtain⟨b,N,hm,rfl⟩:=hx
  have e2:y = .pointer none:=hy
  subst e2;simp [binOp,he]
 ·obtain⟨b,N,hm,rfl⟩:=hy
  have e2:x = .pointer none:=hx
  subst e2;simp [binOp,he]
 ·have e1:x = .slice none 0 0:=hx
  have e2:y = .slice none 0 0:=hy
  subst e1;subst e2;simp [binOp,he]
 ·obtain⟨b,N,c,hm,rfl,_⟩:=hx
  have e2:y = .slice none 0 0:=hy
  subst e2;simp [binOp,he]
 ·have e1:x = .map none:=hx
  have e2:y = .map none:=hy
  subst e1;subst e2;simp [binOp,he]
 ·obtain⟨b,N,hm,rfl⟩:=hx
  have e2:y = .map none:=hy
  subst e2;simp [binOp,he]
 ·have e1:x = .nilFunc:=hx
  have e2:y = .nilFunc:=hy
  subst e1;subst e2;simp [binOp,he]
 ·obtain⟨xs,ys,rfl,_⟩:=hx
  have e2:y = .nilFunc:=hy
  subst e2;simp [binOp,he]
theorem bin_sound{op:BinOp}{t:TypeId}{ox oy:Operand}{a b v:AV}{x y:Value}(h:binV P op t a b=some v)(hx:VR μ a x)(hy:VR μ b y)(w:World) :
  ∃z,(do eqGuard op t ox oy x y;binOp op t x y:Sem Value).run P w = .ok z w∧VR μ v z:=by
 unfold binV at h
 split at h
 ·rename_i j p l q
  have e1:x = .int j p:=hx
  have e2:y = .int l q:=hy
  subst e1;subst e2
  obtain⟨z,h1,h2⟩:=scalar_run (w:=w) μ h
  exact⟨z,by simp [guard_run op t ox oy (.int j p) (.int l q) (by simp) (by simp) w,h1],h2⟩
 ·rename_i p q
  have e1:x = .bool p:=hx
  have e2:y = .bool q:=hy
  subst e1;subst e2
  obtain⟨z,h1,h2⟩:=scalar_run (w:=w) μ h
  exact⟨z,by simp [guard_run op t ox oy (.bool p) (.bool q) (by simp) (by simp) w,h1],h2⟩
 ·rename_i p q
  have e1:x = .string p:=hx
  have e2:y = .string q:=hy
  subst e1;subst e2
  obtain⟨z,h1,h2⟩:=scalar_run (w:=w) μ h
  exact⟨z,by simp [guard_run op t ox oy (.string p) (.string q) (by simp) (by simp) w,h1],h2⟩
 ·rename_i p q
  cases hb:(keyFits P t (.agg p) && keyFits P t (.agg q) && !P.eqGuardType P.depth t)with
  | false=>rw [hb]at h;simp at h
  | true=>
   rw [hb]at h
   simp only [Bool.and_eq_true,Bool.not_eq_true']at hb
   have heq:=equal_run hb.1.1 hb.1.2 hx hy 9998 w
   have heq':(Op.equal t x y).run P w = .ok ((AV.agg p).beq (.agg q)) w:=heq
   obtain⟨xs,rfl,_⟩:=hx
   obtain⟨ys,rfl,_⟩:=hy
   have hg:=guard_run op t ox oy (.agg xs) (.agg ys) (fun _ _ _ _=>hb.2) (by simp) w
   simp only [cond_true]at h
   cases op <;> simp at h <;> subst h
   ·exact⟨.bool (p.beq q),by simp [hg,binOp,heq',AV.beq],rfl⟩
   ·exact⟨.bool (!p.beq q),by simp [hg,binOp,heq',AV.beq],rfl⟩
 ·rename_i i j
  cases hij:Nat.beq i j with
  | false=>rw [hij]at h;simp at h
  | true=>
   rw [hij]at h
   have hij:=(beq_iff _ _).1 hij
   subst hij
   obtain⟨s,h1,rfl⟩:=hx
   obtain⟨s',h2,rfl⟩:=hy
   rw [h1]at h2
   cases h2
   simp only [cond_true]at h
   have hself:(Op.stringOp .eql s s)=pure (.bool true)∧(Op.stringOp .neq s s)=pure (.bool false):=by simp [Op.stringOp]
   split at h
   ·rename_i hu
    simp at h;subst h
    have hb:(binOp .eql t (.string s) (.string s)).run P w = .ok (.bool true) w:=by
     simp [binOp,hself.1]
    exact⟨.bool true,by simp [guard_run _ t ox oy (.string s) (.string s) (by simp) (by simp) w,hb],rfl⟩
   ·rename_i hu
    simp at h;subst h
    have hb:(binOp .neq t (.string s) (.string s)).run P w = .ok (.bool false) w:=by
     simp [binOp,hself.2]
    exact⟨.bool false,by simp [guard_run _ t ox oy (.string s) (.string s) (by simp) (by simp) w,hb],rfl⟩
   ·simp at h
 ·split at h
  ·rename_i q hr
   simp at h;subst h
   obtain⟨h1,h2,h3,h4⟩:=binOp_nil hr hx hy w
   exact⟨.bool q,by simp [guard_run _ t ox oy x y h3 h4 w,h1],rfl⟩
  ·rename_i q hr
   simp at h;subst h
   obtain⟨h1,h2,h3,h4⟩:=binOp_nil hr hx hy w
   exact⟨.bool (!q),by simp [guard_run _ t ox oy x y h3 h4 w,h2],rfl⟩
  ·simp at h
theorem bound_run{b:Option (Option AV)}{d l y:Nat}{c:BoundsCode}{ov:Option Value}(h:bound b d=some l)(ho:∀v,b=some (some v)→∃x,ov=some x∧VR μ v x)(hn:b=none→ov=none)(hy:l≤y)(hd:b=none→d=l)(w:World) :
  (b=none∧ov=none∧l=d)∨∃x,ov=some x∧(Instr.sliceBound x y c).run P w = .ok l w:=by
 unfold bound at h
 split at h
 ·exact .inl ⟨rfl,hn rfl,(hd rfl).symm⟩
 ·rename_i v
  obtain⟨x,hx,hv⟩:=ho v rfl
  obtain⟨k,rfl⟩:=nat_val h hv
  refine .inr ⟨_,hx,?_⟩
  have h0:(0:Int)≤(l:Int)∧(l:Int)≤(y:Int):=⟨by omega,by omega⟩
  simp [Instr.sliceBound,asIntOf,h0]
 ·simp at h
theorem bounds_run{blo bhi:Option (Option AV)}{lo hi:Option Value}{l h len cap:Nat}(isS:Bool)(e1:bound blo 0=some l)(e2:bound bhi len=some h)
  (o1:∀v,blo=some (some v)→∃x,lo=some x∧VR μ v x) (n1:blo=none→lo=none) (o2:∀v,bhi=some (some v)→∃x,hi=some x∧VR μ v x) (n2:bhi=none→hi=none)
  (h1:l≤h) (h2:h≤cap) (w:World):(Instr.sliceBounds isS len cap lo hi none).run P w = .ok (l,h,cap) w:=by
 have a1:bhi=none→len=h:=by intro q;rw [q]at e2;simpa [bound]using e2
 have a2:blo=none→0=l:=by intro q;rw [q]at e1;simpa [bound]using e1
 have r2:=fun c=>bound_run (P:=P) (c:=c) (y:=cap) e2 o2 n2 h2 a1 w
 have r1:=fun c=>bound_run (P:=P) (c:=c) (y:=h) e1 o1 n1 h1 a2 w
 unfold Instr.sliceBounds
 rcases r2 (if isS=true then .sliceAcap else .sliceAlen)with⟨_,rfl,rfl⟩|⟨x,rfl,hx⟩ <;> rcases r1 .sliceB with⟨_,rfl,rfl⟩|⟨y,rfl,hy⟩
 ·simp
 ·simp [hy]
 ·simp [hx]
 ·simp [hx,hy]
theorem bounds_run3{blo bhi bmx:Option (Option AV)}{lo hi mx:Option Value}{l h m len cap:Nat}(isS:Bool)(e1:bound blo 0=some l)(e2:bound bhi len=some h)(e3:bound bmx 0=some m)(hsome:bhi≠none)(hsome3:bmx≠none)
  (o1:∀v,blo=some (some v)→∃x,lo=some x∧VR μ v x) (n1:blo=none→lo=none) (o2:∀v,bhi=some (some v)→∃x,hi=some x∧VR μ v x) (n2:bhi=none→hi=none)
  (o3:∀v,bmx=some (some v)→∃x,mx=some x∧VR μ v x) (n3:bmx=none→mx=none)
  (h1:l≤h) (h2:h≤m) (h3:m≤cap) (w:World):(Instr.sliceBounds isS len cap lo hi mx).run P w = .ok (l,h,m) w:=by
 have a1:bhi=none→len=h:=fun q=>absurd q hsome
 have a2:blo=none→0=l:=by intro q;rw [q]at e1;simpa [bound]using e1
 have r3:=fun c=>bound_run (P:=P) (c:=c) (y:=cap) e3 o3 n3 h3 (fun q=>absurd q hsome3) w
 have r2:=fun c=>bound_run (P:=P) (c:=c) (y:=m) e2 o2 n2 h2 a1 w
 have r1:=fun c=>bound_run (P:=P) (c:=c) (y:=h) e1 o1 n1 h1 a2 w
 unfold Instr.sliceBounds
 rcases r3 (if isS=true then .slice3Acap else .slice3Alen)with⟨q,_⟩|⟨z,rfl,hz⟩
 ·exact absurd q hsome3
 ·rcases r2 .slice3B with⟨q,_⟩|⟨x,rfl,hx⟩
  ·exact absurd q hsome
  ·rcases r1 .slice3C with⟨_,rfl,rfl⟩|⟨y,rfl,hy⟩
   ·simp [hx,hz]
   ·simp [hx,hy,hz]
theorem slice_sound(hR:Rep P B w0 G μ H w){t:TypeId}{v u:AV}{x:Value}{blo bhi bmx:Option (Option AV)}{lo hi mx:Option Value}(h:sliceV P H t v blo bhi bmx=some u)(hx:VR μ v x)
  (o1:∀v,blo=some (some v)→∃x,lo=some x∧VR μ v x) (n1:blo=none→lo=none) (o2:∀v,bhi=some (some v)→∃x,hi=some x∧VR μ v x) (n2:bhi=none→hi=none)
  (o3:∀v,bmx=some (some v)→∃x,mx=some x∧VR μ v x) (n3:bmx=none→mx=none) :
  ∃y,(Instr.sliceAt t x lo hi mx).run P w = .ok y w∧VR μ u y:=by
 unfold sliceV at h
 split at h
 ·rename_i e i o len cm ex esz hu
  obtain⟨b,N,c,hm,rfl,hc1,hc2,hc3,hc4⟩:=hx
  split at h
  ·rename_i sz l hh hs e1 e2
   have hmx:=n3 rfl
   subst hmx
   cases hb:(Nat.beq sz esz && Nat.ble l hh && Nat.ble hh cm && Nat.blt l cm)with
   | true=>
    rw [hb]at h
    simp only [Bool.and_eq_true]at hb
    obtain⟨⟨⟨b1,b2⟩,b3⟩,b4⟩:=hb
    have b1:=(beq_iff _ _).1 b1
    have b2:=Nat.le_of_ble_eq_true b2
    have b3:=Nat.le_of_ble_eq_true b3
    have b4:=(blt_iff _ _).1 b4
    subst b1
    simp only [cond_true,Option.some.injEq]at h
    subst h
    have hbd:=bounds_run (P:=P) true e1 e2 o1 n1 o2 n2 b2 (show hh≤c by omega) w
    have hne:¬c=l:=by omega
    refine⟨.slice (some ⟨b,o+l*sz,none⟩) (hh-l) (c-l),?_,b,N,c-l,hm,rfl,by omega,?_,?_,by omega⟩
    ·simp [Instr.sliceAt,Instr.slice,run_underlying hu,hbd,run_size hs,hne,add_off]
    ·intro q;have:=hc2 q;omega
    ·have:l*sz+(c-l)*sz=c*sz:=by rw [←Nat.add_mul];congr 1;omega
     omega
   | false=>
    rw [hb]at h
    simp only [cond_false]at h
    cases hb':(Nat.beq sz esz && Nat.beq l 0 && Nat.beq hh 0 && Nat.beq cm 0 && ex)with
    | false=>rw [hb']at h;simp at h
    | true=>
     rw [hb']at h
     simp only [Bool.and_eq_true]at hb'
     obtain⟨⟨⟨⟨b1,b2⟩,b3⟩,b4⟩,b5⟩:=hb'
     have b1:=(beq_iff _ _).1 b1
     have b2:=(beq_iff _ _).1 b2
     have b3:=(beq_iff _ _).1 b3
     have b4:=(beq_iff _ _).1 b4
     subst b1 b2 b3 b4
     simp only [cond_true,Option.some.injEq]at h
     subst h
     have hc0:=hc2 b5
     subst hc0
     have hbd:=bounds_run (P:=P) true e1 e2 o1 n1 o2 n2 (Nat.le_refl 0) (Nat.le_refl 0) w
     refine⟨.slice (some ⟨b,o,none⟩) 0 0,?_,b,N,0,hm,rfl,by omega,fun _=>rfl,by omega,by omega⟩
     simp [Instr.sliceAt,Instr.slice,run_underlying hu,hbd,run_size hs]
  ·rename_i sz l hh mx' hs e1 e2
   split at h
   ·rename_i hi' m e3
    cases hb:(Nat.beq sz esz && Nat.ble l hh && Nat.ble hh m && Nat.ble m cm)with
    | false=>rw [hb]at h;simp at h
    | true=>
     rw [hb]at h
     simp only [Bool.and_eq_true]at hb
     obtain⟨⟨⟨b1,b2⟩,b3⟩,b4⟩:=hb
     have b1:=(beq_iff _ _).1 b1
     have b2:=Nat.le_of_ble_eq_true b2
     have b3:=Nat.le_of_ble_eq_true b3
     have b4:=Nat.le_of_ble_eq_true b4
     subst b1
     simp only [cond_true]at h
     have hbd:=bounds_run3 (P:=P) true e1 e2 e3 (by simp) (by simp) o1 n1 o2 n2 o3 n3 b2 b3 (show m≤c by omega) w
     cases hml:Nat.beq m l with
     | true=>
      rw [hml]at h
      simp only [cond_true,Option.some.injEq]at h
      have hml':=(beq_iff _ _).1 hml
      subst hml' h
      refine⟨.slice (some ⟨b,o,none⟩) (hh-m) (m-m),?_,b,N,m-m,hm,rfl,by omega,fun _=>rfl,by simp;omega,by omega⟩
      simp [Instr.sliceAt,Instr.slice,run_underlying hu,hbd,run_size hs]
     | false=>
      rw [hml]at h
      simp only [cond_false,Option.some.injEq]at h
      have hml':=(beq_false _ _).1 hml
      subst h
      refine⟨.slice (some ⟨b,o+l*sz,none⟩) (hh-l) (m-l),?_,b,N,m-l,hm,rfl,by omega,fun _=>rfl,?_,by omega⟩
      ·simp [Instr.sliceAt,Instr.slice,run_underlying hu,hbd,run_size hs,hml',add_off]
      ·have:l*sz+(m-l)*sz=m*sz:=by rw [←Nat.add_mul];congr 1;omega
       have:m*sz≤c*sz:=Nat.mul_le_mul_right _ (by omega)
       omega
   ·simp at h
  ·simp at h
 ·rename_i e hu
  have hx':x = .slice none 0 0:=hx
  subst hx'
  split at h
  ·rename_i sz hs e1 e2
   simp at h;subst h
   have hmx:=n3 rfl
   subst hmx
   have hbd:=bounds_run (P:=P) (len:=0) (cap:=0) true e1 e2 o1 n1 o2 n2 (Nat.le_refl 0) (Nat.le_refl 0) w
   exact⟨.slice none 0 0,by simp [Instr.sliceAt,Instr.slice,run_underlying hu,hbd,run_size hs],rfl⟩
  ·rename_i sz mx' hs e1 e2
   split at h
   ·rename_i hi' e3
    simp at h;subst h
    have hbd:=bounds_run3 (P:=P) (len:=0) (cap:=0) true e1 e2 e3 (by simp) (by simp) o1 n1 o2 n2 o3 n3 (Nat.le_refl 0) (Nat.le_refl 0) (Nat.le_refl 0) w
    exact⟨.slice none 0 0,by simp [Instr.sliceAt,Instr.slice,run_underlying hu,hbd,run_size hs],rfl⟩
   ·simp at h
  ·simp at h
 ·rename_i n e i o hu
  obtain⟨b,N,hm,rfl⟩:=hx
  split at h
  ·rename_i esz l hh hs e1 e2
   have hmx:=n3 rfl
   subst hmx
   split at h
   ·rename_i fam ver te cs hl
    cases hb:(Nat.ble l hh && Nat.ble hh n && Nat.blt l n && Nat.ble (o+n*esz) cs.len)with
    | false=>rw [hb]at h;simp at h
    | true=>
     rw [hb]at h
     simp only [Bool.and_eq_true]at hb
     obtain⟨⟨⟨b1,b2⟩,b3⟩,b4⟩:=hb
     have b1:=Nat.le_of_ble_eq_true b1
     have b2:=Nat.le_of_ble_eq_true b2
     have b3:=(blt_iff _ _).1 b3
     have b4:=Nat.le_of_ble_eq_true b4
     simp only [cond_true,Option.some.injEq]at h
     subst h
     obtain⟨ho,tip,lw,hf,hle⟩:=live_some hl
     obtain⟨_,_,_,_,_,hcN,_,_⟩:=hR.cells _ _ _ _ _ _ _ _ _ ho hf hle hm
     have hbd:=bounds_run (P:=P) false e1 e2 o1 n1 o2 n2 b1 b2 w
     have hne:¬n=l:=by omega
     refine⟨.slice (some ⟨b,o+l*esz,none⟩) (hh-l) (n-l),?_,b,N,n-l,hm,rfl,by omega,fun _=>rfl,?_,by omega⟩
     ·simp [Instr.sliceAt,Instr.sureAddr,run_underlying hu,hbd,run_size hs,hne,add_off]
     ·have:l*esz+(n-l)*esz=n*esz:=by rw [←Nat.add_mul];congr 1;omega
      omega
   ·simp at h
  ·simp at h
 ·rename_i s hu
  have hx':x = .string s:=hx
  subst hx'
  split at h
  ·rename_i l hh e1 e2
   have hmx:=n3 rfl
   subst hmx
   cases hb:(Nat.ble l hh && Nat.ble hh s.size)with
   | false=>rw [hb]at h;simp at h
   | true=>
    rw [hb]at h
    simp only [Bool.and_eq_true]at hb
    have b1:=Nat.le_of_ble_eq_true hb.1
    have b2:=Nat.le_of_ble_eq_true hb.2
    simp only [cond_true,Option.some.injEq]at h
    subst h
    have hbd:=bounds_run (P:=P) false e1 e2 o1 n1 o2 n2 b1 b2 w
    exact⟨.string (s.extract l hh),by simp [Instr.sliceAt,Instr.slice,run_underlying hu,hbd],rfl⟩
  ·simp at h
 ·simp at h
theorem zip_set(cs:List Value):∀(off:Nat) (cells:Array Value),off+cs.length≤cells.size →
  ((cs.zipIdx).foldl (fun (acc:Array Value) (p:Value × Nat)=>acc.setIfInBounds (off+p.2) p.1) cells).toList=cells.toList.take off ++ cs ++ cells.toList.drop (off+cs.length):=by
 have key:∀(cs:List Value) (s off:Nat) (cells:Array Value),off+s+cs.length≤cells.size →
   ((cs.zipIdx s).foldl (fun (acc:Array Value) (p:Value × Nat)=>acc.setIfInBounds (off+p.2) p.1) cells).toList=cells.toList.take (off+s) ++ cs ++ cells.toList.drop (off+s+cs.length):=by
  intro cs
  induction cs with
  | nil=>intro s off cells h;simp
  | cons c r ih=>
   intro s off cells h
   rw [List.zipIdx_cons,List.foldl_cons,ih (s+1) off _ (by simp at h ⊢;omega)]
   simp only [Array.toList_setIfInBounds,List.length_cons]at h ⊢
   have hl:off+s<cells.toList.length:=by simp;omega
   rw [show off+(s+1)=off+s+1 from by omega]
   generalize off+s=k at *
   rw [List.set_eq_take_append_cons_drop,if_pos hl]
   have e1:(cells.toList.take k).length=k:=by simp;omega
   have e2:(cells.toList.take k ++ c :: cells.toList.drop (k+1)).take (k+1)=cells.toList.take k ++ [c]:=by
    rw [List.take_append,e1,List.take_of_length_le (by omega),Nat.add_sub_cancel_left];rfl
   have e3:(cells.toList.take k ++ c :: cells.toList.drop (k+1)).drop (k+1+r.length)=cells.toList.drop (k+(r.length+1)):=by
    rw [List.drop_append,e1,List.drop_eq_nil_of_le (by omega),show k+1+r.length-k=r.length+1 from by omega,List.drop_succ_cons,List.drop_drop,List.nil_append]
    congr 1;omega
   rw [e2,e3];simp
 intro off cells h
 have:=key cs 0 off cells (by omega)
 simpa using this
theorem fill_sound{ρ:Env}{ρc:Operand→Value}{pl:Nat→Option (Nat × Nat)}:∀(ps:List (Nat × Operand)) (cs out:AV) (cells:Array Value),
  (∀p∈ps,∀v,ρ p.2=some v→VR μ v (ρc p.2))→LR μ cs cells.toList→fillParts pl ρ cs ps=some out →
  ∃cells',Instr.fill pl cells (ps.map fun (p:Nat × Operand)=>(p.1,ρc p.2))=some cells'∧LR μ out cells'.toList:=by
 intro ps
 induction ps with
 | nil=>intro cs out cells _ hL h;simp [fillParts]at h;subst h;exact⟨cells,rfl,hL⟩
 | cons p r ih=>
  obtain⟨i,x⟩:=p
  intro cs out cells hρ hL h
  simp only [fillParts]at h
  split at h
  ·rename_i off n v hp hx
   cases hb:Nat.beq v.cells.len n with
   | false=>rw [hb]at h;simp at h
   | true=>
    rw [hb]at h
    have hb:=(beq_iff _ _).1 hb
    simp only [cond_true]at h
    split at h
    ·rename_i cs' hput
     have hv:=(hρ (i,x) (by simp) v hx).cells
     obtain⟨h1,h2⟩:=LR.put hL hv hput
     have hlen:=hv.len
     have hsz:(ρc x).cells.size=n:=by rw [←Array.length_toList,hlen,hb]
     have hz:=zip_set (ρc x).cells.toList off cells (by simpa using h1)
     have e0:((ρc x).cells.zipIdx.foldl (fun cs (q:Value × Nat)=>cs.setIfInBounds (off+q.2) q.1) cells).toList=cells.toList.take off ++ (ρc x).cells.toList ++ cells.toList.drop (off+(ρc x).cells.toList.length):=by
      rw [←hz,←Array.foldl_toList,Array.toList_zipIdx]
     obtain⟨cells',h3,h4⟩:=ih cs' out _ (fun q hq=>hρ q (by simp [hq])) (by rw [e0];exact h2) h
     refine⟨cells',?_,h4⟩
     simp only [List.map_cons,Instr.fill,hp]
     rw [if_neg ?_]
     ·exact h3
     ·simp only [Bool.or_eq_true,decide_eq_true_eq]
      rintro (q|q)
      ·exact q hsz
      ·simp at h1;omega
    ·simp at h
  ·simp at h
end
section
variable {P:Program} {B:Nat} {w0:World} {G:Sett} {μ:Mu} {H:AH} {w:World}
theorem int_at{k:IntKind}:∀{cs:AV} {xs:List Value} {i:Nat},LR μ cs xs→allInts k cs=true→i<cs.len→∃n,xs[i]? = some (.int k n)
 | .nil,xs,i,_,_,h=>by simp [AV.len]at h
 | .cons h t,xs,i,hL,hi,hlt=>by
  obtain⟨n,rfl,h2⟩:=allInts_cons hi
  obtain⟨x,r,rfl,h3,h4⟩:=hL
  have hx:x = .int k n:=h3
  cases i with
  | zero=>exact⟨n,by simp [hx]⟩
  | succ i=>
   obtain⟨m,hm⟩:=int_at h4 h2 (by simp [AV.len]at hlt;omega:i<t.len)
   exact⟨m,by simpa using hm⟩
 | .sc _,_,_,h,_,_ | .ptr ..,_,_,h,_,_ | .slc ..,_,_,h,_,_ | .map _,_,_,h,_,_ | .yield _,_,_,h,_,_ | .fn ..,_,_,h,_,_ | .iface ..,_,_,h,_,_ | .agg _,_,_,h,_,_ | .tup _,_,_,h,_,_=>h.elim
theorem checkKey_run{kt:TypeId}{key:AV}{x:Value}(hk:keyFits P kt key=true)(hx:VR μ key x)(em:Bool)(w:World):(Instr.checkKey em 10000 kt x).run P w = .ok () w:=by
 rcases keyFits_cases hk with⟨k,n,hu,rfl⟩|⟨s,hu,rfl⟩|⟨q,hu,rfl⟩|⟨n,e,k,cs,hu,he,hs,rfl,hl,hi⟩
 ·have hx':x = .int k n:=hx
  subst hx'
  exact Go.MapKept.run_checkKey hu (by simp [Go.MapKept.IsKey]) em 9999
 ·have hx':x = .string s:=hx
  subst hx'
  exact Go.MapKept.run_checkKey hu (by simp [Go.MapKept.IsKey]) em 9999
 ·have hx':x = .bool q:=hx
  subst hx'
  exact Go.MapKept.run_checkKey hu (by simp [Go.MapKept.IsKey]) em 9999
 ·obtain⟨xs,rfl,hx1⟩:=hx
  have hstep:∀d,(Instr.checkKey em (d+2) kt (.agg xs)).run P w = .ok () w:=by
   intro d
   rw [Instr.checkKey]
   simp only [Sem.run_bind,run_underlying hu,Result.andThen_ok,Std.Legacy.Range.forIn_eq_forIn_range',Std.Legacy.Range.size,Nat.sub_zero,Nat.add_sub_cancel,Nat.div_one]
   have hr:∀i∈List.range' 0 n 1,i<cs.len:=fun i q=>by have:=(List.mem_range'_1.1 q).2;omega
   generalize List.range' 0 n 1=is at hr
   induction is with
   | nil=>simp
   | cons i r ih=>
    obtain⟨m,hm⟩:=int_at hx1 hi (hr i (by simp))
    have hm':xs[i]? = some (.int k m):=by simpa using hm
    have p1:(part e xs (i*1)).run P w = .ok (.int k m) w:=by simp [part,isAgg,run_underlying he,hm']
    have p2:(Instr.checkKey em (d+1) e (.int k m)).run P w = .ok () w:=Go.MapKept.run_checkKey he (by simp [Go.MapKept.IsKey]) em d
    simp only [List.forIn_cons,Sem.run_bind,run_size hs,p1,p2,Result.andThen_ok,Sem.run_pure]
    exact ih (fun j hj=>hr j (by simp [hj]))
  exact hstep 9998
def Found(P:Program)(μ:Mu)(kt:TypeId)(key:AV)(x:Value)(aes:AV)(es:List MapEntry)(i:Nat)(res:Option (Nat × Value)):Prop:=
 (findE key aes=none∧res=none∧∀v y n,VR μ v y→ER P μ kt (updE key v aes) (es ++ [{key:=x,val:=y,born:=n}])) ∨
 (∃v j e,findE key aes=some v∧res=some (i+j,e.val)∧es[j]? = some e∧VR μ v e.val∧e.key=x ∧
  ∀v' y,VR μ v' y→ER P μ kt (updE key v' aes) (es.modify j fun e=>{e with key:=x,val:=y}))
theorem key_det{kt:TypeId}{key:AV}{x y:Value}(hk:keyFits P kt key=true)(hx:VR μ key x)(hy:VR μ key y):x=y:=by
 rcases keyFits_cases hk with⟨k,n,hu,rfl⟩|⟨s,hu,rfl⟩|⟨q,hu,rfl⟩|⟨n,e,k,cs,hu,he,hs,rfl,hl,hi⟩
 ·exact(show x=_ from hx).trans (show y=_ from hy).symm
 ·exact(show x=_ from hx).trans (show y=_ from hy).symm
 ·exact(show x=_ from hx).trans (show y=_ from hy).symm
 ·obtain⟨xs,rfl,hx1⟩:=hx
  obtain⟨ys,rfl,hy1⟩:=hy
  have key:∀(cs:AV),allInts k cs=true→∃l,scCells cs=some l:=by
   intro cs
   induction cs with
   | nil=>intro _;exact⟨[],rfl⟩
   | cons a t _ ih=>
    intro h
    obtain⟨m,rfl,h2⟩:=allInts_cons h
    obtain⟨l,hl⟩:=ih h2
    exact⟨Sc.val (.int k m) :: l,by simp [scCells,hl]⟩
   | _=>intro h;simp [allInts]at h
  obtain⟨l,hl'⟩:=key cs hi
  have e1:=LR.det hl' hx1
  have e2:=LR.det hl' hy1
  congr 1
  exact Array.toList_inj.1 (e1.trans e2.symm)
theorem found_step{kt:TypeId}{key k' v':AV}{x:Value}{t:AV}{e:MapEntry}{r:List MapEntry}{i:Nat}{res:Option (Nat × Value)}(hk:keyFits P kt key=true)(hx:VR μ key x)(hk':keyFits P kt k'=true)(h2:VR μ k' e.key)(h3:VR μ v' e.val)
  (h4:ER P μ kt t r) (hyes:key.beq k'=true→res=some (i,e.val)) (hno:key.beq k'=false→Found P μ kt key x t r (i+1) res):Found P μ kt key x (.cons (.cons k' v') t) (e :: r) i res:=by
 cases hb:key.beq k' with
 | true=>
  have hkk:=AV.beq_eq hb
  subst hkk
  have hxe:e.key=x:=key_det hk h2 hx
  refine .inr ⟨v',0,e,by simp [findE,hb],hyes hb,rfl,h3,hxe,?_⟩
  intro v y hv
  simp only [updE,hb,cond_true,List.modify_zero_cons]
  exact⟨_,r,rfl,hk,hx,hv,h4⟩
 | false=>
  rcases hno hb with⟨g1,g2,g3⟩|⟨v,j,e',g1,g2,g3,g4,g5,g6⟩
  ·refine .inl ⟨by simp [findE,hb,g1],g2,?_⟩
   intro v y n hv
   simp only [updE,hb,cond_false,List.cons_append]
   exact⟨e,_,rfl,hk',h2,h3,g3 v y n hv⟩
  ·refine .inr ⟨v,j+1,e',by simp [findE,hb,g1],by rw [g2];congr 2;omega,by simpa using g3,g4,g5,?_⟩
   intro v'' y hv
   simp only [updE,hb,cond_false,List.modify_succ_cons]
   exact⟨e,_,rfl,hk',h2,h3,g6 v'' y hv⟩
theorem asking_run{kt:TypeId}{key:AV}{x:Value}(hk:keyFits P kt key=true)(hx:VR μ key x)(w:World):∀(aes:AV) (es:List MapEntry) (i:Nat),ER P μ kt aes es →
  ∃res,(Instr.findAsking kt x es i).run P w = .ok res w∧Found P μ kt key x aes es i res
 | .nil,es,i,h=>by
  have h':es = []:=h
  subst h'
  exact⟨none,rfl,.inl ⟨rfl,rfl,fun v y n hv=>⟨_,[],rfl,hk,hx,hv,rfl⟩⟩⟩
 | .cons (.cons k' v') t,es,i,h=>by
  obtain⟨e,r,rfl,hk',h2,h3,h4⟩:=h
  have heq:(Op.equal kt x e.key).run P w = .ok (key.beq k') w:=equal_run hk hk' hx h2 9998 w
  cases hb:key.beq k' with
  | true=>
   refine⟨some (i,e.val),by simp [Instr.findAsking,heq,hb],found_step hk hx hk' h2 h3 h4 (fun _=>rfl) (fun q=>by rw [hb]at q;cases q)⟩
  | false=>
   obtain⟨res,g1,g2⟩:=asking_run hk hx w t r (i+1) h4
   exact⟨res,by simp [Instr.findAsking,heq,hb,g1],found_step hk hx hk' h2 h3 h4 (fun q=>by rw [hb]at q;cases q) (fun _=>g2)⟩
 | .sc _,_,_,h | .ptr ..,_,_,h | .slc ..,_,_,h | .map _,_,_,h | .yield _,_,_,h | .fn ..,_,_,h | .iface ..,_,_,h | .agg _,_,_,h | .tup _,_,_,h=>h.elim
 | .cons (.sc _) _,_,_,h | .cons (.ptr ..) _,_,_,h | .cons (.slc ..) _,_,_,h | .cons (.map _) _,_,_,h | .cons (.yield _) _,_,_,h | .cons (.fn ..) _,_,_,h | .cons (.iface ..) _,_,_,h | .cons (.agg _) _,_,_,h | .cons (.tup _) _,_,_,h | .cons .nil _,_,_,h=>h.elim
theorem now_run{kt:TypeId}{d:TypeDesc}{key:AV}{x:Value}(hk:keyFits P kt key=true)(hx:VR μ key x)(hs:∀k' y,keyFits P kt k'=true→VR μ k' y→Instr.sameNow d x y=some (key.beq k')):∀(aes:AV) (es:List MapEntry) (i:Nat),ER P μ kt aes es →
  ∃res,Instr.findNow d x es i=some res∧Found P μ kt key x aes es i res
 | .nil,es,i,h=>by
  have h':es = []:=h
  subst h'
  exact⟨none,rfl,.inl ⟨rfl,rfl,fun v y n hv=>⟨_,[],rfl,hk,hx,hv,rfl⟩⟩⟩
 | .cons (.cons k' v') t,es,i,h=>by
  obtain⟨e,r,rfl,hk',h2,h3,h4⟩:=h
  have heq:=hs k' e.key hk' h2
  cases hb:key.beq k' with
  | true=>
   refine⟨some (i,e.val),by simp [Instr.findNow,heq,hb],found_step hk hx hk' h2 h3 h4 (fun _=>rfl) (fun q=>by rw [hb]at q;cases q)⟩
  | false=>
   obtain⟨res,g1,g2⟩:=now_run hk hx hs t r (i+1) h4
   exact⟨res,by simp [Instr.findNow,heq,hb,g1],found_step hk hx hk' h2 h3 h4 (fun q=>by rw [hb]at q;cases q) (fun _=>g2)⟩
 | .sc _,_,_,h | .ptr ..,_,_,h | .slc ..,_,_,h | .map _,_,_,h | .yield _,_,_,h | .fn ..,_,_,h | .iface ..,_,_,h | .agg _,_,_,h | .tup _,_,_,h=>h.elim
 | .cons (.sc _) _,_,_,h | .cons (.ptr ..) _,_,_,h | .cons (.slc ..) _,_,_,h | .cons (.map _) _,_,_,h | .cons (.yield _) _,_,_,h | .cons (.fn ..) _,_,_,h | .cons (.iface ..) _,_,_,h | .cons (.agg _) _,_,_,h | .cons (.tup _) _,_,_,h | .cons .nil _,_,_,h=>h.elim
theorem findKey_run{kt:TypeId}{key:AV}{x:Value}(hk:keyFits P kt key=true)(hx:VR μ key x)(w:World){aes:AV}{es:List MapEntry}(h:ER P μ kt aes es) :
  ∃res,(Instr.findKey kt x es).run P w = .ok res w∧Found P μ kt key x aes es 0 res:=by
 rcases keyFits_cases hk with⟨k,n,hu,rfl⟩|⟨s,hu,rfl⟩|⟨q,hu,rfl⟩|⟨n,e,k,cs,hu,he,hs,rfl,hl,hi⟩
 ·have hx':x = .int k n:=hx
  obtain⟨res,g1,g2⟩:=now_run (d:=.int k) hk hx (by
   intro k' y hk' hy
   rcases keyFits_cases hk' with⟨j,m,hu',rfl⟩|⟨s,hu',rfl⟩|⟨q,hu',rfl⟩|⟨n,e,k,cs,hu',_⟩ <;> rw [hu]at hu' <;> simp at hu'
   have hy':y = .int j m:=hy
   subst hu';subst hx';subst hy'
   simp [Instr.sameNow,AV.beq,Sc.beq,beqK_self,beqI_iff]) aes es 0 h
  exact⟨res,Go.MapKept.run_findKey hu g1,g2⟩
 ·have hx':x = .string s:=hx
  obtain⟨res,g1,g2⟩:=now_run (d:=.string) hk hx (by
   intro k' y hk' hy
   rcases keyFits_cases hk' with⟨j,m,hu',rfl⟩|⟨s',hu',rfl⟩|⟨q,hu',rfl⟩|⟨n,e,k,cs,hu',_⟩ <;> rw [hu]at hu' <;> simp at hu'
   have hy':y = .string s':=hy
   subst hx';subst hy'
   simp [Instr.sameNow,AV.beq,Sc.beq,beqStr_iff]) aes es 0 h
  exact⟨res,Go.MapKept.run_findKey hu g1,g2⟩
 ·have hx':x = .bool q:=hx
  obtain⟨res,g1,g2⟩:=now_run (d:=.bool) hk hx (by
   intro k' y hk' hy
   rcases keyFits_cases hk' with⟨j,m,hu',rfl⟩|⟨s,hu',rfl⟩|⟨q',hu',rfl⟩|⟨n,e,k,cs,hu',_⟩ <;> rw [hu]at hu' <;> simp at hu'
   have hy':y = .bool q':=hy
   subst hx';subst hy'
   simp [Instr.sameNow,AV.beq,Sc.beq,beqB_iff]) aes es 0 h
  exact⟨res,Go.MapKept.run_findKey hu g1,g2⟩
 ·obtain⟨res,g1,g2⟩:=asking_run hk hx w aes es 0 h
  refine⟨res,?_,g2⟩
  simp only [Instr.findKey,Sem.run_bind,run_underlying hu,Result.andThen_ok]
  cases es with
  | nil=>simp only [Instr.findNow,Sem.run_pure];exact g1
  | cons e' r=>
   obtain⟨xs,rfl,_⟩:=hx
   simp only [Instr.findNow,Instr.sameNow];exact g1
theorem sameBits_self{kt:TypeId}{key:AV}{x:Value}(hk:keyFits P kt key=true)(hx:VR μ key x):Instr.sameBits 10000 x x=true:=by
 rcases keyFits_cases hk with⟨k,n,hu,rfl⟩|⟨s,hu,rfl⟩|⟨q,hu,rfl⟩|⟨n,e,k,cs,hu,he,hs,rfl,hl,hi⟩
 ·have hx':x = .int k n:=hx
  subst hx';simp [Instr.sameBits]
 ·have hx':x = .string s:=hx
  subst hx'
  have:(s == s)=true:=by rw [←beqStr_iff];exact beqBytes_self _
  simp [Instr.sameBits,this]
 ·have hx':x = .bool q:=hx
  subst hx';simp [Instr.sameBits]
 ·obtain⟨xs,rfl,hx1⟩:=hx
  replace hx1:LR μ cs xs.toList:=hx1
  have:∀d,Instr.sameBits (d+1) (.agg xs) (.agg xs)=true:=by
   intro d
   simp only [Instr.sameBits,beq_self_eq_true,Bool.true_and,List.all_eq_true]
   rintro⟨a,b⟩ hab
   obtain⟨i,hi1,hi2⟩:=List.getElem_of_mem hab
   rw [List.getElem_zip]at hi2
   simp only [Prod.mk.injEq]at hi2
   have hlt:i<cs.len:=by rw [←hx1.len];simp at hi1;simpa using hi1
   obtain⟨m,hm⟩:=int_at hx1 hi hlt
   have e1:a = .int k m:=by
    rw [←hi2.1]
    have:=(List.getElem?_eq_some_iff.1 hm).2
    exact this
   have e2:b = .int k m:=by rw [←hi2.2,hi2.1,e1]
   subst e1;rw [e2]
   cases d <;> simp [Instr.sameBits]
  exact this 9999
end
section
variable {P:Program} {B:Nat} {w0:World} {G:Sett} {μ:Mu} {H:AH} {w:World}
theorem allOf_LR{ρ:Env}{ρc:Operand→Value}:∀{l:List Operand} {v:AV},(∀x∈l,∀v,ρ x=some v→VR μ v (ρc x))→allOf ρ l=some v→LR μ v (l.map ρc)
 | [],v,_,h=>by simp [allOf]at h;subst h;rfl
 | x :: r,v,hρ,h=>by
  simp only [allOf]at h
  split at h
  ·rename_i u t hu ht
   simp at h;subst h
   exact LR.cons (hρ x (by simp) u hu) (allOf_LR (fun y hy=>hρ y (by simp [hy])) ht)
  ·simp at h
theorem lookup_sound(h:Rep P B w0 G μ H w){t kt et:TypeId}{m key z v:AV}{x y:Value}{okk:Bool}{es:AV}(hu:P.underlying t=some (.map kt et))(hk:keyFits P kt key=true)(he:entriesOf H kt m=some es)(hz:zeroOf P et=some z)
  (hx:VR μ m x) (hy:VR μ key y)
  (hv:(match findE key es with
   | some v=>bif okk then some (.tup (.cons v (.cons (.sc (.bool true)) .nil)))else some v
   | none=>bif okk then some (.tup (.cons z (.cons (.sc (.bool false)) .nil)))else some z)=some v):∃u,(Instr.lookup t x y okk).run P w = .ok u w∧VR μ v u:=by
 obtain⟨zi,zx,hz1,hz2,hz3,hz4⟩:=zero_of μ hz
 have hent:(x = .map none∧es = .nil)∨∃(b:Nat) (en:Array MapEntry) (cl:Nat),x = .map (some b)∧w.heap[b]? = some (.map en cl)∧ER P μ kt es en.toList:=by
  unfold entriesOf at he
  split at he
  ·simp at he;subst he
   exact .inl ⟨hx,rfl⟩
  ·rename_i i
   obtain⟨b,N,hm,rfl⟩:=hx
   split at he
   ·rename_i kt' es' ho
    cases hb:Nat.beq kt kt' with
    | false=>rw [hb]at he;simp at he
    | true=>
     rw [hb]at he
     simp at he;subst he
     have:=(beq_iff _ _).1 hb
     subst this
     obtain⟨_,en,cl,h2,h3⟩:=h.map _ _ _ _ _ ho hm
     exact .inr ⟨b,en,cl,rfl,h2,h3⟩
   ·simp at he
  ·simp at he
 rcases hent with⟨rfl,rfl⟩|⟨b,en,cl,rfl,h2,h3⟩
 ·obtain⟨res,hf,hfound⟩:=findKey_run hk hy w (aes:=.nil) (es:=[]) rfl
  have hck:=checkKey_run hk hy true w
  rcases hfound with⟨g1,rfl,_⟩|⟨u,j,e,g1,rfl,g3,g4,_⟩
  ·rw [g1]at hv
   cases okk with
   | true=>simp at hv;subst hv;exact⟨.tuple #[zx,.bool false],by simp [Instr.lookup,run_underlying hu,hck,hf,hz4],_,rfl,LR.cons hz3 (LR.cons rfl rfl)⟩
   | false=>simp at hv;subst hv;exact⟨zx,by simp [Instr.lookup,run_underlying hu,hck,hf,hz4],hz3⟩
  ·rw [g1]at hv
   cases okk with
   | true=>simp at hv;subst hv;exact⟨.tuple #[e.val,.bool true],by simp [Instr.lookup,run_underlying hu,hck,hf],_,rfl,LR.cons g4 (LR.cons rfl rfl)⟩
   | false=>simp at hv;subst hv;exact⟨e.val,by simp [Instr.lookup,run_underlying hu,hck,hf],g4⟩
 ·have hg:(getObj b).run P w = .ok (.map en cl) w:=by simp [getObj,Sem.run,h2]
  obtain⟨res,hf,hfound⟩:=findKey_run hk hy w h3
  have hck:=checkKey_run hk hy en.isEmpty w
  rcases hfound with⟨g1,rfl,_⟩|⟨u,j,e,g1,rfl,g3,g4,_⟩
  ·rw [g1]at hv
   cases okk with
   | true=>simp at hv;subst hv;exact⟨.tuple #[zx,.bool false],by simp [Instr.lookup,run_underlying hu,hg,hck,hf,hz4],_,rfl,LR.cons hz3 (LR.cons rfl rfl)⟩
   | false=>simp at hv;subst hv;exact⟨zx,by simp [Instr.lookup,run_underlying hu,hg,hck,hf,hz4],hz3⟩
  ·rw [g1]at hv
   cases okk with
   | true=>simp at hv;subst hv;exact⟨.tuple #[e.val,.bool true],by simp [Instr.lookup,run_underlying hu,hg,hck,hf],_,rfl,LR.cons g4 (LR.cons rfl rfl)⟩
   | false=>simp at hv;subst hv;exact⟨e.val,by simp [Instr.lookup,run_underlying hu,hg,hck,hf],g4⟩
theorem len_sound(h:Rep P B w0 G μ H w){t ty:TypeId}{v u:AV}{x:Value}(hl:lenV P H t v=some u)(hx:VR μ v x):∃y,(Builtin.len_ #[t] ty #[x]).run P w = .ok y w∧VR μ u y:=by
 unfold lenV at hl
 split at hl
 ·rename_i e i o len cm ex esz hu
  obtain⟨b,N,c,hm,rfl,_⟩:=hx
  simp at hl;subst hl
  exact⟨goInt len,by simp [Builtin.len_,run_underlying hu],rfl⟩
 ·rename_i e hu
  have hx':x = .slice none 0 0:=hx
  subst hx'
  simp at hl;subst hl
  exact⟨goInt 0,by simp [Builtin.len_,run_underlying hu],rfl⟩
 ·rename_i s hu
  have hx':x = .string s:=hx
  subst hx'
  simp at hl;subst hl
  exact⟨goInt s.size,by simp [Builtin.len_,run_underlying hu],rfl⟩
 ·rename_i n e hu
  simp at hl;subst hl
  exact⟨goInt n,by simp [Builtin.len_,run_underlying hu],rfl⟩
 ·rename_i a e hu
  have hx':x = .map none:=hx
  subst hx'
  simp at hl;subst hl
  exact⟨goInt 0,by simp [Builtin.len_,run_underlying hu],rfl⟩
 ·rename_i a e i hu
  obtain⟨b,N,hm,rfl⟩:=hx
  split at hl
  ·rename_i kt es ho
   simp at hl;subst hl
   obtain⟨_,en,cl,h2,h3⟩:=h.map _ _ _ _ _ ho hm
   have hlen:∀{aes:AV} {l:List MapEntry},ER P μ kt aes l→l.length=aes.len:=by
    intro aes
    induction aes with
    | nil=>intro l q;have q':l = []:=q;subst q';rfl
    | cons p t _ ih=>
     intro l q
     cases p with
     | cons k v=>obtain⟨e,r,rfl,_,_,_,q'⟩:=q;simp [AV.len,ih q']
     | _=>exact q.elim
    | _=>intro l q;exact q.elim
   have:=hlen h3
   exact⟨goInt en.size,by simp [Builtin.len_,run_underlying hu,getObj,Sem.run,h2],by show goInt en.size=_;simp [goInt,Sc.val,←this]⟩
  ·simp at hl
 ·simp at hl
theorem quiet_sound(h:Rep P B w0 G μ H w){ρ:Env}{ρc:Operand→Value}{o:Oper}(hρ:∀x∈o.op.operands,∀v,ρ x=some v→VR μ v (ρc x)){v:AV}(hq:quietOf P ρ o.op H=some v) :
  ∃x,(execOp ρc o).run P w = .ok (.value x) w∧VR μ v x:=by
 obtain⟨dst,op,type,pos,after,guard⟩:=o
 simp only at hρ hq
 have val:∀{s:Sem Value} {y:Value},s.run P w = .ok y w→(do pure (Next.value (←s)):Sem Next).run P w = .ok (.value y) w:=run_val
 cases op with
 | move x=>
  exact⟨ρc x,rfl,hρ x (by simp [Op.operands]) v hq⟩
 | assign x=>exact⟨ρc x,rfl,hρ x (by simp [Op.operands]) v hq⟩
 | pick c a b=>
  simp only [quietOf]at hq
  split at hq
  ·rename_i hc
   have h1:ρc c = .bool true:=hρ c (by simp [Op.operands]) _ hc
   exact⟨ρc a,by simp [execOp,h1,asBool],hρ a (by simp [Op.operands]) v hq⟩
  ·rename_i hc
   have h1:ρc c = .bool false:=hρ c (by simp [Op.operands]) _ hc
   exact⟨ρc b,by simp [execOp,h1,asBool],hρ b (by simp [Op.operands]) v hq⟩
  ·simp at hq
 | load t a=>
  simp only [quietOf]at hq
  split at hq
  ·rename_i i off n ha hg hs
   simp only [Option.map_eq_some_iff]at hq
   obtain⟨cs,hc,rfl⟩:=hq
   obtain⟨y,h1,h2⟩:=load_agg h hg hs (hρ a (by simp [Op.operands]) _ ha) hc
   exact⟨y,val h1,h2⟩
  ·rename_i i off n ha hg hs
   split at hq
   ·rename_i u r hc
    simp at hq;subst hq
    obtain⟨y,h1,h2⟩:=load_one h hg (hρ a (by simp [Op.operands]) _ ha) hc
    exact⟨y,val h1,h2⟩
   ·simp at hq
  ·simp at hq
 | nilCheck x=>
  simp only [quietOf]at hq
  split at hq
  ·rename_i i off hx
   simp at hq;subst hq
   have h1:=hρ x (by simp [Op.operands]) _ hx
   obtain⟨b,N,hm,hc⟩:=h1
   exact⟨ρc x,by simp [execOp,hc],b,N,hm,hc⟩
  ·rename_i f a b hx
   simp at hq;subst hq
   have h1:=hρ x (by simp [Op.operands]) _ hx
   obtain⟨xs,ys,hc,hm⟩:=h1
   exact⟨ρc x,by simp [execOp,hc],xs,ys,hc,hm⟩
  ·simp at hq
 | binOp op t x y yt=>
  simp only [quietOf]at hq
  split at hq
  ·rename_i a b ha hb
   obtain⟨z,h1,h2⟩:=bin_sound (ox:=x) (oy:=y) hq (hρ x (by simp [Op.operands]) _ ha) (hρ y (by simp [Op.operands]) _ hb) w
   exact⟨z,val h1,h2⟩
  ·simp at hq
 | unOp op t x=>
  simp only [quietOf]at hq
  split at hq
  ·rename_i s hx
   have h1:ρc x=s.val:=hρ x (by simp [Op.operands]) _ hx
   obtain⟨z,h2,h3⟩:=scalar_run (w:=w) μ hq
   exact⟨z,val (by rw [h1];exact h2),h3⟩
  ·simp at hq
 | convert s d x=>
  simp only [quietOf]at hq
  split at hq
  ·rename_i j n hx
   have h1:ρc x = .int j n:=hρ x (by simp [Op.operands]) _ hx
   obtain⟨z,h2,h3⟩:=scalar_run (w:=w) μ hq
   exact⟨z,val (by rw [h1];exact h2),h3⟩
  ·simp at hq
 | makeInterface t x=>
  simp only [quietOf]at hq
  split at hq
  ·simp at hq
  ·rename_i u d hni hx hu
   simp at hq;subst hq
   refine⟨.iface t (ρc x),val ?_,_,rfl,hρ x (by simp [Op.operands]) _ hx⟩
   simp only [Instr.makeInterface,Sem.run_bind,run_underlying hu,Result.andThen_ok]
   cases d <;> first|rfl|exact(hni _ rfl).elim
  ·simp at hq
 | makeFunc fn fs cs=>
  cases fn with
  | func f=>
   simp only [quietOf]at hq
   split at hq
   ·rename_i a b ha hb
    simp at hq;subst hq
    refine⟨.func (.func f) (fs.map ρc) (cs.map ρc),by simp [execOp,Instr.makeFunc],_,_,rfl,?_,?_⟩
    ·have:=allOf_LR (fun x hx=>hρ x (by simp [Op.operands];exact .inl (by simpa using hx))) ha
     simpa [LR]using this
    ·have:=allOf_LR (fun x hx=>hρ x (by simp [Op.operands];exact .inr (by simpa using hx))) hb
     simpa [LR]using this
   ·simp at hq
  | _=>simp [quietOf]at hq
 | build t parts=>
  have hp:∀p∈parts.toList,∀v,ρ p.2=some v→VR μ v (ρc p.2):=by
   intro p hp
   exact hρ p.2 (by simp only [Op.operands,List.mem_toArray,List.mem_map];exact⟨p,hp,rfl⟩)
  have hmap:(parts.map fun (i,x)=>(i,ρc x)).toList=parts.toList.map fun (p:Nat × Operand)=>(p.1,ρc p.2):=by simp
  simp only [quietOf]at hq
  split at hq
  ·rename_i z fields hz hu
   split at hq
   ·rename_i places hpl
    simp only [Option.map_eq_some_iff]at hq
    obtain⟨out,hfill,rfl⟩:=hq
    obtain⟨zi,zx,hz1,hz2,hz3,hz4⟩:=zero_of μ hz
    obtain⟨zs,rfl,hzs⟩:=hz3
    obtain⟨cells',h1,h2⟩:=fill_sound parts.toList z out zs hp hzs hfill
    refine⟨.agg cells',val (run_build w t _ cells' ?_),_,rfl,h2⟩
    simp only [Program.built,hz1,hu,hz2,hpl,Value.cells,hmap]
    exact h1
   ·simp at hq
  ·rename_i z n e hz hu
   split at hq
   ·rename_i sz hs
    simp only [Option.map_eq_some_iff]at hq
    obtain⟨out,hfill,rfl⟩:=hq
    obtain⟨zi,zx,hz1,hz2,hz3,hz4⟩:=zero_of μ hz
    obtain⟨zs,rfl,hzs⟩:=hz3
    obtain⟨cells',h1,h2⟩:=fill_sound parts.toList z out zs hp hzs hfill
    refine⟨.agg cells',val ?_,_,rfl,h2⟩
    simp only [Instr.build,Sem.run_bind,hz4,run_underlying hu,Result.andThen_ok,run_size hs,Value.cells,hmap,h1,Sem.run_pure]
   ·simp at hq
  ·simp at hq
 | slice t x lo hi mx=>
  simp only [quietOf]at hq
  split at hq
  ·rename_i u hx
   have mem:∀{oo:Option Operand} (hsub:∀y,oo=some y→y∈(Op.slice t x lo hi mx).operands),(∀v,oo.map ρ=some (some v)→∃z,oo.map ρc=some z∧VR μ v z)∧(oo.map ρ=none→oo.map ρc=none):=by
    intro oo hsub
    cases oo with
    | none=>exact⟨by simp,by simp⟩
    | some y=>exact⟨fun v hv=>⟨ρc y,rfl,hρ y (hsub y rfl) v (by simpa using hv)⟩,by simp⟩
   have m1:=mem (oo:=lo) (by intro y hy;simp [Op.operands,hy])
   have m2:=mem (oo:=hi) (by intro y hy;simp [Op.operands,hy])
   have m3:=mem (oo:=mx) (by intro y hy;simp [Op.operands,hy])
   obtain⟨y,h1,h2⟩:=slice_sound h hq (hρ x (by simp [Op.operands]) _ hx) m1.1 m1.2 m2.1 m2.2 m3.1 m3.2
   exact⟨y,val h1,h2⟩
  ·simp at hq
 | fieldAddr s x f=>
  simp only [quietOf]at hq
  split at hq
  ·rename_i i off fields hx hu
   split at hq
   ·rename_i fd hf
    split at hq
    ·rename_i n hs
     cases hb:Nat.beq n 0 with
     | true=>rw [hb]at hq;simp at hq
     | false=>
      rw [hb]at hq
      have hb:=(beq_false _ _).1 hb
      simp at hq;subst hq
      obtain⟨b,N,hm,hc⟩:=hρ x (by simp [Op.operands]) _ hx
      exact⟨.pointer (some ⟨b,off+fd.offset,none⟩),val (by simp [hc,Instr.fieldAt,run_underlying hu,hf,Instr.sureAddr,fieldPlace,run_size hs,hb,add_off]),b,N,hm,rfl⟩
    ·simp at hq
   ·simp at hq
  ·simp at hq
 | field s x f=>
  simp only [quietOf]at hq
  split at hq
  ·rename_i cs fields hx hu
   split at hq
   ·rename_i fd hf
    obtain⟨xs,hc,hL⟩:=hρ x (by simp [Op.operands]) _ hx
    obtain⟨y,h1,h2⟩:=part_run hq hL w
    exact⟨y,val (by simp [hc,Instr.field,run_underlying hu,hf,asAgg,h1]),h2⟩
   ·simp at hq
  ·simp at hq
 | indexAddr t x ix=>
  simp only [quietOf]at hq
  split at hq
  ·rename_i i off ixv n e hx hix hu
   split at hq
   ·rename_i j sz hj hs
    cases hb:Nat.blt j n with
    | false=>rw [hb]at hq;simp at hq
    | true=>
     rw [hb]at hq
     have hb:=(blt_iff _ _).1 hb
     simp at hq;subst hq
     obtain⟨b,N,hm,hc⟩:=hρ x (by simp [Op.operands]) _ hx
     obtain⟨k,hk⟩:=nat_val hj (hρ ix (by simp [Op.operands]) _ hix)
     exact⟨.pointer (some ⟨b,off+j*sz,none⟩),val (by simp [hc,hk,Instr.indexAt,asIntOf,run_underlying hu,Instr.sureAddr,hb,run_size hs,add_off]),b,N,hm,rfl⟩
   ·simp at hq
  ·rename_i i off len cm ex esz ixv e hx hix hu
   split at hq
   ·rename_i j sz hj hs
    cases hb:(Nat.blt j len && Nat.beq sz esz)with
    | false=>rw [hb]at hq;simp at hq
    | true=>
     rw [hb]at hq
     simp only [Bool.and_eq_true]at hb
     have hb1:=(blt_iff _ _).1 hb.1
     simp at hq;subst hq
     obtain⟨b,N,c,hm,hc,_⟩:=hρ x (by simp [Op.operands]) _ hx
     obtain⟨k,hk⟩:=nat_val hj (hρ ix (by simp [Op.operands]) _ hix)
     exact⟨.pointer (some ⟨b,off+j*sz,none⟩),val (by simp [hc,hk,Instr.indexAt,asIntOf,run_underlying hu,hb1,run_size hs,add_off]),b,N,hm,rfl⟩
   ·simp at hq
  ·simp at hq
 | index t x ix=>
  simp only [quietOf]at hq
  split at hq
  ·rename_i cs ixv n e hx hix hu
   split at hq
   ·rename_i j sz hj hs
    cases hb:Nat.blt j n with
    | false=>rw [hb]at hq;simp at hq
    | true=>
     rw [hb]at hq
     have hb:=(blt_iff _ _).1 hb
     simp only [cond_true]at hq
     obtain⟨xs,hc,hL⟩:=hρ x (by simp [Op.operands]) _ hx
     obtain⟨k,hk⟩:=nat_val hj (hρ ix (by simp [Op.operands]) _ hix)
     obtain⟨y,h1,h2⟩:=part_run hq hL w
     exact⟨y,val (by simp [hc,hk,Instr.index,asIntOf,run_underlying hu,hb,run_size hs,h1]),h2⟩
   ·simp at hq
  ·rename_i s ixv hx hix hu
   split at hq
   ·rename_i j hj
    split at hq
    ·rename_i b hb
     simp at hq;subst hq
     have hc:ρc x = .string s:=hρ x (by simp [Op.operands]) _ hx
     obtain⟨k,hk⟩:=nat_val hj (hρ ix (by simp [Op.operands]) _ hix)
     have hb':s[j]? = some b:=by
      have h1:s.data[j]? = some b:=by simpa using hb
      obtain⟨hlt,h2⟩:=Array.getElem?_eq_some_iff.1 h1
      exact getElem?_eq_some_iff.2 ⟨hlt,h2⟩
     exact⟨.int .u8 (b.toNat:Int),val (by simp [hc,hk,Instr.index,asIntOf,run_underlying hu,hb']),rfl⟩
    ·simp at hq
   ·simp at hq
  ·simp at hq
 | lookup t m x okk=>
  simp only [quietOf]at hq
  split at hq
  ·rename_i mv key kt et hm hx hu
   cases hb:keyFits P kt key with
   | false=>rw [hb]at hq;simp at hq
   | true=>
    rw [hb]at hq
    simp only [cond_true]at hq
    split at hq
    ·rename_i es z he hz
     obtain⟨y,h1,h2⟩:=lookup_sound h hu hb he hz (hρ m (by simp [Op.operands]) _ hm) (hρ x (by simp [Op.operands]) _ hx) hq
     exact⟨y,val h1,h2⟩
    ·simp at hq
  ·simp at hq
 | extract x ix=>
  simp only [quietOf]at hq
  split at hq
  ·rename_i cs hx
   obtain⟨xs,hc,hL⟩:=hρ x (by simp [Op.operands]) _ hx
   obtain⟨y,h1,h2⟩:=LR.nth (show LR μ cs xs.toList from hL) hq
   have h1':xs[ix]? = some y:=by simpa using h1
   exact⟨y,val (by simp [hc,Instr.extract,h1']),h2⟩
  ·simp at hq
 | call c=>
  obtain⟨callee,args,argTypes⟩:=c
  cases callee with
  | builtin b=>
   simp only [quietOf]at hq
   split at hq
   ·rename_i x hargs
    split at hq
    ·rename_i t u htypes hx
     have ha:args=#[x]:=by apply Array.toList_inj.1;simpa using hargs
     have ht:argTypes=#[t]:=by apply Array.toList_inj.1;simpa using htypes
     subst ha ht
     obtain⟨y,h1,h2⟩:=len_sound h (ty:=type) hq (hρ x (by simp [Op.operands,Call.operands]) _ hx)
     exact⟨y,by simp [execOp,resolve,invoke,builtin,h1],h2⟩
    ·simp at hq
   ·rename_i x y hargs
    split at hq
    ·rename_i j a l b hx hy
     have ha:args=#[x,y]:=by apply Array.toList_inj.1;simpa using hargs
     subst ha
     have e1:ρc x = .int j a:=hρ x (by simp [Op.operands,Call.operands]) _ hx
     have e2:ρc y = .int l b:=hρ y (by simp [Op.operands,Call.operands]) _ hy
     obtain⟨z,h2,h3⟩:=scalar_run (w:=w) μ hq
     exact⟨z,by simp [execOp,resolve,invoke,builtin,Builtin.min_,e1,e2,h2],h3⟩
    ·simp at hq
   ·rename_i x y hargs
    split at hq
    ·rename_i j a l b hx hy
     have ha:args=#[x,y]:=by apply Array.toList_inj.1;simpa using hargs
     subst ha
     have e1:ρc x = .int j a:=hρ x (by simp [Op.operands,Call.operands]) _ hx
     have e2:ρc y = .int l b:=hρ y (by simp [Op.operands,Call.operands]) _ hy
     obtain⟨z,h2,h3⟩:=scalar_run (w:=w) μ hq
     exact⟨z,by simp [execOp,resolve,invoke,builtin,Builtin.max_,e1,e2,h2],h3⟩
    ·simp at hq
   ·simp at hq
  | _=>simp [quietOf]at hq
 | _=>simp [quietOf]at hq
end
def Mk.obj:Mk→Nat→AObj
 | .cells e cs,i => .cells i 0 e cs
 | .map kt,_ => .map kt .nil
section
variable {P:Program} {B:Nat} {w0:World} {G:Sett} {μ:Mu} {H:AH} {w:World}
theorem range_cells(A:Array Value)(hs:0<A.size):∀n,(List.range (n*A.size)).map (fun i=>A[i%A.size]!)=(List.replicate n A.toList).flatten
 | 0=>by simp
 | n+1=>by
  have ih:=range_cells A hs n
  rw [show(n+1)*A.size=A.size+n*A.size from by rw [Nat.add_mul];omega,List.range_add,List.map_append,List.map_map]
  have e1:(List.range A.size).map (fun i=>A[i%A.size]!)=A.toList:=by
   apply List.ext_getElem
   ·simp
   ·intro i h1 h2
    have hi:i<A.size:=by simpa using h1
    simp [Nat.mod_eq_of_lt hi,hi]
  have e2:(List.range (n*A.size)).map ((fun i=>A[i%A.size]!) ∘ fun x=>A.size+x)=(List.replicate n A.toList).flatten:=by
   rw [←ih]
   apply List.map_congr_left
   intro i _
   simp
  rw [e1,e2,List.replicate_succ,List.flatten_cons]
theorem made_LR{z:AV}{A:Array Value}(hz:LR μ z A.toList)(hs:0<A.size)(n m:Nat)(hm:m=n*A.size):LR μ (AV.rep n z) ((Array.range m).map (A[· % A.size]!)).toList:=by
 subst hm
 rw [Array.toList_map,Array.toList_range,range_cells A hs]
 exact LR.rep hz n
theorem fits_cells{R:List TypeId}{e:TypeId}{cs:AV}{arr:Array Value}(hr:R.contains e=false)(hL:LR μ cs arr.toList)(i:Nat):Fits P R μ ((Mk.cells e cs).obj i) (.cells arr e) arr.size where
 nopq:=by intro t h;cases h
 free:=by intro _ _ _ h;cases h;exact hr
 cells:=by
  intro fam ver e' cs' he
  cases he
  have:=hL.len
  rw [Array.length_toList]at this
  refine⟨arr,_,rfl,rfl,by omega,?_⟩
  rw [List.take_of_length_le (by simp;omega)]
  exact hL
 map:=by intro kt es he;cases he
 loop:=by intro _ _ _ _ _ _ _ _ _ he;cases he
 defd:=by intro _ he;cases he
theorem fits_map{R:List TypeId}(kt:TypeId)(i N:Nat):Fits P R μ ((Mk.map kt).obj i) (.map #[] 0) N where
 nopq:=by intro t h;cases h
 free:=by intro _ _ _ h;cases h
 cells:=by intro _ _ _ _ he;cases he
 map:=by intro kt' es he;cases he;exact⟨#[],0,rfl,rfl⟩
 loop:=by intro _ _ _ _ _ _ _ _ _ he;cases he
 defd:=by intro _ he;cases he
theorem fillParts_len{ρ:Env}{pl:Nat→Option (Nat × Nat)}:∀{ps:List (Nat × Operand)} {a b:AV},fillParts pl ρ a ps=some b→b.len=a.len
 | [],a,b,q=>by simp [fillParts]at q;rw [q]
 | (i,x) :: r,a,b,q=>by
  simp only [fillParts]at q
  split at q
  ·rename_i off n v hp hx
   cases hb:Nat.beq v.cells.len n with
   | false=>rw [hb]at q;simp at q
   | true=>
    rw [hb]at q
    simp only [cond_true]at q
    split at q
    ·rename_i c hc
     rw [fillParts_len q,put_len hc]
    ·simp at q
  ·simp at q
theorem rep_len{z:AV}(h:z.isList=true):∀n,(AV.rep n z).len=n*z.len
 | 0=>by simp [AV.rep,AV.len]
 | n+1=>by rw [AV.rep,len_app h,rep_len h n,Nat.add_mul];omega
theorem alloc_sound{ρ:Env}{ρc:Operand→Value}{o:Oper}(hρ:∀x∈o.op.operands,∀v,ρ x=some v→VR μ v (ρc x)){mk:Mk}{f:Nat→AV}{R:List TypeId}(ha:allocOf P ρ o.op=some (mk,f))(hR:mk.bad R=false)(w:World) :
  ∃obj N x,(execOp ρc o).run P w = .ok (.value x) (w.alloc obj)∧(∀i,Fits P R μ (mk.obj i) obj N)∧∀(ν:Mu) i,ν i=some (w.heap.size,N)→VR ν (f i) x:=by
 obtain⟨dst,op,type,pos,after,guard⟩:=o
 simp only at hρ ha
 cases op with
 | alloc e=>
  simp only [allocOf,Option.map_eq_some_iff]at ha
  obtain⟨z,hz,ha⟩:=ha
  cases ha
  obtain⟨zi,zx,hz1,hz2,hz3,hz4⟩:=zero_of μ hz
  refine⟨.cells zx.cells e,zx.cells.size,.pointer (some ⟨w.heap.size,0,none⟩),?_,fun i=>fits_cells hR hz3.cells i,fun ν i hν=>⟨_,_,hν,rfl⟩⟩
  simp [execOp,Instr.alloc,hz4,newVar,newRow]
 | box e x=>
  simp only [allocOf,Option.map_eq_some_iff]at ha
  obtain⟨v,hv,ha⟩:=ha
  cases ha
  have h1:=hρ x (by simp [Op.operands]) _ hv
  refine⟨.cells (ρc x).cells e,(ρc x).cells.size,.pointer (some ⟨w.heap.size,0,none⟩),?_,fun i=>fits_cells hR h1.cells i,fun ν i hν=>⟨_,_,hν,rfl⟩⟩
  simp [execOp,Instr.box,newVar,newRow]
 | buildSlice t len parts=>
  simp only [allocOf]at ha
  split at ha
  ·rename_i e hu
   split at ha
   ·rename_i z n hz hs
    cases hb:(Nat.beq n 0 || Nat.ble 1000000 (len*n) || !Nat.beq z.cells.len n)with
    | true=>rw [hb]at ha;simp at ha
    | false=>
     rw [hb]at ha
     simp only [Bool.or_eq_false_iff,Bool.not_eq_false']at hb
     obtain⟨⟨b1,b2⟩,b3⟩:=hb
     have b1:=(beq_false _ _).1 b1
     have b3:=(beq_iff _ _).1 b3
     have b2:len*n<1000000:=by
      refine Decidable.byContradiction fun q => ?_
      rw [Nat.ble_eq_true_of_le (by omega)]at b2;cases b2
     simp only [cond_false,Option.map_eq_some_iff]at ha
     obtain⟨cs,hfill,ha⟩:=ha
     cases ha
     obtain⟨zi,zx,hz1,hz2,hz3,hz4⟩:=zero_of μ hz
     have hzc:=hz3.cells
     have hzs:zx.cells.size=n:=by rw [←Array.length_toList,hzc.len,b3]
     have hp:∀p∈parts.toList,∀v,ρ p.2=some v→VR μ v (ρc p.2):=by
      intro p hp
      exact hρ p.2 (by simp only [Op.operands,List.mem_toArray,List.mem_map];exact⟨p,hp,rfl⟩)
     have hmap:(parts.map fun (i,x)=>(i,ρc x)).toList=parts.toList.map fun (p:Nat × Operand)=>(p.1,ρc p.2):=by simp
     obtain⟨cells',h1,h2⟩:=fill_sound parts.toList _ cs _ hp (made_LR hzc (by omega) len (len*n) (by rw [hzs])) hfill
     refine⟨.cells cells' e,cells'.size,.slice (some ⟨w.heap.size,0,none⟩) len len,?_,fun i=>fits_cells hR h2 i,fun ν i hν=>⟨_,_,len,hν,rfl,Nat.le_refl _,fun _=>rfl,?_,Nat.le_refl _⟩⟩
     ·have hbig:¬(16777216<len*n):=by omega
      refine run_val ?_
      simp only [Instr.buildSlice,Sem.run_bind,run_underlying hu,Result.andThen_ok,run_size hs]
      rw [if_neg (by simpa using hbig)]
      by_cases hln:len*n=0
      ·simp only [if_pos hln,Sem.run_bind,Sem.run_pure,Result.andThen_ok,hmap]
       have hl0:len=0:=by
        rcases Nat.mul_eq_zero.1 hln with q|q
        ·exact q
        ·omega
       subst hl0
       have e1:(Array.range (0*n)).map (fun i=>zx.cells[i%zx.cells.size]!)=(Array.range (0*n)).map (fun i=>(#[]:Array Value)[i%(#[]:Array Value).size]!):=by simp
       rw [e1]at h1
       rw [h1]
       simp [newRow]
      ·simp only [if_neg hln,Sem.run_bind,hz4,Sem.run_pure,Result.andThen_ok,hmap,h1]
       simp [newRow]
     ·have hcl:=h2.len
      rw [fillParts_len hfill,rep_len (hzc.isList),b3,Array.length_toList]at hcl
      omega
   ·simp at ha
  ·simp at ha
 | makeSlice t l c=>
  simp only [allocOf]at ha
  split at ha
  ·rename_i e lv cv hu hl hc
   split at ha
   ·rename_i z inf len cap hz hi hln hcn
    cases hb:(Nat.beq inf.size 0 || Nat.ble 1000000000 ((cap+1)*(inf.bytes+1)) || Nat.blt cap len || !Nat.beq z.cells.len inf.size)with
    | true=>rw [hb]at ha;simp at ha
    | false=>
     rw [hb]at ha
     simp only [Bool.or_eq_false_iff,Bool.not_eq_false']at hb
     obtain⟨⟨⟨b1,b2⟩,b3⟩,b4⟩:=hb
     have b1:=(beq_false _ _).1 b1
     have b4:=(beq_iff _ _).1 b4
     have b2:(cap+1)*(inf.bytes+1)<1000000000:=by
      refine Decidable.byContradiction fun q => ?_
      rw [Nat.ble_eq_true_of_le (by omega)]at b2;cases b2
     have b3:len≤cap:=by
      refine Decidable.byContradiction fun q => ?_
      rw [(blt_iff cap len).2 (by omega)]at b3;cases b3
     simp only [cond_false,Option.some.injEq]at ha
     cases ha
     obtain⟨zi,zx,hz1,hz2,hz3,hz4⟩:=zero_of μ hz
     rw [hi]at hz1;cases hz1
     have hzc:=hz3.cells
     have hzs:zx.cells.size=inf.size:=by rw [←Array.length_toList,hzc.len,b4]
     obtain⟨kl,el⟩:=nat_val hln (hρ l (by simp [Op.operands]) _ hl)
     obtain⟨kc,ec⟩:=nat_val hcn (hρ c (by simp [Op.operands]) _ hc)
     have hcap:cap+1≤(cap+1)*(inf.bytes+1):=Nat.le_mul_of_pos_right _ (by omega)
     have hby:inf.bytes*cap≤(cap+1)*(inf.bytes+1):=by rw [Nat.mul_comm];exact Nat.mul_le_mul (by omega) (by omega)
     have hrun:=run_make w t e inf zx hu hi hz2 kl kc (len:Int) (cap:Int) (by omega) (by omega) (by
      have:((inf.bytes*cap:Nat):Int)≤281474976710656:=by omega
      simpa using this) (by omega)
     have hLR:=made_LR hzc (by omega) cap (cap*inf.size) (by rw [hzs])
     refine⟨.cells (madeCells zx.cells (cap*inf.size)) e,(madeCells zx.cells (cap*inf.size)).size,.slice (some ⟨w.heap.size,0,none⟩) len cap,?_,fun i=>fits_cells hR hLR i,fun ν i hν=>⟨_,_,cap,hν,rfl,Nat.le_refl _,fun _=>rfl,by simp [madeCells],b3⟩⟩
     refine run_val ?_
     rw [el,ec]
     simpa using hrun
   ·simp at ha
  ·simp at ha
 | makeMap t r=>
  cases r with
  | some x=>simp [allocOf]at ha
  | none=>
   simp only [allocOf]at ha
   split at ha
   ·rename_i kt et hu
    cases ha
    refine⟨.map #[] 0,0,.map (some w.heap.size),?_,fun i=>fits_map kt i 0,fun ν i hν=>⟨_,_,hν,rfl⟩⟩
    simp [execOp,Instr.makeMap]
   ·simp at ha
 | _=>simp [allocOf]at ha
end
end Go.Eng
