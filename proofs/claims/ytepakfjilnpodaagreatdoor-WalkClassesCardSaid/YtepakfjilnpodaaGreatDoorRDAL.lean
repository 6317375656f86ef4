/-
  Products and quotients of fractions. Sums, products and quotients of fractions. The steps of the walk of a region that draws its order and c
  Conditions: see each statement.
-/
import Derived.Test.YtepakfjilnpodaaGreatDoorRDAK
import Derived.WalkKit
import Derived.Deep.MidRow
import Derived.Test.YtepakfjilnpodaaGreatDoorRDAJ
import Derived.Test.YtepakfjilnpodaaGreatDoorRDAF
namespace Go.Eng
open Go.RowKit
section
variable {P:Program} {ops:Array Oper} {bs bars r:List Nat} {i:Nat} {a:CAct} {w:World} {Q:CAct→World→Prop} {o:Oper}
theorem OW.read(ho:ops[i]? = some o)(hb:bars.contains i=false)(v:Value)(hd:∀w',Below w.heap.size w w'→(execOp a.eval o).run P w' = .ok (.value v) w')(h:OW P none ops bs bars Q r (a.put o.dst v) w):OW P none ops bs bars Q (i :: r) a w:=
 ⟨o,ho,.inr ⟨hb,v,fun w' q=>q.elim (hd w') (fun q=>by cases q.1),h⟩⟩
theorem OW.move{x:Operand}{d:Option Tmp}{ty:TypeId}{ps:String}{af:Array Edge}(ho:ops[i]? = some {op:=.move x,dst:=d,type:=ty,pos:=ps,after:=af,guard:=none})(hb:bars.contains i=false)(v:Value)(hx:a.eval x=v)(h:OW P none ops bs bars Q r (a.put d v) w):OW P none ops bs bars Q (i :: r) a w:=
 OW.read ho hb v (fun w' _=>by subst hx;rfl) h
theorem OW.assign{x:Operand}{d:Option Tmp}{ty:TypeId}{ps:String}{af:Array Edge}(ho:ops[i]? = some {op:=.assign x,dst:=d,type:=ty,pos:=ps,after:=af,guard:=none})(hb:bars.contains i=false)(v:Value)(hx:a.eval x=v)(h:OW P none ops bs bars Q r (a.put d v) w):OW P none ops bs bars Q (i :: r) a w:=
 OW.read ho hb v (fun w' _=>by subst hx;rfl) h
def FieldAt(P:Program)(s:TypeId)(f off:Nat):Prop:=∀g w,(Instr.fieldAt s (.pointer (some ⟨g,0,none⟩)) f).run P w = .ok (.pointer (some ⟨g,off,none⟩)) w
theorem fieldAt_of{P:Program}{s:TypeId}{f off:Nat}{fs:Array Field}{fd:Field}(h1:P.underlying s=some (.struct fs))(h2:fs[f]? = some fd)(h3:fd.offset=off)(h4:((P.info? fd.type).map fun i=>decide (i.size=0))=some false):FieldAt P s f off:=by
 intro g w
 obtain⟨inf,h5⟩:∃inf,P.info? fd.type=some inf:=by
  cases e:P.info? fd.type with
  | none=>rw [e]at h4;cases h4
  | some inf=>exact⟨inf,rfl⟩
 rw [h5]at h4
 simp at h4
 subst h3
 simp [Instr.fieldAt,run_underlying h1,h2,Instr.sureAddr,fieldPlace,sizeOf,typeInfo,h5,h4,Addr.add_lit]
theorem OW.fieldAddr{s:TypeId}{x:Operand}{f off g:Nat}{d:Option Tmp}{ty:TypeId}{ps:String}{af:Array Edge}(ho:ops[i]? = some {op:=.fieldAddr s x f,dst:=d,type:=ty,pos:=ps,after:=af,guard:=none})(hb:bars.contains i=false)
  (hF:FieldAt P s f off) (hx:a.eval x = .pointer (some ⟨g,0,none⟩)) (h:OW P none ops bs bars Q r (a.put d (.pointer (some ⟨g,off,none⟩))) w):OW P none ops bs bars Q (i :: r) a w:=
 OW.read ho hb _ (fun w' _=>by simp [execOp,hx,hF g w']) h
def LoadOne(P:Program)(t:TypeId):Prop:=∀p v w,World.cell? w p=some v→(Instr.loadAt t (.pointer (some p))).run P w = .ok v w
theorem loadOne_of{P:Program}{t:TypeId}(h:(match P.underlying t with|some (.struct _)|some (.array _ _)=>false|some _=>true|none=>false)=true):LoadOne P t:=by
 intro p v w hc
 cases hu:P.underlying t with
 | none=>rw [hu]at h;cases h
 | some d=>
  rw [hu]at h
  cases d <;> first|(cases h;done)|(simp [Instr.loadAt,Instr.sureAddr,loadVar,isAgg,run_underlying hu,hc])
theorem OW.load{t:TypeId}{x:Operand}{p:Addr}{v:Value}{d:Option Tmp}{ty:TypeId}{ps:String}{af:Array Edge}(ho:ops[i]? = some {op:=.load t x,dst:=d,type:=ty,pos:=ps,after:=af,guard:=none})(hb:bars.contains i=false)
  (hL:LoadOne P t) (hc:w.cell? p=some v) (hx:a.eval x = .pointer (some p)) (h:OW P none ops bs bars Q r (a.put d v) w):OW P none ops bs bars Q (i :: r) a w:=
 OW.read ho hb _ (fun w' hb'=>by
  have hp:p.block<w.heap.size:=World.block_lt_of_cell? _ _ hc
  simp [execOp,hx,hL p v w' ((hb'.cell hp).trans hc)]) h
def LoadAll(P:Program)(t:TypeId)(n:Nat):Prop:=∀g (cs:List Value) w,cs.length=n→(∀j v,cs[j]? = some v→World.cell? w ⟨g,j,none⟩=some v)→(Instr.loadAt t (.pointer (some ⟨g,0,none⟩))).run P w = .ok (.agg cs.toArray) w
theorem loadAll_of{P:Program}{t:TypeId}{n:Nat}(h:(match P.underlying t with|some (.struct _)=>true|_=>false)=true)(hi:(P.info? t).map (·.size)=some n):LoadAll P t n:=by
 intro g cs w hn hc
 cases hu:P.underlying t with
 | none=>rw [hu]at h;cases h
 | some d=>
  rw [hu]at h
  cases d with
  | struct fs=>
   have hl:=run_loadVar_mid (P:=P) w g 0 t cs (.struct fs) (fun j v hj=>by rw [Nat.zero_add];exact hc j v hj) hu rfl (by rw [hn];exact hi)
   simp [Instr.loadAt,Instr.sureAddr,hl]
  | _=>cases h
theorem OW.loadAll{t:TypeId}{x:Operand}{g n:Nat}{cs:List Value}{d:Option Tmp}{ty:TypeId}{ps:String}{af:Array Edge}(ho:ops[i]? = some {op:=.load t x,dst:=d,type:=ty,pos:=ps,after:=af,guard:=none})(hb:bars.contains i=false)
  (hL:LoadAll P t n) (hn:cs.length=n) (h0:0<n) (hc:∀j v,cs[j]? = some v→w.cell? ⟨g,j,none⟩=some v) (hx:a.eval x = .pointer (some ⟨g,0,none⟩)) (h:OW P none ops bs bars Q r (a.put d (.agg cs.toArray)) w):OW P none ops bs bars Q (i :: r) a w:=
 OW.read ho hb _ (fun w' hb'=>by
  have hp:g<w.heap.size:=by
   obtain⟨v,hv⟩:∃v,cs[0]? = some v:=⟨_,List.getElem?_eq_getElem (by omega)⟩
   exact World.block_lt_of_cell? _ _ (hc 0 v hv)
  simp [execOp,hx,hL g cs w' hn (fun j v hj=>(hb'.cell (p:=⟨g,j,none⟩) hp).trans (hc j v hj))]) h
theorem equal_bool{t:TypeId}{p q:Bool}{w:World}(ht:P.underlying t=some .bool):(Op.equal t (.bool p) (.bool q)).run P w = .ok (p == q) w:=by
 show(Op.equalIn (9999+1) t _ _).run P w=_
 rw [Op.equalIn]
 simp [run_underlying ht]
theorem OW.neqBool{t x2:TypeId}{x y:Operand}{p q:Bool}{d:Option Tmp}{ty:TypeId}{ps:String}{af:Array Edge}(ho:ops[i]? = some {op:=.binOp .neq t x y x2,dst:=d,type:=ty,pos:=ps,after:=af,guard:=none})(hb:bars.contains i=false)
  (ht:P.underlying t=some .bool) (hx:a.eval x = .bool p) (hy:a.eval y = .bool q) (h:OW P none ops bs bars Q r (a.put d (.bool (p != q))) w):OW P none ops bs bars Q (i :: r) a w:=
 OW.read ho hb _ (fun w' _=>by
  have:(execOp a.eval {op:=.binOp .neq t x y x2,dst:=d,type:=ty,pos:=ps,after:=af,guard:=none}).run P w' = .ok (.value (.bool (p != q))) w':=by
   unfold execOp
   simp only [hx,hy]
   simp [eqGuard,binOp,equal_bool ht]
   cases p <;> cases q <;> rfl
  exact this) h
theorem OW.call{f:FuncId}{fn:Func}{xs:Array Operand}{ts:Array TypeId}{args:List Value}{d:Option Tmp}{ty:TypeId}{ps:String}{af:Array Edge}(ho:ops[i]? = some {op:=.call {callee:=.value (.func f),args:=xs,argTypes:=ts},dst:=d,type:=ty,pos:=ps,after:=af,guard:=none})(hb:bars.contains i=true)
  (hfn:P.funcs[f]? = some fn) (hbody:fn.body.isSome=true) (hN:NamesOK P) (ha:xs.toList.map a.eval=args)
  (h:CallsIn Fence.wide 0 P f args.toArray w fun e w'=>∃v,e = .returned v∧Below w.heap.size w w'∧OW P none ops bs bars Q r (a.put d v) w'):OW P none ops bs bars Q (i :: r) a w:=by
 refine⟨_,ho,.inl ⟨hb,.inl ⟨f,args.toArray,?_,h.mono (fun e w' ⟨v,q,hB,k⟩=>⟨v,q,.inr hB,k⟩)⟩⟩⟩
 have ha':xs.map a.eval=args.toArray:=by subst ha;apply Array.ext';rw [Array.toList_map]
 rw [←ha']
 have hbn:fn.body≠none:=by intro q;rw [q]at hbody;simp at hbody
 have hev:a.eval (.func f) = .func (.func f) #[] #[]:=rfl
 unfold execOp
 simp only [resolve,hev,Deferred.ofValue,Sem.run_bind,Sem.run_pure,Result.andThen_ok,invoke,callFunc,run_program,hfn,hN f fn hfn hbody,Bool.false_eq_true,if_false]
 have:fn.body.isNone=false:=by cases hq:fn.body <;> simp_all
 rw [this]
 simp
theorem OW.store{t:TypeId}{x y:Operand}{w':World}{d:Option Tmp}{ty:TypeId}{ps:String}{af:Array Edge}(ho:ops[i]? = some {op:=.store t x y,dst:=d,type:=ty,pos:=ps,after:=af,guard:=none})(hb:bars.contains i=true)(hl:lastAll bs ops.size i=true)
  (hrun:(execOp a.eval {op:=.store t x y,dst:=d,type:=ty,pos:=ps,after:=af,guard:=none}).run P w = .ok .skip w') (h:OW P none ops bs bars Q r (a.put d undef) w'):OW P none ops bs bars Q (i :: r) a w:=
 ⟨_,ho,.inl ⟨hb,.inr ⟨w',undef,.inr ⟨hrun,rfl⟩,.inl ⟨lastK_of hl,trivial⟩,h⟩⟩⟩
theorem OW.done{a:CAct}{w:World}(h:Q a w):OW P none ops bs bars Q [] a w:=h
end
end Go.Eng
namespace Go.Num
open Go.RowKit Go.Proofs Go.Proofs.YtepakfjilnpodaaGreatDoor Go.Eng
theorem follows:Tryz.prog.follows .mixedOrders=true:=by kernel_rfl
theorem namesOK:NamesOK Tryz.prog:=namesOK_of (by kernel_rfl)
theorem fieldAt_ok{P:Program}{s:TypeId}{f off:Nat}(h:(match P.underlying s with|some (.struct fs)=>(match fs[f]? with|some fd=>Nat.beq fd.offset off && (match P.info? fd.type with|some i => !Nat.beq i.size 0|none=>false)|none=>false)|_=>false)=true):FieldAt P s f off:=by
 split at h
 ·rename_i fs hu
  split at h
  ·rename_i fd hf
   rw [Bool.and_eq_true]at h
   refine fieldAt_of hu hf (Nat.eq_of_beq_eq_true h.1) ?_
   have h2:=h.2
   split at h2
   ·rename_i i hi
    rw [hi]
    simp at h2 ⊢
    intro e
    rw [e]at h2
    cases h2
   ·cases h2
  ·cases h
 ·cases h
theorem f25_0:FieldAt Tryz.prog 27 0 0:=fieldAt_ok (by kernel_rfl)
theorem f25_1:FieldAt Tryz.prog 27 1 1:=fieldAt_ok (by kernel_rfl)
theorem l4:LoadOne Tryz.prog 4:=loadOne_of (by kernel_rfl)
theorem l23:LoadOne Tryz.prog 25:=loadOne_of (by kernel_rfl)
theorem l25:LoadAll Tryz.prog 27 3:=loadAll_of (by kernel_rfl) (by kernel_rfl)
theorem ub4:Tryz.prog.underlying 4=some .bool:=by kernel_rfl
def Box3(w:World)(g:Nat)(x y z:Value):Prop:=∀j v,[x,y,z][j]? = some v→w.cell? ⟨g,j,none⟩=some v
theorem Box3.c0{w:World}{g:Nat}{x y z:Value}(h:Box3 w g x y z):w.cell? ⟨g,0,none⟩=some x:=h 0 x rfl
theorem Box3.c1{w:World}{g:Nat}{x y z:Value}(h:Box3 w g x y z):w.cell? ⟨g,1,none⟩=some y:=h 1 y rfl
theorem Box3.c2{w:World}{g:Nat}{x y z:Value}(h:Box3 w g x y z):w.cell? ⟨g,2,none⟩=some z:=h 2 z rfl
theorem Box3.lt{w:World}{g:Nat}{x y z:Value}(h:Box3 w g x y z):g<w.heap.size:=World.block_lt_of_cell? _ _ h.c0
theorem Box3.below{w w':World}{g:Nat}{x y z:Value}(h:Box3 w g x y z)(hb:Below w.heap.size w w'):Box3 w' g x y z:=fun j v hj=>(hb.cell (p:=⟨g,j,none⟩) h.lt).trans (h j v hj)
theorem box3_new(w:World)(x y z:Value)(t:TypeId):Box3 (w.alloc (.cells #[x,y,z] t)) w.heap.size x y z:=fun j v hj=>by
 rw [World.cell?_alloc_new,←hj]
 simp
theorem MagAt.setElem{w:World}{v u:Value}{x g i:Nat}{e:TypeId}(h:MagAt w v x)(hE:Elem w g e)(he:e≠116):MagAt (w.setCell ⟨g,i,none⟩ u) v x:=by
 refine h.setCell' ?_ u
 obtain⟨k,hk,hl⟩:=h
 rcases hl with⟨rfl,_⟩|⟨a,cap,rfl,h2,h3,h4,h5,h6⟩
 ·exact .inl hk.zero
 ·refine .inr fun q => ?_
  have:a.block=g:=by simpa [Value.ownBlock]using q
  exact(h5.ne hE (fun q=>he q.symm)) this
theorem RatAt.setElem{w:World}{v u:Value}{q:Rat}{g i:Nat}{e:TypeId}(h:RatAt w v q)(hE:Elem w g e)(he:e≠116):RatAt (w.setCell ⟨g,i,none⟩ u) v q:=by
 obtain⟨vn,vd,h1,h2,h3⟩:=h
 exact⟨vn,vd,h1,h2.setElem hE he,h3.setElem hE he⟩
theorem RatAt.form{w:World}{v:Value}{q:Rat}(h:RatAt w v q):∃o k c o2 k2 c2,v = .agg #[.bool (decide (q.num<0)),.slice o k c,.slice o2 k2 c2]:=by
 obtain⟨vn,vd,h1,h2,h3⟩:=h
 obtain⟨o,k,c,rfl,_,_⟩:=mag_len h2
 obtain⟨o2,k2,c2,rfl,_,_⟩:=mag_len h3
 exact⟨o,k,c,o2,k2,c2,h1⟩
def set3(w:World)(g:Nat)(x y z:Value):World:=((w.setCell ⟨g,0,none⟩ x).setCell ⟨g,1,none⟩ y).setCell ⟨g,2,none⟩ z
theorem run_store25{w:World}{g:Nat}{x y z:Value}{f:Nat→Value}(h:ArrAt w g 3 f)(hx:x.oneCell'=true)(hy:y.oneCell'=true)(hz:z.oneCell'=true) :
  (Instr.storeAt 27 (.pointer (some ⟨g,0,none⟩)) (.agg #[x,y,z])).run Tryz.prog w = .ok () (set3 w g x y z):=by
 have hst:=run_storeCells_cells (P:=Tryz.prog) g 0 [x,y,z] 0 w (fun j hj=>by
   have:=(h j (by simpa using hj)).1
   simp only [Nat.zero_add,Nat.add_zero]
   rw [this];rfl) (fun j hj=>by
   have:=(h j (by simpa using hj)).2
   simp only [Nat.zero_add,Nat.add_zero]
   exact this) (fun u hu=>by
   simp at hu
   rcases hu with rfl|rfl|rfl <;> assumption)
 obtain⟨inf,hi,hs⟩:∃inf,Tryz.prog.info? 27=some inf∧inf.size=3:=by
  have h:=i25
  cases e:Tryz.prog.info? 27 with
  | none=>rw [e]at h;cases h
  | some inf=>rw [e]at h;exact⟨inf,rfl,by simpa using h⟩
 simp [Instr.storeAt,Instr.sureAddr,storeVar,sizeOf,typeInfo,hi,hs,Value.cells]
 exact hst
structure RatKept(w W:World)(g:Nat)(x0 x1 x2 y0 y1 y2:Value):Prop where
 bx:Box3 W g x0 x1 x2
 by':Box3 W (g+1) y0 y1 y2
 res:∃f,ArrAt W (g+1+1) 3 f
 el:Elem W (g+1+1) 27
 below:Below w.heap.size w W
 le:w.heap.size≤g
theorem RatKept.step{w W W':World}{g:Nat}{x0 x1 x2 y0 y1 y2:Value}(h:RatKept w W g x0 x1 x2 y0 y1 y2)(hb:Below W.heap.size W W'):RatKept w W' g x0 x1 x2 y0 y1 y2:=by
 obtain⟨f,hf⟩:=h.res
 exact⟨h.bx.below hb,h.by'.below hb,⟨f,hf.below (hf.lt (by omega)) hb⟩,h.el.below hb h.el.lt,h.below.trans (hb.mono h.below.size),h.le⟩
theorem ratKept_new(w:World)(x0 x1 x2 y0 y1 y2 z0 z1 z2:Value)(t:TypeId):RatKept w (((w.alloc (.cells #[x0,x1,x2] t)).alloc (.cells #[y0,y1,y2] t)).alloc (.cells #[z0,z1,z2] 27)) w.heap.size x0 x1 x2 y0 y1 y2:=by
 have h1:=box3_new w x0 x1 x2 t
 have h2:=box3_new (w.alloc (.cells #[x0,x1,x2] t)) y0 y1 y2 t
 have e1:(w.alloc (.cells #[x0,x1,x2] t)).heap.size=w.heap.size+1:=by simp
 have e2:((w.alloc (.cells #[x0,x1,x2] t)).alloc (.cells #[y0,y1,y2] t)).heap.size=w.heap.size+1+1:=by simp
 rw [e1]at h2
 refine⟨(h1.below (alloc_below _ _)).below (alloc_below _ _),h2.below (alloc_below _ _),⟨fun i => [z0,z1,z2].getD i z0,?_⟩,by rw [←e2];exact elem_new _ _ _,?_,Nat.le_refl _⟩
 ·rw [←e2]
  exact ArrAt.new _ _ _ fun i hi=>by
   have:i=0∨i=1∨i=2:=by omega
   rcases this with rfl|rfl|rfl <;> rfl
 ·exact(((alloc_below w _).alloc (by simp) _).alloc (by simp;omega) _)
theorem drew_below(W:World):Below W.heap.size W W.drew:=⟨rfl,rfl,rfl,Nat.le_refl _,fun _ _=>rfl⟩
theorem rat_sum(p q:Rat):p+q=(if decide (p.num<0)=decide (q.num<0)then frac (decide (p.num<0)) (p.num.natAbs*q.den+q.num.natAbs*p.den) (p.den*q.den)
  else if q.num.natAbs*p.den≤p.num.natAbs*q.den then frac (decide (p.num<0)) (p.num.natAbs*q.den-q.num.natAbs*p.den) (p.den*q.den)else frac (decide (q.num<0)) (q.num.natAbs*p.den-p.num.natAbs*q.den) (p.den*q.den)):=by
 rw [←frac_sum p.den_nz q.den_nz,frac_self,frac_self]
theorem cmp_ge{x y:Nat}{r:Int}(h:CmpIs x y r)(hg:y≤x):0≤r:=by
 apply Classical.byContradiction
 intro hno
 have:=h.1.1 (by omega)
 omega
theorem sum_len{x y L:Nat}(hx:x<B^L)(hy:y<B^L):x+y<B^(L+1):=by
 rw [Nat.pow_succ]
 have:B^L*2≤B^L*B:=Nat.mul_le_mul_left _ (by decide)
 omega
theorem store_run{a:Act}{w w':World}{x y:Operand}{g:Nat}{v:Value}{d:Option Tmp}{ty:TypeId}{ps:String}{af:Array Edge}{gd:Option (Nat × Bool)}(hx:a.eval x = .pointer (some ⟨g,0,none⟩))(hy:a.eval y=v)
  (h:(Instr.storeAt 27 (.pointer (some ⟨g,0,none⟩)) v).run Tryz.prog w = .ok () w'):(execOp a.eval {op:=.store 27 x y,dst:=d,type:=ty,pos:=ps,after:=af,guard:=gd}).run Tryz.prog w = .ok .skip w':=by
 simp [execOp,hx,hy,h]
set_option maxRecDepth 100000 in
set_option maxHeartbeats 8000000 in
theorem plus_calls(w:World)(va vb:Value)(p q:Rat)(L:Nat)(ha:RatAt w va p)(hb:RatAt w vb q)(hp:RatLe p L)(hq:RatLe q L)(hL:L≤1000000) :
  CallsIn Fence.wide 0 Tryz.prog 71 #[va,vb] w fun e w'=>∃v',e = .returned v'∧RatAt w' v' (p+q)∧Below w.heap.size w w':=by
 have HA:=Hid.intro ha
 have HB:=Hid.intro hb
 have HP:=Hid.intro hp
 have HQ:=Hid.intro hq
 obtain⟨an,ad,rfl,han,had⟩:=ha
 obtain⟨bn,bd,rfl,hbn,hbd⟩:=hb
 have HAN:=Hid.intro han
 have HBN:=Hid.intro hbn
 obtain⟨na,hna⟩:∃na,decide (p.num<0)=na:=⟨_,rfl⟩
 obtain⟨nb,hnb⟩:∃nb,decide (q.num<0)=nb:=⟨_,rfl⟩
 rw [hna]at HA
 rw [hnb]at HB
 rw [hna,hnb]
 have HNA:=Hid.intro hna
 have HNB:=Hid.intro hnb
 clear han had hbn hbd hna hnb hp hq
 refine callsIn_of_wp Tryz.func71 rfl trivial ?_ rfl
 simp only [Tryz.ntmps71,List.size_toArray,List.length_cons,List.length_nil,Nat.reduceAdd,Nat.reduceSub,Array.replicate_succ,Array.replicate_zero,List.push_toArray,List.append_toArray,List.nil_append,List.cons_append]
 gi_wp2
 obtain⟨W,hW⟩:∃W,W=((w.alloc (Obj.cells #[Value.bool na,an,ad] 27)).alloc (Obj.cells #[Value.bool nb,bn,bd] 27)).alloc (Obj.cells #[Value.bool false,Value.slice none 0 0,Value.slice none 0 0] 27):=⟨_,rfl⟩
 rw [←hW]
 have HK:Hid (RatKept w W.drew w.heap.size (.bool na) an ad (.bool nb) bn bd):=by
  rw [hW];exact(ratKept_new w _ _ _ _ _ _ _ _ _ _).step (drew_below _)
 obtain⟨g,hg⟩:∃g,w.heap.size=g:=⟨_,rfl⟩
 rw [hg]at HK
 rw [hg]
 clear hW
 refine wpIn_region_ow (ro:=none) [3,4,8,9] [0,1,2,5,6,7,3,4,8,9,10,11] [0,1,0,4,15,0,32,0,159,511,1023,2047] follows 57 rfl (by kernel_rfl) (by kernel_rfl) ?_
 refine OW.fieldAddr rfl rfl f25_1 rfl ?_
 simp only [Go.Act.put,List.setIfInBounds_toArray,List.set_cons_succ,List.set_cons_zero]
 refine OW.load rfl rfl l23 HK.out.bx.c1 rfl ?_
 simp only [Go.Act.put,List.setIfInBounds_toArray,List.set_cons_succ,List.set_cons_zero]
 refine OW.loadAll rfl rfl l25 (cs:=[.bool nb,bn,bd]) rfl (by decide) HK.out.by' rfl ?_
 simp only [Go.Act.put,List.setIfInBounds_toArray,List.set_cons_succ,List.set_cons_zero]
 refine OW.fieldAddr rfl rfl f25_1 rfl ?_
 simp only [Go.Act.put,List.setIfInBounds_toArray,List.set_cons_succ,List.set_cons_zero]
 refine OW.load rfl rfl l23 HK.out.by'.c1 rfl ?_
 simp only [Go.Act.put,List.setIfInBounds_toArray,List.set_cons_succ,List.set_cons_zero]
 refine OW.loadAll rfl rfl l25 (cs:=[.bool na,an,ad]) rfl (by decide) HK.out.bx rfl ?_
 simp only [Go.Act.put,List.setIfInBounds_toArray,List.set_cons_succ,List.set_cons_zero]
 refine OW.call rfl rfl Tryz.func132 rfl namesOK (args:=[.agg #[.bool nb,bn,bd]]) rfl ?_
 refine(bottom_calls W.drew _ q (HB.out.below HK.out.below)).mono ?_
 rintro e w1 ⟨v1,rfl,hm1,hB1⟩
 refine⟨v1,rfl,hB1,?_⟩
 simp only [Go.Act.put,List.setIfInBounds_toArray,List.set_cons_succ,List.set_cons_zero]
 have HK1:=Hid.intro (HK.out.step hB1)
 have HM1:=Hid.intro hm1
 clear hm1 hB1 HK
 refine OW.call rfl rfl Tryz.func131 rfl namesOK (args:=[an,v1]) rfl ?_
 refine(mul_calls w1 an v1 p.num.natAbs q.den L (HAN.out.below HK1.out.below) HM1.out HP.out.1 HQ.out.2 (by omega)).mono ?_
 rintro e w2 ⟨v2,rfl,⟨hm2,_⟩,hB2⟩
 refine⟨v2,rfl,hB2,?_⟩
 simp only [Go.Act.put,List.setIfInBounds_toArray,List.set_cons_succ,List.set_cons_zero]
 have HK2:=Hid.intro (HK1.out.step hB2)
 have HM2:=Hid.intro hm2
 clear hm2 hB2 HK1 HM1
 refine OW.call rfl rfl Tryz.func132 rfl namesOK (args:=[.agg #[.bool na,an,ad]]) rfl ?_
 refine(bottom_calls w2 _ p (HA.out.below HK2.out.below)).mono ?_
 rintro e w3 ⟨v3,rfl,hm3,hB3⟩
 refine⟨v3,rfl,hB3,?_⟩
 simp only [Go.Act.put,List.setIfInBounds_toArray,List.set_cons_succ,List.set_cons_zero]
 have HK3:=Hid.intro (HK2.out.step hB3)
 have HM23:=Hid.intro (HM2.out.below hB3)
 have HM3:=Hid.intro hm3
 clear hm3 hB3 HK2 HM2
 refine OW.call rfl rfl Tryz.func131 rfl namesOK (args:=[bn,v3]) rfl ?_
 refine(mul_calls w3 bn v3 q.num.natAbs p.den L (HBN.out.below HK3.out.below) HM3.out HQ.out.1 HP.out.2 (by omega)).mono ?_
 rintro e w4 ⟨v4,rfl,⟨hm4,_⟩,hB4⟩
 refine⟨v4,rfl,hB4,?_⟩
 simp only [Go.Act.put,List.setIfInBounds_toArray,List.set_cons_succ,List.set_cons_zero]
 have HK4:=Hid.intro (HK3.out.step hB4)
 have HM24:=Hid.intro (HM23.out.below hB4)
 have HM4:=Hid.intro hm4
 clear hm4 hB4 HK3 HM3 HM23
 refine OW.assign rfl rfl v2 rfl ?_
 simp only [Go.Act.put,List.setIfInBounds_toArray,List.set_cons_succ,List.set_cons_zero]
 refine OW.assign rfl rfl v4 rfl ?_
 simp only [Go.Act.put,List.setIfInBounds_toArray,List.set_cons_succ,List.set_cons_zero]
 refine OW.done ?_
 gi_wp2
 refine wpIn_region_ow (ro:=none) [1,3,4] [0,2,1,3,4,5] [0,1,0,7,15,31] follows 57 rfl (by kernel_rfl) (by kernel_rfl) ?_
 have HK5:=Hid.intro (HK4.out.step (drew_below _))
 have HM25:=Hid.intro (HM24.out.below (drew_below _))
 have HM5:=Hid.intro (HM4.out.below (drew_below _))
 clear HK4 HM24 HM4
 refine OW.loadAll rfl rfl l25 (cs:=[.bool na,an,ad]) rfl (by decide) HK5.out.bx rfl ?_
 simp only [Go.Act.put,List.setIfInBounds_toArray,List.set_cons_succ,List.set_cons_zero]
 refine OW.loadAll rfl rfl l25 (cs:=[.bool nb,bn,bd]) rfl (by decide) HK5.out.by' rfl ?_
 simp only [Go.Act.put,List.setIfInBounds_toArray,List.set_cons_succ,List.set_cons_zero]
 refine OW.call rfl rfl Tryz.func132 rfl namesOK (args:=[.agg #[.bool na,an,ad]]) rfl ?_
 refine(bottom_calls w4.drew _ p (HA.out.below HK5.out.below)).mono ?_
 rintro e w6 ⟨v6,rfl,hm6,hB6⟩
 refine⟨v6,rfl,hB6,?_⟩
 simp only [Go.Act.put,List.setIfInBounds_toArray,List.set_cons_succ,List.set_cons_zero]
 have HK6:=Hid.intro (HK5.out.step hB6)
 have HM26:=Hid.intro (HM25.out.below hB6)
 have HM46:=Hid.intro (HM5.out.below hB6)
 have HM6:=Hid.intro hm6
 clear hm6 hB6 HK5 HM25 HM5
 refine OW.call rfl rfl Tryz.func132 rfl namesOK (args:=[.agg #[.bool nb,bn,bd]]) rfl ?_
 refine(bottom_calls w6 _ q (HB.out.below HK6.out.below)).mono ?_
 rintro e w7 ⟨v7,rfl,hm7,hB7⟩
 refine⟨v7,rfl,hB7,?_⟩
 simp only [Go.Act.put,List.setIfInBounds_toArray,List.set_cons_succ,List.set_cons_zero]
 have HK7:=Hid.intro (HK6.out.step hB7)
 have HM27:=Hid.intro (HM26.out.below hB7)
 have HM47:=Hid.intro (HM46.out.below hB7)
 have HM67:=Hid.intro (HM6.out.below hB7)
 have HM7:=Hid.intro hm7
 clear hm7 hB7 HK6 HM26 HM46 HM6
 refine OW.call rfl rfl Tryz.func131 rfl namesOK (args:=[v6,v7]) rfl ?_
 refine(mul_calls w7 v6 v7 p.den q.den L HM67.out HM7.out HP.out.2 HQ.out.2 (by omega)).mono ?_
 rintro e w8 ⟨v8,rfl,⟨hm8,_⟩,hB8⟩
 refine⟨v8,rfl,hB8,?_⟩
 simp only [Go.Act.put,List.setIfInBounds_toArray,List.set_cons_succ,List.set_cons_zero]
 have HK8:=Hid.intro (HK7.out.step hB8)
 have HM28:=Hid.intro (HM27.out.below hB8)
 have HM48:=Hid.intro (HM47.out.below hB8)
 have HM8:=Hid.intro hm8
 clear hm8 hB8 HK7 HM27 HM47 HM67 HM7
 refine OW.assign rfl rfl v8 rfl ?_
 simp only [Go.Act.put,List.setIfInBounds_toArray,List.set_cons_succ,List.set_cons_zero]
 refine OW.done ?_
 have hS:=rat_sum p q
 rw [HNA.out,HNB.out]at hS
 have h1L:p.num.natAbs*q.den<B^(L+L):=prod_len HP.out.1 HQ.out.2
 have h2L:q.num.natAbs*p.den<B^(L+L):=prod_len HQ.out.1 HP.out.2
 have h3L:p.den*q.den<B^(L+L):=prod_len HP.out.2 HQ.out.2
 have h30:p.den*q.den≠0:=Nat.mul_ne_zero p.den_nz q.den_nz
 obtain⟨x,hx⟩:∃x,p.num.natAbs*q.den=x:=⟨_,rfl⟩
 obtain⟨y,hy⟩:∃y,q.num.natAbs*p.den=y:=⟨_,rfl⟩
 obtain⟨D,hD⟩:∃D,p.den*q.den=D:=⟨_,rfl⟩
 rw [hx,hy,hD]at hS
 rw [hx]at h1L HM28
 rw [hy]at h2L HM48
 rw [hD]at h3L h30 HM8
 have HS:=Hid.intro hS
 have H1L:=Hid.intro h1L
 have H2L:=Hid.intro h2L
 have H3L:=Hid.intro h3L
 clear hx hy hD hS h1L h2L h3L HA HB HAN HBN HP HQ HNA HNB
 gi_wp2_with (gi_at_call 135;refine stop ?_)
 unfold Stop
 refine(cmp_calls w8 v2 v4 x y HM28.out HM48.out).mono ?_
 rintro e w9 ⟨r,hr,rfl,hB9⟩
 have HK9:=Hid.intro (HK8.out.step hB9)
 have HM29:=Hid.intro (HM28.out.below hB9)
 have HM49:=Hid.intro (HM48.out.below hB9)
 have HM89:=Hid.intro (HM8.out.below hB9)
 have HR:=Hid.intro hr
 have ca:=HK9.out.bx.c0
 have cb:=HK9.out.by'.c0
 clear hB9 hr HK8 HM28 HM48 HM8
 by_cases hab:na=nb
 ·have HSum:=HS.out
  rw [if_pos hab]at HSum
  subst hab
  obtain⟨ng,hng⟩:∃ng,ng=na:=⟨_,rfl⟩
  cases na
  ·gi_wp2
   refine wpIn_region_ow (ro:=none) [4,6,7] [0,1,2,3,5,4,6,7] [0,1,0,0,12,0,63,127] follows 57 rfl (by kernel_rfl) (by kernel_rfl) ?_
   have HKa:=Hid.intro (HK9.out.step (drew_below _))
   have HM2a:=Hid.intro (HM29.out.below (drew_below _))
   have HM4a:=Hid.intro (HM49.out.below (drew_below _))
   have HM8a:=Hid.intro (HM89.out.below (drew_below _))
   clear HK9 HM29 HM49 HM89 ca cb
   refine OW.fieldAddr rfl rfl f25_0 rfl ?_
   simp only [Go.Act.put,List.setIfInBounds_toArray,List.set_cons_succ,List.set_cons_zero]
   refine OW.load rfl rfl l4 HKa.out.bx.c0 rfl ?_
   simp only [Go.Act.put,List.setIfInBounds_toArray,List.set_cons_succ,List.set_cons_zero]
   refine OW.move rfl rfl v2 rfl ?_
   simp only [Go.Act.put,List.setIfInBounds_toArray,List.set_cons_succ,List.set_cons_zero]
   refine OW.move rfl rfl v4 rfl ?_
   simp only [Go.Act.put,List.setIfInBounds_toArray,List.set_cons_succ,List.set_cons_zero]
   refine OW.move rfl rfl v8 rfl ?_
   simp only [Go.Act.put,List.setIfInBounds_toArray,List.set_cons_succ,List.set_cons_zero]
   refine OW.call rfl rfl Tryz.func136 rfl namesOK (args:=[v2,v4]) rfl ?_
   refine(add_calls w9.drew v2 v4 x y (L+L) HM2a.out HM4a.out H1L.out H2L.out (by omega)).mono ?_
   rintro e w10 ⟨v10,rfl,⟨hm10,_⟩,hB10⟩
   refine⟨v10,rfl,hB10,?_⟩
   simp only [Go.Act.put,List.setIfInBounds_toArray,List.set_cons_succ,List.set_cons_zero]
   have HKb:=Hid.intro (HKa.out.step hB10)
   have HM8b:=Hid.intro (HM8a.out.below hB10)
   have HM10:=Hid.intro hm10
   clear hm10 hB10 HKa HM2a HM4a HM8a
   refine OW.call rfl rfl Tryz.func130 rfl namesOK (args:=[.bool false,v10,v8]) rfl ?_
   refine(lowest_calls w10 false v10 v8 (x+y) D (L+L+1) HM10.out HM8b.out h30 ?_ ?_ (by omega)).mono ?_
   ·exact sum_len H1L.out H2L.out
   ·exact Nat.lt_of_lt_of_le H3L.out (pow_mono (by omega))
   rintro e w11 ⟨v11,rfl,hm11,hB11⟩
   refine⟨v11,rfl,hB11,?_⟩
   simp only [Go.Act.put,List.setIfInBounds_toArray,List.set_cons_succ,List.set_cons_zero]
   have HKc:=Hid.intro (HKb.out.step hB11)
   obtain⟨o,k,c,o2,k2,c2,rfl⟩:=hm11.form
   have HR11:=Hid.intro hm11
   obtain⟨f,hf⟩:=HKc.out.res
   have hst:=run_store25 hf (x:=.bool (decide ((frac false (x+y) D).num<0))) (y:=.slice o k c) (z:=.slice o2 k2 c2) rfl rfl rfl
   clear hm11 hB11 HKb HM8b HM10
   refine OW.store (w':=set3 w11 (g+1+1) (.bool (decide ((frac false (x+y) D).num<0))) (.slice o k c) (.slice o2 k2 c2)) rfl rfl (by decide) (store_run rfl rfl hst) ?_
   simp only [Go.Act.put]
   refine OW.done ?_
   gi_wp2
   refine ret_rat3 rfl rfl (g+1+1) rfl (hf 0 (by omega)).1 (hf 1 (by omega)).1 (hf 2 (by omega)).1 ?_
   refine⟨_,rfl,?_,?_⟩
   ·rw [HSum]
    exact((HR11.out.setElem HKc.out.el (by decide)).setElem (HKc.out.el.setCell _ _) (by decide)).setElem ((HKc.out.el.setCell _ _).setCell _ _) (by decide)
   ·have hle:=HKc.out.le
    exact((HKc.out.below.setCell (by show w.heap.size≤g+1+1;omega) _).setCell (by show w.heap.size≤g+1+1;omega) _).setCell (by show w.heap.size≤g+1+1;omega) _
  ·gi_wp2
   refine wpIn_region_ow (ro:=none) [4,6,7] [0,1,2,3,5,4,6,7] [0,1,0,0,12,0,63,127] follows 57 rfl (by kernel_rfl) (by kernel_rfl) ?_
   have HKa:=Hid.intro (HK9.out.step (drew_below _))
   have HM2a:=Hid.intro (HM29.out.below (drew_below _))
   have HM4a:=Hid.intro (HM49.out.below (drew_below _))
   have HM8a:=Hid.intro (HM89.out.below (drew_below _))
   clear HK9 HM29 HM49 HM89 ca cb
   refine OW.fieldAddr rfl rfl f25_0 rfl ?_
   simp only [Go.Act.put,List.setIfInBounds_toArray,List.set_cons_succ,List.set_cons_zero]
   refine OW.load rfl rfl l4 HKa.out.bx.c0 rfl ?_
   simp only [Go.Act.put,List.setIfInBounds_toArray,List.set_cons_succ,List.set_cons_zero]
   refine OW.move rfl rfl v2 rfl ?_
   simp only [Go.Act.put,List.setIfInBounds_toArray,List.set_cons_succ,List.set_cons_zero]
   refine OW.move rfl rfl v4 rfl ?_
   simp only [Go.Act.put,List.setIfInBounds_toArray,List.set_cons_succ,List.set_cons_zero]
   refine OW.move rfl rfl v8 rfl ?_
   simp only [Go.Act.put,List.setIfInBounds_toArray,List.set_cons_succ,List.set_cons_zero]
   refine OW.call rfl rfl Tryz.func136 rfl namesOK (args:=[v2,v4]) rfl ?_
   refine(add_calls w9.drew v2 v4 x y (L+L) HM2a.out HM4a.out H1L.out H2L.out (by omega)).mono ?_
   rintro e w10 ⟨v10,rfl,⟨hm10,_⟩,hB10⟩
   refine⟨v10,rfl,hB10,?_⟩
   simp only [Go.Act.put,List.setIfInBounds_toArray,List.set_cons_succ,List.set_cons_zero]
   have HKb:=Hid.intro (HKa.out.step hB10)
   have HM8b:=Hid.intro (HM8a.out.below hB10)
   have HM10:=Hid.intro hm10
   clear hm10 hB10 HKa HM2a HM4a HM8a
   refine OW.call rfl rfl Tryz.func130 rfl namesOK (args:=[.bool true,v10,v8]) rfl ?_
   refine(lowest_calls w10 true v10 v8 (x+y) D (L+L+1) HM10.out HM8b.out h30 ?_ ?_ (by omega)).mono ?_
   ·exact sum_len H1L.out H2L.out
   ·exact Nat.lt_of_lt_of_le H3L.out (pow_mono (by omega))
   rintro e w11 ⟨v11,rfl,hm11,hB11⟩
   refine⟨v11,rfl,hB11,?_⟩
   simp only [Go.Act.put,List.setIfInBounds_toArray,List.set_cons_succ,List.set_cons_zero]
   have HKc:=Hid.intro (HKb.out.step hB11)
   obtain⟨o,k,c,o2,k2,c2,rfl⟩:=hm11.form
   have HR11:=Hid.intro hm11
   obtain⟨f,hf⟩:=HKc.out.res
   have hst:=run_store25 hf (x:=.bool (decide ((frac true (x+y) D).num<0))) (y:=.slice o k c) (z:=.slice o2 k2 c2) rfl rfl rfl
   clear hm11 hB11 HKb HM8b HM10
   refine OW.store (w':=set3 w11 (g+1+1) (.bool (decide ((frac true (x+y) D).num<0))) (.slice o k c) (.slice o2 k2 c2)) rfl rfl (by decide) (store_run rfl rfl hst) ?_
   simp only [Go.Act.put]
   refine OW.done ?_
   gi_wp2
   refine ret_rat3 rfl rfl (g+1+1) rfl (hf 0 (by omega)).1 (hf 1 (by omega)).1 (hf 2 (by omega)).1 ?_
   refine⟨_,rfl,?_,?_⟩
   ·rw [HSum]
    exact((HR11.out.setElem HKc.out.el (by decide)).setElem (HKc.out.el.setCell _ _) (by decide)).setElem ((HKc.out.el.setCell _ _).setCell _ _) (by decide)
   ·have hle:=HKc.out.le
    exact((HKc.out.below.setCell (by show w.heap.size≤g+1+1;omega) _).setCell (by show w.heap.size≤g+1+1;omega) _).setCell (by show w.heap.size≤g+1+1;omega) _
 ·have HSum:=HS.out
  rw [if_neg hab]at HSum
  by_cases hyx:y≤x
  ·rw [if_pos hyx]at HSum
   have hr0:0≤r:=cmp_ge HR.out hyx
   cases na <;> cases nb
   ·exact absurd rfl hab
   ·gi_wp2
    refine wpIn_region_ow (ro:=none) [4,6,7] [0,1,2,3,5,4,6,7] [0,1,0,0,12,0,63,127] follows 57 rfl (by kernel_rfl) (by kernel_rfl) ?_
    have HKa:=Hid.intro (HK9.out.step (drew_below _))
    have HM2a:=Hid.intro (HM29.out.below (drew_below _))
    have HM4a:=Hid.intro (HM49.out.below (drew_below _))
    have HM8a:=Hid.intro (HM89.out.below (drew_below _))
    clear HK9 HM29 HM49 HM89 ca cb
    refine OW.fieldAddr rfl rfl f25_0 rfl ?_
    simp only [Go.Act.put,List.setIfInBounds_toArray,List.set_cons_succ,List.set_cons_zero]
    refine OW.load rfl rfl l4 HKa.out.bx.c0 rfl ?_
    simp only [Go.Act.put,List.setIfInBounds_toArray,List.set_cons_succ,List.set_cons_zero]
    refine OW.move rfl rfl v2 rfl ?_
    simp only [Go.Act.put,List.setIfInBounds_toArray,List.set_cons_succ,List.set_cons_zero]
    refine OW.move rfl rfl v4 rfl ?_
    simp only [Go.Act.put,List.setIfInBounds_toArray,List.set_cons_succ,List.set_cons_zero]
    refine OW.move rfl rfl v8 rfl ?_
    simp only [Go.Act.put,List.setIfInBounds_toArray,List.set_cons_succ,List.set_cons_zero]
    refine OW.call rfl rfl Tryz.func137 rfl namesOK (args:=[v2,v4]) rfl ?_
    refine(sub_calls w9.drew v2 v4 x y (L+L) HM2a.out HM4a.out hyx H1L.out (by omega)).mono ?_
    rintro e w10 ⟨v10,rfl,⟨hm10,_⟩,hB10⟩
    refine⟨v10,rfl,hB10,?_⟩
    simp only [Go.Act.put,List.setIfInBounds_toArray,List.set_cons_succ,List.set_cons_zero]
    have HKb:=Hid.intro (HKa.out.step hB10)
    have HM8b:=Hid.intro (HM8a.out.below hB10)
    have HM10:=Hid.intro hm10
    clear hm10 hB10 HKa HM2a HM4a HM8a
    refine OW.call rfl rfl Tryz.func130 rfl namesOK (args:=[.bool false,v10,v8]) rfl ?_
    refine(lowest_calls w10 false v10 v8 (x-y) D (L+L+1) HM10.out HM8b.out h30 ?_ ?_ (by omega)).mono ?_
    ·exact Nat.lt_of_le_of_lt (Nat.sub_le _ _) (Nat.lt_of_lt_of_le H1L.out (pow_mono (by omega)))
    ·exact Nat.lt_of_lt_of_le H3L.out (pow_mono (by omega))
    rintro e w11 ⟨v11,rfl,hm11,hB11⟩
    refine⟨v11,rfl,hB11,?_⟩
    simp only [Go.Act.put,List.setIfInBounds_toArray,List.set_cons_succ,List.set_cons_zero]
    have HKc:=Hid.intro (HKb.out.step hB11)
    obtain⟨o,k,c,o2,k2,c2,rfl⟩:=hm11.form
    have HR11:=Hid.intro hm11
    obtain⟨f,hf⟩:=HKc.out.res
    have hst:=run_store25 hf (x:=.bool (decide ((frac false (x-y) D).num<0))) (y:=.slice o k c) (z:=.slice o2 k2 c2) rfl rfl rfl
    clear hm11 hB11 HKb HM8b HM10
    refine OW.store (w':=set3 w11 (g+1+1) (.bool (decide ((frac false (x-y) D).num<0))) (.slice o k c) (.slice o2 k2 c2)) rfl rfl (by decide) (store_run rfl rfl hst) ?_
    simp only [Go.Act.put]
    refine OW.done ?_
    gi_wp2
    refine ret_rat3 rfl rfl (g+1+1) rfl (hf 0 (by omega)).1 (hf 1 (by omega)).1 (hf 2 (by omega)).1 ?_
    refine⟨_,rfl,?_,?_⟩
    ·rw [HSum]
     exact((HR11.out.setElem HKc.out.el (by decide)).setElem (HKc.out.el.setCell _ _) (by decide)).setElem ((HKc.out.el.setCell _ _).setCell _ _) (by decide)
    ·have hle:=HKc.out.le
     exact((HKc.out.below.setCell (by show w.heap.size≤g+1+1;omega) _).setCell (by show w.heap.size≤g+1+1;omega) _).setCell (by show w.heap.size≤g+1+1;omega) _
   ·gi_wp2
    refine wpIn_region_ow (ro:=none) [4,6,7] [0,1,2,3,5,4,6,7] [0,1,0,0,12,0,63,127] follows 57 rfl (by kernel_rfl) (by kernel_rfl) ?_
    have HKa:=Hid.intro (HK9.out.step (drew_below _))
    have HM2a:=Hid.intro (HM29.out.below (drew_below _))
    have HM4a:=Hid.intro (HM49.out.below (drew_below _))
    have HM8a:=Hid.intro (HM89.out.below (drew_below _))
    clear HK9 HM29 HM49 HM89 ca cb
    refine OW.fieldAddr rfl rfl f25_0 rfl ?_
    simp only [Go.Act.put,List.setIfInBounds_toArray,List.set_cons_succ,List.set_cons_zero]
    refine OW.load rfl rfl l4 HKa.out.bx.c0 rfl ?_
    simp only [Go.Act.put,List.setIfInBounds_toArray,List.set_cons_succ,List.set_cons_zero]
    refine OW.move rfl rfl v2 rfl ?_
    simp only [Go.Act.put,List.setIfInBounds_toArray,List.set_cons_succ,List.set_cons_zero]
    refine OW.move rfl rfl v4 rfl ?_
    simp only [Go.Act.put,List.setIfInBounds_toArray,List.set_cons_succ,List.set_cons_zero]
    refine OW.move rfl rfl v8 rfl ?_
    simp only [Go.Act.put,List.setIfInBounds_toArray,List.set_cons_succ,List.set_cons_zero]
    refine OW.call rfl rfl Tryz.func137 rfl namesOK (args:=[v2,v4]) rfl ?_
    refine(sub_calls w9.drew v2 v4 x y (L+L) HM2a.out HM4a.out hyx H1L.out (by omega)).mono ?_
    rintro e w10 ⟨v10,rfl,⟨hm10,_⟩,hB10⟩
    refine⟨v10,rfl,hB10,?_⟩
    simp only [Go.Act.put,List.setIfInBounds_toArray,List.set_cons_succ,List.set_cons_zero]
    have HKb:=Hid.intro (HKa.out.step hB10)
    have HM8b:=Hid.intro (HM8a.out.below hB10)
    have HM10:=Hid.intro hm10
    clear hm10 hB10 HKa HM2a HM4a HM8a
    refine OW.call rfl rfl Tryz.func130 rfl namesOK (args:=[.bool true,v10,v8]) rfl ?_
    refine(lowest_calls w10 true v10 v8 (x-y) D (L+L+1) HM10.out HM8b.out h30 ?_ ?_ (by omega)).mono ?_
    ·exact Nat.lt_of_le_of_lt (Nat.sub_le _ _) (Nat.lt_of_lt_of_le H1L.out (pow_mono (by omega)))
    ·exact Nat.lt_of_lt_of_le H3L.out (pow_mono (by omega))
    rintro e w11 ⟨v11,rfl,hm11,hB11⟩
    refine⟨v11,rfl,hB11,?_⟩
    simp only [Go.Act.put,List.setIfInBounds_toArray,List.set_cons_succ,List.set_cons_zero]
    have HKc:=Hid.intro (HKb.out.step hB11)
    obtain⟨o,k,c,o2,k2,c2,rfl⟩:=hm11.form
    have HR11:=Hid.intro hm11
    obtain⟨f,hf⟩:=HKc.out.res
    have hst:=run_store25 hf (x:=.bool (decide ((frac true (x-y) D).num<0))) (y:=.slice o k c) (z:=.slice o2 k2 c2) rfl rfl rfl
    clear hm11 hB11 HKb HM8b HM10
    refine OW.store (w':=set3 w11 (g+1+1) (.bool (decide ((frac true (x-y) D).num<0))) (.slice o k c) (.slice o2 k2 c2)) rfl rfl (by decide) (store_run rfl rfl hst) ?_
    simp only [Go.Act.put]
    refine OW.done ?_
    gi_wp2
    refine ret_rat3 rfl rfl (g+1+1) rfl (hf 0 (by omega)).1 (hf 1 (by omega)).1 (hf 2 (by omega)).1 ?_
    refine⟨_,rfl,?_,?_⟩
    ·rw [HSum]
     exact((HR11.out.setElem HKc.out.el (by decide)).setElem (HKc.out.el.setCell _ _) (by decide)).setElem ((HKc.out.el.setCell _ _).setCell _ _) (by decide)
    ·have hle:=HKc.out.le
     exact((HKc.out.below.setCell (by show w.heap.size≤g+1+1;omega) _).setCell (by show w.heap.size≤g+1+1;omega) _).setCell (by show w.heap.size≤g+1+1;omega) _
   ·exact absurd rfl hab
  ·rw [if_neg hyx]at HSum
   have hr0:r<0:=HR.out.1.2 (by omega)
   have hr1:¬0≤r:=by omega
   cases na <;> cases nb
   ·exact absurd rfl hab
   ·gi_wp2
    refine wpIn_region_ow (ro:=none) [4,6,7] [0,1,2,3,5,4,6,7] [0,1,0,0,12,0,63,127] follows 57 rfl (by kernel_rfl) (by kernel_rfl) ?_
    have HKa:=Hid.intro (HK9.out.step (drew_below _))
    have HM2a:=Hid.intro (HM29.out.below (drew_below _))
    have HM4a:=Hid.intro (HM49.out.below (drew_below _))
    have HM8a:=Hid.intro (HM89.out.below (drew_below _))
    clear HK9 HM29 HM49 HM89 ca cb
    refine OW.fieldAddr rfl rfl f25_0 rfl ?_
    simp only [Go.Act.put,List.setIfInBounds_toArray,List.set_cons_succ,List.set_cons_zero]
    refine OW.load rfl rfl l4 HKa.out.by'.c0 rfl ?_
    simp only [Go.Act.put,List.setIfInBounds_toArray,List.set_cons_succ,List.set_cons_zero]
    refine OW.move rfl rfl v4 rfl ?_
    simp only [Go.Act.put,List.setIfInBounds_toArray,List.set_cons_succ,List.set_cons_zero]
    refine OW.move rfl rfl v2 rfl ?_
    simp only [Go.Act.put,List.setIfInBounds_toArray,List.set_cons_succ,List.set_cons_zero]
    refine OW.move rfl rfl v8 rfl ?_
    simp only [Go.Act.put,List.setIfInBounds_toArray,List.set_cons_succ,List.set_cons_zero]
    refine OW.call rfl rfl Tryz.func137 rfl namesOK (args:=[v4,v2]) rfl ?_
    refine(sub_calls w9.drew v4 v2 y x (L+L) HM4a.out HM2a.out (by omega) H2L.out (by omega)).mono ?_
    rintro e w10 ⟨v10,rfl,⟨hm10,_⟩,hB10⟩
    refine⟨v10,rfl,hB10,?_⟩
    simp only [Go.Act.put,List.setIfInBounds_toArray,List.set_cons_succ,List.set_cons_zero]
    have HKb:=Hid.intro (HKa.out.step hB10)
    have HM8b:=Hid.intro (HM8a.out.below hB10)
    have HM10:=Hid.intro hm10
    clear hm10 hB10 HKa HM2a HM4a HM8a
    refine OW.call rfl rfl Tryz.func130 rfl namesOK (args:=[.bool true,v10,v8]) rfl ?_
    refine(lowest_calls w10 true v10 v8 (y-x) D (L+L+1) HM10.out HM8b.out h30 ?_ ?_ (by omega)).mono ?_
    ·exact Nat.lt_of_le_of_lt (Nat.sub_le _ _) (Nat.lt_of_lt_of_le H2L.out (pow_mono (by omega)))
    ·exact Nat.lt_of_lt_of_le H3L.out (pow_mono (by omega))
    rintro e w11 ⟨v11,rfl,hm11,hB11⟩
    refine⟨v11,rfl,hB11,?_⟩
    simp only [Go.Act.put,List.setIfInBounds_toArray,List.set_cons_succ,List.set_cons_zero]
    have HKc:=Hid.intro (HKb.out.step hB11)
    obtain⟨o,k,c,o2,k2,c2,rfl⟩:=hm11.form
    have HR11:=Hid.intro hm11
    obtain⟨f,hf⟩:=HKc.out.res
    have hst:=run_store25 hf (x:=.bool (decide ((frac true (y-x) D).num<0))) (y:=.slice o k c) (z:=.slice o2 k2 c2) rfl rfl rfl
    clear hm11 hB11 HKb HM8b HM10
    refine OW.store (w':=set3 w11 (g+1+1) (.bool (decide ((frac true (y-x) D).num<0))) (.slice o k c) (.slice o2 k2 c2)) rfl rfl (by decide) (store_run rfl rfl hst) ?_
    simp only [Go.Act.put]
    refine OW.done ?_
    gi_wp2
    refine ret_rat3 rfl rfl (g+1+1) rfl (hf 0 (by omega)).1 (hf 1 (by omega)).1 (hf 2 (by omega)).1 ?_
    refine⟨_,rfl,?_,?_⟩
    ·rw [HSum]
     exact((HR11.out.setElem HKc.out.el (by decide)).setElem (HKc.out.el.setCell _ _) (by decide)).setElem ((HKc.out.el.setCell _ _).setCell _ _) (by decide)
    ·have hle:=HKc.out.le
     exact((HKc.out.below.setCell (by show w.heap.size≤g+1+1;omega) _).setCell (by show w.heap.size≤g+1+1;omega) _).setCell (by show w.heap.size≤g+1+1;omega) _
   ·gi_wp2
    refine wpIn_region_ow (ro:=none) [4,6,7] [0,1,2,3,5,4,6,7] [0,1,0,0,12,0,63,127] follows 57 rfl (by kernel_rfl) (by kernel_rfl) ?_
    have HKa:=Hid.intro (HK9.out.step (drew_below _))
    have HM2a:=Hid.intro (HM29.out.below (drew_below _))
    have HM4a:=Hid.intro (HM49.out.below (drew_below _))
    have HM8a:=Hid.intro (HM89.out.below (drew_below _))
    clear HK9 HM29 HM49 HM89 ca cb
    refine OW.fieldAddr rfl rfl f25_0 rfl ?_
    simp only [Go.Act.put,List.setIfInBounds_toArray,List.set_cons_succ,List.set_cons_zero]
    refine OW.load rfl rfl l4 HKa.out.by'.c0 rfl ?_
    simp only [Go.Act.put,List.setIfInBounds_toArray,List.set_cons_succ,List.set_cons_zero]
    refine OW.move rfl rfl v4 rfl ?_
    simp only [Go.Act.put,List.setIfInBounds_toArray,List.set_cons_succ,List.set_cons_zero]
    refine OW.move rfl rfl v2 rfl ?_
    simp only [Go.Act.put,List.setIfInBounds_toArray,List.set_cons_succ,List.set_cons_zero]
    refine OW.move rfl rfl v8 rfl ?_
    simp only [Go.Act.put,List.setIfInBounds_toArray,List.set_cons_succ,List.set_cons_zero]
    refine OW.call rfl rfl Tryz.func137 rfl namesOK (args:=[v4,v2]) rfl ?_
    refine(sub_calls w9.drew v4 v2 y x (L+L) HM4a.out HM2a.out (by omega) H2L.out (by omega)).mono ?_
    rintro e w10 ⟨v10,rfl,⟨hm10,_⟩,hB10⟩
    refine⟨v10,rfl,hB10,?_⟩
    simp only [Go.Act.put,List.setIfInBounds_toArray,List.set_cons_succ,List.set_cons_zero]
    have HKb:=Hid.intro (HKa.out.step hB10)
    have HM8b:=Hid.intro (HM8a.out.below hB10)
    have HM10:=Hid.intro hm10
    clear hm10 hB10 HKa HM2a HM4a HM8a
    refine OW.call rfl rfl Tryz.func130 rfl namesOK (args:=[.bool false,v10,v8]) rfl ?_
    refine(lowest_calls w10 false v10 v8 (y-x) D (L+L+1) HM10.out HM8b.out h30 ?_ ?_ (by omega)).mono ?_
    ·exact Nat.lt_of_le_of_lt (Nat.sub_le _ _) (Nat.lt_of_lt_of_le H2L.out (pow_mono (by omega)))
    ·exact Nat.lt_of_lt_of_le H3L.out (pow_mono (by omega))
    rintro e w11 ⟨v11,rfl,hm11,hB11⟩
    refine⟨v11,rfl,hB11,?_⟩
    simp only [Go.Act.put,List.setIfInBounds_toArray,List.set_cons_succ,List.set_cons_zero]
    have HKc:=Hid.intro (HKb.out.step hB11)
    obtain⟨o,k,c,o2,k2,c2,rfl⟩:=hm11.form
    have HR11:=Hid.intro hm11
    obtain⟨f,hf⟩:=HKc.out.res
    have hst:=run_store25 hf (x:=.bool (decide ((frac false (y-x) D).num<0))) (y:=.slice o k c) (z:=.slice o2 k2 c2) rfl rfl rfl
    clear hm11 hB11 HKb HM8b HM10
    refine OW.store (w':=set3 w11 (g+1+1) (.bool (decide ((frac false (y-x) D).num<0))) (.slice o k c) (.slice o2 k2 c2)) rfl rfl (by decide) (store_run rfl rfl hst) ?_
    simp only [Go.Act.put]
    refine OW.done ?_
    gi_wp2
    refine ret_rat3 rfl rfl (g+1+1) rfl (hf 0 (by omega)).1 (hf 1 (by omega)).1 (hf 2 (by omega)).1 ?_
    refine⟨_,rfl,?_,?_⟩
    ·rw [HSum]
     exact((HR11.out.setElem HKc.out.el (by decide)).setElem (HKc.out.el.setCell _ _) (by decide)).setElem ((HKc.out.el.setCell _ _).setCell _ _) (by decide)
    ·have hle:=HKc.out.le
     exact((HKc.out.below.setCell (by show w.heap.size≤g+1+1;omega) _).setCell (by show w.heap.size≤g+1+1;omega) _).setCell (by show w.heap.size≤g+1+1;omega) _
   ·exact absurd rfl hab
theorem rat_prod(p q:Rat):p*q=frac (decide (p.num<0) != decide (q.num<0)) (p.num.natAbs*q.num.natAbs) (p.den*q.den):=by
 rw [←frac_times,frac_self,frac_self]
theorem rat_quot(p q:Rat):p/q=frac (decide (p.num<0) != decide (q.num<0)) (p.num.natAbs*q.den) (p.den*q.num.natAbs):=by
 rw [←frac_over,frac_self,frac_self]
set_option maxRecDepth 100000 in
set_option maxHeartbeats 8000000 in
theorem times_calls(w:World)(va vb:Value)(p q:Rat)(L:Nat)(ha:RatAt w va p)(hb:RatAt w vb q)(hp:RatLe p L)(hq:RatLe q L)(hL:L≤1000000) :
  CallsIn Fence.wide 0 Tryz.prog 111 #[va,vb] w fun e w'=>∃v',e = .returned v'∧RatAt w' v' (p*q)∧Below w.heap.size w w':=by
 have HA:=Hid.intro ha
 have HB:=Hid.intro hb
 have HP:=Hid.intro hp
 have HQ:=Hid.intro hq
 obtain⟨an,ad,rfl,han,had⟩:=ha
 obtain⟨bn,bd,rfl,hbn,hbd⟩:=hb
 have HAN:=Hid.intro han
 have HBN:=Hid.intro hbn
 have hS:=rat_prod p q
 obtain⟨na,hna⟩:∃na,decide (p.num<0)=na:=⟨_,rfl⟩
 obtain⟨nb,hnb⟩:∃nb,decide (q.num<0)=nb:=⟨_,rfl⟩
 rw [hna]at HA hS
 rw [hnb]at HB hS
 rw [hna,hnb]
 have HSum:=Hid.intro hS
 clear han had hbn hbd hna hnb hp hq hS
 refine callsIn_of_wp Tryz.func111 rfl trivial ?_ rfl
 simp only [Tryz.ntmps111,List.size_toArray,List.length_cons,List.length_nil,Nat.reduceAdd,Nat.reduceSub,Array.replicate_succ,Array.replicate_zero,List.push_toArray,List.append_toArray,List.nil_append,List.cons_append]
 gi_wp2
 obtain⟨W,hW⟩:∃W,W=((w.alloc (Obj.cells #[Value.bool na,an,ad] 27)).alloc (Obj.cells #[Value.bool nb,bn,bd] 27)).alloc (Obj.cells #[Value.bool false,Value.slice none 0 0,Value.slice none 0 0] 27):=⟨_,rfl⟩
 rw [←hW]
 have HK:Hid (RatKept w W w.heap.size (.bool na) an ad (.bool nb) bn bd):=by
  rw [hW];exact ratKept_new w _ _ _ _ _ _ _ _ _ _
 replace HA:=Hid.intro (HA.out.below HK.out.below)
 replace HB:=Hid.intro (HB.out.below HK.out.below)
 replace HAN:=Hid.intro (HAN.out.below HK.out.below)
 replace HBN:=Hid.intro (HBN.out.below HK.out.below)
 obtain⟨g,hg⟩:∃g,w.heap.size=g:=⟨_,rfl⟩
 rw [hg]at HK
 rw [hg]
 clear hW
 refine wpIn_region_ow (ro:=none) [9,11,13,14,15,16] [0,1,2,3,4,5,6,7,8,10,12,9,11,13,14,15,16] [0,1,0,4,15,0,32,0,128,480,0,2016,0,8160,16352,32767,65535] follows 21 rfl (by kernel_rfl) (by kernel_rfl) ?_
 replace HK:=Hid.intro (HK.out.step (drew_below _))
 replace HA:=Hid.intro (HA.out.below (drew_below _))
 replace HB:=Hid.intro (HB.out.below (drew_below _))
 replace HAN:=Hid.intro (HAN.out.below (drew_below _))
 replace HBN:=Hid.intro (HBN.out.below (drew_below _))
 refine OW.fieldAddr rfl rfl f25_0 rfl ?_
 simp only [Go.Act.put,List.setIfInBounds_toArray,List.set_cons_succ,List.set_cons_zero]
 refine OW.load rfl rfl l4 HK.out.bx.c0 rfl ?_
 simp only [Go.Act.put,List.setIfInBounds_toArray,List.set_cons_succ,List.set_cons_zero]
 refine OW.fieldAddr rfl rfl f25_0 rfl ?_
 simp only [Go.Act.put,List.setIfInBounds_toArray,List.set_cons_succ,List.set_cons_zero]
 refine OW.load rfl rfl l4 HK.out.by'.c0 rfl ?_
 simp only [Go.Act.put,List.setIfInBounds_toArray,List.set_cons_succ,List.set_cons_zero]
 refine OW.neqBool rfl rfl ub4 rfl rfl ?_
 simp only [Go.Act.put,List.setIfInBounds_toArray,List.set_cons_succ,List.set_cons_zero]
 refine OW.fieldAddr rfl rfl f25_1 rfl ?_
 simp only [Go.Act.put,List.setIfInBounds_toArray,List.set_cons_succ,List.set_cons_zero]
 refine OW.load rfl rfl l23 HK.out.bx.c1 rfl ?_
 simp only [Go.Act.put,List.setIfInBounds_toArray,List.set_cons_succ,List.set_cons_zero]
 refine OW.fieldAddr rfl rfl f25_1 rfl ?_
 simp only [Go.Act.put,List.setIfInBounds_toArray,List.set_cons_succ,List.set_cons_zero]
 refine OW.load rfl rfl l23 HK.out.by'.c1 rfl ?_
 simp only [Go.Act.put,List.setIfInBounds_toArray,List.set_cons_succ,List.set_cons_zero]
 refine OW.loadAll rfl rfl l25 (cs:=[.bool na,an,ad]) rfl (by decide) HK.out.bx rfl ?_
 simp only [Go.Act.put,List.setIfInBounds_toArray,List.set_cons_succ,List.set_cons_zero]
 refine OW.loadAll rfl rfl l25 (cs:=[.bool nb,bn,bd]) rfl (by decide) HK.out.by' rfl ?_
 simp only [Go.Act.put,List.setIfInBounds_toArray,List.set_cons_succ,List.set_cons_zero]
 refine OW.call rfl rfl Tryz.func131 rfl namesOK (args:=[an,bn]) rfl ?_
 refine(mul_calls W.drew an bn p.num.natAbs q.num.natAbs L HAN.out HBN.out HP.out.1 HQ.out.1 (by omega)).mono ?_
 rintro e w1 ⟨v2,rfl,⟨hm2,_⟩,hB⟩
 refine⟨v2,rfl,hB,?_⟩
 simp only [Go.Act.put,List.setIfInBounds_toArray,List.set_cons_succ,List.set_cons_zero]
 replace HK:=Hid.intro (HK.out.step hB)
 replace HA:=Hid.intro (HA.out.below hB)
 replace HB:=Hid.intro (HB.out.below hB)
 replace HAN:=Hid.intro (HAN.out.below hB)
 replace HBN:=Hid.intro (HBN.out.below hB)
 have HM2:=Hid.intro hm2
 clear hB
 refine OW.call rfl rfl Tryz.func132 rfl namesOK (args:=[.agg #[.bool na,an,ad]]) rfl ?_
 refine(bottom_calls w1 _ p HA.out).mono ?_
 rintro e w2 ⟨v3,rfl,hm3,hB⟩
 refine⟨v3,rfl,hB,?_⟩
 simp only [Go.Act.put,List.setIfInBounds_toArray,List.set_cons_succ,List.set_cons_zero]
 replace HK:=Hid.intro (HK.out.step hB)
 replace HA:=Hid.intro (HA.out.below hB)
 replace HB:=Hid.intro (HB.out.below hB)
 replace HAN:=Hid.intro (HAN.out.below hB)
 replace HBN:=Hid.intro (HBN.out.below hB)
 replace HM2:=Hid.intro (HM2.out.below hB)
 have HM3:=Hid.intro hm3
 clear hB
 refine OW.call rfl rfl Tryz.func132 rfl namesOK (args:=[.agg #[.bool nb,bn,bd]]) rfl ?_
 refine(bottom_calls w2 _ q HB.out).mono ?_
 rintro e w3 ⟨v5,rfl,hm5,hB⟩
 refine⟨v5,rfl,hB,?_⟩
 simp only [Go.Act.put,List.setIfInBounds_toArray,List.set_cons_succ,List.set_cons_zero]
 replace HK:=Hid.intro (HK.out.step hB)
 replace HA:=Hid.intro (HA.out.below hB)
 replace HB:=Hid.intro (HB.out.below hB)
 replace HAN:=Hid.intro (HAN.out.below hB)
 replace HBN:=Hid.intro (HBN.out.below hB)
 replace HM2:=Hid.intro (HM2.out.below hB)
 replace HM3:=Hid.intro (HM3.out.below hB)
 have HM5:=Hid.intro hm5
 clear hB
 refine OW.call rfl rfl Tryz.func131 rfl namesOK (args:=[v3,v5]) rfl ?_
 refine(mul_calls w3 v3 v5 p.den q.den L HM3.out HM5.out HP.out.2 HQ.out.2 (by omega)).mono ?_
 rintro e w4 ⟨v4,rfl,⟨hm4,_⟩,hB⟩
 refine⟨v4,rfl,hB,?_⟩
 simp only [Go.Act.put,List.setIfInBounds_toArray,List.set_cons_succ,List.set_cons_zero]
 replace HK:=Hid.intro (HK.out.step hB)
 replace HA:=Hid.intro (HA.out.below hB)
 replace HB:=Hid.intro (HB.out.below hB)
 replace HAN:=Hid.intro (HAN.out.below hB)
 replace HBN:=Hid.intro (HBN.out.below hB)
 replace HM2:=Hid.intro (HM2.out.below hB)
 replace HM3:=Hid.intro (HM3.out.below hB)
 replace HM5:=Hid.intro (HM5.out.below hB)
 have HM4:=Hid.intro hm4
 clear hB
 obtain⟨X,hX⟩:∃X,p.num.natAbs*q.num.natAbs=X:=⟨_,rfl⟩
 obtain⟨D,hD⟩:∃D,p.den*q.den=D:=⟨_,rfl⟩
 have hS:=HSum.out
 have hX2:X<B^(L+L):=by rw [←hX];exact prod_len HP.out.1 HQ.out.1
 have hD2:D<B^(L+L):=by rw [←hD];exact prod_len HP.out.2 HQ.out.2
 have hD0:D≠0:=by rw [←hD];exact Nat.mul_ne_zero p.den_nz q.den_nz
 rw [hX,hD]at hS
 rw [hX]at HM2
 rw [hD]at HM4
 replace HSum:=Hid.intro hS
 have HX2:=Hid.intro hX2
 have HD2:=Hid.intro hD2
 clear hS hX hD hX2 hD2
 refine OW.call rfl rfl Tryz.func130 rfl namesOK (args:=[.bool (na != nb),v2,v4]) rfl ?_
 refine(lowest_calls w4 (na != nb) v2 v4 X D (L+L) HM2.out HM4.out hD0 HX2.out HD2.out (by omega)).mono ?_
 rintro e w5 ⟨v6,rfl,hm6,hB⟩
 refine⟨v6,rfl,hB,?_⟩
 simp only [Go.Act.put,List.setIfInBounds_toArray,List.set_cons_succ,List.set_cons_zero]
 replace HK:=Hid.intro (HK.out.step hB)
 replace HA:=Hid.intro (HA.out.below hB)
 replace HB:=Hid.intro (HB.out.below hB)
 replace HAN:=Hid.intro (HAN.out.below hB)
 replace HBN:=Hid.intro (HBN.out.below hB)
 replace HM2:=Hid.intro (HM2.out.below hB)
 replace HM3:=Hid.intro (HM3.out.below hB)
 replace HM5:=Hid.intro (HM5.out.below hB)
 replace HM4:=Hid.intro (HM4.out.below hB)
 have HR:=Hid.intro hm6
 clear hB
 obtain⟨o,k,c,o2,k2,c2,rfl⟩:=hm6.form
 obtain⟨f,hf⟩:=HK.out.res
 have hst:=run_store25 hf (x:=.bool (decide ((frac (na != nb) X D).num<0))) (y:=.slice o k c) (z:=.slice o2 k2 c2) rfl rfl rfl
 refine OW.store (w':=set3 w5 (g+1+1) (.bool (decide ((frac (na != nb) X D).num<0))) (.slice o k c) (.slice o2 k2 c2)) rfl rfl (by decide) (store_run rfl rfl hst) ?_
 simp only [Go.Act.put]
 refine OW.done ?_
 gi_wp2
 refine ret_rat3 rfl rfl (g+1+1) rfl (hf 0 (by omega)).1 (hf 1 (by omega)).1 (hf 2 (by omega)).1 ?_
 refine⟨_,rfl,?_,?_⟩
 ·rw [HSum.out]
  exact((HR.out.setElem HK.out.el (by decide)).setElem (HK.out.el.setCell _ _) (by decide)).setElem ((HK.out.el.setCell _ _).setCell _ _) (by decide)
 ·have hle:=HK.out.le
  exact((HK.out.below.setCell (by show w.heap.size≤g+1+1;omega) _).setCell (by show w.heap.size≤g+1+1;omega) _).setCell (by show w.heap.size≤g+1+1;omega) _
set_option maxRecDepth 100000 in
set_option maxHeartbeats 8000000 in
theorem over_calls(w:World)(va vb:Value)(p q:Rat)(L:Nat)(ha:RatAt w va p)(hb:RatAt w vb q)(hp:RatLe p L)(hq:RatLe q L)(hq0:q.num≠0)(hL:L≤1000000) :
  CallsIn Fence.wide 0 Tryz.prog 61 #[va,vb] w fun e w'=>∃v',e = .returned v'∧RatAt w' v' (p/q)∧Below w.heap.size w w':=by
 have HA:=Hid.intro ha
 have HB:=Hid.intro hb
 have HP:=Hid.intro hp
 have HQ:=Hid.intro hq
 obtain⟨an,ad,rfl,han,had⟩:=ha
 obtain⟨bn,bd,rfl,hbn,hbd⟩:=hb
 have HAN:=Hid.intro han
 have HBN:=Hid.intro hbn
 have hS:=rat_quot p q
 obtain⟨na,hna⟩:∃na,decide (p.num<0)=na:=⟨_,rfl⟩
 obtain⟨nb,hnb⟩:∃nb,decide (q.num<0)=nb:=⟨_,rfl⟩
 rw [hna]at HA hS
 rw [hnb]at HB hS
 rw [hna,hnb]
 have HSum:=Hid.intro hS
 clear han had hbn hbd hna hnb hp hq hS
 refine callsIn_of_wp Tryz.func61 rfl trivial ?_ rfl
 simp only [Tryz.ntmps61,List.size_toArray,List.length_cons,List.length_nil,Nat.reduceAdd,Nat.reduceSub,Array.replicate_succ,Array.replicate_zero,List.push_toArray,List.append_toArray,List.nil_append,List.cons_append]
 gi_wp2
 obtain⟨W,hW⟩:∃W,W=((w.alloc (Obj.cells #[Value.bool na,an,ad] 27)).alloc (Obj.cells #[Value.bool nb,bn,bd] 27)).alloc (Obj.cells #[Value.bool false,Value.slice none 0 0,Value.slice none 0 0] 27):=⟨_,rfl⟩
 rw [←hW]
 have HK:Hid (RatKept w W w.heap.size (.bool na) an ad (.bool nb) bn bd):=by
  rw [hW];exact ratKept_new w _ _ _ _ _ _ _ _ _ _
 replace HA:=Hid.intro (HA.out.below HK.out.below)
 replace HB:=Hid.intro (HB.out.below HK.out.below)
 replace HAN:=Hid.intro (HAN.out.below HK.out.below)
 replace HBN:=Hid.intro (HBN.out.below HK.out.below)
 obtain⟨g,hg⟩:∃g,w.heap.size=g:=⟨_,rfl⟩
 rw [hg]at HK
 rw [hg]
 clear hW
 refine wpIn_region_ow (ro:=none) [8,9,11,14,15,16] [0,1,2,3,4,5,6,7,10,12,13,8,9,11,14,15,16] [0,1,0,4,15,0,32,0,128,480,0,2016,0,4096,16352,32767,65535] follows 21 rfl (by kernel_rfl) (by kernel_rfl) ?_
 replace HK:=Hid.intro (HK.out.step (drew_below _))
 replace HA:=Hid.intro (HA.out.below (drew_below _))
 replace HB:=Hid.intro (HB.out.below (drew_below _))
 replace HAN:=Hid.intro (HAN.out.below (drew_below _))
 replace HBN:=Hid.intro (HBN.out.below (drew_below _))
 refine OW.fieldAddr rfl rfl f25_0 rfl ?_
 simp only [Go.Act.put,List.setIfInBounds_toArray,List.set_cons_succ,List.set_cons_zero]
 refine OW.load rfl rfl l4 HK.out.bx.c0 rfl ?_
 simp only [Go.Act.put,List.setIfInBounds_toArray,List.set_cons_succ,List.set_cons_zero]
 refine OW.fieldAddr rfl rfl f25_0 rfl ?_
 simp only [Go.Act.put,List.setIfInBounds_toArray,List.set_cons_succ,List.set_cons_zero]
 refine OW.load rfl rfl l4 HK.out.by'.c0 rfl ?_
 simp only [Go.Act.put,List.setIfInBounds_toArray,List.set_cons_succ,List.set_cons_zero]
 refine OW.neqBool rfl rfl ub4 rfl rfl ?_
 simp only [Go.Act.put,List.setIfInBounds_toArray,List.set_cons_succ,List.set_cons_zero]
 refine OW.fieldAddr rfl rfl f25_1 rfl ?_
 simp only [Go.Act.put,List.setIfInBounds_toArray,List.set_cons_succ,List.set_cons_zero]
 refine OW.load rfl rfl l23 HK.out.bx.c1 rfl ?_
 simp only [Go.Act.put,List.setIfInBounds_toArray,List.set_cons_succ,List.set_cons_zero]
 refine OW.loadAll rfl rfl l25 (cs:=[.bool nb,bn,bd]) rfl (by decide) HK.out.by' rfl ?_
 simp only [Go.Act.put,List.setIfInBounds_toArray,List.set_cons_succ,List.set_cons_zero]
 refine OW.loadAll rfl rfl l25 (cs:=[.bool na,an,ad]) rfl (by decide) HK.out.bx rfl ?_
 simp only [Go.Act.put,List.setIfInBounds_toArray,List.set_cons_succ,List.set_cons_zero]
 refine OW.fieldAddr rfl rfl f25_1 rfl ?_
 simp only [Go.Act.put,List.setIfInBounds_toArray,List.set_cons_succ,List.set_cons_zero]
 refine OW.load rfl rfl l23 HK.out.by'.c1 rfl ?_
 simp only [Go.Act.put,List.setIfInBounds_toArray,List.set_cons_succ,List.set_cons_zero]
 refine OW.call rfl rfl Tryz.func132 rfl namesOK (args:=[.agg #[.bool nb,bn,bd]]) rfl ?_
 refine(bottom_calls W.drew _ q HB.out).mono ?_
 rintro e w1 ⟨v1,rfl,hm,hB⟩
 refine⟨v1,rfl,hB,?_⟩
 simp only [Go.Act.put,List.setIfInBounds_toArray,List.set_cons_succ,List.set_cons_zero]
 replace HK:=Hid.intro (HK.out.step hB)
 replace HA:=Hid.intro (HA.out.below hB)
 replace HB:=Hid.intro (HB.out.below hB)
 replace HAN:=Hid.intro (HAN.out.below hB)
 replace HBN:=Hid.intro (HBN.out.below hB)
 have HM1:=Hid.intro hm
 clear hB
 refine OW.call rfl rfl Tryz.func131 rfl namesOK (args:=[an,v1]) rfl ?_
 refine(mul_calls w1 an v1 p.num.natAbs q.den L HAN.out HM1.out HP.out.1 HQ.out.2 (by omega)).mono ?_
 rintro e w2 ⟨v2,rfl,⟨hm2,_⟩,hB⟩
 refine⟨v2,rfl,hB,?_⟩
 simp only [Go.Act.put,List.setIfInBounds_toArray,List.set_cons_succ,List.set_cons_zero]
 replace HK:=Hid.intro (HK.out.step hB)
 replace HA:=Hid.intro (HA.out.below hB)
 replace HB:=Hid.intro (HB.out.below hB)
 replace HAN:=Hid.intro (HAN.out.below hB)
 replace HBN:=Hid.intro (HBN.out.below hB)
 replace HM1:=Hid.intro (HM1.out.below hB)
 have HM2:=Hid.intro hm2
 clear hB
 refine OW.call rfl rfl Tryz.func132 rfl namesOK (args:=[.agg #[.bool na,an,ad]]) rfl ?_
 refine(bottom_calls w2 _ p HA.out).mono ?_
 rintro e w3 ⟨v3,rfl,hm3,hB⟩
 refine⟨v3,rfl,hB,?_⟩
 simp only [Go.Act.put,List.setIfInBounds_toArray,List.set_cons_succ,List.set_cons_zero]
 replace HK:=Hid.intro (HK.out.step hB)
 replace HA:=Hid.intro (HA.out.below hB)
 replace HB:=Hid.intro (HB.out.below hB)
 replace HAN:=Hid.intro (HAN.out.below hB)
 replace HBN:=Hid.intro (HBN.out.below hB)
 replace HM1:=Hid.intro (HM1.out.below hB)
 replace HM2:=Hid.intro (HM2.out.below hB)
 have HM3:=Hid.intro hm3
 clear hB
 refine OW.call rfl rfl Tryz.func131 rfl namesOK (args:=[v3,bn]) rfl ?_
 refine(mul_calls w3 v3 bn p.den q.num.natAbs L HM3.out HBN.out HP.out.2 HQ.out.1 (by omega)).mono ?_
 rintro e w4 ⟨v4,rfl,⟨hm4,_⟩,hB⟩
 refine⟨v4,rfl,hB,?_⟩
 simp only [Go.Act.put,List.setIfInBounds_toArray,List.set_cons_succ,List.set_cons_zero]
 replace HK:=Hid.intro (HK.out.step hB)
 replace HA:=Hid.intro (HA.out.below hB)
 replace HB:=Hid.intro (HB.out.below hB)
 replace HAN:=Hid.intro (HAN.out.below hB)
 replace HBN:=Hid.intro (HBN.out.below hB)
 replace HM1:=Hid.intro (HM1.out.below hB)
 replace HM2:=Hid.intro (HM2.out.below hB)
 replace HM3:=Hid.intro (HM3.out.below hB)
 have HM4:=Hid.intro hm4
 clear hB
 obtain⟨X,hX⟩:∃X,p.num.natAbs*q.den=X:=⟨_,rfl⟩
 obtain⟨D,hD⟩:∃D,p.den*q.num.natAbs=D:=⟨_,rfl⟩
 have hS:=HSum.out
 have hX2:X<B^(L+L):=by rw [←hX];exact prod_len HP.out.1 HQ.out.2
 have hD2:D<B^(L+L):=by rw [←hD];exact prod_len HP.out.2 HQ.out.1
 have hD0:D≠0:=by rw [←hD];exact Nat.mul_ne_zero p.den_nz (by omega)
 rw [hX,hD]at hS
 rw [hX]at HM2
 rw [hD]at HM4
 replace HSum:=Hid.intro hS
 have HX2:=Hid.intro hX2
 have HD2:=Hid.intro hD2
 clear hS hX hD hX2 hD2
 refine OW.call rfl rfl Tryz.func130 rfl namesOK (args:=[.bool (na != nb),v2,v4]) rfl ?_
 refine(lowest_calls w4 (na != nb) v2 v4 X D (L+L) HM2.out HM4.out hD0 HX2.out HD2.out (by omega)).mono ?_
 rintro e w5 ⟨v6,rfl,hm6,hB⟩
 refine⟨v6,rfl,hB,?_⟩
 simp only [Go.Act.put,List.setIfInBounds_toArray,List.set_cons_succ,List.set_cons_zero]
 replace HK:=Hid.intro (HK.out.step hB)
 replace HA:=Hid.intro (HA.out.below hB)
 replace HB:=Hid.intro (HB.out.below hB)
 replace HAN:=Hid.intro (HAN.out.below hB)
 replace HBN:=Hid.intro (HBN.out.below hB)
 replace HM1:=Hid.intro (HM1.out.below hB)
 replace HM2:=Hid.intro (HM2.out.below hB)
 replace HM3:=Hid.intro (HM3.out.below hB)
 replace HM4:=Hid.intro (HM4.out.below hB)
 have HR:=Hid.intro hm6
 clear hB
 obtain⟨o,k,c,o2,k2,c2,rfl⟩:=hm6.form
 obtain⟨f,hf⟩:=HK.out.res
 have hst:=run_store25 hf (x:=.bool (decide ((frac (na != nb) X D).num<0))) (y:=.slice o k c) (z:=.slice o2 k2 c2) rfl rfl rfl
 refine OW.store (w':=set3 w5 (g+1+1) (.bool (decide ((frac (na != nb) X D).num<0))) (.slice o k c) (.slice o2 k2 c2)) rfl rfl (by decide) (store_run rfl rfl hst) ?_
 simp only [Go.Act.put]
 refine OW.done ?_
 gi_wp2
 refine ret_rat3 rfl rfl (g+1+1) rfl (hf 0 (by omega)).1 (hf 1 (by omega)).1 (hf 2 (by omega)).1 ?_
 refine⟨_,rfl,?_,?_⟩
 ·rw [HSum.out]
  exact((HR.out.setElem HK.out.el (by decide)).setElem (HK.out.el.setCell _ _) (by decide)).setElem ((HK.out.el.setCell _ _).setCell _ _) (by decide)
 ·have hle:=HK.out.le
  exact((HK.out.below.setCell (by show w.heap.size≤g+1+1;omega) _).setCell (by show w.heap.size≤g+1+1;omega) _).setCell (by show w.heap.size≤g+1+1;omega) _
end Go.Num
