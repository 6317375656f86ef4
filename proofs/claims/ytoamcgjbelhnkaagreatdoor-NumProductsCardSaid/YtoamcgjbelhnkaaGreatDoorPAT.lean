/-
  'combined' of the program's matrices. Rows and matrices of the call's own: items read, items stored, rows put in place of others. Rows multi
  Conditions: see each statement.
-/
import Derived.Test.YtoamcgjbelhnkaaGreatDoorPAS
import Derived.Deep.MidRow
import Derived.Test.YtoamcgjbelhnkaaGreatDoorPAA
set_option maxRecDepth 100000
set_option maxHeartbeats 8000000
namespace Go.Eng
open Go.RowKit Go.Num Go.Proofs Go.Proofs.YtoamcgjbelhnkaaGreatDoor
def zbo(a:CAct):List (Tmp × Value)→CAct
 | []=>a
 | (t,v) :: r=>(zbo a r).put (some t) v
def zqp(a:CAct):List (Tmp × Value)→Tmp→Value
 | [],t=>a.tmps.getD t undef
 | (s,v) :: r,t=>bif Nat.beq s t then v else zqp a r t
def look(a:CAct)(ov:List (Tmp × Value)):Operand→Value
 | .tmp t=>zqp a ov t
 | .const v=>v
 | .global g => .pointer (some ⟨g,0,none⟩)
 | .func f => .func (.func f) #[] #[]
def zf8(nt:Nat)(ov:List (Tmp × Value)):Prop:=∀p∈ov,p.1<nt
theorem zhV(a:CAct):∀ov,(zbo a ov).tmps.size=a.tmps.size
 | []=>rfl
 | (t,v) :: r=>by rw [zbo,ze3];exact zhV a r
theorem zgt(a:CAct):∀ov,zf8 a.tmps.size ov→∀t,(zbo a ov).tmps.getD t undef=zqp a ov t
 | [],_,t=>rfl
 | (s,v) :: r,h,t=>by
  have ih:=zgt a r (fun p hp=>h p (by simp [hp])) t;show((zbo a r).put (some s) v).tmps.getD t undef=bif Nat.beq s t then v else zqp a r t
  cases e:Nat.beq s t with
  | true=>
   have:=Nat.eq_of_beq_eq_true e;subst this;exact ze4 (by rw [zhV];exact h (s,v) (by simp))
  | false=>
   rw [zbG (by intro q;cases q;rw [Nat.beq_refl]at e;cases e)];exact ih
theorem zbH(a:CAct)(ov:List (Tmp × Value))(h:zf8 a.tmps.size ov):(zbo a ov).eval=look a ov:=by
 funext x
 cases x with
 | tmp t=>exact zgt a ov h t
 | _=>rfl
def OV(K:World→Prop)(ks:List Nat)(P:Program)(nt:Nat)(ops:Array Oper)(bs bars:List Nat)(Q:CAct→World→Prop)(r:List Nat)(a:CAct)(ov:List (Tmp × Value))(w:World):Prop:=
 a.tmps.size=nt→zf8 nt ov→OWK K ks P none ops bs bars Q r (zbo a ov) w
section
variable {K:World→Prop} {ks:List Nat} {P:Program} {nt:Nat} {ops:Array Oper} {bs bars r:List Nat} {i:Nat} {a:CAct} {ov:List (Tmp × Value)} {w:World} {Q:CAct→World→Prop} {o:Oper}
theorem zf8.cons{d:Tmp}{v:Value}(h:zf8 nt ov)(hd:Nat.blt d nt=true):zf8 nt ((d,v) :: ov):=by
 intro p hp;rcases List.mem_cons.1 hp with rfl|hp
 ·exact(zbJ _ _).1 hd
 ·exact h p hp
theorem OV.read{d:Tmp}(v:Value)(ho:ops[i]? = some o)(hdst:o.dst=some d)(hb:bars.contains i=false)(hd:Nat.blt d nt=true)
  (hrun:∀w',(Below w.heap.size w w'∨(ks.contains i=true∧K w'))→(execOp (look a ov) o).run P w' = .ok (.value v) w') (h:OV K ks P nt ops bs bars Q r a ((d,v) :: ov) w):OV K ks P nt ops bs bars Q (i :: r) a ov w:=by
 intro hn hk;refine⟨o,ho,.inr ⟨hb,v,fun w' hw' => ?_,?_⟩⟩
 ·rw [zbH a ov (by rw [hn];exact hk)];exact hrun w' hw'
 ·rw [hdst];exact h hn (hk.cons hd)
theorem OV.mv{x:Operand}{v:Value}{d:Tmp}{ty:TypeId}{ps:String}{af:Array Edge}(ho:ops[i]? = some {op:=.move x,dst:=some d,type:=ty,pos:=ps,after:=af,guard:=none})(hb:bars.contains i=false)(hd:Nat.blt d nt=true)
  (hx:look a ov x=v) (h:OV K ks P nt ops bs bars Q r a ((d,v) :: ov) w):OV K ks P nt ops bs bars Q (i :: r) a ov w:=
 OV.read v ho rfl hb hd (fun w' _=>by subst hx;rfl) h
theorem OV.asg{x:Operand}{v:Value}{d:Tmp}{ty:TypeId}{ps:String}{af:Array Edge}(ho:ops[i]? = some {op:=.assign x,dst:=some d,type:=ty,pos:=ps,after:=af,guard:=none})(hb:bars.contains i=false)(hd:Nat.blt d nt=true)
  (hx:look a ov x=v) (h:OV K ks P nt ops bs bars Q r a ((d,v) :: ov) w):OV K ks P nt ops bs bars Q (i :: r) a ov w:=
 OV.read v ho rfl hb hd (fun w' _=>by subst hx;rfl) h
def zmc(P:Program)(t:TypeId)(sz:Nat):Prop:=∀(p:Addr) (len cap k:Nat) (w:World),k<len→(Instr.indexAt t (.slice (some p) len cap) (.int .i64 (k:Int))).run P w = .ok (.pointer (some (p.add (k*sz)))) w
theorem zif{t e:TypeId}{inf:TypeInfo}{sz:Nat}(hu:P.underlying t=some (.slice e))(hi:P.info? e=some inf)(hs:inf.size=sz):zmc P t sz:=by
 intro p len cap k w hk;have hk':(k:Int)<(len:Int):=by omega
 subst hs;simp [Instr.indexAt,asIntOf,hu,hk,underlying,sizeOf,typeInfo,hi,Sem.run_bind,Sem.run_pure,Result.andThen,go_sem]
theorem OV.idx{t:TypeId}{x y:Operand}{p:Addr}{len cap k sz:Nat}{d:Tmp}{ty:TypeId}{ps:String}{af:Array Edge}(hI:zmc P t sz)(hk:k<len)(ho:ops[i]? = some {op:=.indexAddr t x y,dst:=some d,type:=ty,pos:=ps,after:=af,guard:=none})(hb:bars.contains i=false)(hd:Nat.blt d nt=true)
  (hx:look a ov x = .slice (some p) len cap) (hy:look a ov y = .int .i64 (k:Int)) (h:OV K ks P nt ops bs bars Q r a ((d,.pointer (some (p.add (k*sz)))) :: ov) w):OV K ks P nt ops bs bars Q (i :: r) a ov w:=
 OV.read _ ho rfl hb hd (fun w' _=>by simp [execOp,hx,hy,hI p len cap k w' hk]) h
theorem OV.ld{t:TypeId}{x:Operand}{p:Addr}{v:Value}{d:Tmp}{ty:TypeId}{ps:String}{af:Array Edge}(hL:zcB P t)(hc:w.cell? p=some v)(hks:ks.contains i=false)(ho:ops[i]? = some {op:=.load t x,dst:=some d,type:=ty,pos:=ps,after:=af,guard:=none})(hb:bars.contains i=false)(hd:Nat.blt d nt=true)
  (hx:look a ov x = .pointer (some p)) (h:OV K ks P nt ops bs bars Q r a ((d,v) :: ov) w):OV K ks P nt ops bs bars Q (i :: r) a ov w:=
 OV.read _ ho rfl hb hd (fun w' hb'=>by
  rcases hb' with hb'|⟨q,_⟩
  ·have hp:p.block<w.heap.size:=World.block_lt_of_cell? _ _ hc;simp [execOp,hx,hL p v w' ((hb'.cell hp).trans hc)]
  ·rw [hks]at q;cases q) h
theorem OV.ldK{t:TypeId}{x:Operand}{p:Addr}{v:Value}{d:Tmp}{ty:TypeId}{ps:String}{af:Array Edge}(hL:zcB P t)(hc:w.cell? p=some v)(hK:∀w',K w'→w'.cell? p=some v)(ho:ops[i]? = some {op:=.load t x,dst:=some d,type:=ty,pos:=ps,after:=af,guard:=none})(hb:bars.contains i=false)(hd:Nat.blt d nt=true)
  (hx:look a ov x = .pointer (some p)) (h:OV K ks P nt ops bs bars Q r a ((d,v) :: ov) w):OV K ks P nt ops bs bars Q (i :: r) a ov w:=
 OV.read _ ho rfl hb hd (fun w' hb'=>by
  have hp:p.block<w.heap.size:=World.block_lt_of_cell? _ _ hc;have:w'.cell? p=some v:=hb'.elim (fun q=>(q.cell hp).trans hc) (fun q=>hK w' q.2);simp [execOp,hx,hL p v w' this]) h
def zht(P:Program)(t:TypeId)(n:Nat):Prop:=∀(p:Addr) (cs:List Value) w,cs.length=n→(∀j v,cs[j]? = some v→World.cell? w (p.add j)=some v)→(Instr.loadAt t (.pointer (some p))).run P w = .ok (.agg cs.toArray) w
theorem zmM{t:TypeId}{n:Nat}(h:(match P.underlying t with|some (.struct _)=>true|_=>false)=true)(hi:(P.info? t).map (·.size)=some n):zht P t n:=by
 intro p cs w hn hc
 cases hu:P.underlying t with
 | none=>rw [hu]at h;cases h
 | some d=>
  rw [hu]at h
  cases d with
  | struct fs=>
   have hl:(loadCells p cs.length).run P w = .ok cs.toArray w:=run_loadCells_list (P:=P) w p cs hc
   cases hq:P.info? t with
   | none=>simp [hq]at hi
   | some inf=>
    have hs:inf.size=n:=by simpa [hq]using hi
    have hagg:(isAgg t).run P w = .ok true w:=by
     unfold isAgg;rw [Sem.run_bind,run_underlying hu w];rfl
    simp [Instr.loadAt,Instr.sureAddr,loadVar,Sem.run_bind,hagg,sizeOf,typeInfo,hq,hs,←hn,hl]
  | _=>cases h
theorem OV.ldn{t:TypeId}{x:Operand}{p:Addr}{n:Nat}(cs:List Value){d:Tmp}{ty:TypeId}{ps:String}{af:Array Edge}(hL:zht P t n)(hc:∀j v,cs[j]? = some v→w.cell? (p.add j)=some v)(hks:ks.contains i=false)(ho:ops[i]? = some {op:=.load t x,dst:=some d,type:=ty,pos:=ps,after:=af,guard:=none})(hb:bars.contains i=false)(hd:Nat.blt d nt=true)
  (hn:cs.length=n) (h0:0<n) (hx:look a ov x = .pointer (some p)) (h:OV K ks P nt ops bs bars Q r a ((d,.agg cs.toArray) :: ov) w):OV K ks P nt ops bs bars Q (i :: r) a ov w:=
 OV.read _ ho rfl hb hd (fun w' hb'=>by
  rcases hb' with hb'|⟨q,_⟩
  ·have hp:p.block<w.heap.size:=by
    obtain⟨v,hv⟩:∃v,cs[0]? = some v:=⟨_,List.getElem?_eq_getElem (by omega)⟩;have:=World.block_lt_of_cell? _ _ (hc 0 v hv);rwa [zac]at this
   simp [execOp,hx,hL p cs w' hn (fun j v hj=>(hb'.cell (p:=p.add j) (by rw [zac];exact hp)).trans (hc j v hj))]
  ·rw [hks]at q;cases q) h
theorem OV.len{t e:TypeId}{x:Operand}{p:Option Addr}{len cap:Nat}{d:Tmp}{ty:TypeId}{ps:String}{af:Array Edge}(hu:P.underlying t=some (.slice e))(ho:ops[i]? = some {op:=.call {callee:=.builtin .len,args:=#[x],argTypes:=#[t]},dst:=some d,type:=ty,pos:=ps,after:=af,guard:=none})(hb:bars.contains i=false)(hd:Nat.blt d nt=true)
  (hx:look a ov x = .slice p len cap) (h:OV K ks P nt ops bs bars Q r a ((d,.int .i64 (len:Int)) :: ov) w):OV K ks P nt ops bs bars Q (i :: r) a ov w:=
 OV.read _ ho rfl hb hd (fun w' _=>by
  simp [hx,Builtin.len_,hu,underlying,Sem.run_bind,Sem.run_pure,Result.andThen,go_sem,goInt]) h
theorem OWK.call{f:FuncId}{fn:Func}{xs:Array Operand}{ts:Array TypeId}{args:List Value}{d:Option Tmp}{ty:TypeId}{ps:String}{af:Array Edge}(ho:ops[i]? = some {op:=.call {callee:=.value (.func f),args:=xs,argTypes:=ts},dst:=d,type:=ty,pos:=ps,after:=af,guard:=none})(hb:bars.contains i=true)
  (hfn:P.funcs[f]? = some fn) (hbody:fn.body.isSome=true) (hN:zbr P) (ha:xs.toList.map a.eval=args)
  (h:CallsIn Fence.wide 0 P f args.toArray w fun e w'=>∃v,e = .returned v∧((zf7 bs ks ops.size i=true∧K w')∨Below w.heap.size w w')∧OWK K ks P none ops bs bars Q r (a.put d v) w'):OWK K ks P none ops bs bars Q (i :: r) a w:=by
 refine⟨_,ho,.inl ⟨hb,.inl ⟨f,args.toArray,?_,h⟩⟩⟩;have ha':xs.map a.eval=args.toArray:=by subst ha;apply Array.ext';rw [Array.toList_map]
 rw [←ha'];have hbn:fn.body≠none:=by intro q;rw [q]at hbody;simp at hbody
 have hev:a.eval (.func f) = .func (.func f) #[] #[]:=rfl;unfold execOp;simp only [resolve,hev,Deferred.ofValue,Sem.run_bind,Sem.run_pure,Result.andThen_ok,invoke,callFunc,run_program,hfn,hN f fn hfn hbody,Bool.false_eq_true,if_false];have:fn.body.isNone=false:=by cases hq:fn.body <;> simp_all
 rw [this];simp
theorem OV.call{f:FuncId}{fn:Func}{xs:Array Operand}{ts:Array TypeId}(args:List Value){d:Tmp}{ty:TypeId}{ps:String}{af:Array Edge}{R:Value→World→Prop}{f':FuncId}(hfn:P.funcs[f]? = some fn)(hbody:fn.body.isSome=true)(hN:zbr P)
  (ho:ops[i]? = some {op:=.call {callee:=.value (.func f),args:=xs,argTypes:=ts},dst:=some d,type:=ty,pos:=ps,after:=af,guard:=none}) (hb:bars.contains i=true) (hd:Nat.blt d nt=true)
  (ha:xs.toList.map (look a ov)=args) (hf:f=f') (hcall:CallsIn Fence.wide 0 P f' args.toArray w fun e w'=>∃v,e = .returned v∧R v w'∧Below w.heap.size w w')
  (h:∀v w',R v w'→Below w.heap.size w w'→OV K ks P nt ops bs bars Q r a ((d,v) :: ov) w'):OV K ks P nt ops bs bars Q (i :: r) a ov w:=by
 intro hn hk;subst hf;refine OWK.call ho hb hfn hbody hN (args:=args) (by rw [zbH a ov (by rw [hn];exact hk)];exact ha) (hcall.mono ?_);rintro e w' ⟨v,rfl,hR,hB⟩;exact⟨v,rfl,.inr hB,h v w' hR hB hn (hk.cons hd)⟩
theorem OV.callL{f:FuncId}{fn:Func}{xs:Array Operand}{ts:Array TypeId}(args:List Value){d:Tmp}{ty:TypeId}{ps:String}{af:Array Edge}{R:Value→World→Prop}{f':FuncId}(hfn:P.funcs[f]? = some fn)(hbody:fn.body.isSome=true)(hN:zbr P)
  (ho:ops[i]? = some {op:=.call {callee:=.value (.func f),args:=xs,argTypes:=ts},dst:=some d,type:=ty,pos:=ps,after:=af,guard:=none}) (hb:bars.contains i=true) (hd:Nat.blt d nt=true)
  (ha:xs.toList.map (look a ov)=args) (hf:f=f') (hl:zf7 bs ks ops.size i=true) (hcall:CallsIn Fence.wide 0 P f' args.toArray w fun e w'=>∃v,e = .returned v∧R v w'∧K w')
  (h:∀v w',R v w'→OV K ks P nt ops bs bars Q r a ((d,v) :: ov) w'):OV K ks P nt ops bs bars Q (i :: r) a ov w:=by
 intro hn hk;subst hf;refine OWK.call ho hb hfn hbody hN (args:=args) (by rw [zbH a ov (by rw [hn];exact hk)];exact ha) (hcall.mono ?_);rintro e w' ⟨v,rfl,hR,hK⟩;exact⟨v,rfl,.inl ⟨hl,hK⟩,h v w' hR hn (hk.cons hd)⟩
theorem OV.put1{t:TypeId}{x:Operand}{v:Value}{w':World}{d:Tmp}{ty:TypeId}{ps:String}{af:Array Edge}(hrun:(Instr.buildSlice t 1 #[(0,v)]).run P w = .ok (.slice (some ⟨w.heap.size,0,none⟩) 1 1) w')(hB:Below w.heap.size w w')(ho:ops[i]? = some {op:=.buildSlice t 1 #[(0,x)],dst:=some d,type:=ty,pos:=ps,after:=af,guard:=none})(hb:bars.contains i=true)(hd:Nat.blt d nt=true)
  (hx:look a ov x=v) (h:OV K ks P nt ops bs bars Q r a ((d,.slice (some ⟨w.heap.size,0,none⟩) 1 1) :: ov) w'):OV K ks P nt ops bs bars Q (i :: r) a ov w:=by
 intro hn hk;exact⟨_,ho,.inl ⟨hb,.inr ⟨w',_,.inl (by simp [execOp,zbH a ov (by rw [hn];exact hk),hx,hrun]),.inr hB,h hn (hk.cons hd)⟩⟩⟩
theorem OV.app{t:TypeId}{s x:Operand}{v y v':Value}{w':World}{d:Tmp}{ty:TypeId}{ps:String}{af:Array Edge}(hKw:K w')(hrun:(Builtin.append_ #[t,t] ty #[v,y]).run P w = .ok v' w')(ho:ops[i]? = some {op:=.call {callee:=Callee.builtin Builtin.append,args:=#[s,x],argTypes:=#[t,t]},dst:=some d,type:=ty,pos:=ps,after:=af,guard:=none})(hb:bars.contains i=true)(hd:Nat.blt d nt=true)
  (hl:zf7 bs ks ops.size i=true) (hs:look a ov s=v) (hx:look a ov x=y) (h:OV K ks P nt ops bs bars Q r a ((d,v') :: ov) w'):OV K ks P nt ops bs bars Q (i :: r) a ov w:=by
 intro hn hk;have e:=zbH a ov (by rw [hn];exact hk);exact⟨_,ho,.inl ⟨hb,.inr ⟨w',v',.inl (by simp [execOp,resolve,invoke,builtin,e,hs,hx,hrun,Result.andThen]),.inl ⟨hl,hKw⟩,h hn (hk.cons hd)⟩⟩⟩
theorem OV.st{t:TypeId}{x y:Operand}{p v:Value}{w':World}{ty:TypeId}{ps:String}{af:Array Edge}(hKw:K w')(hrun:(Instr.storeAt t p v).run P w = .ok () w')(ho:ops[i]? = some {op:=.store t x y,dst:=none,type:=ty,pos:=ps,after:=af,guard:=none})(hb:bars.contains i=true)(hl:zf7 bs ks ops.size i=true)
  (hx:look a ov x=p) (hy:look a ov y=v) (h:OV K ks P nt ops bs bars Q r a ov w'):OV K ks P nt ops bs bars Q (i :: r) a ov w:=by
 intro hn hk;have e:=zbH a ov (by rw [hn];exact hk);exact⟨_,ho,.inl ⟨hb,.inr ⟨w',undef,.inr ⟨by simp [execOp,e,hx,hy,hrun],rfl⟩,.inl ⟨hl,hKw⟩,h hn hk⟩⟩⟩
theorem OV.done(h:Q (zbo a ov) w):OV K ks P nt ops bs bars Q [] a ov w:=fun _ _=>h
theorem zbD(K:World→Prop)(ks:List Nat)(hKB:∀w w',K w→Below w.heap.size w w'→K w'){id:Nat}{l:List Oper}(bars ord:List Nat)(bs:List Nat){a:CAct}{w:World}{ro:Option Nat}{Q:Exit→CAct→World→Prop}(hm:P.follows .mixedOrders=true)(hro:ro=none)
  (nt:Nat) (hnt:a.tmps.size=nt) (hc:zf2 l bars ord nt=true) (hbs:zf5 l []=bs) (hK:K w.drew) (h:OV K ks P nt l.toArray bs bars (fun a' w'=>Q .normal a' w') ord a [] w.drew):(Code.region id l.toArray true).wpIn (Fz ro) 0 P Q a w:=by
 subst hro;exact zep ks hKB bars ord bs hm nt hnt hc hbs hK (h hnt (fun p hp=>by cases hp))
theorem zbf{id:Nat}{l:List Oper}(bars ord:List Nat)(bs:List Nat){a:CAct}{w:World}{ro:Option Nat}{Q:Exit→CAct→World→Prop}(hm:P.follows .mixedOrders=true)(hro:ro=none)
  (nt:Nat) (hnt:a.tmps.size=nt) (hc:zf2 l bars ord nt=true) (hbs:zf5 l []=bs) (h:OV (fun _=>True) [] P nt l.toArray bs bars (fun a' w'=>Q .normal a' w') ord a [] w.drew):(Code.region id l.toArray true).wpIn (Fz ro) 0 P Q a w:=
 zbD (fun _=>True) [] (fun _ _ _ _=>trivial) bars ord bs hm hro nt hnt hc hbs trivial h
end
end Go.Eng
namespace Go.Num
open Go.Eng Go.Shelf Go.RowKit Go.Sort Go.Proofs Go.Proofs.YtoamcgjbelhnkaaGreatDoor
theorem OwnR.item{β:Type}{w:World}{base ty sz:Nat}{I:β→List Value→World→Prop}{v:Value}{bs:List β}(h:OwnR w base ty sz I v bs){i:Nat}{b:β}(hb:bs[i]? = some b) :
  ∃g cap row,v = .slice (some ⟨g,0,none⟩) bs.length cap∧base≤g∧g<w.heap.size∧row.length=sz∧(∀j x,row[j]? = some x→w.cell? (((⟨g,0,none⟩:Addr).add (i*sz)).add j)=some x)∧I b row w:=by
 obtain⟨xs,h1,h2,h3,h4⟩:=h;have hi:i<bs.length:=(List.getElem?_eq_some_iff.1 hb).1;obtain⟨row,hr⟩:∃row,xs[i]? = some row:=⟨_,List.getElem?_eq_getElem (by omega)⟩;have hl:=h3 row (List.mem_of_getElem? hr);rcases h1.2 with⟨_,e⟩|⟨g,cap,cur,rfl,g1,g2,_⟩
 ·omega
 ·refine⟨g,cap,row,rfl,g1,(Array.getElem?_eq_some_iff.1 g2).1,hl,fun j x hx => ?_,h4 i row b hr hb⟩;have:=h1.cells rfl _ _ (zb7 h3 hr hx);rw [Addr.add_add];exact this
theorem OwnR.base{β:Type}{w:World}{base b' ty sz:Nat}{I:β→List Value→World→Prop}{v:Value}{bs:List β}(h:OwnR w base ty sz I v bs)(hb:b'≤base):OwnR w b' ty sz I v bs:=by
 obtain⟨xs,h1,h2⟩:=h;refine⟨xs,⟨h1.1,?_⟩,h2⟩;rcases h1.2 with e|⟨g,cap,cur,e,g1,g2⟩
 ·exact .inl e
 ·exact .inr ⟨g,cap,cur,e,Nat.le_trans hb g1,g2⟩
theorem zah.at'{β:Type}{w:World}{ty sz n c:Nat}{I:β→List Value→World→Prop}{a:Addr}{bs:List β}(h:zah w ty sz I (.slice (some a) n c) bs){i:Nat}{b:β}(hb:bs[i]? = some b) :
  i<n∧∃row,row.length=sz∧(∀j x,row[j]? = some x→w.cell? ((a.add (i*sz)).add j)=some x)∧I b row w:=by
 have hi:i<bs.length:=(List.getElem?_eq_some_iff.1 hb).1;rcases h with⟨rfl,_⟩|⟨a',cap,xs,e,h2,h3,h4,h5,h6,h7,h8⟩
 ·simp at hb
 ·injection e with e e2 _;injection e with e;subst e;obtain⟨row,hr⟩:∃row,xs[i]? = some row:=⟨_,List.getElem?_eq_getElem (by omega)⟩;exact⟨by omega,row,h6 row (List.mem_of_getElem? hr),fun j x hx=>by rw [Addr.add_add];exact h7 i row hr j x hx,h8 i row b hr hb⟩
theorem zah.some{β:Type}{w:World}{ty sz:Nat}{I:β→List Value→World→Prop}{v:Value}{bs:List β}(h:zah w ty sz I v bs)(h0:0<bs.length):∃a c,v = .slice (some a) bs.length c:=by
 rcases h with⟨rfl,_⟩|⟨a,cap,_,e,_⟩
 ·simp at h0
 ·exact⟨a,cap,e⟩
theorem BoxL.at'{w:World}{g:Nat}{xs:List Value}(h:BoxL w g xs):∀j v,xs[j]? = some v→w.cell? ((⟨g,0,none⟩:Addr).add j)=some v:=fun j v hj=>by
 rw [Addr.add_lit,Nat.zero_add];exact h.2 j v hj
theorem it64:zmc Tryz.prog 64 3:=zif Go.Num.u64 i25' i25s
theorem lm25:zht Tryz.prog 25 3:=zmM (by kernel_rfl) (by kernel_rfl)
def zlY(f:Rat)(a b:Nat→Rat)(n:Nat):List Rat:=(List.range n).map fun j=>a j + -(f*b j)
theorem zph(f:Rat)(a b:Nat→Rat)(n:Nat):zlY f a b (n+1)=zlY f a b n ++ [a n + -(f*b n)]:=by simp [zlY,List.range_succ]
theorem ziE(f:Rat)(a b:Nat→Rat)(n:Nat):(zlY f a b n).length=n:=by simp [zlY]
def rowF(a:Nat→Rat)(n:Nat):List Rat:=(List.range n).map a
theorem zdV{a:Nat→Rat}{n j:Nat}(h:j<n):(rowF a n)[j]? = some (a j):=by simp [rowF,h]
theorem zan(a:Nat→Rat)(n:Nat):(rowF a n).length=n:=by simp [rowF]
theorem zi8(w:World)(va vb vf:Value)(f:Rat)(a b:Nat→Rat)(n L:Nat)(h0:0<n)(h9:n≤1000)(ha:RowR w va (rowF a n))(hb:RowR w vb (rowF b n))(hf:zao w vf f)
  (hL:L≤20000) (la:∀j,j<n→zar (a j) L) (lb:∀j,j<n→zar (b j) L) (lf:zar f L) (lp:∀j,j<n→zar (f*b j) L) (lk:∀j,j<n→zar (a j + -(f*b j)) 100000∧zc1 (a j + -(f*b j))=true) (hT:zaU w) :
  CallsIn Fence.wide 0 Tryz.prog 136 #[va,vb,vf] w fun e w'=>∃v',e = .returned v'∧OwnR w' w.heap.size 25 3 IR v' (zlY f a b n)∧Below w.heap.size w w':=by
 obtain⟨aa,ca,rfl⟩:=zah.some ha (by rw [zan];exact h0);obtain⟨ab,cb,rfl⟩:=zah.some hb (by rw [zan];exact h0);rw [zan]at ha hb;rw [zan,zan];obtain⟨o1,k1,c1,o2,k2,c2,rfl⟩:=hf.form;obtain⟨sf,hsf⟩:∃sf,decide (f.num<0)=sf:=⟨_,rfl⟩;rw [hsf]at hf;rw [hsf];obtain⟨W1,hW1⟩:∃W,W=w.alloc (.cells #[.bool sf,.slice o1 k1 c1,.slice o2 k2 c2] 25):=⟨_,rfl⟩;have hb1:Below w.heap.size w W1:=by rw [hW1];exact zaa _ _
 have HB1:=zHi hb1;have HA:=zHi (zah.below ha hb1 (IR.below hb1));have HBb:=zHi (zah.below hb hb1 (IR.below hb1));have HF:=zHi (hf.below hb1);have HT:=zHi (hT.below hb1);have HBX:Hid (BoxL W1 w.heap.size [.bool sf,.slice o1 k1 c1,.slice o2 k2 c2]):=zHi (by rw [hW1];exact zaP _ _ _);obtain⟨g,hg⟩:∃g,w.heap.size=g:=⟨_,rfl⟩;have HLa:=zHi la;have HLb:=zHi lb;have HLf:=zHi lf;have HLp:=zHi lp;have HLk:=zHi lk;rw [hg]at HBX;clear ha hb hf hsf hb1 hT la lb lf lp lk;refine callsIn_of_wp Tryz.func136 rfl trivial ?_ rfl;simp only [Tryz.ntmps136,ztE,ztF,ztG,Nat.reduceAdd,Nat.reduceSub,ztH,ztI,ztJ,ztK,ztL,ztM];gi_wp2;rw [←hW1];clear hW1;gi_loopw [7,11] (fun x7 x11 wr=>∃i:Nat,x11 = .int .i64 (i:Int)∧i≤n∧Hid (OwnR wr W1.heap.size 25 3 IR x7 (zlY f a b i))∧Hid (Below W1.heap.size W1 wr)) (fun _ x _=>n-(intOf x).toNat)
 case atStart=>exact⟨0,rfl,by omega,OwnR.nil _ _ _ _ _,Below.refl _ W1⟩
 case round=>
  obtain⟨i,rfl,hi,HO,HB⟩:=hrel;by_cases hin:i<n
  ·gi_wp2;have HBd:=zHi (HB.out.trans ((zab wr).mono HB.out.size));obtain⟨hia,ra,hra1,hra2,hra3⟩:=zah.at' (zah.below HA.out HBd.out (IR.below HBd.out)) (zdV (a:=a) hin);obtain⟨hib,rb,hrb1,hrb2,hrb3⟩:=zah.at' (zah.below HBb.out HBd.out (IR.below HBd.out)) (zdV (a:=b) hin);have hbr:Below wr.heap.size wr wr.drew:=zab wr;refine zbf (ro:=none) [10,11,12,13,14,15] [0,1,2,3,4,5,6,7,8,9,10,11,12,13,14,15,16] [0,0,0,6,14,0,0,0,192,448,992,2016,4094,8190,16382,32767,65535] zaz rfl 32 rfl (by kernel_rfl) (by kernel_rfl) ?_;refine OV.mv rfl rfl rfl rfl ?_;refine OV.mv rfl rfl rfl rfl ?_;refine OV.mv rfl rfl rfl rfl ?_;refine OV.idx it64 hia rfl rfl rfl rfl rfl ?_;refine OV.ldn ra lm25 hra2 rfl rfl rfl rfl hra1 (by decide) rfl ?_;refine OV.ldn [.bool sf,.slice o1 k1 c1,.slice o2 k2 c2] lm25 (HBX.out.below HBd.out).at' rfl rfl rfl rfl rfl (by decide) rfl ?_;refine OV.mv rfl rfl rfl rfl ?_;refine OV.mv rfl rfl rfl rfl ?_;refine OV.idx it64 hib rfl rfl rfl rfl rfl ?_;refine OV.ldn rb lm25 hrb2 rfl rfl rfl rfl hrb1 (by decide) rfl ?_;refine OV.call [.agg [.bool sf,.slice o1 k1 c1,.slice o2 k2 c2].toArray,.agg rb.toArray] Tryz.func94 rfl zai rfl rfl rfl rfl rfl (zfm _ _ _ f (b i) L (HF.out.below HBd.out) hrb3 HLf.out (HLb.out i hin) (by omega)) fun v1 w1 h1 hB => ?_
   replace HBd:=zHi (HBd.out.trans (hB.mono HBd.out.size));replace hbr:=hbr.trans (hB.mono hbr.size);have hra4:=IR.below hB _ _ hra3;refine OV.call [v1] Tryz.func46 rfl zai rfl rfl rfl rfl rfl (zh7 _ _ _ h1) fun v2 w2 h2 hB => ?_
   replace HBd:=zHi (HBd.out.trans (hB.mono HBd.out.size));replace hbr:=hbr.trans (hB.mono hbr.size);have hra5:=IR.below hB _ _ hra4;refine OV.call [.agg ra.toArray,v2] Tryz.func93 rfl zai rfl rfl rfl rfl rfl (zju _ _ _ (a i) (-(f*b i)) L hra5 h2 (HLa.out i hin) (zfZ (HLp.out i hin)) (by omega)) fun v3 w3 h3 hB => ?_
   replace HBd:=zHi (HBd.out.trans (hB.mono HBd.out.size));replace hbr:=hbr.trans (hB.mono hbr.size);refine OV.call [v3] Tryz.func67 rfl zai rfl rfl rfl rfl rfl (ze9 _ _ _ h3 (HLk.out i hin).1 (HLk.out i hin).2 (HT.out.below HBd.out)) fun v4 w4 h4 hB => ?_
   replace HBd:=zHi (HBd.out.trans (hB.mono HBd.out.size));replace hbr:=hbr.trans (hB.mono hbr.size);obtain⟨o5,k5,c5,o6,k6,c6,rfl⟩:=h4.form;obtain⟨s4,hs4⟩:∃s4,decide ((a i + -(f*b i)).num<0)=s4:=⟨_,rfl⟩;rw [hs4]at h4 ⊢;have HO4:=HO.out.below hbr (IR.below hbr);obtain⟨v7,w7,hrun,HO7,hB7,_,_⟩:=zsH (ty:=25) (sz:=3) (t:=64) (tx:=64) (bytes:=56) W1 w4 Go.Num.u64 i25' i25z i25s i25b rfl (by decide) (by decide) u7 (zlY f a b i) HO4 (a i + -(f*b i)) [.bool s4,.slice o5 k5 c5,.slice o6 k6 c6] 25 rfl (by simp [Value.oneCell']) h4 (fun b r w1 w2 ht=>IR.touch ht rfl b r) (by rw [ziE];omega) HBd.out;refine OV.put1 (zsJ _ _ _ _) (zaa _ _) rfl rfl rfl rfl ?_;refine OV.app trivial hrun rfl rfl rfl rfl rfl rfl ?_;refine OV.asg rfl rfl rfl rfl ?_;refine OV.done ?_;simp only [zbo,Go.Act.put,ztN,ztO,ztP];rw [←zph]at HO7;have HO8:=zHi HO7;have HB8:=zHi hB7;clear HO7 hB7 hrun HO4 h1 h2 h3 h4 hra1 hra2 hra3 hra4 hra5 hrb1 hrb2 hrb3 hbr hB hs4;gi_wp2;exact⟨⟨i+1,by go_num,by omega,HO8,HB8⟩,by simp only [intOf];omega⟩
  ·have hin2:i=n:=by omega
   subst hin2;gi_wp2;all_goals (first|go_returns|go_ret|go_end0)
   exact⟨_,rfl,HO.out.base HB1.out.size,HB1.out.trans (HB.out.mono HB1.out.size)⟩
structure ButB(g:Nat)(w w':World):Prop where
 size:w.heap.size≤w'.heap.size
 blk:∀k,k<w.heap.size→k≠g→w'.heap[k]? = w.heap[k]?
 os:w'.os=w.os
 tape:w'.tape=w.tape
 output:w'.output=w.output
def putCells:Array Value→Nat→List Value→Array Value
 | cur,_,[]=>cur
 | cur,o,v :: r=>putCells (cur.setIfInBounds o v) (o+1) r
theorem zd1:∀(vs:List Value) (o:Nat) (cur:Array Value),(putCells cur o vs).size=cur.size
 | [],_,_=>rfl
 | v :: r,o,cur=>by rw [putCells,zd1 r];simp
theorem zeB:∀(vs:List Value) (o:Nat) (cur:Array Value) (k:Nat),(k<o∨o+vs.length≤k)→(putCells cur o vs)[k]? = cur[k]?
 | [],_,_,_,_=>rfl
 | v :: r,o,cur,k,h=>by
  have h':k≠o:=by intro e;subst e;simp at h;omega
  rw [putCells,zeB r (o+1) _ k (by simp at h;omega)];simp [Ne.symm h']
theorem zhT:∀(vs:List Value) (o:Nat) (cur:Array Value) (j:Nat) (x:Value),vs[j]? = some x→o+j<cur.size→(putCells cur o vs)[o+j]? = some x
 | [],_,_,_,_,h,_=>by simp at h
 | v :: r,o,cur,0,x,h,hs=>by
  have h:v=x:=by simpa using h
  subst h;have hs:o<cur.size:=by omega
  rw [putCells,zeB r (o+1) _ (o+0) (by omega)];simp [hs]
 | v :: r,o,cur,j+1,x,h,hs=>by
  have h:r[j]? = some x:=by simpa using h
  rw [putCells,show o+(j+1)=o+1+j by omega];exact zhT r (o+1) _ j x h (by simp;omega)
theorem zci{g:Nat}{t:TypeId}:∀(vs:List Value) (o:Nat) (w:World) (cur:Array Value),w.heap[g]? = some (.cells cur t (0,0))→(w.setCells g o vs).heap[g]? = some (.cells (putCells cur o vs) t (0,0))
 | [],_,_,_,h=>h
 | v :: r,o,w,cur,h=>by
  rw [World.setCells];exact zci r (o+1) _ _ (heap_setCell_same w g o cur t v h)
theorem zal(g:Nat):∀(vs:List Value) (o:Nat) (w:World),ButB g w (w.setCells g o vs)
 | [],_,w=>⟨Nat.le_refl _,fun _ _ _=>rfl,rfl,rfl,rfl⟩
 | v :: r,o,w=>by
  rw [World.setCells];have ih:=zal g r (o+1) (w.setCell ⟨g,o,none⟩ v);refine⟨by simpa using ih.size,fun k hk hne => ?_,ih.os,ih.tape,ih.output⟩;rw [ih.blk k (by simpa using hk) hne,heap_setCell_other _ _ _ _ hne]
theorem zbU{B g:Nat}{a:World}(hg:B≤g):∀(vs:List Value) (o:Nat) (w:World),Below B a w→Below B a (w.setCells g o vs)
 | [],_,_,h=>h
 | v :: r,o,_,h=>zbU hg r (o+1) _ (h.setCell (p:=⟨g,o,none⟩) hg v)
theorem zqG{sz n:Nat}{cur:List Value}{xs:List (List Value)}(hl:xs.length=n)(hr:∀r∈xs,r.length=sz)(hsz:0<sz)(hc:n*sz≤cur.length)(h:∀(i:Nat) (row:List Value) (j:Nat) (x:Value),xs[i]? = some row→row[j]? = some x→cur[i*sz+j]? = some x):cur.take (n*sz)=xs.flatten:=by
 have hfl:xs.flatten.length=n*sz:=by
  rw [List.length_flatten];have:xs.map List.length=List.replicate xs.length sz:=by
   refine List.ext_getElem? fun k => ?_
   rw [List.getElem?_map,List.getElem?_replicate];by_cases hk:k<xs.length
   ·rw [if_pos hk,List.getElem?_eq_getElem hk];exact congrArg some (hr _ (List.getElem_mem hk))
   ·rw [if_neg hk,List.getElem?_eq_none (by omega)];rfl
  rw [this,List.sum_replicate_nat,hl]
 refine List.ext_getElem? fun k => ?_
 by_cases hk:k<n*sz
 ·have hq:k/sz<n:=(Nat.div_lt_iff_lt_mul hsz).2 hk;have hm:=Nat.mod_lt k hsz;have hdm:k/sz*sz+k%sz=k:=by rw [Nat.mul_comm];exact Nat.div_add_mod k sz
  obtain⟨row,hrow⟩:∃row,xs[k/sz]? = some row:=⟨_,List.getElem?_eq_getElem (by omega)⟩;obtain⟨x,hx⟩:∃x,row[k%sz]? = some x:=⟨_,List.getElem?_eq_getElem (by rw [hr row (List.mem_of_getElem? hrow)];exact hm)⟩;have h1:=h _ _ _ _ hrow hx;have h2:=zb7 hr hrow hx;rw [hdm]at h1 h2;rw [List.getElem?_take,if_pos hk,h1,h2]
 ·rw [List.getElem?_eq_none (by simp;omega),List.getElem?_eq_none (by omega)]
section
variable {β:Type} {w w':World} {base ty sz:Nat} {I:β→List Value→World→Prop} {v:Value} {bs:List β}
theorem OwnR.keep(h:OwnR w base ty sz I v bs)(hk:∀b,v.ownBlock=some b→b<w.heap.size→w'.heap[b]? = w.heap[b]?)(hI:∀b r,I b r w→I b r w'):OwnR w' base ty sz I v bs:=by
 obtain⟨xs,h1,h2,h3,h4⟩:=h;refine⟨xs,⟨h1.1,?_⟩,h2,h3,fun i row b hr hb=>hI _ _ (h4 i row b hr hb)⟩;rcases h1.2 with e|⟨g,cap,cur,e,g1,g2,g3⟩
 ·exact .inl e
 ·exact .inr ⟨g,cap,cur,e,g1,by rw [hk g (by rw [e];rfl) (Array.getElem?_eq_some_iff.1 g2).1];exact g2,g3⟩
theorem OwnR.own(h:OwnR w base ty sz I v bs)(h0:0<bs.length):∃g cap,v = .slice (some ⟨g,0,none⟩) bs.length cap∧base≤g∧g<w.heap.size∧∃cur,w.heap[g]? = some (.cells cur ty (0,0)):=by
 obtain⟨xs,h1,h2,h3,h4⟩:=h;rcases h1.2 with⟨_,e⟩|⟨g,cap,cur,rfl,g1,g2,_⟩
 ·omega
 ·exact⟨g,cap,rfl,g1,(Array.getElem?_eq_some_iff.1 g2).1,cur,g2⟩
theorem OwnR.store{g cap:Nat}(h:OwnR w base ty sz I (.slice (some ⟨g,0,none⟩) bs.length cap) bs)(hsz:0<sz){i:Nat}(hi:i<bs.length){row:List Value}{b:β}(hrow:row.length=sz)(hI:∀b r,I b r w→I b r (w.setCells g (i*sz) row))(hb:I b row (w.setCells g (i*sz) row)) :
  OwnR (w.setCells g (i*sz) row) base ty sz I (.slice (some ⟨g,0,none⟩) bs.length cap) (bs.set i b)∧w.there g (i*sz) sz:=by
 obtain⟨xs,h1,h2,h3,h4⟩:=h;rcases h1.2 with⟨e,_⟩|⟨g',cap',cur,e,g1,g2,g3,g4,g5,g6⟩
 ·cases e
 ·injection e with e _ e3;injection e with e;injection e with e _ _;subst e;subst e3;have hle:i*sz+sz≤bs.length*sz:=by
   have:(i+1)*sz≤bs.length*sz:=Nat.mul_le_mul_right _ (by omega);rw [Nat.add_mul]at this;omega
  have hcs:bs.length*sz≤cur.size:=by rw [g5];exact Nat.mul_le_mul_right _ g3
  have hL:(putCells cur (i*sz) row).toList.length=cur.size:=by rw [←zd1 row (i*sz) cur];exact Array.length_toList
  have hTake:(putCells cur (i*sz) row).toList.take (bs.length*sz)=(xs.set i row).flatten:=by
   refine zqG (by simp [h2]) (fun r hr => ?_) hsz (by rw [hL];exact hcs) ?_
   ·rcases List.mem_or_eq_of_mem_set hr with h|h
    ·exact h3 r h
    ·rw [h];exact hrow
   ·intro k r j x hk hx;rw [Array.getElem?_toList];by_cases hki:k=i
    ·subst hki;rw [List.getElem?_set_self (by omega)]at hk
     cases hk
     exact zhT _ _ _ j x hx (by have:=(List.getElem?_eq_some_iff.1 hx).1;omega)
    ·rw [List.getElem?_set_ne (Ne.symm hki)]at hk;have hj:j<sz:=by rw [←h3 r (List.mem_of_getElem? hk)];exact(List.getElem?_eq_some_iff.1 hx).1
     rw [zeB _ _ _ _ (by
      rcases Nat.lt_or_ge k i with hlt|hge
      ·left;have:(k+1)*sz≤i*sz:=Nat.mul_le_mul_right _ hlt;rw [Nat.add_mul]at this;omega
      ·right;have:(i+1)*sz≤k*sz:=Nat.mul_le_mul_right _ (by omega);rw [Nat.add_mul]at this;omega)]
     have h5:=zb7 h3 hk hx;rw [←g6,List.getElem?_take]at h5;split at h5
     ·rwa [Array.getElem?_toList]at h5
     ·cases h5
  refine⟨⟨xs.set i row,⟨?_,.inr ⟨g,cap,putCells cur (i*sz) row,by rw [List.length_set],g1,zci _ _ _ _ g2,by rw [List.length_set];exact g3,g4,by rw [zd1];exact g5,?_⟩⟩,by simp [h2],?_,?_⟩,?_⟩
  ·rw [←hTake,List.length_take,hL,List.length_set];omega
  ·rw [List.length_set];exact hTake
  ·intro r hr;rcases List.mem_or_eq_of_mem_set hr with h|h
   ·exact h3 r h
   ·rw [h];exact hrow
  ·intro k r b' hk hb';by_cases hki:k=i
   ·subst hki;rw [List.getElem?_set_self (by omega)]at hk hb'
    cases hk;cases hb'
    exact hb
   ·rw [List.getElem?_set_ne (Ne.symm hki)]at hk hb';exact hI _ _ (h4 k r b' hk hb')
  ·intro j hj;have hlt:i*sz+j<cur.size:=by omega
   refine⟨?_,?_⟩
   ·rw [cell?_of g2,Array.getElem?_eq_getElem hlt];rfl
   ·simp [World.frozen?,g2]
end
structure zav{β:Type}(w:World)(base tyO tyI sz:Nat)(I:β→List Value→World→Prop)(v:Value)(rvs:List Value)(rows:List (List β)):Prop where
 top:OwnR w base tyO 1 (fun u r _=>r = [u]) v rvs
 len:rows.length=rvs.length
 row:∀(i:Nat) (u:Value) (l:List β),rvs[i]? = some u→rows[i]? = some l→OwnR w base tyI sz I u l
 ne:∀l∈rows,0<l.length
 inj:∀(i j:Nat) (u u':Value),rvs[i]? = some u→rvs[j]? = some u'→u.ownBlock=u'.ownBlock→i=j
section
variable {β:Type} {w w':World} {base tyO tyI sz:Nat} {I:β→List Value→World→Prop} {v:Value} {rvs:List Value} {rows:List (List β)}
theorem zav.keep(h:zav w base tyO tyI sz I v rvs rows)(hk:∀(b:Nat) (cs:Array Value) (e:TypeId),base≤b→e=tyO∨e=tyI→w.heap[b]? = some (.cells cs e (0,0))→w'.heap[b]? = w.heap[b]?)(hI:∀b r,I b r w→I b r w'):zav w' base tyO tyI sz I v rvs rows:=by
 refine⟨h.top.keep (fun b hb _ => ?_) (fun _ _ q=>q),h.len,fun i u l hu hl=>(h.row i u l hu hl).keep (fun b hb _ => ?_) hI,h.ne,h.inj⟩
 ·rcases Nat.eq_zero_or_pos rvs.length with h0|h0
  ·obtain⟨xs,h1,_⟩:=h.top;rcases h1.2 with⟨e,_⟩|⟨g,cap,cur,e,g1,g2,_⟩
   ·rw [e]at hb;cases hb
   ·rw [e]at hb;cases hb;exact hk g cur tyO g1 (.inl rfl) g2
  ·obtain⟨g,cap,e,g1,_,cur,g2⟩:=h.top.own h0;rw [e]at hb;cases hb;exact hk g cur tyO g1 (.inl rfl) g2
 ·obtain⟨g,cap,e,g1,_,cur,g2⟩:=(h.row i u l hu hl).own (h.ne l (List.mem_of_getElem? hl));rw [e]at hb;cases hb;exact hk g cur tyI g1 (.inr rfl) g2
theorem zav.below(h:zav w base tyO tyI sz I v rvs rows)(hb:Below w.heap.size w w')(hI:∀b r,I b r w→I b r w'):zav w' base tyO tyI sz I v rvs rows:=
 h.keep (fun b _ _ _ _ hc=>hb.block b (Array.getElem?_eq_some_iff.1 hc).1) hI
theorem zav.cell(h:zav w base tyO tyI sz I v rvs rows){i:Nat}{u:Value}(hu:rvs[i]? = some u):∃g cap,v = .slice (some ⟨g,0,none⟩) rvs.length cap∧base≤g∧i<rvs.length∧w.cell? ((⟨g,0,none⟩:Addr).add (i*1))=some u:=by
 obtain⟨g,cap,row,e,hg,_,_,hc,rfl⟩:=h.top.item hu;refine⟨g,cap,e,hg,(List.getElem?_eq_some_iff.1 hu).1,?_⟩;have:=hc 0 u rfl;rwa [Addr.add_add,Nat.add_zero]at this
theorem zav.setRow(h:zav w base tyO tyI sz I v rvs rows)(hne:tyO≠tyI){g cap i:Nat}(hv:v = .slice (some ⟨g,0,none⟩) rvs.length cap)(hi:i<rvs.length){u:Value}{l:List β}(hu:OwnR w base tyI sz I u l)(hl:0<l.length)
  (hd:∀(j:Nat) (u':Value),rvs[j]? = some u'→j≠i→u.ownBlock≠u'.ownBlock) (hI:∀b r,I b r w→I b r (w.setCells g (i*1) [u])) :
  zav (w.setCells g (i*1) [u]) base tyO tyI sz I v (rvs.set i u) (rows.set i l)∧w.there g (i*1) 1:=by
 subst hv;obtain⟨h1,h2⟩:=h.top.store (by decide) hi (row:=[u]) (b:=u) rfl (fun _ _ q=>q) rfl;have hgb:∃cur,w.heap[g]? = some (.cells cur tyO (0,0)):=by
  obtain⟨g',cap',e,_,_,cur,hc⟩:=h.top.own (by omega);injection e with e;injection e with e;injection e with e;subst e;exact⟨cur,hc⟩
 obtain⟨cur,hgb⟩:=hgb;have far:∀{u':Value} {l:List β},OwnR w base tyI sz I u' l→0<l.length→OwnR (w.setCells g (i*1) [u]) base tyI sz I u' l:=by
  intro u' l hu hl;obtain⟨b,cb,e,_,_,cur',hcb⟩:=hu.own hl;refine hu.keep (fun k hk hlt => ?_) hI;rw [e]at hk;cases hk;refine(zal g [u] (i*1) w).blk b hlt (fun e => ?_);subst e;rw [hgb]at hcb
  cases hcb
  exact hne rfl
 refine⟨⟨h1,by simp [h.len],?_,?_,?_⟩,h2⟩
 ·intro j u' l' hj hl';by_cases hji:j=i
  ·subst hji;rw [List.getElem?_set_self hi]at hj;rw [List.getElem?_set_self (by rw [h.len];exact hi)]at hl'
   cases hj;cases hl'
   exact far hu hl
  ·rw [List.getElem?_set_ne (Ne.symm hji)]at hj hl';exact far (h.row j u' l' hj hl') (h.ne l' (List.mem_of_getElem? hl'))
 ·intro l' hl';rcases List.mem_or_eq_of_mem_set hl' with q|q
  ·exact h.ne l' q
  ·rw [q];exact hl
 ·intro a c u1 u2 ha hc e;by_cases hai:a=i
  ·by_cases hci:c=i
   ·rw [hai,hci]
   ·subst hai;rw [List.getElem?_set_self hi]at ha;rw [List.getElem?_set_ne (Ne.symm hci)]at hc
    cases ha
    exact absurd e (hd c u2 hc hci)
  ·rw [List.getElem?_set_ne (Ne.symm hai)]at ha;by_cases hci:c=i
   ·subst hci;rw [List.getElem?_set_self hi]at hc
    cases hc
    exact absurd e.symm (hd a u1 ha hai)
   ·rw [List.getElem?_set_ne (Ne.symm hci)]at hc;exact h.inj a c u1 u2 ha hc e
theorem zav.two(h:zav w base tyO tyI sz I v rvs rows)(hne:tyO≠tyI){g cap i k:Nat}(hv:v = .slice (some ⟨g,0,none⟩) rvs.length cap){uk u':Value}{lk l':List β}(hil:i<rvs.length)(hk:rvs[k]? = some uk)(hlk:rows[k]? = some lk)(hik:i≠k)
  (hu':OwnR w base tyI sz I u' l') (hl':0<l'.length) (hd:∀(j:Nat) (u:Value),rvs[j]? = some u→j≠i→u'.ownBlock≠u.ownBlock)
  (hI:∀b r,I b r w→I b r ((w.setCells g (i*1) [uk]).setCells g (k*1) [u'])) :
  zav ((w.setCells g (i*1) [uk]).setCells g (k*1) [u']) base tyO tyI sz I v ((rvs.set i uk).set k u') ((rows.set i lk).set k l')∧w.there g (i*1) 1∧(w.setCells g (i*1) [uk]).there g (k*1) 1:=by
 have hkl:k<rvs.length:=(List.getElem?_eq_some_iff.1 hk).1;subst hv;obtain⟨h1,h2⟩:=h.top.store (by decide) hil (row:=[uk]) (b:=uk) rfl (fun _ _ q=>q) rfl;have h1':OwnR (w.setCells g (i*1) [uk]) base tyO 1 (fun u r _=>r = [u]) (.slice (some ⟨g,0,none⟩) (rvs.set i uk).length cap) (rvs.set i uk):=by rw [List.length_set];exact h1
 obtain⟨h3,h4⟩:=h1'.store (by decide) (i:=k) (by rw [List.length_set];exact hkl) (row:=[u']) (b:=u') rfl (fun _ _ q=>q) rfl;rw [List.length_set]at h3;have hgb:∃cur,w.heap[g]? = some (.cells cur tyO (0,0)):=by
  obtain⟨g',cap',e,_,_,cur,hc⟩:=h.top.own (by omega);injection e with e;injection e with e;injection e with e;subst e;exact⟨cur,hc⟩
 obtain⟨cur,hgb⟩:=hgb;have far:∀{u:Value} {l:List β},OwnR w base tyI sz I u l→0<l.length→OwnR ((w.setCells g (i*1) [uk]).setCells g (k*1) [u']) base tyI sz I u l:=by
  intro u l hu hl;obtain⟨b,cb,e,_,_,cur',hcb⟩:=hu.own hl;refine hu.keep (fun k' hk' hlt => ?_) hI;rw [e]at hk';cases hk';have hbg:b≠g:=fun e=>by
   subst e;rw [hgb]at hcb
   cases hcb
   exact hne rfl
  rw [(zal g [u'] (k*1) _).blk b (Nat.lt_of_lt_of_le hlt (zal g [uk] (i*1) w).size) hbg];exact(zal g [uk] (i*1) w).blk b hlt hbg
 have who:∀(j:Nat) (u:Value),((rvs.set i uk).set k u')[j]? = some u→(j=k∧u=u'∧∀l,((rows.set i lk).set k l')[j]? = some l→l=l')∨(j=i∧j≠k∧u=uk∧∀l,((rows.set i lk).set k l')[j]? = some l→l=lk) ∨
   (j≠k∧j≠i∧rvs[j]? = some u∧∀l,((rows.set i lk).set k l')[j]? = some l→rows[j]? = some l):=by
  intro j u hj;by_cases hjk:j=k
  ·subst hjk;rw [List.getElem?_set_self (by simpa using hkl)]at hj
   cases hj
   refine .inl ⟨rfl,rfl,fun l hl => ?_⟩;rw [List.getElem?_set_self (by simp [h.len];exact hkl)]at hl
   cases hl;rfl
  ·rw [List.getElem?_set_ne (Ne.symm hjk)]at hj;by_cases hji:j=i
   ·subst hji;rw [List.getElem?_set_self hil]at hj
    cases hj
    refine .inr (.inl ⟨rfl,hjk,rfl,fun l hl => ?_⟩);rw [List.getElem?_set_ne (Ne.symm hjk),List.getElem?_set_self (by rw [h.len];exact hil)]at hl
    cases hl;rfl
   ·rw [List.getElem?_set_ne (Ne.symm hji)]at hj;refine .inr (.inr ⟨hjk,hji,hj,fun l hl => ?_⟩);rw [List.getElem?_set_ne (Ne.symm hjk),List.getElem?_set_ne (Ne.symm hji)]at hl;exact hl
 refine⟨⟨h3,by simp [h.len],?_,?_,?_⟩,h2,h4⟩
 ·intro j u l hj hl;rcases who j u hj with⟨_,rfl,q⟩|⟨_,_,rfl,q⟩|⟨_,_,q1,q2⟩
  ·rw [q l hl];exact far hu' hl'
  ·rw [q l hl];exact far (h.row k _ _ hk hlk) (h.ne _ (List.mem_of_getElem? hlk))
  ·exact far (h.row j u l q1 (q2 l hl)) (h.ne l (List.mem_of_getElem? (q2 l hl)))
 ·intro l hl;rcases List.mem_or_eq_of_mem_set hl with q|q
  ·rcases List.mem_or_eq_of_mem_set q with q|q
   ·exact h.ne l q
   ·rw [q];exact h.ne lk (List.mem_of_getElem? hlk)
  ·rw [q];exact hl'
 ·intro a c u1 u2 ha hc e;rcases who a u1 ha with⟨ea,e1,_⟩|⟨ea,_,e1,_⟩|⟨na,na2,e1,_⟩ <;> rcases who c u2 hc with⟨ec,e2,_⟩|⟨ec,_,e2,_⟩|⟨nc,nc2,e2,_⟩
  ·omega
  ·subst e1 e2;exact absurd e (hd k _ hk (Ne.symm hik))
  ·subst e1;exact absurd e (hd c u2 e2 nc2)
  ·subst e1 e2;exact absurd e.symm (hd k _ hk (Ne.symm hik))
  ·omega
  ·subst e1;exact absurd (h.inj k c _ u2 hk e2 e) (Ne.symm nc)
  ·subst e2;exact absurd e.symm (hd a u1 e1 na2)
  ·subst e2;exact absurd (h.inj a k u1 _ e1 hk e) na
  ·exact h.inj a c u1 u2 e1 e2 e
theorem zav.setItem(h:zav w base tyO tyI sz I v rvs rows)(hne:tyO≠tyI)(hsz:0<sz){i j b cap:Nat}{l:List β}(hu:rvs[i]? = some (.slice (some ⟨b,0,none⟩) l.length cap))(hl:rows[i]? = some l)(hj:j<l.length){row:List Value}{x:β}(hrow:row.length=sz)
  (hI:∀b' r,I b' r w→I b' r (w.setCells b (j*sz) row)) (hx:I x row (w.setCells b (j*sz) row)) :
  zav (w.setCells b (j*sz) row) base tyO tyI sz I v rvs (rows.set i (l.set j x))∧w.there b (j*sz) sz:=by
 have hil:i<rvs.length:=(List.getElem?_eq_some_iff.1 hu).1;have hR:=h.row i _ l hu hl;obtain⟨h1,h2⟩:=hR.store hsz hj hrow hI hx;obtain⟨b',cb,e,_,_,cur',hcb⟩:=hR.own (h.ne l (List.mem_of_getElem? hl));injection e with e;injection e with e;injection e with e;subst e;refine⟨⟨h.top.keep (fun k hk hlt => ?_) (fun _ _ q=>q),by simp [h.len],?_,?_,h.inj⟩,h2⟩
 ·obtain⟨g,cg,e,_,_,cur,hcg⟩:=h.top.own (by omega);rw [e]at hk;cases hk;refine(zal b row (j*sz) w).blk g hlt (fun e => ?_);subst e;rw [hcb]at hcg
  cases hcg
  exact hne rfl
 ·intro a u' l' ha hl';by_cases hai:a=i
  ·subst hai;rw [List.getElem?_set_self (by rw [h.len];exact hil)]at hl';rw [hu]at ha
   cases ha;cases hl'
   exact h1
  ·rw [List.getElem?_set_ne (Ne.symm hai)]at hl';refine(h.row a u' l' ha hl').keep (fun k hk hlt => ?_) hI;refine(zal b row (j*sz) w).blk k hlt (fun e => ?_);subst e;exact hai (h.inj a i _ _ ha hu hk)
 ·intro l' hl';rcases List.mem_or_eq_of_mem_set hl' with q|q
  ·exact h.ne l' q
  ·rw [q,List.length_set];exact h.ne l (List.mem_of_getElem? hl)
end
end Go.Num
namespace Go.Num
def sumQ(f:Nat→Rat):Nat→Rat
 | 0=>0
 | n+1=>sumQ f n+f n
theorem zak{f g:Nat→Rat}:∀{n:Nat},(∀i,i<n→f i=g i)→sumQ f n=sumQ g n
 | 0,_=>rfl
 | n+1,h=>by show sumQ f n+f n=sumQ g n+g n;rw [zak fun i hi=>h i (by omega),h n (by omega)]
theorem ze1(f g:Nat→Rat):∀n,sumQ (fun i=>f i+g i) n=sumQ f n+sumQ g n
 | 0=>by simp only [sumQ];grind
 | n+1=>by show sumQ (fun i=>f i+g i) n+(f n+g n)=(sumQ f n+f n)+(sumQ g n+g n);rw [ze1 f g n];grind
theorem zcF:∀n,sumQ (fun _=>0) n=0
 | 0=>rfl
 | n+1=>by show sumQ (fun _=>0) n+0=0;rw [zcF n];grind
theorem zce(c:Rat)(f:Nat→Rat):∀n,sumQ (fun i=>c*f i) n=c*sumQ f n
 | 0=>by simp only [sumQ];grind
 | n+1=>by show sumQ (fun i=>c*f i) n+c*f n=c*(sumQ f n+f n);rw [zce c f n];grind
theorem znx(f:Nat→Rat)(n:Nat):sumQ (fun i => - f i) n = - sumQ f n:=by
 have:=zce (-1) f n;rw [zak (g:=fun i => -1*f i) fun i _=>by grind,this];grind
theorem zhF(f:Nat→Nat→Rat)(m:Nat):∀n,sumQ (fun i=>sumQ (fun j=>f i j) m) n=sumQ (fun j=>sumQ (fun i=>f i j) n) m
 | 0=>by show 0=sumQ (fun _=>0) m;rw [zcF]
 | n+1=>by
  show sumQ (fun i=>sumQ (fun j=>f i j) m) n+sumQ (fun j=>f n j) m=sumQ (fun j=>sumQ (fun i=>f i j) n+f n j) m
  rw [zhF f m n,ze1]
theorem ze0{f:Nat→Rat}{a:Nat}:∀{n:Nat},a<n→(∀i,i<n→i≠a→f i=0)→sumQ f n=f a
 | n+1,h,h0=>by
  show sumQ f n+f n=f a
  by_cases e:a=n
  ·subst e;rw [zak (g:=fun _=>0) fun i hi=>h0 i (by omega) (by omega),zcF];grind
  ·rw [ze0 (n:=n) (by omega) fun i hi hn=>h0 i (by omega) hn,h0 n (by omega) (Ne.symm e)];grind
def lieB(S:Nat→Bool):Nat→Nat
 | 0=>0
 | n+1=>lieB S n+(if S n=true then 1 else 0)
def wo(S:Nat→Bool)(j:Nat):Nat→Bool:=fun i=>S i && decide (i≠j)
theorem zkC{S:Nat→Bool}{j:Nat}:∀{n:Nat},n≤j→lieB (wo S j) n=lieB S n
 | 0,_=>rfl
 | n+1,h=>by
  have hw:wo S j n=S n:=by
   have:n≠j:=by omega
   simp [wo,this]
  unfold lieB;rw [hw,zkC (n:=n) (by omega)]
theorem zmO{S:Nat→Bool}{j:Nat}(hj:S j=true):∀{n:Nat},j<n→lieB S n=lieB (wo S j) n+1
 | n+1,h=>by
  unfold lieB;by_cases e:n=j
  ·subst e;have hw:wo S n n=false:=by simp [wo]
   rw [hw,hj,zkC (Nat.le_refl n)];simp
  ·have hw:wo S j n=S n:=by simp [wo,e]
   rw [hw,zmO hj (n:=n) (by omega)];omega
def pm(k:Nat):Rat:=if k%2=0 then 1 else -1
theorem zkn(k:Nat):pm (k+1) = - pm k:=by
 unfold pm;rcases Nat.mod_two_eq_zero_or_one k with h|h
 ·rw [if_neg (by omega),if_pos h]
 ·rw [if_pos (by omega),if_neg (by omega)];grind
theorem znQ(k:Nat):pm k=1∨pm k = -1:=by
 unfold pm;split
 ·exact .inl rfl
 ·exact .inr rfl
abbrev Fam:=(Nat→Bool)→Rat
def zba(N:Nat)(v:Nat→Rat)(w:Fam):Fam:=fun S=>sumQ (fun j=>if S j=true then pm (lieB S j)*v j*w (wo S j)else 0) N
theorem zsv(S:Nat→Bool)(j k:Nat):wo (wo S j) k=wo (wo S k) j:=by
 funext i
 unfold wo
 cases S i <;> simp [Bool.and_comm]
theorem zdw(N:Nat)(u v:Nat→Rat)(w:Fam)(S:Nat→Bool):zba N u (zba N v w) S = - zba N v (zba N u w) S:=by
 have ex:∀(u v:Nat→Rat),zba N u (zba N v w) S=sumQ (fun j=>sumQ (fun k=>if S j=true∧S k=true∧k≠j then pm (lieB S j)*pm (lieB (wo S j) k)*(u j*v k*w (wo (wo S j) k))else 0) N) N:=fun u v=>by
  unfold zba;refine zak fun j _ => ?_
  by_cases hj:S j=true
  ·rw [if_pos hj,←zce];refine zak fun k _ => ?_
   by_cases hk:S k=true∧k≠j
   ·have:wo S j k=true:=by simp [wo,hk.1,hk.2]
    rw [if_pos this,if_pos ⟨hj,hk⟩];grind
   ·have:¬wo S j k=true:=by
     intro h;simp [wo]at h
     exact hk h
    rw [if_neg this,if_neg (fun h=>hk h.2)];grind
  ·rw [if_neg hj];exact(zcF N).symm.trans (zak fun k _=>(if_neg (fun h=>hj h.1)).symm)
 rw [ex u v,ex v u,zhF,←znx];refine zak fun k _ => ?_
 rw [←znx];refine zak fun j _ => ?_
 by_cases h:S j=true∧S k=true∧k≠j
 ·obtain⟨hj,hk,hne⟩:=h;rw [if_pos ⟨hj,hk,hne⟩,if_pos ⟨hk,hj,Ne.symm hne⟩,zsv S j k];have key:pm (lieB S j)*pm (lieB (wo S j) k) = - (pm (lieB S k)*pm (lieB (wo S k) j)):=by
   rcases Nat.lt_or_gt_of_ne hne with hlt|hlt
   ·rw [zkC (S:=S) (j:=j) (n:=k) (by omega),zmO hk hlt,zkn];grind
   ·rw [zkC (S:=S) (j:=k) (n:=j) (by omega),zmO hj hlt,zkn];grind
  rw [key];grind
 ·rw [if_neg h,if_neg (fun q=>h ⟨q.2.1,q.1,Ne.symm q.2.2⟩)];grind
theorem zmh(N:Nat)(v:Nat→Rat)(w:Fam)(S:Nat→Bool):zba N v (zba N v w) S=0:=by
 have:=zdw N v v w S;grind
theorem zpo(N:Nat)(u v:Nat→Rat)(c:Rat)(w:Fam)(S:Nat→Bool):zba N (fun j=>u j+c*v j) w S=zba N u w S+c*zba N v w S:=by
 unfold zba;rw [←zce,←ze1];refine zak fun j _ => ?_
 by_cases hj:S j=true
 ·rw [if_pos hj,if_pos hj,if_pos hj];grind
 ·rw [if_neg hj,if_neg hj,if_neg hj];grind
theorem zmi(N:Nat)(u:Nat→Rat)(c:Rat)(w:Fam)(S:Nat→Bool):zba N (fun j=>c*u j) w S=c*zba N u w S:=by
 unfold zba;rw [←zce];refine zak fun j _ => ?_
 by_cases hj:S j=true
 ·rw [if_pos hj,if_pos hj];grind
 ·rw [if_neg hj,if_neg hj];grind
theorem zhw(N:Nat)(u:Nat→Rat)(c:Rat)(w:Fam):zba N u (fun S=>c*w S)=fun S=>c*zba N u w S:=by
 funext S
 unfold zba;rw [←zce];refine zak fun j _ => ?_
 by_cases hj:S j=true
 ·rw [if_pos hj,if_pos hj];grind
 ·rw [if_neg hj,if_neg hj];grind
def oneF(N:Nat):Fam:=fun S=>if lieB S N=0 then 1 else 0
def zaH(N:Nat):List (Nat→Rat)→Fam
 | []=>oneF N
 | u :: r=>zba N u (zaH N r)
theorem zeq(N:Nat)(u:Nat→Rat)(B:List (Nat→Rat)):∀A,zaH N (A ++ u :: B)=fun S=>pm A.length*zaH N (u :: (A ++ B)) S
 | []=>by
  funext S
  show zaH N (u :: B) S=pm 0*zaH N (u :: B) S
  rw [show pm 0=1 from rfl];grind
 | a :: A=>by
  funext S
  show zba N a (zaH N (A ++ u :: B)) S=pm (A.length+1)*zba N u (zba N a (zaH N (A ++ B))) S
  rw [zeq N u B A,zhw,zkn,zdw N u a];show pm A.length*zba N a (zba N u (zaH N (A ++ B))) S=_
  grind
inductive Differ(u:Nat→Rat):List (Nat→Rat)→List (Nat→Rat)→Prop
 | nil:Differ u [] []
 | cons {x y:Nat→Rat} {A B:List (Nat→Rat)} (t:Rat) (h:∀j,y j=x j+t*u j) (r:Differ u A B):Differ u (x :: A) (y :: B)
theorem Differ.len{u:Nat→Rat}{A B:List (Nat→Rat)}(h:Differ u A B):A.length=B.length:=by
 induction h with
 | nil=>rfl
 | cons t h r ih=>simp [ih]
theorem Differ.append{u:Nat→Rat}{A B C D:List (Nat→Rat)}(h:Differ u A B)(k:Differ u C D):Differ u (A ++ C) (B ++ D):=by
 induction h with
 | nil=>exact k
 | cons t h r ih=>exact .cons t h ih
theorem zj6(N:Nat){u:Nat→Rat}{A B:List (Nat→Rat)}(h:Differ u A B):zaH N (u :: B)=zaH N (u :: A):=by
 induction h with
 | nil=>rfl
 | @cons x y A B t h r ih=>
  funext S
  have hy:y=fun j=>x j+t*u j:=funext h
  show zba N u (zba N y (zaH N B)) S=zba N u (zba N x (zaH N A)) S
  rw [zdw N u y,zdw N u x];show-zba N y (zaH N (u :: B)) S = - zba N x (zaH N (u :: A)) S
  rw [ih,hy,zpo];have:zba N u (zaH N (u :: A)) S=0:=zmh N u _ S;rw [this];grind
theorem zje(N:Nat){u:Nat→Rat}{A A' B B':List (Nat→Rat)}(hA:Differ u A A')(hB:Differ u B B'):zaH N (A' ++ u :: B')=zaH N (A ++ u :: B):=by
 rw [zeq,zeq,hA.len,zj6 N (hA.append hB)]
def setL(l:List Nat):Nat→Bool:=fun j=>l.contains j
theorem zsu{c:Nat}{l:List Nat}(h:c∉l):wo (setL (c :: l)) c=setL l:=by
 funext j
 show((c :: l).contains j && decide (j≠c))=l.contains j
 rw [List.contains_cons];by_cases e:j=c
 ·subst e;have:l.contains j=false:=by
   cases hc:l.contains j with
   | false=>rfl
   | true=>exact absurd (List.contains_iff_mem.1 hc) h
  rw [this];simp
 ·have:(j == c)=false:=by simp [e]
  rw [this];simp [e]
theorem zn5:∀n,lieB (setL []) n=0
 | 0=>rfl
 | n+1=>by
  unfold lieB;rw [zn5 n];rfl
inductive Tri(N:Nat):List (Nat→Rat)→List Nat→Rat→Prop
 | nil:Tri N [] [] 1
 | cons {u:Nat→Rat} {c:Nat} {A:List (Nat→Rat)} {l:List Nat} {p:Rat} (hc:c<N) (hn:c∉l) (h0:∀k∈l,u k=0) (r:Tri N A l p):Tri N (u :: A) (c :: l) (u c*p)
theorem Tri.wedges{N:Nat}{A:List (Nat→Rat)}{l:List Nat}{p:Rat}(h:Tri N A l p):Go.Num.zaH N A (setL l)=p∨Go.Num.zaH N A (setL l) = -p:=by
 induction h with
 | nil=>
  left;show(if lieB (setL []) N=0 then(1:Rat)else 0)=1
  rw [zn5,if_pos rfl]
 | @cons u c A l p hc hn h0 r ih=>
  have e:Go.Num.zaH N (u :: A) (setL (c :: l))=pm (lieB (setL (c :: l)) c)*u c*Go.Num.zaH N A (setL l):=by
   show sumQ (fun j=>if setL (c :: l) j=true then pm (lieB (setL (c :: l)) j)*u j*Go.Num.zaH N A (wo (setL (c :: l)) j)else 0) N=_
   rw [ze0 hc]
   ·rw [if_pos (show setL (c :: l) c=true by simp [setL]),zsu hn]
   ·intro i _ hi;by_cases hm:setL (c :: l) i=true
    ·have:i∈l:=by
      have:i∈c :: l:=List.contains_iff_mem.1 hm;simpa [hi]using this
     rw [if_pos hm,h0 i this];grind
    ·rw [if_neg hm]
  rw [e];rcases znQ (lieB (setL (c :: l)) c)with hp|hp <;> rcases ih with hi|hi <;> rw [hp,hi]
  ·left;grind
  ·right;grind
  ·right;grind
  ·left;grind
end Go.Num
