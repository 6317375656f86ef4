/-
  'Zero' of the reference; integers as leaves. A region that draws its order and calls, with one new box that may be made at any time and is f
  Conditions: see each statement.
-/
import Derived.Test.YtepakfjilnpodaaGreatDoorRBAT
import Derived.Deep.MidRow
import Derived.Test.YtepakfjilnpodaaGreatDoorRBAN
import Derived.Test.YtepakfjilnpodaaGreatDoorRBAO
import Derived.Maps.AppendAt
namespace Go.Eng
open Go.RowKit Go.Num Go.Proofs Go.Proofs.YtepakfjilnpodaaGreatDoor
def zaH(a:CAct):List (Tmp × Value)→CAct
 | []=>a
 | (t,v) :: r=>(zaH a r).put (some t) v
def zk8(a:CAct):List (Tmp × Value)→Tmp→Value
 | [],t=>a.tmps.getD t undef
 | (s,v) :: r,t=>bif Nat.beq s t then v else zk8 a r t
def look(a:CAct)(ov:List (Tmp × Value)):Operand→Value
 | .tmp t=>zk8 a ov t
 | .const v=>v
 | .global g => .pointer (some ⟨g,0,none⟩)
 | .func f => .func (.func f) #[] #[]
def zde(nt:Nat)(ov:List (Tmp × Value)):Prop:=∀p∈ov,p.1<nt
theorem zfD(a:CAct):∀ov,(zaH a ov).tmps.size=a.tmps.size
 | []=>rfl
 | (t,v) :: r=>by rw [zaH,zcn];exact zfD a r
theorem zds(a:CAct):∀ov,zde a.tmps.size ov→∀t,(zaH a ov).tmps.getD t undef=zk8 a ov t
 | [],_,t=>rfl
 | (s,v) :: r,h,t=>by
  have ih:=zds a r (fun p hp=>h p (by simp [hp])) t;show((zaH a r).put (some s) v).tmps.getD t undef=bif Nat.beq s t then v else zk8 a r t
  cases e:Nat.beq s t with
  | true=>
   have:=Nat.eq_of_beq_eq_true e;subst this;exact zco (by rw [zfD];exact h (s,v) (by simp))
  | false=>
   rw [zaC (by intro q;cases q;rw [Nat.beq_refl]at e;cases e)];exact ih
theorem zaV(a:CAct)(ov:List (Tmp × Value))(h:zde a.tmps.size ov):(zaH a ov).eval=look a ov:=by
 funext x
 cases x with
 | tmp t=>exact zds a ov h t
 | _=>rfl
def OV(K:World→Prop)(ks:List Nat)(P:Program)(nt:Nat)(ops:Array Oper)(bs bars:List Nat)(Q:CAct→World→Prop)(r:List Nat)(a:CAct)(ov:List (Tmp × Value))(w:World):Prop:=
 a.tmps.size=nt→zde nt ov→OWK K ks P none ops bs bars Q r (zaH a ov) w
section
variable {K:World→Prop} {ks:List Nat} {P:Program} {nt:Nat} {ops:Array Oper} {bs bars r:List Nat} {i:Nat} {a:CAct} {ov:List (Tmp × Value)} {w:World} {Q:CAct→World→Prop} {o:Oper}
theorem zde.cons{d:Tmp}{v:Value}(h:zde nt ov)(hd:Nat.blt d nt=true):zde nt ((d,v) :: ov):=by
 intro p hp;rcases List.mem_cons.1 hp with rfl|hp
 ·exact(zbu _ _).1 hd
 ·exact h p hp
theorem OV.read{d:Tmp}(v:Value)(ho:ops[i]? = some o)(hdst:o.dst=some d)(hb:bars.contains i=false)(hd:Nat.blt d nt=true)
  (hrun:∀w',(Below w.heap.size w w'∨(ks.contains i=true∧K w'))→(execOp (look a ov) o).run P w' = .ok (.value v) w') (h:OV K ks P nt ops bs bars Q r a ((d,v) :: ov) w):OV K ks P nt ops bs bars Q (i :: r) a ov w:=by
 intro hn hk;refine⟨o,ho,.inr ⟨hb,v,fun w' hw' => ?_,?_⟩⟩
 ·rw [zaV a ov (by rw [hn];exact hk)];exact hrun w' hw'
 ·rw [hdst];exact h hn (hk.cons hd)
theorem OV.mv{x:Operand}{v:Value}{d:Tmp}{ty:TypeId}{ps:String}{af:Array Edge}(ho:ops[i]? = some {op:=.move x,dst:=some d,type:=ty,pos:=ps,after:=af,guard:=none})(hb:bars.contains i=false)(hd:Nat.blt d nt=true)
  (hx:look a ov x=v) (h:OV K ks P nt ops bs bars Q r a ((d,v) :: ov) w):OV K ks P nt ops bs bars Q (i :: r) a ov w:=
 OV.read v ho rfl hb hd (fun w' _=>by subst hx;rfl) h
theorem OV.asg{x:Operand}{v:Value}{d:Tmp}{ty:TypeId}{ps:String}{af:Array Edge}(ho:ops[i]? = some {op:=.assign x,dst:=some d,type:=ty,pos:=ps,after:=af,guard:=none})(hb:bars.contains i=false)(hd:Nat.blt d nt=true)
  (hx:look a ov x=v) (h:OV K ks P nt ops bs bars Q r a ((d,v) :: ov) w):OV K ks P nt ops bs bars Q (i :: r) a ov w:=
 OV.read v ho rfl hb hd (fun w' _=>by subst hx;rfl) h
def zns(P:Program)(t:TypeId)(sz:Nat):Prop:=∀(p:Addr) (len cap k:Nat) (w:World),k<len→(Instr.indexAt t (.slice (some p) len cap) (.int .i64 (k:Int))).run P w = .ok (.pointer (some (p.add (k*sz)))) w
theorem zpe{t e:TypeId}{inf:TypeInfo}{sz:Nat}(hu:P.underlying t=some (.slice e))(hi:P.info? e=some inf)(hs:inf.size=sz):zns P t sz:=by
 intro p len cap k w hk;have hk':(k:Int)<(len:Int):=by omega
 subst hs;simp [Instr.indexAt,asIntOf,hu,hk,underlying,sizeOf,typeInfo,hi,Sem.run_bind,Sem.run_pure,Result.andThen,go_sem]
theorem OV.idx{t:TypeId}{x y:Operand}{p:Addr}{len cap k sz:Nat}{d:Tmp}{ty:TypeId}{ps:String}{af:Array Edge}(hI:zns P t sz)(hk:k<len)(ho:ops[i]? = some {op:=.indexAddr t x y,dst:=some d,type:=ty,pos:=ps,after:=af,guard:=none})(hb:bars.contains i=false)(hd:Nat.blt d nt=true)
  (hx:look a ov x = .slice (some p) len cap) (hy:look a ov y = .int .i64 (k:Int)) (h:OV K ks P nt ops bs bars Q r a ((d,.pointer (some (p.add (k*sz)))) :: ov) w):OV K ks P nt ops bs bars Q (i :: r) a ov w:=
 OV.read _ ho rfl hb hd (fun w' _=>by simp [execOp,hx,hy,hI p len cap k w' hk]) h
def zdO(P:Program)(t:TypeId)(n:Nat):Prop:=∀(p:Addr) (cs:List Value) w,cs.length=n→(∀j v,cs[j]? = some v→World.cell? w (p.add j)=some v)→(Instr.loadAt t (.pointer (some p))).run P w = .ok (.agg cs.toArray) w
theorem zhY{t:TypeId}{n:Nat}(h:(match P.underlying t with|some (.struct _)=>true|_=>false)=true)(hi:(P.info? t).map (·.size)=some n):zdO P t n:=by
 intro p cs w hn hc
 cases hu:P.underlying t with
 | none=>rw [hu]at h;cases h
 | some d=>
  rw [hu]at h
  cases d with
  | struct fs=>
   have hl:(loadCells p cs.length).run P w = .ok cs.toArray w:=run_loadCells_list (P:=P) w p cs hc
   cases hq:P.info? t with
   | none=>simp [hq]at hi
   | some inf=>
    have hs:inf.size=n:=by simpa [hq]using hi
    have hagg:(isAgg t).run P w = .ok true w:=by
     unfold isAgg;rw [Sem.run_bind,run_underlying hu w];rfl
    simp [Instr.loadAt,Instr.sureAddr,loadVar,Sem.run_bind,hagg,sizeOf,typeInfo,hq,hs,←hn,hl]
  | _=>cases h
theorem OV.ldn{t:TypeId}{x:Operand}{p:Addr}{n:Nat}(cs:List Value){d:Tmp}{ty:TypeId}{ps:String}{af:Array Edge}(hL:zdO P t n)(hc:∀j v,cs[j]? = some v→w.cell? (p.add j)=some v)(hks:ks.contains i=false)(ho:ops[i]? = some {op:=.load t x,dst:=some d,type:=ty,pos:=ps,after:=af,guard:=none})(hb:bars.contains i=false)(hd:Nat.blt d nt=true)
  (hn:cs.length=n) (h0:0<n) (hx:look a ov x = .pointer (some p)) (h:OV K ks P nt ops bs bars Q r a ((d,.agg cs.toArray) :: ov) w):OV K ks P nt ops bs bars Q (i :: r) a ov w:=
 OV.read _ ho rfl hb hd (fun w' hb'=>by
  rcases hb' with hb'|⟨q,_⟩
  ·have hp:p.block<w.heap.size:=by
    obtain⟨v,hv⟩:∃v,cs[0]? = some v:=⟨_,List.getElem?_eq_getElem (by omega)⟩;have:=World.block_lt_of_cell? _ _ (hc 0 v hv);rwa [zaf]at this
   simp [execOp,hx,hL p cs w' hn (fun j v hj=>(hb'.cell (p:=p.add j) (by rw [zaf];exact hp)).trans (hc j v hj))]
  ·rw [hks]at q;cases q) h
theorem OWK.call{f:FuncId}{fn:Func}{xs:Array Operand}{ts:Array TypeId}{args:List Value}{d:Option Tmp}{ty:TypeId}{ps:String}{af:Array Edge}(ho:ops[i]? = some {op:=.call {callee:=.value (.func f),args:=xs,argTypes:=ts},dst:=d,type:=ty,pos:=ps,after:=af,guard:=none})(hb:bars.contains i=true)
  (hfn:P.funcs[f]? = some fn) (hbody:fn.body.isSome=true) (hN:zbi P) (ha:xs.toList.map a.eval=args)
  (h:CallsIn Fence.wide 0 P f args.toArray w fun e w'=>∃v,e = .returned v∧((zeX bs ks ops.size i=true∧K w')∨Below w.heap.size w w')∧OWK K ks P none ops bs bars Q r (a.put d v) w'):OWK K ks P none ops bs bars Q (i :: r) a w:=by
 refine⟨_,ho,.inl ⟨hb,.inl ⟨f,args.toArray,?_,h⟩⟩⟩;have ha':xs.map a.eval=args.toArray:=by subst ha;apply Array.ext';rw [Array.toList_map]
 rw [←ha'];have hbn:fn.body≠none:=by intro q;rw [q]at hbody;simp at hbody
 have hev:a.eval (.func f) = .func (.func f) #[] #[]:=rfl;unfold execOp;simp only [resolve,hev,Deferred.ofValue,Sem.run_bind,Sem.run_pure,Result.andThen_ok,invoke,callFunc,run_program,hfn,hN f fn hfn hbody,Bool.false_eq_true,if_false];have:fn.body.isNone=false:=by cases hq:fn.body <;> simp_all
 rw [this];simp
theorem OV.call{f:FuncId}{fn:Func}{xs:Array Operand}{ts:Array TypeId}(args:List Value){d:Tmp}{ty:TypeId}{ps:String}{af:Array Edge}{R:Value→World→Prop}{f':FuncId}(hfn:P.funcs[f]? = some fn)(hbody:fn.body.isSome=true)(hN:zbi P)
  (ho:ops[i]? = some {op:=.call {callee:=.value (.func f),args:=xs,argTypes:=ts},dst:=some d,type:=ty,pos:=ps,after:=af,guard:=none}) (hb:bars.contains i=true) (hd:Nat.blt d nt=true)
  (ha:xs.toList.map (look a ov)=args) (hf:f=f') (hcall:CallsIn Fence.wide 0 P f' args.toArray w fun e w'=>∃v,e = .returned v∧R v w'∧Below w.heap.size w w')
  (h:∀v w',R v w'→Below w.heap.size w w'→OV K ks P nt ops bs bars Q r a ((d,v) :: ov) w'):OV K ks P nt ops bs bars Q (i :: r) a ov w:=by
 intro hn hk;subst hf;refine OWK.call ho hb hfn hbody hN (args:=args) (by rw [zaV a ov (by rw [hn];exact hk)];exact ha) (hcall.mono ?_);rintro e w' ⟨v,rfl,hR,hB⟩;exact⟨v,rfl,.inr hB,h v w' hR hB hn (hk.cons hd)⟩
theorem OV.put1{t:TypeId}{x:Operand}{v:Value}{w':World}{d:Tmp}{ty:TypeId}{ps:String}{af:Array Edge}(hrun:(Instr.buildSlice t 1 #[(0,v)]).run P w = .ok (.slice (some ⟨w.heap.size,0,none⟩) 1 1) w')(hB:Below w.heap.size w w')(ho:ops[i]? = some {op:=.buildSlice t 1 #[(0,x)],dst:=some d,type:=ty,pos:=ps,after:=af,guard:=none})(hb:bars.contains i=true)(hd:Nat.blt d nt=true)
  (hx:look a ov x=v) (h:OV K ks P nt ops bs bars Q r a ((d,.slice (some ⟨w.heap.size,0,none⟩) 1 1) :: ov) w'):OV K ks P nt ops bs bars Q (i :: r) a ov w:=by
 intro hn hk;exact⟨_,ho,.inl ⟨hb,.inr ⟨w',_,.inl (by simp [execOp,zaV a ov (by rw [hn];exact hk),hx,hrun]),.inr hB,h hn (hk.cons hd)⟩⟩⟩
theorem OV.app{t:TypeId}{s x:Operand}{v y v':Value}{w':World}{d:Tmp}{ty:TypeId}{ps:String}{af:Array Edge}(hKw:K w')(hrun:(Builtin.append_ #[t,t] ty #[v,y]).run P w = .ok v' w')(ho:ops[i]? = some {op:=.call {callee:=Callee.builtin Builtin.append,args:=#[s,x],argTypes:=#[t,t]},dst:=some d,type:=ty,pos:=ps,after:=af,guard:=none})(hb:bars.contains i=true)(hd:Nat.blt d nt=true)
  (hl:zeX bs ks ops.size i=true) (hs:look a ov s=v) (hx:look a ov x=y) (h:OV K ks P nt ops bs bars Q r a ((d,v') :: ov) w'):OV K ks P nt ops bs bars Q (i :: r) a ov w:=by
 intro hn hk;have e:=zaV a ov (by rw [hn];exact hk);exact⟨_,ho,.inl ⟨hb,.inr ⟨w',v',.inl (by simp [execOp,resolve,invoke,builtin,e,hs,hx,hrun,Result.andThen]),.inl ⟨hl,hKw⟩,h hn (hk.cons hd)⟩⟩⟩
theorem OV.st{t:TypeId}{x y:Operand}{p v:Value}{w':World}{ty:TypeId}{ps:String}{af:Array Edge}(hKw:K w')(hrun:(Instr.storeAt t p v).run P w = .ok () w')(ho:ops[i]? = some {op:=.store t x y,dst:=none,type:=ty,pos:=ps,after:=af,guard:=none})(hb:bars.contains i=true)(hl:zeX bs ks ops.size i=true)
  (hx:look a ov x=p) (hy:look a ov y=v) (h:OV K ks P nt ops bs bars Q r a ov w'):OV K ks P nt ops bs bars Q (i :: r) a ov w:=by
 intro hn hk;have e:=zaV a ov (by rw [hn];exact hk);exact⟨_,ho,.inl ⟨hb,.inr ⟨w',undef,.inr ⟨by simp [execOp,e,hx,hy,hrun],rfl⟩,.inl ⟨hl,hKw⟩,h hn hk⟩⟩⟩
theorem OV.done(h:Q (zaH a ov) w):OV K ks P nt ops bs bars Q [] a ov w:=fun _ _=>h
theorem zeF(K:World→Prop)(ks:List Nat)(hKB:∀w w',K w→Below w.heap.size w w'→K w'){id:Nat}{l:List Oper}(bars ord:List Nat)(bs:List Nat){a:CAct}{w:World}{ro:Option Nat}{Q:Exit→CAct→World→Prop}(hm:P.follows .mixedOrders=true)(hro:ro=none)
  (nt:Nat) (hnt:a.tmps.size=nt) (hc:zgj l bars ord nt=true) (hbs:zeV l []=bs) (hK:K w.drew) (h:OV K ks P nt l.toArray bs bars (fun a' w'=>Q .normal a' w') ord a [] w.drew):(Code.region id l.toArray true).wpIn (Fz ro) 0 P Q a w:=by
 subst hro;exact zeE ks hKB bars ord bs hm nt hnt hc hbs hK (h hnt (fun p hp=>by cases hp))
theorem zdP{id:Nat}{l:List Oper}(bars ord:List Nat)(bs:List Nat){a:CAct}{w:World}{ro:Option Nat}{Q:Exit→CAct→World→Prop}(hm:P.follows .mixedOrders=true)(hro:ro=none)
  (nt:Nat) (hnt:a.tmps.size=nt) (hc:zgj l bars ord nt=true) (hbs:zeV l []=bs) (h:OV (fun _=>True) [] P nt l.toArray bs bars (fun a' w'=>Q .normal a' w') ord a [] w.drew):(Code.region id l.toArray true).wpIn (Fz ro) 0 P Q a w:=
 zeF (fun _=>True) [] (fun _ _ _ _=>trivial) bars ord bs hm hro nt hnt hc hbs trivial h
end
end Go.Eng
namespace Go.Num
open Go.Eng Go.Shelf Go.RowKit Go.Proofs Go.Proofs.YtepakfjilnpodaaGreatDoor
def zrM(z:Int):Leaf rs3 where
 sh:=.agg 2
 I:=fun v w=>ZAt w v z
 stable:=by
  rintro v w w' hk ⟨m,e,h⟩;exact⟨m,e,h.kept hk rfl⟩
 ok:=by
  rintro v w ⟨m,rfl,h⟩;refine⟨_,rfl,rfl,fun x hx => ?_⟩;simp only [List.mem_cons,List.not_mem_nil,or_false]at hx;rcases hx with rfl|rfl
  ·rfl
  ·exact h.oneCell
 det:=fun h=>by cases h
theorem zbB(w:World):CallsIn Fence.wide 0 Tryz.prog 89 #[] w fun e w'=>∃v',e = .returned v'∧QAt w' v' 0∧Below w.heap.size w w':=by
 have hT:TI w [zrM 0,zq9 0] [(31,A1 (vi 0),A1 (tg 0)),(30,A1 (tg 0),A1 (tg 1))]:=by
  refine zed ⟨_,Tryz.func31,rfl⟩ (fun w1 v hw hv => ?_) <| zed ⟨_,Tryz.func30,rfl⟩ (fun w1 v hw hv => ?_) zdI
  ·have hv:some (Value.int .i64 0)=some v:=hv
   cases hv
   refine(zaM w1 0 (by decide) (by decide)).mono ?_;rintro e w' ⟨v',rfl,h1,h2⟩;exact⟨_,rfl,h1,h2⟩
  ·refine(zbr w1 v 0 hv).mono ?_;rintro e w' ⟨v',rfl,h1,h2⟩;exact⟨_,rfl,h1,h2⟩
 refine(zdX zak zac (S:=[.agg 2,shQ]) rfl hT (n:=50) (ts:=.nil) (rs:=A1 (tg 1)) (by kernel_rfl) (xs:=#[]) rfl).mono ?_;rintro e w' ⟨x,rfl,hx,hB⟩;exact⟨x,rfl,hx,hB⟩
end Go.Num
namespace Go.Num
open Go.Eng Go.Shelf Go.RowKit Go.Sort Go.Proofs Go.Proofs.YtepakfjilnpodaaGreatDoor
theorem OwnR.item9{β:Type}{w:World}{base ty sz:Nat}{I:β→List Value→World→Prop}{v:Value}{bs:List β}(h:OwnR w base ty sz I v bs){i:Nat}{b:β}(hb:bs[i]? = some b) :
  ∃g cap row,v = .slice (some ⟨g,0,none⟩) bs.length cap∧base≤g∧g<w.heap.size∧row.length=sz∧(∀j x,row[j]? = some x→w.cell? (((⟨g,0,none⟩:Addr).add (i*sz)).add j)=some x)∧I b row w:=by
 obtain⟨xs,h1,h2,h3,h4⟩:=h;have hi:i<bs.length:=(List.getElem?_eq_some_iff.1 hb).1;obtain⟨row,hr⟩:∃row,xs[i]? = some row:=⟨_,List.getElem?_eq_getElem (by omega)⟩;have hl:=h3 row (List.mem_of_getElem? hr);rcases h1.2 with⟨_,e⟩|⟨g,cap,cur,rfl,g1,g2,_⟩
 ·omega
 ·refine⟨g,cap,row,rfl,g1,(Array.getElem?_eq_some_iff.1 g2).1,hl,fun j x hx => ?_,h4 i row b hr hb⟩;have:=h1.cells rfl _ _ (zgL h3 hr hx);rw [Addr.add_add];exact this
theorem zmx.at9{β:Type}{w:World}{ty sz n c:Nat}{I:β→List Value→World→Prop}{a:Addr}{bs:List β}(h:zmx w ty sz I (.slice (some a) n c) bs){i:Nat}{b:β}(hb:bs[i]? = some b) :
  i<n∧∃row,row.length=sz∧(∀j x,row[j]? = some x→w.cell? ((a.add (i*sz)).add j)=some x)∧I b row w:=by
 have hi:i<bs.length:=(List.getElem?_eq_some_iff.1 hb).1;rcases h with⟨rfl,_⟩|⟨a',cap,xs,e,h2,h3,h4,h5,h6,h7,h8⟩
 ·simp at hb
 ·injection e with e e2 _;injection e with e;subst e;obtain⟨row,hr⟩:∃row,xs[i]? = some row:=⟨_,List.getElem?_eq_getElem (by omega)⟩;exact⟨by omega,row,h6 row (List.mem_of_getElem? hr),fun j x hx=>by rw [Addr.add_add];exact h7 i row hr j x hx,h8 i row b hr hb⟩
theorem zmx.some9{β:Type}{w:World}{ty sz:Nat}{I:β→List Value→World→Prop}{v:Value}{bs:List β}(h:zmx w ty sz I v bs)(h0:0<bs.length):∃a c,v = .slice (some a) bs.length c:=by
 rcases h with⟨rfl,_⟩|⟨a,cap,_,e,_⟩
 ·simp at h0
 ·exact⟨a,cap,e⟩
theorem BoxL.at9{w:World}{g:Nat}{xs:List Value}(h:BoxL w g xs):∀j v,xs[j]? = some v→w.cell? ((⟨g,0,none⟩:Addr).add j)=some v:=fun j v hj=>by
 rw [Addr.add_lit,Nat.zero_add];exact h.2 j v hj
def rowW(a:Nat→Rat)(n:Nat):List Rat:=(List.range n).map a
theorem zeR{a:Nat→Rat}{n j:Nat}(h:j<n):(rowW a n)[j]? = some (a j):=by simp [rowW,h]
theorem zcm(a:Nat→Rat)(n:Nat):(rowW a n).length=n:=by simp [rowW]
theorem zqL(w:World)(a b c d:Value):(Instr.buildSlice 54 1 #[(0,.agg #[a,b,c,d])]).run Tryz.prog w = .ok (.slice (some ⟨w.heap.size,0,none⟩) 1 1) (w.alloc (.cells #[a,b,c,d] 62)):=by
 simp [Instr.buildSlice,underlying,sizeOf,typeInfo,i34,i34s,i34z,Sem.run_bind,Result.andThen,go_sem,zeroValue,Value.cells]
theorem itQ:zns Tryz.prog 54 4:=zpe Go.Num.u63 i34 i34s
theorem lmQ:zdO Tryz.prog 62 4:=zhY (by kernel_rfl) (by kernel_rfl)
theorem zd2(w:World):CallsIn Fence.wide 0 Tryz.prog 88 #[] w fun e w'=>∃v',e = .returned v'∧QAt w' v' ((1:Int):Rat)∧Below w.heap.size w w':=by
 have hT:TI w [zrM 1,zq9 ((1:Int):Rat)] [(31,A1 (vi 1),A1 (tg 0)),(30,A1 (tg 0),A1 (tg 1))]:=by
  refine zed ⟨_,Tryz.func31,rfl⟩ (fun w1 v hw hv => ?_) <| zed ⟨_,Tryz.func30,rfl⟩ (fun w1 v hw hv => ?_) zdI
  ·have hv:some (Value.int .i64 1)=some v:=hv
   cases hv
   refine(zaM w1 1 (by decide) (by decide)).mono ?_;rintro e w' ⟨v',rfl,h1,h2⟩;exact⟨_,rfl,h1,h2⟩
  ·refine(zbr w1 v 1 hv).mono ?_;rintro e w' ⟨v',rfl,h1,h2⟩;exact⟨_,rfl,h1,h2⟩
 refine(zdX zak zac (S:=[.agg 2,shQ]) rfl hT (n:=50) (ts:=.nil) (rs:=A1 (tg 1)) (by kernel_rfl) (xs:=#[]) rfl).mono ?_;rintro e w' ⟨x,rfl,hx,hB⟩;exact⟨x,rfl,hx,hB⟩
end Go.Num
namespace Go.Eng
open Go.RowKit Go.Num Go.Proofs Go.Proofs.YtepakfjilnpodaaGreatDoor
theorem OV.sub9{K:World→Prop}{ks:List Nat}{nt:Nat}{ops:Array Oper}{bs bars r:List Nat}{i:Nat}{a:CAct}{ov:List (Tmp × Value)}{w:World}{Q:CAct→World→Prop}{t t2:TypeId}{x y:Operand}{p q z:Int}{d:Tmp}{ty:TypeId}{ps:String}{af:Array Edge}(hz:RowKit.wrap64 (p-q)=z)
  (ho:ops[i]? = some {op:=.binOp .sub t x y t2,dst:=some d,type:=ty,pos:=ps,after:=af,guard:=none}) (hb:bars.contains i=false) (hd:Nat.blt d nt=true)
  (hx:Go.Eng.look a ov x = .int .i64 p) (hy:Go.Eng.look a ov y = .int .i64 q) (h:OV K ks Tryz.prog nt ops bs bars Q r a ((d,.int .i64 z) :: ov) w):OV K ks Tryz.prog nt ops bs bars Q (i :: r) a ov w:=
 OV.read _ ho rfl hb hd (fun w' _=>by
  rw [←hz];simp [execOp,hx,hy,binOp,go_sem]
  unfold RowKit.wrap64;exact IntKind.wrap_i64 _) h
end Go.Eng
namespace Go.Num
end Go.Num
namespace Go.Num
def pw(r:Rat):Nat→Rat
 | 0=>1
 | n+1=>pw r n*r
theorem zqJ{r:Rat}(h:0<r):∀n,0<pw r n
 | 0=>by show(0:Rat)<1;decide
 | n+1=>Rat.mul_pos (zqJ h n) h
theorem zrG{r:Rat}(h:1<r):∀n,1<pw r (n+1)
 | 0=>by show 1<1*r;grind
 | n+1=>by
  have ih:=zrG h n;show 1<pw r (n+1)*r
  have h1:0<pw r (n+1)*(r-1):=Rat.mul_pos (by grind) (by grind);grind
theorem zrF{r:Rat}(h0:0<r)(h:r<1):∀n,pw r (n+1)<1
 | 0=>by show 1*r<1;grind
 | n+1=>by
  have ih:=zrF h0 h n;show pw r (n+1)*r<1
  have h1:0<pw r (n+1)*(1-r):=Rat.mul_pos (zqJ h0 _) (by grind);grind
theorem zp5{r:Rat}(h0:0<r)(h:r≠1){n:Nat}(hn:0<n):pw r n≠1:=by
 obtain⟨k,rfl⟩:∃k,n=k+1:=⟨n-1,by omega⟩;rcases Classical.em (1<r)with h1|h1
 ·have:=zrG h1 k;grind
 ·have:=zrF h0 (by grind) k;grind
def zdA(p:Rat)(a n:Nat):Rat:=if(1-p)/p=1 then(a:Rat)/(n:Rat)else(pw ((1-p)/p) a-1)/(pw ((1-p)/p) n-1)
def zeB(p:Rat)(a n:Nat):Rat:=if(1-p)/p=1 then(a:Rat)*((n:Rat)-(a:Rat))else((n:Rat)*zdA p a n-(a:Rat))/(p-(1-p))
def shA(p:Rat):Nat→Rat
 | 0=>0
 | 1=>1
 | k+2=>(shA p (k+1)-(1-p)*shA p k)/p
def shB(p c:Rat):Nat→Rat
 | 0=>0
 | 1=>0
 | k+2=>(shB p c (k+1)-(1-p)*shB p c k-c)/p
theorem zhh{p:Rat}(h:p=1/2):∀k:Nat,shA p k=(k:Rat)∧shA p (k+1)=(k:Rat)+1
 | 0=>by refine⟨by simp [shA],?_⟩;simp only [shA];grind
 | k+1=>by
  obtain⟨h1,h2⟩:=zhh h k;refine⟨by rw [h2];push_cast;rfl,?_⟩;simp only [shA,h1,h2];push_cast
  grind
theorem zjQ{p:Rat}(h:p=1/2)(c:Rat):∀k:Nat,shB p c k = - c*((k:Rat)*((k:Rat)-1))∧shB p c (k+1) = - c*(((k:Rat)+1)*(k:Rat))
 | 0=>by simp [shB]
 | k+1=>by
  obtain⟨h1,h2⟩:=zjQ h c k;refine⟨by rw [h2];push_cast;grind,?_⟩;simp only [shB,h1,h2];push_cast
  grind
theorem zmL{p:Rat}(h0:0<p)(h:(1-p)/p≠1):∀k:Nat,shA p k=(pw ((1-p)/p) k-1)/((1-p)/p-1)∧shA p (k+1)=(pw ((1-p)/p) (k+1)-1)/((1-p)/p-1)
 | 0=>by
  have:(1-p)/p-1≠0:=by grind
  refine⟨by simp only [shA,pw];grind,?_⟩;simp only [shA,pw];grind
 | k+1=>by
  obtain⟨h1,h2⟩:=zmL h0 h k;refine⟨h2,?_⟩;have hp:p≠0:=by grind
  have hr:(1-p)/p-1≠0:=by grind
  simp only [shA,h1,h2,pw];grind
theorem zoE{p:Rat}(h0:0<p)(h:(1-p)/p≠1)(c:Rat):∀k:Nat,shB p c k=c/(1-p-p)*((k:Rat)-shA p k)∧shB p c (k+1)=c/(1-p-p)*((k:Rat)+1-shA p (k+1))
 | 0=>by
  refine⟨by simp [shB,shA];grind,by simp [shB,shA];grind⟩
 | k+1=>by
  obtain⟨h1,h2⟩:=zoE h0 h c k;refine⟨by rw [h2];push_cast;rfl,?_⟩;have hp:p≠0:=by grind
  have hr:1-p-p≠0:=by grind
  simp only [shB,shA,h1,h2];push_cast
  grind
theorem zoD{p:Rat}(h0:0<p)(h1:p<1){a n:Nat}(hn:0<n) :
  shA p a*((1-shB p 0 n)/shA p n)+shB p 0 a=zdA p a n∧shA p a*((0-shB p 1 n)/shA p n)+shB p 1 a=zeB p a n:=by
 have hn':(n:Rat)≠0:=by exact_mod_cast Nat.pos_iff_ne_zero.1 hn
 by_cases h:(1-p)/p=1
 ·have hp:p=1/2:=by grind
  have hA:=fun k=>(zhh hp k).1
  have hB:=fun c k=>(zjQ hp c k).1
  simp only [hA,hB,zdA,zeB,h,if_true];constructor <;> grind
 ·have hA:=fun k=>(zmL h0 h k).1
  have hB:=fun c k=>(zoE h0 h c k).1
  have hpp:0<(1-p)/p:=by
   rw [Rat.div_def];exact Rat.mul_pos (by grind) (Rat.inv_pos.2 h0)
  have hne:=zp5 hpp h hn;have e1:pw ((1-p)/p) n-1≠0:=by grind
  have e2:(1-p)/p-1≠0:=by grind
  have hr:1-p-p≠0:=by grind
  have hAn:shA p n≠0:=by rw [hA n];grind
  have hC:zdA p a n=shA p a/shA p n:=by rw [hA,hA];simp only [zdA,h,if_false];grind
  constructor
  ·rw [hB,hB,hC];grind
  ·simp only [zeB,h,if_false];rw [hB,hB,hC,show p-(1-p) = -(1-p-p)from by grind];clear hA hB hC e1 e2 hne hpp h;generalize 1-p-p=d at hr
   generalize shA p n=N at hAn
   generalize shA p a=A
   have hd : -d≠0:=by grind
   grind
end Go.Num
namespace Go.Num
open Go.Eng Go.Shelf Go.RowKit Go.Sort Go.Proofs Go.Proofs.YtepakfjilnpodaaGreatDoor
theorem zjj{β:Type}(w wr:World){ty sz t tx bytes:Nat}{inf:TypeInfo}{z:Value}{I:β→List Value→World→Prop}
  (e1:Tryz.prog.underlying t=some (.slice ty)) (e2:Tryz.prog.info? ty=some inf) (e3:inf.zero=some z) (e4:inf.size=sz) (e5:inf.bytes=bytes) (e6:z.cells.size=sz) (e7:0<sz) (e8:bytes≤100)
  (v:Value) (bs:List β) (HO:OwnR wr w.heap.size ty sz I v bs) (b:β) (row:List Value) (tt:TypeId) (hrow:row.length=sz) (h1c:∀u∈row,u.oneCell'=true) (hIb:I b row wr) (hI:∀b r w1 w2,Touch ty w1 w2→I b r w1→I b r w2) (hn:bs.length<500000000)
  (HB:Below w.heap.size w wr) :
  ∃v' w',(Builtin.append_ #[t,t] tx #[v,.slice (some ⟨wr.heap.size,0,none⟩) 1 1]).run Tryz.prog (wr.alloc (.cells row.toArray tt)) = .ok v' w' ∧
   OwnR w' w.heap.size ty sz I v' (bs ++ [b])∧Below w.heap.size w w'∧Touch ty wr w'∧(∀k,k<wr.heap.size→some k≠v.ownBlock→w'.heap[k]? = wr.heap[k]?)∧(v'.ownBlock=v.ownBlock∨∃k,v'.ownBlock=some k∧wr.heap.size≤k):=by
 have hsz:=HB.size;obtain⟨xs,h1,h2,h3,h4⟩:=HO;obtain⟨v',w',hrun,g1,g2,_,g3⟩:=run_append_own_at (P:=Tryz.prog) (wr.alloc (.cells row.toArray tt)) w.heap.size t tx ty inf z sz bytes e1 e2 e3 e4 e5 e6 e7 v bs.length xs.flatten (World.ownsRow.alloc h1 _) ⟨wr.heap.size,0,none⟩ 1 1 row (by rw [hrow];omega) (fun j u hu=>by rw [Addr.add_lit,Nat.zero_add,World.cell?_alloc_new];simpa using hu) h1c (by unfold maxLen;omega) (by
  have:(bs.length+1)*bytes≤500000000*100:=Nat.mul_le_mul (by omega) e8;omega) (by simp;omega)
 have hT:Touch ty wr w':=by
  refine⟨Nat.le_trans (by simp) g2.size,fun k cs e fz hk hne => ?_⟩;have hlt:k<wr.heap.size:=(Array.getElem?_eq_some_iff.1 hk).1;have hal:(wr.alloc (.cells row.toArray tt)).heap[k]? = wr.heap[k]?:=(zaa wr _).block k hlt;rw [g2.block k (by simp;omega) (fun hk' => ?_),hal]
  ·exact hk
  ·rcases h1.2 with⟨rfl,_⟩|⟨g,cap,cur,rfl,q1,q2,_⟩
   ·cases hk'
   ·have:k=g:=by simpa [Value.ownBlock]using hk'
    subst this;rw [q2]at hk;injection hk with hk;injection hk with _ hk _;exact hne hk.symm
 refine⟨v',w',hrun,⟨xs ++ [row],?_,by simp [h2],fun r hr => ?_,fun i r b' hr hb' => ?_⟩,?_,hT,?_,?_⟩
 ·rw [List.flatten_append,List.length_append];simpa using g1
 ·rcases List.mem_append.1 hr with h|h
  ·exact h3 r h
  ·rw [List.mem_singleton.1 h,hrow]
 ·rcases Nat.lt_or_ge i bs.length with hi|hi
  ·rw [List.getElem?_append_left (by omega)]at hr hb';exact hI _ _ _ _ hT (h4 i r b' hr hb')
  ·rw [List.getElem?_append_right (by omega)]at hr hb';rw [h2]at hr;rcases Nat.eq_zero_or_pos (i-bs.length)with h0|h0
   ·rw [h0]at hr hb';have hr:row=r:=by simpa using hr
    have hb':b=b':=by simpa using hb'
    rw [←hr,←hb'];exact hI _ _ _ _ hT hIb
   ·rw [List.getElem?_eq_none (by simp;omega)]at hr
    cases hr
 ·exact(HB.alloc hsz _).grown g2 (by simp;omega) fun k hk=>zcp h1 hk
 ·intro k hk hne;rw [g2.block k (by simp;omega) hne,(zaa wr _).block k hk]
 ·rcases g3 with h|h
  ·exact .inl h
  ·exact .inr ⟨_,h,by simp⟩
end Go.Num
namespace Go.Eng
open Go.RowKit Go.Num
def OWF(P:Program)(ops:Array Oper)(bs bars:List Nat)(Q:CAct→World→Prop):List Nat→CAct→World→Prop
 | [],a,w=>∀w1,Below w.heap.size w w1→Q a w1
 | i :: r,a,w=>∃o,ops[i]? = some o ∧
   ((bars.contains i=true∧∀w1,Below w.heap.size w w1 →
     ((∃f args,(execOp a.eval o).run P w1 = .ok (.enter f args) w1∧CallsIn (Fz none) 0 P f args w1 fun e w'=>∃v,e = .returned v∧Below w1.heap.size w1 w'∧OWF P ops bs bars Q r (a.put o.dst v) w') ∨
      (∃w' v,(execOp a.eval o).run P w1 = .ok (.value v) w'∧Below w1.heap.size w1 w'∧OWF P ops bs bars Q r (a.put o.dst v) w'))) ∨
    (bars.contains i=false∧∃v,(∀w',Below w.heap.size w w'→(execOp a.eval o).run P w' = .ok (.value v) w')∧OWF P ops bs bars Q r (a.put o.dst v) w))
section
variable {P:Program} {ops:Array Oper} {p:Plan}
structure zlC(P:Program)(ops:Array Oper)(p:Plan)(bars:List Nat)(Q:CAct→World→Prop)(a:CAct)(ord done rest:List Nat)(val:Nat→Value)(g:CAct)(listed:Array Bool)(w:World):Prop where
 ord:done ++ rest=ord
 size:g.tmps.size=a.tmps.size
 defers:g.defers=a.defers
 gW:∀j∈done,∀o d,ops[j]? = some o→o.dst=some d→g.tmps.getD d undef=val j
 g0:∀t,(∀j∈done,∀o,ops[j]? = some o→o.dst≠some t)→g.tmps.getD t undef=a.tmps.getD t undef
 quiet:∀i∈done,¬Did listed i→∀o,ops[i]? = some o→i∉bars∧∀c:CAct,zct ops p val a i o c→∀w',Below w.heap.size w w'→(execOp c.eval o).run P w' = .ok (.value (val i)) w'
 cont:OWF P ops p.bs bars Q rest g w
theorem zin{bars:List Nat}{Q:CAct→World→Prop}{a:CAct}{ord done r:List Nat}{i:Nat}{val:Nat→Value}{g:CAct}{listed:Array Bool}{w:World}(hp:zbA ops p)(hord:zc2 p.bs bars ord=true)(hcl:∀i∈ord,∀j,(bsAt p.bs i).testBit j=true→j∈ord)
  (hC:zlC P ops p bars Q a ord done (i :: r) val g listed w) {o:Oper} (ho:ops[i]? = some o):zct ops p val a i o g:=by
 have hs:=hC.ord ▸ hord;obtain⟨h1,h2⟩:=zaD hs;have hio:i∈ord:=by rw [←hC.ord];simp
 intro t ht;refine⟨fun j q hj hq hd => ?_,fun hno => ?_⟩
 ·refine hC.gW j ?_ q t hq hd;have hjo:j∈ord:=hcl i hio j hj;rw [←hC.ord]at hjo;rcases List.mem_append.1 hjo with h|h
  ·exact h
  ·rcases List.mem_cons.1 h with rfl|h
   ·have:=zda hp j o ho j hj;omega
   ·have:=(h1 j h).1;rw [hj]at this;cases this
 ·refine hC.g0 t fun j hj q hq hd => ?_
  rcases hp.reads i j o q t ho hq hd ht with rfl|hb|hb
  ·exact(h2 i hj).2.1 rfl
  ·exact hno j q hb hq hd
  ·have:=(h2 j hj).1;rw [hb]at this;cases this
theorem zlr{bars:List Nat}{Q:CAct→World→Prop}{a:CAct}{ord done r:List Nat}{i:Nat}{val:Nat→Value}{g:CAct}{listed listed':Array Bool}{w w':World}(hp:zbA ops p)(hord:zc2 p.bs bars ord=true)
  (hdst:∀o∈ops.toList,∀d,o.dst=some d→d<a.tmps.size)
  (hC:zlC P ops p bars Q a ord done (i :: r) val g listed w) {o:Oper} (ho:ops[i]? = some o) (v:Value) (hcont:OWF P ops p.bs bars Q r (g.put o.dst v) w')
  (hq:∀j∈done,¬Did listed' j→∀q,ops[j]? = some q→j∉bars∧∀c:CAct,zct ops p val a j q c→∀w2,Below w'.heap.size w' w2→(execOp c.eval q).run P w2 = .ok (.value (val j)) w2)
  (hi:¬Did listed' i→i∉bars∧∀c:CAct,zct ops p val a i o c→∀w2,Below w'.heap.size w' w2→(execOp c.eval o).run P w2 = .ok (.value v) w2) :
  zlC P ops p bars Q a ord (done ++ [i]) r (upd val i v) (g.put o.dst v) listed' w':=by
 have hs:=hC.ord ▸ hord;obtain⟨h1,h2⟩:=zaD hs;have hom:o∈ops.toList:=List.mem_of_getElem? (by simpa using ho);have hagree:∀j q c,(bsAt p.bs j).testBit i=false→zct ops p (upd val i v) a j q c→zct ops p val a j q c:=by
  intro j q c hji hA t ht;refine⟨fun k q' hk hq' hd => ?_,(hA t ht).2⟩;have:=(hA t ht).1 k q' hk hq' hd;rw [zbM _ _ _ (fun e=>by rw [e]at hk;rw [hk]at hji;cases hji)]at this;exact this
 refine⟨by rw [←hC.ord];simp,by rw [zcn];exact hC.size,by rw [zbx];exact hC.defers,?_,?_,?_,hcont⟩
 ·intro j hj q d hq' hd;by_cases hji:j=i
  ·subst hji;rw [ho]at hq';cases hq';rw [zcb,hd,zco (by rw [hC.size];exact hdst o hom d hd)]
  ·rw [zbM _ _ _ hji,zaC (fun e=>hji (hp.dsts j i q o d hq' ho hd e))];rcases List.mem_append.1 hj with h|h
   ·exact hC.gW j h q d hq' hd
   ·simp at h;exact absurd h hji
 ·intro t ht;rw [zaC (ht i (by simp) o ho)];exact hC.g0 t fun j hj q hq'=>ht j (by simp [hj]) q hq'
 ·intro j hj hnd q hq';rcases List.mem_append.1 hj with h|h
  ·have hji:=h2 j h;rw [zbM _ _ _ hji.2.1];obtain⟨h3,h4⟩:=hq j h hnd q hq';exact⟨h3,fun c hA=>h4 c (hagree j q c hji.1 hA)⟩
  ·have hji:j=i:=by simpa using h
   subst hji;rw [ho]at hq';cases hq';rw [zcb];obtain⟨h3,h4⟩:=hi hnd;refine⟨h3,fun c hA=>h4 c (hagree j o c ?_ hA)⟩
   cases e:(bsAt p.bs j).testBit j with
   | false=>rfl
   | true=>have:=zda hp j o ho j e;omega
theorem zes{bars:List Nat}{Q:CAct→World→Prop}{a:CAct}{ord:List Nat}{listed:Array Bool}{w:World}(hp:zbA ops p)(hord:zc2 p.bs bars ord=true)(hcl:∀i∈ord,∀j,(bsAt p.bs i).testBit j=true→j∈ord)
  (hnosel:∀o∈ops.toList,∀cs b,o.op ≠ .select cs b) (hdst:∀o∈ops.toList,∀d,o.dst=some d→d<a.tmps.size) :
  ∀(rest done:List Nat) (val:Nat→Value) (g:CAct),zlC P ops p bars Q a ord done rest val g listed w →
   ∃done' rest' val' g',zlC P ops p bars Q a ord done' rest' val' g' listed w∧(∀e r,rest'=e :: r→e∈bars)∧(∀j,j∈done→j∈done'∧val' j=val j)∧(∀j,j∈done'→j∈bars→j∈done)
 | [],done,val,g,hC=>⟨done,[],val,g,hC,fun e r h=>(by cases h),fun j hj=>⟨hj,rfl⟩,fun j hj _=>hj⟩
 | i :: r,done,val,g,hC=>by
  obtain⟨o,ho,hh⟩:=hC.cont;rcases hh with⟨hb,hh⟩|⟨hb,v,hv,hcont⟩
  ·exact⟨done,i :: r,val,g,hC,fun e r' h=>by injection h with h1 h2;subst h1;simpa using hb,fun j hj=>⟨hj,rfl⟩,fun j hj _=>hj⟩
  ·have hs:=hC.ord ▸ hord;obtain⟨h1,h2⟩:=zaD hs;have hnb:i∉bars:=by intro h;rw [show bars.contains i=true by simpa using h]at hb;cases hb
   have hA:=zin hp hord hcl hC ho;have hom:o∈ops.toList:=List.mem_of_getElem? (by simpa using ho);have hC':=zlr hp hord hdst hC ho v hcont hC.quiet (listed':=listed) (fun _=>⟨hnb,fun c hAc w2 hb2=>by
    rw [execOp_congr o (hnosel o hom) (hAc.eval hA)];exact hv w2 hb2⟩)
   obtain⟨done',rest',val',g',k1,k2,k3,k4⟩:=zes hp hord hcl hnosel hdst r (done ++ [i]) _ _ hC';refine⟨done',rest',val',g',k1,k2,fun j hj => ?_,fun j hj hjb => ?_⟩
   ·obtain⟨h3,h4⟩:=k3 j (by simp [hj]);refine⟨h3,?_⟩;rw [h4,zbM _ _ _ (h2 j hj).2.1]
   ·have:=k4 j hj hjb;rcases List.mem_append.1 this with h|h
    ·exact h
    ·have:j=i:=by simpa using h
     subst this;exact absurd hjb hnb
structure zqF(P:Program)(ops:Array Oper)(p:Plan)(bars:List Nat)(Q:CAct→World→Prop)(a:CAct)(ord done rest:List Nat)(val:Nat→Value)(g:CAct)(f s:Nat)(d:Tmp)(ob:Obj)(base:Nat)(listed:Array Bool)(c:CAct)(w wa:World):Prop where
 core:zlC P ops p bars Q a ord done rest val g listed w
 below:Below w.heap.size w wa
 head:∀e r,rest=e :: r→e∈bars
 lsize:listed.size=ops.size
 closed:∀i j,Did listed i→(bsAt p.bs i).testBit j=true→Did listed j
 sub:∀j,Did listed j→j∈done∨j=f
 nos:¬Did listed s
 cdefers:c.defers=a.defers
 csize:c.tmps.size=a.tmps.size
 cW:∀j o d,Did listed j→j≠f→ops[j]? = some o→o.dst=some d→c.tmps.getD d undef=val j
 c0:∀t,(∀j o,Did listed j→ops[j]? = some o→o.dst≠some t)→c.tmps.getD t undef=a.tmps.getD t undef
 hbase:base≤wa.heap.size
 fr:Did listed f→∃b,c.tmps.getD d undef = .pointer (some ⟨b,0,none⟩)∧base≤b∧b<wa.heap.size∧wa.heap[b]? = some ob
def zkr(P:Program)(d:Tmp)(ob:Obj)(base:Nat)(oS:Oper)(Q:CAct→World→Prop)(a:CAct)(w:World):Prop:=
 ∀b,base≤b→b<w.heap.size→w.heap[b]? = some ob→∃w2,(execOp (a.put (some d) (.pointer (some ⟨b,0,none⟩))).eval oS).run P w = .ok .skip w2∧Q (a.put (some d) (.pointer (some ⟨b,0,none⟩))) w2
theorem zq6(hp:zbA ops p){bars ord:List Nat}(hord:zc2 p.bs bars ord=true)(hcl:∀i∈ord,∀j,(bsAt p.bs i).testBit j=true→j∈ord){f s:Nat}{d:Tmp}{ob:Obj}{base:Nat}{oA oS:Oper}(hall:∀i,i<ops.size→i∈ord∨i=f∨i=s)(hlt:∀i∈ord,i<ops.size)
  (hfo:f∉ord) (hso:s∉ord) (hfs:f≠s) (hpl:∀o∈ops.toList,zbG o=true) (hA:ops[f]? = some oA) (hAd:oA.dst=some d) (hArun:∀ev w,(execOp ev oA).run P w = .ok (.value (.pointer (some ⟨w.heap.size,0,none⟩))) (w.alloc ob))
  (hS:ops[s]? = some oS) (hSd:oS.dst=none) (hSall:∀j,j<ops.size→j≠s→(bsAt p.bs s).testBit j=true) {a:CAct} {ro:Option Nat} {Q:Exit→CAct→World→Prop} (hro:ro=none)
  (hdst:∀o∈ops.toList,∀d,o.dst=some d→d<a.tmps.size) :
  ∀(fuel:Nat) (done rest:List Nat) (val:Nat→Value) (g:CAct) (listed:Array Bool) (c:CAct) (w wa:World),zqF P ops p bars (zkr P d ob base oS fun a' w'=>Q .normal a' w') a ord done rest val g f s d ob base listed c w wa→cntF (fun i=>listed.getD i false) ops.size≤fuel→wpAnyIn (Fz ro) 0 P .any ops Q fuel listed c wa:=by
 subst hro;have hnosel:∀o∈ops.toList,∀cs b,o.op ≠ .select cs b:=by
  intro o ho cs b e;have:=hpl o ho;simp only [zbG,Bool.and_eq_true]at this;rw [e]at this
  cases this.2
 have hslt:s<ops.size:=(Array.getElem?_eq_some_iff.1 hS).1;have hflt:f<ops.size:=(Array.getElem?_eq_some_iff.1 hA).1;have fin:∀{done rest val g listed c w wa},zqF P ops p bars (zkr P d ob base oS fun a' w'=>Q .normal a' w') a ord done rest val g f s d ob base listed c w wa→Region.ready .any ops listed = []→False:=by
  intro done rest val g listed c w wa hI hr;exact hI.nos (zeS hp hI.lsize hr s hslt)
 intro fuel;induction fuel with
 | zero=>
  intro done rest val g listed c w wa hI hcnt;have hz:cntF (fun i=>listed.getD i false) ops.size=0:=by omega
  exact absurd (zd9 hz s hslt) hI.nos
 | succ fuel ih=>
  intro done rest val g listed c w wa hI hcnt;refine⟨fun hr=>(fin hI hr).elim,?_⟩;intro i hi;obtain⟨hin,hnd,o,ho,hedges⟩:=zbK hI.lsize hi;have hready:=zgm hp hI.closed ho hedges;have hol:ops.toList[i]? = some o:=by simpa using ho
  have hom:o∈ops.toList:=List.mem_of_getElem? hol;have hilt:i<listed.size:=by rw [hI.lsize];exact hin
  have hcnt':cntF (fun j=>(listed.setIfInBounds i true).getD j false) ops.size≤fuel:=by
   have:=zfq (f:=fun j=>listed.getD j false) (g:=fun j=>(listed.setIfInBounds i true).getD j false) (i:=i) hnd (zay hilt) (by
    intro j hj;simp [Array.getD_eq_getD_getElem?,Ne.symm hj]) hin
   omega
  have hplo:=hpl o hom;simp only [zbG,Bool.and_eq_true,Option.isNone_iff_eq_none]at hplo;obtain⟨hguard,hop⟩:=hplo;have hnodef:∀q,o.op ≠ .defer q:=by intro q e;rw [e]at hop;cases hop
  have hwant:Region.wanted o (yielded ops c.tmps)=true:=by unfold Region.wanted;rw [hguard]
  have hclosed':∀x j,Did (listed.setIfInBounds i true) x→(bsAt p.bs x).testBit j=true→Did (listed.setIfInBounds i true) j:=by
   intro x j hx hj;rcases zaR hx with rfl|hx
   ·exact zai (hready j hj)
   ·exact zai (hI.closed x j hx hj)
  by_cases his:i=s
  ·
   subst his;rw [hS]at ho
   cases ho
   have hdid:∀j,j<ops.size→j≠i→Did listed j:=fun j hj hne=>hready j (hSall j hj hne)
   have hrest:rest = []:=by
    cases hre:rest with
    | nil=>rfl
    | cons e r=>
     exfalso;have hC:=hI.core;rw [hre]at hC;have heo:e∈ord:=by rw [←hC.ord];simp
     have hs:=hC.ord ▸ hord;rcases hI.sub e (hdid e (hlt e heo) (fun q=>hso (q ▸ heo)))with h|h
     ·exact((zaD hs).2 e h).2.1 rfl
     ·exact hfo (h ▸ heo)
   subst hrest;have hdone:done=ord:=by have:=hI.core.ord;simpa using this
   obtain⟨b,b1,b2,b3,b4⟩:=hI.fr (hdid f hflt hfs);have hcg:c=g.put (some d) (.pointer (some ⟨b,0,none⟩)):=by
    refine zkp (by rw [zcn,hI.csize,hI.core.size]) (fun t ht => ?_) (by rw [zbx,hI.cdefers,hI.core.defers]);by_cases htd:t=d
    ·rw [htd,b1,zco (by rw [hI.core.size];exact hdst oA (List.mem_of_getElem? (by simpa using hA)) d hAd)]
    ·rw [zaC (fun e=>htd (Option.some.inj e).symm)];by_cases hw:∃(j:Nat) (o:Oper),ops[j]? = some o∧o.dst=some t
     ·obtain⟨j,q,hq,hqd⟩:=hw;have hjf:j≠f:=fun e=>by
       rw [e,hA]at hq
       cases hq
       rw [hAd]at hqd;exact htd (Option.some.inj hqd).symm
      have hjs:j≠i:=fun e=>by
       rw [e,hS]at hq
       cases hq
       rw [hSd]at hqd
       cases hqd
      have hj:=hdid j (Array.getElem?_eq_some_iff.1 hq).1 hjs;have hjd:j∈done:=(hI.sub j hj).elim id (fun e=>absurd e hjf);rw [hI.cW j q t hj hjf hq hqd,hI.core.gW j hjd q t hq hqd]
     ·rw [hI.c0 t (fun j q _ hq hqd=>hw ⟨j,q,hq,hqd⟩),hI.core.g0 t (fun j _ q hq hqd=>hw ⟨j,q,hq,hqd⟩)]
   obtain⟨w2,hrun,hQ⟩:=hI.core.cont wa hI.below b b2 b3 b4;rw [←hcg]at hrun hQ;simp only [wpOpIn,hS];rw [if_pos hwant];refine⟨fun f _=>zey none f,?_⟩;rw [Oper.semAt_eq _ _ _ hnodef,hrun];have hput:c.put oS.dst undef=c:=by rw [hSd];rfl
   have hr':Region.ready .any ops (listed.setIfInBounds i true) = []:=by
    cases hq:Region.ready .any ops (listed.setIfInBounds i true)with
    | nil=>rfl
    | cons j r=>
     obtain⟨k1,k2,_⟩:=zbK (ops:=ops) (listed:=listed.setIfInBounds i true) (by simp [hI.lsize]) (i:=j) (by rw [hq];simp);by_cases hji:j=i
     ·exact absurd (by rw [hji];exact zay hilt) k2
     ·exact absurd (zai (hdid j k1 hji)) k2
   show wpAnyIn (Fz none) 0 P .any ops Q fuel (listed.setIfInBounds i true) (c.put oS.dst undef) w2
   rw [hput]
   cases fuel with
   | zero=>exact⟨hr',hQ⟩
   | succ k=>exact⟨fun _=>hQ,fun j hj=>by rw [hr']at hj;cases hj⟩
  ·by_cases hif:i=f
   ·
    subst hif;rw [hA]at ho
    cases ho
    have hal:=zaa wa ob;have hnext:zqF P ops p bars (zkr P d ob base oS fun a' w'=>Q .normal a' w') a ord done rest val g i s d ob base (listed.setIfInBounds i true) (c.put oA.dst (.pointer (some ⟨wa.heap.size,0,none⟩))) w (wa.alloc ob):=
     ⟨⟨hI.core.ord,hI.core.size,hI.core.defers,hI.core.gW,hI.core.g0,fun j hj hnj=>hI.core.quiet j hj (fun h=>hnj (zai h)),hI.core.cont⟩,hI.below.trans (hal.mono hI.below.size),hI.head,by simp [hI.lsize],hclosed',
      fun j hj=>(zaR hj).elim (fun e => .inr e) (fun hj=>hI.sub j hj),fun h=>(zaR h).elim (fun e=>hfs e.symm) hI.nos,by rw [zbx];exact hI.cdefers,by rw [zcn];exact hI.csize,
      fun j q e hj hne hq he=>by
       rw [zaC (fun e2=>hne (hp.dsts j i q oA e hq hA he e2))];exact hI.cW j q e ((zaR hj).elim (fun e=>absurd e hne) id) hne hq he,
      fun t ht=>by
       rw [zaC (ht i oA (zay hilt) hA)];exact hI.c0 t fun j q hj hq=>ht j q (zai hj) hq,
      Nat.le_trans hI.hbase hal.size,
      fun _=>⟨wa.heap.size,by rw [hAd,zco (by rw [hI.csize];exact hdst oA hom d hAd)],hI.hbase,by simp,heap_alloc_new wa ob⟩⟩
    have hrest:=ih _ _ _ _ _ _ _ _ hnext hcnt';simp only [wpOpIn,hA];rw [if_pos hwant];refine⟨fun f _=>zey none f,?_⟩;rw [Oper.semAt_eq _ _ _ hnodef,hArun];exact hrest
   ·have hio:i∈ord:=(hall i hin).elim id (fun h=>h.elim (fun e=>absurd e hif) (fun e=>absurd e his));have hcA:zct ops p val a i o c:=by
     intro t ht;refine⟨fun j q hj hq hd=>hI.cW j q t (hready j hj) (fun e=>hfo (e ▸ hcl i hio j hj)) hq hd,fun hno => ?_⟩;refine hI.c0 t fun j q hj hq hd => ?_
     rcases hp.reads i j o q t ho hq hd ht with rfl|hb|hb
     ·exact hnd hj
     ·exact hno j q hb hq hd
     ·exact hnd (hI.closed j i hj hb)
    have hput:∀(val':Nat→Value) (v:Value) (w3:World),(∀j,Did listed j→j≠f→val' j=val j)→val' i=v→Below wa.heap.size wa w3 →
      (c.put o.dst v).defers=a.defers∧(c.put o.dst v).tmps.size=a.tmps.size ∧
      (∀j q d,Did (listed.setIfInBounds i true) j→j≠f→ops[j]? = some q→q.dst=some d→(c.put o.dst v).tmps.getD d undef=val' j) ∧
      (∀t,(∀j q,Did (listed.setIfInBounds i true) j→ops[j]? = some q→q.dst≠some t)→(c.put o.dst v).tmps.getD t undef=a.tmps.getD t undef) ∧
      (Did (listed.setIfInBounds i true) f→∃b,(c.put o.dst v).tmps.getD d undef = .pointer (some ⟨b,0,none⟩)∧base≤b∧b<w3.heap.size∧w3.heap[b]? = some ob):=by
     intro val' v w3 hold hnew hb3;refine⟨by rw [zbx];exact hI.cdefers,by rw [zcn];exact hI.csize,?_,?_,?_⟩
     ·intro j q d hj hjf hq hd;by_cases hji:j=i
      ·subst hji;rw [ho]at hq;cases hq;rw [hd,zco (by rw [hI.csize];exact hdst o hom d hd),hnew]
      ·rcases zaR hj with e|hj
       ·exact absurd e hji
       ·rw [zaC (fun e=>hji (hp.dsts j i q o d hq ho hd e)),hold j hj hjf];exact hI.cW j q d hj hjf hq hd
     ·intro t ht;rw [zaC (ht i o (zay hilt) ho)];exact hI.c0 t (fun j q hj hq=>ht j q (zai hj) hq)
     ·intro hf;obtain⟨b,b1,b2,b3,b4⟩:=hI.fr ((zaR hf).elim (fun e=>absurd e.symm hif) id);refine⟨b,?_,b2,Nat.lt_of_lt_of_le b3 hb3.size,by rw [hb3.block b b3];exact b4⟩;rw [zaC (fun e=>hif (hp.dsts i f o oA d ho hA e hAd))];exact b1
    by_cases hid:i∈done
    ·
     obtain⟨hnb,hq⟩:=hI.core.quiet i hid hnd o ho;have hrun:=hq c hcA wa hI.below;obtain⟨e1,e2,e3,e4,e5⟩:=hput val (val i) wa (fun _ _ _=>rfl) rfl (Below.refl _ _);have hnext:zqF P ops p bars (zkr P d ob base oS fun a' w'=>Q .normal a' w') a ord done rest val g f s d ob base (listed.setIfInBounds i true) (c.put o.dst (val i)) w wa:=
      ⟨⟨hI.core.ord,hI.core.size,hI.core.defers,hI.core.gW,hI.core.g0,fun j hj hnj=>hI.core.quiet j hj (fun h=>hnj (zai h)),hI.core.cont⟩,hI.below,hI.head,by simp [hI.lsize],hclosed',
       fun j hj=>(zaR hj).elim (fun e => .inl (e ▸ hid)) (fun hj=>hI.sub j hj),fun h=>(zaR h).elim (fun e=>his e.symm) hI.nos,e1,e2,e3,e4,hI.hbase,e5⟩
     have hrest:=ih _ _ _ _ _ _ _ _ hnext hcnt';simp only [wpOpIn,ho];rw [if_pos hwant];refine⟨fun f _=>zey none f,?_⟩;rw [Oper.semAt_eq _ _ _ hnodef,hrun];exact hrest
    ·
     rw [←hI.core.ord]at hio;have hir:i∈rest:=by
      rcases List.mem_append.1 hio with h|h
      ·exact absurd h hid
      ·exact h
     obtain⟨e,r,hre⟩:∃e r,rest=e :: r:=by
      cases hrest:rest with
      | nil=>rw [hrest]at hir;cases hir
      | cons e r=>exact⟨e,r,rfl⟩
     have heb:=hI.head e r hre;subst hre;have hs:=hI.core.ord ▸ hord;obtain⟨h1,h2⟩:=zaD hs;have hie:i=e:=by
      rcases List.mem_cons.1 hir with h|h
      ·exact h
      ·exfalso;have hm:=(h1 i h).2.2 heb;rcases hI.sub e (hready e hm)with q|q
       ·exact(h2 e q).2.1 rfl
       ·exact hfo (by rw [←q,←hI.core.ord];simp)
     subst hie;obtain⟨o',ho',hh⟩:=hI.core.cont;rw [ho]at ho';have ho':=Option.some.inj ho';subst ho';have hgA:=zin hp hord hcl hI.core ho;have hexec:=execOp_congr o (hnosel o hom) (hcA.eval hgA);have hcontb:bars.contains i=true:=by simpa using heb
     have after:∀(v:Value) (w':World),Below wa.heap.size wa w'→OWF P ops p.bs bars (zkr P d ob base oS fun a' w'=>Q .normal a' w') r (g.put o.dst v) w'→wpAnyIn (Fz none) 0 P .any ops Q fuel (listed.setIfInBounds i true) (c.put o.dst v) w':=by
      intro v w' hB hcont;have hBw:=hI.below.trans (hB.mono hI.below.size);have hC':zlC P ops p bars (zkr P d ob base oS fun a' w'=>Q .normal a' w') a ord (done ++ [i]) r (upd val i v) (g.put o.dst v) (listed.setIfInBounds i true) w':=by
       refine zlr hp hord hdst hI.core ho v hcont (fun j hj hnj q hq => ?_) (fun h=>absurd (zay hilt) h);obtain⟨h3,h4⟩:=hI.core.quiet j hj (fun h=>hnj (zai h)) q hq;exact⟨h3,fun c' hA w2 hb2=>h4 c' hA w2 (hBw.trans (hb2.mono hBw.size))⟩
      obtain⟨done',rest',val',g',k1,k2,k3,k4⟩:=zes hp hord hcl hnosel hdst r _ _ _ hC';obtain⟨e1,e2,e3,e4,e5⟩:=hput val' v w' (fun j hj hjf=>by
        rw [(k3 j (by simp [(hI.sub j hj).resolve_right hjf])).2,zbM _ _ _ (fun e:j=i=>hnd (e ▸ hj))]) (by rw [(k3 i (by simp)).2,zcb]) hB
      refine ih done' rest' val' g' _ _ _ _ ⟨k1,Below.refl _ _,k2,by simp [hI.lsize],hclosed',fun j hj => ?_,fun h=>(zaR h).elim (fun e=>his e.symm) hI.nos,e1,e2,e3,e4,Nat.le_trans hI.hbase hB.size,e5⟩ hcnt';rcases zaR hj with rfl|hj
      ·exact .inl (k3 j (by simp)).1
      ·exact(hI.sub j hj).imp (fun q=>(k3 j (by simp [q])).1) id
     simp only [wpOpIn,ho];rw [if_pos hwant];refine⟨fun f _=>zey none f,?_⟩;rw [Oper.semAt_eq _ _ _ hnodef,hexec];rcases hh with⟨_,hh⟩|⟨hb,_⟩
     ·rcases hh wa hI.below with⟨f',args,hrun,hcalls⟩|⟨w',v,hrun,hB,hcont⟩
      ·rw [hrun];refine⟨fun h=>absurd (zft none h) (by omega),?_⟩;refine CallsIn.mono hcalls ?_;rintro e w' ⟨v,rfl,hB,hcont⟩;exact after v w' hB hcont
      ·rw [hrun];exact after v w' hB hcont
     ·rw [hcontb]at hb;cases hb
end
end Go.Eng
namespace Go.Eng
open Go.RowKit Go.Num Go.Proofs Go.Proofs.YtepakfjilnpodaaGreatDoor
def OU(P:Program)(nt:Nat)(ops:Array Oper)(bs bars:List Nat)(Q:CAct→World→Prop)(r:List Nat)(a:CAct)(ov:List (Tmp × Value))(w:World):Prop:=
 a.tmps.size=nt→zde nt ov→OWF P ops bs bars Q r (zaH a ov) w
section
variable {P:Program} {nt:Nat} {ops:Array Oper} {bs bars r:List Nat} {i:Nat} {a:CAct} {ov:List (Tmp × Value)} {w:World} {Q:CAct→World→Prop} {o:Oper}
theorem OU.read{d:Tmp}(v:Value)(ho:ops[i]? = some o)(hdst:o.dst=some d)(hb:bars.contains i=false)(hd:Nat.blt d nt=true)
  (hrun:∀w',Below w.heap.size w w'→(execOp (look a ov) o).run P w' = .ok (.value v) w') (h:OU P nt ops bs bars Q r a ((d,v) :: ov) w):OU P nt ops bs bars Q (i :: r) a ov w:=by
 intro hn hk;refine⟨o,ho,.inr ⟨hb,v,fun w' hw' => ?_,?_⟩⟩
 ·rw [zaV a ov (by rw [hn];exact hk)];exact hrun w' hw'
 ·rw [hdst];exact h hn (hk.cons hd)
theorem OU.mv{x:Operand}{v:Value}{d:Tmp}{ty:TypeId}{ps:String}{af:Array Edge}(ho:ops[i]? = some {op:=.move x,dst:=some d,type:=ty,pos:=ps,after:=af,guard:=none})(hb:bars.contains i=false)(hd:Nat.blt d nt=true)
  (hx:look a ov x=v) (h:OU P nt ops bs bars Q r a ((d,v) :: ov) w):OU P nt ops bs bars Q (i :: r) a ov w:=
 OU.read v ho rfl hb hd (fun w' _=>by subst hx;rfl) h
theorem OU.idx{t:TypeId}{x y:Operand}{p:Addr}{len cap k sz:Nat}{d:Tmp}{ty:TypeId}{ps:String}{af:Array Edge}(hI:zns P t sz)(hk:k<len)(ho:ops[i]? = some {op:=.indexAddr t x y,dst:=some d,type:=ty,pos:=ps,after:=af,guard:=none})(hb:bars.contains i=false)(hd:Nat.blt d nt=true)
  (hx:look a ov x = .slice (some p) len cap) (hy:look a ov y = .int .i64 (k:Int)) (h:OU P nt ops bs bars Q r a ((d,.pointer (some (p.add (k*sz)))) :: ov) w):OU P nt ops bs bars Q (i :: r) a ov w:=
 OU.read _ ho rfl hb hd (fun w' _=>by simp [execOp,hx,hy,hI p len cap k w' hk]) h
theorem OU.ldn{t:TypeId}{x:Operand}{p:Addr}{n:Nat}(cs:List Value){d:Tmp}{ty:TypeId}{ps:String}{af:Array Edge}(hL:zdO P t n)(hc:∀j v,cs[j]? = some v→w.cell? (p.add j)=some v)(ho:ops[i]? = some {op:=.load t x,dst:=some d,type:=ty,pos:=ps,after:=af,guard:=none})(hb:bars.contains i=false)(hd:Nat.blt d nt=true)
  (hn:cs.length=n) (h0:0<n) (hx:look a ov x = .pointer (some p)) (h:OU P nt ops bs bars Q r a ((d,.agg cs.toArray) :: ov) w):OU P nt ops bs bars Q (i :: r) a ov w:=
 OU.read _ ho rfl hb hd (fun w' hb'=>by
  have hp:p.block<w.heap.size:=by
   have:=World.block_lt_of_cell? _ _ (hc 0 _ (List.getElem?_eq_getElem (by omega)));rwa [zaf]at this
  have h1:=hL p cs w' hn (fun j v hj=>(hb'.cell (p:=p.add j) (by rw [zaf];exact hp)).trans (hc j v hj));simp [execOp,hx,h1]) h
theorem OU.call{f:FuncId}{fn:Func}{xs:Array Operand}{ts:Array TypeId}(args:List Value){d:Tmp}{ty:TypeId}{ps:String}{af:Array Edge}{R:Value→World→Prop}{f':FuncId}(hfn:P.funcs[f]? = some fn)(hbody:fn.body.isSome=true)(hN:zbi P)
  (ho:ops[i]? = some {op:=.call {callee:=.value (.func f),args:=xs,argTypes:=ts},dst:=some d,type:=ty,pos:=ps,after:=af,guard:=none}) (hb:bars.contains i=true) (hd:Nat.blt d nt=true)
  (ha:xs.toList.map (look a ov)=args) (hf:f=f') (hcall:∀w1,Below w.heap.size w w1→CallsIn Fence.wide 0 P f' args.toArray w1 fun e w'=>∃v,e = .returned v∧R v w'∧Below w1.heap.size w1 w')
  (h:∀v w',R v w'→Below w.heap.size w w'→OU P nt ops bs bars Q r a ((d,v) :: ov) w'):OU P nt ops bs bars Q (i :: r) a ov w:=by
 intro hn hk;subst hf;have hk':zde a.tmps.size ov:=by rw [hn];exact hk
 refine⟨_,ho,.inl ⟨hb,fun w1 hb1 => .inl ⟨f,args.toArray,?_,(hcall w1 hb1).mono ?_⟩⟩⟩
 ·have ha':xs.map (zaH a ov).eval=args.toArray:=by rw [zaV a ov hk'];subst ha;apply Array.ext';rw [Array.toList_map]
  rw [←ha'];have hbn:fn.body≠none:=by intro q;rw [q]at hbody;simp at hbody
  have hev:(zaH a ov).eval (.func f) = .func (.func f) #[] #[]:=rfl;unfold execOp;simp only [resolve,hev,Deferred.ofValue,Sem.run_bind,Sem.run_pure,Result.andThen_ok,invoke,callFunc,run_program,hfn,hN f fn hfn hbody,Bool.false_eq_true,if_false];have:fn.body.isNone=false:=by cases hq:fn.body <;> simp_all
  rw [this];simp
 ·rintro e w' ⟨v,rfl,hR,hB⟩;exact⟨v,rfl,hB,h v w' hR (hb1.trans (hB.mono hb1.size)) hn (hk.cons hd)⟩
def zno(l:List Oper)(bars ord:List Nat)(nt f s:Nat)(d:Tmp):Bool:=
 match zeT l.toArray with
 | none=>false
 | some p=>zc2 p.bs bars ord && (List.range l.length).all (fun i=>ord.contains i || Nat.beq i f || Nat.beq i s) && ord.all (fun i=>Nat.blt i l.length && !Nat.beq i f && !Nat.beq i s && (List.range l.length).all fun j => !(bsAt p.bs i).testBit j || ord.contains j) && !Nat.beq f s && l.all zbG && l.all (fun o=>match o.dst with|some d=>Nat.blt d nt|none=>true) &&
  (List.range l.length).all (fun j=>Nat.beq j s || (bsAt p.bs s).testBit j) && (match l[f]? with|some o=>(match o.dst with|some e=>Nat.beq e d|none=>false)|none=>false) && (match l[s]? with|some o=>(match o.dst with|some _=>false|none=>true)|none=>false)
theorem zcy{id:Nat}{l:List Oper}(bars ord:List Nat)(bs:List Nat)(f s:Nat)(d:Tmp)(ob:Obj){oA oS:Oper}{a:CAct}{w:World}{ro:Option Nat}{Q:Exit→CAct→World→Prop}(hm:P.follows .mixedOrders=true)(hro:ro=none)
  (nt:Nat) (hnt:a.tmps.size=nt) (hc:zno l bars ord nt f s d=true) (hbs:zeV l []=bs) (hA:l[f]? = some oA) (hArun:∀ev w,(execOp ev oA).run P w = .ok (.value (.pointer (some ⟨w.heap.size,0,none⟩))) (w.alloc ob)) (hS:l[s]? = some oS)
  (h:OU P nt l.toArray bs bars (zkr P d ob w.heap.size oS fun a' w'=>Q .normal a' w') ord a [] w.drew):(Code.region id l.toArray true).wpIn (Fz ro) 0 P Q a w:=by
 subst hro;subst hnt;unfold zno at hc;split at hc
 ·cases hc
 ·rename_i p hplan;have hp:=zhN hplan;have hpbs:p.bs=bs:=by
   have h2:=hplan;unfold zeT at h2;simp only [Bool.cond_eq_ite]at h2;split at h2
   ·injection h2 with h2;rw [←h2];exact hbs
   ·cases h2
  subst hpbs;simp only [Bool.and_eq_true,List.all_eq_true,Bool.or_eq_true,Bool.not_eq_true']at hc;obtain⟨⟨⟨⟨⟨⟨⟨⟨h1,h2⟩,h3⟩,h4⟩,h5⟩,h6⟩,h7⟩,h8⟩,h9⟩:=hc;have hall:∀i,i<l.toArray.size→i∈ord∨i=f∨i=s:=fun i hi=>by
   rcases h2 i (List.mem_range.2 (by simpa using hi))with (q|q)|q
   ·exact .inl (by simpa using q)
   ·exact .inr (.inl (Nat.eq_of_beq_eq_true q))
   ·exact .inr (.inr (Nat.eq_of_beq_eq_true q))
  have hlt:∀i∈ord,i<l.toArray.size:=fun i hi=>by simpa using (zbu _ _).1 (h3 i hi).1.1.1
  have hfo:f∉ord:=fun hi=>by have:=(h3 f hi).1.1.2;rw [Nat.beq_refl]at this;cases this
  have hso:s∉ord:=fun hi=>by have:=(h3 s hi).1.2;rw [Nat.beq_refl]at this;cases this
  have hfs:f≠s:=fun e=>by rw [e,Nat.beq_refl]at h4;cases h4
  have hcl:∀i∈ord,∀j,(bsAt p.bs i).testBit j=true→j∈ord:=fun i hi j hj=>by
   have hil:i<l.length:=by simpa using hlt i hi
   have hjl:j<l.length:=Nat.lt_trans (zda hp i _ (Array.getElem?_eq_getElem (hlt i hi)) j hj) hil;rcases (h3 i hi).2 j (List.mem_range.2 hjl)with q|q
   ·rw [hj]at q;cases q
   ·simpa using q
  have hpl:∀o∈l.toArray.toList,zbG o=true:=by simpa using h5
  have hdst:∀o∈l.toArray.toList,∀d,o.dst=some d→d<a.tmps.size:=fun o ho d hd=>by
   have:=h6 o (by simpa using ho);rw [hd]at this;exact(zbu _ _).1 this
  have hSall:∀j,j<l.toArray.size→j≠s→(bsAt p.bs s).testBit j=true:=fun j hj hne=>by
   rcases h7 j (List.mem_range.2 (by simpa using hj))with q|q
   ·exact absurd (Nat.eq_of_beq_eq_true q) hne
   ·exact q
  have hAd:oA.dst=some d:=by
   rw [hA]at h8;simp only at h8;split at h8
   ·rename_i e he;rw [he,Nat.eq_of_beq_eq_true h8]
   ·cases h8
  have hSd:oS.dst=none:=by
   rw [hS]at h9;simp only at h9;split at h9
   ·cases h9
   ·assumption
  have hno:∀i,¬Did (Array.replicate l.toArray.size false) i:=by
   intro i hi;unfold Did at hi;rw [Array.getD_eq_getD_getElem?,Array.getElem?_replicate]at hi;split at hi <;> simp at hi
  have hnosel:∀o∈l.toArray.toList,∀cs b,o.op ≠ .select cs b:=by
   intro o ho cs b e;have:=hpl o ho;simp only [zbG,Bool.and_eq_true]at this;rw [e]at this
   cases this.2
  have hC:zlC P l.toArray p bars (zkr P d ob w.heap.size oS fun a' w'=>Q .normal a' w') a ord [] ord (fun _=>undef) a (Array.replicate l.toArray.size false) w.drew:=
   ⟨rfl,rfl,rfl,fun j hj=>(by cases hj),fun _ _=>rfl,fun j hj=>(by cases hj),h rfl (fun p hp=>by cases hp)⟩
  obtain⟨done',rest',val',g',k1,k2,k3,k4⟩:=zes hp h1 hcl hnosel hdst ord [] _ _ hC;refine wpIn_region_any hm (zq6 hp h1 hcl hall hlt hfo hso hfs hpl (by simpa using hA) hAd hArun (by simpa using hS) hSd hSall rfl hdst _ done' rest' val' g' _ _ _ _ ⟨k1,Below.refl _ _,k2,by simp,fun i j hi=>absurd hi (hno i),fun j hj=>absurd hj (hno j),hno s,rfl,rfl,fun j o d hj=>absurd hj (hno j),fun _ _=>rfl,Nat.le_refl _,fun hi=>absurd hi (hno f)⟩ ?_);have:∀(f:Nat→Bool) n,cntF f n≤n:=by
   intro f n;induction n with
   | zero=>exact Nat.le_refl _
   | succ n ih=>simp only [cntF];split <;> omega
  exact this _ _
end
end Go.Eng
