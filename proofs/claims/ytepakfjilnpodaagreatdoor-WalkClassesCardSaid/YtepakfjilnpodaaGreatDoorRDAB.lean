/-
  Stores into a block and new versions of a block: what they do to the relation between the abstract heap and the world. The quiet operations 
  Conditions: see each statement.
-/
import Derived.Test.YtepakfjilnpodaaGreatDoorRDAA
import Derived.Laws.CopyRow
import Derived.ChangeKeysEq
import Derived.Laws.StructEq
namespace Go.Eng
open Go.RowKit
def AObj.cls(i:Nat):AObj→Nat
 | .cells fam _ _ _=>fam
 | _=>i
def ER(P:Program)(μ:Mu)(kt:TypeId):AV→List MapEntry→Prop
 | .nil,es=>es = []
 | .cons (.cons k v) t,es=>∃e r,es=e :: r∧keyFits P kt k=true∧VR μ k e.key∧VR μ v e.val∧ER P μ kt t r
 | _,_=>False
def TR(μ:Mu)(nt:Nat)(T:Tr AV)(tmps:Array Value):Prop:=
 tmps.size=nt∧∀t v,T.get t=some v→VR μ v (tmps.getD t undef)
theorem ER.mono{P:Program}{μ ν:Mu}(h:μ.le ν){kt:TypeId}:∀{v:AV} {es:List MapEntry},ER P μ kt v es→ER P ν kt v es
 | .nil,_,h'=>h'
 | .cons (.cons _ _) t,_,⟨e,r,h1,hk,h2,h3,h4⟩=>⟨e,r,h1,hk,h2.mono h,h3.mono h,ER.mono h (v:=t) h4⟩
theorem TR.mono{μ ν:Mu}(h:μ.le ν){nt:Nat}{T:Tr AV}{tmps:Array Value}(ht:TR μ nt T tmps):TR ν nt T tmps:=
 ⟨ht.1,fun t v e=>(ht.2 t v e).mono h⟩
def Kept(res:List TypeId)(w w':World):Prop:=∀(b:Nat) (cs:Array Value) (e:TypeId) (fz:Nat × Nat),w.heap[b]? = some (Obj.cells cs e fz)→res.contains e=true→w'.heap[b]? = some (Obj.cells cs e fz)
theorem Kept.of_below{res:List TypeId}{w w':World}(h:Below w.heap.size w w'):Kept res w w':=fun b cs e fz q _=>by
 rw [h.block b (Array.getElem?_eq_some_iff.1 q).1];exact q
structure Sett where
 ids:List Nat
 res:List TypeId
 I:Tg→Value→World→Prop
 stable:∀t v w w',Kept res w w'→I t v w→I t v w'
instance:Coe Sett (List Nat):=⟨Sett.ids⟩
structure Rep(P:Program)(B:Nat)(w0:World)(G:Sett)(μ:Mu)(H:AH)(w:World):Prop where
 resd:H.res=G.res
 hdom:∀i v,μ.hd i=some v→i<H.next
 fact:∀i t,H.objs.get i=some (.opq t)→∃v,μ.hd i=some v∧G.I t v w
 free:∀i b N,μ i=some (b,N)→B≤b→∀(cs:Array Value) (e:TypeId) (fz:Nat × Nat),w.heap[b]? = some (Obj.cells cs e fz)→G.res.contains e=false
 below:Below B w0 w
 base:B≤w0.heap.size
 dom:∀i b N,μ i=some (b,N)→i<H.next∧b<w.heap.size
 glob:∀g∈G.ids,∃N,μ g=some (g,N)
 own:∀i o,H.objs.get i=some o→i<H.next∧o.cls i<H.next
 sep:∀i j oi oj b N M,H.objs.get i=some oi→H.objs.get j=some oj→μ i=some (b,N)→μ j=some (b,M)→oi.cls i=oj.cls j
 vtop:∀i j fam vi ei ci vj ej cj lw,H.objs.get i=some (.cells fam vi ei ci)→H.objs.get j=some (.cells fam vj ej cj)→H.fams.get fam=some (j,lw)→i≠j→vi<vj
 tip:∀i j fam vi ei ci vj ej cj lw b N M,H.objs.get i=some (.cells fam vi ei ci)→H.objs.get j=some (.cells fam vj ej cj)→H.fams.get fam=some (j,lw)→lw≤vi →
  μ i=some (b,N)→μ j=some (b,M)→ci.len≤cj.len
 write:∀i fam ver e cs lw b N,H.objs.get i=some (.cells fam ver e cs)→H.fams.get fam=some (i,lw)→μ i=some (b,N)→B≤b
 cells:∀i fam ver e cs tip lw b N,H.objs.get i=some (.cells fam ver e cs)→H.fams.get fam=some (tip,lw)→lw≤ver→μ i=some (b,N) →
  ∃arr te fz,w.heap[b]? = some (.cells arr te fz)∧arr.size=N∧cs.len≤N∧LR μ cs (arr.toList.take cs.len)∧(B≤b→fz=(0,0))
 map:∀i kt es b N,H.objs.get i=some (.map kt es)→μ i=some (b,N)→B≤b∧∃entries clock,w.heap[b]? = some (.map entries clock)∧ER P μ kt es entries.toList
 loop:∀i st pend fn nt T ps az bd dd b N,H.objs.get i=some (.loop st pend fn nt T ps az bd dd)→μ i=some (b,N) →
  B≤b∧∃L d M,w.heap[b]? = some (.loop L)∧L.state=st∧L.pending=pend∧TR μ nt T L.tmps∧L.params.toList=ps∧L.assign=az∧L.body=bd∧μ dd=some (d,M)∧L.defers=d
 defd:∀i op b N,H.objs.get i=some (.defd op)→μ i=some (b,N)→B≤b∧w.heap[b]? = some (.deferred (if op=true then some []else none))
section
variable {P:Program} {B:Nat} {w0:World} {G:Sett} {μ:Mu} {H:AH} {w:World}
theorem Rep.same(h:Rep P B w0 G μ H w){w':World}(hh:w'.heap=w.heap)(hb:Below B w0 w'):Rep P B w0 G μ H w' where
 resd:=h.resd
 hdom:=h.hdom
 fact:=fun i t ho=>let ⟨v,h1,h2⟩:=h.fact i t ho;⟨v,h1,G.stable _ _ _ _ (fun _ _ _ _ q _=>hh ▸ q) h2⟩
 free:=fun i b N e hb cs te fz q=>h.free i b N e hb cs te fz (hh ▸ q)
 below:=hb
 base:=h.base
 dom:=fun i b N e=>hh ▸ h.dom i b N e
 glob:=h.glob
 own:=h.own
 sep:=h.sep
 vtop:=h.vtop
 tip:=h.tip
 write:=h.write
 cells:=fun i fam ver e cs tip lw b N h1 h2 h3 h4=>hh ▸ h.cells i fam ver e cs tip lw b N h1 h2 h3 h4
 map:=fun i kt es b N h1 h2=>hh ▸ h.map i kt es b N h1 h2
 loop:=fun i st pend fn nt T ps az bd dd b N h1 h2=>hh ▸ h.loop i st pend fn nt T ps az bd dd b N h1 h2
 defd:=fun i op b N h1 h2=>hh ▸ h.defd i op b N h1 h2
theorem Rep.drewN(h:Rep P B w0 G μ H w)(n:Nat):Rep P B w0 G μ H {w with drawn:=n}:=
 h.same rfl ⟨h.below.os,h.below.tape,h.below.output,h.below.size,h.below.block⟩
theorem Rep.baseNow(h:Rep P B w0 G μ H w):B≤w.heap.size:=Nat.le_trans h.base h.below.size
theorem live_some{i fam ver:Nat}{e:TypeId}{cs:AV}(h:H.live i=some (fam,ver,e,cs)) :
  H.objs.get i=some (.cells fam ver e cs)∧∃tip lw,H.fams.get fam=some (tip,lw)∧lw≤ver:=by
 unfold AH.live at h
 split at h
 ·rename_i f v e' c ho
  split at h
  ·rename_i tip lw hf
   cases hb:Nat.ble lw v with
   | true=>rw [hb]at h;simp at h;obtain⟨rfl,rfl,rfl,rfl⟩:=h;exact⟨ho,tip,lw,hf,Nat.le_of_ble_eq_true hb⟩
   | false=>rw [hb]at h;simp at h
  ·simp at h
 ·simp at h
theorem cell?_of{b k:Nat}{arr:Array Value}{te:TypeId}{fz:Nat × Nat}(h:w.heap[b]? = some (.cells arr te fz)):w.cell? ⟨b,k,none⟩=arr[k]?:=by
 simp [World.cell?,h]
theorem Rep.load(h:Rep P B w0 G μ H w){i o n b N:Nat}{cs:AV}(hc:H.cellsAt i o n=some cs)(hm:μ i=some (b,N)) :
  ∃xs:List Value,xs.length=n∧LR μ cs xs∧∀j v,xs[j]? = some v→w.cell? ((⟨b,o,none⟩:Addr).add j)=some v:=by
 unfold AH.cellsAt at hc
 split at hc
 ·rename_i fam ver e c hl
  obtain⟨ho,tip,lw,hf,hle⟩:=live_some hl
  obtain⟨arr,te,fz,hw,hN,hcN,hLR,_⟩:=h.cells _ _ _ _ _ _ _ _ _ ho hf hle hm
  simp only at hc
  cases hb:Nat.beq ((c.drop o).take n).len n with
  | false=>rw [hb]at hc;simp at hc
  | true=>
   rw [hb]at hc
   simp only [cond_true,Option.some.injEq]at hc
   subst hc
   have hlen:=(beq_iff _ _).1 hb
   have h2:=(hLR.drop o).take n
   have h3:=h2.len
   rw [hlen]at h3
   refine⟨_,h3,h2,?_⟩
   ·intro j v hj
    have hj':=hj
    rw [List.getElem?_take]at hj'
    split at hj'
    ·rename_i hjn
     rw [List.getElem?_drop,List.getElem?_take]at hj'
     split at hj'
     ·have hadd:(⟨b,o,none⟩:Addr).add j=⟨b,o+j,none⟩:=by unfold Addr.add;split <;> simp_all
      rw [hadd,cell?_of hw]
      simpa using hj'
     ·simp at hj'
    ·simp at hj'
 ·simp at hc
def AH.withCells(H:AH)(elem:TypeId)(cs:AV):AH:=
 {res:=H.res,next:=H.next+1,objs:=Tr.set deep H.objs H.next (some (.cells H.next 0 elem cs)),fams:=Tr.set deep H.fams H.next (some (H.next,0))}
theorem newCells_eq{β:Type}(H:AH)(elem:TypeId)(cs:AV)(k:Nat→AH→β):H.newCells elem cs k=k H.next (H.withCells elem cs):=by
 simp [AH.newCells,AH.withCells,Tr.setK_eq]
def AH.withNew(H:AH)(o:AObj):AH:={res:=H.res,next:=H.next+1,objs:=Tr.set deep H.objs H.next (some o),fams:=H.fams}
theorem newObj_eq{β:Type}(H:AH)(o:AObj)(k:Nat→AH→β):H.newObj o k=k H.next (H.withNew o):=by
 simp [AH.newObj,AH.withNew,Tr.setK_eq]
def AH.set(H:AH)(i:Nat)(o:AObj):AH:={res:=H.res,next:=H.next,objs:=Tr.set deep H.objs i (some o),fams:=H.fams}
theorem withObj_eq{β:Type}(H:AH)(i:Nat)(o:AObj)(k:AH→β):H.withObj i o k=k (H.set i o):=by
 simp [AH.withObj,AH.set,Tr.setK_eq]
def Mu.add(μ:Mu)(i b N:Nat):Mu:=⟨fun j=>if j=i then some (b,N)else μ j,μ.hd⟩
theorem Mu.le_add{μ:Mu}{i b N:Nat}(h:μ i=none):μ.le (μ.add i b N):=by
 refine⟨?_,fun _ _ h=>h⟩
 intro j l e
 simp only [Mu.add]
 split
 ·rename_i hj;subst hj;rw [h]at e;cases e
 ·exact e
def Ext(H:AH)(μ:Mu)(H':AH)(μ':Mu):Prop:=μ.le μ'∧H.next≤H'.next∧∀i,i<H.next→μ i=none→μ' i=none
theorem Ext.refl(H:AH)(μ:Mu):Ext H μ H μ:=⟨.refl μ,Nat.le_refl _,fun _ _ h=>h⟩
theorem Ext.same{H H':AH}(μ:Mu)(h:H'.next=H.next):Ext H μ H' μ:=⟨.refl μ,by omega,fun _ _ h=>h⟩
theorem Ext.trans{H H1 H2:AH}{μ μ1 μ2:Mu}(h:Ext H μ H1 μ1)(k:Ext H1 μ1 H2 μ2):Ext H μ H2 μ2:=
 ⟨h.1.trans k.1,Nat.le_trans h.2.1 k.2.1,fun i hi hn=>k.2.2 i (Nat.lt_of_lt_of_le hi h.2.1) (h.2.2 i hi hn)⟩
theorem Ext.add{H H':AH}{μ:Mu}{b N:Nat}(hn:μ H.next=none)(h:H.next≤H'.next):Ext H μ H' (μ.add H.next b N):=
 ⟨Mu.le_add hn,h,fun i hi hu=>by simp only [Mu.add];rw [if_neg (by omega)];exact hu⟩
theorem Mu.add_cases{μ:Mu}{i b N j:Nat}{l:Nat × Nat}(h:μ.add i b N j=some l):(j=i∧l=(b,N))∨(j≠i∧μ j=some l):=by
 simp only [Mu.add]at h
 split at h
 ·simp at h;exact .inl ⟨by assumption,h.symm⟩
 ·exact .inr ⟨by assumption,h⟩
theorem Rep.notYet(h:Rep P B w0 G μ H w){i:Nat}(hi:H.next≤i):μ i=none:=by
 cases e:μ i with
 | none=>rfl
 | some l=>have:=(h.dom i l.1 l.2 e).1;omega
theorem heap_alloc_old(w:World)(o:Obj){b:Nat}{x:Obj}(h:w.heap[b]? = some x):(w.alloc o).heap[b]? = some x:=by
 have hb:b<w.heap.size:=(Array.getElem?_eq_some_iff.1 h).1
 rw [Below.heap_alloc w o b hb];exact h
theorem heap_alloc_new(w:World)(o:Obj):(w.alloc o).heap[w.heap.size]? = some o:=by
 show(w.heap.push o)[w.heap.size]? = _
 simp
structure Fits(P:Program)(R:List TypeId)(μ:Mu)(oi:AObj)(o:Obj)(N:Nat):Prop where
 nopq:∀t,oi ≠ .opq t
 free:∀arr te fz,o = .cells arr te fz→R.contains te=false
 cells:∀fam ver e cs,oi = .cells fam ver e cs→∃arr te,o = .cells arr te (0,0)∧arr.size=N∧cs.len≤N∧LR μ cs (arr.toList.take cs.len)
 map:∀kt es,oi = .map kt es→∃en cl,o = .map en cl∧ER P μ kt es en.toList
 loop:∀st pend fn nt T ps az bd dd,oi = .loop st pend fn nt T ps az bd dd →
  ∃L d M,o = .loop L∧L.state=st∧L.pending=pend∧TR μ nt T L.tmps∧L.params.toList=ps∧L.assign=az∧L.body=bd∧μ dd=some (d,M)∧L.defers=d
 defd:∀op,oi = .defd op→o = .deferred (if op=true then some []else none)
theorem Rep.bind(h:Rep P B w0 G μ H w){i N:Nat}{oi:AObj}{o:Obj}(hi:i<H.next)(ho:∀o,H.objs.get i=some o→o=oi)(hun:μ i=none)(hfit:Fits P G.res μ oi o N) :
  Rep P B w0 G (μ.add i w.heap.size N) H (w.alloc o):=by
 have hle:μ.le (μ.add i w.heap.size N):=Mu.le_add hun
 have hlt:∀{j b N},μ j=some (b,N)→b<w.heap.size:=fun e=>(h.dom _ _ _ e).2
 have hB:=h.baseNow
 refine⟨h.resd,h.hdom,?fact,?free,h.below.alloc hB _,h.base,?dom,?glob,h.own,?sep,h.vtop,?tip,?write,?cells,?map,?loop,?defd⟩
 case fact=>
  intro j t hj
  obtain⟨v,h1,h2⟩:=h.fact j t hj
  exact⟨v,h1,G.stable _ _ _ _ (fun b cs e fz q _=>heap_alloc_old _ _ q) h2⟩
 case free=>
  intro j b N hj hb cs e fz q
  rcases Mu.add_cases hj with⟨rfl,he⟩|⟨_,hj⟩
  ·cases he
   rw [heap_alloc_new]at q
   exact hfit.free _ _ _ (Option.some.inj q)
  ·refine h.free _ _ _ hj hb cs e fz ?_
   rw [Below.heap_alloc w o b (hlt hj)]at q
   exact q
 case dom=>
  intro j b N hj
  rcases Mu.add_cases hj with⟨rfl,he⟩|⟨_,hj⟩
  ·cases he;exact⟨hi,by rw [World.size_alloc];omega⟩
  ·have:=h.dom _ _ _ hj;exact⟨this.1,by rw [World.size_alloc];omega⟩
 case glob=>
  intro g hg
  obtain⟨N,e⟩:=h.glob g hg
  exact⟨N,hle _ _ e⟩
 case sep=>
  intro a c oa oc b N M ha hc hma hmc
  rcases Mu.add_cases hma with⟨ea',he⟩|⟨hna,hma'⟩ <;> rcases Mu.add_cases hmc with⟨ec',he'⟩|⟨hnc,hmc'⟩
  ·subst ea';rw [ec']at hc;rw [ha]at hc;cases hc;rw [ec']
  ·cases he;have:=hlt hmc';omega
  ·cases he';have:=hlt hma';omega
  ·exact h.sep _ _ _ _ _ _ _ ha hc hma' hmc'
 case tip=>
  intro a c fam va ea ca vc ec cc lw b N M ha hc hfam hl hma hmc
  rcases Mu.add_cases hma with⟨ea',he⟩|⟨hna,hma'⟩ <;> rcases Mu.add_cases hmc with⟨ec',he'⟩|⟨hnc,hmc'⟩
  ·subst ea';rw [ec']at hc;rw [ha]at hc;cases hc;exact Nat.le_refl _
  ·cases he;have:=hlt hmc';omega
  ·cases he';have:=hlt hma';omega
  ·exact h.tip _ _ _ _ _ _ _ _ _ _ _ _ _ ha hc hfam hl hma' hmc'
 case write=>
  intro a fam ver ea ca lw b N ha hfam hma
  rcases Mu.add_cases hma with⟨rfl,he⟩|⟨hna,hma⟩
  ·cases he;exact hB
  ·exact h.write _ _ _ _ _ _ _ _ ha hfam hma
 case cells=>
  intro a fam ver ea ca tip lw b N ha hfam hl hma
  rcases Mu.add_cases hma with⟨rfl,he⟩|⟨hna,hma⟩
  ·cases he
   have hoi:=ho _ ha;subst hoi
   obtain⟨arr,te,rfl,h2,h3,h4⟩:=hfit.cells _ _ _ _ rfl
   exact⟨arr,te,(0,0),heap_alloc_new _ _,h2,h3,h4.mono hle,fun _=>rfl⟩
  ·obtain⟨arr',te',fz,h1,h2,h3,h4,h5⟩:=h.cells _ _ _ _ _ _ _ _ _ ha hfam hl hma
   exact⟨arr',te',fz,heap_alloc_old _ _ h1,h2,h3,h4.mono hle,h5⟩
 case map=>
  intro a kt es b N ha hma
  rcases Mu.add_cases hma with⟨rfl,he⟩|⟨hna,hma⟩
  ·cases he
   have hoi:=ho _ ha;subst hoi
   obtain⟨en,cl,rfl,h2⟩:=hfit.map _ _ rfl
   exact⟨hB,en,cl,heap_alloc_new _ _,h2.mono hle⟩
  ·obtain⟨h1,en,cl,h2,h3⟩:=h.map _ _ _ _ _ ha hma
   exact⟨h1,en,cl,heap_alloc_old _ _ h2,h3.mono hle⟩
 case loop=>
  intro a st pend fn nt T ps az bd dd b N ha hma
  rcases Mu.add_cases hma with⟨rfl,he⟩|⟨hna,hma⟩
  ·cases he
   have hoi:=ho _ ha;subst hoi
   obtain⟨L,d,M,rfl,h3,h4,h5,h6,h7,h8,h9,h10⟩:=hfit.loop _ _ _ _ _ _ _ _ _ rfl
   exact⟨hB,L,d,M,heap_alloc_new _ _,h3,h4,h5.mono hle,h6,h7,h8,hle _ _ h9,h10⟩
  ·obtain⟨h1,L,d,M,h2,h3,h4,h5,h6,h7,h8,h9,h10⟩:=h.loop _ _ _ _ _ _ _ _ _ _ _ _ ha hma
   exact⟨h1,L,d,M,heap_alloc_old _ _ h2,h3,h4,h5.mono hle,h6,h7,h8,hle _ _ h9,h10⟩
 case defd=>
  intro a op b N ha hma
  rcases Mu.add_cases hma with⟨rfl,he⟩|⟨hna,hma⟩
  ·cases he
   have hoi:=ho _ ha;subst hoi
   exact⟨hB,by rw [hfit.defd _ rfl];exact heap_alloc_new _ _⟩
  ·obtain⟨h1,h2⟩:=h.defd _ _ _ _ ha hma
   exact⟨h1,heap_alloc_old _ _ h2⟩
theorem Rep.lay(h:Rep P B w0 G μ H w){H':AH}(hr:H'.res=H.res)(hno:∀t,H'.objs.get H.next≠some (.opq t))(hn:H'.next=H.next+1)
  (hobj:∀i o,H'.objs.get i=some o→(i=H.next∧o.cls i=H.next)∨(i<H.next∧H.objs.get i=some o))
  (hfam:∀f t lw,H'.fams.get f=some (t,lw)→(f=H.next∧t=H.next)∨H.fams.get f=some (t,lw)):Rep P B w0 G μ H' w:=by
 have hun:=h.notYet (i:=H.next) (Nat.le_refl _)
 have old:∀{i o b N},H'.objs.get i=some o→μ i=some (b,N)→H.objs.get i=some o:=by
  intro i o b N ho hm
  rcases hobj _ _ ho with⟨rfl,_⟩|⟨_,ho⟩
  ·rw [hun]at hm;cases hm
  ·exact ho
 have oldf:∀{i o f t lw},H.objs.get i=some o→o.cls i=f→H'.fams.get f=some (t,lw)→H.fams.get f=some (t,lw):=by
  intro i o f t lw ho hc hf
  rcases hfam _ _ _ hf with⟨rfl,_⟩|hf
  ·have:=(h.own _ _ ho).2;omega
  ·exact hf
 refine⟨hr.trans h.resd,fun i v e=>by have:=h.hdom i v e;omega,?fact,h.free,h.below,h.base,fun i b N e=>⟨by have:=(h.dom i b N e).1;omega,(h.dom i b N e).2⟩,h.glob,?own,?sep,?vtop,?tip,?write,?cells,?map,?loop,?defd⟩
 case fact=>
  intro i t ho
  rcases hobj _ _ ho with⟨rfl,hc⟩|⟨_,ho'⟩
  ·exact absurd ho (hno t)
  ·exact h.fact _ _ ho'
 case own=>
  intro i o ho
  rcases hobj _ _ ho with⟨rfl,hc⟩|⟨_,ho⟩
  ·omega
  ·have:=h.own _ _ ho;omega
 case sep=>exact fun i j oi oj b N M h1 h2 h3 h4=>h.sep i j oi oj b N M (old h1 h3) (old h2 h4) h3 h4
 case vtop=>
  intro i j fam vi ei ci vj ej cj lw h1 h2 h3 hne
  rcases hobj _ _ h1 with⟨rfl,hc1⟩|⟨hi1,ho1⟩ <;> rcases hobj _ _ h2 with⟨rfl,hc2⟩|⟨hi2,ho2⟩
  ·exact absurd rfl hne
  ·have:=(h.own _ _ ho2).2;simp [AObj.cls]at this hc1;omega
  ·have:=(h.own _ _ ho1).2;simp [AObj.cls]at this hc2;omega
  ·exact h.vtop _ _ _ _ _ _ _ _ _ _ ho1 ho2 (oldf ho1 rfl h3) hne
 case tip=>exact fun i j fam vi ei ci vj ej cj lw b N M h1 h2 h3 h4 h5 h6=>h.tip _ _ _ _ _ _ _ _ _ _ _ _ _ (old h1 h5) (old h2 h6) (oldf (old h1 h5) rfl h3) h4 h5 h6
 case write=>exact fun i fam ver e cs lw b N h1 h2 h3=>h.write _ _ _ _ _ _ _ _ (old h1 h3) (oldf (old h1 h3) rfl h2) h3
 case cells=>exact fun i fam ver e cs tip lw b N h1 h2 h3 h4=>h.cells _ _ _ _ _ _ _ _ _ (old h1 h4) (oldf (old h1 h4) rfl h2) h3 h4
 case map=>exact fun i kt es b N h1 h2=>h.map _ _ _ _ _ (old h1 h2) h2
 case loop=>exact fun i st pend fn nt T ps az bd dd b N h1 h2=>h.loop _ _ _ _ _ _ _ _ _ _ _ _ (old h1 h2) h2
 case defd=>exact fun i op b N h1 h2=>h.defd _ _ _ _ (old h1 h2) h2
theorem Rep.layCells(h:Rep P B w0 G μ H w)(e:TypeId)(cs:AV):Rep P B w0 G μ (H.withCells e cs) w:=by
 refine h.lay rfl (fun t q => ?_) rfl ?_ ?_
 ·rcases Tr.get_set deep H.objs H.next (some (.cells H.next 0 e cs)) H.next (.opq t) q with⟨_,q⟩|⟨q,_⟩
  ·cases q
  ·exact q rfl
 ·intro i o ho
  rcases Tr.get_set deep H.objs H.next (some (.cells H.next 0 e cs)) i o ho with⟨hi,ho⟩|⟨_,ho⟩
  ·cases ho;exact .inl ⟨hi,rfl⟩
  ·exact .inr ⟨(h.own _ _ ho).1,ho⟩
 ·intro f t lw hf
  rcases Tr.get_set deep H.fams H.next (some (H.next,0)) f (t,lw) hf with⟨hi,hf⟩|⟨hne,hf⟩
  ·cases hf;exact .inl ⟨hi,rfl⟩
  ·exact .inr hf
theorem Rep.layObj(h:Rep P B w0 G μ H w)(o:AObj)(hc:∀f v e c,o ≠ .cells f v e c)(hq:∀t,o ≠ .opq t:=by simp):Rep P B w0 G μ (H.withNew o) w:=by
 refine h.lay rfl (fun t q => ?_) rfl ?_ ?_
 ·rcases Tr.get_set deep H.objs H.next (some o) H.next (.opq t) q with⟨_,q⟩|⟨q,_⟩
  ·exact hq t (Option.some.inj q)
  ·exact q rfl
 ·intro i o' ho
  rcases Tr.get_set deep H.objs H.next (some o) i o' ho with⟨hi,ho⟩|⟨_,ho⟩
  ·cases ho
   refine .inl ⟨hi,?_⟩
   cases o with
   | cells f v e c=>exact absurd rfl (hc f v e c)
   | _=>simpa [AObj.cls]using hi
  ·exact .inr ⟨(h.own _ _ ho).1,ho⟩
 ·exact fun f t lw hf => .inr hf
theorem heap_set_same{w:World}{b:Nat}{o o':Obj}(h:w.heap[b]? = some o):(w.heap.setIfInBounds b o')[b]? = some o':=by
 have hb:b<w.heap.size:=(Array.getElem?_eq_some_iff.1 h).1
 simp [hb]
theorem heap_set_other{w:World}{b c:Nat}{o':Obj}(h:c≠b):(w.heap.setIfInBounds b o')[c]? = w.heap[c]?:=by
 simp [Ne.symm h]
def withObjAt(w:World)(b:Nat)(o:Obj):World:={w with heap:=w.heap.setIfInBounds b o}
theorem Rep.setObj(h:Rep P B w0 G μ H w){i b N:Nat}{oi oj:AObj}{o:Obj}(ho:H.objs.get i=some oi)(hm:μ i=some (b,N))(hb:B≤b)
  (hni:∀f v e c,oi ≠ .cells f v e c) (hnq:∀t,oi ≠ .opq t) (hnj:∀f v e c,oj ≠ .cells f v e c) (hfit:Fits P G.res μ oj o N) :
  Rep P B w0 G μ (H.set i oj) (withObjAt w b o):=by
 have hbs:b<w.heap.size:=(h.dom _ _ _ hm).2
 have hcls:∀(o:AObj) k,(∀f v e c,o ≠ .cells f v e c)→o.cls k=k:=by
  intro o k hk
  cases o with
  | cells f v e c=>exact absurd rfl (hk f v e c)
  | _=>rfl
 have hob:∃x,w.heap[b]? = some x∧∀arr te fz,x ≠ .cells arr te fz:=by
  cases oi with
  | cells f v e c=>exact absurd rfl (hni f v e c)
  | map kt es=>obtain⟨_,en,cl,h1,_⟩:=h.map _ _ _ _ _ ho hm;exact⟨_,h1,by simp⟩
  | loop st pend fn nt T ps az bd dd=>obtain⟨_,L,d,M,h1,_⟩:=h.loop _ _ _ _ _ _ _ _ _ _ _ _ ho hm;exact⟨_,h1,by simp⟩
  | defd op=>obtain⟨_,h1⟩:=h.defd _ _ _ _ ho hm;exact⟨_,h1,by simp⟩
  | opq t=>exact absurd rfl (hnq t)
 have get:∀{j o'},(H.set i oj).objs.get j=some o'→(j=i∧oj=o')∨(j≠i∧H.objs.get j=some o'):=by
  intro j o' e
  rcases Tr.get_set deep H.objs i (some oj) j o' e with⟨h1,h2⟩|h2
  ·exact .inl ⟨h1,by simpa using h2⟩
  ·exact .inr h2
 have getC:∀{j f v e c},(H.set i oj).objs.get j=some (.cells f v e c)→H.objs.get j=some (.cells f v e c):=by
  intro j f v e c he
  rcases get he with⟨_,h2⟩|⟨_,h2⟩
  ·exact absurd h2 (hnj _ _ _ _)
  ·exact h2
 have clsOld:∀{j o'},(H.set i oj).objs.get j=some o'→∃o'',H.objs.get j=some o''∧o''.cls j=o'.cls j:=by
  intro j o' e
  rcases get e with⟨rfl,rfl⟩|⟨_,h2⟩
  ·exact⟨oi,ho,by rw [hcls _ _ hni,hcls _ _ hnj]⟩
  ·exact⟨_,h2,rfl⟩
 have apart:∀{j o' c M},(H.set i oj).objs.get j=some o'→j≠i→μ j=some (c,M)→(∀f v e c,o' ≠ .cells f v e c)→c≠b:=by
  intro j o' c M e hne hmj hno hcb
  subst hcb
  rcases get e with⟨h1,_⟩|⟨_,h2⟩
  ·exact hne h1
  ·have:=h.sep _ _ _ _ _ _ _ h2 ho hmj hm
   rw [hcls _ _ hno,hcls _ _ hni]at this
   exact hne this
 refine⟨h.resd,h.hdom,?gfact,?gfree,h.below.trans ⟨rfl,rfl,rfl,by simp [withObjAt],fun k hk=>heap_set_other (by omega)⟩,h.base,?gdom,h.glob,?gown,?gsep,?gvtop,?gtip,?gwrite,?gcells,?gmap,?gloop,?gdefd⟩
 case gfact=>
  intro j t e
  rcases get e with⟨_,h2⟩|⟨_,h2⟩
  ·exact absurd h2 (hfit.nopq t)
  ·obtain⟨v,h3,h4⟩:=h.fact _ _ h2
   refine⟨v,h3,G.stable _ _ _ _ (fun c cs te fz q _ => ?_) h4⟩
   rw [withObjAt,heap_set_other (by
    rintro rfl
    obtain⟨x,hx,hx'⟩:=hob
    rw [q]at hx;cases hx
    exact hx' _ _ _ rfl)]
   exact q
 case gfree=>
  intro j c M e hc cs te fz q
  by_cases hcb:c=b
  ·subst hcb
   rw [withObjAt,heap_set_same (hob.choose_spec.1)]at q
   exact hfit.free _ _ _ (Option.some.inj q)
  ·rw [withObjAt,heap_set_other hcb]at q
   exact h.free _ _ _ e hc _ _ _ q
 case gdom=>intro j c M e;have:=h.dom _ _ _ e;exact⟨this.1,by simpa [withObjAt]using this.2⟩
 case gown=>
  intro j o' e
  obtain⟨o'',h1,h2⟩:=clsOld e
  have:=h.own _ _ h1
  exact⟨this.1,h2 ▸ this.2⟩
 case gsep=>
  intro j k o1 o2 c M1 M2 e1 e2 m1 m2
  obtain⟨p1,h1,h2⟩:=clsOld e1
  obtain⟨p2,h3,h4⟩:=clsOld e2
  rw [←h2,←h4]
  exact h.sep _ _ _ _ _ _ _ h1 h3 m1 m2
 case gvtop=>exact fun a c fam vi ei ci vj ej cj lw e1 e2 e3=>h.vtop _ _ _ _ _ _ _ _ _ _ (getC e1) (getC e2) e3
 case gtip=>exact fun a c fam vi ei ci vj ej cj lw b' N' M' e1 e2 e3=>h.tip _ _ _ _ _ _ _ _ _ _ _ _ _ (getC e1) (getC e2) e3
 case gwrite=>exact fun a fam ver e cs lw b' N' e1 e2=>h.write _ _ _ _ _ _ _ _ (getC e1) e2
 case gcells=>
  intro a fam ver e cs tip lw b' N' e1 e2 e3 e4
  obtain⟨arr,te,fz,h1,h2⟩:=h.cells _ _ _ _ _ _ _ _ _ (getC e1) e2 e3 e4
  have hne:b'≠b:=by
   intro hcb;subst hcb
   obtain⟨x,hx,hx'⟩:=hob
   rw [h1]at hx;cases hx
   exact hx' _ _ _ rfl
  exact⟨arr,te,fz,by rw [withObjAt,heap_set_other hne];exact h1,h2⟩
 case gmap=>
  intro a kt es b' N' e1 e2
  by_cases hai:a=i
  ·subst hai
   rcases get e1 with⟨_,rfl⟩|⟨hne,_⟩
   ·rw [hm]at e2;cases e2
    obtain⟨en,cl,rfl,h2⟩:=hfit.map _ _ rfl
    exact⟨hb,en,cl,by rw [withObjAt];simp [hbs],h2⟩
   ·exact absurd rfl hne
  ·have hne:=apart e1 hai e2 (fun _ _ _ _=>by simp)
   rcases get e1 with⟨h1,_⟩|⟨_,h1⟩
   ·exact absurd h1 hai
   ·obtain⟨h2,en,cl,h3,h4⟩:=h.map _ _ _ _ _ h1 e2
    exact⟨h2,en,cl,by rw [withObjAt,heap_set_other hne];exact h3,h4⟩
 case gloop=>
  intro a st pend fn nt T ps az bd dd b' N' e1 e2
  by_cases hai:a=i
  ·subst hai
   rcases get e1 with⟨_,rfl⟩|⟨hne,_⟩
   ·rw [hm]at e2;cases e2
    obtain⟨L,d,M,rfl,h2⟩:=hfit.loop _ _ _ _ _ _ _ _ _ rfl
    exact⟨hb,L,d,M,by rw [withObjAt];simp [hbs],h2⟩
   ·exact absurd rfl hne
  ·have hne:=apart e1 hai e2 (fun _ _ _ _=>by simp)
   rcases get e1 with⟨h1,_⟩|⟨_,h1⟩
   ·exact absurd h1 hai
   ·obtain⟨h2,L,d,M,h3,h4⟩:=h.loop _ _ _ _ _ _ _ _ _ _ _ _ h1 e2
    exact⟨h2,L,d,M,by rw [withObjAt,heap_set_other hne];exact h3,h4⟩
 case gdefd=>
  intro a op b' N' e1 e2
  by_cases hai:a=i
  ·subst hai
   rcases get e1 with⟨_,rfl⟩|⟨hne,_⟩
   ·rw [hm]at e2;cases e2
    exact⟨hb,by rw [withObjAt,hfit.defd _ rfl];simp [hbs]⟩
   ·exact absurd rfl hne
  ·have hne:=apart e1 hai e2 (fun _ _ _ _=>by simp)
   rcases get e1 with⟨h1,_⟩|⟨_,h1⟩
   ·exact absurd h1 hai
   ·obtain⟨h2,h3⟩:=h.defd _ _ _ _ h1 e2
    exact⟨h2,by rw [withObjAt,heap_set_other hne];exact h3⟩
end
theorem take_put(A ys:List Value)(o L:Nat)(h:o+ys.length≤L)(hL:L≤A.length) :
  (A.take L).take o ++ ys ++ (A.take L).drop (o+ys.length)=(A.take o ++ ys ++ A.drop (o+ys.length)).take L:=by
 rw [List.take_take,Nat.min_eq_left (by omega),List.take_append,List.take_append,List.take_take,Nat.min_eq_right (by omega),List.length_take,Nat.min_eq_left (by omega),
  List.take_of_length_le (l:=ys) (by omega),List.length_append,List.length_take,Nat.min_eq_left (by omega),List.drop_take]
theorem heap_setRow_same{w:World}{b:Nat}{arr cs:Array Value}{te:TypeId}{fz:Nat × Nat}(h:w.heap[b]? = some (.cells arr te fz)):(w.setRow b cs).heap[b]? = some (.cells cs te fz):=by
 simp [World.setRow,Array.getElem?_modify,h]
theorem heap_setRow_other{w:World}{b c:Nat}{cs:Array Value}(h:c≠b):(w.setRow b cs).heap[c]? = w.heap[c]?:=by
 simp [World.setRow,Array.getElem?_modify,Ne.symm h]
theorem size_setRow(w:World)(b:Nat)(cs:Array Value):(w.setRow b cs).heap.size=w.heap.size:=by simp [World.setRow]
theorem below_setRow{B:Nat}{w0 w:World}(h:Below B w0 w){b:Nat}(hb:B≤b)(cs:Array Value):Below B w0 (w.setRow b cs):=
 h.trans ⟨rfl,rfl,rfl,by rw [size_setRow];exact Nat.le_refl _,fun k hk=>heap_setRow_other (by omega)⟩
section
variable {P:Program} {B:Nat} {w0:World} {G:Sett} {μ:Mu} {H:AH} {w:World}
def AH.stored(H:AH)(i fam ver:Nat)(e:TypeId)(cs:AV):AH:=
 {res:=H.res,next:=H.next,objs:=Tr.set deep H.objs i (some (.cells fam ver e cs)),fams:=Tr.set deep H.fams fam (some (i,ver))}
theorem storeCells_some{β:Type}{i o:Nat}{xs:AV}{k:AH→Option β}{r:β}(h:H.storeCells i o xs k=some r) :
  ∃fam ver e cs lw cs',H.objs.get i=some (.cells fam ver e cs)∧H.fams.get fam=some (i,lw)∧lw≤ver∧xs.allOne=true∧cs.put o xs=some cs'∧k (H.stored i fam ver e cs')=some r:=by
 unfold AH.storeCells at h
 split at h
 ·rename_i fam ver e cs ho
  split at h
  ·rename_i tip lw hf
   cases hc:(Nat.beq tip i && Nat.ble lw ver && xs.allOne)with
   | false=>rw [hc]at h;simp at h
   | true=>
    rw [hc]at h
    simp only [Bool.and_eq_true]at hc
    obtain⟨⟨h1,h2⟩,h3⟩:=hc
    simp only [cond_true]at h
    split at h
    ·rename_i cs' hp
     simp only [AV.force_eq,Tr.setK_eq]at h
     have:=(beq_iff _ _).1 h1
     subst this
     exact⟨fam,ver,e,cs,lw,cs',ho,hf,Nat.le_of_ble_eq_true h2,h3,hp,h⟩
    ·simp at h
  ·simp at h
 ·simp at h
theorem put_len{cs:AV}:∀{o:Nat} {xs cs':AV},cs.put o xs=some cs'→cs'.len=cs.len:=by
 induction cs with
 | cons a t _ ih=>
  intro o xs cs' h
  cases o with
  | zero=>
   cases xs with
   | cons x r=>simp only [AV.put,Option.map_eq_some_iff]at h;obtain⟨q,h1,rfl⟩:=h;simp [AV.len,ih h1]
   | _=>simp [AV.put]at h;subst h;rfl
  | succ n=>simp only [AV.put,Option.map_eq_some_iff]at h;obtain⟨q,h1,rfl⟩:=h;simp [AV.len,ih h1]
 | _=>intro o xs cs' h;cases o <;> cases xs <;> simp [AV.put]at h <;> subst h <;> rfl
theorem kept_setRow{res:List TypeId}{b:Nat}{arr:Array Value}{te:TypeId}{fz:Nat × Nat}(hw:w.heap[b]? = some (.cells arr te fz))(hr:res.contains te=false)(cs:Array Value):Kept res w (w.setRow b cs):=by
 intro c cs' te' fz' q hq
 by_cases hcb:c=b
 ·subst hcb;rw [hw]at q;cases q;rw [hr]at hq;cases hq
 ·rw [heap_setRow_other hcb];exact q
theorem free_setRow(h:Rep P B w0 G μ H w){b:Nat}{arr:Array Value}{te:TypeId}{fz:Nat × Nat}(hw:w.heap[b]? = some (.cells arr te fz))(cs:Array Value):∀i b' N,μ i=some (b',N)→B≤b'→∀(cs':Array Value) (e:TypeId) (fz':Nat × Nat),(w.setRow b cs).heap[b']? = some (Obj.cells cs' e fz')→G.res.contains e=false:=by
 intro i b' N hm hB cs' e fz' q
 by_cases hcb:b'=b
 ·subst hcb;rw [heap_setRow_same hw]at q;cases q;exact h.free _ _ _ hm hB _ _ _ hw
 ·rw [heap_setRow_other hcb]at q;exact h.free _ _ _ hm hB _ _ _ q
theorem Rep.store(h:Rep P B w0 G μ H w){i fam ver o lw b N:Nat}{e:TypeId}{cs xs cs':AV}{ys:List Value}(ho:H.objs.get i=some (.cells fam ver e cs))(hf:H.fams.get fam=some (i,lw))(hl:lw≤ver)
  (hm:μ i=some (b,N)) (hx:LR μ xs ys) (hp:cs.put o xs=some cs') :
  ∃arr te,w.heap[b]? = some (.cells arr te (0,0))∧o+ys.length≤arr.size ∧
   Rep P B w0 G μ (H.stored i fam ver e cs') (w.setRow b (arr.toList.take o ++ ys ++ arr.toList.drop (o+ys.length)).toArray):=by
 obtain⟨arr,te,fz,hw,hN,hcN,hLR,hfz⟩:=h.cells _ _ _ _ _ _ _ _ _ ho hf hl hm
 have hB:=h.write _ _ _ _ _ _ _ _ ho hf hm
 rw [hfz hB]at hw
 obtain⟨hfit,hnew⟩:=LR.put hLR hx hp
 have hlen:(arr.toList.take cs.len).length=cs.len:=hLR.len
 rw [hlen]at hfit
 have hAl:arr.toList.length=N:=by simpa using hN
 refine⟨arr,te,hw,by omega,?_⟩
 rw [take_put _ _ _ _ hfit (by omega)]at hnew
 have hl':=put_len hp
 have get:∀{j o'},(H.stored i fam ver e cs').objs.get j=some o'→(j=i∧o' = .cells fam ver e cs')∨(j≠i∧H.objs.get j=some o'):=by
  intro j o' q
  rcases Tr.get_set deep H.objs i (some (.cells fam ver e cs')) j o' q with⟨h1,h2⟩|h2
  ·exact .inl ⟨h1,by simpa using h2.symm⟩
  ·exact .inr h2
 have clsOld:∀{j o'},(H.stored i fam ver e cs').objs.get j=some o'→∃o'',H.objs.get j=some o''∧o''.cls j=o'.cls j:=by
  intro j o' q
  rcases get q with⟨rfl,rfl⟩|⟨_,h2⟩
  ·exact⟨_,ho,rfl⟩
  ·exact⟨_,h2,rfl⟩
 have verOld:∀{j f v e' c},(H.stored i fam ver e cs').objs.get j=some (.cells f v e' c)→∃c',H.objs.get j=some (.cells f v e' c')∧c'.len=c.len:=by
  intro j f v e' c q
  rcases get q with⟨rfl,h1⟩|⟨_,h2⟩
  ·cases h1;exact⟨_,ho,hl'.symm⟩
  ·exact⟨_,h2,rfl⟩
 have getF:∀{f t l},(H.stored i fam ver e cs').fams.get f=some (t,l)→(f=fam∧t=i∧l=ver)∨(f≠fam∧H.fams.get f=some (t,l)):=by
  intro f t l q
  rcases Tr.get_set deep H.fams fam (some (i,ver)) f (t,l) q with⟨h1,h2⟩|h2
  ·cases h2;exact .inl ⟨h1,rfl,rfl⟩
  ·exact .inr h2
 have only:∀{j v e' c},(H.stored i fam ver e cs').objs.get j=some (.cells fam v e' c)→ver≤v→j=i:=by
  intro j v e' c q hv
  obtain⟨c',h1,_⟩:=verOld q
  refine Decidable.byContradiction fun hne => ?_
  have:=h.vtop _ _ _ _ _ _ _ _ _ _ h1 ho hf hne
  omega
 refine⟨h.resd,h.hdom,?gfact,?gfree,below_setRow h.below hB _,h.base,?gdom,h.glob,?gown,?gsep,?gvtop,?gtip,?gwrite,?gcells,?gmap,?gloop,?gdefd⟩
 case gfact=>
  intro j t q
  rcases get q with⟨_,q⟩|⟨_,q⟩
  ·cases q
  ·obtain⟨v,h3,h4⟩:=h.fact _ _ q
   exact⟨v,h3,G.stable _ _ _ _ (kept_setRow hw (h.free _ _ _ hm hB _ _ _ hw) _) h4⟩
 case gfree=>exact free_setRow h hw _
 case gdom=>intro j c M q;have:=h.dom _ _ _ q;exact⟨this.1,by rw [size_setRow];exact this.2⟩
 case gown=>
  intro j o' q
  obtain⟨o'',h1,h2⟩:=clsOld q
  have:=h.own _ _ h1
  exact⟨this.1,h2 ▸ this.2⟩
 case gsep=>
  intro j k o1 o2 c M1 M2 e1 e2 m1 m2
  obtain⟨p1,h1,h2⟩:=clsOld e1
  obtain⟨p2,h3,h4⟩:=clsOld e2
  rw [←h2,←h4]
  exact h.sep _ _ _ _ _ _ _ h1 h3 m1 m2
 case gvtop=>
  intro a c f va ea ca vc ec cc l e1 e2 e3 hne
  obtain⟨_,h1,_⟩:=verOld e1
  obtain⟨_,h2,_⟩:=verOld e2
  rcases getF e3 with⟨rfl,rfl,rfl⟩|⟨_,h3⟩
  ·exact h.vtop _ _ _ _ _ _ _ _ _ _ h1 h2 hf hne
  ·exact h.vtop _ _ _ _ _ _ _ _ _ _ h1 h2 h3 hne
 case gtip=>
  intro a c f va ea ca vc ec cc l b' N' M' e1 e2 e3 h4 m1 m2
  obtain⟨c1,h1,l1⟩:=verOld e1
  obtain⟨c2,h2,l2⟩:=verOld e2
  rcases getF e3 with⟨rfl,rfl,rfl⟩|⟨_,h3⟩
  ·have:=only e1 h4;subst this;rw [e1]at e2;cases e2;exact Nat.le_refl _
  ·have:=h.tip _ _ _ _ _ _ _ _ _ _ _ _ _ h1 h2 h3 h4 m1 m2;omega
 case gwrite=>
  intro a f v e' c l b' N' e1 e2 m1
  obtain⟨c1,h1,l1⟩:=verOld e1
  rcases getF e2 with⟨rfl,rfl,rfl⟩|⟨_,h3⟩
  ·rw [hm]at m1;cases m1;exact hB
  ·exact h.write _ _ _ _ _ _ _ _ h1 h3 m1
 case gcells=>
  intro a f v e' c t l b' N' e1 e2 e3 m1
  rcases get e1 with⟨rfl,h1⟩|⟨hne,h1⟩
  ·cases h1
   rw [hm]at m1;cases m1
   refine⟨_,te,(0,0),heap_setRow_same hw,?_,by omega,?_,fun _=>rfl⟩
   ·simp;omega
   ·simpa [hl']using hnew
  ·rcases getF e2 with⟨rfl,rfl,rfl⟩|⟨hf',h3⟩
   ·exact absurd (only e1 e3) hne
   ·obtain⟨arr',te',fz',k1,k2⟩:=h.cells _ _ _ _ _ _ _ _ _ h1 h3 e3 m1
    have hbb:b'≠b:=by
     intro q;subst q
     exact hf' (h.sep _ _ _ _ _ _ _ h1 ho m1 hm)
    exact⟨arr',te',fz',by rw [heap_setRow_other hbb];exact k1,k2⟩
 case gmap=>
  intro a kt es b' N' e1 m1
  rcases get e1 with⟨rfl,h1⟩|⟨hne,h1⟩
  ·cases h1
  ·obtain⟨k1,en,cl,k2,k3⟩:=h.map _ _ _ _ _ h1 m1
   have hbb:b'≠b:=by intro q;subst q;rw [hw]at k2;cases k2
   exact⟨k1,en,cl,by rw [heap_setRow_other hbb];exact k2,k3⟩
 case gloop=>
  intro a st pend fn nt T ps az bd dd b' N' e1 m1
  rcases get e1 with⟨rfl,h1⟩|⟨hne,h1⟩
  ·cases h1
  ·obtain⟨k1,L,d,M,k2,k3⟩:=h.loop _ _ _ _ _ _ _ _ _ _ _ _ h1 m1
   have hbb:b'≠b:=by intro q;subst q;rw [hw]at k2;cases k2
   exact⟨k1,L,d,M,by rw [heap_setRow_other hbb];exact k2,k3⟩
 case gdefd=>
  intro a op b' N' e1 m1
  rcases get e1 with⟨rfl,h1⟩|⟨hne,h1⟩
  ·cases h1
  ·obtain⟨k1,k2⟩:=h.defd _ _ _ _ h1 m1
   have hbb:b'≠b:=by intro q;subst q;rw [hw]at k2;cases k2
   exact⟨k1,by rw [heap_setRow_other hbb];exact k2⟩
def AH.versioned(H:AH)(fam ver lw:Nat)(e:TypeId)(cs:AV):AH:=
 {res:=H.res,next:=H.next+1,objs:=Tr.set deep H.objs H.next (some (.cells fam (ver+1) e cs)),fams:=Tr.set deep H.fams fam (some (H.next,lw))}
theorem version_some{β:Type}{i:Nat}{xs:AV}{k:Nat→AH→Option β}{r:β}(h:H.version i xs k=some r) :
  ∃fam ver e cs lw,H.objs.get i=some (.cells fam ver e cs)∧H.fams.get fam=some (i,lw)∧lw≤ver∧xs.allOne=true∧k H.next (H.versioned fam ver lw e (cs.app xs))=some r:=by
 unfold AH.version at h
 split at h
 ·rename_i fam ver e cs ho
  split at h
  ·rename_i tip lw hf
   cases hc:(Nat.beq tip i && Nat.ble lw ver && xs.allOne)with
   | false=>rw [hc]at h;simp at h
   | true=>
    rw [hc]at h
    simp only [Bool.and_eq_true]at hc
    obtain⟨⟨h1,h2⟩,h3⟩:=hc
    simp only [cond_true,AV.force_eq,Tr.setK_eq,fN_eq]at h
    have:=(beq_iff _ _).1 h1
    subst this
    exact⟨fam,ver,e,cs,lw,ho,hf,Nat.le_of_ble_eq_true h2,h3,h⟩
  ·simp at h
 ·simp at h
theorem Rep.layVersion(h:Rep P B w0 G μ H w){i fam ver lw:Nat}{e:TypeId}{cs:AV}(ho:H.objs.get i=some (.cells fam ver e cs))(hf:H.fams.get fam=some (i,lw))(cs':AV) :
  Rep P B w0 G μ (H.versioned fam ver lw e cs') w:=by
 have hun:=h.notYet (i:=H.next) (Nat.le_refl _)
 have get:∀{j o'},(H.versioned fam ver lw e cs').objs.get j=some o'→(j=H.next∧o' = .cells fam (ver+1) e cs')∨(j<H.next∧H.objs.get j=some o'):=by
  intro j o' q
  rcases Tr.get_set deep H.objs H.next (some (.cells fam (ver+1) e cs')) j o' q with⟨h1,h2⟩|⟨_,h2⟩
  ·exact .inl ⟨h1,by simpa using h2.symm⟩
  ·exact .inr ⟨(h.own _ _ h2).1,h2⟩
 have old:∀{j o b N},(H.versioned fam ver lw e cs').objs.get j=some o→μ j=some (b,N)→H.objs.get j=some o:=by
  intro j o b N q hm
  rcases get q with⟨rfl,_⟩|⟨_,q⟩
  ·rw [hun]at hm;cases hm
  ·exact q
 have getF:∀{f t l},(H.versioned fam ver lw e cs').fams.get f=some (t,l)→(f=fam∧t=H.next∧l=lw)∨(f≠fam∧H.fams.get f=some (t,l)):=by
  intro f t l q
  rcases Tr.get_set deep H.fams fam (some (H.next,lw)) f (t,l) q with⟨h1,h2⟩|h2
  ·cases h2;exact .inl ⟨h1,rfl,rfl⟩
  ·exact .inr h2
 refine⟨h.resd,fun i v q=>Nat.lt_succ_of_lt (h.hdom i v q),?gfact,h.free,h.below,h.base,?gdom,h.glob,?gown,?gsep,?gvtop,?gtip,?gwrite,?gcells,?gmap,?gloop,?gdefd⟩
 case gfact=>
  intro j t q
  rcases get q with⟨_,q⟩|⟨_,q⟩
  ·cases q
  ·exact h.fact _ _ q
 case gdom=>intro j b N q;have:=h.dom _ _ _ q;exact⟨Nat.lt_succ_of_lt this.1,this.2⟩
 case gown=>
  intro j o q
  rcases get q with⟨rfl,rfl⟩|⟨_,q⟩
  ·exact⟨Nat.lt_succ_self _,Nat.lt_succ_of_lt (h.own _ _ ho).2⟩
  ·have:=h.own _ _ q;exact⟨Nat.lt_succ_of_lt this.1,Nat.lt_succ_of_lt this.2⟩
 case gsep=>exact fun i j oi oj b N M h1 h2 h3 h4=>h.sep i j oi oj b N M (old h1 h3) (old h2 h4) h3 h4
 case gvtop=>
  intro a c f va ea ca vc ec cc l e1 e2 e3 hne
  rcases getF e3 with⟨rfl,rfl,rfl⟩|⟨hfne,h3⟩
  ·rcases get e2 with⟨_,h2⟩|⟨hlt,_⟩
   ·cases h2
    rcases get e1 with⟨h1,_⟩|⟨_,h1⟩
    ·exact absurd h1 hne
    ·by_cases hai:a=i
     ·subst hai;rw [ho]at h1;cases h1;omega
     ·have:=h.vtop _ _ _ _ _ _ _ _ _ _ h1 ho hf hai;omega
   ·omega
  ·have hc:c<H.next∧H.objs.get c=some (.cells f vc ec cc):=by
    rcases get e2 with⟨_,h2⟩|h2
    ·cases h2;exact absurd rfl hfne
    ·exact h2
   have ha:H.objs.get a=some (.cells f va ea ca):=by
    rcases get e1 with⟨_,h2⟩|h2
    ·cases h2;exact absurd rfl hfne
    ·exact h2.2
   exact h.vtop _ _ _ _ _ _ _ _ _ _ ha hc.2 h3 hne
 case gtip=>
  intro a c f va ea ca vc ec cc l b N M e1 e2 e3 h4 m1 m2
  rcases getF e3 with⟨_,rfl,_⟩|⟨hfne,h3⟩
  ·rw [hun]at m2;cases m2
  ·exact h.tip _ _ _ _ _ _ _ _ _ _ _ _ _ (old e1 m1) (old e2 m2) h3 h4 m1 m2
 case gwrite=>
  intro a f v e' c l b N e1 e2 m1
  rcases getF e2 with⟨_,rfl,_⟩|⟨hfne,h3⟩
  ·rw [hun]at m1;cases m1
  ·exact h.write _ _ _ _ _ _ _ _ (old e1 m1) h3 m1
 case gcells=>
  intro a f v e' c t l b N e1 e2 e3 m1
  rcases getF e2 with⟨rfl,_,rfl⟩|⟨hfne,h3⟩
  ·exact h.cells _ _ _ _ _ _ _ _ _ (old e1 m1) hf e3 m1
  ·exact h.cells _ _ _ _ _ _ _ _ _ (old e1 m1) h3 e3 m1
 case gmap=>exact fun a kt es b N h1 h2=>h.map _ _ _ _ _ (old h1 h2) h2
 case gloop=>exact fun a st pend fn nt T ps az bd dd b N h1 h2=>h.loop _ _ _ _ _ _ _ _ _ _ _ _ (old h1 h2) h2
 case gdefd=>exact fun a op b N h1 h2=>h.defd _ _ _ _ (old h1 h2) h2
theorem Rep.versionHere(h:Rep P B w0 G μ H w){i fam ver lw b N:Nat}{e:TypeId}{cs xs:AV}{ys:List Value}(ho:H.objs.get i=some (.cells fam ver e cs))(hf:H.fams.get fam=some (i,lw))(hl:lw≤ver)
  (hm:μ i=some (b,N)) (hx:LR μ xs ys) (hroom:cs.len+ys.length≤N) :
  ∃arr te,w.heap[b]? = some (.cells arr te (0,0))∧arr.size=N ∧
   Rep P B w0 G (μ.add H.next b N) (H.versioned fam ver lw e (cs.app xs)) (w.setRow b (arr.toList.take cs.len ++ ys ++ arr.toList.drop (cs.len+ys.length)).toArray):=by
 obtain⟨arr,te,fz,hw,hN,hcN,hLR,hfz⟩:=h.cells _ _ _ _ _ _ _ _ _ ho hf hl hm
 have hB:=h.write _ _ _ _ _ _ _ _ ho hf hm
 rw [hfz hB]at hw
 have hAl:arr.toList.length=N:=by simpa using hN
 refine⟨arr,te,hw,hN,?_⟩
 have hun:=h.notYet (i:=H.next) (Nat.le_refl _)
 have hle:μ.le (μ.add H.next b N):=Mu.le_add hun
 have hv:=h.layVersion ho hf (cs.app xs)
 have htl:=Tr.get_set deep H.fams fam (some (H.next,lw))
 have hnew:LR μ (cs.app xs) (((arr.toList.take cs.len ++ ys ++ arr.toList.drop (cs.len+ys.length)).toArray).toList.take (cs.app xs).len):=by
  rw [len_app hLR.isList,←hx.len]
  have:((arr.toList.take cs.len ++ ys ++ arr.toList.drop (cs.len+ys.length)).toArray).toList.take (cs.len+ys.length)=arr.toList.take cs.len ++ ys:=by
   simp only
   rw [List.take_append_of_le_length (by simp;omega),List.take_of_length_le (by simp;omega)]
  rw [this]
  exact LR.app hx hLR
 have get:∀{j o'},(H.versioned fam ver lw e (cs.app xs)).objs.get j=some o'→(j=H.next∧o' = .cells fam (ver+1) e (cs.app xs))∨(j<H.next∧H.objs.get j=some o'):=by
  intro j o' q
  rcases Tr.get_set deep H.objs H.next (some (.cells fam (ver+1) e (cs.app xs))) j o' q with⟨h1,h2⟩|⟨_,h2⟩
  ·exact .inl ⟨h1,by simpa using h2.symm⟩
  ·exact .inr ⟨(h.own _ _ h2).1,h2⟩
 have getF:∀{f t l},(H.versioned fam ver lw e (cs.app xs)).fams.get f=some (t,l)→(f=fam∧t=H.next∧l=lw)∨(f≠fam∧H.fams.get f=some (t,l)):=by
  intro f t l q
  rcases htl f (t,l) q with⟨h1,h2⟩|h2
  ·cases h2;exact .inl ⟨h1,rfl,rfl⟩
  ·exact .inr h2
 have split:∀{j o' b' M},(H.versioned fam ver lw e (cs.app xs)).objs.get j=some o'→μ.add H.next b N j=some (b',M) →
   (j=H.next∧o' = .cells fam (ver+1) e (cs.app xs)∧b'=b∧M=N)∨(j<H.next∧H.objs.get j=some o'∧μ j=some (b',M)):=by
  intro j o' b' M q m
  rcases get q with⟨rfl,rfl⟩|⟨hlt,q⟩
  ·rcases Mu.add_cases m with⟨_,m⟩|⟨hne,_⟩
   ·cases m;exact .inl ⟨rfl,rfl,rfl,rfl⟩
   ·exact absurd rfl hne
  ·rcases Mu.add_cases m with⟨rfl,_⟩|⟨_,m⟩
   ·omega
   ·exact .inr ⟨hlt,q,m⟩
 refine⟨hv.resd,fun i v q=>hv.hdom i v q,?gfact,?gfree,below_setRow h.below hB _,h.base,?gdom,?gglob,hv.own,?gsep,hv.vtop,?gtip,?gwrite,?gcells,?gmap,?gloop,?gdefd⟩
 case gdom=>
  intro j c M q
  rw [size_setRow]
  rcases Mu.add_cases q with⟨rfl,q'⟩|⟨_,q'⟩
  ·cases q';exact⟨Nat.lt_succ_self _,(h.dom _ _ _ hm).2⟩
  ·have:=h.dom _ _ _ q';exact⟨Nat.lt_succ_of_lt this.1,this.2⟩
 case gfact=>
  intro j t q
  obtain⟨v,h3,h4⟩:=hv.fact _ _ q
  exact⟨v,h3,G.stable _ _ _ _ (kept_setRow hw (h.free _ _ _ hm hB _ _ _ hw) _) h4⟩
 case gfree=>
  intro j c M q hc cs' te' fz' q2
  rcases Mu.add_cases q with⟨_,q'⟩|⟨_,q'⟩
  ·cases q';exact free_setRow h hw _ _ _ _ hm hc _ _ _ q2
  ·exact free_setRow h hw _ _ _ _ q' hc _ _ _ q2
 case gglob=>intro g hg;obtain⟨M,q⟩:=h.glob g hg;exact⟨M,hle _ _ q⟩
 case gsep=>
  intro a c oa oc b' M M' e1 e2 m1 m2
  rcases split e1 m1 with⟨rfl,rfl,rfl,rfl⟩|⟨_,h1,k1⟩ <;> rcases split e2 m2 with⟨rfl,rfl,q3,q4⟩|⟨_,h2,k2⟩
  ·rfl
  ·have q:=h.sep _ _ _ _ _ _ _ ho h2 hm k2;exact q
  ·subst q3;have q:=h.sep _ _ _ _ _ _ _ h1 ho k1 hm;exact q
  ·exact h.sep _ _ _ _ _ _ _ h1 h2 k1 k2
 case gtip=>
  intro a c f va ea ca vc ec cc l b' M M' e1 e2 e3 h4 m1 m2
  rcases getF e3 with⟨rfl,rfl,rfl⟩|⟨hfne,h3⟩
  ·rcases split e2 m2 with⟨_,q2,rfl,rfl⟩|⟨hlt,_⟩
   ·cases q2
    rcases split e1 m1 with⟨_,q1,_⟩|⟨_,h1,k1⟩
    ·cases q1;exact Nat.le_refl _
    ·have:=h.tip _ _ _ _ _ _ _ _ _ _ _ _ _ h1 ho hf h4 k1 hm
     rw [len_app hLR.isList];omega
   ·omega
  ·rcases split e1 m1 with⟨_,q1,_⟩|⟨_,h1,k1⟩
   ·cases q1;exact absurd rfl hfne
   ·rcases split e2 m2 with⟨_,q2,_⟩|⟨_,h2,k2⟩
    ·cases q2;exact absurd rfl hfne
    ·exact h.tip _ _ _ _ _ _ _ _ _ _ _ _ _ h1 h2 h3 h4 k1 k2
 case gwrite=>
  intro a f v e' c l b' M e1 e2 m1
  rcases split e1 m1 with⟨_,_,rfl,_⟩|⟨hlt,h1,k1⟩
  ·exact hB
  ·rcases getF e2 with⟨_,rfl,_⟩|⟨_,h3⟩
   ·omega
   ·exact h.write _ _ _ _ _ _ _ _ h1 h3 k1
 case gcells=>
  intro a f v e' c t l b' M e1 e2 e3 m1
  rcases split e1 m1 with⟨rfl,q1,rfl,rfl⟩|⟨hlt,h1,k1⟩
  ·cases q1
   refine⟨_,te,(0,0),heap_setRow_same hw,?_,?_,hnew.mono hle,fun _=>rfl⟩
   ·simp;omega
   ·rw [len_app hLR.isList,←hx.len];exact hroom
  ·have hlive:∃t' ,H.fams.get f=some (t',l):=by
    rcases getF e2 with⟨rfl,_,rfl⟩|⟨_,h3⟩
    ·exact⟨_,hf⟩
    ·exact⟨_,h3⟩
   obtain⟨t',h3⟩:=hlive
   obtain⟨arr',te',fz',p1,p2,p3,p4,p5⟩:=h.cells _ _ _ _ _ _ _ _ _ h1 h3 e3 k1
   by_cases hbb:b'=b
   ·subst hbb
    rw [hw]at p1;cases p1
    have hfam:f=fam:=h.sep _ _ _ _ _ _ _ h1 ho k1 hm
    subst hfam
    rw [hf]at h3;cases h3
    have hshort:=h.tip _ _ _ _ _ _ _ _ _ _ _ _ _ h1 ho hf e3 k1 hm
    refine⟨_,te,(0,0),heap_setRow_same hw,by simp;omega,p3,?_,fun _=>rfl⟩
    have:((arr.toList.take cs.len ++ ys ++ arr.toList.drop (cs.len+ys.length)).toArray).toList.take c.len=arr.toList.take c.len:=by
     simp only
     rw [List.append_assoc,List.take_append_of_le_length (by simp;omega),List.take_take,Nat.min_eq_left hshort]
    rw [this]
    exact p4.mono hle
   ·exact⟨arr',te',fz',by rw [heap_setRow_other hbb];exact p1,p2,p3,p4.mono hle,p5⟩
 case gmap=>
  intro a kt es b' M e1 m1
  rcases split e1 m1 with⟨_,q1,_⟩|⟨hlt,h1,k1⟩
  ·cases q1
  ·obtain⟨p1,en,cl,p2,p3⟩:=h.map _ _ _ _ _ h1 k1
   have hbb:b'≠b:=by intro q;subst q;rw [hw]at p2;cases p2
   exact⟨p1,en,cl,by rw [heap_setRow_other hbb];exact p2,p3.mono hle⟩
 case gloop=>
  intro a st pend fn nt T ps az bd dd b' M e1 m1
  rcases split e1 m1 with⟨_,q1,_⟩|⟨hlt,h1,k1⟩
  ·cases q1
  ·obtain⟨p1,L,d,M',p2,p3,p4,p5,p6,p7,p8,p9,p10⟩:=h.loop _ _ _ _ _ _ _ _ _ _ _ _ h1 k1
   have hbb:b'≠b:=by intro q;subst q;rw [hw]at p2;cases p2
   exact⟨p1,L,d,M',by rw [heap_setRow_other hbb];exact p2,p3,p4,p5.mono hle,p6,p7,p8,hle _ _ p9,p10⟩
 case gdefd=>
  intro a op b' M e1 m1
  rcases split e1 m1 with⟨_,q1,_⟩|⟨hlt,h1,k1⟩
  ·cases q1
  ·obtain⟨p1,p2⟩:=h.defd _ _ _ _ h1 k1
   have hbb:b'≠b:=by intro q;subst q;rw [hw]at p2;cases p2
   exact⟨p1,by rw [heap_setRow_other hbb];exact p2⟩
end
section
variable {P:Program} {w:World}
theorem pure?_run{α:Type}:∀{s:Sem α} {a:α},pure? P s=some a→s.run P w = .ok a w
 | .pure a,b,h=>by simp [pure?]at h;subst h;rfl
 | .program k,b,h=>by
  simp only [pure?]at h
  simp only [Sem.run]
  exact pure?_run h
 | .load ..,_,h | .store ..,_,h | .new ..,_,h | .shape ..,_,h | .freeze ..,_,h | .frozen ..,_,h | .getObj ..,_,h | .setObj ..,_,h | .choose ..,_,h | .sys ..,_,h | .mark ..,_,h | .halt ..,_,h=>by simp [pure?]at h
theorem scalar_run{s:Sem Value}{v:AV}(μ:Mu)(h:scalar P s=some v):∃x,s.run P w = .ok x w∧VR μ v x:=by
 unfold scalar at h
 split at h
 ·rename_i u hu
  simp only [Option.map_eq_some_iff]at h
  obtain⟨q,hq,rfl⟩:=h
  exact⟨u,pure?_run hu,(Sc.of_val hq).symm⟩
 ·simp at h
theorem info_of_size{t:TypeId}{n:Nat}(h:sizeT P t=some n):∃i,P.info? t=some i∧i.size=n:=by
 unfold sizeT at h
 split at h
 ·rename_i i hi;simp at h;exact⟨i,hi,h⟩
 ·simp at h
theorem run_size{t:TypeId}{n:Nat}(h:sizeT P t=some n)(w:World):(sizeOf t).run P w = .ok n w:=by
 obtain⟨i,hi,rfl⟩:=info_of_size h
 simp [sizeOf,typeInfo,hi]
theorem run_agg{t:TypeId}{q:Bool}(h:aggT P t=some q)(w:World):(isAgg t).run P w = .ok q w:=by
 unfold aggT at h
 split at h
 ·rename_i f hu;simp at h;subst h;simp [isAgg,run_underlying hu]
 ·rename_i n e hu;simp at h;subst h;simp [isAgg,run_underlying hu]
 ·rename_i d h1 h2 hu
  simp at h;subst h
  simp only [isAgg,Sem.run_bind,run_underlying hu,Result.andThen_ok]
  rfl
 ·simp at h
theorem zero_of{t:TypeId}{z:AV}(μ:Mu)(h:zeroOf P t=some z):∃i x,P.info? t=some i∧i.zero=some x∧VR μ z x∧∀w,(zeroValue t).run P w = .ok x w:=by
 unfold zeroOf at h
 split at h
 ·rename_i i hi
  split at h
  ·rename_i x hx
   exact⟨i,x,hi,hx,ofVal_VR μ h,fun w=>by simp [zeroValue,typeInfo,hi,hx]⟩
  ·simp at h
 ·simp at h
theorem natOf_int{v:AV}{n:Nat}(h:natOf v=some n):∃k,v = .sc (.int k (n:Int)):=by
 unfold natOf at h
 split at h
 ·simp at h;subst h;exact⟨_,rfl⟩
 ·simp at h
theorem VR.cells{μ:Mu}{v:AV}{x:Value}(h:VR μ v x):LR μ v.cells x.cells.toList:=by
 cases v with
 | agg cs=>obtain⟨xs,rfl,hx⟩:=h;exact hx
 | sc s=>
  have hx:x=s.val:=h
  subst hx
  cases s <;> exact LR.cons rfl rfl
 | ptr i o=>obtain⟨b,N,hm,rfl⟩:=h;exact LR.cons ⟨b,N,hm,rfl⟩ rfl
 | slc i o l c e s=>obtain⟨b,N,q,hm,rfl,h1⟩:=h;exact LR.cons ⟨b,N,q,hm,rfl,h1⟩ rfl
 | map i=>obtain⟨b,N,hm,rfl⟩:=h;exact LR.cons ⟨b,N,hm,rfl⟩ rfl
 | yield i=>obtain⟨b,N,hm,rfl⟩:=h;exact LR.cons ⟨b,N,hm,rfl⟩ rfl
 | fn f a b=>obtain⟨xs,ys,rfl,h1⟩:=h;exact LR.cons ⟨xs,ys,rfl,h1⟩ rfl
 | hc i k=>
  have h':=h
  obtain⟨v,h1,h2,h3⟩:=h
  have e:x.cells=#[x]:=by cases x <;> first|rfl|simp [Value.oneCell']at h3
  rw [e]
  exact LR.cons h' rfl
 | hs i=>obtain⟨s,h1,rfl⟩:=h;exact LR.cons ⟨s,h1,rfl⟩ rfl
 | iface t v=>obtain⟨y,rfl,h1⟩:=h;exact LR.cons ⟨y,rfl,h1⟩ rfl
 | tup cs=>obtain⟨xs,rfl,h1⟩:=h;exact LR.cons ⟨xs,rfl,h1⟩ rfl
 | nil=>exact h.elim
 | cons a t=>exact h.elim
theorem add_off(b o n:Nat):(⟨b,o,none⟩:Addr).add n=⟨b,o+n,none⟩:=by unfold Addr.add;split <;> simp_all
theorem part_run{μ:Mu}{t:TypeId}{cs:AV}{off:Nat}{v:AV}{xs:Array Value}(h:partOf P t cs off=some v)(hx:LR μ cs xs.toList)(w:World):∃x,(part t xs off).run P w = .ok x w∧VR μ v x:=by
 unfold partOf at h
 split at h
 ·rename_i n ha hs
  simp only at h
  cases hb:Nat.beq ((cs.drop off).take n).len n with
  | false=>rw [hb]at h;simp at h
  | true=>
   rw [hb]at h
   simp only [cond_true,Option.some.injEq]at h
   subst h
   refine⟨.agg (xs.extract off (off+n)),by simp [part,run_agg ha,run_size hs],_,rfl,?_⟩
   have:=(hx.drop off).take n
   have he:(xs.extract off (off+n)).toList=(xs.toList.drop off).take n:=by
    rw [Array.toList_extract,List.extract_eq_take_drop,Nat.add_sub_cancel_left]
   rw [he];exact this
 ·rename_i n ha hs
  obtain⟨x,h1,h2⟩:=hx.nth h
  have h1':xs[off]? = some x:=by simpa using h1
  exact⟨x,by simp [part,run_agg ha,h1'],h2⟩
 ·simp at h
theorem keyFits_cases{t:TypeId}{v:AV}(h:keyFits P t v=true) :
  (∃k n,P.underlying t=some (.int k)∧v = .sc (.int k n))∨(∃s,P.underlying t=some .string∧v = .sc (.str s))∨(∃b,P.underlying t=some .bool∧v = .sc (.bool b)) ∨
  (∃n e k cs,P.underlying t=some (.array n e)∧P.underlying e=some (.int k)∧sizeT P e=some 1∧v = .agg cs∧cs.len=n∧allInts k cs=true):=by
 unfold keyFits at h
 split at h
 ·rename_i k k' n hu;exact .inl ⟨k,n,hu,by rw [beqK_eq h]⟩
 ·rename_i s hu;exact .inr (.inl ⟨s,hu,rfl⟩)
 ·rename_i b hu;exact .inr (.inr (.inl ⟨b,hu,rfl⟩))
 ·rename_i n e cs hu
  split at h
  ·rename_i k he hs
   simp only [Bool.and_eq_true]at h
   exact .inr (.inr (.inr ⟨n,e,k,cs,hu,he,hs,rfl,(beq_iff _ _).1 h.1,h.2⟩))
  ·simp at h
 ·simp at h
theorem beqI_self(n:Int):beqI n n=true:=by cases n <;> simp [beqI]
theorem beqK_self(k:IntKind):beqK k k=true:=by cases k <;> rfl
theorem beqI_iff(a b:Int):beqI a b=(a == b):=by
 rw [Bool.eq_iff_iff,beq_iff_eq]
 exact⟨beqI_eq,fun h=>h ▸ beqI_self a⟩
theorem beqB_iff(a b:Bool):beqB a b=(a == b):=by cases a <;> cases b <;> rfl
theorem beqBytes_self:∀l:List UInt8,beqBytes l l=true
 | []=>rfl
 | b :: t=>by simp [beqBytes,beqBytes_self t]
theorem beqStr_iff(a b:ByteArray):beqBytes a.data.toList b.data.toList=(a == b):=by
 have e:(a == b)=(a.data == b.data):=rfl
 rw [e,Bool.eq_iff_iff,beq_iff_eq]
 constructor
 ·intro h
  exact Array.toList_inj.1 (beqBytes_eq h)
 ·intro h;rw [h];exact beqBytes_self _
theorem allInts_cons{k:IntKind}{h t:AV}(q:allInts k (.cons h t)=true):∃n,h = .sc (.int k n)∧allInts k t=true:=by
 cases h with
 | sc s=>cases s with
  | int k' n=>simp only [allInts,Bool.and_eq_true]at q;exact⟨n,by rw [beqK_eq q.1],q.2⟩
  | _=>simp [allInts]at q
 | _=>simp [allInts]at q
theorem eqItems_run{μ:Mu}{e:TypeId}{k:IntKind}(he:P.underlying e=some (.int k))(d:Nat)(xs ys:Array Value)(w:World):∀(a b:AV) (s m:Nat),
  LR μ a (xs.toList.drop s)→LR μ b (ys.toList.drop s)→allInts k a=true→allInts k b=true→a.len=m→b.len=m →
  (Op.eqItems (d+1) e 1 xs ys (List.range' s m)).run P w = .ok (a.beq b) w:=by
 intro a
 induction a with
 | nil=>
  intro b s m ha hb h1 h2 h3 h4
  simp [AV.len]at h3;subst h3
  cases b with
  | nil=>simp [Op.eqItems,AV.beq]
  | cons x t=>simp [AV.len]at h4
  | _=>exact hb.elim
 | cons h t _ ih=>
  intro b s m ha hb h1 h2 h3 h4
  cases b with
  | nil=>simp [AV.len]at h3 h4;omega
  | cons h' t'=>
   obtain⟨n,rfl,i1⟩:=allInts_cons h1
   obtain⟨n',rfl,i2⟩:=allInts_cons h2
   obtain⟨x,r,e1,x1,r1⟩:=ha
   obtain⟨y,q,e2,y1,r2⟩:=hb
   have hx:x = .int k n:=x1
   have hy:y = .int k n':=y1
   subst hx;subst hy
   have gx:xs[s]? = some (.int k n):=by
    have:=congrArg (fun l=>l[0]?) e1
    simpa using this
   have gy:ys[s]? = some (.int k n'):=by
    have:=congrArg (fun l=>l[0]?) e2
    simpa using this
   have dx:xs.toList.drop (s+1)=r:=by rw [←List.drop_drop,e1];rfl
   have dy:ys.toList.drop (s+1)=q:=by rw [←List.drop_drop,e2];rfl
   obtain⟨m',rfl⟩:∃m',m=m'+1:=⟨t.len,by simp [AV.len]at h3;omega⟩
   have ih':=ih t' (s+1) m' (by rw [dx];exact r1) (by rw [dy];exact r2) i1 i2 (by simp [AV.len]at h3;omega) (by simp [AV.len]at h4;omega)
   rw [List.range'_succ]
   simp only [Op.eqItems,Sem.run_bind,Nat.mul_one]
   have p1:(part e xs s).run P w = .ok (.int k n) w:=by simp [part,isAgg,run_underlying he,gx]
   have p2:(part e ys s).run P w = .ok (.int k n') w:=by simp [part,isAgg,run_underlying he,gy]
   have p3:(Op.equalIn (d+1) e (.int k n) (.int k n')).run P w = .ok (n == n') w:=by simp [Op.equalIn,run_underlying he]
   rw [p1];simp only [Result.andThen_ok]
   rw [p2];simp only [Result.andThen_ok]
   rw [p3];simp only [Result.andThen_ok]
   have hb:(AV.cons (.sc (.int k n)) t).beq (.cons (.sc (.int k n')) t')=((n == n') && t.beq t'):=by
    simp only [AV.beq,Sc.beq,beqK_self,Bool.true_and,beqI_iff]
   rw [hb]
   cases hq:(n == n')with
   | false=>simp
   | true=>simp only [Bool.not_true,Bool.false_eq_true,if_false,Bool.true_and];exact ih'
  | _=>exact hb.elim
 | _=>intro b s m ha;exact ha.elim
theorem equal_run{μ:Mu}{t:TypeId}{a b:AV}{x y:Value}(ha:keyFits P t a=true)(hb:keyFits P t b=true)(hx:VR μ a x)(hy:VR μ b y)(d:Nat)(w:World) :
  (Op.equalIn (d+2) t x y).run P w = .ok (a.beq b) w:=by
 rcases keyFits_cases ha with⟨k,n,hu,rfl⟩|⟨s,hu,rfl⟩|⟨q,hu,rfl⟩|⟨n,e,k,cs,hu,he,hs,rfl,hl,hi⟩ <;>
  rcases keyFits_cases hb with⟨k',n',hu',rfl⟩|⟨s',hu',rfl⟩|⟨q',hu',rfl⟩|⟨n',e',k',cs',hu',he',hs',rfl,hl',hi'⟩ <;> rw [hu]at hu' <;> try (simp at hu';done)
 ·have hx':x = .int k n:=hx
  have hy':y = .int k' n':=hy
  simp at hu';subst hu'
  subst hx';subst hy'
  simp [Op.equalIn,run_underlying hu,AV.beq,Sc.beq,beqK_self,beqI_iff]
 ·have hx':x = .string s:=hx
  have hy':y = .string s':=hy
  subst hx';subst hy'
  simp [Op.equalIn,run_underlying hu,AV.beq,Sc.beq,beqStr_iff]
 ·have hx':x = .bool q:=hx
  have hy':y = .bool q':=hy
  subst hx';subst hy'
  simp [Op.equalIn,run_underlying hu,AV.beq,Sc.beq,beqB_iff]
 ·obtain⟨xs,rfl,hx1⟩:=hx
  obtain⟨ys,rfl,hy1⟩:=hy
  simp at hu'
  obtain⟨rfl,rfl⟩:=hu'
  rw [he]at he';simp at he';subst he'
  obtain⟨i,hinf,hsz⟩:=info_of_size hs
  rw [run_equalIn_array w (d+1) xs ys hu hinf]
  have hc:P.cellsOf e=1:=by simp [Program.cellsOf,hinf,hsz]
  rw [hc,List.range_eq_range']
  have:=eqItems_run he d xs ys w cs cs' 0 n (by rw [List.drop_zero];exact hx1) (by rw [List.drop_zero];exact hy1) hi hi' hl hl'
  simpa [AV.beq]using this
end
end Go.Eng
