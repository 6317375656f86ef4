/-
  'Ruin' of the reference. 'Ruin', of arguments that are as they should be. 'Ruin', of arguments that are as they should be: the runs. 'Ruin',
  Conditions: see each statement.
-/
import Derived.Test.YtepakfjilnpodaaGreatDoorRDAU
import Derived.Test.YtepakfjilnpodaaGreatDoorRDAO
import Derived.Test.YtepakfjilnpodaaGreatDoorRDAP
import Derived.BigFrameIn
import Derived.Deep.MidRow
import Derived.Test.YtepakfjilnpodaaGreatDoorRDAR
import Derived.Maps.AppendAt
import Derived.Deep.Upon
import Derived.Stop.RegionWithIn
namespace Go.Num
open Go.Eng Go.Shelf Go.RowKit Go.Sort Go.Proofs Go.Proofs.YtepakfjilnpodaaGreatDoor
theorem small_kept(q:Rat):SmallQ q 20000=Kept1 q:=by
 unfold SmallQ Kept1 SmallN
 congr 1
 split
 ·rename_i h
  rw [h,Lib.nDigits_small (by decide),Lib.nDigits_small (by decide)]
 ·rfl
theorem nDig_lt{n:Nat}(k:Nat)(h:Lib.nDigits n≤9*k):n<B^k:=by
 rw [B_pow]
 exact Nat.lt_of_lt_of_le (Lib.lt_pow_nDigits n) (Nat.pow_le_pow_right (by decide) h)
theorem kept_le2{q:Rat}(h:Kept1 q=true):RatLe q 2223:=by
 rw [←small_kept]at h
 unfold SmallQ at h
 rw [Bool.and_eq_true]at h
 have h1:=of_decide_eq_true h.1
 have h2:=of_decide_eq_true h.2
 exact⟨nDig_lt 2223 (by omega),nDig_lt 2223 (by omega)⟩
theorem textL_bytes(q:Rat):textQ q=⟨(textL q).toArray⟩:=by
 unfold textQ textL textZ
 split <;> rfl
theorem textL_len{q:Rat}(h:Kept1 q=true):(textL q).length≤41000:=by
 rw [←small_kept]at h
 unfold SmallQ at h
 rw [Bool.and_eq_true]at h
 have h1:=of_decide_eq_true h.1
 have h2:=of_decide_eq_true h.2
 have hi:(Lib.itoa q.num).length≤20001:=by
  unfold Lib.itoa
  split
  ·rw [List.length_cons,Lib.decDigits_length];omega
  ·rename_i hn
   rw [Lib.decDigits_length]
   rw [show q.num.natAbs=q.num.toNat by omega]at h1
   omega
 unfold textL
 split
 ·omega
 ·rw [List.length_append,List.length_cons,Lib.decDigits_length];omega
theorem parse_text{q:Rat}(h:Kept1 q=true):parseE (textL q)=0∧parseV (textL q)=q:=by
 have hp:=parse_some (l:=textL q) (by have:=textL_len h;omega) (text_formQ q)
 rw [hp.1,hp.2]
 unfold keptE keptQ
 rw [if_pos h,if_pos h]
 exact⟨rfl,rfl⟩
theorem rat_calls(w:World)(v:Value)(q:Rat)(h:QAt w v q)(hk:Kept1 q=true)(hL:Laid w) :
  CallsIn Fence.wide 0 Tryz.prog 40 #[v] w fun e w'=>∃v',e = .returned v'∧RatAt w' v' q∧Below w.heap.size w w':=by
 have hT:TI w [leafQ q,leafS (textQ q),leafR q] [(91,A1 (tg 0),A1 (tg 1)),(102,A1 (tg 1),A2 (tg 2) (vi 0))]:=by
  refine told_e1 ⟨_,Tryz.func91,rfl⟩ (fun w1 v hw hv => ?_) <| told_e1 ⟨_,Tryz.func102,rfl⟩ (fun w1 v hw hv => ?_) told_nil
  ·refine(form_calls w1 v q hv ((kept_le2 hk).mono (by decide))).mono ?_
   rintro e w' ⟨rfl,h2⟩
   exact⟨_,rfl,rfl,h2⟩
  ·have hv:v = .string (textQ q):=hv
   subst hv
   refine(parseR_calls w1 (textQ q) (textL q) (by rw [textL_bytes]) (hL.below hw)).mono ?_
   rintro e w' ⟨v',rfl,h1,h2⟩
   rw [(parse_text hk).1]
   rw [(parse_text hk).2]at h1
   exact⟨_,rfl,pk2 h1 rfl,h2⟩
 refine(run_script follows namesOK (S:=[shQ,.str,shR]) rfl hT (n:=50) (ts:=A1 (tg 0)) (rs:=A1 (tg 2)) (by kernel_rfl) (xs:=#[v]) (ps1 h)).mono ?_
 rintro e w' ⟨x,rfl,hx,hB⟩
 exact⟨x,rfl,hx,hB⟩
theorem u63:Tryz.prog.underlying 54=some (.slice 62):=by kernel_rfl
theorem u64:Tryz.prog.underlying 49=some (.slice 27):=by kernel_rfl
theorem u55:Tryz.prog.underlying 42=some (.slice 49):=by kernel_rfl
theorem i34:Tryz.prog.info? 62=some Tryz.t62:=by kernel_rfl
theorem i34z:Tryz.t62.zero=some (.agg #[.bool false,.slice none 0 0,.bool false,.slice none 0 0]):=by kernel_rfl
theorem i34s:Tryz.t62.size=4:=by kernel_rfl
theorem i34b:Tryz.t62.bytes=64:=by kernel_rfl
theorem i25':Tryz.prog.info? 27=some Tryz.t27:=by kernel_rfl
theorem i25z:Tryz.t27.zero=some (.agg #[.bool false,.slice none 0 0,.slice none 0 0]):=by kernel_rfl
theorem i25s:Tryz.t27.size=3:=by kernel_rfl
theorem i25b:Tryz.t27.bytes=56:=by kernel_rfl
theorem i63:Tryz.prog.info? 54=some Tryz.t54:=by kernel_rfl
theorem i63z:Tryz.t54.zero=some (.slice none 0 0):=by kernel_rfl
theorem i63s:Tryz.t54.size=1:=by kernel_rfl
theorem i63b:Tryz.t54.bytes=24:=by kernel_rfl
theorem i64i:Tryz.prog.info? 49=some Tryz.t49:=by kernel_rfl
theorem i64z:Tryz.t49.zero=some (.slice none 0 0):=by kernel_rfl
theorem i64s:Tryz.t49.size=1:=by kernel_rfl
theorem i64b:Tryz.t49.bytes=24:=by kernel_rfl
def Touch(ty:TypeId)(w w':World):Prop:=w.heap.size≤w'.heap.size∧∀(b:Nat) (cs:Array Value) (e:TypeId) (fz:Nat × Nat),w.heap[b]? = some (Obj.cells cs e fz)→e≠ty→w'.heap[b]? = some (Obj.cells cs e fz)
theorem Touch.of_below{ty:TypeId}{w w':World}(h:Below w.heap.size w w'):Touch ty w w':=⟨h.size,fun b cs e fz q _=>by
 rw [h.block b (Array.getElem?_eq_some_iff.1 q).1];exact q⟩
theorem Touch.kept{ty:TypeId}{w w':World}(h:Touch ty w w')(hty:rs3.contains ty=false):Go.Eng.Kept rs3 w w':=fun b cs e fz q hc=>h.2 b cs e fz q (fun he=>by rw [he,hty]at hc;cases hc)
theorem Touch.elem{ty e:TypeId}{w w':World}{b:Nat}(h:Touch ty w w')(hE:Elem w b e)(hne:e≠ty):Elem w' b e∧w'.heap[b]? = w.heap[b]?:=by
 obtain⟨cs,fz,hb⟩:=hE
 have:=h.2 _ _ _ _ hb hne
 exact⟨⟨cs,fz,this⟩,by rw [this,hb]⟩
def RowIs{β:Type}(w:World)(ty sz:Nat)(I:β→List Value→World→Prop)(v:Value)(bs:List β):Prop:=
 (bs = []∧∃o c,v = .slice o 0 c)∨∃(a:Addr) (cap:Nat) (xs:List (List Value)),v = .slice (some a) bs.length cap∧0<bs.length∧(bs.length≤cap∧bs.length≤1000000000)∧Elem w a.block ty∧xs.length=bs.length∧(∀r∈xs,r.length=sz) ∧
  (∀(i:Nat) (row:List Value),xs[i]? = some row→∀(j:Nat) (x:Value),row[j]? = some x→w.cell? (a.add (i*sz+j))=some x)∧(∀(i:Nat) (row:List Value) (b:β),xs[i]? = some row→bs[i]? = some b→I b row w)
theorem RowIs.touch{β:Type}{w w':World}{ty ty' sz:Nat}{I:β→List Value→World→Prop}{v:Value}{bs:List β}(h:RowIs w ty sz I v bs)(ht:Touch ty' w w')(hne:ty≠ty')(hI:∀b r,I b r w→I b r w'):RowIs w' ty sz I v bs:=by
 rcases h with h|⟨a,cap,xs,h1,h2,h3,h4,h5,h6,h7,h8⟩
 ·exact .inl h
 ·obtain⟨hE,hb⟩:=ht.elem h4 hne
  exact .inr ⟨a,cap,xs,h1,h2,h3,hE,h5,h6,fun i row hr j x hx=>(World.cell?_of_block (by rw [add_block];exact hb)).trans (h7 i row hr j x hx),fun i row b hr hb'=>hI _ _ (h8 i row b hr hb')⟩
theorem RowIs.below{β:Type}{w w':World}{ty sz:Nat}{I:β→List Value→World→Prop}{v:Value}{bs:List β}(h:RowIs w ty sz I v bs)(hb:Below w.heap.size w w')(hI:∀b r,I b r w→I b r w'):RowIs w' ty sz I v bs:=
 h.touch (ty':=ty+1) (.of_below hb) (by omega) hI
def OwnR{β:Type}(w:World)(base:Nat)(ty sz:Nat)(I:β→List Value→World→Prop)(v:Value)(bs:List β):Prop:=
 ∃xs:List (List Value),w.ownsRow base ty sz v bs.length xs.flatten∧xs.length=bs.length∧(∀r∈xs,r.length=sz)∧(∀(i:Nat) (row:List Value) (b:β),xs[i]? = some row→bs[i]? = some b→I b row w)
theorem flatten_at{sz:Nat}:∀{xs:List (List Value)} (_:∀r∈xs,r.length=sz) {i:Nat} {row:List Value} {j:Nat} {x:Value},xs[i]? = some row→row[j]? = some x→xs.flatten[i*sz+j]? = some x
 | [],_,i,_,_,_,h,_=>by simp at h
 | r :: t,hr,0,row,j,x,h,hx=>by
  have h:r=row:=by simpa using h
  subst h
  have hj:j<r.length:=(List.getElem?_eq_some_iff.1 hx).1
  rw [Nat.zero_mul,Nat.zero_add,List.flatten_cons,List.getElem?_append_left hj]
  exact hx
 | r :: t,hr,i+1,row,j,x,h,hx=>by
  have h:t[i]? = some row:=by simpa using h
  have hl:=hr r (by simp)
  rw [List.flatten_cons,List.getElem?_append_right (by rw [hl,Nat.add_mul];omega),hl,show(i+1)*sz+j-sz=i*sz+j by rw [Nat.add_mul];omega]
  exact flatten_at (fun q hq=>hr q (by simp [hq])) h hx
theorem OwnR.nil{β:Type}(w:World)(base ty sz:Nat)(I:β→List Value→World→Prop):OwnR w base ty sz I (.slice none 0 0) []:=
 ⟨[],World.ownsRow_nil _ _ _ _,rfl,fun r h=>by simp at h,fun i row b h=>by simp at h⟩
theorem OwnR.row{β:Type}{w:World}{base ty sz:Nat}{I:β→List Value→World→Prop}{v:Value}{bs:List β}(h:OwnR w base ty sz I v bs)(hn:bs.length≤1000000000):RowIs w ty sz I v bs:=by
 obtain⟨xs,h1,h2,h3,h4⟩:=h
 rcases Nat.eq_zero_or_pos bs.length with h0|h0
 ·left
  have hb:bs = []:=List.eq_nil_of_length_eq_zero h0
  refine⟨hb,?_⟩
  rcases h1.2 with⟨rfl,_⟩|⟨g,cap,cur,rfl,_⟩
  ·exact⟨none,0,rfl⟩
  ·rw [h0];exact⟨_,_,rfl⟩
 ·right
  rcases h1.2 with⟨_,e⟩|⟨g,cap,cur,rfl,g1,g2,g3,g4,_⟩
  ·omega
  ·refine⟨⟨g,0,none⟩,cap,xs,rfl,h0,⟨g3,hn⟩,⟨cur,(0,0),g2⟩,h2,h3,fun i row hr j x hx => ?_,h4⟩
   exact h1.cells rfl _ _ (flatten_at h3 hr hx)
theorem OwnR.touch{β:Type}{w w':World}{base ty ty' sz:Nat}{I:β→List Value→World→Prop}{v:Value}{bs:List β}(h:OwnR w base ty sz I v bs)(ht:Touch ty' w w')(hne:ty≠ty')(hI:∀b r,I b r w→I b r w'):OwnR w' base ty sz I v bs:=by
 obtain⟨xs,h1,h2,h3,h4⟩:=h
 refine⟨xs,⟨h1.1,?_⟩,h2,h3,fun i row b hr hb=>hI _ _ (h4 i row b hr hb)⟩
 rcases h1.2 with e|⟨g,cap,cur,e,g1,g2,g3⟩
 ·exact .inl e
 ·exact .inr ⟨g,cap,cur,e,g1,ht.2 _ _ _ _ g2 hne,g3⟩
theorem OwnR.below{β:Type}{w w':World}{base ty sz:Nat}{I:β→List Value→World→Prop}{v:Value}{bs:List β}(h:OwnR w base ty sz I v bs)(hb:Below w.heap.size w w')(hI:∀b r,I b r w→I b r w'):OwnR w' base ty sz I v bs:=
 h.touch (ty':=ty+1) (.of_below hb) (by omega) hI
theorem OwnR.form{β:Type}{w:World}{base ty sz:Nat}{I:β→List Value→World→Prop}{v:Value}{bs:List β}(h:OwnR w base ty sz I v bs):∃o c,v = .slice o bs.length c:=by
 obtain⟨xs,h1,_⟩:=h
 rcases h1.2 with⟨e,h0⟩|⟨g,cap,cur,e,_⟩
 ·exact⟨none,0,by rw [e,h0]⟩
 ·exact⟨_,_,e⟩
theorem append_item{β:Type}{F:Fence}{n:Nat}(w wr:World){ops:Array Oper}{rest:List Oper}{o:Oper}{a:CAct}{Q:Exit→CAct→World→Prop}{ty sz t bytes:Nat}{inf:TypeInfo}{z:Value}{I:β→List Value→World→Prop}
  (hg:o.guard=none) (s x:Operand) (hop:o.op=Op.call {callee:=Callee.builtin Builtin.append,args:=#[s,x],argTypes:=#[t,t]})
  (e1:Tryz.prog.underlying t=some (.slice ty)) (e2:Tryz.prog.info? ty=some inf) (e3:inf.zero=some z) (e4:inf.size=sz) (e5:inf.bytes=bytes) (e6:z.cells.size=sz) (e7:0<sz) (e8:bytes≤100)
  (v:Value) (bs:List β) (hs:a.eval s=v) (HO:OwnR wr w.heap.size ty sz I v bs) (b:β) (row:List Value) (tt:TypeId) (hx:a.eval x = .slice (some ⟨wr.heap.size,0,none⟩) 1 1) (hrow:row.length=sz) (h1c:∀u∈row,u.oneCell'=true) (hIb:I b row wr) (hI:∀b r w1 w2,Touch ty w1 w2→I b r w1→I b r w2) (hn:bs.length<500000000)
  (HB:Below w.heap.size w wr)
  (hK:∀v' w',Hid (OwnR w' w.heap.size ty sz I v' (bs ++ [b]))→Hid (Below w.heap.size w w')→Hid (Touch ty wr w')→Hid (∀k,k<wr.heap.size→some k≠v.ownBlock→w'.heap[k]? = wr.heap[k]?)→wpListIn F n Tryz.prog ops Q rest (a.put o.dst v') w') :
  wpListIn F n Tryz.prog ops Q (o :: rest) a (wr.alloc (.cells row.toArray tt)):=by
 have hsz:=HB.size
 obtain⟨xs,h1,h2,h3,h4⟩:=HO
 refine wpListIn_append_own _ hg s x t hop w.heap.size ty inf z sz bytes e1 e2 e3 e4 e5 e6 e7 v bs.length xs.flatten hs (World.ownsRow.alloc h1 _) ⟨wr.heap.size,0,none⟩ 1 1 row hx (by rw [hrow];omega) (fun j u hu=>by rw [Addr.add_lit,Nat.zero_add,World.cell?_alloc_new];simpa using hu) h1c (by unfold maxLen;omega) (by
  have:(bs.length+1)*bytes≤500000000*100:=Nat.mul_le_mul (by omega) e8
  omega) (by simp;omega) ?_
 intro v' w' g1 g2 _
 have hT:Touch ty wr w':=by
  refine⟨Nat.le_trans (by simp) g2.size,fun k cs e fz hk hne => ?_⟩
  have hlt:k<wr.heap.size:=(Array.getElem?_eq_some_iff.1 hk).1
  have hal:(wr.alloc (.cells row.toArray tt)).heap[k]? = wr.heap[k]?:=(alloc_below wr _).block k hlt
  rw [g2.block k (by simp;omega) (fun hk' => ?_),hal]
  ·exact hk
  ·rcases h1.2 with⟨rfl,_⟩|⟨g,cap,cur,rfl,q1,q2,_⟩
   ·cases hk'
   ·have:k=g:=by simpa [Value.ownBlock]using hk'
    subst this
    rw [q2]at hk
    injection hk with hk
    injection hk with _ hk _
    exact hne hk.symm
 refine hK v' w' ⟨xs ++ [row],?_,by simp [h2],fun r hr => ?_,fun i r b' hr hb' => ?_⟩ ?_ hT ?_
 ·rw [List.flatten_append,List.length_append]
  simpa using g1
 ·rcases List.mem_append.1 hr with h|h
  ·exact h3 r h
  ·rw [List.mem_singleton.1 h,hrow]
 ·rcases Nat.lt_or_ge i bs.length with hi|hi
  ·rw [List.getElem?_append_left (by omega)]at hr hb'
   exact hI _ _ _ _ hT (h4 i r b' hr hb')
  ·rw [List.getElem?_append_right (by omega)]at hr hb'
   rw [h2]at hr
   rcases Nat.eq_zero_or_pos (i-bs.length)with h0|h0
   ·rw [h0]at hr hb'
    have hr:row=r:=by simpa using hr
    have hb':b=b':=by simpa using hb'
    rw [←hr,←hb']
    exact hI _ _ _ _ hT hIb
   ·rw [List.getElem?_eq_none (by simp;omega)]at hr
    cases hr
 ·exact(HB.alloc hsz _).grown g2 (by simp;omega) fun k hk=>own_base h1 hk
 ·intro k hk hne
  rw [g2.block k (by simp;omega) hne,(alloc_below wr _).block k hk]
theorem OwnR.lt{β:Type}{w:World}{base ty sz:Nat}{I:β→List Value→World→Prop}{v:Value}{bs:List β}(h:OwnR w base ty sz I v bs){k:Nat}(hk:v.ownBlock=some k):k<w.heap.size:=by
 obtain⟨xs,h1,_⟩:=h
 exact(h1.lt k hk).2
def IQ(q:Rat)(r:List Value)(w:World):Prop:=QAt w (.agg r.toArray) q
def IR(q:Rat)(r:List Value)(w:World):Prop:=RatAt w (.agg r.toArray) q
theorem IQ.touch{ty:TypeId}{w w':World}(ht:Touch ty w w')(hty:rs3.contains ty=false):∀q r,IQ q r w→IQ q r w':=fun _ _ h=>QAt.kept h (ht.kept hty)
theorem IR.touch{ty:TypeId}{w w':World}(ht:Touch ty w w')(hty:rs3.contains ty=false):∀q r,IR q r w→IR q r w':=fun _ _ h=>RatAt.kept h (ht.kept hty)
theorem IQ.below{w w':World}(h:Below w.heap.size w w'):∀q r,IQ q r w→IQ q r w':=fun _ _ k=>QAt.below k h
theorem IR.below{w w':World}(h:Below w.heap.size w w'):∀q r,IR q r w→IR q r w':=fun _ _ k=>RatAt.below k h
abbrev RowQ(w:World)(v:Value)(qs:List Rat):Prop:=RowIs w 62 4 IQ v qs
abbrev RowR(w:World)(v:Value)(qs:List Rat):Prop:=RowIs w 27 3 IR v qs
def IRowQ(qs:List Rat)(r:List Value)(w:World):Prop:=∃v,r = [v]∧RowQ w v qs
def IRowR(qs:List Rat)(r:List Value)(w:World):Prop:=∃v,r = [v]∧RowR w v qs
theorem IRowQ.touch{ty:TypeId}{w w':World}(ht:Touch ty w w')(hty:rs3.contains ty=false)(hne:62≠ty):∀q r,IRowQ q r w→IRowQ q r w':=fun _ _ ⟨v,e,h⟩=>⟨v,e,h.touch ht hne (IQ.touch ht hty)⟩
theorem IRowR.touch{ty:TypeId}{w w':World}(ht:Touch ty w w')(hty:rs3.contains ty=false)(hne:27≠ty):∀q r,IRowR q r w→IRowR q r w':=fun _ _ ⟨v,e,h⟩=>⟨v,e,h.touch ht hne (IR.touch ht hty)⟩
theorem IRowQ.below{w w':World}(h:Below w.heap.size w w'):∀q r,IRowQ q r w→IRowQ q r w':=fun _ _ ⟨v,e,k⟩=>⟨v,e,RowIs.below k h (IQ.below h)⟩
theorem IRowR.below{w w':World}(h:Below w.heap.size w w'):∀q r,IRowR q r w→IRowR q r w':=fun _ _ ⟨v,e,k⟩=>⟨v,e,RowIs.below k h (IR.below h)⟩
abbrev MatQ(w:World)(v:Value)(m:List (List Rat)):Prop:=RowIs w 54 1 IRowQ v m
abbrev MatR(w:World)(v:Value)(m:List (List Rat)):Prop:=RowIs w 49 1 IRowR v m
def ReadAt(w:World)(v:Value)(n:Nat)(f:Nat→Value):Prop:=∃o c,v = .slice o n c∧n≤9223372036854775807∧(0<n→∃a:Addr,o=some a∧a.block<w.heap.size∧∀i,i<n→w.cell? (a.add i)=some (f i))
theorem ReadAt.below{w w':World}{v:Value}{n:Nat}{f:Nat→Value}(h:ReadAt w v n f)(hb:Below w.heap.size w w'):ReadAt w' v n f:=by
 obtain⟨o,c,e,hn,h1⟩:=h
 refine⟨o,c,e,hn,fun h0 => ?_⟩
 obtain⟨a,e2,ha,hc⟩:=h1 h0
 exact⟨a,e2,Nat.lt_of_lt_of_le ha hb.size,fun i hi=>(hb.cell (p:=a.add i) (by rw [add_block];exact ha)).trans (hc i hi)⟩
end Go.Num
namespace Go.Eng
open Go.RowKit Go.Num Go.Proofs Go.Proofs.YtepakfjilnpodaaGreatDoor
end Go.Eng
namespace Go.Num
open Go.Eng Go.Shelf Go.RowKit Go.Sort Go.Proofs Go.Proofs.YtepakfjilnpodaaGreatDoor
end Go.Num
namespace Go.Eng
open Go.RowKit
end Go.Eng
namespace Go.Eng
open Go.RowKit Go.Num Go.Proofs Go.Proofs.YtepakfjilnpodaaGreatDoor
def putAll(a:CAct):List (Tmp × Value)→CAct
 | []=>a
 | (t,v) :: r=>(putAll a r).put (some t) v
def lookO(a:CAct):List (Tmp × Value)→Tmp→Value
 | [],t=>a.tmps.getD t undef
 | (s,v) :: r,t=>bif Nat.beq s t then v else lookO a r t
def look(a:CAct)(ov:List (Tmp × Value)):Operand→Value
 | .tmp t=>lookO a ov t
 | .const v=>v
 | .global g => .pointer (some ⟨g,0,none⟩)
 | .func f => .func (.func f) #[] #[]
def keysOk(nt:Nat)(ov:List (Tmp × Value)):Prop:=∀p∈ov,p.1<nt
theorem putAll_size(a:CAct):∀ov,(putAll a ov).tmps.size=a.tmps.size
 | []=>rfl
 | (t,v) :: r=>by rw [putAll,put_size];exact putAll_size a r
theorem putAll_tmp(a:CAct):∀ov,keysOk a.tmps.size ov→∀t,(putAll a ov).tmps.getD t undef=lookO a ov t
 | [],_,t=>rfl
 | (s,v) :: r,h,t=>by
  have ih:=putAll_tmp a r (fun p hp=>h p (by simp [hp])) t
  show((putAll a r).put (some s) v).tmps.getD t undef=bif Nat.beq s t then v else lookO a r t
  cases e:Nat.beq s t with
  | true=>
   have:=Nat.eq_of_beq_eq_true e
   subst this
   exact put_same (by rw [putAll_size];exact h (s,v) (by simp))
  | false=>
   rw [put_other (by intro q;cases q;rw [Nat.beq_refl]at e;cases e)]
   exact ih
theorem putAll_eval(a:CAct)(ov:List (Tmp × Value))(h:keysOk a.tmps.size ov):(putAll a ov).eval=look a ov:=by
 funext x
 cases x with
 | tmp t=>exact putAll_tmp a ov h t
 | _=>rfl
section
variable {K:World→Prop} {ks:List Nat} {P:Program} {nt:Nat} {ops:Array Oper} {bs bars r:List Nat} {i:Nat} {a:CAct} {ov:List (Tmp × Value)} {w:World} {Q:CAct→World→Prop} {o:Oper}
theorem keysOk.cons{d:Tmp}{v:Value}(h:keysOk nt ov)(hd:Nat.blt d nt=true):keysOk nt ((d,v) :: ov):=by
 intro p hp
 rcases List.mem_cons.1 hp with rfl|hp
 ·exact(blt_iff _ _).1 hd
 ·exact h p hp
def ItemAt(P:Program)(t:TypeId)(sz:Nat):Prop:=∀(p:Addr) (len cap k:Nat) (w:World),k<len→(Instr.indexAt t (.slice (some p) len cap) (.int .i64 (k:Int))).run P w = .ok (.pointer (some (p.add (k*sz)))) w
theorem itemAt_of{t e:TypeId}{inf:TypeInfo}{sz:Nat}(hu:P.underlying t=some (.slice e))(hi:P.info? e=some inf)(hs:inf.size=sz):ItemAt P t sz:=by
 intro p len cap k w hk
 have hk':(k:Int)<(len:Int):=by omega
 subst hs
 simp [Instr.indexAt,asIntOf,hu,hk,underlying,sizeOf,typeInfo,hi,Sem.run_bind,Sem.run_pure,Result.andThen,go_sem]
def FieldIn(P:Program)(s:TypeId)(f off:Nat):Prop:=∀(p:Addr) w,(Instr.fieldAt s (.pointer (some p)) f).run P w = .ok (.pointer (some (p.add off))) w
theorem fieldIn_of{s:TypeId}{f off:Nat}(h:(match P.underlying s with|some (.struct fs)=>(match fs[f]? with|some fd=>Nat.beq fd.offset off && (match P.info? fd.type with|some i => !Nat.beq i.size 0|none=>false)|none=>false)|_=>false)=true):FieldIn P s f off:=by
 intro p w
 split at h
 ·rename_i fs h1
  split at h
  ·rename_i fd h2
   rw [Bool.and_eq_true]at h
   have h3:=Nat.eq_of_beq_eq_true h.1
   have h4:=h.2
   split at h4
   ·rename_i inf h5
    have h6:inf.size≠0:=by
     intro e
     rw [e]at h4
     cases h4
    subst h3
    simp [Instr.fieldAt,run_underlying h1,h2,Instr.sureAddr,fieldPlace,sizeOf,typeInfo,h5,h6]
   ·cases h4
  ·cases h
 ·cases h
def LoadMany(P:Program)(t:TypeId)(n:Nat):Prop:=∀(p:Addr) (cs:List Value) w,cs.length=n→(∀j v,cs[j]? = some v→World.cell? w (p.add j)=some v)→(Instr.loadAt t (.pointer (some p))).run P w = .ok (.agg cs.toArray) w
theorem loadMany_of{t:TypeId}{n:Nat}(h:(match P.underlying t with|some (.struct _)=>true|_=>false)=true)(hi:(P.info? t).map (·.size)=some n):LoadMany P t n:=by
 intro p cs w hn hc
 cases hu:P.underlying t with
 | none=>rw [hu]at h;cases h
 | some d=>
  rw [hu]at h
  cases d with
  | struct fs=>
   have hl:(loadCells p cs.length).run P w = .ok cs.toArray w:=run_loadCells_list (P:=P) w p cs hc
   cases hq:P.info? t with
   | none=>simp [hq]at hi
   | some inf=>
    have hs:inf.size=n:=by simpa [hq]using hi
    have hagg:(isAgg t).run P w = .ok true w:=by
     unfold isAgg
     rw [Sem.run_bind,run_underlying hu w]
     rfl
    simp [Instr.loadAt,Instr.sureAddr,loadVar,Sem.run_bind,hagg,sizeOf,typeInfo,hq,hs,←hn,hl]
  | _=>cases h
end
end Go.Eng
namespace Go.Num
open Go.Eng Go.Shelf Go.RowKit Go.Proofs Go.Proofs.YtepakfjilnpodaaGreatDoor
end Go.Num
namespace Go.Num
open Go.Eng Go.Shelf Go.RowKit Go.Sort Go.Proofs Go.Proofs.YtepakfjilnpodaaGreatDoor
theorem RowIs.at9{β:Type}{w:World}{ty sz n c:Nat}{I:β→List Value→World→Prop}{a:Addr}{bs:List β}(h:RowIs w ty sz I (.slice (some a) n c) bs){i:Nat}{b:β}(hb:bs[i]? = some b) :
  i<n∧∃row,row.length=sz∧(∀j x,row[j]? = some x→w.cell? ((a.add (i*sz)).add j)=some x)∧I b row w:=by
 have hi:i<bs.length:=(List.getElem?_eq_some_iff.1 hb).1
 rcases h with⟨rfl,_⟩|⟨a',cap,xs,e,h2,h3,h4,h5,h6,h7,h8⟩
 ·simp at hb
 ·injection e with e e2 _
  injection e with e
  subst e
  obtain⟨row,hr⟩:∃row,xs[i]? = some row:=⟨_,List.getElem?_eq_getElem (by omega)⟩
  exact⟨by omega,row,h6 row (List.mem_of_getElem? hr),fun j x hx=>by rw [Addr.add_add];exact h7 i row hr j x hx,h8 i row b hr hb⟩
theorem RowIs.some9{β:Type}{w:World}{ty sz:Nat}{I:β→List Value→World→Prop}{v:Value}{bs:List β}(h:RowIs w ty sz I v bs)(h0:0<bs.length):∃a c,v = .slice (some a) bs.length c:=by
 rcases h with⟨rfl,_⟩|⟨a,cap,_,e,_⟩
 ·simp at h0
 ·exact⟨a,cap,e⟩
theorem BoxL.at9{w:World}{g:Nat}{xs:List Value}(h:BoxL w g xs):∀j v,xs[j]? = some v→w.cell? ((⟨g,0,none⟩:Addr).add j)=some v:=fun j v hj=>by
 rw [Addr.add_lit,Nat.zero_add];exact h.2 j v hj
def rowW(a:Nat→Rat)(n:Nat):List Rat:=(List.range n).map a
theorem rowW_at{a:Nat→Rat}{n j:Nat}(h:j<n):(rowW a n)[j]? = some (a j):=by simp [rowW,h]
theorem rowW_len(a:Nat→Rat)(n:Nat):(rowW a n).length=n:=by simp [rowW]
end Go.Num
namespace Go.Eng
open Go.RowKit Go.Num Go.Proofs Go.Proofs.YtepakfjilnpodaaGreatDoor
end Go.Eng
namespace Go.Num
end Go.Num
namespace Go.Num
end Go.Num
namespace Go.Num
open Go.Eng Go.Shelf Go.RowKit Go.Sort Go.Proofs Go.Proofs.YtepakfjilnpodaaGreatDoor
end Go.Num
namespace Go.Eng
open Go.RowKit Go.Num
end Go.Eng
namespace Go.Eng
open Go.RowKit Go.Num Go.Proofs Go.Proofs.YtepakfjilnpodaaGreatDoor
end Go.Eng
namespace Go.Num
open Go.Eng Go.Shelf Go.RowKit Go.Sort Go.Proofs Go.Proofs.YtepakfjilnpodaaGreatDoor
attribute [local go_sem] Oper.semAt_some
end Go.Num
namespace Go.Num
open Go.Eng Go.Shelf Go.RowKit Go.Sort Go.Proofs Go.Proofs.YtepakfjilnpodaaGreatDoor
theorem qform{w:World}{v:Value}{q:Rat}(h:QAt w v q):∃s o1 k1 c1 o2 k2 c2,v = .agg #[.bool s,.slice o1 k1 c1,.bool false,.slice o2 k2 c2]:=by
 obtain⟨m1,m2,e,h1,h2⟩:=h
 obtain⟨o1,k1,c1,rfl,_,_⟩:=natI_len h1
 obtain⟨o2,k2,c2,rfl,_,_⟩:=natI_len h2
 exact⟨_,o1,k1,c1,o2,k2,c2,e⟩
theorem rowW_succ(a:Nat→Rat)(n:Nat):rowW a (n+1)=rowW a n ++ [a n]:=by simp [rowW,List.range_succ]
def shortB(q:Rat):Bool:=decide (0≤q.num) && SmallQ q 6
set_option maxRecDepth 100000 in
set_option maxHeartbeats 8000000 in
theorem isShort_calls(w:World)(v:Value)(q:Rat)(h:RatAt w v q)(hq:RatLe q 100000)(htab:Pow10 w) :
  CallsIn Fence.wide 0 Tryz.prog 62 #[v] w fun e w'=>e = .returned (.bool (shortB q))∧Below w.heap.size w w':=by
 have HR:=Hid.intro h
 have HQ:=Hid.intro hq
 have HTab:=Hid.intro htab
 obtain⟨o1,k1,c1,o2,k2,c2,rfl⟩:=h.form
 obtain⟨sg,hsg⟩:∃sg,decide (q.num<0)=sg:=⟨_,rfl⟩
 rw [hsg]at HR
 rw [hsg]
 obtain⟨W1,hW1⟩:∃W,W=w.alloc (.cells #[.bool sg,.slice o1 k1 c1,.slice o2 k2 c2] 27):=⟨_,rfl⟩
 have HX:Hid (Box3 W1 w.heap.size (.bool sg) (.slice o1 k1 c1) (.slice o2 k2 c2)):=Hid.intro (by rw [hW1];exact box3_new _ _ _ _ _)
 have HBW:Hid (Below w.heap.size w W1):=Hid.intro (by rw [hW1];exact alloc_below _ _)
 clear hq htab hsg
 refine callsIn_of_wp Tryz.func62 rfl trivial ?_ rfl
 simp only [Tryz.ntmps62,List.size_toArray,List.length_cons,List.length_nil,Nat.reduceAdd,Nat.reduceSub,Array.replicate_succ,Array.replicate_zero,List.push_toArray,List.append_toArray,List.nil_append,List.cons_append]
 have y0:=HX.out.c0
 have y1:=HX.out.c1
 have y2:=HX.out.c2
 rw [hW1]at y0 y1 y2
 gi_wp2_with (gi_at_call 75;refine stop ?_)
 unfold Stop
 rw [←hW1]at y0 y1 y2 ⊢
 obtain⟨g,hg⟩:∃g,w.heap.size=g:=⟨_,rfl⟩
 rw [hg]at HX y0 y1 y2
 rw [hg]
 clear hW1 hg
 refine(parts_calls W1 _ q (HR.out.below HBW.out) HQ.out (HTab.out.below HBW.out)).mono ?_
 rintro e w2 ⟨rfl,hB⟩
 replace HX:=Hid.intro (HX.out.below hB)
 replace HBW:=Hid.intro (HBW.out.trans (hB.mono HBW.out.size))
 replace y0:=HX.out.c0
 replace y1:=HX.out.c1
 replace y2:=HX.out.c2
 obtain⟨S,hS⟩:∃S:ByteArray,textZ q.num=S:=⟨_,rfl⟩
 obtain⟨T,hT⟩:∃T:ByteArray,textN q.den=T:=⟨_,rfl⟩
 have HS:=Hid.intro hS
 have HT:=Hid.intro hT
 rw [hS,hT]
 clear hS hT hB
 gi_wp2_with (gi_at_call 25;refine stop ?_)
 unfold Stop
 refine(sign_calls w2 _ q (HR.out.below HBW.out)).mono ?_
 rintro e w3 ⟨rfl,hB⟩
 replace HBW:=Hid.intro (HBW.out.trans (hB.mono HBW.out.size))
 clear y0 y1 y2 hB
 have hTs:T.size=Lib.nDigits q.den:=by rw [←HT.out];unfold textN;rw [bytes_size,Lib.decDigits_length]
 obtain⟨d2,hd2⟩:∃d,Lib.nDigits q.den=d:=⟨_,rfl⟩
 rw [hd2]at hTs
 by_cases h0:0≤q.num
 ·have hsz:S.size=Lib.nDigits q.num.natAbs:=by rw [←HS.out,textZ_pos h0];unfold textN;rw [bytes_size,Lib.decDigits_length]
  obtain⟨d1,hd1⟩:∃d,Lib.nDigits q.num.natAbs=d:=⟨_,rfl⟩
  rw [hd1]at hsz
  obtain⟨s,hs⟩:∃s,sgnR q=s:=⟨_,rfl⟩
  have hs0:0≤s:=by
   rw [←hs];unfold sgnR
   rw [if_neg (by omega)]
   split <;> omega
  have HV:Hid (shortB q=(decide (d1≤6) && decide (d2≤6))):=Hid.intro (by unfold shortB SmallQ;rw [hd1,hd2,decide_eq_true h0,Bool.true_and])
  rw [hs]
  clear h0 hs hd1 hd2
  have hge:decide (s≥0)=true:=decide_eq_true hs0
  by_cases h6:d1≤6
  ·have hc:decide ((d1:Int)≤6)=true:=decide_eq_true (by omega)
   by_cases h7:d2≤6
   ·have hc2:decide ((d2:Int)≤6)=true:=decide_eq_true (by omega)
    have HV2:Hid (shortB q=true):=Hid.intro (by rw [HV.out,decide_eq_true h6,decide_eq_true h7];rfl)
    clear HV h6 h7
    gi_wp2_with (exfalso;exact undef_not (by assumption))
    all_goals (first|go_returns|go_ret|go_end0)
    exact⟨by rw [HV2.out];rfl,HBW.out⟩
   ·have hc2:decide ((d2:Int)≤6)=false:=decide_eq_false (by omega)
    have HV2:Hid (shortB q=false):=Hid.intro (by rw [HV.out,decide_eq_false h7,Bool.and_false])
    clear HV h6 h7
    gi_wp2_with (exfalso;exact undef_not (by assumption))
    all_goals (first|go_returns|go_ret|go_end0)
    exact⟨by rw [HV2.out];rfl,HBW.out⟩
  ·have hc:decide ((d1:Int)≤6)=false:=decide_eq_false (by omega)
   have HV2:Hid (shortB q=false):=Hid.intro (by rw [HV.out,decide_eq_false h6,Bool.false_and])
   clear HV h6
   gi_wp2_with (exfalso;exact undef_not (by assumption))
   all_goals (first|go_returns|go_ret|go_end0)
   exact⟨by rw [HV2.out];rfl,HBW.out⟩
 ·have hs:sgnR q = -1:=by unfold sgnR;rw [if_pos (by omega)]
  have HV2:Hid (shortB q=false):=Hid.intro (by unfold shortB;rw [decide_eq_false h0,Bool.false_and])
  rw [hs]
  clear h0 hs
  gi_wp2_with (exfalso;exact undef_not (by assumption))
  all_goals (first|go_returns|go_ret|go_end0)
  exact⟨by rw [HV2.out];rfl,HBW.out⟩
end Go.Num
namespace Go.Num
open Go.Eng Go.Shelf Go.RowKit Go.Proofs Go.Proofs.YtepakfjilnpodaaGreatDoor
def RowC(w:World)(v:Value)(l:List Rat):Prop:=
 ∃o c,v = .slice o l.length c∧l.length≤1000000000∧∀(i:Nat) (q:Rat),l[i]? = some q→∃a,o=some a∧a.block<w.heap.size ∧
  ∃x0 x1 x2,w.cell? (a.add (i*3))=some x0∧w.cell? ⟨(a.add (i*3)).block,(a.add (i*3)).off+1,none⟩=some x1∧w.cell? ⟨(a.add (i*3)).block,(a.add (i*3)).off+2,none⟩=some x2∧RatAt w (.agg #[x0,x1,x2]) q
theorem RowC.below{w w':World}{v:Value}{l:List Rat}(h:RowC w v l)(hb:Below w.heap.size w w'):RowC w' v l:=by
 obtain⟨o,c,rfl,h9,hi⟩:=h
 refine⟨o,c,rfl,h9,fun i q hq => ?_⟩
 obtain⟨a,rfl,ha,x0,x1,x2,h0,h1,h2,hr⟩:=hi i q hq
 have hab:(a.add (i*3)).block<w.heap.size:=by rw [add_block];exact ha
 exact⟨a,rfl,Nat.lt_of_lt_of_le ha hb.size,x0,x1,x2,(hb.cell hab).trans h0,(hb.cell (p:=⟨(a.add (i*3)).block,_,none⟩) hab).trans h1,(hb.cell (p:=⟨(a.add (i*3)).block,_,none⟩) hab).trans h2,hr.below hb⟩
def BoxQ(w:World)(g:Nat)(q:Rat):Prop:=∃sg o1 k1 c1 o2 k2 c2,ArrAt w g 3 (fun i => [.bool sg,.slice o1 k1 c1,.slice o2 k2 c2].getD i (.bool false))∧RatAt w (.agg #[.bool sg,.slice o1 k1 c1,.slice o2 k2 c2]) q∧Elem w g 27
theorem RowC.item{w:World}{o:Option Addr}{n c:Nat}{l:List Rat}(h:RowC w (.slice o n c) l){i:Nat}{q:Rat}(hq:l[i]? = some q):∃a,o=some a∧a.block<w.heap.size ∧
  ∃sg o1 k1 c1 o2 k2 c2,w.cell? (a.add (i*3))=some (.bool sg)∧w.cell? ⟨(a.add (i*3)).block,(a.add (i*3)).off+1,none⟩=some (.slice o1 k1 c1)∧w.cell? ⟨(a.add (i*3)).block,(a.add (i*3)).off+2,none⟩=some (.slice o2 k2 c2)∧RatAt w (.agg #[.bool sg,.slice o1 k1 c1,.slice o2 k2 c2]) q:=by
 obtain⟨o',c',e,h9,hi⟩:=h
 injection e with e _ _
 subst e
 obtain⟨a,rfl,ha,x0,x1,x2,h0,h1,h2,hr⟩:=hi i q hq
 obtain⟨o1,k1,c1,o2,k2,c2,hf⟩:=hr.form
 injection hf with hf
 have:=congrArg Array.toList hf
 simp only [List.cons.injEq,and_true]at this
 obtain⟨rfl,rfl,rfl⟩:=this
 exact⟨a,rfl,ha,_,o1,k1,c1,o2,k2,c2,h0,h1,h2,hr⟩
theorem ArrAt.other{w:World}{g n b i:Nat}{f:Nat→Value}{v:Value}(h:ArrAt w g n f)(hne:b≠g):ArrAt (w.setCell ⟨b,i,none⟩ v) g n f:=fun j hj=>by
 refine⟨by rw [World.cell?_setCell_other _ _ _ _ (fun e=>by injection e with e _ _;exact hne e)];exact(h j hj).1,?_⟩
 rw [World.frozen?_setCell];exact(h j hj).2
theorem BoxQ.below{w w':World}{g:Nat}{q:Rat}(h:BoxQ w g q)(hb:Below w.heap.size w w'):BoxQ w' g q:=by
 obtain⟨sg,o1,k1,c1,o2,k2,c2,hA,hr,hE⟩:=h
 have hl:=hA.lt (by omega)
 exact⟨sg,o1,k1,c1,o2,k2,c2,hA.below hl hb,hr.below hb,hE.below hb hl⟩
theorem boxQ_new{w:World}{sg:Bool}{o1 o2:Option Addr}{k1 c1 k2 c2:Nat}{q:Rat}(h:RatAt w (.agg #[.bool sg,.slice o1 k1 c1,.slice o2 k2 c2]) q):BoxQ (w.alloc (.cells #[.bool sg,.slice o1 k1 c1,.slice o2 k2 c2] 27)) w.heap.size q:=by
 refine⟨sg,o1,k1,c1,o2,k2,c2,ArrAt.new _ _ _ fun i hi => ?_,h.below (alloc_below _ _),elem_new _ _ _⟩
 match i,hi with
 | 0,_=>rfl
 | 1,_=>rfl
 | 2,_=>rfl
theorem BoxQ.set{w:World}{g:Nat}{p q:Rat}{sg:Bool}{o1 o2:Option Addr}{k1 c1 k2 c2:Nat}(h:BoxQ w g p)(hr:RatAt w (.agg #[.bool sg,.slice o1 k1 c1,.slice o2 k2 c2]) q) :
  BoxQ (((w.setCell ⟨g,0,none⟩ (.bool sg)).setCell ⟨g,1,none⟩ (.slice o1 k1 c1)).setCell ⟨g,2,none⟩ (.slice o2 k2 c2)) g q:=by
 obtain⟨sg',o3,k3,c3,o4,k4,c4,hA,_,hE⟩:=h
 refine⟨sg,o1,k1,c1,o2,k2,c2,(((hA.set (i:=0) (by omega) (.bool sg)).set (i:=1) (by omega) (.slice o1 k1 c1)).set (i:=2) (by omega) (.slice o2 k2 c2)).congr fun i hi => ?_,((hr.setElem hE (by decide)).setElem (hE.setCell _ _) (by decide)).setElem ((hE.setCell _ _).setCell _ _) (by decide),((hE.setCell _ _).setCell _ _).setCell _ _⟩
 match i,hi with
 | 0,_=>rfl
 | 1,_=>rfl
 | 2,_=>rfl
def sumL(l:List Rat):Rat:=l.foldl (· + ·) 0
theorem sumL_snoc(l:List Rat)(q:Rat):sumL (l ++ [q])=sumL l+q:=by unfold sumL;rw [List.foldl_append];rfl
theorem must_calls(w:World)(v:Value)(q:Rat)(h:RatAt w v q) :
  CallsIn Fence.wide 0 Tryz.prog 85 #[v,.int .i64 0] w fun e w'=>∃v',e = .returned v'∧RatAt w' v' q∧Below w.heap.size w w':=by
 refine(run_script follows namesOK (env:=[leafR q]) (S:=[shR]) rfl (w:=w) told_nil (n:=50) (ts:=A2 (tg 0) (vi 0)) (rs:=A1 (tg 0)) (by kernel_rfl) (xs:=#[v,.int .i64 0]) (ps2 h rfl)).mono ?_
 rintro e w' ⟨x,rfl,hx,hB⟩
 exact⟨x,rfl,hx,hB⟩
end Go.Num
namespace Go.Num
open Go.Eng Go.Shelf Go.RowKit Go.Proofs Go.Proofs.YtepakfjilnpodaaGreatDoor
end Go.Num
namespace Go.Num
open Go.Eng Go.Shelf Go.RowKit Go.Proofs Go.Proofs.YtepakfjilnpodaaGreatDoor
set_option maxRecDepth 100000 in
set_option maxHeartbeats 8000000 in
theorem sum_calls(w:World)(v:Value)(l:List Rat)(L:Nat)(h:RowC w v l)(hl:∀q∈l,RatLe q L)(hp:∀k,RatLe (sumL (l.take k)) L)(hk:∀k,Kept1 (sumL (l.take k))=true)(hL:L≤100000)(htab:Pow10 w) :
  CallsIn Fence.wide 0 Tryz.prog 65 #[v] w fun e w'=>∃v',e = .returned v'∧RatAt w' v' (sumL l)∧Below w.heap.size w w':=by
 have HR:=Hid.intro h
 have HL:=Hid.intro hl
 have HP:=Hid.intro hp
 have HK:=Hid.intro hk
 have HTab:=Hid.intro htab
 obtain⟨o,c,rfl,h9,_⟩:=h
 obtain⟨n,hn⟩:∃n,l.length=n:=⟨_,rfl⟩
 have HN:=Hid.intro hn
 rw [hn]at HR h9
 rw [hn]
 clear hl hp hk htab hn
 refine callsIn_of_wp Tryz.func65 rfl trivial ?_ rfl
 simp only [Tryz.ntmps65,List.size_toArray,List.length_cons,List.length_nil,Nat.reduceAdd,Nat.reduceSub,Array.replicate_succ,Array.replicate_zero,List.push_toArray,List.append_toArray,List.nil_append,List.cons_append]
 obtain⟨W1,hW1⟩:∃W,W=w.alloc (.cells #[.bool false,.slice none 0 0,.slice none 0 0] 27):=⟨_,rfl⟩
 have HBW:Hid (Below w.heap.size w W1):=Hid.intro (by rw [hW1];exact alloc_below _ _)
 have hA0:ArrAt W1 w.heap.size 3 fun i => [.bool false,.slice none 0 0,.slice none 0 0].getD i (.bool false):=by
  rw [hW1]
  refine ArrAt.new _ _ _ fun i hi => ?_
  match i,hi with
  | 0,_=>rfl
  | 1,_=>rfl
  | 2,_=>rfl
 have HE:Hid (Elem W1 w.heap.size 27):=Hid.intro (by rw [hW1];exact elem_new _ _ _)
 have hsz1:W1.heap.size=w.heap.size+1:=by rw [hW1];simp
 have HW1:=Hid.intro hW1
 clear hW1
 obtain⟨g,hg⟩:∃g,w.heap.size=g:=⟨_,rfl⟩
 have hgl:g<W1.heap.size:=by omega
 have hgw:w.heap.size≤g:=by omega
 have HG:=Hid.intro hg
 rw [hg]at hA0 HE
 have HA:=Hid.intro hA0
 have hz:=ratAt_zero W1
 have HR2:=Hid.intro hz
 clear hA0 hz
 have HG3:Hid (W1.heap.size=g+1):=Hid.intro (by omega)
 have HLT:Hid (g<g+1):=Hid.intro (by omega)
 have hle3:w.heap.size≤g+1:=by omega
 clear hsz1
 gi_wp2
 gi_loopw [8] (fun x8 wr=>∃i:Nat,x8 = .int .i64 (i:Int)∧i≤n∧Hid (BoxQ wr (g+1) (sumL (l.take i)))∧Hid (ArrAt wr g 3 fun i => [.bool false,.slice none 0 0,.slice none 0 0].getD i (.bool false))∧Hid (Elem wr g 27)∧Hid (Below w.heap.size w wr)) (fun x _=>n-(intOf x).toNat)
 case atStart=>
  rw [←HW1.out]
  refine⟨0,rfl,by omega,?_,?_,?_,?_⟩
  ·rw [←HG3.out];exact boxQ_new HR2.out
  ·exact HA.out.alloc hgl _
  ·exact HE.out.below (alloc_below _ _) hgl
  ·exact HBW.out.trans ((alloc_below _ _).mono HBW.out.size)
 case round=>
  obtain⟨i,rfl,hi,HQ,HA,HE,HB⟩:=hrel
  clear HR2 HBW
  by_cases hin:i<n
  ·obtain⟨q,hq⟩:∃q,l[i]? = some q:=⟨_,List.getElem?_eq_getElem (by rw [HN.out];exact hin)⟩
   obtain⟨a,rfl,hal,sg,o3,k3,c3,o4,k4,c4,x0,x1,x2,hra⟩:=(HR.out.below HB.out).item hq
   have HRA:=Hid.intro hra
   have HQq:=Hid.intro (HL.out q (List.mem_of_getElem? hq))
   have htk:sumL (l.take (i+1))=sumL (l.take i)+q:=by rw [List.take_add_one,hq];exact sumL_snoc _ _
   have HTK:=Hid.intro htk
   have hP1:=HP.out (i+1)
   have hK1:=HK.out (i+1)
   rw [htk]at hP1 hK1
   have HP1:=Hid.intro hP1
   have HK1:=Hid.intro hK1
   obtain⟨sp,o5,k5,c5,o6,k6,c6,hA3,hr3,hE3⟩:=HQ.out
   have HR3:=Hid.intro hr3
   have y0:wr.cell? ⟨g+1,0,none⟩=some (.bool sp):=(hA3 0 (by omega)).1
   have y1:wr.cell? ⟨g+1,1,none⟩=some (.slice o5 k5 c5):=(hA3 1 (by omega)).1
   have y2:wr.cell? ⟨g+1,2,none⟩=some (.slice o6 k6 c6):=(hA3 2 (by omega)).1
   have hl3:g+1<wr.heap.size:=hA3.lt (by omega)
   clear hq hra htk hP1 hK1 hA3 hr3 hE3
   gi_wp2_with (gi_at_call 17;refine stop ?_)
   unfold Stop
   obtain⟨W3,hW3⟩:∃W,wr.alloc (.cells #[.bool sg,.slice o3 k3 c3,.slice o4 k4 c4] 27)=W:=⟨_,rfl⟩
   have hb3:Below wr.heap.size wr W3:=by rw [←hW3];exact alloc_below _ _
   rw [hW3]
   clear hW3
   refine(addR_calls W3 _ _ _ q L (HR3.out.below hb3) (HRA.out.below hb3) (HP.out i) HQq.out (by omega) (HP1.out.mono hL) HK1.out (HTab.out.below (HB.out.trans (hb3.mono HB.out.size)))).mono ?_
   rintro e w4 ⟨v4,rfl,hr4,hB4⟩
   have HB4:=Hid.intro (hb3.trans (hB4.mono hb3.size))
   have HR4:=Hid.intro hr4
   obtain⟨o7,k7,c7,o8,k8,c8,rfl⟩:=hr4.form
   clear hr4 hB4 hb3 HRA y0 y1 y2 x0 x1 x2
   gi_wp2_with (gi_at_call 85;refine stop ?_)
   unfold Stop
   refine(must_calls w4 _ _ HR4.out).mono ?_
   rintro e w5 ⟨v5,rfl,hr5,hB5⟩
   replace HB4:=Hid.intro (HB4.out.trans (hB5.mono HB4.out.size))
   have HR5:=Hid.intro hr5
   obtain⟨o9,k9,c9,o10,k10,c10,rfl⟩:=hr5.form
   obtain⟨s9,hs9⟩:∃s,decide ((sumL (l.take i)+q).num<0)=s:=⟨_,rfl⟩
   rw [hs9]at HR5
   rw [hs9]
   clear hr5 hB5 HR4 hs9
   replace HQ:=Hid.intro (HQ.out.below HB4.out)
   replace HA:=Hid.intro (HA.out.below (HE.out.lt) HB4.out)
   replace HE:=Hid.intro (HE.out.below HB4.out HE.out.lt)
   replace HB:=Hid.intro (HB.out.trans (HB4.out.mono HB.out.size))
   obtain⟨s6,p1,n1,d1,p2,n2,d2,hA6,hr6,hE6⟩:=HQ.out
   have y0:w5.cell? ⟨g+1,0,none⟩=some (.bool s6):=(hA6 0 (by omega)).1
   have y1:w5.cell? ⟨g+1,1,none⟩=some (.slice p1 n1 d1):=(hA6 1 (by omega)).1
   have y2:w5.cell? ⟨g+1,2,none⟩=some (.slice p2 n2 d2):=(hA6 2 (by omega)).1
   have z0:=(hA6 0 (by omega)).2
   have z1:=(hA6 1 (by omega)).2
   have z2:=(hA6 2 (by omega)).2
   clear hA6 hr6 hE6 hl3
   gi_wp2
   refine⟨⟨i+1,by go_num,by omega,?_,?_,?_,?_⟩,by simp only [intOf];omega⟩
   ·rw [HTK.out];exact HQ.out.set HR5.out
   ·exact((HA.out.other (by have:=HLT.out;omega)).other (by have:=HLT.out;omega)).other (by have:=HLT.out;omega)
   ·exact((HE.out.setCell _ _).setCell _ _).setCell _ _
   ·exact((HB.out.setCell hle3 _).setCell hle3 _).setCell hle3 _
  ·have hin2:i=n:=by omega
   have HE2:Hid (sumL (l.take i)=sumL l):=Hid.intro (by rw [hin2,←HN.out,List.take_length])
   obtain⟨sp,o5,k5,c5,o6,k6,c6,hA3,hr3,hE3⟩:=HQ.out
   have HR3:=Hid.intro hr3
   have y0:wr.cell? ⟨g+1,0,none⟩=some (.bool sp):=(hA3 0 (by omega)).1
   have y1:wr.cell? ⟨g+1,1,none⟩=some (.slice o5 k5 c5):=(hA3 1 (by omega)).1
   have y2:wr.cell? ⟨g+1,2,none⟩=some (.slice o6 k6 c6):=(hA3 2 (by omega)).1
   have z0:wr.cell? ⟨g,0,none⟩=some (.bool false):=(HA.out 0 (by omega)).1
   have z1:wr.cell? ⟨g,1,none⟩=some (.slice none 0 0):=(HA.out 1 (by omega)).1
   have z2:wr.cell? ⟨g,2,none⟩=some (.slice none 0 0):=(HA.out 2 (by omega)).1
   have f0:=(HA.out 0 (by omega)).2
   have f1:=(HA.out 1 (by omega)).2
   have f2:=(HA.out 2 (by omega)).2
   clear hA3 hr3 hE3
   gi_wp2
   refine ret_rat3 rfl rfl g rfl z0 z1 z2 ?_
   refine⟨_,rfl,?_,((HB.out.setCell hgw _).setCell hgw _).setCell hgw _⟩
   rw [HE2.out]at HR3
   exact((HR3.out.setElem HE.out (by decide)).setElem (HE.out.setCell _ _) (by decide)).setElem ((HE.out.setCell _ _).setCell _ _) (by decide)
end Go.Num
namespace Go.Eng
open Go.RowKit
end Go.Eng
namespace Go.Num
open Go.Eng Go.Shelf Go.RowKit Go.Proofs Go.Proofs.YtepakfjilnpodaaGreatDoor
end Go.Num
namespace Go.Eng
open Go.RowKit
def plainG(o:Oper):Bool:=match o.op with | .defer _=>false | .select .. => false|_=>true
section
variable {P:Program} {ops:Array Oper} {p:Plan}
def ordCheckG(l:List Oper)(bars ord:List Nat)(nt:Nat):Bool:=
 match planOf l.toArray with
 | none=>false
 | some p=>ordOk p.bs bars ord && (List.range l.length).all (fun i=>ord.contains i) && ord.all (fun i=>Nat.blt i l.length) && l.all plainG && l.all (fun o=>match o.dst with|some d=>Nat.blt d nt|none=>true)
end
end Go.Eng
namespace Go.Eng
open Go.RowKit Go.Num Go.Proofs Go.Proofs.YtepakfjilnpodaaGreatDoor
end Go.Eng
namespace Go.Num
open Go.Eng Go.Shelf Go.RowKit Go.Sort Go.Proofs Go.Proofs.YtepakfjilnpodaaGreatDoor
end Go.Num
namespace Go.Num
open Go.Eng Go.Shelf Go.RowKit Go.Sort Go.Proofs Go.Proofs.YtepakfjilnpodaaGreatDoor
theorem kept_le{q:Rat}(h:RatLe q 2000):Kept1 q=true:=by
 unfold Kept1 SmallN
 have h1:=nDigits_pow (k:=2000) (by decide) h.1
 have h2:=nDigits_pow (k:=2000) (by decide) h.2
 rw [Bool.and_eq_true]
 refine⟨decide_eq_true (by omega),decide_eq_true ?_⟩
 split
 ·have:=nDigits_9 (show 0<1000000000 by decide);omega
 ·omega
end Go.Num
namespace Go.Num
open Go.Eng Go.Shelf Go.RowKit Go.Sort Go.Proofs Go.Proofs.YtepakfjilnpodaaGreatDoor
end Go.Num
namespace Go.Num
open Go.Eng Go.Shelf Go.RowKit Go.Sort Go.Proofs Go.Proofs.YtepakfjilnpodaaGreatDoor
end Go.Num
namespace Go.Num
open Go.Eng Go.Proofs Go.Proofs.YtepakfjilnpodaaGreatDoor
def fr(a b:Nat):Rat:=((a:Int):Rat)/((b:Int):Rat)
def frOK(a b:Nat):Bool:=Nat.blt (fr a b).num.natAbs 1000 && Nat.blt (fr a b).den 1000
theorem fr_all:((List.range 32).all fun a=>(List.range 32).all fun b=>frOK a b)=true:=by kernel_rfl
theorem fr_small{a b:Nat}(ha:a≤31)(hb:b≤31):(fr a b).num.natAbs<1000∧(fr a b).den<1000:=by
 have h:=List.all_eq_true.1 (List.all_eq_true.1 fr_all a (List.mem_range.2 (by omega))) b (List.mem_range.2 (by omega))
 unfold frOK at h
 rw [Bool.and_eq_true]at h
 exact⟨Nat.le_of_ble_eq_true h.1,Nat.le_of_ble_eq_true h.2⟩
theorem nat_pos{b:Nat}(h:0<b):(0:Rat)<((b:Int):Rat):=Rat.intCast_pos.2 (by omega)
theorem fr_pos{a b:Nat}(ha:0<a)(hb:0<b):0<fr a b:=by
 unfold fr
 rw [Rat.div_def]
 exact Rat.mul_pos (nat_pos ha) (Rat.inv_pos.2 (nat_pos hb))
end Go.Num
namespace Go.Num
open Go.Eng Go.Proofs Go.Proofs.YtepakfjilnpodaaGreatDoor
end Go.Num
namespace Go.Num
open Go.Eng Go.Proofs Go.Proofs.YtepakfjilnpodaaGreatDoor
end Go.Num
namespace Go.Num
open Go.Eng Go.Shelf Go.RowKit Go.Sort Go.Proofs Go.Proofs.YtepakfjilnpodaaGreatDoor
theorem seven_one:((1:Int):Rat)=1:=Rat.ext rfl rfl
end Go.Num
namespace Go.Num
open Go.Eng Go.Shelf Go.RowKit Go.Sort Go.Proofs Go.Proofs.YtepakfjilnpodaaGreatDoor
end Go.Num
