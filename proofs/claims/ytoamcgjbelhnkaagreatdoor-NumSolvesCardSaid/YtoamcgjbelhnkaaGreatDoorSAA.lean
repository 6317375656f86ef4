/-
  An abstract machine for closed runs.
  Conditions: see each statement.
-/
import Derived.RangeFuncLeaves
import Derived.OrdersIn
import Derived.LoopNIn
import Derived.Below
import Derived.RangeFuncCalls
import Derived.Laws.CopyRow
import Derived.ChangeKeysEq
import Derived.Laws.StructEq
theorem ztH{α:Type}{l:List α}:l.toArray.size=l.length:=by simp only [List.size_toArray]
theorem ztI{α:Type}{a:α}{l:List α}:(a::l).length=l.length+1:=by simp only [List.length_cons]
theorem ztJ{α:Type}:([]:List α).length=0:=by simp only [List.length_nil]
theorem ztK{n:Nat}{α:Type}{a:α}:Array.replicate (n+1) a=(Array.replicate n a).push a:=by simp only [Array.replicate_succ]
theorem ztL{α:Type}{a:α}:Array.replicate 0 a=#[]:=by simp only [Array.replicate_zero]
theorem ztM{α:Type}(l:List α)(a:α):l.toArray.push a=(l++[a]).toArray:=by simp only [List.push_toArray]
theorem ztN{α:Type}(l m:List α):l.toArray++m.toArray=(l++m).toArray:=by simp only [List.append_toArray]
theorem ztO{α:Type}(l:List α):[]++l=l:=by simp only [List.nil_append]
theorem ztP{α:Type}{a:α}{l m:List α}:a::l++m=a::(l++m):=by simp only [List.cons_append]
theorem ztQ{α:Type}(l:List α)(i:Nat)(a:α):l.toArray.setIfInBounds i a=(l.set i a).toArray:=by simp only [List.setIfInBounds_toArray]
theorem ztR{α:Type}{x:α}{l:List α}{i:Nat}{a:α}:(x::l).set (i+1) a=x::l.set i a:=by simp only [List.set_cons_succ]
theorem ztS{α:Type}{x:α}{l:List α}{a:α}:(x::l).set 0 a=a::l:=by simp only [List.set_cons_zero]
namespace Go.Eng
inductive Tr(α:Type) where
 | nil
 | node (l:Tr α) (v:Option α) (r:Tr α)
def Tr.get{α:Type}:Tr α→Nat→Option α
 | .nil,_=>none
 | .node l v r,n=>bif Nat.beq n 0 then v else bif Nat.beq (n%2) 1 then l.get (n/2)else r.get (n/2-1)
def Tr.setK{α β:Type}:Nat→Tr α→Nat→Option α→(Tr α→β)→β
 | 0,_,_,_,k=>k .nil
 | f+1,.nil,n,x,k=>
  bif Nat.beq n 0 then k (.node .nil x .nil)
  else bif Nat.beq (n%2) 1 then Tr.setK f .nil (n/2) x fun l=>k (.node l none .nil)
  else Tr.setK f .nil (n/2-1) x fun r=>k (.node .nil none r)
 | f+1,.node l v r,n,x,k=>
  bif Nat.beq n 0 then k (.node l x r)
  else bif Nat.beq (n%2) 1 then Tr.setK f l (n/2) x fun l=>k (.node l v r)
  else Tr.setK f r (n/2-1) x fun r=>k (.node l v r)
inductive Sc where
 | bool (b:Bool)
 | int (k:IntKind) (n:Int)
 | str (s:ByteArray)
 | nilPtr
 | nilSlice
 | nilMap
 | nilFunc
 | nilIface
 | undef
def Sc.val:Sc→Value
 | .bool b => .bool b
 | .int k n => .int k n
 | .str s => .string s
 | .nilPtr => .pointer none
 | .nilSlice => .slice none 0 0
 | .nilMap => .map none
 | .nilFunc => .nilFunc
 | .nilIface => .nilIface
 | .undef => .tuple #[]
def Sc.of:Value→Option Sc
 | .bool b=>some (.bool b)
 | .int k n=>some (.int k n)
 | .string s=>some (.str s)
 | .pointer none=>some .nilPtr
 | .slice none 0 0=>some .nilSlice
 | .map none=>some .nilMap
 | .nilFunc=>some .nilFunc
 | .nilIface=>some .nilIface
 | _=>none
inductive AV where
 | sc (s:Sc)
 | ptr (i o:Nat)
 | slc (i o len cm:Nat) (ex:Bool) (esz:Nat)
 | map (i:Nat)
 | yield (i:Nat)
 | fn (f:FuncId) (fs cs:AV)
 | hc (i k:Nat)
 | hs (i:Nat)
 | iface (t:TypeId) (v:AV)
 | agg (cs:AV)
 | tup (cs:AV)
 | nil
 | cons (h t:AV)
def fN{β:Type}(n:Nat)(k:Nat→β):β:=match n with|0=>k 0|m+1=>k (m+1)
def fI{β:Type}(n:Int)(k:Int→β):β:=match n with | .ofNat m=>fN m fun m=>k (.ofNat m) | .negSucc m=>fN m fun m=>k (.negSucc m)
def fB{β:Type}(b:Bool)(k:Bool→β):β:=match b with|true=>k true|false=>k false
def zoc{β:Type}:List UInt8→(List UInt8→β)→β
 | [],k=>k []
 | b :: t,k=>fN b.toNat fun n=>zoc t fun t=>k (UInt8.ofNat n :: t)
def Sc.force{β:Type}(s:Sc)(k:Sc→β):β:=
 match s with
 | .bool b=>fB b fun b=>k (.bool b)
 | .int q n=>fI n fun n=>k (.int q n)
 | .str s=>zoc s.data.toList fun l=>k (.str ⟨⟨l⟩⟩)
 | s=>k s
def AV.force{β:Type}:AV→(AV→β)→β
 | .sc s,k=>s.force fun s=>k (.sc s)
 | .ptr i o,k=>fN i fun i=>fN o fun o=>k (.ptr i o)
 | .slc i o len cm ex esz,k=>fN i fun i=>fN o fun o=>fN len fun len=>fN cm fun cm=>fB ex fun ex=>fN esz fun esz=>k (.slc i o len cm ex esz)
 | .map i,k=>fN i fun i=>k (.map i)
 | .yield i,k=>fN i fun i=>k (.yield i)
 | .fn f fs cs,k=>fs.force fun fs=>cs.force fun cs=>k (.fn f fs cs)
 | .hc i j,k=>fN i fun i=>fN j fun j=>k (.hc i j)
 | .hs i,k=>fN i fun i=>k (.hs i)
 | .iface t v,k=>v.force fun v=>k (.iface t v)
 | .agg cs,k=>cs.force fun cs=>k (.agg cs)
 | .tup cs,k=>cs.force fun cs=>k (.tup cs)
 | .nil,k=>k .nil
 | .cons h t,k=>h.force fun h=>t.force fun t=>k (.cons h t)
def AV.nth:AV→Nat→Option AV
 | .cons h _,0=>some h
 | .cons _ t,n+1=>t.nth n
 | _,_=>none
def AV.len:AV→Nat
 | .cons _ t=>t.len+1
 | _=>0
def AV.app:AV→AV→AV
 | .cons h t,u => .cons h (t.app u)
 | _,u=>u
def AV.take:AV→Nat→AV
 | .cons h t,n+1 => .cons h (t.take n)
 | _,_ => .nil
def AV.drop:AV→Nat→AV
 | t,0=>t
 | .cons _ t,n+1=>t.drop n
 | _,_ => .nil
def AV.put:AV→Nat→AV→Option AV
 | t,0,.cons x xs=>match t with
  | .cons _ r=>(r.put 0 xs).map (.cons x)
  | _=>none
 | t,0,_=>some t
 | .cons h t,n+1,xs=>(t.put n xs).map (.cons h)
 | _,_+1,_=>none
def AV.rep:Nat→AV→AV
 | 0,_ => .nil
 | n+1,z=>z.app (AV.rep n z)
def AV.isList:AV→Bool
 | .nil=>true
 | .cons _ t=>t.isList
 | _=>false
def AV.allOne:AV→Bool
 | .nil=>true
 | .cons h t=>(match h with | .agg _ | .tup _ | .nil | .cons _ _ | .sc .undef=>false|_=>true) && t.allOne
 | _=>false
def AV.cells:AV→AV
 | .agg cs=>cs
 | v => .cons v .nil
def beqK(a b:IntKind):Bool:=
 match a,b with
 | .i8,.i8 | .i16,.i16 | .i32,.i32 | .i64,.i64 | .u8,.u8 | .u16,.u16 | .u32,.u32 | .u64,.u64=>true
 | _,_=>false
def beqI(a b:Int):Bool:=
 match a,b with
 | .ofNat m,.ofNat n=>Nat.beq m n
 | .negSucc m,.negSucc n=>Nat.beq m n
 | _,_=>false
def zc8:List UInt8→List UInt8→Bool
 | [],[]=>true
 | a :: s,b :: t=>Nat.beq a.toNat b.toNat && zc8 s t
 | _,_=>false
def beqB(a b:Bool):Bool:=match a,b with|true,true|false,false=>true|_,_=>false
def Sc.beq:Sc→Sc→Bool
 | .bool a,.bool b=>beqB a b
 | .int j a,.int k b=>beqK j k && beqI a b
 | .str a,.str b=>zc8 a.data.toList b.data.toList
 | .nilPtr,.nilPtr | .nilSlice,.nilSlice | .nilMap,.nilMap | .nilFunc,.nilFunc | .nilIface,.nilIface | .undef,.undef=>true
 | _,_=>false
def AV.beq:AV→AV→Bool
 | .sc a,.sc b=>a.beq b
 | .ptr i o,.ptr j p=>Nat.beq i j && Nat.beq o p
 | .slc i o l c e s,.slc i' o' l' c' e' s'=>Nat.beq i i' && Nat.beq o o' && Nat.beq l l' && Nat.beq c c' && beqB e e' && Nat.beq s s'
 | .map i,.map j=>Nat.beq i j
 | .yield i,.yield j=>Nat.beq i j
 | .fn f a b,.fn g c d=>Nat.beq f g && a.beq c && b.beq d
 | .hc i a,.hc j b=>Nat.beq i j && Nat.beq a b
 | .hs i,.hs j=>Nat.beq i j
 | .iface t a,.iface u b=>Nat.beq t u && a.beq b
 | .agg a,.agg b=>a.beq b
 | .tup a,.tup b=>a.beq b
 | .nil,.nil=>true
 | .cons a b,.cons c d=>a.beq c && b.beq d
 | _,_=>false
def zhB:List Value→Option AV
 | []=>some .nil
 | v :: r=>match Sc.of v,zhB r with
  | some s,some t=>some (.cons (.sc s) t)
  | _,_=>none
def AV.ofVal(v:Value):Option AV:=
 match v with
 | .agg cs=>(zhB cs.toList).map .agg
 | .tuple cs=>match cs.toList with | []=>some (.sc .undef)|_=>none
 | v=>(Sc.of v).map .sc
def zcW:AV→Option (List Value)
 | .nil=>some []
 | .cons (.sc s) t=>(zcW t).map (s.val :: ·)
 | _=>none
def AV.closed:AV→Option Value
 | .sc s=>some s.val
 | .agg cs=>(zcW cs).map fun l => .agg l.toArray
 | _=>none
inductive Tg where
 | leaf (n:Nat)
 | un (k:Nat) (a:Tg)
 | bin (k:Nat) (a b:Tg)
def Tg.beq:Tg→Tg→Bool
 | .leaf m,.leaf n=>Nat.beq m n
 | .un j a,.un k b=>Nat.beq j k && a.beq b
 | .bin j a b,.bin k c d=>Nat.beq j k && a.beq c && b.beq d
 | _,_=>false
inductive AObj where
 | opq (t:Tg)
 | cells (fam ver:Nat) (elem:TypeId) (cs:AV)
 | map (kt:TypeId) (es:AV)
 | loop (st:LoopState) (pend:Option Code) (fn:FuncId) (nt:Nat) (tmps:Tr AV) (params:List Tmp) (assign body:Code) (defers:Nat)
 | defd (isOpen:Bool)
structure AH where
 res:List TypeId
 next:Nat
 objs:Tr AObj
 fams:Tr (Nat × Nat)
abbrev deep:Nat:=64
def AH.withObj{β:Type}(H:AH)(i:Nat)(o:AObj)(k:AH→β):β:=
 Tr.setK deep H.objs i (some o) fun objs=>k {res:=H.res,next:=H.next,objs,fams:=H.fams}
def AH.newCells{β:Type}(H:AH)(elem:TypeId)(cs:AV)(k:Nat→AH→β):β:=
 cs.force fun cs=>fN H.next fun i=>fN (i+1) fun i'=>
  Tr.setK deep H.objs i (some (.cells i 0 elem cs)) fun objs=>Tr.setK deep H.fams i (some (i,0)) fun fams=>k i {res:=H.res,next:=i',objs,fams}
def AH.newObj{β:Type}(H:AH)(o:AObj)(k:Nat→AH→β):β:=
 fN H.next fun i=>fN (i+1) fun i'=>Tr.setK deep H.objs i (some o) fun objs=>k i {res:=H.res,next:=i',objs,fams:=H.fams}
def AH.live(H:AH)(i:Nat):Option (Nat × Nat × TypeId × AV):=
 match H.objs.get i with
 | some (.cells fam ver elem cs)=>match H.fams.get fam with
  | some (_,lw)=>bif Nat.ble lw ver then some (fam,ver,elem,cs)else none
  | none=>none
 | _=>none
def AH.cellsAt(H:AH)(i o n:Nat):Option AV:=
 match H.live i with
 | some (_,_,_,cs)=>let r:=(cs.drop o).take n;bif Nat.beq r.len n then some r else none
 | none=>none
def AH.storeCells{β:Type}(H:AH)(i o:Nat)(xs:AV)(k:AH→Option β):Option β:=
 match H.objs.get i with
 | some (.cells fam ver elem cs)=>match H.fams.get fam with
  | some (tip,lw)=>
   bif Nat.beq tip i && Nat.ble lw ver && xs.allOne then
    match cs.put o xs with
    | some cs=>cs.force fun cs=>Tr.setK deep H.objs i (some (.cells fam ver elem cs)) fun objs=>
      Tr.setK deep H.fams fam (some (tip,ver)) fun fams=>k {res:=H.res,next:=H.next,objs,fams}
    | none=>none
   else none
  | none=>none
 | _=>none
def AH.version{β:Type}(H:AH)(i:Nat)(xs:AV)(k:Nat→AH→Option β):Option β:=
 match H.objs.get i with
 | some (.cells fam ver elem cs)=>match H.fams.get fam with
  | some (tip,lw)=>
   bif Nat.beq tip i && Nat.ble lw ver && xs.allOne then
    (cs.app xs).force fun cs=>fN H.next fun j=>fN (j+1) fun j'=>fN (ver+1) fun ver'=>
     Tr.setK deep H.objs j (some (.cells fam ver' elem cs)) fun objs=>Tr.setK deep H.fams fam (some (j,lw)) fun fams=>k j {res:=H.res,next:=j',objs,fams}
   else none
  | none=>none
 | _=>none
def pure?{α:Type}(P:Program):Sem α→Option α
 | .pure a=>some a
 | .program k=>pure? P (k P)
 | _=>none
abbrev Env:=Operand→Option AV
def ziv:AV→Option Nat
 | .sc (.int _ (.ofNat n))=>some n
 | _=>none
def zb2(place:Nat→Option (Nat × Nat))(ρ:Env):AV→List (Nat × Operand)→Option AV
 | cells,[]=>some cells
 | cells,(i,x) :: r=>match place i,ρ x with
  | some (off,n),some v=>bif Nat.beq v.cells.len n then match cells.put off v.cells with
    | some cells=>zb2 place ρ cells r
    | none=>none
   else none
  | _,_=>none
def zfG(P:Program)(t:TypeId):Option AV:=match P.info? t with|some i=>(match i.zero with|some z=>AV.ofVal z|none=>none)|none=>none
def zdH(P:Program)(t:TypeId):Option Nat:=match P.info? t with|some i=>some i.size|none=>none
def aggT(P:Program)(t:TypeId):Option Bool:=match P.underlying t with|some (.struct _)|some (.array _ _)=>some true|some _=>some false|none=>none
abbrev Res(β:Type):=(AV→AH→Option β)→Option β
def ok{β:Type}(v:AV)(H:AH):Res β:=fun k=>v.force fun v=>k v H
def zcI(k:IntKind):AV→Bool
 | .nil=>true
 | .cons (.sc (.int k' _)) t=>beqK k k' && zcI k t
 | _=>false
def zaZ(P:Program)(t:TypeId)(v:AV):Bool:=
 match P.underlying t,v with
 | some (.int k),.sc (.int k' _)=>beqK k k'
 | some .string,.sc (.str _)=>true
 | some .bool,.sc (.bool _)=>true
 | some (.array n e),.agg cs=>match P.underlying e,zdH P e with
  | some (.int k),some 1=>Nat.beq cs.len n && zcI k cs
  | _,_=>false
 | _,_=>false
def zlR(k:AV):AV→Option AV
 | .cons (.cons k' v) r=>bif k.beq k' then some v else zlR k r
 | _=>none
def updE(k v:AV):AV→AV
 | .cons (.cons k' v') r=>bif k.beq k' then .cons (.cons k' v) r else .cons (.cons k' v') (updE k v r)
 | _ => .cons (.cons k v) .nil
def zfQ(P:Program)(s:Sem Value):Option AV:=
 match pure? P s with
 | some v=>(Sc.of v).map .sc
 | none=>none
def zqi(P:Program)(t:TypeId)(x y:AV):Option Bool:=
 match P.underlying t,x,y with
 | some (.pointer _),.sc .nilPtr,.sc .nilPtr=>some true
 | some (.pointer _),.ptr _ _,.sc .nilPtr=>some false
 | some (.pointer _),.sc .nilPtr,.ptr _ _=>some false
 | some (.slice _),.sc .nilSlice,.sc .nilSlice=>some true
 | some (.slice _),.slc ..,.sc .nilSlice=>some false
 | some (.map _ _),.sc .nilMap,.sc .nilMap=>some true
 | some (.map _ _),.map _,.sc .nilMap=>some false
 | some (.func _ _ _),.sc .nilFunc,.sc .nilFunc=>some true
 | some (.func _ _ _),.fn ..,.sc .nilFunc=>some false
 | _,_,_=>none
def binV(P:Program)(op:BinOp)(t:TypeId)(x y:AV):Option AV:=
 match x,y with
 | .sc (.int j a),.sc (.int l b)=>zfQ P (binOp op t (.int j a) (.int l b))
 | .sc (.bool a),.sc (.bool b)=>zfQ P (binOp op t (.bool a) (.bool b))
 | .sc (.str a),.sc (.str b)=>zfQ P (binOp op t (.string a) (.string b))
 | .agg a,.agg b=>
  bif zaZ P t (.agg a) && zaZ P t (.agg b) && !P.eqGuardType P.depth t then
   match op with
   | .eql=>some (.sc (.bool (a.beq b)))
   | .neq=>some (.sc (.bool (!a.beq b)))
   | _=>none
  else none
 | .hs i,.hs j=>bif Nat.beq i j then
   match P.underlying t,op with
   | some .string,.eql=>some (.sc (.bool true))
   | some .string,.neq=>some (.sc (.bool false))
   | _,_=>none
  else none
 | x,y=>match op,zqi P t x y with
  | .eql,some b=>some (.sc (.bool b))
  | .neq,some b=>some (.sc (.bool (!b)))
  | _,_=>none
def zsr(H:AH)(esz:Nat):AV→Option (Nat × AV)
 | .sc .nilSlice=>some (0,.nil)
 | .slc i o len _ _ _=>match H.cellsAt i o (len*esz)with|some cs=>some (len,cs)|none=>none
 | _=>none
def zj7{β:Type}(P:Program)(ts:Array TypeId)(s x:AV)(H:AH):Res β:=fun k=>
 match ts.toList with
 | [t,u]=>match P.underlying t,P.underlying u with
  | some (.slice e),some (.slice _)=>match P.info? e,zfG P e with
   | some inf,some z=>
    let esz:=inf.size
    bif Nat.beq esz 0 || !Nat.beq z.cells.len esz || H.res.contains e then none else
    match zsr H esz x with
    | none=>none
    | some (n,xs)=>
     match s with
     | .sc .nilSlice=>
      bif Nat.beq n 0 then ok s H k
      else bif Nat.ble (4*(n+1)*(inf.bytes+1)) 1000000000 then
       H.newCells e xs fun j H=>ok (.slc j 0 n n false esz) H k
      else none
     | .slc i o len cm ex esz'=>
      bif Nat.beq esz esz' then
       bif Nat.beq n 0 then ok s H k
       else bif Nat.ble (len+n) cm then
        H.storeCells i (o+len*esz) xs fun H=>ok (.slc i o (len+n) cm ex esz) H k
       else bif Nat.ble (4*(len+n+1)*(inf.bytes+1)) 1000000000 then
        bif ex then
         match H.cellsAt i o (len*esz)with
         | some old=>H.newCells e (old.app xs) fun j H=>ok (.slc j 0 (len+n) (len+n) false esz) H k
         | none=>none
        else match H.live i with
         | some (_,_,_,cs)=>
          bif Nat.beq (o+len*esz) cs.len && Nat.beq o 0 then
           H.version i xs fun j H=>ok (.slc j o (len+n) (len+n) false esz) H k
          else none
         | none=>none
       else none
      else none
     | _=>none
   | _,_=>none
  | _,_=>none
 | _=>none
def zdX(b:Option (Option AV))(d:Nat):Option Nat:=
 match b with
 | none=>some d
 | some (some v)=>ziv v
 | some none=>none
def zpI(P:Program)(H:AH)(t:TypeId)(x:AV)(lo hi mx:Option (Option AV)):Option AV:=
 match P.underlying t,x with
 | some (.slice e),.slc i o len cm ex esz=>match zdH P e,zdX lo 0,zdX hi len,mx with
  | some sz,some l,some h,none=>
   bif Nat.beq sz esz && Nat.ble l h && Nat.ble h cm && Nat.blt l cm then some (.slc i (o+l*esz) (h-l) (cm-l) ex esz)
   else bif Nat.beq sz esz && Nat.beq l 0 && Nat.beq h 0 && Nat.beq cm 0 && ex then some (.slc i o 0 0 ex esz)
   else none
  | some sz,some l,some h,some mx=>match hi,zdX (some mx) 0 with
   | some _,some m=>bif Nat.beq sz esz && Nat.ble l h && Nat.ble h m && Nat.ble m cm then
     bif Nat.beq m l then some (.slc i o (h-l) (m-l) true esz)else some (.slc i (o+l*esz) (h-l) (m-l) true esz)
    else none
   | _,_=>none
  | _,_,_,_=>none
 | some (.slice e),.sc .nilSlice=>match zdH P e,zdX lo 0,zdX hi 0,mx with
  | some _,some 0,some 0,none=>some (.sc .nilSlice)
  | some _,some 0,some 0,some mx=>match hi,zdX (some mx) 0 with|some _,some 0=>some (.sc .nilSlice)|_,_=>none
  | _,_,_,_=>none
 | some (.array n e),.ptr i o=>match zdH P e,zdX lo 0,zdX hi n,mx with
  | some esz,some l,some h,none=>match H.live i with
   | some (_,_,_,cs)=>bif Nat.ble l h && Nat.ble h n && Nat.blt l n && Nat.ble (o+n*esz) cs.len then some (.slc i (o+l*esz) (h-l) (n-l) true esz)else none
   | none=>none
  | _,_,_,_=>none
 | some .string,.sc (.str s)=>match zdX lo 0,zdX hi s.size,mx with
  | some l,some h,none=>bif Nat.ble l h && Nat.ble h s.size then some (.sc (.str (s.extract l h)))else none
  | _,_,_=>none
 | _,_=>none
def znP(P:Program)(t:TypeId)(cs:AV)(off:Nat):Option AV:=
 match aggT P t,zdH P t with
 | some true,some n=>let r:=(cs.drop off).take n;bif Nat.beq r.len n then some (.agg r)else none
 | some false,some _=>cs.nth off
 | _,_=>none
def znh(ρ:Env):List Operand→Option AV
 | []=>some .nil
 | x :: r=>match ρ x,znh ρ r with
  | some v,some t=>some (.cons v t)
  | _,_=>none
def lenV(P:Program)(H:AH)(t:TypeId)(v:AV):Option AV:=
 match P.underlying t,v with
 | some (.slice _),.slc _ _ len _ _ _=>some (.sc (.int .i64 (.ofNat len)))
 | some (.slice _),.sc .nilSlice=>some (.sc (.int .i64 0))
 | some .string,.sc (.str s)=>some (.sc (.int .i64 (.ofNat s.size)))
 | some (.array n _),_=>some (.sc (.int .i64 (.ofNat n)))
 | some (.map _ _),.sc .nilMap=>some (.sc (.int .i64 0))
 | some (.map _ _),.map i=>match H.objs.get i with|some (.map _ es)=>some (.sc (.int .i64 (.ofNat es.len)))|_=>none
 | _,_=>none
def zhW(H:AH)(kt:TypeId):AV→Option AV
 | .sc .nilMap=>some .nil
 | .map i=>match H.objs.get i with|some (.map kt' es)=>bif Nat.beq kt kt' then some es else none|_=>none
 | _=>none
def zaW(P:Program)(ρ:Env)(op:Op)(H:AH):Option AV:=
 match op with
 | .move x | .assign x=>ρ x
 | .pick c a b=>match ρ c with
  | some (.sc (.bool true))=>ρ a
  | some (.sc (.bool false))=>ρ b
  | _=>none
 | .load t a=>match ρ a,aggT P t,zdH P t with
  | some (.ptr i off),some true,some n=>(H.cellsAt i off n).map .agg
  | some (.ptr i off),some false,some _=>match H.cellsAt i off 1 with|some (.cons v _)=>some v|_=>none
  | _,_,_=>none
 | .nilCheck x=>match ρ x with
  | some (.ptr i off)=>some (.ptr i off)
  | some (.fn f a b)=>some (.fn f a b)
  | _=>none
 | .binOp op t x y _=>match ρ x,ρ y with
  | some a,some b=>binV P op t a b
  | _,_=>none
 | .unOp op _ x=>match ρ x with
  | some (.sc s)=>zfQ P (Op.unary op s.val)
  | _=>none
 | .convert s d x=>match ρ x with
  | some (.sc (.int j n))=>zfQ P (convert s d (.int j n))
  | _=>none
 | .makeInterface t x=>match ρ x,P.underlying t with
  | some _,some (.interface _)=>none
  | some v,some _=>some (.iface t v)
  | _,_=>none
 | .makeFunc (.func f) fs cs=>match znh ρ fs.toList,znh ρ cs.toList with
  | some a,some b=>some (.fn f a b)
  | _,_=>none
 | .build t zdk=>match zfG P t,P.underlying t with
  | some (.agg z),some (.struct fields)=>match fields.toList.mapM (fun f=>(P.info? f.type).map fun i=>(f.offset,i.size))with
   | some places=>(zb2 (fun i=>places.toArray[i]?) ρ z zdk.toList).map .agg
   | none=>none
  | some (.agg z),some (.array _ e)=>match zdH P e with
   | some n=>(zb2 (fun i=>some (i*n,n)) ρ z zdk.toList).map .agg
   | none=>none
  | _,_=>none
 | .slice t x lo hi mx=>match ρ x with
  | some v=>zpI P H t v (lo.map ρ) (hi.map ρ) (mx.map ρ)
  | none=>none
 | .fieldAddr s x f=>match ρ x,P.underlying s with
  | some (.ptr i off),some (.struct fields)=>match fields[f]? with
   | some fd=>match zdH P fd.type with
    | some n=>bif Nat.beq n 0 then none else some (.ptr i (off+fd.offset))
    | none=>none
   | none=>none
  | _,_=>none
 | .field s x f=>match ρ x,P.underlying s with
  | some (.agg cs),some (.struct fields)=>match fields[f]? with
   | some fd=>znP P fd.type cs fd.offset
   | none=>none
  | _,_=>none
 | .indexAddr t x ix=>match ρ x,ρ ix,P.underlying t with
  | some (.ptr i off),some ix,some (.array n e)=>match ziv ix,zdH P e with
   | some j,some sz=>bif Nat.blt j n then some (.ptr i (off+j*sz))else none
   | _,_=>none
  | some (.slc i off len _ _ esz),some ix,some (.slice e)=>match ziv ix,zdH P e with
   | some j,some sz=>bif Nat.blt j len && Nat.beq sz esz then some (.ptr i (off+j*sz))else none
   | _,_=>none
  | _,_,_=>none
 | .index t x ix=>match ρ x,ρ ix,P.underlying t with
  | some (.agg cs),some ix,some (.array n e)=>match ziv ix,zdH P e with
   | some j,some sz=>bif Nat.blt j n then znP P e cs (j*sz)else none
   | _,_=>none
  | some (.sc (.str s)),some ix,some .string=>match ziv ix with
   | some j=>match s.data.toList[j]? with
    | some b=>some (.sc (.int .u8 (.ofNat b.toNat)))
    | none=>none
   | none=>none
  | _,_,_=>none
 | .lookup t m x okk=>match ρ m,ρ x,P.underlying t with
  | some m,some key,some (.map kt et)=>bif zaZ P kt key then
    match zhW H kt m,zfG P et with
    | some es,some z=>match zlR key es with
     | some v=>bif okk then some (.tup (.cons v (.cons (.sc (.bool true)) .nil)))else some v
     | none=>bif okk then some (.tup (.cons z (.cons (.sc (.bool false)) .nil)))else some z
    | _,_=>none
   else none
  | _,_,_=>none
 | .extract x ix=>match ρ x with
  | some (.tup cs)=>cs.nth ix
  | _=>none
 | .call {callee:=.builtin b,args,argTypes}=>match b,args.toList with
  | .len,[x]=>match argTypes.toList,ρ x with
   | [t],some v=>lenV P H t v
   | _,_=>none
  | .min,[x,y]=>match ρ x,ρ y with|some (.sc (.int j a)),some (.sc (.int l b))=>zfQ P (Builtin.min2 (.int j a) (.int l b))|_,_=>none
  | .max,[x,y]=>match ρ x,ρ y with|some (.sc (.int j a)),some (.sc (.int l b))=>zfQ P (Builtin.max2 (.int j a) (.int l b))|_,_=>none
  | _,_=>none
 | _=>none
inductive Mk where
 | cells (e:TypeId) (cs:AV)
 | map (kt:TypeId)
def Mk.bad(R:List TypeId):Mk→Bool
 | .cells e _=>R.contains e
 | .map _=>false
def zcH(P:Program)(ρ:Env)(op:Op):Option (Mk × (Nat→AV)):=
 match op with
 | .alloc e=>(zfG P e).map fun z=>(.cells e z.cells,fun i => .ptr i 0)
 | .box e x=>(ρ x).map fun v=>(.cells e v.cells,fun i => .ptr i 0)
 | .buildSlice t len zdk=>match P.underlying t with
  | some (.slice e)=>match zfG P e,zdH P e with
   | some z,some n=>bif Nat.beq n 0 || Nat.ble 1000000 (len*n) || !Nat.beq z.cells.len n then none
    else(zb2 (fun i=>some (i*n,n)) ρ (AV.rep len z.cells) zdk.toList).map fun cs=>(.cells e cs,fun i => .slc i 0 len len true n)
   | _,_=>none
  | _=>none
 | .makeSlice t l c=>match P.underlying t,ρ l,ρ c with
  | some (.slice e),some l,some c=>match zfG P e,P.info? e,ziv l,ziv c with
   | some z,some inf,some len,some cap=>
    bif Nat.beq inf.size 0 || Nat.ble 1000000000 ((cap+1)*(inf.bytes+1)) || Nat.blt cap len || !Nat.beq z.cells.len inf.size then none
    else some (.cells e (AV.rep cap z.cells),fun i => .slc i 0 len cap true inf.size)
   | _,_,_,_=>none
  | _,_,_=>none
 | .makeMap t none=>match P.underlying t with
  | some (.map kt _)=>some (.map kt,fun i => .map i)
  | _=>none
 | _=>none
def zkA{β:Type}(P:Program)(ρ:Env)(op:Op)(H:AH):Res β:=fun k=>
 match op with
 | .store t a x=>match ρ a,ρ x,zdH P t with
  | some (.ptr i off),some v,some n=>
   bif Nat.beq v.cells.len n then H.storeCells i off v.cells fun H=>k (.sc .undef) H else none
  | _,_,_=>none
 | .mapUpdate t m x v | .insert t m x v=>match ρ m,ρ x,ρ v,P.underlying t with
  | some (.map i),some key,some v,some (.map kt _)=>bif zaZ P kt key then
    match H.objs.get i with
    | some (.map kt' es)=>bif Nat.beq kt kt' then(updE key v es).force fun es=>H.withObj i (.map kt es) fun H=>k (.sc .undef) H else none
    | _=>none
   else none
  | _,_,_,_=>none
 | .call {callee:=.builtin .append,args,argTypes}=>match args.toList with
  | [s,x]=>match ρ s,ρ x with|some s,some x=>zj7 P argTypes s x H k|_,_=>none
  | _=>none
 | _=>none
def zkq:Op→Bool
 | .alloc _ | .box .. | .buildSlice .. | .makeSlice .. | .makeMap .. => true
 | _=>false
def zmR:Op→Bool
 | .store .. | .mapUpdate .. | .entryStore .. | .insert .. => true
 | .call {callee:=.builtin .append,..}=>true
 | .call {callee:=.builtin .len,..} | .call {callee:=.builtin .min,..} | .call {callee:=.builtin .max,..}=>false
 | .call _=>true
 | _=>false
def zp7:Op→Bool
 | .move _ | .assign _ | .pick .. | .extract .. | .nilCheck _=>true
 | _=>false
def opOf{β:Type}(P:Program)(ρ:Env)(o:Oper)(H:AH):Res β:=fun k=>
 bif zmR o.op then zkA P ρ o.op H k
 else bif zkq o.op then
  match zcH P ρ o.op with
  | some (.cells e cs,f)=>bif H.res.contains e then none else H.newCells e cs fun i H=>k (f i) H
  | some (.map kt,f)=>H.newObj (.map kt .nil) fun i H=>k (f i) H
  | none=>none
 else match zaW P ρ o.op H with
  | some v=>bif zp7 o.op then k v H else ok v H k
  | none=>none
inductive Mark where
 | loop (i:Nat)
 | still
structure Act where
 T:Tr AV
 nt:Nat
 ds:List Mark
def Act.env(G:List Nat)(a:Act):Env
 | .tmp t=>a.T.get t
 | .const v=>AV.ofVal v
 | .global g=>bif G.contains g then some (.ptr g 0)else none
 | .func f=>some (.fn f .nil .nil)
def Act.put{β:Type}(a:Act)(dst:Option Tmp)(v:AV)(k:Act→Option β):Option β:=
 match dst with
 | none=>k a
 | some d=>bif Nat.blt d a.nt then Tr.setK deep a.T d (some v) fun T=>k {T,nt:=a.nt,ds:=a.ds}else none
inductive AX where
 | normal
 | exit (id:Nat)
 | goto (l:Nat)
 | ret
structure Cb where
 code:Option Nat→FuncId→Code→Act→AH→Option (AX × Act × AH)
 call:FuncId→AV→AH→Option (AV × AH)
 round:Nat→AV→AH→Option (AV × AH)
 still:FuncId→Bool
def zmi(ops:Array Oper)(a:Act)(o:Oper):Option Bool:=
 match o.guard with
 | none=>some true
 | some (j,want)=>match (ops[j]?).bind (·.dst)with
  | none=>some false
  | some d=>match a.T.get d with
   | some (.sc (.bool b))=>some (beqB b want)
   | some (.sc .undef)=>some false
   | _=>none
def zrm{β:Type}(P:Program)(self:Cb)(ρ:Env)(o:Oper)(H:AH):Res β:=fun k=>
 match o.op with
 | .call {callee:=.value f,args,..}=>
  match ρ f,znh ρ args.toList with
  | some (.fn g fs cs),some xs=>(match self.call g (fs.app (xs.app cs)) H with|some (v,H)=>ok v H k|none=>none)
  | some (.yield l),some xs=>(match self.round l xs H with|some (v,H)=>ok v H k|none=>none)
  | _,_=>none
 | _=>opOf P ρ o H k
def defers(self:Cb)(ρ:Env)(op:Op):Bool:=
 match op with
 | .defer {callee:=.value f,args,..}=>match ρ f with
  | some (.fn g _ _)=>Nat.beq args.size 0 && self.still g
  | _=>false
 | _=>false
def zho(P:Program)(G:List Nat)(self:Cb)(top:Bool)(ops:Array Oper):List Nat→Act→AH→Option (Act × AH)
 | [],a,H=>some (a,H)
 | i :: r,a,H=>match ops[i]? with
  | none=>none
  | some o=>match zmi ops a o with
   | some true=>
    bif top && defers self (a.env G) o.op then a.put o.dst (.sc .undef) fun a=>zho P G self top ops r {T:=a.T,nt:=a.nt,ds:=.still :: a.ds} H
    else zrm P self (a.env G) o H fun v H=>a.put o.dst v fun a=>zho P G self top ops r a H
   | some false=>a.put o.dst (.sc .undef) fun a=>zho P G self top ops r a H
   | none=>none
def zqp(f:Act→AH→Option (AX × Act × AH)):Nat→Act→AH→Option (AX × Act × AH)
 | 0,_,_=>none
 | m+1,a,H=>match f a H with
  | some (.normal,a,H)=>zqp f m a H
  | r=>r
def zeA{β:Type}(nt:Nat)(T:Tr AV):List Tmp→AV→(Tr AV→Option β)→Option β
 | [],.nil,k=>k T
 | t :: ts,.cons v vs,k=>bif Nat.blt t nt then Tr.setK deep T t (some v) fun T=>zeA nt T ts vs k else none
 | _,_,_=>none
abbrev Vals:=List (Nat × AV × Option Nat)
def getV:Vals→Nat→Option (AV × Option Nat)
 | [],_=>none
 | (j,x) :: r,i=>bif Nat.beq j i then some x else getV r i
def bsAt(bs:List Nat)(i:Nat):Nat:=bs.getD i 0
def zlx(bs:List Nat):List Edge→Nat
 | []=>0
 | e :: r=>bif Region.binds .any e then(2^e.on ||| bsAt bs e.on) ||| zlx bs r else zlx bs r
def zgY:List Oper→List Nat→List Nat
 | [],acc=>acc
 | o :: r,acc=>zgY r (acc ++ [zlx acc o.after.toList])
def zqm(ops:Array Oper)(bs:List Nat)(i:Nat):Bool:=
 match ops[i]? with
 | some o=>Nat.beq (bsAt bs i) (zlx bs o.after.toList) && o.after.toList.all fun e => !Region.binds .any e || Nat.blt e.on i
 | none=>false
def zgI(o:Oper):List Tmp:=o.op.operands.toList.filterMap fun | .tmp t=>some t|_=>none
def zkC(ops:Array Oper)(bs:List Nat)(i j:Nat):Bool:=
 match ops[i]?,ops[j]? with
 | some o,some p=>match p.dst with
  | none=>true
  | some d=>Nat.beq i j || (
    (match o.dst with|some e => !Nat.beq d e|none=>true) &&
    (!(zgI o).contains d || (bsAt bs i).testBit j || (bsAt bs j).testBit i))
 | _,_=>false
def zmU(ops:Array Oper)(bs:List Nat)(i:Nat):Bool:=
 match ops[i]? with
 | some o=>match o.guard with|none=>true|some (j,_)=>(bsAt bs i).testBit j
 | none=>false
def zjx(ops:Array Oper):List Nat:=(List.range ops.size).filter fun i=>match ops[i]? with|some o=>zmR o.op|none=>false
def zfA(bs:List Nat):List Nat→Bool
 | []=>true
 | e :: r=>r.all (fun f=>(bsAt bs f).testBit e) && zfA bs r
structure Plan where
 bs:List Nat
 bars:List Nat
def zi4(ops:Array Oper):Option Plan:=
 let bs:=zgY ops.toList []
 let bars:=zjx ops
 let is:=List.range ops.size
 bif is.all (fun i=>zqm ops bs i && zmU ops bs i && is.all fun j=>zkC ops bs i j) && zfA bs bars then some {bs,bars}else none
def zfm(p:Plan)(i:Nat):Nat:=(p.bars.filter fun e=>(bsAt p.bs i).testBit e).length
def zfH(ops:Array Oper)(mask:Nat)(t:Tmp):Option Nat:=
 (List.range ops.size).find? fun j=>mask.testBit j && (match (ops[j]?).bind (·.dst)with|some d=>Nat.beq d t|none=>false)
def envD(G:List Nat)(ops:Array Oper)(mask:Nat)(T:Tr AV)(vals:Vals):Env
 | .tmp t=>match zfH ops mask t with
  | some j=>(getV vals j).map (·.1)
  | none=>T.get t
 | .const v=>AV.ofVal v
 | .global g=>bif G.contains g then some (.ptr g 0)else none
 | .func f=>some (.fn f .nil .nil)
def zhb(ops:Array Oper)(vals:Vals)(o:Oper):Option Bool:=
 match o.guard with
 | none=>some true
 | some (j,want)=>match (ops[j]?).bind (·.dst)with
  | none=>some false
  | some _=>match getV vals j with
   | some (.sc (.bool b),_)=>some (beqB b want)
   | some (.sc .undef,_)=>some false
   | _=>none
def zhj(H:AH)(i:Nat):Mk→Bool
 | .cells e cs=>match H.objs.get i with
  | some (.cells fam ver e' cs')=>Nat.beq fam i && Nat.beq ver 0 && Nat.beq e e' && cs'.beq cs
  | _=>false
 | .map kt=>match H.objs.get i with
  | some (.map kt' es)=>Nat.beq kt kt' && es.beq .nil
  | _=>false
def zq8(P:Program)(G:List Nat)(ops:Array Oper)(p:Plan)(T:Tr AV)(vals:Vals)(H:AH)(i:Nat)(o:Oper):Bool:=
 match zhb ops vals o,getV vals i with
 | some false,some (v,none)=>AV.beq v (.sc .undef)
 | some true,some (v,id)=>match zkq o.op,id with
  | true,some id=>(match zcH P (envD G ops (bsAt p.bs i) T vals) o.op with
   | some (m,f)=>(f id).beq v && zhj H id m && Nat.blt id H.next && !m.bad H.res
   | none=>false)
  | false,none=>(match zaW P (envD G ops (bsAt p.bs i) T vals) o.op H with
   | some v'=>v'.beq v
   | none=>false)
  | _,_=>false
 | _,_=>false
def zmt(p:Plan)(prev:Option Nat)(i:Nat):Bool:=match prev with|some e=>(bsAt p.bs e).testBit i|none=>false
def zdc(P:Program)(G:List Nat)(ops:Array Oper)(p:Plan)(T:Tr AV)(vals:Vals)(H:AH)(stage:Nat)(prev:Option Nat):Bool:=
 (List.range ops.size).all fun i=>match ops[i]? with
  | some o=>zmR o.op || Nat.blt stage (zfm p i) || zmt p prev i || zq8 P G ops p T vals H i o
  | none=>false
def zc4(P:Program)(G:List Nat)(ops:Array Oper)(p:Plan)(T:Tr AV)(stage:Nat):List Nat→Vals→AH→Option (Vals × AH)
 | [],vals,H=>some (vals,H)
 | i :: r,vals,H=>match ops[i]? with
  | none=>none
  | some o=>
   bif zmR o.op || !Nat.beq (zfm p i) stage then zc4 P G ops p T stage r vals H
   else bif (getV vals i).isSome then none
   else match zhb ops vals o with
    | some true=>match zkq o.op with
     | true=>(match zcH P (envD G ops (bsAt p.bs i) T vals) o.op with
      | some (.cells e cs,f)=>bif H.res.contains e then none else cs.force fun cs=>H.newCells e cs fun j H=>zc4 P G ops p T stage r ((i,f j,some j) :: vals) H
      | some (.map kt,f)=>H.newObj (.map kt .nil) fun j H=>zc4 P G ops p T stage r ((i,f j,some j) :: vals) H
      | none=>none)
     | false=>(match zaW P (envD G ops (bsAt p.bs i) T vals) o.op H with
      | some v=>v.force fun v=>zc4 P G ops p T stage r ((i,v,none) :: vals) H
      | none=>none)
    | some false=>zc4 P G ops p T stage r ((i,.sc .undef,none) :: vals) H
    | none=>none
def zfa(P:Program)(G:List Nat)(ops:Array Oper)(p:Plan)(T:Tr AV)(stage:Nat)(prev:Option Nat)(vals:Vals)(H:AH):Option (Vals × AH):=
 match zc4 P G ops p T stage (List.range ops.size) vals H with
 | some (vals,H)=>bif zdc P G ops p T vals H stage prev then some (vals,H)else none
 | none=>none
def zeC(P:Program)(G:List Nat)(self:Cb)(ops:Array Oper)(p:Plan)(T:Tr AV):List Nat→Nat→Vals→AH→Option (Vals × AH)
 | [],_,vals,H=>some (vals,H)
 | e :: es,stage,vals,H=>match ops[e]? with
  | none=>none
  | some o=>bif (getV vals e).isSome then none else match zhb ops vals o with
   | some true=>zrm P self (envD G ops (bsAt p.bs e) T vals) o H fun v H=>
     match zfa P G ops p T (stage+1) (some e) ((e,v,none) :: vals) H with
     | some (vals,H)=>zeC P G self ops p T es (stage+1) vals H
     | none=>none
   | some false=>match zfa P G ops p T (stage+1) (some e) ((e,.sc .undef,none) :: vals) H with
     | some (vals,H)=>zeC P G self ops p T es (stage+1) vals H
     | none=>none
   | none=>none
def zfu(ops:Array Oper)(vals:Vals)(nt:Nat):List Nat→Tr AV→Option (Tr AV)
 | [],T=>some T
 | i :: r,T=>match ops[i]? with
  | none=>none
  | some o=>match o.dst,getV vals i with
   | some d,some (v,_)=>bif Nat.blt d nt then Tr.setK deep T d (some v) fun T=>zfu ops vals nt r T else none
   | none,some _=>zfu ops vals nt r T
   | _,none=>none
def zmw(P:Program)(G:List Nat)(self:Cb)(ops:Array Oper)(p:Plan)(a:Act)(H:AH):Option (Act × AH):=
 match zfa P G ops p a.T 0 none [] H with
 | some (vals,H)=>match zeC P G self ops p a.T p.bars 0 vals H with
  | some (vals,H)=>match zfu ops vals a.nt (List.range ops.size) a.T with
   | some T=>some ({T,nt:=a.nt,ds:=a.ds},H)
   | none=>none
  | none=>none
 | none=>none
def zhX(H:AH):List Mark→(AH→Option (AV × AH))→Option (AV × AH)
 | [],k=>k H
 | .still :: rs,k=>zhX H rs k
 | .loop r :: rs,k=>match H.objs.get r with
  | some (.defd true)=>H.withObj r (.defd false) fun H=>zhX H rs k
  | _=>none
def zb0(P:Program)(H:AH)(a:Act):List ResultVar→Option AV
 | []=>some .nil
 | .tmp t :: r=>match a.T.get t,zb0 P H a r with
  | some v,some vs=>some (.cons v vs)
  | _,_=>none
 | .cell t ty :: r=>match a.T.get t with
  | some (.ptr i off)=>match aggT P ty,zdH P ty with
   | some true,some n=>(match H.cellsAt i off n,zb0 P H a r with|some cs,some vs=>some (.cons (.agg cs) vs)|_,_=>none)
   | some false,some _=>(match H.cellsAt i off 1,zb0 P H a r with|some (.cons v _),some vs=>some (.cons v vs)|_,_=>none)
   | _,_=>none
  | _=>none
def zsQ(P:Program)(G:List Nat)(self:Cb)(ro:Option Nat)(fn:FuncId)(c:Code)(a:Act)(H:AH):Option (AX × Act × AH):=
 match c with
 | .skip | .label _=>some (.normal,a,H)
 | .exit id=>some (.exit id,a,H)
 | .goto l=>some (.goto l,a,H)
 | .ret=>some (.ret,a,H)
 | .region _ ops draw=>
  bif draw then match zi4 ops with
   | some p=>(match zmw P G self ops p a H with|some (a,H)=>some (.normal,a,H)|none=>none)
   | none=>none
  else match zho P G self (match ro with|none=>true|some _=>false) ops (List.range ops.size) a H with|some (a,H)=>some (.normal,a,H)|none=>none
 | .seq x y=>match self.code ro fn x a H with
  | some (.normal,a,H)=>self.code ro fn y a H
  | r=>r
 | .cond c x y=>match a.env G c with
  | some (.sc (.bool true))=>self.code ro fn x a H
  | some (.sc (.bool false))=>self.code ro fn y a H
  | _=>none
 | .block id body=>match self.code ro fn body a H with
  | some (.exit id',a,H)=>bif Nat.beq id' id then some (.normal,a,H)else some (.exit id',a,H)
  | r=>r
 | .loop body=>zqp (self.code ro fn body) 1000000 a H
 | .scope body=>match self.code ro fn body a H with
  | some (.goto _,_,_)=>none
  | r=>r
 | .rangeFunc g ps assign body=>match a.env G g,ro with
  | some (.fn f fs cs),none=>
   H.newObj (.defd true) fun r H=>H.newObj (.loop .ready none fn a.nt a.T ps.toList assign body r) fun l H=>
    match self.call f (fs.app (.cons (.yield l) cs)) H with
    | some (_,H)=>match H.objs.get l with
     | some (.loop st pend fn' nt tm ps' zAs bd dd)=>(match st with
      | .busy=>none
      | _=>H.withObj l (.loop .exhausted pend fn' nt tm ps' zAs bd dd) fun H=>
       match pend with
       | none=>some (.normal,{T:=a.T,nt:=a.nt,ds:=.loop r :: a.ds},H)
       | some c=>self.code ro fn c {T:=a.T,nt:=a.nt,ds:=.loop r :: a.ds} H)
     | _=>none
    | none=>none
  | _,_=>none
 | .refuse _=>none
def zsR(P:Program)(self:Cb)(f:FuncId)(args:AV)(H:AH):Option (AV × AH):=
 match P.funcs[f]? with
 | some fn=>match fn.body with
  | some body=>bif Nat.ble args.len fn.ntmps then
    zeA fn.ntmps .nil (List.range args.len) args fun T=>
     match self.code none f body {T,nt:=fn.ntmps,ds:=[]} H with
     | some (x,a,H)=>(match x with
      | .normal | .ret=>zhX H a.ds fun H=>match zb0 P H a fn.results.toList with
       | some (.cons v .nil)=>some (v,H)
       | some vs=>some (.tup vs,H)
       | none=>none
      | _=>none)
     | none=>none
   else none
  | none=>none
 | none=>none
def zpU(self:Cb)(l:Nat)(xs:AV)(H:AH):Option (AV × AH):=
 match H.objs.get l with
 | some (.loop _ _ fn nt tm ps zAs bd _)=>
  zeA nt tm ps xs fun T=>match self.code (some l) fn zAs {T,nt,ds:=[]} H with
   | some (.normal,a,H)=>(match H.objs.get l with
    | some (.loop .ready pend fn nt tm ps zAs bd' dd)=>H.withObj l (.loop .busy pend fn nt tm ps zAs bd' dd) fun H=>
     (match self.code (some l) fn bd a H with
     | some (x,_,H)=>(match H.objs.get l with
      | some (.loop _ _ fn nt tm ps zAs bd dd)=>
       (match x with
       | .normal=>H.withObj l (.loop .ready none fn nt tm ps zAs bd dd) fun H=>some (.sc (.bool true),H)
       | .ret=>H.withObj l (.loop .done (some .ret) fn nt tm ps zAs bd dd) fun H=>some (.sc (.bool false),H)
       | .exit id=>H.withObj l (.loop .done (some (.exit id)) fn nt tm ps zAs bd dd) fun H=>some (.sc (.bool false),H)
       | .goto _=>none)
      | _=>none)
     | none=>none)
    | _=>none)
   | _=>none
 | _=>none
def cb(P:Program)(G:List Nat)(O:FuncId→AV→AH→Option (AV × AH))(D:List FuncId):Nat→Cb
 | 0=>⟨fun _ _ _ _ _=>none,fun _ _ _=>none,fun _ _ _=>none,fun f=>D.contains f⟩
 | n+1=>⟨zsQ P G (cb P G O D n),fun f args H=>match O f args H with|some r=>some r|none=>zsR P (cb P G O D n) f args H,zpU (cb P G O D n),fun f=>D.contains f⟩
end Go.Eng
namespace Go.Eng
open Go.RowKit
def Tr.set{α:Type}:Nat→Tr α→Nat→Option α→Tr α
 | 0,_,_,_ => .nil
 | f+1,.nil,n,x=>
  bif Nat.beq n 0 then .node .nil x .nil
  else bif Nat.beq (n%2) 1 then .node (Tr.set f .nil (n/2) x) none .nil
  else .node .nil none (Tr.set f .nil (n/2-1) x)
 | f+1,.node l v r,n,x=>
  bif Nat.beq n 0 then .node l x r
  else bif Nat.beq (n%2) 1 then .node (Tr.set f l (n/2) x) v r
  else .node l v (Tr.set f r (n/2-1) x)
theorem Tr.setK_eq{α:Type}(f:Nat):∀{β:Type} (t:Tr α) (n:Nat) (x:Option α) (k:Tr α→β),Tr.setK f t n x k=k (Tr.set f t n x):=by
 induction f with
 | zero=>intro β t n x k;rfl
 | succ f ih=>
  intro β t n x k
  cases t <;> simp only [Tr.set,Tr.setK,ih] <;> cases Nat.beq n 0 <;> cases Nat.beq (n%2) 1 <;> rfl
theorem zam(m n:Nat):Nat.beq m n=true↔m=n:=⟨Nat.eq_of_beq_eq_true,fun h=>h ▸ Nat.beq_refl m⟩
theorem beq_false(m n:Nat):Nat.beq m n=false↔m≠n:=by
 have:=zam m n
 cases h:Nat.beq m n <;> simp_all
theorem Tr.get_set{α:Type}(f:Nat):∀(t:Tr α) (n:Nat) (x:Option α) (m:Nat) (v:α),(Tr.set f t n x).get m=some v→(m=n∧x=some v)∨(m≠n∧t.get m=some v):=by
 induction f with
 | zero=>intro t n x m v h;simp [Tr.set,Tr.get]at h
 | succ f ih=>
  intro t n x m v h
  cases t with
  | nil=>
   simp only [Tr.set]at h
   cases hn:Nat.beq n 0 with
   | true=>
    rw [hn]at h;simp only [cond_true,Tr.get]at h;have hn0:=(zam _ _).1 hn
    cases hm:Nat.beq m 0 with
    | true=>rw [hm]at h;have:=(zam _ _).1 hm;left;exact⟨by omega,h⟩
    | false=>rw [hm]at h;cases Nat.beq (m%2) 1 <;> simp at h
   | false=>
    have hn0:=(beq_false _ _).1 hn;rw [hn]at h
    cases hp:Nat.beq (n%2) 1 with
    | true=>
     rw [hp]at h;have hp1:=(zam _ _).1 hp;simp only [cond_true,cond_false,Tr.get]at h
     cases hm:Nat.beq m 0 with
     | true=>rw [hm]at h;simp at h
     | false=>
      have hm0:=(beq_false _ _).1 hm;rw [hm]at h
      cases hq:Nat.beq (m%2) 1 with
      | false=>rw [hq]at h;simp at h
      | true=>
       have hq1:=(zam _ _).1 hq;rw [hq]at h;simp only [cond_true,cond_false]at h;rcases ih _ _ _ _ _ h with⟨h1,h2⟩|⟨_,h2⟩
       ·left;exact⟨by omega,h2⟩
       ·simp [Tr.get]at h2
    | false=>
     rw [hp]at h;have hp1:=(beq_false _ _).1 hp;simp only [cond_false,Tr.get]at h
     cases hm:Nat.beq m 0 with
     | true=>rw [hm]at h;simp at h
     | false=>
      have hm0:=(beq_false _ _).1 hm;rw [hm]at h
      cases hq:Nat.beq (m%2) 1 with
      | true=>rw [hq]at h;simp at h
      | false=>
       have hq1:=(beq_false _ _).1 hq;rw [hq]at h;simp only [cond_false]at h;rcases ih _ _ _ _ _ h with⟨h1,h2⟩|⟨_,h2⟩
       ·left;exact⟨by omega,h2⟩
       ·simp [Tr.get]at h2
  | node l u r=>
   simp only [Tr.set]at h
   cases hn:Nat.beq n 0 with
   | true=>
    rw [hn]at h;simp only [cond_true,Tr.get]at h ⊢;have hn0:=(zam _ _).1 hn
    cases hm:Nat.beq m 0 with
    | true=>rw [hm]at h;have:=(zam _ _).1 hm;left;exact⟨by omega,h⟩
    | false=>rw [hm]at h;have:=(beq_false _ _).1 hm;right;exact⟨by omega,h⟩
   | false=>
    have hn0:=(beq_false _ _).1 hn;rw [hn]at h
    cases hp:Nat.beq (n%2) 1 with
    | true=>
     rw [hp]at h;have hp1:=(zam _ _).1 hp;simp only [cond_true,cond_false,Tr.get]at h ⊢
     cases hm:Nat.beq m 0 with
     | true=>rw [hm]at h;have:=(zam _ _).1 hm;right;exact⟨by omega,h⟩
     | false=>
      have hm0:=(beq_false _ _).1 hm;rw [hm]at h
      cases hq:Nat.beq (m%2) 1 with
      | false=>rw [hq]at h;have:=(beq_false _ _).1 hq;right;exact⟨by omega,h⟩
      | true=>
       have hq1:=(zam _ _).1 hq;rw [hq]at h;simp only [cond_true,cond_false]at h ⊢;rcases ih _ _ _ _ _ h with⟨h1,h2⟩|⟨h1,h2⟩
       ·left;exact⟨by omega,h2⟩
       ·right;exact⟨by omega,h2⟩
    | false=>
     rw [hp]at h;have hp1:=(beq_false _ _).1 hp;simp only [cond_false,Tr.get]at h ⊢
     cases hm:Nat.beq m 0 with
     | true=>rw [hm]at h;have:=(zam _ _).1 hm;right;exact⟨by omega,h⟩
     | false=>
      have hm0:=(beq_false _ _).1 hm;rw [hm]at h
      cases hq:Nat.beq (m%2) 1 with
      | true=>rw [hq]at h;have:=(zam _ _).1 hq;right;exact⟨by omega,h⟩
      | false=>
       have hq1:=(beq_false _ _).1 hq;rw [hq]at h;simp only [cond_false]at h ⊢;rcases ih _ _ _ _ _ h with⟨h1,h2⟩|⟨h1,h2⟩
       ·left;exact⟨by omega,h2⟩
       ·right;exact⟨by omega,h2⟩
@[simp] theorem fN_eq {β:Type} (n:Nat) (k:Nat→β):fN n k=k n:=by cases n <;> rfl
@[simp] theorem fI_eq {β:Type} (n:Int) (k:Int→β):fI n k=k n:=by cases n <;> simp [fI]
@[simp] theorem fB_eq {β:Type} (b:Bool) (k:Bool→β):fB b k=k b:=by cases b <;> rfl
@[simp] theorem fBytes_eq {β:Type} (l:List UInt8):∀(k:List UInt8→β),zoc l k=k l:=by
 induction l with
 | nil=>intro k;rfl
 | cons b t ih=>intro k;simp [zoc,ih]
@[simp] theorem Sc.force_eq {β:Type} (s:Sc) (k:Sc→β):s.force k=k s:=by
 cases s <;> simp [Sc.force]
@[simp] theorem AV.force_eq {β:Type} (v:AV):∀(k:AV→β),v.force k=k v:=by
 induction v <;> intro k <;> simp_all [AV.force]
structure Mu where
 blk:Nat→Option (Nat × Nat)
 hd:Nat→Option Value
instance:CoeFun Mu (fun _=>Nat→Option (Nat × Nat)):=⟨Mu.blk⟩
structure Mu.le(μ ν:Mu):Prop where
 of:∀i l,μ i=some l→ν i=some l
 hd:∀i v,μ.hd i=some v→ν.hd i=some v
instance {μ ν:Mu}:CoeFun (μ.le ν) (fun _=>∀i l,μ i=some l→ν i=some l):=⟨Mu.le.of⟩
theorem Mu.le.refl(μ:Mu):μ.le μ:=⟨fun _ _ h=>h,fun _ _ h=>h⟩
theorem Mu.le.trans{μ ν ξ:Mu}(h:μ.le ν)(k:ν.le ξ):μ.le ξ:=⟨fun i l e=>k i l (h i l e),fun i v e=>k.hd i v (h.hd i v e)⟩
def Rel(μ:Mu):AV→(Value→Prop) × (List Value→Prop)
 | .sc s=>(fun x=>x=s.val,fun _=>False)
 | .ptr i o=>(fun x=>∃b N,μ i=some (b,N)∧x = .pointer (some ⟨b,o,none⟩),fun _=>False)
 | .slc i o len cm ex esz=>(fun x=>∃b N c,μ i=some (b,N)∧x = .slice (some ⟨b,o,none⟩) len c∧cm≤c∧(ex=true→c=cm)∧o+c*esz≤N∧len≤cm,fun _=>False)
 | .map i=>(fun x=>∃b N,μ i=some (b,N)∧x = .map (some b),fun _=>False)
 | .yield i=>(fun x=>∃b N,μ i=some (b,N)∧x = .func (.yield b) #[] #[],fun _=>False)
 | .fn f fs cs=>(fun x=>∃xs ys,x = .func (.func f) xs ys∧(Rel μ fs).2 xs.toList∧(Rel μ cs).2 ys.toList,fun _=>False)
 | .hc i k=>(fun x=>∃v,μ.hd i=some v∧v.cells[k]? = some x∧x.oneCell'=true,fun _=>False)
 | .hs i=>(fun x=>∃s,μ.hd i=some (.string s)∧x = .string s,fun _=>False)
 | .iface t v=>(fun x=>∃y,x = .iface t y∧(Rel μ v).1 y,fun _=>False)
 | .agg cs=>(fun x=>∃xs,x = .agg xs∧(Rel μ cs).2 xs.toList,fun _=>False)
 | .tup cs=>(fun x=>∃xs,x = .tuple xs∧(Rel μ cs).2 xs.toList,fun _=>False)
 | .nil=>(fun _=>False,fun xs=>xs = [])
 | .cons h t=>(fun _=>False,fun xs=>∃x r,xs=x :: r∧(Rel μ h).1 x∧(Rel μ t).2 r)
def VR(μ:Mu)(v:AV)(x:Value):Prop:=(Rel μ v).1 x
def LR(μ:Mu)(v:AV)(xs:List Value):Prop:=(Rel μ v).2 xs
theorem Rel.mono{μ ν:Mu}(h:μ.le ν)(v:AV):(∀x,(Rel μ v).1 x→(Rel ν v).1 x)∧(∀xs,(Rel μ v).2 xs→(Rel ν v).2 xs):=by
 induction v with
 | sc s=>exact⟨fun _ h=>h,fun _ h=>h⟩
 | ptr i o=>exact⟨fun x ⟨b,N,e,hx⟩=>⟨b,N,h _ _ e,hx⟩,fun _ h=>h⟩
 | slc i o len cm ex esz=>exact⟨fun x ⟨b,N,c,e,hx⟩=>⟨b,N,c,h _ _ e,hx⟩,fun _ h=>h⟩
 | map i=>exact⟨fun x ⟨b,N,e,hx⟩=>⟨b,N,h _ _ e,hx⟩,fun _ h=>h⟩
 | yield i=>exact⟨fun x ⟨b,N,e,hx⟩=>⟨b,N,h _ _ e,hx⟩,fun _ h=>h⟩
 | fn f fs cs ih1 ih2=>exact⟨fun x ⟨xs,ys,e,h1,h2⟩=>⟨xs,ys,e,ih1.2 _ h1,ih2.2 _ h2⟩,fun _ h=>h⟩
 | hc i k=>exact⟨fun x ⟨v,e,h1⟩=>⟨v,h.hd _ _ e,h1⟩,fun _ h=>h⟩
 | hs i=>exact⟨fun x ⟨s,e,h1⟩=>⟨s,h.hd _ _ e,h1⟩,fun _ h=>h⟩
 | iface t v ih=>exact⟨fun x ⟨y,e,h1⟩=>⟨y,e,ih.1 _ h1⟩,fun _ h=>h⟩
 | agg cs ih=>exact⟨fun x ⟨y,e,h1⟩=>⟨y,e,ih.2 _ h1⟩,fun _ h=>h⟩
 | tup cs ih=>exact⟨fun x ⟨y,e,h1⟩=>⟨y,e,ih.2 _ h1⟩,fun _ h=>h⟩
 | nil=>exact⟨fun _ h=>h,fun _ h=>h⟩
 | cons a t ih1 ih2=>exact⟨fun _ h=>h,fun xs ⟨x,r,e,h1,h2⟩=>⟨x,r,e,ih1.1 _ h1,ih2.2 _ h2⟩⟩
theorem VR.mono{μ ν:Mu}(h:μ.le ν){v:AV}{x:Value}(hv:VR μ v x):VR ν v x:=(Rel.mono h v).1 x hv
theorem LR.mono{μ ν:Mu}(h:μ.le ν){v:AV}{x:List Value}(hv:LR μ v x):LR ν v x:=(Rel.mono h v).2 x hv
section lists
variable {μ:Mu}
theorem LR.nil:LR μ .nil []:=rfl
theorem LR.cons{h t:AV}{x:Value}{r:List Value}(a:VR μ h x)(b:LR μ t r):LR μ (.cons h t) (x :: r):=⟨x,r,rfl,a,b⟩
theorem LR.len{v:AV}:∀{xs:List Value},LR μ v xs→xs.length=v.len:=by
 induction v with
 | nil=>intro xs h;simp [LR,Rel]at h;simp [h,AV.len]
 | cons a t _ ih=>rintro xs ⟨x,r,rfl,h1,h2⟩;simp [AV.len,ih h2]
 | _=>intro xs h;exact h.elim
theorem LR.nth{v:AV}:∀{xs:List Value} {n:Nat} {u:AV},LR μ v xs→v.nth n=some u→∃x,xs[n]? = some x∧VR μ u x:=by
 induction v with
 | cons a t _ ih=>
  rintro xs n u ⟨x,r,rfl,h1,h2⟩ hn
  cases n with
  | zero=>simp [AV.nth]at hn;subst hn;exact⟨x,rfl,h1⟩
  | succ n=>simp only [AV.nth]at hn;obtain⟨y,e,hy⟩:=ih h2 hn;exact⟨y,by simpa using e,hy⟩
 | _=>intro xs n u _ hn;simp [AV.nth]at hn
theorem LR.take{v:AV}:∀{xs:List Value} (n:Nat),LR μ v xs→LR μ (v.take n) (xs.take n):=by
 induction v with
 | nil=>intro xs n h;simp [LR,Rel]at h;subst h;cases n <;> simp [AV.take,LR,Rel]
 | cons a t _ ih=>
  rintro xs n ⟨x,r,rfl,h1,h2⟩
  cases n with
  | zero=>simp [AV.take,LR,Rel]
  | succ n=>simp only [AV.take,List.take_succ_cons];exact .cons h1 (ih n h2)
 | _=>intro xs n h;exact h.elim
theorem LR.drop{v:AV}:∀{xs:List Value} (n:Nat),LR μ v xs→LR μ (v.drop n) (xs.drop n):=by
 induction v with
 | nil=>intro xs n h;simp [LR,Rel]at h;subst h;cases n <;> simp [AV.drop,LR,Rel]
 | cons a t _ ih=>
  rintro xs n ⟨x,r,rfl,h1,h2⟩
  cases n with
  | zero=>simp only [AV.drop,List.drop_zero];exact .cons h1 h2
  | succ n=>simp only [AV.drop,List.drop_succ_cons];exact ih n h2
 | _=>intro xs n h;exact h.elim
theorem LR.app{v u:AV}{ys:List Value}(hu:LR μ u ys):∀{xs:List Value},LR μ v xs→LR μ (v.app u) (xs ++ ys):=by
 induction v with
 | nil=>intro xs h;simp [LR,Rel]at h;subst h;exact hu
 | cons a t _ ih=>rintro xs ⟨x,r,rfl,h1,h2⟩;exact .cons h1 (ih h2)
 | _=>intro xs h;exact h.elim
theorem zkk{v u:AV}:v.isList=true→(v.app u).len=v.len+u.len:=by
 induction v with
 | nil=>intro _;simp [AV.app,AV.len]
 | cons a t _ ih=>intro h;simp [AV.app,AV.len,ih h];omega
 | _=>intro h;simp [AV.isList]at h
theorem LR.isList{v:AV}:∀{xs:List Value},LR μ v xs→v.isList=true:=by
 induction v with
 | nil=>intro xs h;rfl
 | cons a t _ ih=>rintro xs ⟨x,r,rfl,h1,h2⟩;exact ih h2
 | _=>intro xs h;exact h.elim
theorem LR.put{v:AV}:∀{xs:List Value} {n:Nat} {u w:AV} {ys:List Value},LR μ v xs→LR μ u ys→v.put n u=some w →
  n+ys.length≤xs.length∧LR μ w (xs.take n ++ ys ++ xs.drop (n+ys.length)):=by
 induction v with
 | nil=>
  intro xs n u w ys h hu hp;simp [LR,Rel]at h;subst h
  cases n with
  | zero=>cases u with
   | nil=>simp [AV.put]at hp;subst hp;simp [LR,Rel]at hu;subst hu;simp [LR,Rel]
   | cons a t=>simp [AV.put]at hp
   | _=>exact hu.elim
  | succ n=>simp [AV.put]at hp
 | cons a t _ ih=>
  rintro xs n u w ys ⟨x,r,rfl,h1,h2⟩ hu hp
  cases n with
  | zero=>
   cases u with
   | nil=>simp [AV.put]at hp;subst hp;simp [LR,Rel]at hu;subst hu;exact⟨by simp,by simpa using LR.cons h1 h2⟩
   | cons b s=>
    obtain⟨y,q,rfl,g1,g2⟩:=hu;simp only [AV.put,Option.map_eq_some_iff]at hp;obtain⟨w',hw,rfl⟩:=hp;obtain⟨k1,k2⟩:=ih h2 g2 hw;simp only [Nat.zero_add,List.take_zero,ztO,ztI,List.drop_succ_cons,ztP]at k1 k2 ⊢;exact⟨by omega,.cons g1 k2⟩
   | _=>exact hu.elim
  | succ n=>
   simp only [AV.put,Option.map_eq_some_iff]at hp;obtain⟨w',hw,rfl⟩:=hp;obtain⟨k1,k2⟩:=ih h2 hu hw;refine⟨by simp;omega,?_⟩;rw [show n+1+ys.length=(n+ys.length)+1 from by omega];simp only [List.take_succ_cons,ztP,List.drop_succ_cons];exact .cons h1 k2
 | _=>intro xs n u w ys h;exact h.elim
theorem LR.allOne{v:AV}:∀{xs:List Value},LR μ v xs→v.allOne=true→∀x∈xs,x.oneCell'=true:=by
 induction v with
 | nil=>intro xs h _ x hx;simp [LR,Rel]at h;simp [h]at hx
 | cons a t _ ih=>
  rintro xs ⟨x,r,rfl,h1,h2⟩ hone y hy;simp only [AV.allOne,Bool.and_eq_true]at hone;rcases List.mem_cons.1 hy with rfl|hy
  ·cases a with
   | sc s=>cases s <;> simp_all [Rel,Sc.val,Value.oneCell']
   | ptr i o=>obtain⟨b,N,_,rfl⟩:=h1;rfl
   | slc i o l c e s=>obtain⟨b,N,c,_,rfl,_⟩:=h1;rfl
   | map i=>obtain⟨b,N,_,rfl⟩:=h1;rfl
   | yield i=>obtain⟨b,N,_,rfl⟩:=h1;rfl
   | fn f fs cs=>obtain⟨_,_,rfl,_⟩:=h1;rfl
   | hc i k=>obtain⟨v,_,_,q⟩:=h1;exact q
   | hs i=>obtain⟨s,_,rfl⟩:=h1;rfl
   | iface t v=>obtain⟨_,rfl,_⟩:=h1;rfl
   | agg cs=>simp at hone
   | tup cs=>simp at hone
   | nil=>simp at hone
   | cons _ _=>simp at hone
  ·exact ih h2 hone.2 y hy
 | _=>intro xs h;exact h.elim
theorem LR.rep{z:AV}{zs:List Value}(hz:LR μ z zs):∀n,LR μ (AV.rep n z) (List.replicate n zs).flatten
 | 0=>rfl
 | n+1=>by rw [List.replicate_succ,List.flatten_cons];exact LR.app (LR.rep hz n) hz
theorem LR.det{v:AV}{s:List Value}(h:zcW v=some s):∀{xs:List Value},LR μ v xs→xs=s:=by
 induction v generalizing s with
 | nil=>intro xs hx;simp [zcW]at h;simp [LR,Rel]at hx;simp [hx,h]
 | cons a t _ ih=>
  rintro xs ⟨x,r,rfl,h1,h2⟩
  cases a with
  | sc q=>
   simp only [zcW,Option.map_eq_some_iff]at h;obtain⟨s',hs,rfl⟩:=h;rw [ih hs h2];simp only [Rel]at h1;rw [h1]
  | _=>simp [zcW]at h
 | _=>simp [zcW]at h
end lists
theorem Sc.of_val{v:Value}{s:Sc}(h:Sc.of v=some s):s.val=v:=by
 unfold Sc.of at h;split at h <;> simp at h <;> subst h <;> rfl
theorem zja(μ:Mu):∀{l:List Value} {v:AV},zhB l=some v→LR μ v l
 | [],v,h=>by simp [zhB]at h;subst h;rfl
 | x :: r,v,h=>by
  simp only [zhB]at h;split at h
  ·rename_i s t hs ht;simp at h;subst h
   exact .cons (Sc.of_val hs).symm (zja μ ht)
  ·simp at h
theorem zj8(μ:Mu){x:Value}{v:AV}(h:AV.ofVal x=some v):VR μ v x:=by
 unfold AV.ofVal at h;split at h
 ·simp only [Option.map_eq_some_iff]at h;obtain⟨l,hl,rfl⟩:=h;exact⟨_,rfl,zja μ hl⟩
 ·rename_i cs;split at h
  ·rename_i hc;simp at h;subst h
   have:cs=#[]:=Array.toList_eq_nil_iff.1 hc;subst this;rfl
  ·simp at h
 ·simp only [Option.map_eq_some_iff]at h;obtain⟨s,hs,rfl⟩:=h;exact(Sc.of_val hs).symm
theorem znc{a b:IntKind}(h:beqK a b=true):a=b:=by
 cases a <;> cases b <;> simp_all [beqK]
theorem zq3{a b:Int}(h:beqI a b=true):a=b:=by
 cases a <;> cases b <;> simp_all [beqI] <;> exact Nat.eq_of_beq_eq_true h
theorem znd{a b:Bool}(h:beqB a b=true):a=b:=by
 cases a <;> cases b <;> simp_all [beqB]
theorem zfB:∀{a b:List UInt8},zc8 a b=true→a=b
 | [],[],_=>rfl
 | x :: s,y :: t,h=>by
  simp only [zc8,Bool.and_eq_true]at h;rw [zfB h.2,UInt8.toNat_inj.1 (Nat.eq_of_beq_eq_true h.1)]
 | [],_ :: _,h=>by simp [zc8]at h
 | _ :: _,[],h=>by simp [zc8]at h
theorem Sc.beq_eq{a b:Sc}(h:a.beq b=true):a=b:=by
 cases a <;> cases b <;> simp_all [Sc.beq]
 ·exact znd h
 ·exact⟨znc h.1,zq3 h.2⟩
 ·rename_i s t;have:=zfB h
  cases s with|mk s=>cases t with|mk t=>simp at this;rw [this]
theorem AV.beq_eq{a:AV}:∀{b:AV},a.beq b=true→a=b:=by
 induction a with
 | sc s=>intro b h;cases b <;> simp [AV.beq]at h;rw [Sc.beq_eq h]
 | ptr i o=>intro b h;cases b <;> simp [AV.beq]at h;simp [h]
 | slc i o l c e s=>
  intro b h;cases b <;> simp [AV.beq]at h;obtain⟨⟨⟨⟨⟨h1,h2⟩,h3⟩,h4⟩,h5⟩,h6⟩:=h;simp [h1,h2,h3,h4,znd h5,h6]
 | map i=>intro b h;cases b <;> simp [AV.beq]at h;simp [h]
 | yield i=>intro b h;cases b <;> simp [AV.beq]at h;simp [h]
 | fn f fs cs ih1 ih2=>intro b h;cases b <;> simp [AV.beq]at h;rw [h.1.1,ih1 h.1.2,ih2 h.2]
 | hc i k=>intro b h;cases b <;> simp [AV.beq]at h;simp [h]
 | hs i=>intro b h;cases b <;> simp [AV.beq]at h;simp [h]
 | iface t v ih=>intro b h;cases b <;> simp [AV.beq]at h;rw [h.1,ih h.2]
 | agg cs ih=>intro b h;cases b <;> simp [AV.beq]at h;rw [ih h]
 | tup cs ih=>intro b h;cases b <;> simp [AV.beq]at h;rw [ih h]
 | nil=>intro b h;cases b <;> simp [AV.beq]at h;rfl
 | cons x t ih1 ih2=>intro b h;cases b <;> simp [AV.beq]at h;rw [ih1 h.1,ih2 h.2]
def AObj.cls(i:Nat):AObj→Nat
 | .cells fam _ _ _=>fam
 | _=>i
def ER(P:Program)(μ:Mu)(kt:TypeId):AV→List MapEntry→Prop
 | .nil,es=>es = []
 | .cons (.cons k v) t,es=>∃e r,es=e :: r∧zaZ P kt k=true∧VR μ k e.key∧VR μ v e.val∧ER P μ kt t r
 | _,_=>False
def TR(μ:Mu)(nt:Nat)(T:Tr AV)(tmps:Array Value):Prop:=
 tmps.size=nt∧∀t v,T.get t=some v→VR μ v (tmps.getD t undef)
theorem ER.mono{P:Program}{μ ν:Mu}(h:μ.le ν){kt:TypeId}:∀{v:AV} {es:List MapEntry},ER P μ kt v es→ER P ν kt v es
 | .nil,_,h'=>h'
 | .cons (.cons _ _) t,_,⟨e,r,h1,hk,h2,h3,h4⟩=>⟨e,r,h1,hk,h2.mono h,h3.mono h,ER.mono h (v:=t) h4⟩
theorem TR.mono{μ ν:Mu}(h:μ.le ν){nt:Nat}{T:Tr AV}{tmps:Array Value}(ht:TR μ nt T tmps):TR ν nt T tmps:=
 ⟨ht.1,fun t v e=>(ht.2 t v e).mono h⟩
def Kept(res:List TypeId)(w w':World):Prop:=∀(b:Nat) (cs:Array Value) (e:TypeId) (fz:Nat × Nat),w.heap[b]? = some (Obj.cells cs e fz)→res.contains e=true→w'.heap[b]? = some (Obj.cells cs e fz)
theorem Kept.of_below{res:List TypeId}{w w':World}(h:Below w.heap.size w w'):Kept res w w':=fun b cs e fz q _=>by
 rw [h.block b (Array.getElem?_eq_some_iff.1 q).1];exact q
structure Sett where
 ids:List Nat
 res:List TypeId
 I:Tg→Value→World→Prop
 stable:∀t v w w',Kept res w w'→I t v w→I t v w'
instance:Coe Sett (List Nat):=⟨Sett.ids⟩
structure Rep(P:Program)(B:Nat)(w0:World)(G:Sett)(μ:Mu)(H:AH)(w:World):Prop where
 resd:H.res=G.res
 hdom:∀i v,μ.hd i=some v→i<H.next
 fact:∀i t,H.objs.get i=some (.opq t)→∃v,μ.hd i=some v∧G.I t v w
 free:∀i b N,μ i=some (b,N)→B≤b→∀(cs:Array Value) (e:TypeId) (fz:Nat × Nat),w.heap[b]? = some (Obj.cells cs e fz)→G.res.contains e=false
 below:Below B w0 w
 base:B≤w0.heap.size
 dom:∀i b N,μ i=some (b,N)→i<H.next∧b<w.heap.size
 glob:∀g∈G.ids,∃N,μ g=some (g,N)
 own:∀i o,H.objs.get i=some o→i<H.next∧o.cls i<H.next
 sep:∀i j oi oj b N M,H.objs.get i=some oi→H.objs.get j=some oj→μ i=some (b,N)→μ j=some (b,M)→oi.cls i=oj.cls j
 vtop:∀i j fam vi ei ci vj ej cj lw,H.objs.get i=some (.cells fam vi ei ci)→H.objs.get j=some (.cells fam vj ej cj)→H.fams.get fam=some (j,lw)→i≠j→vi<vj
 tip:∀i j fam vi ei ci vj ej cj lw b N M,H.objs.get i=some (.cells fam vi ei ci)→H.objs.get j=some (.cells fam vj ej cj)→H.fams.get fam=some (j,lw)→lw≤vi →
  μ i=some (b,N)→μ j=some (b,M)→ci.len≤cj.len
 write:∀i fam ver e cs lw b N,H.objs.get i=some (.cells fam ver e cs)→H.fams.get fam=some (i,lw)→μ i=some (b,N)→B≤b
 cells:∀i fam ver e cs tip lw b N,H.objs.get i=some (.cells fam ver e cs)→H.fams.get fam=some (tip,lw)→lw≤ver→μ i=some (b,N) →
  ∃arr te fz,w.heap[b]? = some (.cells arr te fz)∧arr.size=N∧cs.len≤N∧LR μ cs (arr.toList.take cs.len)∧(B≤b→fz=(0,0))
 map:∀i kt es b N,H.objs.get i=some (.map kt es)→μ i=some (b,N)→B≤b∧∃entries clock,w.heap[b]? = some (.map entries clock)∧ER P μ kt es entries.toList
 loop:∀i st pend fn nt T ps zAs bd dd b N,H.objs.get i=some (.loop st pend fn nt T ps zAs bd dd)→μ i=some (b,N) →
  B≤b∧∃L d M,w.heap[b]? = some (.loop L)∧L.state=st∧L.pending=pend∧TR μ nt T L.tmps∧L.params.toList=ps∧L.assign=zAs∧L.body=bd∧μ dd=some (d,M)∧L.defers=d
 defd:∀i op b N,H.objs.get i=some (.defd op)→μ i=some (b,N)→B≤b∧w.heap[b]? = some (.deferred (if op=true then some []else none))
section
variable {P:Program} {B:Nat} {w0:World} {G:Sett} {μ:Mu} {H:AH} {w:World}
theorem Rep.same(h:Rep P B w0 G μ H w){w':World}(hh:w'.heap=w.heap)(hb:Below B w0 w'):Rep P B w0 G μ H w' where
 resd:=h.resd
 hdom:=h.hdom
 fact:=fun i t ho=>let ⟨v,h1,h2⟩:=h.fact i t ho;⟨v,h1,G.stable _ _ _ _ (fun _ _ _ _ q _=>hh ▸ q) h2⟩
 free:=fun i b N e hb cs te fz q=>h.free i b N e hb cs te fz (hh ▸ q)
 below:=hb
 base:=h.base
 dom:=fun i b N e=>hh ▸ h.dom i b N e
 glob:=h.glob
 own:=h.own
 sep:=h.sep
 vtop:=h.vtop
 tip:=h.tip
 write:=h.write
 cells:=fun i fam ver e cs tip lw b N h1 h2 h3 h4=>hh ▸ h.cells i fam ver e cs tip lw b N h1 h2 h3 h4
 map:=fun i kt es b N h1 h2=>hh ▸ h.map i kt es b N h1 h2
 loop:=fun i st pend fn nt T ps zAs bd dd b N h1 h2=>hh ▸ h.loop i st pend fn nt T ps zAs bd dd b N h1 h2
 defd:=fun i op b N h1 h2=>hh ▸ h.defd i op b N h1 h2
theorem Rep.drewN(h:Rep P B w0 G μ H w)(n:Nat):Rep P B w0 G μ H {w with drawn:=n}:=
 h.same rfl ⟨h.below.os,h.below.tape,h.below.output,h.below.size,h.below.block⟩
theorem Rep.baseNow(h:Rep P B w0 G μ H w):B≤w.heap.size:=Nat.le_trans h.base h.below.size
theorem zhG{i fam ver:Nat}{e:TypeId}{cs:AV}(h:H.live i=some (fam,ver,e,cs)) :
  H.objs.get i=some (.cells fam ver e cs)∧∃tip lw,H.fams.get fam=some (tip,lw)∧lw≤ver:=by
 unfold AH.live at h;split at h
 ·rename_i f v e' c ho;split at h
  ·rename_i tip lw hf
   cases hb:Nat.ble lw v with
   | true=>rw [hb]at h;simp at h;obtain⟨rfl,rfl,rfl,rfl⟩:=h;exact⟨ho,tip,lw,hf,Nat.le_of_ble_eq_true hb⟩
   | false=>rw [hb]at h;simp at h
  ·simp at h
 ·simp at h
theorem cell?_of{b k:Nat}{arr:Array Value}{te:TypeId}{fz:Nat × Nat}(h:w.heap[b]? = some (.cells arr te fz)):w.cell? ⟨b,k,none⟩=arr[k]?:=by
 simp [World.cell?,h]
theorem Rep.load(h:Rep P B w0 G μ H w){i o n b N:Nat}{cs:AV}(hc:H.cellsAt i o n=some cs)(hm:μ i=some (b,N)) :
  ∃xs:List Value,xs.length=n∧LR μ cs xs∧∀j v,xs[j]? = some v→w.cell? ((⟨b,o,none⟩:Addr).add j)=some v:=by
 unfold AH.cellsAt at hc;split at hc
 ·rename_i fam ver e c hl;obtain⟨ho,tip,lw,hf,hle⟩:=zhG hl;obtain⟨arr,te,fz,hw,hN,hcN,hLR,_⟩:=h.cells _ _ _ _ _ _ _ _ _ ho hf hle hm;simp only at hc
  cases hb:Nat.beq ((c.drop o).take n).len n with
  | false=>rw [hb]at hc;simp at hc
  | true=>
   rw [hb]at hc;simp only [cond_true,Option.some.injEq]at hc;subst hc;have hlen:=(zam _ _).1 hb;have h2:=(hLR.drop o).take n;have h3:=h2.len;rw [hlen]at h3;refine⟨_,h3,h2,?_⟩
   ·intro j v hj;have hj':=hj;rw [List.getElem?_take]at hj';split at hj'
    ·rename_i hjn;rw [List.getElem?_drop,List.getElem?_take]at hj';split at hj'
     ·have hadd:(⟨b,o,none⟩:Addr).add j=⟨b,o+j,none⟩:=by unfold Addr.add;split <;> simp_all
      rw [hadd,cell?_of hw];simpa using hj'
     ·simp at hj'
    ·simp at hj'
 ·simp at hc
def AH.withCells(H:AH)(elem:TypeId)(cs:AV):AH:=
 {res:=H.res,next:=H.next+1,objs:=Tr.set deep H.objs H.next (some (.cells H.next 0 elem cs)),fams:=Tr.set deep H.fams H.next (some (H.next,0))}
theorem zfq{β:Type}(H:AH)(elem:TypeId)(cs:AV)(k:Nat→AH→β):H.newCells elem cs k=k H.next (H.withCells elem cs):=by
 simp [AH.newCells,AH.withCells,Tr.setK_eq]
def AH.withNew(H:AH)(o:AObj):AH:={res:=H.res,next:=H.next+1,objs:=Tr.set deep H.objs H.next (some o),fams:=H.fams}
theorem zf7{β:Type}(H:AH)(o:AObj)(k:Nat→AH→β):H.newObj o k=k H.next (H.withNew o):=by
 simp [AH.newObj,AH.withNew,Tr.setK_eq]
def AH.set(H:AH)(i:Nat)(o:AObj):AH:={res:=H.res,next:=H.next,objs:=Tr.set deep H.objs i (some o),fams:=H.fams}
theorem zbR{β:Type}(H:AH)(i:Nat)(o:AObj)(k:AH→β):H.withObj i o k=k (H.set i o):=by
 simp [AH.withObj,AH.set,Tr.setK_eq]
def Mu.add(μ:Mu)(i b N:Nat):Mu:=⟨fun j=>if j=i then some (b,N)else μ j,μ.hd⟩
theorem Mu.le_add{μ:Mu}{i b N:Nat}(h:μ i=none):μ.le (μ.add i b N):=by
 refine⟨?_,fun _ _ h=>h⟩;intro j l e;simp only [Mu.add];split
 ·rename_i hj;subst hj;rw [h]at e;cases e
 ·exact e
def Ext(H:AH)(μ:Mu)(H':AH)(μ':Mu):Prop:=μ.le μ'∧H.next≤H'.next∧∀i,i<H.next→μ i=none→μ' i=none
theorem Ext.refl(H:AH)(μ:Mu):Ext H μ H μ:=⟨.refl μ,Nat.le_refl _,fun _ _ h=>h⟩
theorem Ext.same{H H':AH}(μ:Mu)(h:H'.next=H.next):Ext H μ H' μ:=⟨.refl μ,by omega,fun _ _ h=>h⟩
theorem Ext.trans{H H1 H2:AH}{μ μ1 μ2:Mu}(h:Ext H μ H1 μ1)(k:Ext H1 μ1 H2 μ2):Ext H μ H2 μ2:=
 ⟨h.1.trans k.1,Nat.le_trans h.2.1 k.2.1,fun i hi hn=>k.2.2 i (Nat.lt_of_lt_of_le hi h.2.1) (h.2.2 i hi hn)⟩
theorem Ext.add{H H':AH}{μ:Mu}{b N:Nat}(hn:μ H.next=none)(h:H.next≤H'.next):Ext H μ H' (μ.add H.next b N):=
 ⟨Mu.le_add hn,h,fun i hi hu=>by simp only [Mu.add];rw [if_neg (by omega)];exact hu⟩
theorem Mu.add_cases{μ:Mu}{i b N j:Nat}{l:Nat × Nat}(h:μ.add i b N j=some l):(j=i∧l=(b,N))∨(j≠i∧μ j=some l):=by
 simp only [Mu.add]at h;split at h
 ·simp at h;exact .inl ⟨by assumption,h.symm⟩
 ·exact .inr ⟨by assumption,h⟩
theorem Rep.notYet(h:Rep P B w0 G μ H w){i:Nat}(hi:H.next≤i):μ i=none:=by
 cases e:μ i with
 | none=>rfl
 | some l=>have:=(h.dom i l.1 l.2 e).1;omega
theorem heap_alloc_old(w:World)(o:Obj){b:Nat}{x:Obj}(h:w.heap[b]? = some x):(w.alloc o).heap[b]? = some x:=by
 have hb:b<w.heap.size:=(Array.getElem?_eq_some_iff.1 h).1;rw [Below.heap_alloc w o b hb];exact h
theorem heap_alloc_new(w:World)(o:Obj):(w.alloc o).heap[w.heap.size]? = some o:=by
 show(w.heap.push o)[w.heap.size]? = _
 simp
structure Fits(P:Program)(R:List TypeId)(μ:Mu)(oi:AObj)(o:Obj)(N:Nat):Prop where
 nopq:∀t,oi ≠ .opq t
 free:∀arr te fz,o = .cells arr te fz→R.contains te=false
 cells:∀fam ver e cs,oi = .cells fam ver e cs→∃arr te,o = .cells arr te (0,0)∧arr.size=N∧cs.len≤N∧LR μ cs (arr.toList.take cs.len)
 map:∀kt es,oi = .map kt es→∃en cl,o = .map en cl∧ER P μ kt es en.toList
 loop:∀st pend fn nt T ps zAs bd dd,oi = .loop st pend fn nt T ps zAs bd dd →
  ∃L d M,o = .loop L∧L.state=st∧L.pending=pend∧TR μ nt T L.tmps∧L.params.toList=ps∧L.assign=zAs∧L.body=bd∧μ dd=some (d,M)∧L.defers=d
 defd:∀op,oi = .defd op→o = .deferred (if op=true then some []else none)
theorem Rep.bind(h:Rep P B w0 G μ H w){i N:Nat}{oi:AObj}{o:Obj}(hi:i<H.next)(ho:∀o,H.objs.get i=some o→o=oi)(hun:μ i=none)(hfit:Fits P G.res μ oi o N) :
  Rep P B w0 G (μ.add i w.heap.size N) H (w.alloc o):=by
 have hle:μ.le (μ.add i w.heap.size N):=Mu.le_add hun;have hlt:∀{j b N},μ j=some (b,N)→b<w.heap.size:=fun e=>(h.dom _ _ _ e).2
 have hB:=h.baseNow;refine⟨h.resd,h.hdom,?fact,?free,h.below.alloc hB _,h.base,?dom,?glob,h.own,?sep,h.vtop,?tip,?write,?cells,?map,?loop,?defd⟩
 case fact=>
  intro j t hj;obtain⟨v,h1,h2⟩:=h.fact j t hj;exact⟨v,h1,G.stable _ _ _ _ (fun b cs e fz q _=>heap_alloc_old _ _ q) h2⟩
 case free=>
  intro j b N hj hb cs e fz q;rcases Mu.add_cases hj with⟨rfl,he⟩|⟨_,hj⟩
  ·cases he
   rw [heap_alloc_new]at q;exact hfit.free _ _ _ (Option.some.inj q)
  ·refine h.free _ _ _ hj hb cs e fz ?_;rw [Below.heap_alloc w o b (hlt hj)]at q;exact q
 case dom=>
  intro j b N hj;rcases Mu.add_cases hj with⟨rfl,he⟩|⟨_,hj⟩
  ·cases he;exact⟨hi,by rw [World.size_alloc];omega⟩
  ·have:=h.dom _ _ _ hj;exact⟨this.1,by rw [World.size_alloc];omega⟩
 case glob=>
  intro g hg;obtain⟨N,e⟩:=h.glob g hg;exact⟨N,hle _ _ e⟩
 case sep=>
  intro a c oa oc b N M ha hc hma hmc;rcases Mu.add_cases hma with⟨ea',he⟩|⟨hna,hma'⟩ <;> rcases Mu.add_cases hmc with⟨ec',he'⟩|⟨hnc,hmc'⟩
  ·subst ea';rw [ec']at hc;rw [ha]at hc;cases hc;rw [ec']
  ·cases he;have:=hlt hmc';omega
  ·cases he';have:=hlt hma';omega
  ·exact h.sep _ _ _ _ _ _ _ ha hc hma' hmc'
 case tip=>
  intro a c fam va ea ca vc ec cc lw b N M ha hc hfam hl hma hmc;rcases Mu.add_cases hma with⟨ea',he⟩|⟨hna,hma'⟩ <;> rcases Mu.add_cases hmc with⟨ec',he'⟩|⟨hnc,hmc'⟩
  ·subst ea';rw [ec']at hc;rw [ha]at hc;cases hc;exact Nat.le_refl _
  ·cases he;have:=hlt hmc';omega
  ·cases he';have:=hlt hma';omega
  ·exact h.tip _ _ _ _ _ _ _ _ _ _ _ _ _ ha hc hfam hl hma' hmc'
 case write=>
  intro a fam ver ea ca lw b N ha hfam hma;rcases Mu.add_cases hma with⟨rfl,he⟩|⟨hna,hma⟩
  ·cases he;exact hB
  ·exact h.write _ _ _ _ _ _ _ _ ha hfam hma
 case cells=>
  intro a fam ver ea ca tip lw b N ha hfam hl hma;rcases Mu.add_cases hma with⟨rfl,he⟩|⟨hna,hma⟩
  ·cases he
   have hoi:=ho _ ha;subst hoi;obtain⟨arr,te,rfl,h2,h3,h4⟩:=hfit.cells _ _ _ _ rfl;exact⟨arr,te,(0,0),heap_alloc_new _ _,h2,h3,h4.mono hle,fun _=>rfl⟩
  ·obtain⟨arr',te',fz,h1,h2,h3,h4,h5⟩:=h.cells _ _ _ _ _ _ _ _ _ ha hfam hl hma;exact⟨arr',te',fz,heap_alloc_old _ _ h1,h2,h3,h4.mono hle,h5⟩
 case map=>
  intro a kt es b N ha hma;rcases Mu.add_cases hma with⟨rfl,he⟩|⟨hna,hma⟩
  ·cases he
   have hoi:=ho _ ha;subst hoi;obtain⟨en,cl,rfl,h2⟩:=hfit.map _ _ rfl;exact⟨hB,en,cl,heap_alloc_new _ _,h2.mono hle⟩
  ·obtain⟨h1,en,cl,h2,h3⟩:=h.map _ _ _ _ _ ha hma;exact⟨h1,en,cl,heap_alloc_old _ _ h2,h3.mono hle⟩
 case loop=>
  intro a st pend fn nt T ps zAs bd dd b N ha hma;rcases Mu.add_cases hma with⟨rfl,he⟩|⟨hna,hma⟩
  ·cases he
   have hoi:=ho _ ha;subst hoi;obtain⟨L,d,M,rfl,h3,h4,h5,h6,h7,h8,h9,h10⟩:=hfit.loop _ _ _ _ _ _ _ _ _ rfl;exact⟨hB,L,d,M,heap_alloc_new _ _,h3,h4,h5.mono hle,h6,h7,h8,hle _ _ h9,h10⟩
  ·obtain⟨h1,L,d,M,h2,h3,h4,h5,h6,h7,h8,h9,h10⟩:=h.loop _ _ _ _ _ _ _ _ _ _ _ _ ha hma;exact⟨h1,L,d,M,heap_alloc_old _ _ h2,h3,h4,h5.mono hle,h6,h7,h8,hle _ _ h9,h10⟩
 case defd=>
  intro a op b N ha hma;rcases Mu.add_cases hma with⟨rfl,he⟩|⟨hna,hma⟩
  ·cases he
   have hoi:=ho _ ha;subst hoi;exact⟨hB,by rw [hfit.defd _ rfl];exact heap_alloc_new _ _⟩
  ·obtain⟨h1,h2⟩:=h.defd _ _ _ _ ha hma;exact⟨h1,heap_alloc_old _ _ h2⟩
theorem Rep.lay(h:Rep P B w0 G μ H w){H':AH}(hr:H'.res=H.res)(hno:∀t,H'.objs.get H.next≠some (.opq t))(hn:H'.next=H.next+1)
  (hobj:∀i o,H'.objs.get i=some o→(i=H.next∧o.cls i=H.next)∨(i<H.next∧H.objs.get i=some o))
  (hfam:∀f t lw,H'.fams.get f=some (t,lw)→(f=H.next∧t=H.next)∨H.fams.get f=some (t,lw)):Rep P B w0 G μ H' w:=by
 have hun:=h.notYet (i:=H.next) (Nat.le_refl _);have old:∀{i o b N},H'.objs.get i=some o→μ i=some (b,N)→H.objs.get i=some o:=by
  intro i o b N ho hm;rcases hobj _ _ ho with⟨rfl,_⟩|⟨_,ho⟩
  ·rw [hun]at hm;cases hm
  ·exact ho
 have oldf:∀{i o f t lw},H.objs.get i=some o→o.cls i=f→H'.fams.get f=some (t,lw)→H.fams.get f=some (t,lw):=by
  intro i o f t lw ho hc hf;rcases hfam _ _ _ hf with⟨rfl,_⟩|hf
  ·have:=(h.own _ _ ho).2;omega
  ·exact hf
 refine⟨hr.trans h.resd,fun i v e=>by have:=h.hdom i v e;omega,?fact,h.free,h.below,h.base,fun i b N e=>⟨by have:=(h.dom i b N e).1;omega,(h.dom i b N e).2⟩,h.glob,?own,?sep,?vtop,?tip,?write,?cells,?map,?loop,?defd⟩
 case fact=>
  intro i t ho;rcases hobj _ _ ho with⟨rfl,hc⟩|⟨_,ho'⟩
  ·exact absurd ho (hno t)
  ·exact h.fact _ _ ho'
 case own=>
  intro i o ho;rcases hobj _ _ ho with⟨rfl,hc⟩|⟨_,ho⟩
  ·omega
  ·have:=h.own _ _ ho;omega
 case sep=>exact fun i j oi oj b N M h1 h2 h3 h4=>h.sep i j oi oj b N M (old h1 h3) (old h2 h4) h3 h4
 case vtop=>
  intro i j fam vi ei ci vj ej cj lw h1 h2 h3 hne;rcases hobj _ _ h1 with⟨rfl,hc1⟩|⟨hi1,ho1⟩ <;> rcases hobj _ _ h2 with⟨rfl,hc2⟩|⟨hi2,ho2⟩
  ·exact absurd rfl hne
  ·have:=(h.own _ _ ho2).2;simp [AObj.cls]at this hc1;omega
  ·have:=(h.own _ _ ho1).2;simp [AObj.cls]at this hc2;omega
  ·exact h.vtop _ _ _ _ _ _ _ _ _ _ ho1 ho2 (oldf ho1 rfl h3) hne
 case tip=>exact fun i j fam vi ei ci vj ej cj lw b N M h1 h2 h3 h4 h5 h6=>h.tip _ _ _ _ _ _ _ _ _ _ _ _ _ (old h1 h5) (old h2 h6) (oldf (old h1 h5) rfl h3) h4 h5 h6
 case write=>exact fun i fam ver e cs lw b N h1 h2 h3=>h.write _ _ _ _ _ _ _ _ (old h1 h3) (oldf (old h1 h3) rfl h2) h3
 case cells=>exact fun i fam ver e cs tip lw b N h1 h2 h3 h4=>h.cells _ _ _ _ _ _ _ _ _ (old h1 h4) (oldf (old h1 h4) rfl h2) h3 h4
 case map=>exact fun i kt es b N h1 h2=>h.map _ _ _ _ _ (old h1 h2) h2
 case loop=>exact fun i st pend fn nt T ps zAs bd dd b N h1 h2=>h.loop _ _ _ _ _ _ _ _ _ _ _ _ (old h1 h2) h2
 case defd=>exact fun i op b N h1 h2=>h.defd _ _ _ _ (old h1 h2) h2
theorem Rep.layCells(h:Rep P B w0 G μ H w)(e:TypeId)(cs:AV):Rep P B w0 G μ (H.withCells e cs) w:=by
 refine h.lay rfl (fun t q => ?_) rfl ?_ ?_
 ·rcases Tr.get_set deep H.objs H.next (some (.cells H.next 0 e cs)) H.next (.opq t) q with⟨_,q⟩|⟨q,_⟩
  ·cases q
  ·exact q rfl
 ·intro i o ho;rcases Tr.get_set deep H.objs H.next (some (.cells H.next 0 e cs)) i o ho with⟨hi,ho⟩|⟨_,ho⟩
  ·cases ho;exact .inl ⟨hi,rfl⟩
  ·exact .inr ⟨(h.own _ _ ho).1,ho⟩
 ·intro f t lw hf;rcases Tr.get_set deep H.fams H.next (some (H.next,0)) f (t,lw) hf with⟨hi,hf⟩|⟨hne,hf⟩
  ·cases hf;exact .inl ⟨hi,rfl⟩
  ·exact .inr hf
theorem Rep.layObj(h:Rep P B w0 G μ H w)(o:AObj)(hc:∀f v e c,o ≠ .cells f v e c)(hq:∀t,o ≠ .opq t:=by simp):Rep P B w0 G μ (H.withNew o) w:=by
 refine h.lay rfl (fun t q => ?_) rfl ?_ ?_
 ·rcases Tr.get_set deep H.objs H.next (some o) H.next (.opq t) q with⟨_,q⟩|⟨q,_⟩
  ·exact hq t (Option.some.inj q)
  ·exact q rfl
 ·intro i o' ho;rcases Tr.get_set deep H.objs H.next (some o) i o' ho with⟨hi,ho⟩|⟨_,ho⟩
  ·cases ho
   refine .inl ⟨hi,?_⟩
   cases o with
   | cells f v e c=>exact absurd rfl (hc f v e c)
   | _=>simpa [AObj.cls]using hi
  ·exact .inr ⟨(h.own _ _ ho).1,ho⟩
 ·exact fun f t lw hf => .inr hf
theorem zkr{w:World}{b:Nat}{o o':Obj}(h:w.heap[b]? = some o):(w.heap.setIfInBounds b o')[b]? = some o':=by
 have hb:b<w.heap.size:=(Array.getElem?_eq_some_iff.1 h).1;simp [hb]
theorem zbg{w:World}{b c:Nat}{o':Obj}(h:c≠b):(w.heap.setIfInBounds b o')[c]? = w.heap[c]?:=by
 simp [Ne.symm h]
def zaz(w:World)(b:Nat)(o:Obj):World:={w with heap:=w.heap.setIfInBounds b o}
theorem Rep.setObj(h:Rep P B w0 G μ H w){i b N:Nat}{oi oj:AObj}{o:Obj}(ho:H.objs.get i=some oi)(hm:μ i=some (b,N))(hb:B≤b)
  (hni:∀f v e c,oi ≠ .cells f v e c) (hnq:∀t,oi ≠ .opq t) (hnj:∀f v e c,oj ≠ .cells f v e c) (hfit:Fits P G.res μ oj o N) :
  Rep P B w0 G μ (H.set i oj) (zaz w b o):=by
 have hbs:b<w.heap.size:=(h.dom _ _ _ hm).2;have hcls:∀(o:AObj) k,(∀f v e c,o ≠ .cells f v e c)→o.cls k=k:=by
  intro o k hk
  cases o with
  | cells f v e c=>exact absurd rfl (hk f v e c)
  | _=>rfl
 have hob:∃x,w.heap[b]? = some x∧∀arr te fz,x ≠ .cells arr te fz:=by
  cases oi with
  | cells f v e c=>exact absurd rfl (hni f v e c)
  | map kt es=>obtain⟨_,en,cl,h1,_⟩:=h.map _ _ _ _ _ ho hm;exact⟨_,h1,by simp⟩
  | loop st pend fn nt T ps zAs bd dd=>obtain⟨_,L,d,M,h1,_⟩:=h.loop _ _ _ _ _ _ _ _ _ _ _ _ ho hm;exact⟨_,h1,by simp⟩
  | defd op=>obtain⟨_,h1⟩:=h.defd _ _ _ _ ho hm;exact⟨_,h1,by simp⟩
  | opq t=>exact absurd rfl (hnq t)
 have get:∀{j o'},(H.set i oj).objs.get j=some o'→(j=i∧oj=o')∨(j≠i∧H.objs.get j=some o'):=by
  intro j o' e;rcases Tr.get_set deep H.objs i (some oj) j o' e with⟨h1,h2⟩|h2
  ·exact .inl ⟨h1,by simpa using h2⟩
  ·exact .inr h2
 have getC:∀{j f v e c},(H.set i oj).objs.get j=some (.cells f v e c)→H.objs.get j=some (.cells f v e c):=by
  intro j f v e c he;rcases get he with⟨_,h2⟩|⟨_,h2⟩
  ·exact absurd h2 (hnj _ _ _ _)
  ·exact h2
 have clsOld:∀{j o'},(H.set i oj).objs.get j=some o'→∃o'',H.objs.get j=some o''∧o''.cls j=o'.cls j:=by
  intro j o' e;rcases get e with⟨rfl,rfl⟩|⟨_,h2⟩
  ·exact⟨oi,ho,by rw [hcls _ _ hni,hcls _ _ hnj]⟩
  ·exact⟨_,h2,rfl⟩
 have apart:∀{j o' c M},(H.set i oj).objs.get j=some o'→j≠i→μ j=some (c,M)→(∀f v e c,o' ≠ .cells f v e c)→c≠b:=by
  intro j o' c M e hne hmj hno hcb;subst hcb;rcases get e with⟨h1,_⟩|⟨_,h2⟩
  ·exact hne h1
  ·have:=h.sep _ _ _ _ _ _ _ h2 ho hmj hm;rw [hcls _ _ hno,hcls _ _ hni]at this;exact hne this
 refine⟨h.resd,h.hdom,?gfact,?gfree,h.below.trans ⟨rfl,rfl,rfl,by simp [zaz],fun k hk=>zbg (by omega)⟩,h.base,?gdom,h.glob,?gown,?gsep,?gvtop,?gtip,?gwrite,?gcells,?gmap,?gloop,?gdefd⟩
 case gfact=>
  intro j t e;rcases get e with⟨_,h2⟩|⟨_,h2⟩
  ·exact absurd h2 (hfit.nopq t)
  ·obtain⟨v,h3,h4⟩:=h.fact _ _ h2;refine⟨v,h3,G.stable _ _ _ _ (fun c cs te fz q _ => ?_) h4⟩;rw [zaz,zbg (by
    rintro rfl;obtain⟨x,hx,hx'⟩:=hob;rw [q]at hx;cases hx;exact hx' _ _ _ rfl)]
   exact q
 case gfree=>
  intro j c M e hc cs te fz q;by_cases hcb:c=b
  ·subst hcb;rw [zaz,zkr (hob.choose_spec.1)]at q;exact hfit.free _ _ _ (Option.some.inj q)
  ·rw [zaz,zbg hcb]at q;exact h.free _ _ _ e hc _ _ _ q
 case gdom=>intro j c M e;have:=h.dom _ _ _ e;exact⟨this.1,by simpa [zaz]using this.2⟩
 case gown=>
  intro j o' e;obtain⟨o'',h1,h2⟩:=clsOld e;have:=h.own _ _ h1;exact⟨this.1,h2 ▸ this.2⟩
 case gsep=>
  intro j k o1 o2 c M1 M2 e1 e2 m1 m2;obtain⟨p1,h1,h2⟩:=clsOld e1;obtain⟨p2,h3,h4⟩:=clsOld e2;rw [←h2,←h4];exact h.sep _ _ _ _ _ _ _ h1 h3 m1 m2
 case gvtop=>exact fun a c fam vi ei ci vj ej cj lw e1 e2 e3=>h.vtop _ _ _ _ _ _ _ _ _ _ (getC e1) (getC e2) e3
 case gtip=>exact fun a c fam vi ei ci vj ej cj lw b' N' M' e1 e2 e3=>h.tip _ _ _ _ _ _ _ _ _ _ _ _ _ (getC e1) (getC e2) e3
 case gwrite=>exact fun a fam ver e cs lw b' N' e1 e2=>h.write _ _ _ _ _ _ _ _ (getC e1) e2
 case gcells=>
  intro a fam ver e cs tip lw b' N' e1 e2 e3 e4;obtain⟨arr,te,fz,h1,h2⟩:=h.cells _ _ _ _ _ _ _ _ _ (getC e1) e2 e3 e4;have hne:b'≠b:=by
   intro hcb;subst hcb;obtain⟨x,hx,hx'⟩:=hob;rw [h1]at hx;cases hx;exact hx' _ _ _ rfl
  exact⟨arr,te,fz,by rw [zaz,zbg hne];exact h1,h2⟩
 case gmap=>
  intro a kt es b' N' e1 e2;by_cases hai:a=i
  ·subst hai;rcases get e1 with⟨_,rfl⟩|⟨hne,_⟩
   ·rw [hm]at e2;cases e2;obtain⟨en,cl,rfl,h2⟩:=hfit.map _ _ rfl;exact⟨hb,en,cl,by rw [zaz];simp [hbs],h2⟩
   ·exact absurd rfl hne
  ·have hne:=apart e1 hai e2 (fun _ _ _ _=>by simp);rcases get e1 with⟨h1,_⟩|⟨_,h1⟩
   ·exact absurd h1 hai
   ·obtain⟨h2,en,cl,h3,h4⟩:=h.map _ _ _ _ _ h1 e2;exact⟨h2,en,cl,by rw [zaz,zbg hne];exact h3,h4⟩
 case gloop=>
  intro a st pend fn nt T ps zAs bd dd b' N' e1 e2;by_cases hai:a=i
  ·subst hai;rcases get e1 with⟨_,rfl⟩|⟨hne,_⟩
   ·rw [hm]at e2;cases e2;obtain⟨L,d,M,rfl,h2⟩:=hfit.loop _ _ _ _ _ _ _ _ _ rfl;exact⟨hb,L,d,M,by rw [zaz];simp [hbs],h2⟩
   ·exact absurd rfl hne
  ·have hne:=apart e1 hai e2 (fun _ _ _ _=>by simp);rcases get e1 with⟨h1,_⟩|⟨_,h1⟩
   ·exact absurd h1 hai
   ·obtain⟨h2,L,d,M,h3,h4⟩:=h.loop _ _ _ _ _ _ _ _ _ _ _ _ h1 e2;exact⟨h2,L,d,M,by rw [zaz,zbg hne];exact h3,h4⟩
 case gdefd=>
  intro a op b' N' e1 e2;by_cases hai:a=i
  ·subst hai;rcases get e1 with⟨_,rfl⟩|⟨hne,_⟩
   ·rw [hm]at e2;cases e2;exact⟨hb,by rw [zaz,hfit.defd _ rfl];simp [hbs]⟩
   ·exact absurd rfl hne
  ·have hne:=apart e1 hai e2 (fun _ _ _ _=>by simp);rcases get e1 with⟨h1,_⟩|⟨_,h1⟩
   ·exact absurd h1 hai
   ·obtain⟨h2,h3⟩:=h.defd _ _ _ _ h1 e2;exact⟨h2,by rw [zaz,zbg hne];exact h3⟩
end
theorem zrh(A ys:List Value)(o L:Nat)(h:o+ys.length≤L)(hL:L≤A.length) :
  (A.take L).take o ++ ys ++ (A.take L).drop (o+ys.length)=(A.take o ++ ys ++ A.drop (o+ys.length)).take L:=by
 rw [List.take_take,Nat.min_eq_left (by omega),List.take_append,List.take_append,List.take_take,Nat.min_eq_right (by omega),List.length_take,Nat.min_eq_left (by omega),
  List.take_of_length_le (l:=ys) (by omega),List.length_append,List.length_take,Nat.min_eq_left (by omega),List.drop_take]
theorem zb7{w:World}{b:Nat}{arr cs:Array Value}{te:TypeId}{fz:Nat × Nat}(h:w.heap[b]? = some (.cells arr te fz)):(w.setRow b cs).heap[b]? = some (.cells cs te fz):=by
 simp [World.setRow,Array.getElem?_modify,h]
theorem zaw{w:World}{b c:Nat}{cs:Array Value}(h:c≠b):(w.setRow b cs).heap[c]? = w.heap[c]?:=by
 simp [World.setRow,Array.getElem?_modify,Ne.symm h]
theorem size_setRow(w:World)(b:Nat)(cs:Array Value):(w.setRow b cs).heap.size=w.heap.size:=by simp [World.setRow]
theorem zgV{B:Nat}{w0 w:World}(h:Below B w0 w){b:Nat}(hb:B≤b)(cs:Array Value):Below B w0 (w.setRow b cs):=
 h.trans ⟨rfl,rfl,rfl,by rw [size_setRow];exact Nat.le_refl _,fun k hk=>zaw (by omega)⟩
section
variable {P:Program} {B:Nat} {w0:World} {G:Sett} {μ:Mu} {H:AH} {w:World}
def AH.stored(H:AH)(i fam ver:Nat)(e:TypeId)(cs:AV):AH:=
 {res:=H.res,next:=H.next,objs:=Tr.set deep H.objs i (some (.cells fam ver e cs)),fams:=Tr.set deep H.fams fam (some (i,ver))}
theorem zew{β:Type}{i o:Nat}{xs:AV}{k:AH→Option β}{r:β}(h:H.storeCells i o xs k=some r) :
  ∃fam ver e cs lw cs',H.objs.get i=some (.cells fam ver e cs)∧H.fams.get fam=some (i,lw)∧lw≤ver∧xs.allOne=true∧cs.put o xs=some cs'∧k (H.stored i fam ver e cs')=some r:=by
 unfold AH.storeCells at h;split at h
 ·rename_i fam ver e cs ho;split at h
  ·rename_i tip lw hf
   cases hc:(Nat.beq tip i && Nat.ble lw ver && xs.allOne)with
   | false=>rw [hc]at h;simp at h
   | true=>
    rw [hc]at h;simp only [Bool.and_eq_true]at hc;obtain⟨⟨h1,h2⟩,h3⟩:=hc;simp only [cond_true]at h;split at h
    ·rename_i cs' hp;simp only [AV.force_eq,Tr.setK_eq]at h;have:=(zam _ _).1 h1;subst this;exact⟨fam,ver,e,cs,lw,cs',ho,hf,Nat.le_of_ble_eq_true h2,h3,hp,h⟩
    ·simp at h
  ·simp at h
 ·simp at h
theorem zp4{cs:AV}:∀{o:Nat} {xs cs':AV},cs.put o xs=some cs'→cs'.len=cs.len:=by
 induction cs with
 | cons a t _ ih=>
  intro o xs cs' h
  cases o with
  | zero=>
   cases xs with
   | cons x r=>simp only [AV.put,Option.map_eq_some_iff]at h;obtain⟨q,h1,rfl⟩:=h;simp [AV.len,ih h1]
   | _=>simp [AV.put]at h;subst h;rfl
  | succ n=>simp only [AV.put,Option.map_eq_some_iff]at h;obtain⟨q,h1,rfl⟩:=h;simp [AV.len,ih h1]
 | _=>intro o xs cs' h;cases o <;> cases xs <;> simp [AV.put]at h <;> subst h <;> rfl
theorem zhJ{res:List TypeId}{b:Nat}{arr:Array Value}{te:TypeId}{fz:Nat × Nat}(hw:w.heap[b]? = some (.cells arr te fz))(hr:res.contains te=false)(cs:Array Value):Kept res w (w.setRow b cs):=by
 intro c cs' te' fz' q hq;by_cases hcb:c=b
 ·subst hcb;rw [hw]at q;cases q;rw [hr]at hq;cases hq
 ·rw [zaw hcb];exact q
theorem zfv(h:Rep P B w0 G μ H w){b:Nat}{arr:Array Value}{te:TypeId}{fz:Nat × Nat}(hw:w.heap[b]? = some (.cells arr te fz))(cs:Array Value):∀i b' N,μ i=some (b',N)→B≤b'→∀(cs':Array Value) (e:TypeId) (fz':Nat × Nat),(w.setRow b cs).heap[b']? = some (Obj.cells cs' e fz')→G.res.contains e=false:=by
 intro i b' N hm hB cs' e fz' q;by_cases hcb:b'=b
 ·subst hcb;rw [zb7 hw]at q;cases q;exact h.free _ _ _ hm hB _ _ _ hw
 ·rw [zaw hcb]at q;exact h.free _ _ _ hm hB _ _ _ q
theorem Rep.store(h:Rep P B w0 G μ H w){i fam ver o lw b N:Nat}{e:TypeId}{cs xs cs':AV}{ys:List Value}(ho:H.objs.get i=some (.cells fam ver e cs))(hf:H.fams.get fam=some (i,lw))(hl:lw≤ver)
  (hm:μ i=some (b,N)) (hx:LR μ xs ys) (hp:cs.put o xs=some cs') :
  ∃arr te,w.heap[b]? = some (.cells arr te (0,0))∧o+ys.length≤arr.size ∧
   Rep P B w0 G μ (H.stored i fam ver e cs') (w.setRow b (arr.toList.take o ++ ys ++ arr.toList.drop (o+ys.length)).toArray):=by
 obtain⟨arr,te,fz,hw,hN,hcN,hLR,hfz⟩:=h.cells _ _ _ _ _ _ _ _ _ ho hf hl hm;have hB:=h.write _ _ _ _ _ _ _ _ ho hf hm;rw [hfz hB]at hw;obtain⟨hfit,hnew⟩:=LR.put hLR hx hp;have hlen:(arr.toList.take cs.len).length=cs.len:=hLR.len;rw [hlen]at hfit;have hAl:arr.toList.length=N:=by simpa using hN
 refine⟨arr,te,hw,by omega,?_⟩;rw [zrh _ _ _ _ hfit (by omega)]at hnew;have hl':=zp4 hp;have get:∀{j o'},(H.stored i fam ver e cs').objs.get j=some o'→(j=i∧o' = .cells fam ver e cs')∨(j≠i∧H.objs.get j=some o'):=by
  intro j o' q;rcases Tr.get_set deep H.objs i (some (.cells fam ver e cs')) j o' q with⟨h1,h2⟩|h2
  ·exact .inl ⟨h1,by simpa using h2.symm⟩
  ·exact .inr h2
 have clsOld:∀{j o'},(H.stored i fam ver e cs').objs.get j=some o'→∃o'',H.objs.get j=some o''∧o''.cls j=o'.cls j:=by
  intro j o' q;rcases get q with⟨rfl,rfl⟩|⟨_,h2⟩
  ·exact⟨_,ho,rfl⟩
  ·exact⟨_,h2,rfl⟩
 have verOld:∀{j f v e' c},(H.stored i fam ver e cs').objs.get j=some (.cells f v e' c)→∃c',H.objs.get j=some (.cells f v e' c')∧c'.len=c.len:=by
  intro j f v e' c q;rcases get q with⟨rfl,h1⟩|⟨_,h2⟩
  ·cases h1;exact⟨_,ho,hl'.symm⟩
  ·exact⟨_,h2,rfl⟩
 have getF:∀{f t l},(H.stored i fam ver e cs').fams.get f=some (t,l)→(f=fam∧t=i∧l=ver)∨(f≠fam∧H.fams.get f=some (t,l)):=by
  intro f t l q;rcases Tr.get_set deep H.fams fam (some (i,ver)) f (t,l) q with⟨h1,h2⟩|h2
  ·cases h2;exact .inl ⟨h1,rfl,rfl⟩
  ·exact .inr h2
 have only:∀{j v e' c},(H.stored i fam ver e cs').objs.get j=some (.cells fam v e' c)→ver≤v→j=i:=by
  intro j v e' c q hv;obtain⟨c',h1,_⟩:=verOld q;refine Decidable.byContradiction fun hne => ?_
  have:=h.vtop _ _ _ _ _ _ _ _ _ _ h1 ho hf hne;omega
 refine⟨h.resd,h.hdom,?gfact,?gfree,zgV h.below hB _,h.base,?gdom,h.glob,?gown,?gsep,?gvtop,?gtip,?gwrite,?gcells,?gmap,?gloop,?gdefd⟩
 case gfact=>
  intro j t q;rcases get q with⟨_,q⟩|⟨_,q⟩
  ·cases q
  ·obtain⟨v,h3,h4⟩:=h.fact _ _ q;exact⟨v,h3,G.stable _ _ _ _ (zhJ hw (h.free _ _ _ hm hB _ _ _ hw) _) h4⟩
 case gfree=>exact zfv h hw _
 case gdom=>intro j c M q;have:=h.dom _ _ _ q;exact⟨this.1,by rw [size_setRow];exact this.2⟩
 case gown=>
  intro j o' q;obtain⟨o'',h1,h2⟩:=clsOld q;have:=h.own _ _ h1;exact⟨this.1,h2 ▸ this.2⟩
 case gsep=>
  intro j k o1 o2 c M1 M2 e1 e2 m1 m2;obtain⟨p1,h1,h2⟩:=clsOld e1;obtain⟨p2,h3,h4⟩:=clsOld e2;rw [←h2,←h4];exact h.sep _ _ _ _ _ _ _ h1 h3 m1 m2
 case gvtop=>
  intro a c f va ea ca vc ec cc l e1 e2 e3 hne;obtain⟨_,h1,_⟩:=verOld e1;obtain⟨_,h2,_⟩:=verOld e2;rcases getF e3 with⟨rfl,rfl,rfl⟩|⟨_,h3⟩
  ·exact h.vtop _ _ _ _ _ _ _ _ _ _ h1 h2 hf hne
  ·exact h.vtop _ _ _ _ _ _ _ _ _ _ h1 h2 h3 hne
 case gtip=>
  intro a c f va ea ca vc ec cc l b' N' M' e1 e2 e3 h4 m1 m2;obtain⟨c1,h1,l1⟩:=verOld e1;obtain⟨c2,h2,l2⟩:=verOld e2;rcases getF e3 with⟨rfl,rfl,rfl⟩|⟨_,h3⟩
  ·have:=only e1 h4;subst this;rw [e1]at e2;cases e2;exact Nat.le_refl _
  ·have:=h.tip _ _ _ _ _ _ _ _ _ _ _ _ _ h1 h2 h3 h4 m1 m2;omega
 case gwrite=>
  intro a f v e' c l b' N' e1 e2 m1;obtain⟨c1,h1,l1⟩:=verOld e1;rcases getF e2 with⟨rfl,rfl,rfl⟩|⟨_,h3⟩
  ·rw [hm]at m1;cases m1;exact hB
  ·exact h.write _ _ _ _ _ _ _ _ h1 h3 m1
 case gcells=>
  intro a f v e' c t l b' N' e1 e2 e3 m1;rcases get e1 with⟨rfl,h1⟩|⟨hne,h1⟩
  ·cases h1
   rw [hm]at m1;cases m1;refine⟨_,te,(0,0),zb7 hw,?_,by omega,?_,fun _=>rfl⟩
   ·simp;omega
   ·simpa [hl']using hnew
  ·rcases getF e2 with⟨rfl,rfl,rfl⟩|⟨hf',h3⟩
   ·exact absurd (only e1 e3) hne
   ·obtain⟨arr',te',fz',k1,k2⟩:=h.cells _ _ _ _ _ _ _ _ _ h1 h3 e3 m1;have hbb:b'≠b:=by
     intro q;subst q;exact hf' (h.sep _ _ _ _ _ _ _ h1 ho m1 hm)
    exact⟨arr',te',fz',by rw [zaw hbb];exact k1,k2⟩
 case gmap=>
  intro a kt es b' N' e1 m1;rcases get e1 with⟨rfl,h1⟩|⟨hne,h1⟩
  ·cases h1
  ·obtain⟨k1,en,cl,k2,k3⟩:=h.map _ _ _ _ _ h1 m1;have hbb:b'≠b:=by intro q;subst q;rw [hw]at k2;cases k2
   exact⟨k1,en,cl,by rw [zaw hbb];exact k2,k3⟩
 case gloop=>
  intro a st pend fn nt T ps zAs bd dd b' N' e1 m1;rcases get e1 with⟨rfl,h1⟩|⟨hne,h1⟩
  ·cases h1
  ·obtain⟨k1,L,d,M,k2,k3⟩:=h.loop _ _ _ _ _ _ _ _ _ _ _ _ h1 m1;have hbb:b'≠b:=by intro q;subst q;rw [hw]at k2;cases k2
   exact⟨k1,L,d,M,by rw [zaw hbb];exact k2,k3⟩
 case gdefd=>
  intro a op b' N' e1 m1;rcases get e1 with⟨rfl,h1⟩|⟨hne,h1⟩
  ·cases h1
  ·obtain⟨k1,k2⟩:=h.defd _ _ _ _ h1 m1;have hbb:b'≠b:=by intro q;subst q;rw [hw]at k2;cases k2
   exact⟨k1,by rw [zaw hbb];exact k2⟩
def AH.versioned(H:AH)(fam ver lw:Nat)(e:TypeId)(cs:AV):AH:=
 {res:=H.res,next:=H.next+1,objs:=Tr.set deep H.objs H.next (some (.cells fam (ver+1) e cs)),fams:=Tr.set deep H.fams fam (some (H.next,lw))}
theorem zkP{β:Type}{i:Nat}{xs:AV}{k:Nat→AH→Option β}{r:β}(h:H.version i xs k=some r) :
  ∃fam ver e cs lw,H.objs.get i=some (.cells fam ver e cs)∧H.fams.get fam=some (i,lw)∧lw≤ver∧xs.allOne=true∧k H.next (H.versioned fam ver lw e (cs.app xs))=some r:=by
 unfold AH.version at h;split at h
 ·rename_i fam ver e cs ho;split at h
  ·rename_i tip lw hf
   cases hc:(Nat.beq tip i && Nat.ble lw ver && xs.allOne)with
   | false=>rw [hc]at h;simp at h
   | true=>
    rw [hc]at h;simp only [Bool.and_eq_true]at hc;obtain⟨⟨h1,h2⟩,h3⟩:=hc;simp only [cond_true,AV.force_eq,Tr.setK_eq,fN_eq]at h;have:=(zam _ _).1 h1;subst this;exact⟨fam,ver,e,cs,lw,ho,hf,Nat.le_of_ble_eq_true h2,h3,h⟩
  ·simp at h
 ·simp at h
theorem Rep.layVersion(h:Rep P B w0 G μ H w){i fam ver lw:Nat}{e:TypeId}{cs:AV}(ho:H.objs.get i=some (.cells fam ver e cs))(hf:H.fams.get fam=some (i,lw))(cs':AV) :
  Rep P B w0 G μ (H.versioned fam ver lw e cs') w:=by
 have hun:=h.notYet (i:=H.next) (Nat.le_refl _);have get:∀{j o'},(H.versioned fam ver lw e cs').objs.get j=some o'→(j=H.next∧o' = .cells fam (ver+1) e cs')∨(j<H.next∧H.objs.get j=some o'):=by
  intro j o' q;rcases Tr.get_set deep H.objs H.next (some (.cells fam (ver+1) e cs')) j o' q with⟨h1,h2⟩|⟨_,h2⟩
  ·exact .inl ⟨h1,by simpa using h2.symm⟩
  ·exact .inr ⟨(h.own _ _ h2).1,h2⟩
 have old:∀{j o b N},(H.versioned fam ver lw e cs').objs.get j=some o→μ j=some (b,N)→H.objs.get j=some o:=by
  intro j o b N q hm;rcases get q with⟨rfl,_⟩|⟨_,q⟩
  ·rw [hun]at hm;cases hm
  ·exact q
 have getF:∀{f t l},(H.versioned fam ver lw e cs').fams.get f=some (t,l)→(f=fam∧t=H.next∧l=lw)∨(f≠fam∧H.fams.get f=some (t,l)):=by
  intro f t l q;rcases Tr.get_set deep H.fams fam (some (H.next,lw)) f (t,l) q with⟨h1,h2⟩|h2
  ·cases h2;exact .inl ⟨h1,rfl,rfl⟩
  ·exact .inr h2
 refine⟨h.resd,fun i v q=>Nat.lt_succ_of_lt (h.hdom i v q),?gfact,h.free,h.below,h.base,?gdom,h.glob,?gown,?gsep,?gvtop,?gtip,?gwrite,?gcells,?gmap,?gloop,?gdefd⟩
 case gfact=>
  intro j t q;rcases get q with⟨_,q⟩|⟨_,q⟩
  ·cases q
  ·exact h.fact _ _ q
 case gdom=>intro j b N q;have:=h.dom _ _ _ q;exact⟨Nat.lt_succ_of_lt this.1,this.2⟩
 case gown=>
  intro j o q;rcases get q with⟨rfl,rfl⟩|⟨_,q⟩
  ·exact⟨Nat.lt_succ_self _,Nat.lt_succ_of_lt (h.own _ _ ho).2⟩
  ·have:=h.own _ _ q;exact⟨Nat.lt_succ_of_lt this.1,Nat.lt_succ_of_lt this.2⟩
 case gsep=>exact fun i j oi oj b N M h1 h2 h3 h4=>h.sep i j oi oj b N M (old h1 h3) (old h2 h4) h3 h4
 case gvtop=>
  intro a c f va ea ca vc ec cc l e1 e2 e3 hne;rcases getF e3 with⟨rfl,rfl,rfl⟩|⟨hfne,h3⟩
  ·rcases get e2 with⟨_,h2⟩|⟨hlt,_⟩
   ·cases h2
    rcases get e1 with⟨h1,_⟩|⟨_,h1⟩
    ·exact absurd h1 hne
    ·by_cases hai:a=i
     ·subst hai;rw [ho]at h1;cases h1;omega
     ·have:=h.vtop _ _ _ _ _ _ _ _ _ _ h1 ho hf hai;omega
   ·omega
  ·have hc:c<H.next∧H.objs.get c=some (.cells f vc ec cc):=by
    rcases get e2 with⟨_,h2⟩|h2
    ·cases h2;exact absurd rfl hfne
    ·exact h2
   have ha:H.objs.get a=some (.cells f va ea ca):=by
    rcases get e1 with⟨_,h2⟩|h2
    ·cases h2;exact absurd rfl hfne
    ·exact h2.2
   exact h.vtop _ _ _ _ _ _ _ _ _ _ ha hc.2 h3 hne
 case gtip=>
  intro a c f va ea ca vc ec cc l b N M e1 e2 e3 h4 m1 m2;rcases getF e3 with⟨_,rfl,_⟩|⟨hfne,h3⟩
  ·rw [hun]at m2;cases m2
  ·exact h.tip _ _ _ _ _ _ _ _ _ _ _ _ _ (old e1 m1) (old e2 m2) h3 h4 m1 m2
 case gwrite=>
  intro a f v e' c l b N e1 e2 m1;rcases getF e2 with⟨_,rfl,_⟩|⟨hfne,h3⟩
  ·rw [hun]at m1;cases m1
  ·exact h.write _ _ _ _ _ _ _ _ (old e1 m1) h3 m1
 case gcells=>
  intro a f v e' c t l b N e1 e2 e3 m1;rcases getF e2 with⟨rfl,_,rfl⟩|⟨hfne,h3⟩
  ·exact h.cells _ _ _ _ _ _ _ _ _ (old e1 m1) hf e3 m1
  ·exact h.cells _ _ _ _ _ _ _ _ _ (old e1 m1) h3 e3 m1
 case gmap=>exact fun a kt es b N h1 h2=>h.map _ _ _ _ _ (old h1 h2) h2
 case gloop=>exact fun a st pend fn nt T ps zAs bd dd b N h1 h2=>h.loop _ _ _ _ _ _ _ _ _ _ _ _ (old h1 h2) h2
 case gdefd=>exact fun a op b N h1 h2=>h.defd _ _ _ _ (old h1 h2) h2
theorem Rep.versionHere(h:Rep P B w0 G μ H w){i fam ver lw b N:Nat}{e:TypeId}{cs xs:AV}{ys:List Value}(ho:H.objs.get i=some (.cells fam ver e cs))(hf:H.fams.get fam=some (i,lw))(hl:lw≤ver)
  (hm:μ i=some (b,N)) (hx:LR μ xs ys) (hroom:cs.len+ys.length≤N) :
  ∃arr te,w.heap[b]? = some (.cells arr te (0,0))∧arr.size=N ∧
   Rep P B w0 G (μ.add H.next b N) (H.versioned fam ver lw e (cs.app xs)) (w.setRow b (arr.toList.take cs.len ++ ys ++ arr.toList.drop (cs.len+ys.length)).toArray):=by
 obtain⟨arr,te,fz,hw,hN,hcN,hLR,hfz⟩:=h.cells _ _ _ _ _ _ _ _ _ ho hf hl hm;have hB:=h.write _ _ _ _ _ _ _ _ ho hf hm;rw [hfz hB]at hw;have hAl:arr.toList.length=N:=by simpa using hN
 refine⟨arr,te,hw,hN,?_⟩;have hun:=h.notYet (i:=H.next) (Nat.le_refl _);have hle:μ.le (μ.add H.next b N):=Mu.le_add hun;have hv:=h.layVersion ho hf (cs.app xs);have htl:=Tr.get_set deep H.fams fam (some (H.next,lw));have hnew:LR μ (cs.app xs) (((arr.toList.take cs.len ++ ys ++ arr.toList.drop (cs.len+ys.length)).toArray).toList.take (cs.app xs).len):=by
  rw [zkk hLR.isList,←hx.len];have:((arr.toList.take cs.len ++ ys ++ arr.toList.drop (cs.len+ys.length)).toArray).toList.take (cs.len+ys.length)=arr.toList.take cs.len ++ ys:=by
   simp only;rw [List.take_append_of_le_length (by simp;omega),List.take_of_length_le (by simp;omega)]
  rw [this];exact LR.app hx hLR
 have get:∀{j o'},(H.versioned fam ver lw e (cs.app xs)).objs.get j=some o'→(j=H.next∧o' = .cells fam (ver+1) e (cs.app xs))∨(j<H.next∧H.objs.get j=some o'):=by
  intro j o' q;rcases Tr.get_set deep H.objs H.next (some (.cells fam (ver+1) e (cs.app xs))) j o' q with⟨h1,h2⟩|⟨_,h2⟩
  ·exact .inl ⟨h1,by simpa using h2.symm⟩
  ·exact .inr ⟨(h.own _ _ h2).1,h2⟩
 have getF:∀{f t l},(H.versioned fam ver lw e (cs.app xs)).fams.get f=some (t,l)→(f=fam∧t=H.next∧l=lw)∨(f≠fam∧H.fams.get f=some (t,l)):=by
  intro f t l q;rcases htl f (t,l) q with⟨h1,h2⟩|h2
  ·cases h2;exact .inl ⟨h1,rfl,rfl⟩
  ·exact .inr h2
 have split:∀{j o' b' M},(H.versioned fam ver lw e (cs.app xs)).objs.get j=some o'→μ.add H.next b N j=some (b',M) →
   (j=H.next∧o' = .cells fam (ver+1) e (cs.app xs)∧b'=b∧M=N)∨(j<H.next∧H.objs.get j=some o'∧μ j=some (b',M)):=by
  intro j o' b' M q m;rcases get q with⟨rfl,rfl⟩|⟨hlt,q⟩
  ·rcases Mu.add_cases m with⟨_,m⟩|⟨hne,_⟩
   ·cases m;exact .inl ⟨rfl,rfl,rfl,rfl⟩
   ·exact absurd rfl hne
  ·rcases Mu.add_cases m with⟨rfl,_⟩|⟨_,m⟩
   ·omega
   ·exact .inr ⟨hlt,q,m⟩
 refine⟨hv.resd,fun i v q=>hv.hdom i v q,?gfact,?gfree,zgV h.below hB _,h.base,?gdom,?gglob,hv.own,?gsep,hv.vtop,?gtip,?gwrite,?gcells,?gmap,?gloop,?gdefd⟩
 case gdom=>
  intro j c M q;rw [size_setRow];rcases Mu.add_cases q with⟨rfl,q'⟩|⟨_,q'⟩
  ·cases q';exact⟨Nat.lt_succ_self _,(h.dom _ _ _ hm).2⟩
  ·have:=h.dom _ _ _ q';exact⟨Nat.lt_succ_of_lt this.1,this.2⟩
 case gfact=>
  intro j t q;obtain⟨v,h3,h4⟩:=hv.fact _ _ q;exact⟨v,h3,G.stable _ _ _ _ (zhJ hw (h.free _ _ _ hm hB _ _ _ hw) _) h4⟩
 case gfree=>
  intro j c M q hc cs' te' fz' q2;rcases Mu.add_cases q with⟨_,q'⟩|⟨_,q'⟩
  ·cases q';exact zfv h hw _ _ _ _ hm hc _ _ _ q2
  ·exact zfv h hw _ _ _ _ q' hc _ _ _ q2
 case gglob=>intro g hg;obtain⟨M,q⟩:=h.glob g hg;exact⟨M,hle _ _ q⟩
 case gsep=>
  intro a c oa oc b' M M' e1 e2 m1 m2;rcases split e1 m1 with⟨rfl,rfl,rfl,rfl⟩|⟨_,h1,k1⟩ <;> rcases split e2 m2 with⟨rfl,rfl,q3,q4⟩|⟨_,h2,k2⟩
  ·rfl
  ·have q:=h.sep _ _ _ _ _ _ _ ho h2 hm k2;exact q
  ·subst q3;have q:=h.sep _ _ _ _ _ _ _ h1 ho k1 hm;exact q
  ·exact h.sep _ _ _ _ _ _ _ h1 h2 k1 k2
 case gtip=>
  intro a c f va ea ca vc ec cc l b' M M' e1 e2 e3 h4 m1 m2;rcases getF e3 with⟨rfl,rfl,rfl⟩|⟨hfne,h3⟩
  ·rcases split e2 m2 with⟨_,q2,rfl,rfl⟩|⟨hlt,_⟩
   ·cases q2
    rcases split e1 m1 with⟨_,q1,_⟩|⟨_,h1,k1⟩
    ·cases q1;exact Nat.le_refl _
    ·have:=h.tip _ _ _ _ _ _ _ _ _ _ _ _ _ h1 ho hf h4 k1 hm;rw [zkk hLR.isList];omega
   ·omega
  ·rcases split e1 m1 with⟨_,q1,_⟩|⟨_,h1,k1⟩
   ·cases q1;exact absurd rfl hfne
   ·rcases split e2 m2 with⟨_,q2,_⟩|⟨_,h2,k2⟩
    ·cases q2;exact absurd rfl hfne
    ·exact h.tip _ _ _ _ _ _ _ _ _ _ _ _ _ h1 h2 h3 h4 k1 k2
 case gwrite=>
  intro a f v e' c l b' M e1 e2 m1;rcases split e1 m1 with⟨_,_,rfl,_⟩|⟨hlt,h1,k1⟩
  ·exact hB
  ·rcases getF e2 with⟨_,rfl,_⟩|⟨_,h3⟩
   ·omega
   ·exact h.write _ _ _ _ _ _ _ _ h1 h3 k1
 case gcells=>
  intro a f v e' c t l b' M e1 e2 e3 m1;rcases split e1 m1 with⟨rfl,q1,rfl,rfl⟩|⟨hlt,h1,k1⟩
  ·cases q1
   refine⟨_,te,(0,0),zb7 hw,?_,?_,hnew.mono hle,fun _=>rfl⟩
   ·simp;omega
   ·rw [zkk hLR.isList,←hx.len];exact hroom
  ·have hlive:∃t' ,H.fams.get f=some (t',l):=by
    rcases getF e2 with⟨rfl,_,rfl⟩|⟨_,h3⟩
    ·exact⟨_,hf⟩
    ·exact⟨_,h3⟩
   obtain⟨t',h3⟩:=hlive;obtain⟨arr',te',fz',p1,p2,p3,p4,p5⟩:=h.cells _ _ _ _ _ _ _ _ _ h1 h3 e3 k1;by_cases hbb:b'=b
   ·subst hbb;rw [hw]at p1;cases p1;have hfam:f=fam:=h.sep _ _ _ _ _ _ _ h1 ho k1 hm;subst hfam;rw [hf]at h3;cases h3;have hshort:=h.tip _ _ _ _ _ _ _ _ _ _ _ _ _ h1 ho hf e3 k1 hm;refine⟨_,te,(0,0),zb7 hw,by simp;omega,p3,?_,fun _=>rfl⟩;have:((arr.toList.take cs.len ++ ys ++ arr.toList.drop (cs.len+ys.length)).toArray).toList.take c.len=arr.toList.take c.len:=by
     simp only;rw [List.append_assoc,List.take_append_of_le_length (by simp;omega),List.take_take,Nat.min_eq_left hshort]
    rw [this];exact p4.mono hle
   ·exact⟨arr',te',fz',by rw [zaw hbb];exact p1,p2,p3,p4.mono hle,p5⟩
 case gmap=>
  intro a kt es b' M e1 m1;rcases split e1 m1 with⟨_,q1,_⟩|⟨hlt,h1,k1⟩
  ·cases q1
  ·obtain⟨p1,en,cl,p2,p3⟩:=h.map _ _ _ _ _ h1 k1;have hbb:b'≠b:=by intro q;subst q;rw [hw]at p2;cases p2
   exact⟨p1,en,cl,by rw [zaw hbb];exact p2,p3.mono hle⟩
 case gloop=>
  intro a st pend fn nt T ps zAs bd dd b' M e1 m1;rcases split e1 m1 with⟨_,q1,_⟩|⟨hlt,h1,k1⟩
  ·cases q1
  ·obtain⟨p1,L,d,M',p2,p3,p4,p5,p6,p7,p8,p9,p10⟩:=h.loop _ _ _ _ _ _ _ _ _ _ _ _ h1 k1;have hbb:b'≠b:=by intro q;subst q;rw [hw]at p2;cases p2
   exact⟨p1,L,d,M',by rw [zaw hbb];exact p2,p3,p4,p5.mono hle,p6,p7,p8,hle _ _ p9,p10⟩
 case gdefd=>
  intro a op b' M e1 m1;rcases split e1 m1 with⟨_,q1,_⟩|⟨hlt,h1,k1⟩
  ·cases q1
  ·obtain⟨p1,p2⟩:=h.defd _ _ _ _ h1 k1;have hbb:b'≠b:=by intro q;subst q;rw [hw]at p2;cases p2
   exact⟨p1,by rw [zaw hbb];exact p2⟩
end
section
variable {P:Program} {w:World}
theorem pure?_run{α:Type}:∀{s:Sem α} {a:α},pure? P s=some a→s.run P w = .ok a w
 | .pure a,b,h=>by simp [pure?]at h;subst h;rfl
 | .program k,b,h=>by
  simp only [pure?]at h;simp only [Sem.run];exact pure?_run h
 | .load ..,_,h | .store ..,_,h | .new ..,_,h | .shape ..,_,h | .freeze ..,_,h | .frozen ..,_,h | .getObj ..,_,h | .setObj ..,_,h | .choose ..,_,h | .sys ..,_,h | .mark ..,_,h | .halt ..,_,h=>by simp [pure?]at h
theorem zcx{s:Sem Value}{v:AV}(μ:Mu)(h:zfQ P s=some v):∃x,s.run P w = .ok x w∧VR μ v x:=by
 unfold zfQ at h;split at h
 ·rename_i u hu;simp only [Option.map_eq_some_iff]at h;obtain⟨q,hq,rfl⟩:=h;exact⟨u,pure?_run hu,(Sc.of_val hq).symm⟩
 ·simp at h
theorem zgO{t:TypeId}{n:Nat}(h:zdH P t=some n):∃i,P.info? t=some i∧i.size=n:=by
 unfold zdH at h;split at h
 ·rename_i i hi;simp at h;exact⟨i,hi,h⟩
 ·simp at h
theorem zbb{t:TypeId}{n:Nat}(h:zdH P t=some n)(w:World):(sizeOf t).run P w = .ok n w:=by
 obtain⟨i,hi,rfl⟩:=zgO h;simp [sizeOf,typeInfo,hi]
theorem zjT{t:TypeId}{q:Bool}(h:aggT P t=some q)(w:World):(isAgg t).run P w = .ok q w:=by
 unfold aggT at h;split at h
 ·rename_i f hu;simp at h;subst h;simp [isAgg,run_underlying hu]
 ·rename_i n e hu;simp at h;subst h;simp [isAgg,run_underlying hu]
 ·rename_i d h1 h2 hu;simp at h;subst h
  simp only [isAgg,Sem.run_bind,run_underlying hu,Result.andThen_ok];rfl
 ·simp at h
theorem zfh{t:TypeId}{z:AV}(μ:Mu)(h:zfG P t=some z):∃i x,P.info? t=some i∧i.zero=some x∧VR μ z x∧∀w,(zeroValue t).run P w = .ok x w:=by
 unfold zfG at h;split at h
 ·rename_i i hi;split at h
  ·rename_i x hx;exact⟨i,x,hi,hx,zj8 μ h,fun w=>by simp [zeroValue,typeInfo,hi,hx]⟩
  ·simp at h
 ·simp at h
theorem zqj{v:AV}{n:Nat}(h:ziv v=some n):∃k,v = .sc (.int k (n:Int)):=by
 unfold ziv at h;split at h
 ·simp at h;subst h;exact⟨_,rfl⟩
 ·simp at h
theorem VR.cells{μ:Mu}{v:AV}{x:Value}(h:VR μ v x):LR μ v.cells x.cells.toList:=by
 cases v with
 | agg cs=>obtain⟨xs,rfl,hx⟩:=h;exact hx
 | sc s=>
  have hx:x=s.val:=h;subst hx
  cases s <;> exact LR.cons rfl rfl
 | ptr i o=>obtain⟨b,N,hm,rfl⟩:=h;exact LR.cons ⟨b,N,hm,rfl⟩ rfl
 | slc i o l c e s=>obtain⟨b,N,q,hm,rfl,h1⟩:=h;exact LR.cons ⟨b,N,q,hm,rfl,h1⟩ rfl
 | map i=>obtain⟨b,N,hm,rfl⟩:=h;exact LR.cons ⟨b,N,hm,rfl⟩ rfl
 | yield i=>obtain⟨b,N,hm,rfl⟩:=h;exact LR.cons ⟨b,N,hm,rfl⟩ rfl
 | fn f a b=>obtain⟨xs,ys,rfl,h1⟩:=h;exact LR.cons ⟨xs,ys,rfl,h1⟩ rfl
 | hc i k=>
  have h':=h;obtain⟨v,h1,h2,h3⟩:=h;have e:x.cells=#[x]:=by cases x <;> first|rfl|simp [Value.oneCell']at h3
  rw [e];exact LR.cons h' rfl
 | hs i=>obtain⟨s,h1,rfl⟩:=h;exact LR.cons ⟨s,h1,rfl⟩ rfl
 | iface t v=>obtain⟨y,rfl,h1⟩:=h;exact LR.cons ⟨y,rfl,h1⟩ rfl
 | tup cs=>obtain⟨xs,rfl,h1⟩:=h;exact LR.cons ⟨xs,rfl,h1⟩ rfl
 | nil=>exact h.elim
 | cons a t=>exact h.elim
theorem zeh(b o n:Nat):(⟨b,o,none⟩:Addr).add n=⟨b,o+n,none⟩:=by unfold Addr.add;split <;> simp_all
theorem znN{μ:Mu}{t:TypeId}{cs:AV}{off:Nat}{v:AV}{xs:Array Value}(h:znP P t cs off=some v)(hx:LR μ cs xs.toList)(w:World):∃x,(part t xs off).run P w = .ok x w∧VR μ v x:=by
 unfold znP at h;split at h
 ·rename_i n ha hs;simp only at h
  cases hb:Nat.beq ((cs.drop off).take n).len n with
  | false=>rw [hb]at h;simp at h
  | true=>
   rw [hb]at h;simp only [cond_true,Option.some.injEq]at h;subst h;refine⟨.agg (xs.extract off (off+n)),by simp [part,zjT ha,zbb hs],_,rfl,?_⟩;have:=(hx.drop off).take n;have he:(xs.extract off (off+n)).toList=(xs.toList.drop off).take n:=by
    rw [Array.toList_extract,List.extract_eq_take_drop,Nat.add_sub_cancel_left]
   rw [he];exact this
 ·rename_i n ha hs;obtain⟨x,h1,h2⟩:=hx.nth h;have h1':xs[off]? = some x:=by simpa using h1
  exact⟨x,by simp [part,zjT ha,h1'],h2⟩
 ·simp at h
theorem za1{t:TypeId}{v:AV}(h:zaZ P t v=true) :
  (∃k n,P.underlying t=some (.int k)∧v = .sc (.int k n))∨(∃s,P.underlying t=some .string∧v = .sc (.str s))∨(∃b,P.underlying t=some .bool∧v = .sc (.bool b)) ∨
  (∃n e k cs,P.underlying t=some (.array n e)∧P.underlying e=some (.int k)∧zdH P e=some 1∧v = .agg cs∧cs.len=n∧zcI k cs=true):=by
 unfold zaZ at h;split at h
 ·rename_i k k' n hu;exact .inl ⟨k,n,hu,by rw [znc h]⟩
 ·rename_i s hu;exact .inr (.inl ⟨s,hu,rfl⟩)
 ·rename_i b hu;exact .inr (.inr (.inl ⟨b,hu,rfl⟩))
 ·rename_i n e cs hu;split at h
  ·rename_i k he hs;simp only [Bool.and_eq_true]at h;exact .inr (.inr (.inr ⟨n,e,k,cs,hu,he,hs,rfl,(zam _ _).1 h.1,h.2⟩))
  ·simp at h
 ·simp at h
theorem zq2(n:Int):beqI n n=true:=by cases n <;> simp [beqI]
theorem zik(k:IntKind):beqK k k=true:=by cases k <;> rfl
theorem zkz(a b:Int):beqI a b=(a == b):=by
 rw [Bool.eq_iff_iff,beq_iff_eq];exact⟨zq3,fun h=>h ▸ zq2 a⟩
theorem zg9(a b:Bool):beqB a b=(a == b):=by cases a <;> cases b <;> rfl
theorem zee:∀l:List UInt8,zc8 l l=true
 | []=>rfl
 | b :: t=>by simp [zc8,zee t]
theorem zgD(a b:ByteArray):zc8 a.data.toList b.data.toList=(a == b):=by
 have e:(a == b)=(a.data == b.data):=rfl;rw [e,Bool.eq_iff_iff,beq_iff_eq];constructor
 ·intro h;exact Array.toList_inj.1 (zfB h)
 ·intro h;rw [h];exact zee _
theorem zdv{k:IntKind}{h t:AV}(q:zcI k (.cons h t)=true):∃n,h = .sc (.int k n)∧zcI k t=true:=by
 cases h with
 | sc s=>cases s with
  | int k' n=>simp only [zcI,Bool.and_eq_true]at q;exact⟨n,by rw [znc q.1],q.2⟩
  | _=>simp [zcI]at q
 | _=>simp [zcI]at q
theorem zm2{μ:Mu}{e:TypeId}{k:IntKind}(he:P.underlying e=some (.int k))(d:Nat)(xs ys:Array Value)(w:World):∀(a b:AV) (s m:Nat),
  LR μ a (xs.toList.drop s)→LR μ b (ys.toList.drop s)→zcI k a=true→zcI k b=true→a.len=m→b.len=m →
  (Op.eqItems (d+1) e 1 xs ys (List.range' s m)).run P w = .ok (a.beq b) w:=by
 intro a;induction a with
 | nil=>
  intro b s m ha hb h1 h2 h3 h4;simp [AV.len]at h3;subst h3
  cases b with
  | nil=>simp [Op.eqItems,AV.beq]
  | cons x t=>simp [AV.len]at h4
  | _=>exact hb.elim
 | cons h t _ ih=>
  intro b s m ha hb h1 h2 h3 h4
  cases b with
  | nil=>simp [AV.len]at h3 h4;omega
  | cons h' t'=>
   obtain⟨n,rfl,i1⟩:=zdv h1;obtain⟨n',rfl,i2⟩:=zdv h2;obtain⟨x,r,e1,x1,r1⟩:=ha;obtain⟨y,q,e2,y1,r2⟩:=hb;have hx:x = .int k n:=x1;have hy:y = .int k n':=y1;subst hx;subst hy;have gx:xs[s]? = some (.int k n):=by
    have:=congrArg (fun l=>l[0]?) e1;simpa using this
   have gy:ys[s]? = some (.int k n'):=by
    have:=congrArg (fun l=>l[0]?) e2;simpa using this
   have dx:xs.toList.drop (s+1)=r:=by rw [←List.drop_drop,e1];rfl
   have dy:ys.toList.drop (s+1)=q:=by rw [←List.drop_drop,e2];rfl
   obtain⟨m',rfl⟩:∃m',m=m'+1:=⟨t.len,by simp [AV.len]at h3;omega⟩;have ih':=ih t' (s+1) m' (by rw [dx];exact r1) (by rw [dy];exact r2) i1 i2 (by simp [AV.len]at h3;omega) (by simp [AV.len]at h4;omega);rw [List.range'_succ];simp only [Op.eqItems,Sem.run_bind,Nat.mul_one];have p1:(part e xs s).run P w = .ok (.int k n) w:=by simp [part,isAgg,run_underlying he,gx]
   have p2:(part e ys s).run P w = .ok (.int k n') w:=by simp [part,isAgg,run_underlying he,gy]
   have p3:(Op.equalIn (d+1) e (.int k n) (.int k n')).run P w = .ok (n == n') w:=by simp [Op.equalIn,run_underlying he]
   rw [p1];simp only [Result.andThen_ok];rw [p2];simp only [Result.andThen_ok];rw [p3];simp only [Result.andThen_ok];have hb:(AV.cons (.sc (.int k n)) t).beq (.cons (.sc (.int k n')) t')=((n == n') && t.beq t'):=by
    simp only [AV.beq,Sc.beq,zik,Bool.true_and,zkz]
   rw [hb]
   cases hq:(n == n')with
   | false=>simp
   | true=>simp only [Bool.not_true,Bool.false_eq_true,if_false,Bool.true_and];exact ih'
  | _=>exact hb.elim
 | _=>intro b s m ha;exact ha.elim
theorem zlT{μ:Mu}{t:TypeId}{a b:AV}{x y:Value}(ha:zaZ P t a=true)(hb:zaZ P t b=true)(hx:VR μ a x)(hy:VR μ b y)(d:Nat)(w:World) :
  (Op.equalIn (d+2) t x y).run P w = .ok (a.beq b) w:=by
 rcases za1 ha with⟨k,n,hu,rfl⟩|⟨s,hu,rfl⟩|⟨q,hu,rfl⟩|⟨n,e,k,cs,hu,he,hs,rfl,hl,hi⟩ <;>
  rcases za1 hb with⟨k',n',hu',rfl⟩|⟨s',hu',rfl⟩|⟨q',hu',rfl⟩|⟨n',e',k',cs',hu',he',hs',rfl,hl',hi'⟩ <;> rw [hu]at hu' <;> try (simp at hu';done)
 ·have hx':x = .int k n:=hx;have hy':y = .int k' n':=hy;simp at hu';subst hu'
  subst hx';subst hy';simp [Op.equalIn,run_underlying hu,AV.beq,Sc.beq,zik,zkz]
 ·have hx':x = .string s:=hx;have hy':y = .string s':=hy;subst hx';subst hy';simp [Op.equalIn,run_underlying hu,AV.beq,Sc.beq,zgD]
 ·have hx':x = .bool q:=hx;have hy':y = .bool q':=hy;subst hx';subst hy';simp [Op.equalIn,run_underlying hu,AV.beq,Sc.beq,zg9]
 ·obtain⟨xs,rfl,hx1⟩:=hx;obtain⟨ys,rfl,hy1⟩:=hy;simp at hu'
  obtain⟨rfl,rfl⟩:=hu';rw [he]at he';simp at he';subst he';obtain⟨i,hinf,hsz⟩:=zgO hs;rw [run_equalIn_array w (d+1) xs ys hu hinf];have hc:P.cellsOf e=1:=by simp [Program.cellsOf,hinf,hsz]
  rw [hc,List.range_eq_range'];have:=zm2 he d xs ys w cs cs' 0 n (by rw [List.drop_zero];exact hx1) (by rw [List.drop_zero];exact hy1) hi hi' hl hl';simpa [AV.beq]using this
end
end Go.Eng
