/-
  An abstract machine for closed runs: values whose blocks bear numbers of their own, a heap in which an append is a new version of a family. 
  Conditions: see each statement.
-/
import Derived.RangeFuncLeaves
import Derived.OrdersIn
import Derived.LoopNIn
import Derived.Below
import Derived.RangeFuncCalls
namespace Go.Eng
inductive Tr(α:Type) where
 | nil
 | node (l:Tr α) (v:Option α) (r:Tr α)
def Tr.get{α:Type}:Tr α→Nat→Option α
 | .nil,_=>none
 | .node l v r,n=>bif Nat.beq n 0 then v else bif Nat.beq (n%2) 1 then l.get (n/2)else r.get (n/2-1)
def Tr.setK{α β:Type}:Nat→Tr α→Nat→Option α→(Tr α→β)→β
 | 0,_,_,_,k=>k .nil
 | f+1,.nil,n,x,k=>
  bif Nat.beq n 0 then k (.node .nil x .nil)
  else bif Nat.beq (n%2) 1 then Tr.setK f .nil (n/2) x fun l=>k (.node l none .nil)
  else Tr.setK f .nil (n/2-1) x fun r=>k (.node .nil none r)
 | f+1,.node l v r,n,x,k=>
  bif Nat.beq n 0 then k (.node l x r)
  else bif Nat.beq (n%2) 1 then Tr.setK f l (n/2) x fun l=>k (.node l v r)
  else Tr.setK f r (n/2-1) x fun r=>k (.node l v r)
inductive Sc where
 | bool (b:Bool)
 | int (k:IntKind) (n:Int)
 | str (s:ByteArray)
 | nilPtr
 | nilSlice
 | nilMap
 | nilFunc
 | nilIface
 | undef
def Sc.val:Sc→Value
 | .bool b => .bool b
 | .int k n => .int k n
 | .str s => .string s
 | .nilPtr => .pointer none
 | .nilSlice => .slice none 0 0
 | .nilMap => .map none
 | .nilFunc => .nilFunc
 | .nilIface => .nilIface
 | .undef => .tuple #[]
def Sc.of:Value→Option Sc
 | .bool b=>some (.bool b)
 | .int k n=>some (.int k n)
 | .string s=>some (.str s)
 | .pointer none=>some .nilPtr
 | .slice none 0 0=>some .nilSlice
 | .map none=>some .nilMap
 | .nilFunc=>some .nilFunc
 | .nilIface=>some .nilIface
 | _=>none
inductive AV where
 | sc (s:Sc)
 | ptr (i o:Nat)
 | slc (i o len cm:Nat) (ex:Bool) (esz:Nat)
 | map (i:Nat)
 | yield (i:Nat)
 | fn (f:FuncId) (fs cs:AV)
 | hc (i k:Nat)
 | hs (i:Nat)
 | iface (t:TypeId) (v:AV)
 | agg (cs:AV)
 | tup (cs:AV)
 | nil
 | cons (h t:AV)
def fN{β:Type}(n:Nat)(k:Nat→β):β:=match n with|0=>k 0|m+1=>k (m+1)
def fI{β:Type}(n:Int)(k:Int→β):β:=match n with | .ofNat m=>fN m fun m=>k (.ofNat m) | .negSucc m=>fN m fun m=>k (.negSucc m)
def fB{β:Type}(b:Bool)(k:Bool→β):β:=match b with|true=>k true|false=>k false
def fBytes{β:Type}:List UInt8→(List UInt8→β)→β
 | [],k=>k []
 | b :: t,k=>fN b.toNat fun n=>fBytes t fun t=>k (UInt8.ofNat n :: t)
def Sc.force{β:Type}(s:Sc)(k:Sc→β):β:=
 match s with
 | .bool b=>fB b fun b=>k (.bool b)
 | .int q n=>fI n fun n=>k (.int q n)
 | .str s=>fBytes s.data.toList fun l=>k (.str ⟨⟨l⟩⟩)
 | s=>k s
def AV.force{β:Type}:AV→(AV→β)→β
 | .sc s,k=>s.force fun s=>k (.sc s)
 | .ptr i o,k=>fN i fun i=>fN o fun o=>k (.ptr i o)
 | .slc i o len cm ex esz,k=>fN i fun i=>fN o fun o=>fN len fun len=>fN cm fun cm=>fB ex fun ex=>fN esz fun esz=>k (.slc i o len cm ex esz)
 | .map i,k=>fN i fun i=>k (.map i)
 | .yield i,k=>fN i fun i=>k (.yield i)
 | .fn f fs cs,k=>fs.force fun fs=>cs.force fun cs=>k (.fn f fs cs)
 | .hc i j,k=>fN i fun i=>fN j fun j=>k (.hc i j)
 | .hs i,k=>fN i fun i=>k (.hs i)
 | .iface t v,k=>v.force fun v=>k (.iface t v)
 | .agg cs,k=>cs.force fun cs=>k (.agg cs)
 | .tup cs,k=>cs.force fun cs=>k (.tup cs)
 | .nil,k=>k .nil
 | .cons h t,k=>h.force fun h=>t.force fun t=>k (.cons h t)
def AV.nth:AV→Nat→Option AV
 | .cons h _,0=>some h
 | .cons _ t,n+1=>t.nth n
 | _,_=>none
def AV.len:AV→Nat
 | .cons _ t=>t.len+1
 | _=>0
def AV.app:AV→AV→AV
 | .cons h t,u => .cons h (t.app u)
 | _,u=>u
def AV.take:AV→Nat→AV
 | .cons h t,n+1 => .cons h (t.take n)
 | _,_ => .nil
def AV.drop:AV→Nat→AV
 | t,0=>t
 | .cons _ t,n+1=>t.drop n
 | _,_ => .nil
def AV.put:AV→Nat→AV→Option AV
 | t,0,.cons x xs=>match t with
  | .cons _ r=>(r.put 0 xs).map (.cons x)
  | _=>none
 | t,0,_=>some t
 | .cons h t,n+1,xs=>(t.put n xs).map (.cons h)
 | _,_+1,_=>none
def AV.rep:Nat→AV→AV
 | 0,_ => .nil
 | n+1,z=>z.app (AV.rep n z)
def AV.isList:AV→Bool
 | .nil=>true
 | .cons _ t=>t.isList
 | _=>false
def AV.allOne:AV→Bool
 | .nil=>true
 | .cons h t=>(match h with | .agg _ | .tup _ | .nil | .cons _ _ | .sc .undef=>false|_=>true) && t.allOne
 | _=>false
def AV.cells:AV→AV
 | .agg cs=>cs
 | v => .cons v .nil
def beqK(a b:IntKind):Bool:=
 match a,b with
 | .i8,.i8 | .i16,.i16 | .i32,.i32 | .i64,.i64 | .u8,.u8 | .u16,.u16 | .u32,.u32 | .u64,.u64=>true
 | _,_=>false
def beqI(a b:Int):Bool:=
 match a,b with
 | .ofNat m,.ofNat n=>Nat.beq m n
 | .negSucc m,.negSucc n=>Nat.beq m n
 | _,_=>false
def beqBytes:List UInt8→List UInt8→Bool
 | [],[]=>true
 | a :: s,b :: t=>Nat.beq a.toNat b.toNat && beqBytes s t
 | _,_=>false
def beqB(a b:Bool):Bool:=match a,b with|true,true|false,false=>true|_,_=>false
def Sc.beq:Sc→Sc→Bool
 | .bool a,.bool b=>beqB a b
 | .int j a,.int k b=>beqK j k && beqI a b
 | .str a,.str b=>beqBytes a.data.toList b.data.toList
 | .nilPtr,.nilPtr | .nilSlice,.nilSlice | .nilMap,.nilMap | .nilFunc,.nilFunc | .nilIface,.nilIface | .undef,.undef=>true
 | _,_=>false
def AV.beq:AV→AV→Bool
 | .sc a,.sc b=>a.beq b
 | .ptr i o,.ptr j p=>Nat.beq i j && Nat.beq o p
 | .slc i o l c e s,.slc i' o' l' c' e' s'=>Nat.beq i i' && Nat.beq o o' && Nat.beq l l' && Nat.beq c c' && beqB e e' && Nat.beq s s'
 | .map i,.map j=>Nat.beq i j
 | .yield i,.yield j=>Nat.beq i j
 | .fn f a b,.fn g c d=>Nat.beq f g && a.beq c && b.beq d
 | .hc i a,.hc j b=>Nat.beq i j && Nat.beq a b
 | .hs i,.hs j=>Nat.beq i j
 | .iface t a,.iface u b=>Nat.beq t u && a.beq b
 | .agg a,.agg b=>a.beq b
 | .tup a,.tup b=>a.beq b
 | .nil,.nil=>true
 | .cons a b,.cons c d=>a.beq c && b.beq d
 | _,_=>false
def ofCells:List Value→Option AV
 | []=>some .nil
 | v :: r=>match Sc.of v,ofCells r with
  | some s,some t=>some (.cons (.sc s) t)
  | _,_=>none
def AV.ofVal(v:Value):Option AV:=
 match v with
 | .agg cs=>(ofCells cs.toList).map .agg
 | .tuple cs=>match cs.toList with | []=>some (.sc .undef)|_=>none
 | v=>(Sc.of v).map .sc
def scCells:AV→Option (List Value)
 | .nil=>some []
 | .cons (.sc s) t=>(scCells t).map (s.val :: ·)
 | _=>none
def AV.closed:AV→Option Value
 | .sc s=>some s.val
 | .agg cs=>(scCells cs).map fun l => .agg l.toArray
 | _=>none
inductive Tg where
 | leaf (n:Nat)
 | un (k:Nat) (a:Tg)
 | bin (k:Nat) (a b:Tg)
def Tg.beq:Tg→Tg→Bool
 | .leaf m,.leaf n=>Nat.beq m n
 | .un j a,.un k b=>Nat.beq j k && a.beq b
 | .bin j a b,.bin k c d=>Nat.beq j k && a.beq c && b.beq d
 | _,_=>false
inductive AObj where
 | opq (t:Tg)
 | cells (fam ver:Nat) (elem:TypeId) (cs:AV)
 | map (kt:TypeId) (es:AV)
 | loop (st:LoopState) (pend:Option Code) (fn:FuncId) (nt:Nat) (tmps:Tr AV) (params:List Tmp) (assign body:Code) (defers:Nat)
 | defd (isOpen:Bool)
structure AH where
 res:List TypeId
 next:Nat
 objs:Tr AObj
 fams:Tr (Nat × Nat)
abbrev deep:Nat:=64
def AH.withObj{β:Type}(H:AH)(i:Nat)(o:AObj)(k:AH→β):β:=
 Tr.setK deep H.objs i (some o) fun objs=>k {res:=H.res,next:=H.next,objs,fams:=H.fams}
def AH.newCells{β:Type}(H:AH)(elem:TypeId)(cs:AV)(k:Nat→AH→β):β:=
 cs.force fun cs=>fN H.next fun i=>fN (i+1) fun i'=>
  Tr.setK deep H.objs i (some (.cells i 0 elem cs)) fun objs=>Tr.setK deep H.fams i (some (i,0)) fun fams=>k i {res:=H.res,next:=i',objs,fams}
def AH.newObj{β:Type}(H:AH)(o:AObj)(k:Nat→AH→β):β:=
 fN H.next fun i=>fN (i+1) fun i'=>Tr.setK deep H.objs i (some o) fun objs=>k i {res:=H.res,next:=i',objs,fams:=H.fams}
def AH.live(H:AH)(i:Nat):Option (Nat × Nat × TypeId × AV):=
 match H.objs.get i with
 | some (.cells fam ver elem cs)=>match H.fams.get fam with
  | some (_,lw)=>bif Nat.ble lw ver then some (fam,ver,elem,cs)else none
  | none=>none
 | _=>none
def AH.cellsAt(H:AH)(i o n:Nat):Option AV:=
 match H.live i with
 | some (_,_,_,cs)=>let r:=(cs.drop o).take n;bif Nat.beq r.len n then some r else none
 | none=>none
def AH.storeCells{β:Type}(H:AH)(i o:Nat)(xs:AV)(k:AH→Option β):Option β:=
 match H.objs.get i with
 | some (.cells fam ver elem cs)=>match H.fams.get fam with
  | some (tip,lw)=>
   bif Nat.beq tip i && Nat.ble lw ver && xs.allOne then
    match cs.put o xs with
    | some cs=>cs.force fun cs=>Tr.setK deep H.objs i (some (.cells fam ver elem cs)) fun objs=>
      Tr.setK deep H.fams fam (some (tip,ver)) fun fams=>k {res:=H.res,next:=H.next,objs,fams}
    | none=>none
   else none
  | none=>none
 | _=>none
def AH.version{β:Type}(H:AH)(i:Nat)(xs:AV)(k:Nat→AH→Option β):Option β:=
 match H.objs.get i with
 | some (.cells fam ver elem cs)=>match H.fams.get fam with
  | some (tip,lw)=>
   bif Nat.beq tip i && Nat.ble lw ver && xs.allOne then
    (cs.app xs).force fun cs=>fN H.next fun j=>fN (j+1) fun j'=>fN (ver+1) fun ver'=>
     Tr.setK deep H.objs j (some (.cells fam ver' elem cs)) fun objs=>Tr.setK deep H.fams fam (some (j,lw)) fun fams=>k j {res:=H.res,next:=j',objs,fams}
   else none
  | none=>none
 | _=>none
def pure?{α:Type}(P:Program):Sem α→Option α
 | .pure a=>some a
 | .program k=>pure? P (k P)
 | _=>none
abbrev Env:=Operand→Option AV
def natOf:AV→Option Nat
 | .sc (.int _ (.ofNat n))=>some n
 | _=>none
def fillParts(place:Nat→Option (Nat × Nat))(ρ:Env):AV→List (Nat × Operand)→Option AV
 | cells,[]=>some cells
 | cells,(i,x) :: r=>match place i,ρ x with
  | some (off,n),some v=>bif Nat.beq v.cells.len n then match cells.put off v.cells with
    | some cells=>fillParts place ρ cells r
    | none=>none
   else none
  | _,_=>none
def zeroOf(P:Program)(t:TypeId):Option AV:=match P.info? t with|some i=>(match i.zero with|some z=>AV.ofVal z|none=>none)|none=>none
def sizeT(P:Program)(t:TypeId):Option Nat:=match P.info? t with|some i=>some i.size|none=>none
def aggT(P:Program)(t:TypeId):Option Bool:=match P.underlying t with|some (.struct _)|some (.array _ _)=>some true|some _=>some false|none=>none
abbrev Res(β:Type):=(AV→AH→Option β)→Option β
def ok{β:Type}(v:AV)(H:AH):Res β:=fun k=>v.force fun v=>k v H
def allInts(k:IntKind):AV→Bool
 | .nil=>true
 | .cons (.sc (.int k' _)) t=>beqK k k' && allInts k t
 | _=>false
def keyFits(P:Program)(t:TypeId)(v:AV):Bool:=
 match P.underlying t,v with
 | some (.int k),.sc (.int k' _)=>beqK k k'
 | some .string,.sc (.str _)=>true
 | some .bool,.sc (.bool _)=>true
 | some (.array n e),.agg cs=>match P.underlying e,sizeT P e with
  | some (.int k),some 1=>Nat.beq cs.len n && allInts k cs
  | _,_=>false
 | _,_=>false
def findE(k:AV):AV→Option AV
 | .cons (.cons k' v) r=>bif k.beq k' then some v else findE k r
 | _=>none
def updE(k v:AV):AV→AV
 | .cons (.cons k' v') r=>bif k.beq k' then .cons (.cons k' v) r else .cons (.cons k' v') (updE k v r)
 | _ => .cons (.cons k v) .nil
def scalar(P:Program)(s:Sem Value):Option AV:=
 match pure? P s with
 | some v=>(Sc.of v).map .sc
 | none=>none
def nilEq(P:Program)(t:TypeId)(x y:AV):Option Bool:=
 match P.underlying t,x,y with
 | some (.pointer _),.sc .nilPtr,.sc .nilPtr=>some true
 | some (.pointer _),.ptr _ _,.sc .nilPtr=>some false
 | some (.pointer _),.sc .nilPtr,.ptr _ _=>some false
 | some (.slice _),.sc .nilSlice,.sc .nilSlice=>some true
 | some (.slice _),.slc ..,.sc .nilSlice=>some false
 | some (.map _ _),.sc .nilMap,.sc .nilMap=>some true
 | some (.map _ _),.map _,.sc .nilMap=>some false
 | some (.func _ _ _),.sc .nilFunc,.sc .nilFunc=>some true
 | some (.func _ _ _),.fn ..,.sc .nilFunc=>some false
 | _,_,_=>none
def binV(P:Program)(op:BinOp)(t:TypeId)(x y:AV):Option AV:=
 match x,y with
 | .sc (.int j a),.sc (.int l b)=>scalar P (binOp op t (.int j a) (.int l b))
 | .sc (.bool a),.sc (.bool b)=>scalar P (binOp op t (.bool a) (.bool b))
 | .sc (.str a),.sc (.str b)=>scalar P (binOp op t (.string a) (.string b))
 | .agg a,.agg b=>
  bif keyFits P t (.agg a) && keyFits P t (.agg b) && !P.eqGuardType P.depth t then
   match op with
   | .eql=>some (.sc (.bool (a.beq b)))
   | .neq=>some (.sc (.bool (!a.beq b)))
   | _=>none
  else none
 | .hs i,.hs j=>bif Nat.beq i j then
   match P.underlying t,op with
   | some .string,.eql=>some (.sc (.bool true))
   | some .string,.neq=>some (.sc (.bool false))
   | _,_=>none
  else none
 | x,y=>match op,nilEq P t x y with
  | .eql,some b=>some (.sc (.bool b))
  | .neq,some b=>some (.sc (.bool (!b)))
  | _,_=>none
def srcOf(H:AH)(esz:Nat):AV→Option (Nat × AV)
 | .sc .nilSlice=>some (0,.nil)
 | .slc i o len _ _ _=>match H.cellsAt i o (len*esz)with|some cs=>some (len,cs)|none=>none
 | _=>none
def opAppend{β:Type}(P:Program)(ts:Array TypeId)(s x:AV)(H:AH):Res β:=fun k=>
 match ts.toList with
 | [t,u]=>match P.underlying t,P.underlying u with
  | some (.slice e),some (.slice _)=>match P.info? e,zeroOf P e with
   | some inf,some z=>
    let esz:=inf.size
    bif Nat.beq esz 0 || !Nat.beq z.cells.len esz || H.res.contains e then none else
    match srcOf H esz x with
    | none=>none
    | some (n,xs)=>
     match s with
     | .sc .nilSlice=>
      bif Nat.beq n 0 then ok s H k
      else bif Nat.ble (4*(n+1)*(inf.bytes+1)) 1000000000 then
       H.newCells e xs fun j H=>ok (.slc j 0 n n false esz) H k
      else none
     | .slc i o len cm ex esz'=>
      bif Nat.beq esz esz' then
       bif Nat.beq n 0 then ok s H k
       else bif Nat.ble (len+n) cm then
        H.storeCells i (o+len*esz) xs fun H=>ok (.slc i o (len+n) cm ex esz) H k
       else bif Nat.ble (4*(len+n+1)*(inf.bytes+1)) 1000000000 then
        bif ex then
         match H.cellsAt i o (len*esz)with
         | some old=>H.newCells e (old.app xs) fun j H=>ok (.slc j 0 (len+n) (len+n) false esz) H k
         | none=>none
        else match H.live i with
         | some (_,_,_,cs)=>
          bif Nat.beq (o+len*esz) cs.len && Nat.beq o 0 then
           H.version i xs fun j H=>ok (.slc j o (len+n) (len+n) false esz) H k
          else none
         | none=>none
       else none
      else none
     | _=>none
   | _,_=>none
  | _,_=>none
 | _=>none
def opCopy{β:Type}(P:Program)(ts:Array TypeId)(s x:AV)(H:AH):Res β:=fun k=>
 match ts.toList with
 | t :: _=>match P.underlying t with
  | some (.slice e)=>match P.info? e with
   | some inf=>match s,x with
    | .slc i o len _ _ _,.slc j p n _ _ _=>match H.cellsAt j p (Nat.min n len*inf.size)with
     | some xs=>H.storeCells i o xs fun H=>ok (.sc (.int .i64 (Nat.min n len:Nat))) H k
     | none=>none
    | _,_=>none
   | none=>none
  | _=>none
 | _=>none
def bound(b:Option (Option AV))(d:Nat):Option Nat:=
 match b with
 | none=>some d
 | some (some v)=>natOf v
 | some none=>none
def sliceV(P:Program)(H:AH)(t:TypeId)(x:AV)(lo hi mx:Option (Option AV)):Option AV:=
 match P.underlying t,x with
 | some (.slice e),.slc i o len cm ex esz=>match sizeT P e,bound lo 0,bound hi len,mx with
  | some sz,some l,some h,none=>
   bif Nat.beq sz esz && Nat.ble l h && Nat.ble h cm && Nat.blt l cm then some (.slc i (o+l*esz) (h-l) (cm-l) ex esz)
   else bif Nat.beq sz esz && Nat.beq l 0 && Nat.beq h 0 && Nat.beq cm 0 && ex then some (.slc i o 0 0 ex esz)
   else none
  | some sz,some l,some h,some mx=>match hi,bound (some mx) 0 with
   | some _,some m=>bif Nat.beq sz esz && Nat.ble l h && Nat.ble h m && Nat.ble m cm then
     bif Nat.beq m l then some (.slc i o (h-l) (m-l) true esz)else some (.slc i (o+l*esz) (h-l) (m-l) true esz)
    else none
   | _,_=>none
  | _,_,_,_=>none
 | some (.slice e),.sc .nilSlice=>match sizeT P e,bound lo 0,bound hi 0,mx with
  | some _,some 0,some 0,none=>some (.sc .nilSlice)
  | some _,some 0,some 0,some mx=>match hi,bound (some mx) 0 with|some _,some 0=>some (.sc .nilSlice)|_,_=>none
  | _,_,_,_=>none
 | some (.array n e),.ptr i o=>match sizeT P e,bound lo 0,bound hi n,mx with
  | some esz,some l,some h,none=>match H.live i with
   | some (_,_,_,cs)=>bif Nat.ble l h && Nat.ble h n && Nat.blt l n && Nat.ble (o+n*esz) cs.len then some (.slc i (o+l*esz) (h-l) (n-l) true esz)else none
   | none=>none
  | _,_,_,_=>none
 | some .string,.sc (.str s)=>match bound lo 0,bound hi s.size,mx with
  | some l,some h,none=>bif Nat.ble l h && Nat.ble h s.size then some (.sc (.str (s.extract l h)))else none
  | _,_,_=>none
 | _,_=>none
def partOf(P:Program)(t:TypeId)(cs:AV)(off:Nat):Option AV:=
 match aggT P t,sizeT P t with
 | some true,some n=>let r:=(cs.drop off).take n;bif Nat.beq r.len n then some (.agg r)else none
 | some false,some _=>cs.nth off
 | _,_=>none
def allOf(ρ:Env):List Operand→Option AV
 | []=>some .nil
 | x :: r=>match ρ x,allOf ρ r with
  | some v,some t=>some (.cons v t)
  | _,_=>none
def lenV(P:Program)(H:AH)(t:TypeId)(v:AV):Option AV:=
 match P.underlying t,v with
 | some (.slice _),.slc _ _ len _ _ _=>some (.sc (.int .i64 (.ofNat len)))
 | some (.slice _),.sc .nilSlice=>some (.sc (.int .i64 0))
 | some .string,.sc (.str s)=>some (.sc (.int .i64 (.ofNat s.size)))
 | some (.array n _),_=>some (.sc (.int .i64 (.ofNat n)))
 | some (.map _ _),.sc .nilMap=>some (.sc (.int .i64 0))
 | some (.map _ _),.map i=>match H.objs.get i with|some (.map _ es)=>some (.sc (.int .i64 (.ofNat es.len)))|_=>none
 | _,_=>none
def entriesOf(H:AH)(kt:TypeId):AV→Option AV
 | .sc .nilMap=>some .nil
 | .map i=>match H.objs.get i with|some (.map kt' es)=>bif Nat.beq kt kt' then some es else none|_=>none
 | _=>none
def quietOf(P:Program)(ρ:Env)(op:Op)(H:AH):Option AV:=
 match op with
 | .move x | .assign x=>ρ x
 | .pick c a b=>match ρ c with
  | some (.sc (.bool true))=>ρ a
  | some (.sc (.bool false))=>ρ b
  | _=>none
 | .load t a=>match ρ a,aggT P t,sizeT P t with
  | some (.ptr i off),some true,some n=>(H.cellsAt i off n).map .agg
  | some (.ptr i off),some false,some _=>match H.cellsAt i off 1 with|some (.cons v _)=>some v|_=>none
  | _,_,_=>none
 | .nilCheck x=>match ρ x with
  | some (.ptr i off)=>some (.ptr i off)
  | some (.fn f a b)=>some (.fn f a b)
  | _=>none
 | .binOp op t x y _=>match ρ x,ρ y with
  | some a,some b=>binV P op t a b
  | _,_=>none
 | .unOp op _ x=>match ρ x with
  | some (.sc s)=>scalar P (Op.unary op s.val)
  | _=>none
 | .convert s d x=>match ρ x with
  | some (.sc (.int j n))=>scalar P (convert s d (.int j n))
  | _=>none
 | .makeInterface t x=>match ρ x,P.underlying t with
  | some _,some (.interface _)=>none
  | some v,some _=>some (.iface t v)
  | _,_=>none
 | .makeFunc (.func f) fs cs=>match allOf ρ fs.toList,allOf ρ cs.toList with
  | some a,some b=>some (.fn f a b)
  | _,_=>none
 | .build t parts=>match zeroOf P t,P.underlying t with
  | some (.agg z),some (.struct fields)=>match fields.toList.mapM (fun f=>(P.info? f.type).map fun i=>(f.offset,i.size))with
   | some places=>(fillParts (fun i=>places.toArray[i]?) ρ z parts.toList).map .agg
   | none=>none
  | some (.agg z),some (.array _ e)=>match sizeT P e with
   | some n=>(fillParts (fun i=>some (i*n,n)) ρ z parts.toList).map .agg
   | none=>none
  | _,_=>none
 | .slice t x lo hi mx=>match ρ x with
  | some v=>sliceV P H t v (lo.map ρ) (hi.map ρ) (mx.map ρ)
  | none=>none
 | .fieldAddr s x f=>match ρ x,P.underlying s with
  | some (.ptr i off),some (.struct fields)=>match fields[f]? with
   | some fd=>match sizeT P fd.type with
    | some n=>bif Nat.beq n 0 then none else some (.ptr i (off+fd.offset))
    | none=>none
   | none=>none
  | _,_=>none
 | .field s x f=>match ρ x,P.underlying s with
  | some (.agg cs),some (.struct fields)=>match fields[f]? with
   | some fd=>partOf P fd.type cs fd.offset
   | none=>none
  | _,_=>none
 | .indexAddr t x ix=>match ρ x,ρ ix,P.underlying t with
  | some (.ptr i off),some ix,some (.array n e)=>match natOf ix,sizeT P e with
   | some j,some sz=>bif Nat.blt j n then some (.ptr i (off+j*sz))else none
   | _,_=>none
  | some (.slc i off len _ _ esz),some ix,some (.slice e)=>match natOf ix,sizeT P e with
   | some j,some sz=>bif Nat.blt j len && Nat.beq sz esz then some (.ptr i (off+j*sz))else none
   | _,_=>none
  | _,_,_=>none
 | .index t x ix=>match ρ x,ρ ix,P.underlying t with
  | some (.agg cs),some ix,some (.array n e)=>match natOf ix,sizeT P e with
   | some j,some sz=>bif Nat.blt j n then partOf P e cs (j*sz)else none
   | _,_=>none
  | some (.sc (.str s)),some ix,some .string=>match natOf ix with
   | some j=>match s.data.toList[j]? with
    | some b=>some (.sc (.int .u8 (.ofNat b.toNat)))
    | none=>none
   | none=>none
  | _,_,_=>none
 | .lookup t m x okk=>match ρ m,ρ x,P.underlying t with
  | some m,some key,some (.map kt et)=>bif keyFits P kt key then
    match entriesOf H kt m,zeroOf P et with
    | some es,some z=>match findE key es with
     | some v=>bif okk then some (.tup (.cons v (.cons (.sc (.bool true)) .nil)))else some v
     | none=>bif okk then some (.tup (.cons z (.cons (.sc (.bool false)) .nil)))else some z
    | _,_=>none
   else none
  | _,_,_=>none
 | .extract x ix=>match ρ x with
  | some (.tup cs)=>cs.nth ix
  | _=>none
 | .call {callee:=.builtin b,args,argTypes}=>match b,args.toList with
  | .len,[x]=>match argTypes.toList,ρ x with
   | [t],some v=>lenV P H t v
   | _,_=>none
  | .min,[x,y]=>match ρ x,ρ y with|some (.sc (.int j a)),some (.sc (.int l b))=>scalar P (Builtin.min2 (.int j a) (.int l b))|_,_=>none
  | .max,[x,y]=>match ρ x,ρ y with|some (.sc (.int j a)),some (.sc (.int l b))=>scalar P (Builtin.max2 (.int j a) (.int l b))|_,_=>none
  | _,_=>none
 | _=>none
inductive Mk where
 | cells (e:TypeId) (cs:AV)
 | map (kt:TypeId)
def Mk.bad(R:List TypeId):Mk→Bool
 | .cells e _=>R.contains e
 | .map _=>false
def allocOf(P:Program)(ρ:Env)(op:Op):Option (Mk × (Nat→AV)):=
 match op with
 | .alloc e=>(zeroOf P e).map fun z=>(.cells e z.cells,fun i => .ptr i 0)
 | .box e x=>(ρ x).map fun v=>(.cells e v.cells,fun i => .ptr i 0)
 | .buildSlice t len parts=>match P.underlying t with
  | some (.slice e)=>match zeroOf P e,sizeT P e with
   | some z,some n=>bif Nat.beq n 0 || Nat.ble 1000000 (len*n) || !Nat.beq z.cells.len n then none
    else(fillParts (fun i=>some (i*n,n)) ρ (AV.rep len z.cells) parts.toList).map fun cs=>(.cells e cs,fun i => .slc i 0 len len true n)
   | _,_=>none
  | _=>none
 | .makeSlice t l c=>match P.underlying t,ρ l,ρ c with
  | some (.slice e),some l,some c=>match zeroOf P e,P.info? e,natOf l,natOf c with
   | some z,some inf,some len,some cap=>
    bif Nat.beq inf.size 0 || Nat.ble 1000000000 ((cap+1)*(inf.bytes+1)) || Nat.blt cap len || !Nat.beq z.cells.len inf.size then none
    else some (.cells e (AV.rep cap z.cells),fun i => .slc i 0 len cap true inf.size)
   | _,_,_,_=>none
  | _,_,_=>none
 | .makeMap t none=>match P.underlying t with
  | some (.map kt _)=>some (.map kt,fun i => .map i)
  | _=>none
 | _=>none
def barOf{β:Type}(P:Program)(ρ:Env)(op:Op)(H:AH):Res β:=fun k=>
 match op with
 | .store t a x=>match ρ a,ρ x,sizeT P t with
  | some (.ptr i off),some v,some n=>
   bif Nat.beq v.cells.len n then H.storeCells i off v.cells fun H=>k (.sc .undef) H else none
  | _,_,_=>none
 | .mapUpdate t m x v | .insert t m x v=>match ρ m,ρ x,ρ v,P.underlying t with
  | some (.map i),some key,some v,some (.map kt _)=>bif keyFits P kt key then
    match H.objs.get i with
    | some (.map kt' es)=>bif Nat.beq kt kt' then(updE key v es).force fun es=>H.withObj i (.map kt es) fun H=>k (.sc .undef) H else none
    | _=>none
   else none
  | _,_,_,_=>none
 | .call {callee:=.builtin .append,args,argTypes}=>match args.toList with
  | [s,x]=>match ρ s,ρ x with|some s,some x=>opAppend P argTypes s x H k|_,_=>none
  | _=>none
 | .call {callee:=.builtin .copy,args,argTypes}=>match args.toList with
  | [s,x]=>match ρ s,ρ x with|some s,some x=>opCopy P argTypes s x H k|_,_=>none
  | _=>none
 | _=>none
def isAlloc:Op→Bool
 | .alloc _ | .box .. | .buildSlice .. | .makeSlice .. | .makeMap .. => true
 | _=>false
def isBar:Op→Bool
 | .store .. | .mapUpdate .. | .entryStore .. | .insert .. => true
 | .call {callee:=.builtin .append,..}=>true
 | .call {callee:=.builtin .len,..} | .call {callee:=.builtin .min,..} | .call {callee:=.builtin .max,..}=>false
 | .call _=>true
 | _=>false
def plainOp:Op→Bool
 | .move _ | .assign _ | .pick .. | .extract .. | .nilCheck _=>true
 | _=>false
def opOf{β:Type}(P:Program)(ρ:Env)(o:Oper)(H:AH):Res β:=fun k=>
 bif isBar o.op then barOf P ρ o.op H k
 else bif isAlloc o.op then
  match allocOf P ρ o.op with
  | some (.cells e cs,f)=>bif H.res.contains e then none else H.newCells e cs fun i H=>k (f i) H
  | some (.map kt,f)=>H.newObj (.map kt .nil) fun i H=>k (f i) H
  | none=>none
 else match quietOf P ρ o.op H with
  | some v=>bif plainOp o.op then k v H else ok v H k
  | none=>none
inductive Mark where
 | loop (i:Nat)
 | still
structure Act where
 T:Tr AV
 nt:Nat
 ds:List Mark
def Act.env(G:List Nat)(a:Act):Env
 | .tmp t=>a.T.get t
 | .const v=>AV.ofVal v
 | .global g=>bif G.contains g then some (.ptr g 0)else none
 | .func f=>some (.fn f .nil .nil)
def Act.put{β:Type}(a:Act)(dst:Option Tmp)(v:AV)(k:Act→Option β):Option β:=
 match dst with
 | none=>k a
 | some d=>bif Nat.blt d a.nt then Tr.setK deep a.T d (some v) fun T=>k {T,nt:=a.nt,ds:=a.ds}else none
inductive AX where
 | normal
 | exit (id:Nat)
 | goto (l:Nat)
 | ret
structure Cb where
 code:Option Nat→FuncId→Code→Act→AH→Option (AX × Act × AH)
 call:FuncId→AV→AH→Option (AV × AH)
 round:Nat→AV→AH→Option (AV × AH)
 still:FuncId→Bool
def wantedA(ops:Array Oper)(a:Act)(o:Oper):Option Bool:=
 match o.guard with
 | none=>some true
 | some (j,want)=>match (ops[j]?).bind (·.dst)with
  | none=>some false
  | some d=>match a.T.get d with
   | some (.sc (.bool b))=>some (beqB b want)
   | some (.sc .undef)=>some false
   | _=>none
def stepE{β:Type}(P:Program)(self:Cb)(ρ:Env)(o:Oper)(H:AH):Res β:=fun k=>
 match o.op with
 | .call {callee:=.value f,args,..}=>
  match ρ f,allOf ρ args.toList with
  | some (.fn g fs cs),some xs=>(match self.call g (fs.app (xs.app cs)) H with|some (v,H)=>ok v H k|none=>none)
  | some (.yield l),some xs=>(match self.round l xs H with|some (v,H)=>ok v H k|none=>none)
  | _,_=>none
 | _=>opOf P ρ o H k
def defers(self:Cb)(ρ:Env)(op:Op):Bool:=
 match op with
 | .defer {callee:=.value f,args,..}=>match ρ f with
  | some (.fn g _ _)=>Nat.beq args.size 0 && self.still g
  | _=>false
 | _=>false
def runOps(P:Program)(G:List Nat)(self:Cb)(top:Bool)(ops:Array Oper):List Nat→Act→AH→Option (Act × AH)
 | [],a,H=>some (a,H)
 | i :: r,a,H=>match ops[i]? with
  | none=>none
  | some o=>match wantedA ops a o with
   | some true=>
    bif top && defers self (a.env G) o.op then a.put o.dst (.sc .undef) fun a=>runOps P G self top ops r {T:=a.T,nt:=a.nt,ds:=.still :: a.ds} H
    else stepE P self (a.env G) o H fun v H=>a.put o.dst v fun a=>runOps P G self top ops r a H
   | some false=>a.put o.dst (.sc .undef) fun a=>runOps P G self top ops r a H
   | none=>none
def loopN(f:Act→AH→Option (AX × Act × AH)):Nat→Act→AH→Option (AX × Act × AH)
 | 0,_,_=>none
 | m+1,a,H=>match f a H with
  | some (.normal,a,H)=>loopN f m a H
  | r=>r
def setAll{β:Type}(nt:Nat)(T:Tr AV):List Tmp→AV→(Tr AV→Option β)→Option β
 | [],.nil,k=>k T
 | t :: ts,.cons v vs,k=>bif Nat.blt t nt then Tr.setK deep T t (some v) fun T=>setAll nt T ts vs k else none
 | _,_,_=>none
abbrev Vals:=List (Nat × AV × Option Nat)
def getV:Vals→Nat→Option (AV × Option Nat)
 | [],_=>none
 | (j,x) :: r,i=>bif Nat.beq j i then some x else getV r i
def bsAt(bs:List Nat)(i:Nat):Nat:=bs.getD i 0
def maskL(bs:List Nat):List Edge→Nat
 | []=>0
 | e :: r=>bif Region.binds .any e then(2^e.on ||| bsAt bs e.on) ||| maskL bs r else maskL bs r
def masks:List Oper→List Nat→List Nat
 | [],acc=>acc
 | o :: r,acc=>masks r (acc ++ [maskL acc o.after.toList])
def maskOk(ops:Array Oper)(bs:List Nat)(i:Nat):Bool:=
 match ops[i]? with
 | some o=>Nat.beq (bsAt bs i) (maskL bs o.after.toList) && o.after.toList.all fun e => !Region.binds .any e || Nat.blt e.on i
 | none=>false
def tmpsOf(o:Oper):List Tmp:=o.op.operands.toList.filterMap fun | .tmp t=>some t|_=>none
def apartAt(ops:Array Oper)(bs:List Nat)(i j:Nat):Bool:=
 match ops[i]?,ops[j]? with
 | some o,some p=>match p.dst with
  | none=>true
  | some d=>Nat.beq i j || (
    (match o.dst with|some e => !Nat.beq d e|none=>true) &&
    (!(tmpsOf o).contains d || (bsAt bs i).testBit j || (bsAt bs j).testBit i))
 | _,_=>false
def guardOk(ops:Array Oper)(bs:List Nat)(i:Nat):Bool:=
 match ops[i]? with
 | some o=>match o.guard with|none=>true|some (j,_)=>(bsAt bs i).testBit j
 | none=>false
def barsOf(ops:Array Oper):List Nat:=(List.range ops.size).filter fun i=>match ops[i]? with|some o=>isBar o.op|none=>false
def chained(bs:List Nat):List Nat→Bool
 | []=>true
 | e :: r=>r.all (fun f=>(bsAt bs f).testBit e) && chained bs r
structure Plan where
 bs:List Nat
 bars:List Nat
def planOf(ops:Array Oper):Option Plan:=
 let bs:=masks ops.toList []
 let bars:=barsOf ops
 let is:=List.range ops.size
 bif is.all (fun i=>maskOk ops bs i && guardOk ops bs i && is.all fun j=>apartAt ops bs i j) && chained bs bars then some {bs,bars}else none
def stageOf(p:Plan)(i:Nat):Nat:=(p.bars.filter fun e=>(bsAt p.bs i).testBit e).length
def writerOf(ops:Array Oper)(mask:Nat)(t:Tmp):Option Nat:=
 (List.range ops.size).find? fun j=>mask.testBit j && (match (ops[j]?).bind (·.dst)with|some d=>Nat.beq d t|none=>false)
def envD(G:List Nat)(ops:Array Oper)(mask:Nat)(T:Tr AV)(vals:Vals):Env
 | .tmp t=>match writerOf ops mask t with
  | some j=>(getV vals j).map (·.1)
  | none=>T.get t
 | .const v=>AV.ofVal v
 | .global g=>bif G.contains g then some (.ptr g 0)else none
 | .func f=>some (.fn f .nil .nil)
def wantedD(ops:Array Oper)(vals:Vals)(o:Oper):Option Bool:=
 match o.guard with
 | none=>some true
 | some (j,want)=>match (ops[j]?).bind (·.dst)with
  | none=>some false
  | some _=>match getV vals j with
   | some (.sc (.bool b),_)=>some (beqB b want)
   | some (.sc .undef,_)=>some false
   | _=>none
def stillMade(H:AH)(i:Nat):Mk→Bool
 | .cells e cs=>match H.objs.get i with
  | some (.cells fam ver e' cs')=>Nat.beq fam i && Nat.beq ver 0 && Nat.beq e e' && cs'.beq cs
  | _=>false
 | .map kt=>match H.objs.get i with
  | some (.map kt' es)=>Nat.beq kt kt' && es.beq .nil
  | _=>false
def againD(P:Program)(G:List Nat)(ops:Array Oper)(p:Plan)(T:Tr AV)(vals:Vals)(H:AH)(i:Nat)(o:Oper):Bool:=
 match wantedD ops vals o,getV vals i with
 | some false,some (v,none)=>AV.beq v (.sc .undef)
 | some true,some (v,id)=>match isAlloc o.op,id with
  | true,some id=>(match allocOf P (envD G ops (bsAt p.bs i) T vals) o.op with
   | some (m,f)=>(f id).beq v && stillMade H id m && Nat.blt id H.next && !m.bad H.res
   | none=>false)
  | false,none=>(match quietOf P (envD G ops (bsAt p.bs i) T vals) o.op H with
   | some v'=>v'.beq v
   | none=>false)
  | _,_=>false
 | _,_=>false
def skipped(p:Plan)(prev:Option Nat)(i:Nat):Bool:=match prev with|some e=>(bsAt p.bs e).testBit i|none=>false
def checkStage(P:Program)(G:List Nat)(ops:Array Oper)(p:Plan)(T:Tr AV)(vals:Vals)(H:AH)(stage:Nat)(prev:Option Nat):Bool:=
 (List.range ops.size).all fun i=>match ops[i]? with
  | some o=>isBar o.op || Nat.blt stage (stageOf p i) || skipped p prev i || againD P G ops p T vals H i o
  | none=>false
def runStage(P:Program)(G:List Nat)(ops:Array Oper)(p:Plan)(T:Tr AV)(stage:Nat):List Nat→Vals→AH→Option (Vals × AH)
 | [],vals,H=>some (vals,H)
 | i :: r,vals,H=>match ops[i]? with
  | none=>none
  | some o=>
   bif isBar o.op || !Nat.beq (stageOf p i) stage then runStage P G ops p T stage r vals H
   else bif (getV vals i).isSome then none
   else match wantedD ops vals o with
    | some true=>match isAlloc o.op with
     | true=>(match allocOf P (envD G ops (bsAt p.bs i) T vals) o.op with
      | some (.cells e cs,f)=>bif H.res.contains e then none else cs.force fun cs=>H.newCells e cs fun j H=>runStage P G ops p T stage r ((i,f j,some j) :: vals) H
      | some (.map kt,f)=>H.newObj (.map kt .nil) fun j H=>runStage P G ops p T stage r ((i,f j,some j) :: vals) H
      | none=>none)
     | false=>(match quietOf P (envD G ops (bsAt p.bs i) T vals) o.op H with
      | some v=>v.force fun v=>runStage P G ops p T stage r ((i,v,none) :: vals) H
      | none=>none)
    | some false=>runStage P G ops p T stage r ((i,.sc .undef,none) :: vals) H
    | none=>none
def endStage(P:Program)(G:List Nat)(ops:Array Oper)(p:Plan)(T:Tr AV)(stage:Nat)(prev:Option Nat)(vals:Vals)(H:AH):Option (Vals × AH):=
 match runStage P G ops p T stage (List.range ops.size) vals H with
 | some (vals,H)=>bif checkStage P G ops p T vals H stage prev then some (vals,H)else none
 | none=>none
def runBars(P:Program)(G:List Nat)(self:Cb)(ops:Array Oper)(p:Plan)(T:Tr AV):List Nat→Nat→Vals→AH→Option (Vals × AH)
 | [],_,vals,H=>some (vals,H)
 | e :: es,stage,vals,H=>match ops[e]? with
  | none=>none
  | some o=>bif (getV vals e).isSome then none else match wantedD ops vals o with
   | some true=>stepE P self (envD G ops (bsAt p.bs e) T vals) o H fun v H=>
     match endStage P G ops p T (stage+1) (some e) ((e,v,none) :: vals) H with
     | some (vals,H)=>runBars P G self ops p T es (stage+1) vals H
     | none=>none
   | some false=>match endStage P G ops p T (stage+1) (some e) ((e,.sc .undef,none) :: vals) H with
     | some (vals,H)=>runBars P G self ops p T es (stage+1) vals H
     | none=>none
   | none=>none
def layVals(ops:Array Oper)(vals:Vals)(nt:Nat):List Nat→Tr AV→Option (Tr AV)
 | [],T=>some T
 | i :: r,T=>match ops[i]? with
  | none=>none
  | some o=>match o.dst,getV vals i with
   | some d,some (v,_)=>bif Nat.blt d nt then Tr.setK deep T d (some v) fun T=>layVals ops vals nt r T else none
   | none,some _=>layVals ops vals nt r T
   | _,none=>none
def runDraw(P:Program)(G:List Nat)(self:Cb)(ops:Array Oper)(p:Plan)(a:Act)(H:AH):Option (Act × AH):=
 match endStage P G ops p a.T 0 none [] H with
 | some (vals,H)=>match runBars P G self ops p a.T p.bars 0 vals H with
  | some (vals,H)=>match layVals ops vals a.nt (List.range ops.size) a.T with
   | some T=>some ({T,nt:=a.nt,ds:=a.ds},H)
   | none=>none
  | none=>none
 | none=>none
def endsOk(H:AH):List Mark→(AH→Option (AV × AH))→Option (AV × AH)
 | [],k=>k H
 | .still :: rs,k=>endsOk H rs k
 | .loop r :: rs,k=>match H.objs.get r with
  | some (.defd true)=>H.withObj r (.defd false) fun H=>endsOk H rs k
  | _=>none
def resultsOf(P:Program)(H:AH)(a:Act):List ResultVar→Option AV
 | []=>some .nil
 | .tmp t :: r=>match a.T.get t,resultsOf P H a r with
  | some v,some vs=>some (.cons v vs)
  | _,_=>none
 | .cell t ty :: r=>match a.T.get t with
  | some (.ptr i off)=>match aggT P ty,sizeT P ty with
   | some true,some n=>(match H.cellsAt i off n,resultsOf P H a r with|some cs,some vs=>some (.cons (.agg cs) vs)|_,_=>none)
   | some false,some _=>(match H.cellsAt i off 1,resultsOf P H a r with|some (.cons v _),some vs=>some (.cons v vs)|_,_=>none)
   | _,_=>none
  | _=>none
def codeF(P:Program)(G:List Nat)(self:Cb)(ro:Option Nat)(fn:FuncId)(c:Code)(a:Act)(H:AH):Option (AX × Act × AH):=
 match c with
 | .skip | .label _=>some (.normal,a,H)
 | .exit id=>some (.exit id,a,H)
 | .goto l=>some (.goto l,a,H)
 | .ret=>some (.ret,a,H)
 | .region _ ops draw=>
  bif draw then match planOf ops with
   | some p=>(match runDraw P G self ops p a H with|some (a,H)=>some (.normal,a,H)|none=>none)
   | none=>none
  else match runOps P G self (match ro with|none=>true|some _=>false) ops (List.range ops.size) a H with|some (a,H)=>some (.normal,a,H)|none=>none
 | .seq x y=>match self.code ro fn x a H with
  | some (.normal,a,H)=>self.code ro fn y a H
  | r=>r
 | .cond c x y=>match a.env G c with
  | some (.sc (.bool true))=>self.code ro fn x a H
  | some (.sc (.bool false))=>self.code ro fn y a H
  | _=>none
 | .block id body=>match self.code ro fn body a H with
  | some (.exit id',a,H)=>bif Nat.beq id' id then some (.normal,a,H)else some (.exit id',a,H)
  | r=>r
 | .loop body=>loopN (self.code ro fn body) 1000000 a H
 | .scope body=>match self.code ro fn body a H with
  | some (.goto _,_,_)=>none
  | r=>r
 | .rangeFunc g ps assign body=>match a.env G g,ro with
  | some (.fn f fs cs),none=>
   H.newObj (.defd true) fun r H=>H.newObj (.loop .ready none fn a.nt a.T ps.toList assign body r) fun l H=>
    match self.call f (fs.app (.cons (.yield l) cs)) H with
    | some (_,H)=>match H.objs.get l with
     | some (.loop st pend fn' nt tm ps' az bd dd)=>(match st with
      | .busy=>none
      | _=>H.withObj l (.loop .exhausted pend fn' nt tm ps' az bd dd) fun H=>
       match pend with
       | none=>some (.normal,{T:=a.T,nt:=a.nt,ds:=.loop r :: a.ds},H)
       | some c=>self.code ro fn c {T:=a.T,nt:=a.nt,ds:=.loop r :: a.ds} H)
     | _=>none
    | none=>none
  | _,_=>none
 | .refuse _=>none
def callF(P:Program)(self:Cb)(f:FuncId)(args:AV)(H:AH):Option (AV × AH):=
 match P.funcs[f]? with
 | some fn=>match fn.body with
  | some body=>bif Nat.ble args.len fn.ntmps then
    setAll fn.ntmps .nil (List.range args.len) args fun T=>
     match self.code none f body {T,nt:=fn.ntmps,ds:=[]} H with
     | some (x,a,H)=>(match x with
      | .normal | .ret=>endsOk H a.ds fun H=>match resultsOf P H a fn.results.toList with
       | some (.cons v .nil)=>some (v,H)
       | some vs=>some (.tup vs,H)
       | none=>none
      | _=>none)
     | none=>none
   else none
  | none=>none
 | none=>none
def roundF(self:Cb)(l:Nat)(xs:AV)(H:AH):Option (AV × AH):=
 match H.objs.get l with
 | some (.loop _ _ fn nt tm ps az bd _)=>
  setAll nt tm ps xs fun T=>match self.code (some l) fn az {T,nt,ds:=[]} H with
   | some (.normal,a,H)=>(match H.objs.get l with
    | some (.loop .ready pend fn nt tm ps az bd' dd)=>H.withObj l (.loop .busy pend fn nt tm ps az bd' dd) fun H=>
     (match self.code (some l) fn bd a H with
     | some (x,_,H)=>(match H.objs.get l with
      | some (.loop _ _ fn nt tm ps az bd dd)=>
       (match x with
       | .normal=>H.withObj l (.loop .ready none fn nt tm ps az bd dd) fun H=>some (.sc (.bool true),H)
       | .ret=>H.withObj l (.loop .done (some .ret) fn nt tm ps az bd dd) fun H=>some (.sc (.bool false),H)
       | .exit id=>H.withObj l (.loop .done (some (.exit id)) fn nt tm ps az bd dd) fun H=>some (.sc (.bool false),H)
       | .goto _=>none)
      | _=>none)
     | none=>none)
    | _=>none)
   | _=>none
 | _=>none
def cb(P:Program)(G:List Nat)(O:FuncId→AV→AH→Option (AV × AH))(D:List FuncId):Nat→Cb
 | 0=>⟨fun _ _ _ _ _=>none,fun _ _ _=>none,fun _ _ _=>none,fun f=>D.contains f⟩
 | n+1=>⟨codeF P G (cb P G O D n),fun f args H=>match O f args H with|some r=>some r|none=>callF P (cb P G O D n) f args H,roundF (cb P G O D n),fun f=>D.contains f⟩
end Go.Eng
namespace Go.Eng
open Go.RowKit
def Tr.set{α:Type}:Nat→Tr α→Nat→Option α→Tr α
 | 0,_,_,_ => .nil
 | f+1,.nil,n,x=>
  bif Nat.beq n 0 then .node .nil x .nil
  else bif Nat.beq (n%2) 1 then .node (Tr.set f .nil (n/2) x) none .nil
  else .node .nil none (Tr.set f .nil (n/2-1) x)
 | f+1,.node l v r,n,x=>
  bif Nat.beq n 0 then .node l x r
  else bif Nat.beq (n%2) 1 then .node (Tr.set f l (n/2) x) v r
  else .node l v (Tr.set f r (n/2-1) x)
theorem Tr.setK_eq{α:Type}(f:Nat):∀{β:Type} (t:Tr α) (n:Nat) (x:Option α) (k:Tr α→β),Tr.setK f t n x k=k (Tr.set f t n x):=by
 induction f with
 | zero=>intro β t n x k;rfl
 | succ f ih=>
  intro β t n x k
  cases t <;> simp only [Tr.set,Tr.setK,ih] <;> cases Nat.beq n 0 <;> cases Nat.beq (n%2) 1 <;> rfl
theorem beq_iff(m n:Nat):Nat.beq m n=true↔m=n:=⟨Nat.eq_of_beq_eq_true,fun h=>h ▸ Nat.beq_refl m⟩
theorem beq_false(m n:Nat):Nat.beq m n=false↔m≠n:=by
 have:=beq_iff m n
 cases h:Nat.beq m n <;> simp_all
theorem Tr.get_set{α:Type}(f:Nat):∀(t:Tr α) (n:Nat) (x:Option α) (m:Nat) (v:α),(Tr.set f t n x).get m=some v→(m=n∧x=some v)∨(m≠n∧t.get m=some v):=by
 induction f with
 | zero=>intro t n x m v h;simp [Tr.set,Tr.get]at h
 | succ f ih=>
  intro t n x m v h
  cases t with
  | nil=>
   simp only [Tr.set]at h
   cases hn:Nat.beq n 0 with
   | true=>
    rw [hn]at h
    simp only [cond_true,Tr.get]at h
    have hn0:=(beq_iff _ _).1 hn
    cases hm:Nat.beq m 0 with
    | true=>rw [hm]at h;have:=(beq_iff _ _).1 hm;left;exact⟨by omega,h⟩
    | false=>rw [hm]at h;cases Nat.beq (m%2) 1 <;> simp at h
   | false=>
    have hn0:=(beq_false _ _).1 hn
    rw [hn]at h
    cases hp:Nat.beq (n%2) 1 with
    | true=>
     rw [hp]at h
     have hp1:=(beq_iff _ _).1 hp
     simp only [cond_true,cond_false,Tr.get]at h
     cases hm:Nat.beq m 0 with
     | true=>rw [hm]at h;simp at h
     | false=>
      have hm0:=(beq_false _ _).1 hm
      rw [hm]at h
      cases hq:Nat.beq (m%2) 1 with
      | false=>rw [hq]at h;simp at h
      | true=>
       have hq1:=(beq_iff _ _).1 hq
       rw [hq]at h
       simp only [cond_true,cond_false]at h
       rcases ih _ _ _ _ _ h with⟨h1,h2⟩|⟨_,h2⟩
       ·left;exact⟨by omega,h2⟩
       ·simp [Tr.get]at h2
    | false=>
     rw [hp]at h
     have hp1:=(beq_false _ _).1 hp
     simp only [cond_false,Tr.get]at h
     cases hm:Nat.beq m 0 with
     | true=>rw [hm]at h;simp at h
     | false=>
      have hm0:=(beq_false _ _).1 hm
      rw [hm]at h
      cases hq:Nat.beq (m%2) 1 with
      | true=>rw [hq]at h;simp at h
      | false=>
       have hq1:=(beq_false _ _).1 hq
       rw [hq]at h
       simp only [cond_false]at h
       rcases ih _ _ _ _ _ h with⟨h1,h2⟩|⟨_,h2⟩
       ·left;exact⟨by omega,h2⟩
       ·simp [Tr.get]at h2
  | node l u r=>
   simp only [Tr.set]at h
   cases hn:Nat.beq n 0 with
   | true=>
    rw [hn]at h
    simp only [cond_true,Tr.get]at h ⊢
    have hn0:=(beq_iff _ _).1 hn
    cases hm:Nat.beq m 0 with
    | true=>rw [hm]at h;have:=(beq_iff _ _).1 hm;left;exact⟨by omega,h⟩
    | false=>rw [hm]at h;have:=(beq_false _ _).1 hm;right;exact⟨by omega,h⟩
   | false=>
    have hn0:=(beq_false _ _).1 hn
    rw [hn]at h
    cases hp:Nat.beq (n%2) 1 with
    | true=>
     rw [hp]at h
     have hp1:=(beq_iff _ _).1 hp
     simp only [cond_true,cond_false,Tr.get]at h ⊢
     cases hm:Nat.beq m 0 with
     | true=>rw [hm]at h;have:=(beq_iff _ _).1 hm;right;exact⟨by omega,h⟩
     | false=>
      have hm0:=(beq_false _ _).1 hm
      rw [hm]at h
      cases hq:Nat.beq (m%2) 1 with
      | false=>rw [hq]at h;have:=(beq_false _ _).1 hq;right;exact⟨by omega,h⟩
      | true=>
       have hq1:=(beq_iff _ _).1 hq
       rw [hq]at h
       simp only [cond_true,cond_false]at h ⊢
       rcases ih _ _ _ _ _ h with⟨h1,h2⟩|⟨h1,h2⟩
       ·left;exact⟨by omega,h2⟩
       ·right;exact⟨by omega,h2⟩
    | false=>
     rw [hp]at h
     have hp1:=(beq_false _ _).1 hp
     simp only [cond_false,Tr.get]at h ⊢
     cases hm:Nat.beq m 0 with
     | true=>rw [hm]at h;have:=(beq_iff _ _).1 hm;right;exact⟨by omega,h⟩
     | false=>
      have hm0:=(beq_false _ _).1 hm
      rw [hm]at h
      cases hq:Nat.beq (m%2) 1 with
      | true=>rw [hq]at h;have:=(beq_iff _ _).1 hq;right;exact⟨by omega,h⟩
      | false=>
       have hq1:=(beq_false _ _).1 hq
       rw [hq]at h
       simp only [cond_false]at h ⊢
       rcases ih _ _ _ _ _ h with⟨h1,h2⟩|⟨h1,h2⟩
       ·left;exact⟨by omega,h2⟩
       ·right;exact⟨by omega,h2⟩
@[simp] theorem fN_eq {β:Type} (n:Nat) (k:Nat→β):fN n k=k n:=by cases n <;> rfl
@[simp] theorem fI_eq {β:Type} (n:Int) (k:Int→β):fI n k=k n:=by cases n <;> simp [fI]
@[simp] theorem fB_eq {β:Type} (b:Bool) (k:Bool→β):fB b k=k b:=by cases b <;> rfl
@[simp] theorem fBytes_eq {β:Type} (l:List UInt8):∀(k:List UInt8→β),fBytes l k=k l:=by
 induction l with
 | nil=>intro k;rfl
 | cons b t ih=>intro k;simp [fBytes,ih]
@[simp] theorem Sc.force_eq {β:Type} (s:Sc) (k:Sc→β):s.force k=k s:=by
 cases s <;> simp [Sc.force]
@[simp] theorem AV.force_eq {β:Type} (v:AV):∀(k:AV→β),v.force k=k v:=by
 induction v <;> intro k <;> simp_all [AV.force]
structure Mu where
 blk:Nat→Option (Nat × Nat)
 hd:Nat→Option Value
instance:CoeFun Mu (fun _=>Nat→Option (Nat × Nat)):=⟨Mu.blk⟩
structure Mu.le(μ ν:Mu):Prop where
 of:∀i l,μ i=some l→ν i=some l
 hd:∀i v,μ.hd i=some v→ν.hd i=some v
instance {μ ν:Mu}:CoeFun (μ.le ν) (fun _=>∀i l,μ i=some l→ν i=some l):=⟨Mu.le.of⟩
theorem Mu.le.refl(μ:Mu):μ.le μ:=⟨fun _ _ h=>h,fun _ _ h=>h⟩
theorem Mu.le.trans{μ ν ξ:Mu}(h:μ.le ν)(k:ν.le ξ):μ.le ξ:=⟨fun i l e=>k i l (h i l e),fun i v e=>k.hd i v (h.hd i v e)⟩
def Rel(μ:Mu):AV→(Value→Prop) × (List Value→Prop)
 | .sc s=>(fun x=>x=s.val,fun _=>False)
 | .ptr i o=>(fun x=>∃b N,μ i=some (b,N)∧x = .pointer (some ⟨b,o,none⟩),fun _=>False)
 | .slc i o len cm ex esz=>(fun x=>∃b N c,μ i=some (b,N)∧x = .slice (some ⟨b,o,none⟩) len c∧cm≤c∧(ex=true→c=cm)∧o+c*esz≤N∧len≤cm,fun _=>False)
 | .map i=>(fun x=>∃b N,μ i=some (b,N)∧x = .map (some b),fun _=>False)
 | .yield i=>(fun x=>∃b N,μ i=some (b,N)∧x = .func (.yield b) #[] #[],fun _=>False)
 | .fn f fs cs=>(fun x=>∃xs ys,x = .func (.func f) xs ys∧(Rel μ fs).2 xs.toList∧(Rel μ cs).2 ys.toList,fun _=>False)
 | .hc i k=>(fun x=>∃v,μ.hd i=some v∧v.cells[k]? = some x∧x.oneCell'=true,fun _=>False)
 | .hs i=>(fun x=>∃s,μ.hd i=some (.string s)∧x = .string s,fun _=>False)
 | .iface t v=>(fun x=>∃y,x = .iface t y∧(Rel μ v).1 y,fun _=>False)
 | .agg cs=>(fun x=>∃xs,x = .agg xs∧(Rel μ cs).2 xs.toList,fun _=>False)
 | .tup cs=>(fun x=>∃xs,x = .tuple xs∧(Rel μ cs).2 xs.toList,fun _=>False)
 | .nil=>(fun _=>False,fun xs=>xs = [])
 | .cons h t=>(fun _=>False,fun xs=>∃x r,xs=x :: r∧(Rel μ h).1 x∧(Rel μ t).2 r)
def VR(μ:Mu)(v:AV)(x:Value):Prop:=(Rel μ v).1 x
def LR(μ:Mu)(v:AV)(xs:List Value):Prop:=(Rel μ v).2 xs
theorem Rel.mono{μ ν:Mu}(h:μ.le ν)(v:AV):(∀x,(Rel μ v).1 x→(Rel ν v).1 x)∧(∀xs,(Rel μ v).2 xs→(Rel ν v).2 xs):=by
 induction v with
 | sc s=>exact⟨fun _ h=>h,fun _ h=>h⟩
 | ptr i o=>exact⟨fun x ⟨b,N,e,hx⟩=>⟨b,N,h _ _ e,hx⟩,fun _ h=>h⟩
 | slc i o len cm ex esz=>exact⟨fun x ⟨b,N,c,e,hx⟩=>⟨b,N,c,h _ _ e,hx⟩,fun _ h=>h⟩
 | map i=>exact⟨fun x ⟨b,N,e,hx⟩=>⟨b,N,h _ _ e,hx⟩,fun _ h=>h⟩
 | yield i=>exact⟨fun x ⟨b,N,e,hx⟩=>⟨b,N,h _ _ e,hx⟩,fun _ h=>h⟩
 | fn f fs cs ih1 ih2=>exact⟨fun x ⟨xs,ys,e,h1,h2⟩=>⟨xs,ys,e,ih1.2 _ h1,ih2.2 _ h2⟩,fun _ h=>h⟩
 | hc i k=>exact⟨fun x ⟨v,e,h1⟩=>⟨v,h.hd _ _ e,h1⟩,fun _ h=>h⟩
 | hs i=>exact⟨fun x ⟨s,e,h1⟩=>⟨s,h.hd _ _ e,h1⟩,fun _ h=>h⟩
 | iface t v ih=>exact⟨fun x ⟨y,e,h1⟩=>⟨y,e,ih.1 _ h1⟩,fun _ h=>h⟩
 | agg cs ih=>exact⟨fun x ⟨y,e,h1⟩=>⟨y,e,ih.2 _ h1⟩,fun _ h=>h⟩
 | tup cs ih=>exact⟨fun x ⟨y,e,h1⟩=>⟨y,e,ih.2 _ h1⟩,fun _ h=>h⟩
 | nil=>exact⟨fun _ h=>h,fun _ h=>h⟩
 | cons a t ih1 ih2=>exact⟨fun _ h=>h,fun xs ⟨x,r,e,h1,h2⟩=>⟨x,r,e,ih1.1 _ h1,ih2.2 _ h2⟩⟩
theorem VR.mono{μ ν:Mu}(h:μ.le ν){v:AV}{x:Value}(hv:VR μ v x):VR ν v x:=(Rel.mono h v).1 x hv
theorem LR.mono{μ ν:Mu}(h:μ.le ν){v:AV}{x:List Value}(hv:LR μ v x):LR ν v x:=(Rel.mono h v).2 x hv
section lists
variable {μ:Mu}
theorem LR.nil:LR μ .nil []:=rfl
theorem LR.cons{h t:AV}{x:Value}{r:List Value}(a:VR μ h x)(b:LR μ t r):LR μ (.cons h t) (x :: r):=⟨x,r,rfl,a,b⟩
theorem LR.len{v:AV}:∀{xs:List Value},LR μ v xs→xs.length=v.len:=by
 induction v with
 | nil=>intro xs h;simp [LR,Rel]at h;simp [h,AV.len]
 | cons a t _ ih=>rintro xs ⟨x,r,rfl,h1,h2⟩;simp [AV.len,ih h2]
 | _=>intro xs h;exact h.elim
theorem LR.nth{v:AV}:∀{xs:List Value} {n:Nat} {u:AV},LR μ v xs→v.nth n=some u→∃x,xs[n]? = some x∧VR μ u x:=by
 induction v with
 | cons a t _ ih=>
  rintro xs n u ⟨x,r,rfl,h1,h2⟩ hn
  cases n with
  | zero=>simp [AV.nth]at hn;subst hn;exact⟨x,rfl,h1⟩
  | succ n=>simp only [AV.nth]at hn;obtain⟨y,e,hy⟩:=ih h2 hn;exact⟨y,by simpa using e,hy⟩
 | _=>intro xs n u _ hn;simp [AV.nth]at hn
theorem LR.take{v:AV}:∀{xs:List Value} (n:Nat),LR μ v xs→LR μ (v.take n) (xs.take n):=by
 induction v with
 | nil=>intro xs n h;simp [LR,Rel]at h;subst h;cases n <;> simp [AV.take,LR,Rel]
 | cons a t _ ih=>
  rintro xs n ⟨x,r,rfl,h1,h2⟩
  cases n with
  | zero=>simp [AV.take,LR,Rel]
  | succ n=>simp only [AV.take,List.take_succ_cons];exact .cons h1 (ih n h2)
 | _=>intro xs n h;exact h.elim
theorem LR.drop{v:AV}:∀{xs:List Value} (n:Nat),LR μ v xs→LR μ (v.drop n) (xs.drop n):=by
 induction v with
 | nil=>intro xs n h;simp [LR,Rel]at h;subst h;cases n <;> simp [AV.drop,LR,Rel]
 | cons a t _ ih=>
  rintro xs n ⟨x,r,rfl,h1,h2⟩
  cases n with
  | zero=>simp only [AV.drop,List.drop_zero];exact .cons h1 h2
  | succ n=>simp only [AV.drop,List.drop_succ_cons];exact ih n h2
 | _=>intro xs n h;exact h.elim
theorem LR.app{v u:AV}{ys:List Value}(hu:LR μ u ys):∀{xs:List Value},LR μ v xs→LR μ (v.app u) (xs ++ ys):=by
 induction v with
 | nil=>intro xs h;simp [LR,Rel]at h;subst h;exact hu
 | cons a t _ ih=>rintro xs ⟨x,r,rfl,h1,h2⟩;exact .cons h1 (ih h2)
 | _=>intro xs h;exact h.elim
theorem len_app{v u:AV}:v.isList=true→(v.app u).len=v.len+u.len:=by
 induction v with
 | nil=>intro _;simp [AV.app,AV.len]
 | cons a t _ ih=>intro h;simp [AV.app,AV.len,ih h];omega
 | _=>intro h;simp [AV.isList]at h
theorem LR.isList{v:AV}:∀{xs:List Value},LR μ v xs→v.isList=true:=by
 induction v with
 | nil=>intro xs h;rfl
 | cons a t _ ih=>rintro xs ⟨x,r,rfl,h1,h2⟩;exact ih h2
 | _=>intro xs h;exact h.elim
theorem LR.put{v:AV}:∀{xs:List Value} {n:Nat} {u w:AV} {ys:List Value},LR μ v xs→LR μ u ys→v.put n u=some w →
  n+ys.length≤xs.length∧LR μ w (xs.take n ++ ys ++ xs.drop (n+ys.length)):=by
 induction v with
 | nil=>
  intro xs n u w ys h hu hp
  simp [LR,Rel]at h;subst h
  cases n with
  | zero=>cases u with
   | nil=>simp [AV.put]at hp;subst hp;simp [LR,Rel]at hu;subst hu;simp [LR,Rel]
   | cons a t=>simp [AV.put]at hp
   | _=>exact hu.elim
  | succ n=>simp [AV.put]at hp
 | cons a t _ ih=>
  rintro xs n u w ys ⟨x,r,rfl,h1,h2⟩ hu hp
  cases n with
  | zero=>
   cases u with
   | nil=>simp [AV.put]at hp;subst hp;simp [LR,Rel]at hu;subst hu;exact⟨by simp,by simpa using LR.cons h1 h2⟩
   | cons b s=>
    obtain⟨y,q,rfl,g1,g2⟩:=hu
    simp only [AV.put,Option.map_eq_some_iff]at hp
    obtain⟨w',hw,rfl⟩:=hp
    obtain⟨k1,k2⟩:=ih h2 g2 hw
    simp only [Nat.zero_add,List.take_zero,List.nil_append,List.length_cons,List.drop_succ_cons,List.cons_append]at k1 k2 ⊢
    exact⟨by omega,.cons g1 k2⟩
   | _=>exact hu.elim
  | succ n=>
   simp only [AV.put,Option.map_eq_some_iff]at hp
   obtain⟨w',hw,rfl⟩:=hp
   obtain⟨k1,k2⟩:=ih h2 hu hw
   refine⟨by simp;omega,?_⟩
   rw [show n+1+ys.length=(n+ys.length)+1 from by omega]
   simp only [List.take_succ_cons,List.cons_append,List.drop_succ_cons]
   exact .cons h1 k2
 | _=>intro xs n u w ys h;exact h.elim
theorem LR.allOne{v:AV}:∀{xs:List Value},LR μ v xs→v.allOne=true→∀x∈xs,x.oneCell'=true:=by
 induction v with
 | nil=>intro xs h _ x hx;simp [LR,Rel]at h;simp [h]at hx
 | cons a t _ ih=>
  rintro xs ⟨x,r,rfl,h1,h2⟩ hone y hy
  simp only [AV.allOne,Bool.and_eq_true]at hone
  rcases List.mem_cons.1 hy with rfl|hy
  ·cases a with
   | sc s=>cases s <;> simp_all [Rel,Sc.val,Value.oneCell']
   | ptr i o=>obtain⟨b,N,_,rfl⟩:=h1;rfl
   | slc i o l c e s=>obtain⟨b,N,c,_,rfl,_⟩:=h1;rfl
   | map i=>obtain⟨b,N,_,rfl⟩:=h1;rfl
   | yield i=>obtain⟨b,N,_,rfl⟩:=h1;rfl
   | fn f fs cs=>obtain⟨_,_,rfl,_⟩:=h1;rfl
   | hc i k=>obtain⟨v,_,_,q⟩:=h1;exact q
   | hs i=>obtain⟨s,_,rfl⟩:=h1;rfl
   | iface t v=>obtain⟨_,rfl,_⟩:=h1;rfl
   | agg cs=>simp at hone
   | tup cs=>simp at hone
   | nil=>simp at hone
   | cons _ _=>simp at hone
  ·exact ih h2 hone.2 y hy
 | _=>intro xs h;exact h.elim
theorem LR.rep{z:AV}{zs:List Value}(hz:LR μ z zs):∀n,LR μ (AV.rep n z) (List.replicate n zs).flatten
 | 0=>rfl
 | n+1=>by rw [List.replicate_succ,List.flatten_cons];exact LR.app (LR.rep hz n) hz
theorem LR.det{v:AV}{s:List Value}(h:scCells v=some s):∀{xs:List Value},LR μ v xs→xs=s:=by
 induction v generalizing s with
 | nil=>intro xs hx;simp [scCells]at h;simp [LR,Rel]at hx;simp [hx,h]
 | cons a t _ ih=>
  rintro xs ⟨x,r,rfl,h1,h2⟩
  cases a with
  | sc q=>
   simp only [scCells,Option.map_eq_some_iff]at h
   obtain⟨s',hs,rfl⟩:=h
   rw [ih hs h2]
   simp only [Rel]at h1
   rw [h1]
  | _=>simp [scCells]at h
 | _=>simp [scCells]at h
end lists
theorem Sc.of_val{v:Value}{s:Sc}(h:Sc.of v=some s):s.val=v:=by
 unfold Sc.of at h
 split at h <;> simp at h <;> subst h <;> rfl
theorem ofCells_LR(μ:Mu):∀{l:List Value} {v:AV},ofCells l=some v→LR μ v l
 | [],v,h=>by simp [ofCells]at h;subst h;rfl
 | x :: r,v,h=>by
  simp only [ofCells]at h
  split at h
  ·rename_i s t hs ht
   simp at h;subst h
   exact .cons (Sc.of_val hs).symm (ofCells_LR μ ht)
  ·simp at h
theorem ofVal_VR(μ:Mu){x:Value}{v:AV}(h:AV.ofVal x=some v):VR μ v x:=by
 unfold AV.ofVal at h
 split at h
 ·simp only [Option.map_eq_some_iff]at h
  obtain⟨l,hl,rfl⟩:=h
  exact⟨_,rfl,ofCells_LR μ hl⟩
 ·rename_i cs
  split at h
  ·rename_i hc
   simp at h;subst h
   have:cs=#[]:=Array.toList_eq_nil_iff.1 hc
   subst this;rfl
  ·simp at h
 ·simp only [Option.map_eq_some_iff]at h
  obtain⟨s,hs,rfl⟩:=h
  exact(Sc.of_val hs).symm
theorem beqK_eq{a b:IntKind}(h:beqK a b=true):a=b:=by
 cases a <;> cases b <;> simp_all [beqK]
theorem beqI_eq{a b:Int}(h:beqI a b=true):a=b:=by
 cases a <;> cases b <;> simp_all [beqI] <;> exact Nat.eq_of_beq_eq_true h
theorem beqB_eq{a b:Bool}(h:beqB a b=true):a=b:=by
 cases a <;> cases b <;> simp_all [beqB]
theorem beqBytes_eq:∀{a b:List UInt8},beqBytes a b=true→a=b
 | [],[],_=>rfl
 | x :: s,y :: t,h=>by
  simp only [beqBytes,Bool.and_eq_true]at h
  rw [beqBytes_eq h.2,UInt8.toNat_inj.1 (Nat.eq_of_beq_eq_true h.1)]
 | [],_ :: _,h=>by simp [beqBytes]at h
 | _ :: _,[],h=>by simp [beqBytes]at h
theorem Sc.beq_eq{a b:Sc}(h:a.beq b=true):a=b:=by
 cases a <;> cases b <;> simp_all [Sc.beq]
 ·exact beqB_eq h
 ·exact⟨beqK_eq h.1,beqI_eq h.2⟩
 ·rename_i s t
  have:=beqBytes_eq h
  cases s with|mk s=>cases t with|mk t=>simp at this;rw [this]
theorem AV.beq_eq{a:AV}:∀{b:AV},a.beq b=true→a=b:=by
 induction a with
 | sc s=>intro b h;cases b <;> simp [AV.beq]at h;rw [Sc.beq_eq h]
 | ptr i o=>intro b h;cases b <;> simp [AV.beq]at h;simp [h]
 | slc i o l c e s=>
  intro b h;cases b <;> simp [AV.beq]at h
  obtain⟨⟨⟨⟨⟨h1,h2⟩,h3⟩,h4⟩,h5⟩,h6⟩:=h
  simp [h1,h2,h3,h4,beqB_eq h5,h6]
 | map i=>intro b h;cases b <;> simp [AV.beq]at h;simp [h]
 | yield i=>intro b h;cases b <;> simp [AV.beq]at h;simp [h]
 | fn f fs cs ih1 ih2=>intro b h;cases b <;> simp [AV.beq]at h;rw [h.1.1,ih1 h.1.2,ih2 h.2]
 | hc i k=>intro b h;cases b <;> simp [AV.beq]at h;simp [h]
 | hs i=>intro b h;cases b <;> simp [AV.beq]at h;simp [h]
 | iface t v ih=>intro b h;cases b <;> simp [AV.beq]at h;rw [h.1,ih h.2]
 | agg cs ih=>intro b h;cases b <;> simp [AV.beq]at h;rw [ih h]
 | tup cs ih=>intro b h;cases b <;> simp [AV.beq]at h;rw [ih h]
 | nil=>intro b h;cases b <;> simp [AV.beq]at h;rfl
 | cons x t ih1 ih2=>intro b h;cases b <;> simp [AV.beq]at h;rw [ih1 h.1,ih2 h.2]
end Go.Eng
