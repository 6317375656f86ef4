/-
  'class' and 'closed' of a chain that is open.
  Conditions: none.
-/
import Derived.Test.YtepakfjilnpodaaGreatDoorRDAZ
import Derived.Test.YtepakfjilnpodaaGreatDoorRDAV
namespace Go.Num
open Go.Eng Go.Shelf Go.RowKit Go.Sort Go.Proofs Go.Proofs.YtepakfjilnpodaaGreatDoor
def IN(k:Nat)(r:List Value)(_:World):Prop:=r = [.int .i64 (k:Int)]
def IB(b:Bool)(r:List Value)(_:World):Prop:=r = [.bool b]
theorem ul45:Tryz.prog.underlying 45=some (.slice 3):=by kernel_rfl
theorem i3i:Tryz.prog.info? 3=some Tryz.t3:=by kernel_rfl
theorem i3z:Tryz.t3.zero=some (.int .i64 0):=by kernel_rfl
theorem i3s:Tryz.t3.size=1:=by kernel_rfl
theorem i3b:Tryz.t3.bytes=8:=by kernel_rfl
theorem ul46:Tryz.prog.underlying 46=some (.slice 4):=by kernel_rfl
theorem i4i:Tryz.prog.info? 4=some Tryz.t4:=by kernel_rfl
theorem i4z:Tryz.t4.zero=some (.bool false):=by kernel_rfl
theorem i4s:Tryz.t4.size=1:=by kernel_rfl
theorem i4b:Tryz.t4.bytes=1:=by kernel_rfl
def clsL(L:Nat→Nat→Bool)(i:Nat):Nat→List Nat
 | 0 => []
 | k+1=>bif L i k && L k i then clsL L i k ++ [k]else clsL L i k
def cloB(L:Nat→Nat→Bool)(i:Nat):Nat→Bool
 | 0=>true
 | k+1=>cloB L i k && !(L i k && !L k i)
theorem clsL_len(L:Nat→Nat→Bool)(i:Nat):∀k,(clsL L i k).length≤k
 | 0=>Nat.le_refl 0
 | k+1=>by
  have:=clsL_len L i k
  show(bif L i k && L k i then clsL L i k ++ [k]else clsL L i k).length≤k+1
  cases L i k && L k i
  ·show(clsL L i k).length≤k+1;omega
  ·show(clsL L i k ++ [k]).length≤k+1;rw [List.length_append];show _+1≤_;omega
set_option maxRecDepth 100000 in
set_option maxHeartbeats 4000000 in
theorem class_calls(w:World)(g n i:Nat)(o:Option Addr)(c:Nat)(L:Nat→Nat→Bool)(h:ChP w g (.slice o n c) (fun a b=>a<n∧b<n) L)(h8:n≤8)(hi:i<n) :
  CallsIn Fence.wide 0 Tryz.prog 112 #[.pointer (some ⟨g,0,none⟩),.int .i64 (i:Int)] w fun e w'=>∃v',e = .returned v'∧RowIs w' 3 1 IN v' (clsL L i n)∧Below w.heap.size w w':=by
 have HC:=Hid.intro h
 have ytop:=h.top
 clear h
 refine callsIn_of_wp Tryz.func112 rfl trivial ?_ rfl
 simp only [Tryz.ntmps112,List.size_toArray,List.length_cons,List.length_nil,Nat.reduceAdd,Nat.reduceSub,Array.replicate_succ,Array.replicate_zero,List.push_toArray,List.append_toArray,List.nil_append,List.cons_append]
 gi_wp2
 gi_loopw [5,12] (fun x5 x12 wr=>∃j:Nat,x12 = .int .i64 (j:Int)∧j≤n∧Hid (OwnR wr w.heap.size 3 1 IN x5 (clsL L i j))∧Hid (Below w.heap.size w wr)) (fun _ x _=>n-(intOf x).toNat)
 case atStart=>exact⟨0,rfl,by omega,OwnR.nil _ _ _ _ _,Below.refl _ w⟩
 case round=>
  obtain⟨j,rfl,hj,HO,HB⟩:=hrel
  obtain⟨o5,c5,h5f⟩:=HO.out.form
  subst h5f
  by_cases hjn:j<n
  ·have HCr:=HC.out.below HB.out
   have y1:=HCr.cell (a:=i) (b:=j) (by omega) (by omega) ⟨hi,hjn⟩
   have y2:=HCr.cell (a:=j) (b:=i) (by omega) (by omega) ⟨hjn,hi⟩
   clear HCr ytop
   cases hL1:L i j with
   | false=>
    rw [hL1]at y1
    have HE:Hid (clsL L i (j+1)=clsL L i j):=Hid.intro (by show(bif L i j && L j i then _ else _)=_;rw [hL1];rfl)
    clear hL1
    gi_wp2
    exact⟨⟨j+1,by go_num,by omega,Hid.intro (by rw [HE.out];exact HO.out),HB⟩,by simp only [intOf];omega⟩
   | true=>
    rw [hL1]at y1
    cases hL2:L j i with
    | false=>
     rw [hL2]at y2
     have HE:Hid (clsL L i (j+1)=clsL L i j):=Hid.intro (by show(bif L i j && L j i then _ else _)=_;rw [hL1,hL2];rfl)
     clear hL1 hL2
     gi_wp2
     exact⟨⟨j+1,by go_num,by omega,Hid.intro (by rw [HE.out];exact HO.out),HB⟩,by simp only [intOf];omega⟩
    | true=>
     rw [hL2]at y2
     have HE:Hid (clsL L i (j+1)=clsL L i j ++ [j]):=Hid.intro (by show(bif L i j && L j i then _ else _)=_;rw [hL1,hL2];rfl)
     have HLn:=Hid.intro (clsL_len L i j)
     clear hL1 hL2
     gi_wp2_with (gi_at_builtin;refine stop ?_)
     unfold Stop
     refine append_item (ty:=3) (sz:=1) (bytes:=8) w wr rfl _ _ rfl ul45 i3i i3z i3s i3b rfl (by decide) (by decide) (.slice o5 _ c5) (clsL L i j) rfl HO.out j [.int .i64 (j:Int)] _ rfl rfl (by simp [Value.oneCell']) rfl (fun b r w1 w2 _ h=>h) (by have:=HLn.out;omega) HB.out ?_
     intro v9 w9 HO9 HB9 HT9 _
     rw [←HE.out]at HO9
     gi_wp2
     exact⟨⟨j+1,by go_num,by omega,HO9,HB9⟩,by simp only [intOf];omega⟩
  ·obtain rfl:j=n:=by omega
   have HLn:=Hid.intro (clsL_len L i j)
   gi_wp2
   all_goals (first|go_returns|go_ret|go_end0)
   exact⟨_,rfl,HO.out.row (by have:=HLn.out;omega),HB.out⟩
set_option maxRecDepth 100000 in
set_option maxHeartbeats 4000000 in
theorem closed_calls(w:World)(g n i:Nat)(o:Option Addr)(c:Nat)(L:Nat→Nat→Bool)(h:ChP w g (.slice o n c) (fun a b=>a<n∧b<n) L)(h8:n≤8)(hi:i<n) :
  CallsIn Fence.wide 0 Tryz.prog 113 #[.pointer (some ⟨g,0,none⟩),.int .i64 (i:Int)] w fun e w'=>e = .returned (.bool (cloB L i n))∧Below w.heap.size w w':=by
 have HC:=Hid.intro h
 have ytop:=h.top
 clear h
 refine callsIn_of_wp Tryz.func113 rfl trivial ?_ rfl
 simp only [Tryz.ntmps113,List.size_toArray,List.length_cons,List.length_nil,Nat.reduceAdd,Nat.reduceSub,Array.replicate_succ,Array.replicate_zero,List.push_toArray,List.append_toArray,List.nil_append,List.cons_append]
 have key:Hid (∀j,j<n→(L i j && !L j i)=true→cloB L i n=false):=Hid.intro fun j hj h=>by
  have:∀k,j<k→cloB L i k=false:=by
   intro k
   induction k with
   | zero=>intro q;omega
   | succ k ih=>
    intro q
    show(cloB L i k && !(L i k && !L k i))=false
    rcases Nat.lt_or_ge j k with q'|q'
    ·rw [ih q'];rfl
    ·have:k=j:=by omega
     rw [this,h];simp
  exact this n hj
 obtain⟨cb,hcb⟩:∃b,cloB L i n=b:=⟨_,rfl⟩
 rw [hcb]at key
 rw [hcb]
 have HCB:=Hid.intro hcb
 clear hcb
 gi_wp2
 gi_loopw [11] (fun x11 wr=>∃j:Nat,x11 = .int .i64 (j:Int)∧j≤n∧Hid (cloB L i j=true)∧Hid (wr=w)) (fun x _=>n-(intOf x).toNat)
 case atStart=>exact⟨0,rfl,by omega,Hid.intro rfl,Hid.intro rfl⟩
 case round=>
  obtain⟨j,rfl,hj,HT,HW⟩:=hrel
  have HWo:=HW.out
  subst HWo
  by_cases hjn:j<n
  ·have y1:=HC.out.cell (a:=i) (b:=j) (by omega) (by omega) ⟨hi,hjn⟩
   have y2:=HC.out.cell (a:=j) (b:=i) (by omega) (by omega) ⟨hjn,hi⟩
   clear ytop
   cases hL1:L i j with
   | false=>
    rw [hL1]at y1
    have HE:Hid (cloB L i (j+1)=true):=Hid.intro (by show(cloB L i j && !(L i j && !L j i))=_;rw [HT.out,hL1];rfl)
    clear hL1
    gi_wp2
    exact⟨⟨j+1,by go_num,by omega,HE,Hid.intro trivial⟩,by simp only [intOf];omega⟩
   | true=>
    rw [hL1]at y1
    cases hL2:L j i with
    | true=>
     rw [hL2]at y2
     have HE:Hid (cloB L i (j+1)=true):=Hid.intro (by show(cloB L i j && !(L i j && !L j i))=_;rw [HT.out,hL1,hL2];rfl)
     clear hL1 hL2
     gi_wp2
     exact⟨⟨j+1,by go_num,by omega,HE,Hid.intro trivial⟩,by simp only [intOf];omega⟩
    | false=>
     rw [hL2]at y2
     have HE:Hid (cb=false):=Hid.intro (key.out j hjn (by rw [hL1,hL2];rfl))
     clear hL1 hL2
     gi_wp2
     all_goals (first|go_returns|go_ret|go_end0)
     exact⟨by rw [HE.out];rfl,Below.refl _ _⟩
  ·obtain rfl:j=n:=by omega
   have HE:Hid (cb=true):=Hid.intro (HCB.out.symm.trans HT.out)
   gi_wp2
   all_goals (first|go_returns|go_ret|go_end0)
   exact⟨by rw [HE.out];rfl,Below.refl _ _⟩
end Go.Num
