/-
  An integer of the machine as a fraction of the program. An integer of the machine as one of the reference, and as a fraction of the program.
  Conditions: see each statement.
-/
import Derived.Test.YtepakfjilnpodaaGreatDoorRDAM
import Derived.Laws.BytesArg
import Derived.Shelf.Strings.Builder1
import Derived.Shelf.Strings.Builder2
import Derived.Shelf.Strings.Trim
import Derived.Shelf.Strings.SlTrimAscii
import Derived.Shelf.Small.Utf8
import Derived.Shelf.Small.Strs
import Derived.Shelf.Small.Wraps
import Derived.Shelf.Strings.BuilderF
import Derived.Shelf.Strconv.Itoa1
import Derived.Shelf.LaysM
import Derived.Shelf.Strconv.Itoa2
import Derived.Ground.MpProg
import Derived.Shelf.Pu.ParseUintPublic10
import Derived.Shelf.Strings.Search1
import Derived.Shelf.Strings.Search2
import Derived.Shelf.Strings.Cut
import Derived.Shelf.Strings.Shaped
import Derived.Shelf.Strings.Prefix
import Derived.Shelf.Strings.Runes
import Derived.Shelf.Strings.AsciiSet
import Derived.Shelf.Bits.Mul64
import Derived.Shelf.Strings.Repeat
import Derived.Test.YtepakfjilnpodaaGreatDoorProg
namespace Go.Num
open Go.Eng Go.RowKit Go.Proofs Go.Proofs.YtepakfjilnpodaaGreatDoor
theorem u64_of_int(n:Int)(h1 : -9223372036854775808≤n)(h2:n≤9223372036854775807)(h:0≤n):IntKind.u64.wrap n=(n.natAbs:Int):=by
 have e:IntKind.u64.wrap n=n%18446744073709551616:=rfl
 rw [e];omega
theorem u64_of_neg(n:Int)(h1 : -9223372036854775808≤n)(h:n<0):IntKind.u64.wrap n=n+18446744073709551616:=by
 have e:IntKind.u64.wrap n=n%18446744073709551616:=rfl
 rw [e];omega
theorem u64_neg(n:Int)(h1 : -9223372036854775808≤n)(h:n<0):IntKind.u64.wrap (-(n+18446744073709551616))=(n.natAbs:Int):=by
 have e:IntKind.u64.wrap (-(n+18446744073709551616))=(-(n+18446744073709551616))%18446744073709551616:=rfl
 rw [e];omega
theorem ret_agg{fn:Func}{p:Tmp}{ty:TypeId}{R:Ending→World→Prop}{a:Act}{w:World}{cs:List Value}{n:Nat}(h:fn.results=#[.cell p ty])(hd:a.defers = [])(g:Nat)(hp:a.tmps.getD p undef = .pointer (some ⟨g,0,none⟩))
  (hl:LoadAll Tryz.prog ty n) (hn:cs.length=n) (hc:∀j v,cs[j]? = some v→World.cell? w ⟨g,j,none⟩=some v) (hR:R (.returned (.agg cs.toArray)) w):bodyPost Tryz.prog fn R .ret a w:=by
 refine⟨hd,.agg cs.toArray,?_,hR⟩
 have:=hl g cs w hn hc
 simp only [Instr.loadAt,Instr.sureAddr,Sem.run_bind,Sem.run_pure,Result.andThen_ok]at this
 have hp2:a.tmps[p]?.getD undef = .pointer (some ⟨g,0,none⟩):=by rw [←Array.getD_eq_getD_getElem?];exact hp
 simp [results,h,hp2,asAddr,this]
theorem NatI.setElem{w:World}{v u:Value}{x g i:Nat}{e:TypeId}(h:NatI w v x)(hE:Elem w g e)(he:e≠3):NatI (w.setCell ⟨g,i,none⟩ u) v x:=by
 obtain⟨k,hk,hl⟩:=h
 refine⟨k,hk,?_⟩
 rcases hl with h|⟨a,cap,rfl,h2,h3,h4,h5,h6⟩
 ·exact .inl h
 ·have hne:a.block≠g:=h5.ne hE (Ne.symm he)
  refine .inr ⟨a,cap,rfl,h2,h3,h4,h5.setCell _ _,fun j hj => ?_⟩
  rw [World.cell?_setCell_other _ _ _ _ (by intro q;exact hne (by rw [←add_block a j];exact(congrArg Addr.block q).symm))]
  exact h6 j hj
theorem l32:LoadAll Tryz.prog 60 2:=loadAll_of (by kernel_rfl) (by kernel_rfl)
set_option maxRecDepth 100000 in
set_option maxHeartbeats 8000000 in
theorem rOf_calls(w:World)(n:Int)(h1 : -9223372036854775808≤n)(h2:n≤9223372036854775807) :
  CallsIn Fence.wide 0 Tryz.prog 31 #[.int .i64 n] w fun e w'=>∃v',e = .returned v'∧ZAt w' v' n∧Below w.heap.size w w':=by
 obtain⟨N,hN⟩:∃N,n.natAbs=N:=⟨_,rfl⟩
 have hNs:N<18446744073709551616:=by omega
 refine callsIn_of_wp Tryz.func31 rfl trivial ?_ rfl
 simp only [Tryz.ntmps31,List.size_toArray,List.length_cons,List.length_nil,Nat.reduceAdd,Nat.reduceSub,Array.replicate_succ,Array.replicate_zero,List.push_toArray,List.append_toArray,List.nil_append,List.cons_append]
 by_cases h0:n<0
 case' pos=>
  have e1:=u64_of_neg n h1 h0
  have e2:=u64_neg n h1 h0
  have HS:Hid (sgn true N=n):=Hid.intro (by unfold sgn;simp;omega)
  have hb:decide (n<0)=true:=decide_eq_true h0
 case' neg=>
  have e1:=u64_of_int n h1 h2 (by omega)
  have HS:Hid (sgn false N=n):=Hid.intro (by unfold sgn;simp;omega)
  have hb:decide (n<0)=false:=decide_eq_false h0
 all_goals
  first|rw [hN]at e2|rw [hN]at e1
  gi_wp2
  obtain⟨W1,hW1⟩:∃W,W=w.alloc (.cells #[.bool false,.slice none 0 0] 60):=⟨_,rfl⟩
  rw [←hW1]
  have HBW:Hid (Below w.heap.size w W1):=Hid.intro (by rw [hW1];exact alloc_below _ _)
  have HA1:Hid (ArrAt W1 w.heap.size 2 fun i=>if i=0 then .bool false else .slice none 0 0):=Hid.intro (by
   rw [hW1]
   refine ArrAt.new _ _ _ fun i hi => ?_
   match i,hi with
   | 0,_=>rfl
   | 1,_=>rfl)
  have HE1:Hid (Elem W1 w.heap.size 60):=Hid.intro (by rw [hW1];exact elem_new _ _ _)
  obtain⟨g,hg⟩:∃g,w.heap.size=g:=⟨_,rfl⟩
  have hgl:g<W1.heap.size:=by rw [hW1,←hg];simp
  have hgw:w.heap.size≤g:=by omega
  rw [hg]at HA1 HE1
  rw [hg]
  clear hg
  have HO4:Hid (W1.ownsRow W1.heap.size 3 1 (.slice none 0 0) 0 (firstI N 0)):=World.ownsRow_nil _ _ _ _
  have HB4:Hid (Below W1.heap.size W1 W1):=Below.refl _ W1
  have HN:=Hid.intro hN
  clear hW1 hN e1
  try clear e2
  gi_loopw [3,4] (fun uv v wr=>∃j u:Nat,j≤20∧uv = .int .u64 (u:Int)∧Hid (N/B^j=u)∧u<18446744073709551616∧Hid (j=0∨B^(j-1)≤N)∧Hid (wr.ownsRow W1.heap.size 3 1 v j (firstI N j))∧Hid (Below W1.heap.size W1 wr)) (fun uv _ _=>(intOf uv).toNat)
  case atStart=>exact⟨0,N,by omega,rfl,Hid.intro (by simp),hNs,Hid.intro (.inl rfl),HO4.out,HB4.out⟩
  case round=>
   obtain⟨j,u,hj,rfl,HU,hu,HJ,HO,HBr⟩:=hrel
   clear HO4 HB4
   by_cases hu0:0<u
   ·have hl:u%1000000000=limb N j:=by rw [←HU.out];rfl
    have HL:=Hid.intro hl
    have hlt:u%1000000000<1000000000:=Nat.mod_lt _ (by decide)
    have hdv:u/1000000000<u:=Nat.div_lt_self hu0 (by decide)
    have HJ2:Hid (B^j≤N):=Hid.intro (by
     apply Classical.byContradiction
     intro hno
     have:=Nat.div_eq_of_lt (show N<B^j by omega)
     rw [HU.out]at this
     omega)
    have hj19:j<19:=by
     apply Classical.byContradiction
     intro hno
     have h1:B^3≤B^j:=pow_mono (by omega)
     have h2:B^3=1000000000000000000000000000:=by decide
     have:=HJ2.out
     omega
    clear hl
    gi_wp2_with (gi_at_builtin;refine stop ?_)
    unfold Stop
    refine appendI_limb W1 wr rfl _ _ rfl u4 j N rfl HO _ _ rfl ?_ (by omega) HBr ?_
    ·rw [←HL.out];go_num
    ·intro v2 w2 HO2 HB2
     gi_wp2
     refine⟨⟨j+1,u/1000000000,by omega,rfl,?_,by omega,Hid.intro (.inr HJ2.out),HO2,HB2⟩,by simp [intOf] <;> omega⟩
     rw [Nat.pow_succ,←Nat.div_div_eq_div_mul,HU.out]
     rfl
   ·have hu00:u=0:=by omega
    subst hu00
    have hlen:LenIs N j:=⟨by
     rcases Nat.lt_or_ge N (B^j)with h|h
     ·exact h
     ·have:=Nat.div_pos h (pow_pos' j);rw [HU.out]at this;omega,HJ.out⟩
    have HM:Hid (NatI wr u4 N):=Hid.intro ⟨j,hlen,rowI_limbs HO.out (by omega)⟩
    clear hlen
    gi_wp2_with (gi_at_call 94;refine stop ?_)
    unfold Stop
    refine(int_calls wr _ u4 N HM.out).mono ?_
    rintro e w5 ⟨v5,rfl,⟨m,rfl,hm⟩,hb5⟩
    have HB5:=Hid.intro (HBr.out.trans (hb5.mono HBr.out.size))
    have HM5:=Hid.intro hm
    obtain⟨om,km,cm,rfl,_,_⟩:=natI_len hm
    have HA5:=HA1.out.below hgl HB5.out
    have y0:=(HA5 0 (by omega)).1
    have y1:=(HA5 1 (by omega)).1
    have z0:=(HA5 0 (by omega)).2
    have z1:=(HA5 1 (by omega)).2
    simp only [if_true,if_false,Nat.one_ne_zero]at y0 y1
    have HA6:=Hid.intro HA5
    have HE5:=Hid.intro (HE1.out.below HB5.out hgl)
    clear hm hb5 HA5
    gi_wp2
    have ha6:=(HA6.out.set (i:=0) (by omega) (.bool (decide (n<0)))).set (i:=1) (by omega) (.slice om km cm)
    rw [HS.out]
    refine ret_agg (cs:=[.bool (decide (n<0)),.slice om km cm]) rfl rfl g rfl l32 rfl ?_ ?_
    ·intro j v hj
     match j,hj with
     | 0,hj=>cases hj;exact(ha6 0 (by omega)).1
     | 1,hj=>cases hj;exact(ha6 1 (by omega)).1
    ·refine⟨_,rfl,⟨_,rfl,?_⟩,(HBW.out.trans (HB5.out.mono HBW.out.size)).setCell hgw _ |>.setCell hgw _⟩
     have:=(HM5.out.setElem (i:=0) (u:=.bool (decide (n<0))) HE5.out (by decide)).setElem (i:=1) (u:=.slice om km cm) (HE5.out.setCell _ _) (by decide)
     rw [HS.out]at this
     exact this
theorem rat_ofInt_num(n:Int):(n:Rat).num=n:=rfl
theorem rat_ofInt_den(n:Int):(n:Rat).den=1:=rfl
set_option maxRecDepth 100000 in
set_option maxHeartbeats 8000000 in
theorem ofN_calls(w:World)(n:Int)(h1 : -9223372036854775808≤n)(h2:n≤9223372036854775807) :
  CallsIn Fence.wide 0 Tryz.prog 16 #[.int .i64 n] w fun e w'=>∃v',e = .returned v'∧RatAt w' v' (n:Rat)∧Below w.heap.size w w':=by
 obtain⟨N,hN⟩:∃N,n.natAbs=N:=⟨_,rfl⟩
 have hNs:N<18446744073709551616:=by omega
 refine callsIn_of_wp Tryz.func16 rfl trivial ?_ rfl
 simp only [Tryz.ntmps16,List.size_toArray,List.length_cons,List.length_nil,Nat.reduceAdd,Nat.reduceSub,Array.replicate_succ,Array.replicate_zero,List.push_toArray,List.append_toArray,List.nil_append,List.cons_append]
 by_cases h0:n<0
 case' pos=>
  have e1:=u64_of_neg n h1 h0
  have e2:=u64_neg n h1 h0
  have hb:decide (n<0)=true:=decide_eq_true h0
 case' neg=>
  have e1:=u64_of_int n h1 h2 (by omega)
  have hb:decide (n<0)=false:=decide_eq_false h0
 all_goals
  first|rw [hN]at e2|rw [hN]at e1
  gi_wp2_with (gi_at_call 72;refine stop ?_)
  unfold Stop
  obtain⟨W,hW⟩:∃W,W=w.alloc (.cells #[.bool false,.slice none 0 0,.slice none 0 0] 27):=⟨_,rfl⟩
  rw [←hW]
  have HK:Hid (Own3 w W):=by rw [hW];exact own3_new _ _ _ _ _
  clear hW
  have HN:=Hid.intro hN
  have HB:=Hid.intro hb
  clear hN e1
  try clear e2
  refine(magOf_calls W N hNs).mono ?_
  rintro e w2 ⟨v7,rfl,⟨hm,hf⟩,hB2⟩
  have HF2:Hid (N=0∨v7.ownBlock≠some w.heap.size):=hf.ne HK.out.2.1 _
  have HK8:=Hid.intro (HK.out.step hB2)
  have HM7:=Hid.intro hm
  clear hm hB2 HK hf
  obtain⟨x0,x1,x2,z0,z1,z2,y0,y1,y2⟩:=HK8.out.cells
  obtain⟨o,k,c,rfl,_,_⟩:=mag_len HM7.out
  gi_wp2
  refine ret_rat3 rfl rfl w.heap.size rfl z0 z1 z2 ?_
  have hB:=HK8.out.2.2
  refine⟨_,rfl,⟨.slice o k c,.slice none 0 0,?_,?_,?_⟩,((hB.setCell (Nat.le_refl _) _).setCell (Nat.le_refl _) _).setCell (Nat.le_refl _) _⟩
  ·rw [rat_ofInt_num,HB.out]
  ·rw [rat_ofInt_num,HN.out];exact((HM7.out.setCell' HF2.out _).setCell' HF2.out _).setCell' HF2.out _
  ·rw [rat_ofInt_den,if_pos rfl];exact magAt_nil _ _ _
def dgt(N p:Nat):Nat:=N/10^p%10
theorem pow9(i:Nat):B^i=10^(9*i):=by
 rw [Nat.pow_mul]
 rfl
theorem dgt_limb{N i j:Nat}(hj:j<9):limb N i/10^j%10=dgt N (9*i+j):=by
 unfold limb dgt
 obtain⟨c,hc⟩:∃c,9-j=c+1:=⟨9-j-1,by omega⟩
 have hB:B=10^j*10^(c+1):=by
  rw [←Nat.pow_add,←hc,show j+(9-j)=9 by omega]
  rfl
 rw [show N/B^i%B=N/B^i%(10^j*10^(c+1))by rw [←hB],Nat.mod_mul_right_div_self,Nat.mod_mod_of_dvd _ (by rw [Nat.pow_succ];exact Nat.dvd_mul_left _ _),pow9,Nat.div_div_eq_div_mul,←Nat.pow_add]
def bytV(N p:Nat):Value:=.int .u8 ((48+dgt N p:Nat):Int)
def firstB(N k:Nat):List Value:=(List.range k).map (bytV N)
theorem firstB_len(n k:Nat):(firstB n k).length=k:=by simp [firstB]
theorem firstB_succ(n k:Nat):firstB n (k+1)=firstB n k ++ [bytV n k]:=by simp [firstB,List.range_succ]
theorem t5_info:Tryz.prog.info? 5=some Tryz.t5:=by kernel_rfl
theorem u107:Tryz.prog.underlying 229=some (.slice 5):=by kernel_rfl
theorem u5:Tryz.prog.underlying 5=some (.int .u8):=by kernel_rfl
theorem u9:Tryz.prog.underlying 9=some .string:=by kernel_rfl
theorem t5_zero:Tryz.t5.zero=some (.int .u8 0):=by kernel_rfl
theorem t5_size:Tryz.t5.size=1:=by kernel_rfl
theorem t5_bytes:Tryz.t5.bytes=1:=by kernel_rfl
theorem byte_new(w:World)(i:Int)(t:TypeId):∀k u,[Value.int .u8 i][k]? = some u→(w.alloc (.cells #[.int .u8 i] t)).cell? ((⟨w.heap.size,0,none⟩:Addr).add k)=some u:=by
 intro k u h
 rw [Addr.add_lit,Nat.zero_add,World.cell?_alloc_new]
 match k,h with
 | 0,h=>exact h
theorem appendB{F:Fence}{n:Nat}(w wr:World){ops:Array Oper}{rest:List Oper}{o:Oper}{a:Act}{Q:Exit→Act→World→Prop}
  (hg:o.guard=none) (s x:Operand) (hop:o.op=Op.call {callee:=Callee.builtin Builtin.append,args:=#[s,x],argTypes:=#[229,229]})
  (v:Value) (j:Nat) (xs:List Value) (hs:a.eval s=v) (HO:Hid (wr.ownsRow w.heap.size 5 1 v j xs)) (z:Int) (t:TypeId) (hx:a.eval x = .slice (some ⟨wr.heap.size,0,none⟩) 1 1) (c:Int) (hz:z=c) (hj:j<5000000000)
  (HB:Hid (Below w.heap.size w wr))
  (hK:∀v' w',Hid (w'.ownsRow w.heap.size 5 1 v' (j+1) (xs ++ [.int .u8 c]))→Hid (Below w.heap.size w w')→wpListIn F n Tryz.prog ops Q rest (a.put o.dst v') w') :
  wpListIn F n Tryz.prog ops Q (o :: rest) a (wr.alloc (.cells #[.int .u8 z] t)):=by
 have hsz:=HB.out.size
 refine wpListIn_append_own _ hg s x 229 hop w.heap.size 5 Tryz.t5 _ 1 1 u107 t5_info t5_zero t5_size t5_bytes rfl (by decide) v j xs hs (World.ownsRow.alloc HO.out _) ⟨wr.heap.size,0,none⟩ 1 1 [.int .u8 z] hx rfl (byte_new _ _ _) (fun u hu=>by simp at hu;subst hu;rfl) (by unfold maxLen;omega) (by omega) (by simp;omega) ?_
 intro v' w' h1 h2 _
 refine hK v' w' ?_ ?_
 ·rw [←hz];exact h1
 ·refine(HB.out.alloc hsz _).grown h2 (by simp;omega) fun k hk => ?_
  exact own_base HO.out hk
theorem stop_conv{F:Fence}{n:Nat}{P:Program}{w:World}{ops:Array Oper}{rest:List Oper}{a:Act}{Q:Exit→Act→World→Prop}{dst:Option Tmp}{ty:TypeId}{ps:String}{af:Array Edge}{gd:Option (Nat × Bool)}{x:Operand}
  (h:Stop (wpListIn F n P ops Q ({dst:=dst,op:=Op.convert 229 9 x,type:=ty,pos:=ps,after:=af,guard:=gd} :: rest) a w)) :
  wpListIn F n P ops Q ({dst:=dst,op:=Op.convert 229 9 x,type:=ty,pos:=ps,after:=af,guard:=gd} :: rest) a w:=h
theorem wpListIn_conv{F:Fence}{n:Nat}{P:Program}{w:World}{ops:Array Oper}{rest:List Oper}{o:Oper}{a:Act}{Q:Exit→Act→World→Prop}
  (hg:o.guard=none) (s d:TypeId) (x:Operand) (hop:o.op=Op.convert s d x) (v u:Value) (hx:a.eval x=v) (hr:(convert s d v).run P w = .ok u w)
  (h:wpListIn F n P ops Q rest (a.put o.dst u) w):wpListIn F n P ops Q (o :: rest) a w:=by
 refine wpListIn_plain hg fun K hK => ?_
 unfold Oper.wpIn
 refine⟨by simp [Oper.about,hop],?_⟩
 rw [Oper.semAt_plain F _ _ (by rw [hop];intro c hc';cases hc')]
 simp [execOp,hop,hx,hr,Result.andThen]
 exact hK _ _ h
def backT(N L p:Nat):Int:=if p<L then((48+dgt N p:Nat):Int)else 45
theorem strOfNums_map(xs:List Int)(l:List UInt8)(h:xs.map (fun n=>UInt8.ofNat n.toNat)=l):strOfNums xs=⟨l.toArray⟩:=by
 unfold strOfNums
 rw [h]
theorem back_pos{z:Int}(h:0≤z):strOfNums ((List.range (Lib.nDigits z.natAbs)).map fun p=>backT z.natAbs (Lib.nDigits z.natAbs) (Lib.nDigits z.natAbs-1-p))=textZ z:=by
 refine strOfNums_map _ _ ?_
 unfold Lib.itoa
 rw [if_neg (by omega),show z.toNat=z.natAbs by omega,Lib.decDigits_eq,List.map_map]
 refine List.map_congr_left fun p hp => ?_
 have hp:=List.mem_range.1 hp
 show UInt8.ofNat (backT _ _ _).toNat=_
 unfold backT
 rw [if_pos (by omega),Int.toNat_natCast]
 rfl
theorem back_neg{z:Int}(h:z<0):strOfNums ((List.range (Lib.nDigits z.natAbs+1)).map fun p=>backT z.natAbs (Lib.nDigits z.natAbs) (Lib.nDigits z.natAbs+1-1-p))=textZ z:=by
 refine strOfNums_map _ _ ?_
 unfold Lib.itoa
 rw [if_pos h,Lib.decDigits_eq,List.range_succ_eq_map,List.map_cons,List.map_cons,List.map_map,List.map_map]
 congr 1
 ·show UInt8.ofNat (backT _ _ _).toNat=_
  unfold backT
  rw [if_neg (by omega)]
  rfl
 ·refine List.map_congr_left fun p hp => ?_
  have hp:=List.mem_range.1 hp
  show UInt8.ofNat (backT _ _ _).toNat=_
  unfold backT
  rw [if_pos (by omega),Int.toNat_natCast]
  show Lib.dg _ _=Lib.dg _ _
  congr 1
  omega
theorem textZ_zero:textZ 0=⟨#[48]⟩:=by
 unfold textZ Lib.itoa
 rw [if_neg (by decide),Lib.decDigits,dif_pos (by decide)]
 rfl
theorem row_shrink{w:World}{base e g cap n N:Nat}(h:w.ownsRow base e 1 (.slice (some ⟨g,0,none⟩) (n+1) cap) (n+1) (firstB N (n+1))):w.ownsRow base e 1 (.slice (some ⟨g,0,none⟩) n cap) n (firstB N n):=by
 rcases h.2 with⟨h,_⟩|⟨g',cap',cur,hv,h1,h2,h3,h4,h5,h6⟩
 ·cases h
 ·cases hv
  refine⟨by rw [firstB_len];omega,.inr ⟨g,cap,cur,rfl,h1,h2,by omega,h4,h5,?_⟩⟩
  have:cur.toList.take (n*1)=(cur.toList.take ((n+1)*1)).take n:=by rw [List.take_take];congr 1;omega
  rw [this,h6,firstB_succ,List.take_append_of_le_length (by rw [firstB_len];omega),List.take_of_length_le (by rw [firstB_len];omega)]
def lenV:Value→Nat
 | .slice _ n _=>n
 | _=>0
set_option maxRecDepth 100000 in
set_option maxHeartbeats 8000000 in
theorem rString_calls(w:World)(v:Value)(z:Int)(h:ZAt w v z)(hz:z.natAbs<B^100000) :
  CallsIn Fence.wide 0 Tryz.prog 155 #[v] w fun e w'=>e = .returned (.string (textZ z))∧Below w.heap.size w w':=by
 obtain⟨m,rfl,k,hk,hl⟩:=h
 obtain⟨N,hN⟩:∃N,z.natAbs=N:=⟨_,rfl⟩
 rw [hN]at hk hl hz
 have hkL:k≤100000:=hk.le hz
 obtain⟨o,c,rfl,h1⟩:=hl.form
 have H1:=Hid.intro h1
 have HK:=Hid.intro hk
 have HN:=Hid.intro hN
 clear h1 hk hl hz hN
 obtain⟨sg,hsg⟩:∃sg,decide (z<0)=sg:=⟨_,rfl⟩
 rw [hsg]
 refine callsIn_of_wp Tryz.func155 rfl trivial ?_ rfl
 simp only [Tryz.ntmps155,List.size_toArray,List.length_cons,List.length_nil,Nat.reduceAdd,Nat.reduceSub,Array.replicate_succ,Array.replicate_zero,List.push_toArray,List.append_toArray,List.nil_append,List.cons_append]
 by_cases hk0:k=0
 ·subst hk0
  have hN0:N=0:=HK.out.zero
  have hz0:z=0:=by have:=HN.out;omega
  subst hz0
  gi_wp2
  all_goals (first|go_returns|go_ret|go_end0)
  exact⟨by rw [textZ_zero];rfl,alloc_below _ _⟩
 ·have hk0':((k:Int) == 0)=false:=beq_false_of_ne (by omega)
  have HSG:=Hid.intro hsg
  clear hsg
  obtain⟨W1,hW1⟩:∃W,W=w.alloc (.cells #[.bool sg,.slice o k c] 60):=⟨_,rfl⟩
  have HBW:Hid (Below w.heap.size w W1):=Hid.intro (by rw [hW1];exact alloc_below _ _)
  have HA1:Hid (ArrAt W1 w.heap.size 2 fun i=>if i=0 then .bool sg else .slice o k c):=Hid.intro (by
   rw [hW1]
   refine ArrAt.new _ _ _ fun i hi => ?_
   match i,hi with
   | 0,_=>rfl
   | 1,_=>rfl)
  have HN0:Hid (0<N):=Hid.intro (by
   rcases Nat.eq_zero_or_pos N with h|h
   ·subst h;exact absurd (HK.out.unique lenIs_zero) hk0
   ·exact h)
  gi_wp2
  rw [←hW1]
  obtain⟨g,hg⟩:∃g,w.heap.size=g:=⟨_,rfl⟩
  have hgl:g<W1.heap.size:=by rw [hW1,←hg];simp
  have hgw:w.heap.size≤g:=by omega
  rw [hg]at HA1
  rw [hg]
  clear hg hW1
  have HO4:Hid (W1.ownsRow W1.heap.size 5 1 (.slice none 0 0) (9*0) (firstB N (9*0))):=World.ownsRow_nil _ _ _ _
  have HB4:Hid (Below W1.heap.size W1 W1):=Below.refl _ W1
  gi_loopw [3,4,5,6] (fun bv iv _ _ wr=>∃i:Nat,i≤k∧iv = .int .i64 (i:Int)∧Hid (wr.ownsRow W1.heap.size 5 1 bv (9*i) (firstB N (9*i)))∧Hid (Below W1.heap.size W1 wr)) (fun _ iv _ _ _=>k-(intOf iv).toNat)
  case atStart=>exact⟨0,by omega,rfl,HO4.out,HB4.out⟩
  case round=>
   obtain⟨i,hi,rfl,HO,HBr⟩:=hrel
   clear HO4 HB4
   have HA5:=Hid.intro (HA1.out.below hgl HBr.out)
   have y0:=(HA5.out 0 (by omega)).1
   have y1:=(HA5.out 1 (by omega)).1
   simp only [if_true,if_false,Nat.one_ne_zero]at y0 y1
   by_cases hik:i<k
   ·obtain⟨a1,rfl,ha1,hc1⟩:=H1.out (by omega)
    have ha1':a1.block<W1.heap.size:=Nat.lt_of_lt_of_le ha1 HBW.out.size
    have p1:=(HBr.out.cell (p:=a1.add i) (by rw [add_block];exact ha1')).trans ((HBW.out.cell (p:=a1.add i) (by rw [add_block];exact ha1)).trans (hc1 i hik))
    obtain⟨l,hl⟩:∃l,limb N i=l:=⟨_,rfl⟩
    have hl9:l<1000000000:=by rw [←hl];exact limb_lt N i
    rw [hl]at p1
    have HL:=Hid.intro hl
    have hikd:decide ((i:Int)<(k:Int))=true:=decide_eq_true (by omega)
    have HO4:Hid (wr.ownsRow W1.heap.size 5 1 u3 (9*i+0) (firstB N (9*i+0))):=HO
    clear hc1 hl HO
    gi_wp2
    gi_loopw [3,5,6] (fun bv xv jv wr=>∃j x:Nat,j≤9∧xv = .int .i64 (x:Int)∧jv = .int .i64 (j:Int)∧x<1000000000∧Hid (l/10^j=x)∧Hid (wr.ownsRow W1.heap.size 5 1 bv (9*i+j) (firstB N (9*i+j)))∧Hid (Below W1.heap.size W1 wr)) (fun _ _ jv _=>9-(intOf jv).toNat)
    case atStart=>exact⟨0,l,by omega,rfl,rfl,hl9,Hid.intro (by simp),HO4.out,HBr.out⟩
    case round=>
     obtain⟨j,x,hj,rfl,rfl,hx9,HX,HO,HB2⟩:=hrel
     clear HO4 HBr HA5 y0 y1 p1
     by_cases hj9:j<9
     ·have hd:x%10=dgt N (9*i+j):=by rw [←HX.out,←HL.out];exact dgt_limb hj9
      have HD:=Hid.intro hd
      have hx10:x%10<10:=Nat.mod_lt _ (by decide)
      clear hd
      gi_wp2_with (gi_at_builtin;refine stop ?_)
      unfold Stop
      refine appendB W1 wr rfl _ _ rfl u3 (9*i+j) (firstB N (9*i+j)) rfl HO _ _ rfl ((48+dgt N (9*i+j):Nat):Int) ?_ (by omega) HB2 ?_
      ·rw [←HD.out];go_num
      ·intro v2 w2 HO2 HB3
       gi_wp2
       refine⟨⟨j+1,x/10,by omega,by go_num,by go_num,by omega,?_,?_,HB3⟩,by simp [intOf] <;> omega⟩
       ·rw [Nat.pow_succ,←Nat.div_div_eq_div_mul,HX.out];rfl
       ·have:=HO2.out
        exact Hid.intro (by rw [show 9*i+(j+1)=9*i+j+1 by omega,firstB_succ];exact this)
     ·have hj0:j=9:=by omega
      subst hj0
      gi_wp2
      refine⟨⟨i+1,by omega,by go_num,?_,HB2⟩,by simp [intOf] <;> omega⟩
      exact Hid.intro (by rw [show 9*(i+1)=9*i+9 by omega];exact HO.out)
   ·have hik0:i=k:=by omega
    subst hik0
    have hikd:decide ((i:Int)<(i:Int))=false:=decide_eq_false (by omega)
    have hform:∃g2 cap,u3 = .slice (some ⟨g2,0,none⟩) (9*i) cap∧9*i≤cap∧cap≤9223372036854775807∧W1.heap.size≤g2:=by
     rcases HO.out.2 with⟨_,h⟩|⟨g2,cap,cur,h1,h2,h3,h4,h5,_⟩
     ·omega
     ·exact⟨g2,cap,h1,h4,by unfold maxLen at h5;omega,h2⟩
    obtain⟨g2,cap,rfl,hcap,hcm,hg2⟩:=hform
    have HNk:Hid (N<10^(9*i)):=Hid.intro (by rw [←pow9];exact HK.out.1)
    gi_wp2
    gi_loopw [3] (fun bv wr=>∃L,1≤L∧L≤9*i∧bv = .slice (some ⟨g2,0,none⟩) L cap∧Hid (wr.ownsRow W1.heap.size 5 1 bv L (firstB N L))∧Hid (N<10^L)∧Hid (Below W1.heap.size W1 wr)) (fun bv _=>lenV bv)
    case atStart=>exact⟨9*i,by omega,by omega,rfl,HO.out,HNk.out,HBr.out⟩
    case round=>
     obtain⟨L,hL1,hL9,rfl,HO2,HNL,HB2⟩:=hrel
     clear HO HNk HBr HA5 y0 y1
     obtain⟨m,rfl⟩:∃m,L=m+1:=⟨L-1,by omega⟩
     have p1:wr.cell? ⟨g2,m,none⟩=some (bytV N m):=by
      have:=HO2.out.cells rfl m (bytV N m) (by simp [firstB])
      rw [Addr.add_lit,Nat.zero_add]at this
      exact this
     obtain⟨d,hd⟩:∃d,dgt N m=d:=⟨_,rfl⟩
     unfold bytV at p1
     rw [hd]at p1
     have HD:=Hid.intro hd
     obtain⟨cc,hcc⟩:∃cc:Int,((48+d:Nat):Int)=cc:=⟨_,rfl⟩
     rw [hcc]at p1
     have hm1:m+1≤cap:=by omega
     clear hd
     by_cases hd0:d=0
     ·subst hd0
      have hcc:cc=48:=by omega
      subst hcc
      have hm0:1≤m:=by
       rcases Nat.eq_zero_or_pos m with h|h
       ·subst h
        have h1:=HNL.out
        have h2:=HD.out
        have h3:=HN0.out
        unfold dgt at h2
        simp at h1 h2
        omega
       ·exact h
      have HNL2:Hid (N<10^m):=Hid.intro (by
       have h1:=HNL.out
       have h2:=HD.out
       unfold dgt at h2
       rw [Nat.pow_succ]at h1
       have h3:N/10^m<10:=Nat.div_lt_of_lt_mul (by rw [Nat.mul_comm]at h1;rw [Nat.mul_comm];exact h1)
       have h4:N/10^m=0:=by
        obtain⟨D,hD⟩:∃D,N/10^m=D:=⟨_,rfl⟩
        rw [hD]at h2 h3 ⊢
        omega
       rcases Nat.lt_or_ge N (10^m)with h|h
       ·exact h
       ·have:=Nat.div_pos h (Nat.pow_pos (by decide));omega)
      have HO3:=Hid.intro (row_shrink HO2.out)
      clear HD HO2 HNL
      gi_wp2
      refine⟨⟨m,by omega,by omega,rfl,HO3,HNL2,HB2⟩,by simp [lenV]⟩
     ·have hcc0:(cc == 48)=false:=beq_false_of_ne (by omega)
      have HDN:Hid (Lib.nDigits N=m+1):=Hid.intro (Lib.nDigits_unique m N (by
       have h2:=HD.out
       unfold dgt at h2
       rcases Nat.lt_or_ge N (10^m)with h|h
       ·rw [Nat.div_eq_of_lt h]at h2;omega
       ·exact h) HNL.out)
      have HA5:=Hid.intro (HA1.out.below hgl HB2.out)
      have y0:=(HA5.out 0 (by omega)).1
      have y1:=(HA5.out 1 (by omega)).1
      simp only [if_true,if_false,Nat.one_ne_zero]at y0 y1
      clear HD HNL hcc hd0
      cases sg with
      | false=>
       have HT:Hid (strOfNums ((List.range (m+1)).map fun p=>backT N (m+1) (m+1-1-p))=textZ z):=Hid.intro (by
        have h:=back_pos (z:=z) (by have:=of_decide_eq_false HSG.out;omega)
        rw [HN.out,HDN.out]at h
        exact h)
       have HA3:Hid (ArrAt wr g2 (m+1) fun p => .int .u8 (backT N (m+1) p)):=Hid.intro (ArrAt.of_row HO2.out fun p hp=>by
        simp only [firstB,List.getElem?_map,List.getElem?_range hp,Option.map_some,bytV,backT,hp,if_true])
       have HB3:=HB2
       clear HO2 HB2
       gi_wp2
       gi_loopw [7,8,9] (fun iv jv _ wr=>∃a b:Nat,a+b+1=m+1∧a≤b+1∧iv = .int .i64 (a:Int)∧jv = .int .i64 (b:Int)∧Hid (ArrAt wr g2 (m+1) fun p => .int .u8 (backT N (m+1) (if p<a∨b<p then m+1-1-p else p)))∧Hid (Below W1.heap.size W1 wr)) (fun iv _ _ _=>m+1-(intOf iv).toNat)
       case atStart=>exact⟨0,m,by omega,by omega,rfl,by go_num,Hid.intro (ArrAt.congr HA3.out fun p hp=>by(try dsimp only);rw [if_neg (by omega)]),HB3.out⟩
       case round=>
        obtain⟨a,b,hab,hab1,rfl,rfl,HA,HB4⟩:=hrel
        clear HA3 HB3 HA5 y0 y1
        by_cases hlt:a<b
        ·obtain⟨b,rfl⟩:∃b',b=b'+1:=⟨b-1,by omega⟩
         obtain⟨x1,hx1⟩:∃x,backT N (m+1) a=x:=⟨_,rfl⟩
         obtain⟨x2,hx2⟩:∃x,backT N (m+1) (b+1)=x:=⟨_,rfl⟩
         have z1:wr.cell? ⟨g2,a,none⟩=some (.int .u8 x1):=(HA.out a (by omega)).1.trans (by(try dsimp only);rw [if_neg (by omega),hx1])
         have z2:wr.cell? ⟨g2,b+1,none⟩=some (.int .u8 x2):=(HA.out (b+1) (by omega)).1.trans (by(try dsimp only);rw [if_neg (by omega),hx2])
         have f1:=(HA.out a (by omega)).2
         have f2:=(HA.out (b+1) (by omega)).2
         have HX1:=Hid.intro hx1
         have HX2:=Hid.intro hx2
         have hltd:decide ((a:Int)<((b+1:Nat):Int))=true:=decide_eq_true (by omega)
         clear hx1 hx2
         gi_wp2
         refine⟨⟨a+1,b,by omega,by omega,by go_num,by go_num,?_,Hid.intro ((HB4.out.setCell hg2 _).setCell hg2 _)⟩,by simp [intOf] <;> omega⟩
         refine Hid.intro (ArrAt.congr ((HA.out.set (i:=a) (by omega) (.int .u8 x2)).set (i:=b+1) (by omega) (.int .u8 x1)) fun p hp => ?_)
         try dsimp only
         by_cases e1:p=b+1
         ·rw [if_pos e1,if_pos (by omega),←HX1.out];congr 2;omega
         ·rw [if_neg e1]
          by_cases e2:p=a
          ·rw [if_pos e2,if_pos (by omega),←HX2.out];congr 2;omega
          ·rw [if_neg e2]
           by_cases e3:p<a∨b+1<p
           ·rw [if_pos e3,if_pos (by omega)]
           ·rw [if_neg e3,if_neg (by omega)]
        ·have hltd:decide ((a:Int)<(b:Int))=false:=decide_eq_false (by omega)
         have HA9:Hid (ArrAt wr g2 (m+1) fun p => .int .u8 (backT N (m+1) (m+1-1-p))):=Hid.intro (ArrAt.congr HA.out fun p hp=>by
          try dsimp only
          by_cases e3:p<a∨b<p
          ·rw [if_pos e3]
          ·rw [if_neg e3];congr 2;omega)
         clear HA
         gi_wp2_with (with_reducible refine stop_conv ?_)
         unfold Stop
         refine wpListIn_conv rfl _ _ _ rfl _ (.string (strOfNums ((List.range (m+1)).map fun p=>backT N (m+1) (m+1-1-p)))) rfl (run_convert_bytes_arg wr 229 5 Go.Num.u107 Go.Num.u5 g2 0 (m+1) cap _ (by simp) (fun p hp=>by rw [Nat.zero_add,(HA9.out p hp).1];simp [List.getD,hp]) 9 Go.Num.u9) ?_
         rw [HT.out]
         clear HA9 HT
         gi_wp2
         all_goals (first|go_returns|go_ret|go_end0)
         exact⟨rfl,HBW.out.trans (HB4.out.mono HBW.out.size)⟩
      | true=>
       gi_wp2_with (gi_at_builtin;refine stop ?_)
       unfold Stop
       refine appendB W1 wr rfl _ _ rfl (.slice (some ⟨g2,0,none⟩) (m+1) cap) (m+1) (firstB N (m+1)) rfl HO2 _ _ rfl 45 rfl (by omega) HB2 ?_
       intro v2 w3 HO3 HB3
       have hform:∃g3 cap3,v2 = .slice (some ⟨g3,0,none⟩) (m+1+1) cap3∧W1.heap.size≤g3:=by
        rcases HO3.out.2 with⟨_,h⟩|⟨g3,cap3,cur,h1,h2,h3,h4,h5,_⟩
        ·omega
        ·exact⟨g3,cap3,h1,h2⟩
       obtain⟨g3,cap3,rfl,hg3⟩:=hform
       have HT:Hid (strOfNums ((List.range (m+1+1)).map fun p=>backT N (m+1) (m+1+1-1-p))=textZ z):=Hid.intro (by
        have h:=back_neg (z:=z) (of_decide_eq_true HSG.out)
        rw [HN.out,HDN.out]at h
        exact h)
       have HA3:Hid (ArrAt w3 g3 (m+1+1) fun p => .int .u8 (backT N (m+1) p)):=Hid.intro (ArrAt.of_row HO3.out fun p hp=>by
        by_cases hp1:p<m+1
        ·rw [List.getElem?_append_left (by rw [firstB_len];exact hp1)]
         simp only [firstB,List.getElem?_map,List.getElem?_range hp1,Option.map_some,bytV,backT,hp1,if_true]
        ·rw [List.getElem?_append_right (by rw [firstB_len];omega),firstB_len,show p-(m+1)=0 by omega]
         simp only [backT,hp1,if_false]
         rfl)
       clear HO2 HO3 HB2
       gi_wp2
       gi_loopw [7,8,9] (fun iv jv _ wr=>∃a b:Nat,a+b+1=m+1+1∧a≤b+1∧iv = .int .i64 (a:Int)∧jv = .int .i64 (b:Int)∧Hid (ArrAt wr g3 (m+1+1) fun p => .int .u8 (backT N (m+1) (if p<a∨b<p then m+1+1-1-p else p)))∧Hid (Below W1.heap.size W1 wr)) (fun iv _ _ _=>m+1+1-(intOf iv).toNat)
       case atStart=>exact⟨0,m+1,by omega,by omega,rfl,by go_num,Hid.intro (ArrAt.congr HA3.out fun p hp=>by(try dsimp only);rw [if_neg (by omega)]),HB3.out⟩
       case round=>
        obtain⟨a,b,hab,hab1,rfl,rfl,HA,HB4⟩:=hrel
        clear HA3 HB3 HA5 y0 y1
        by_cases hlt:a<b
        ·obtain⟨b,rfl⟩:∃b',b=b'+1:=⟨b-1,by omega⟩
         obtain⟨x1,hx1⟩:∃x,backT N (m+1) a=x:=⟨_,rfl⟩
         obtain⟨x2,hx2⟩:∃x,backT N (m+1) (b+1)=x:=⟨_,rfl⟩
         have z1:wr.cell? ⟨g3,a,none⟩=some (.int .u8 x1):=(HA.out a (by omega)).1.trans (by(try dsimp only);rw [if_neg (by omega),hx1])
         have z2:wr.cell? ⟨g3,b+1,none⟩=some (.int .u8 x2):=(HA.out (b+1) (by omega)).1.trans (by(try dsimp only);rw [if_neg (by omega),hx2])
         have f1:=(HA.out a (by omega)).2
         have f2:=(HA.out (b+1) (by omega)).2
         have HX1:=Hid.intro hx1
         have HX2:=Hid.intro hx2
         have hltd:decide ((a:Int)<((b+1:Nat):Int))=true:=decide_eq_true (by omega)
         clear hx1 hx2
         gi_wp2
         refine⟨⟨a+1,b,by omega,by omega,by go_num,by go_num,?_,Hid.intro ((HB4.out.setCell hg3 _).setCell hg3 _)⟩,by simp [intOf] <;> omega⟩
         refine Hid.intro (ArrAt.congr ((HA.out.set (i:=a) (by omega) (.int .u8 x2)).set (i:=b+1) (by omega) (.int .u8 x1)) fun p hp => ?_)
         try dsimp only
         by_cases e1:p=b+1
         ·rw [if_pos e1,if_pos (by omega),←HX1.out];congr 2;omega
         ·rw [if_neg e1]
          by_cases e2:p=a
          ·rw [if_pos e2,if_pos (by omega),←HX2.out];congr 2;omega
          ·rw [if_neg e2]
           by_cases e3:p<a∨b+1<p
           ·rw [if_pos e3,if_pos (by omega)]
           ·rw [if_neg e3,if_neg (by omega)]
        ·have hltd:decide ((a:Int)<(b:Int))=false:=decide_eq_false (by omega)
         have HA9:Hid (ArrAt wr g3 (m+1+1) fun p => .int .u8 (backT N (m+1) (m+1+1-1-p))):=Hid.intro (ArrAt.congr HA.out fun p hp=>by
          try dsimp only
          by_cases e3:p<a∨b<p
          ·rw [if_pos e3]
          ·rw [if_neg e3];congr 2;omega)
         clear HA
         gi_wp2_with (with_reducible refine stop_conv ?_)
         unfold Stop
         refine wpListIn_conv rfl _ _ _ rfl _ (.string (strOfNums ((List.range (m+1+1)).map fun p=>backT N (m+1) (m+1+1-1-p)))) rfl (run_convert_bytes_arg wr 229 5 Go.Num.u107 Go.Num.u5 g3 0 (m+1+1) cap3 _ (by simp) (fun p hp=>by rw [Nat.zero_add,(HA9.out p hp).1];simp [List.getD,hp]) 9 Go.Num.u9) ?_
         rw [HT.out]
         clear HA9 HT
         gi_wp2
         all_goals (first|go_returns|go_ret|go_end0)
         exact⟨rfl,HBW.out.trans (HB4.out.mono HBW.out.size)⟩
end Go.Num
namespace Go.Proofs
open Go.Shelf
def Tryz.lays169_ren:Go.Shelf.Ren:=⟨fun|169=>187|n=>n,fun|70=>228|9=>9|0=>0|72=>231|37=>229|127=>261|3=>3|5=>5|n=>n,fun|n=>n⟩
theorem Tryz.lays169:Go.Proofs.Lays.n169 Tryz.prog Tryz.lays169_ren:={
 mixed:=by kernel_rfl
 f169:=Tryz.func187.trans (congrArg some (by kernel_rfl))
 t0:=Tryz.underlying0
 a0:=Tryz.isAgg0
 z0:=Tryz.sizeOf0
 v0:=Tryz.zeroValue0
 t3:=Tryz.underlying3
 a3:=Tryz.isAgg3
 z3:=Tryz.sizeOf3
 v3:=Tryz.zeroValue3
 t9:=Tryz.underlying9
 a9:=Tryz.isAgg9
 z9:=Tryz.sizeOf9
 v9:=Tryz.zeroValue9
 t37:=Tryz.underlying229
 a37:=Tryz.isAgg229
 z37:=Tryz.sizeOf229
 v37:=Tryz.zeroValue229
 t70:=Tryz.underlying228
 a70:=Tryz.isAgg228
 z70:=Tryz.sizeOf228
 v70:=Tryz.zeroValue228
 t72:=Tryz.underlying231
 a72:=Tryz.isAgg231
 z72:=Tryz.sizeOf231
 v72:=Tryz.zeroValue231
 t127:=Tryz.underlying261
 a127:=Tryz.isAgg261
 z127:=Tryz.sizeOf261
 v127:=Tryz.zeroValue261}
theorem Tryz.Builder_Extra_169:Builder.Extra Tryz.prog Tryz.lays169_ren:={
 sizeBuilder:=by kernel_rfl
 liesBuilder:=by kernel_rfl
 t5:=Tryz.underlying5
 a5:=Tryz.isAgg5
 z5:=Tryz.sizeOf5
 v5:=Tryz.zeroValue5
 infoByte:=by kernel_rfl
 cellsByte:=by kernel_rfl
 sizeByte:=by kernel_rfl
 neB5:=by decide}
open Go.RowKit in
theorem Tryz.Builder_String_any(B b:Nat)(l:List UInt8)(w:World)(h:Lib.IsBuilder 231 5 B b (Lib.byteCells l) w)(hBw:B≤w.heap.size) :
  Calls Tryz.prog 187 #[.pointer (some ⟨b,0,none⟩)] w fun e w'=>e = .returned (.string ⟨l.toArray⟩)∧Below B w w':=Any.Builder_String_any Tryz.lays169 Tryz.Builder_Extra_169 B b l w h hBw
def Tryz.lays160_ren:Go.Shelf.Ren:=⟨fun|160=>204|232=>225|231=>224|227=>226|234=>228|233=>227|236=>230|235=>229|228=>244|271=>247|151=>246|197=>245|120=>264|152=>263|260=>262|137=>270|119=>271|224=>242|225=>241|217=>240|266=>260|n=>n,fun|9=>9|4=>4|3=>3|5=>5|117=>269|116=>268|0=>0|124=>272|21=>21|105=>286|46=>23|119=>306|139=>309|138=>308|n=>n,fun|3=>4|4=>5|n=>n⟩
theorem Tryz.lays160:Go.Proofs.Lays.n160 Tryz.prog Tryz.lays160_ren:={
 mixed:=by kernel_rfl
 f119:=Tryz.func271.trans (congrArg some (by kernel_rfl))
 f120:=Tryz.func264.trans (congrArg some (by kernel_rfl))
 f137:=Tryz.func270.trans (congrArg some (by kernel_rfl))
 f151:=Tryz.func246.trans (congrArg some (by kernel_rfl))
 f152:=Tryz.func263.trans (congrArg some (by kernel_rfl))
 f160:=Tryz.func204.trans (congrArg some (by kernel_rfl))
 f197:=Tryz.func245.trans (congrArg some (by kernel_rfl))
 f217:=Tryz.func240.trans (congrArg some (by kernel_rfl))
 f224:=Tryz.func242.trans (congrArg some (by kernel_rfl))
 f225:=Tryz.func241.trans (congrArg some (by kernel_rfl))
 f227:=Tryz.func226.trans (congrArg some (by kernel_rfl))
 f228:=Tryz.func244.trans (congrArg some (by kernel_rfl))
 f231:=Tryz.func224.trans (congrArg some (by kernel_rfl))
 f232:=Tryz.func225.trans (congrArg some (by kernel_rfl))
 f233:=Tryz.func227.trans (congrArg some (by kernel_rfl))
 f234:=Tryz.func228.trans (congrArg some (by kernel_rfl))
 f235:=Tryz.func229.trans (congrArg some (by kernel_rfl))
 f236:=Tryz.func230.trans (congrArg some (by kernel_rfl))
 f260:=Tryz.func262.trans (congrArg some (by kernel_rfl))
 f266:=Tryz.func260.trans (congrArg some (by kernel_rfl))
 f271:=Tryz.func247.trans (congrArg some (by kernel_rfl))
 t0:=Tryz.underlying0
 a0:=Tryz.isAgg0
 z0:=Tryz.sizeOf0
 v0:=Tryz.zeroValue0
 t3:=Tryz.underlying3
 a3:=Tryz.isAgg3
 z3:=Tryz.sizeOf3
 v3:=Tryz.zeroValue3
 t4:=Tryz.underlying4
 a4:=Tryz.isAgg4
 z4:=Tryz.sizeOf4
 v4:=Tryz.zeroValue4
 t5:=Tryz.underlying5
 a5:=Tryz.isAgg5
 z5:=Tryz.sizeOf5
 v5:=Tryz.zeroValue5
 t9:=Tryz.underlying9
 a9:=Tryz.isAgg9
 z9:=Tryz.sizeOf9
 v9:=Tryz.zeroValue9
 t21:=Tryz.underlying21
 a21:=Tryz.isAgg21
 z21:=Tryz.sizeOf21
 v21:=Tryz.zeroValue21
 t46:=Tryz.underlying23
 a46:=Tryz.isAgg23
 z46:=Tryz.sizeOf23
 v46:=Tryz.zeroValue23
 t105:=Tryz.underlying286
 a105:=Tryz.isAgg286
 z105:=Tryz.sizeOf286
 v105:=Tryz.zeroValue286
 t116:=Tryz.underlying268
 a116:=Tryz.isAgg268
 z116:=Tryz.sizeOf268
 t117:=Tryz.underlying269
 a117:=Tryz.isAgg269
 z117:=Tryz.sizeOf269
 v117:=Tryz.zeroValue269
 t119:=Tryz.underlying306
 a119:=Tryz.isAgg306
 z119:=Tryz.sizeOf306
 t124:=Tryz.underlying272
 a124:=Tryz.isAgg272
 z124:=Tryz.sizeOf272
 v124:=Tryz.zeroValue272
 t138:=Tryz.underlying308
 a138:=Tryz.isAgg308
 z138:=Tryz.sizeOf308
 v138:=Tryz.zeroValue308
 t139:=Tryz.underlying309
 a139:=Tryz.isAgg309
 z139:=Tryz.sizeOf309
 v139:=Tryz.zeroValue309
 g3:=by kernel_rfl
 g4:=by kernel_rfl}
def Tryz.lays103_ren:Go.Shelf.Ren:=⟨fun|103=>164|210=>203|206=>223|n=>n,fun|9=>9|4=>4|24=>208|3=>3|n=>n,fun|n=>n⟩
theorem Tryz.lays103:Go.Proofs.Lays.n103 Tryz.prog Tryz.lays103_ren:={
 mixed:=by kernel_rfl
 f103:=Tryz.func164.trans (congrArg some (by kernel_rfl))
 f206:=Tryz.func223.trans (congrArg some (by kernel_rfl))
 f210:=Tryz.func203.trans (congrArg some (by kernel_rfl))
 t3:=Tryz.underlying3
 a3:=Tryz.isAgg3
 z3:=Tryz.sizeOf3
 v3:=Tryz.zeroValue3
 t4:=Tryz.underlying4
 a4:=Tryz.isAgg4
 z4:=Tryz.sizeOf4
 v4:=Tryz.zeroValue4
 t9:=Tryz.underlying9
 a9:=Tryz.isAgg9
 z9:=Tryz.sizeOf9
 v9:=Tryz.zeroValue9
 t24:=Tryz.underlying208
 a24:=Tryz.isAgg208
 z24:=Tryz.sizeOf208
 v24:=Tryz.zeroValue208}
open Go.RowKit in
theorem Tryz.strings_CutPrefix(s p:ByteArray)(w:World) :
  Calls Tryz.prog 164 #[.string s,.string p] w fun e w'=>e = .returned (.tuple #[.string ⟨(Lib.trimPrefix s.data.toList p.data.toList).toArray⟩,.bool (Lib.hasPrefix s.data.toList p.data.toList)])∧w'=w:=Any.strings_CutPrefix Tryz.lays103 s p w
def Tryz.lays283_ren:Go.Shelf.Ren:=⟨fun|283=>235|n=>n,fun|3=>3|9=>9|4=>4|n=>n,fun|n=>n⟩
theorem Tryz.lays283:Go.Proofs.Lays.n283 Tryz.prog Tryz.lays283_ren:={
 mixed:=by kernel_rfl
 f283:=Tryz.func235.trans (congrArg some (by kernel_rfl))
 t3:=Tryz.underlying3
 a3:=Tryz.isAgg3
 z3:=Tryz.sizeOf3
 v3:=Tryz.zeroValue3
 t4:=Tryz.underlying4
 a4:=Tryz.isAgg4
 z4:=Tryz.sizeOf4
 v4:=Tryz.zeroValue4
 t9:=Tryz.underlying9
 a9:=Tryz.isAgg9
 z9:=Tryz.sizeOf9
 v9:=Tryz.zeroValue9}
open Go.Lib in
theorem Tryz.internal_strconv_small(i:Nat)(h:i<100)(w:World) :
  Calls Tryz.prog 235 #[.int .i64 i] w fun e w'=>e = .returned (.string ⟨(Lib.decDigits i).toArray⟩)∧w'=w:=Any.internal_strconv_small Tryz.lays283 i h w
def Tryz.laysM284_ren:Go.Shelf.Ren:=⟨fun|284=>236|129=>255|317=>254|318=>256|n=>n,fun|53=>116|3=>3|212=>295|0=>0|4=>4|46=>23|5=>5|9=>9|n=>n,fun|17=>1|n=>n⟩
theorem Tryz.laysM284:Go.Proofs.LaysM.n284 Tryz.prog Tryz.laysM284_ren:={
 mixed:=by kernel_rfl
 f129:=Tryz.func255.trans (congrArg some (by kernel_rfl))
 f284:=Tryz.func236.trans (congrArg some (by kernel_rfl))
 f317:=Tryz.func254.trans (congrArg some (by kernel_rfl))
 f318:=Tryz.func256.trans (congrArg some (by kernel_rfl))
 t0:=Tryz.underlying0
 a0:=Tryz.isAgg0
 z0:=Tryz.sizeOf0
 v0:=Tryz.zeroValue0
 t3:=Tryz.underlying3
 a3:=Tryz.isAgg3
 z3:=Tryz.sizeOf3
 v3:=Tryz.zeroValue3
 t4:=Tryz.underlying4
 a4:=Tryz.isAgg4
 z4:=Tryz.sizeOf4
 v4:=Tryz.zeroValue4
 t5:=Tryz.underlying5
 a5:=Tryz.isAgg5
 z5:=Tryz.sizeOf5
 v5:=Tryz.zeroValue5
 t9:=Tryz.underlying9
 a9:=Tryz.isAgg9
 z9:=Tryz.sizeOf9
 v9:=Tryz.zeroValue9
 t46:=Tryz.underlying23
 a46:=Tryz.isAgg23
 z46:=Tryz.sizeOf23
 v46:=Tryz.zeroValue23
 t53:=Tryz.underlying116
 a53:=Tryz.isAgg116
 z53:=Tryz.sizeOf116
 v53:=Tryz.zeroValue116
 t212:=Tryz.underlying295
 a212:=Tryz.isAgg295
 z212:=Tryz.sizeOf295
 v212:=Tryz.zeroValue295
 g17:=by kernel_rfl
 i0:=by kernel_rfl
 i3:=by kernel_rfl
 i4:=by kernel_rfl
 i5:=by kernel_rfl
 i9:=by kernel_rfl
 i46:=by kernel_rfl
 i53:=by kernel_rfl
 i212:=by kernel_rfl
 m17:=by kernel_rfl}
open Go.Lib in
theorem Tryz.internal_strconv_numDigits(u:Nat)(h1:1≤u)(h2:u<18446744073709551616)(w:World)(htab:Lib.TabIs Tryz.prog w "internal/strconv.uint64pow10" .u64 Lib.pow10Tab) :
  Calls Tryz.prog 236 #[.int .u64 u] w fun e w'=>e = .returned (.int .i64 (Lib.nDigits u))∧w'=w:=Any.internal_strconv_numDigits Tryz.laysM284 u h1 h2 w htab
def Tryz.lays285_ren:Go.Shelf.Ren:=⟨fun|285=>237|n=>n,fun|37=>229|53=>116|3=>3|4=>4|51=>223|9=>9|5=>5|0=>0|n=>n,fun|n=>n⟩
theorem Tryz.lays285:Go.Proofs.Lays.n285 Tryz.prog Tryz.lays285_ren:={
 mixed:=by kernel_rfl
 f285:=Tryz.func237.trans (congrArg some (by kernel_rfl))
 t0:=Tryz.underlying0
 a0:=Tryz.isAgg0
 z0:=Tryz.sizeOf0
 v0:=Tryz.zeroValue0
 t3:=Tryz.underlying3
 a3:=Tryz.isAgg3
 z3:=Tryz.sizeOf3
 v3:=Tryz.zeroValue3
 t4:=Tryz.underlying4
 a4:=Tryz.isAgg4
 z4:=Tryz.sizeOf4
 v4:=Tryz.zeroValue4
 t5:=Tryz.underlying5
 a5:=Tryz.isAgg5
 z5:=Tryz.sizeOf5
 v5:=Tryz.zeroValue5
 t9:=Tryz.underlying9
 a9:=Tryz.isAgg9
 z9:=Tryz.sizeOf9
 v9:=Tryz.zeroValue9
 t37:=Tryz.underlying229
 a37:=Tryz.isAgg229
 z37:=Tryz.sizeOf229
 v37:=Tryz.zeroValue229
 t51:=Tryz.underlying223
 a51:=Tryz.isAgg223
 z51:=Tryz.sizeOf223
 v51:=Tryz.zeroValue223
 t53:=Tryz.underlying116
 a53:=Tryz.isAgg116
 z53:=Tryz.sizeOf116
 v53:=Tryz.zeroValue116}
open Go.RowKit Go.Sort Go.Lib in
theorem Tryz.internal_strconv_formatBase10(blk off cap:Nat)(u:Nat)(d:Array UInt8)(w:World)(hH:Holds (fun (b:UInt8)=>Value.int .u8 (b.toNat:Int)) w blk off d)(hu:u<10^d.size)(hu64:u<18446744073709551616)(hsz:d.size<4611686018427387904) :
  Calls Tryz.prog 237 #[.slice (some ⟨blk,off,none⟩) d.size cap,.int .u64 u] w fun e w'=>
   e = .returned (.tuple #[])∧∃(n v':Nat) (dk:Array UInt8),w'=(putRow (fun (b:UInt8)=>Value.int .u8 (b.toNat:Int)) w blk off dk).drewN n∧FmtInv d.size u 0 v' dk:=Any.internal_strconv_formatBase10 Tryz.lays285 blk off cap u d w hH hu hu64 hsz
def Tryz.laysPu14_ren:Go.Shelf.Ren:=⟨fun|14=>205|16=>231|17=>232|19=>248|20=>249|21=>250|22=>251|23=>252|24=>253|25=>265|27=>267|26=>266|28=>272|29=>273|30=>235|31=>236|32=>237|33=>238|35=>255|34=>254|36=>256|37=>257|38=>258|39=>268|40=>269|n=>n,fun|9=>9|3=>3|22=>116|24=>233|25=>250|4=>4|34=>289|5=>5|36=>23|37=>229|0=>0|39=>291|21=>21|44=>303|47=>261|50=>313|48=>311|2=>2|52=>278|55=>281|59=>295|60=>223|20=>20|61=>296|65=>314|66=>315|67=>36|n=>n,fun|0=>2|1=>3|2=>1|3=>6|4=>7|n=>n⟩
theorem Tryz.laysPu14:Go.Proofs.LaysPu.n14 Tryz.prog Tryz.laysPu14_ren:={
 mixed:=by kernel_rfl
 f14:=Tryz.func205.trans (congrArg some (by kernel_rfl))
 f16:=Tryz.func231.trans (congrArg some (by kernel_rfl))
 f17:=Tryz.func232.trans (congrArg some (by kernel_rfl))
 f19:=Tryz.func248.trans (congrArg some (by kernel_rfl))
 f20:=Tryz.func249.trans (congrArg some (by kernel_rfl))
 f21:=Tryz.func250.trans (congrArg some (by kernel_rfl))
 f22:=Tryz.func251.trans (congrArg some (by kernel_rfl))
 f23:=Tryz.func252.trans (congrArg some (by kernel_rfl))
 f24:=Tryz.func253.trans (congrArg some (by kernel_rfl))
 f25:=Tryz.func265.trans (congrArg some (by kernel_rfl))
 f26:=Tryz.func266.trans (congrArg some (by kernel_rfl))
 f27:=Tryz.func267.trans (congrArg some (by kernel_rfl))
 f28:=Tryz.func272.trans (congrArg some (by kernel_rfl))
 f29:=Tryz.func273.trans (congrArg some (by kernel_rfl))
 f30:=Tryz.func235.trans (congrArg some (by kernel_rfl))
 f31:=Tryz.func236.trans (congrArg some (by kernel_rfl))
 f32:=Tryz.func237.trans (congrArg some (by kernel_rfl))
 f33:=Tryz.func238.trans (congrArg some (by kernel_rfl))
 f34:=Tryz.func254.trans (congrArg some (by kernel_rfl))
 f35:=Tryz.func255.trans (congrArg some (by kernel_rfl))
 f36:=Tryz.func256.trans (congrArg some (by kernel_rfl))
 f37:=Tryz.func257.trans (congrArg some (by kernel_rfl))
 f38:=Tryz.func258.trans (congrArg some (by kernel_rfl))
 f39:=Tryz.func268.trans (congrArg some (by kernel_rfl))
 f40:=Tryz.func269.trans (congrArg some (by kernel_rfl))
 t0:=Tryz.underlying0
 a0:=Tryz.isAgg0
 z0:=Tryz.sizeOf0
 v0:=Tryz.zeroValue0
 i0:=by kernel_rfl
 t2:=Tryz.underlying2
 a2:=Tryz.isAgg2
 z2:=Tryz.sizeOf2
 v2:=Tryz.zeroValue2
 i2:=by kernel_rfl
 t3:=Tryz.underlying3
 a3:=Tryz.isAgg3
 z3:=Tryz.sizeOf3
 v3:=Tryz.zeroValue3
 i3:=by kernel_rfl
 t4:=Tryz.underlying4
 a4:=Tryz.isAgg4
 z4:=Tryz.sizeOf4
 v4:=Tryz.zeroValue4
 i4:=by kernel_rfl
 t5:=Tryz.underlying5
 a5:=Tryz.isAgg5
 z5:=Tryz.sizeOf5
 v5:=Tryz.zeroValue5
 i5:=by kernel_rfl
 t9:=Tryz.underlying9
 a9:=Tryz.isAgg9
 z9:=Tryz.sizeOf9
 v9:=Tryz.zeroValue9
 i9:=by kernel_rfl
 t20:=Tryz.underlying20
 a20:=Tryz.isAgg20
 z20:=Tryz.sizeOf20
 v20:=Tryz.zeroValue20
 i20:=by kernel_rfl
 t21:=Tryz.underlying21
 a21:=Tryz.isAgg21
 z21:=Tryz.sizeOf21
 v21:=Tryz.zeroValue21
 i21:=by kernel_rfl
 t22:=Tryz.underlying116
 a22:=Tryz.isAgg116
 z22:=Tryz.sizeOf116
 v22:=Tryz.zeroValue116
 i22:=by kernel_rfl
 t24:=Tryz.underlying233
 a24:=Tryz.isAgg233
 z24:=Tryz.sizeOf233
 v24:=Tryz.zeroValue233
 i24:=by kernel_rfl
 t25:=Tryz.underlying250
 a25:=Tryz.isAgg250
 z25:=Tryz.sizeOf250
 v25:=Tryz.zeroValue250
 i25:=by kernel_rfl
 t34:=Tryz.underlying289
 a34:=Tryz.isAgg289
 z34:=Tryz.sizeOf289
 v34:=Tryz.zeroValue289
 i34:=by kernel_rfl
 c34:=by kernel_rfl
 t36:=Tryz.underlying23
 a36:=Tryz.isAgg23
 z36:=Tryz.sizeOf23
 v36:=Tryz.zeroValue23
 i36:=by kernel_rfl
 t37:=Tryz.underlying229
 a37:=Tryz.isAgg229
 z37:=Tryz.sizeOf229
 v37:=Tryz.zeroValue229
 i37:=by kernel_rfl
 t39:=Tryz.underlying291
 a39:=Tryz.isAgg291
 z39:=Tryz.sizeOf291
 v39:=Tryz.zeroValue291
 i39:=by kernel_rfl
 t44:=Tryz.underlying303
 a44:=Tryz.isAgg303
 z44:=Tryz.sizeOf303
 v44:=Tryz.zeroValue303
 i44:=by kernel_rfl
 t47:=Tryz.underlying261
 a47:=Tryz.isAgg261
 z47:=Tryz.sizeOf261
 v47:=Tryz.zeroValue261
 i47:=by kernel_rfl
 t48:=Tryz.underlying311
 a48:=Tryz.isAgg311
 z48:=Tryz.sizeOf311
 v48:=Tryz.zeroValue311
 i48:=by kernel_rfl
 t50:=Tryz.underlying313
 a50:=Tryz.isAgg313
 z50:=Tryz.sizeOf313
 v50:=Tryz.zeroValue313
 i50:=by kernel_rfl
 t52:=Tryz.underlying278
 a52:=Tryz.isAgg278
 z52:=Tryz.sizeOf278
 v52:=Tryz.zeroValue278
 i52:=by kernel_rfl
 t55:=Tryz.underlying281
 a55:=Tryz.isAgg281
 z55:=Tryz.sizeOf281
 v55:=Tryz.zeroValue281
 i55:=by kernel_rfl
 t59:=Tryz.underlying295
 a59:=Tryz.isAgg295
 z59:=Tryz.sizeOf295
 v59:=Tryz.zeroValue295
 i59:=by kernel_rfl
 t60:=Tryz.underlying223
 a60:=Tryz.isAgg223
 z60:=Tryz.sizeOf223
 v60:=Tryz.zeroValue223
 i60:=by kernel_rfl
 t61:=Tryz.underlying296
 a61:=Tryz.isAgg296
 z61:=Tryz.sizeOf296
 t65:=Tryz.underlying314
 a65:=Tryz.isAgg314
 z65:=Tryz.sizeOf314
 v65:=Tryz.zeroValue314
 i65:=by kernel_rfl
 t66:=Tryz.underlying315
 a66:=Tryz.isAgg315
 z66:=Tryz.sizeOf315
 v66:=Tryz.zeroValue315
 i66:=by kernel_rfl
 t67:=Tryz.underlying36
 a67:=Tryz.isAgg36
 z67:=Tryz.sizeOf36
 v67:=Tryz.zeroValue36
 i67:=by kernel_rfl
 g0:=by kernel_rfl
 m0:=by kernel_rfl
 g1:=by kernel_rfl
 m1:=by kernel_rfl
 g2:=by kernel_rfl
 m2:=by kernel_rfl
 g3:=by kernel_rfl
 m3:=by kernel_rfl
 g4:=by kernel_rfl
 m4:=by kernel_rfl}
open Go.RowKit in
theorem Tryz.strconv_ParseUint_10_at64_ok(s:ByteArray)(hmax:s.size≤9223372036854775806)(u:Nat)(h:Lib.parseUintB 64 s.data.toList = .ok u)(w:World) :
  Calls Tryz.prog 205 #[.string s,.int .i64 10,.int .i64 64] w fun e w'=>e = .returned (.tuple #[.int .u64 u,.nilIface])∧(w'=w∨w'=Lib.bytesWorld w 5 s):=Any.strconv_ParseUint_10_at64_ok Tryz.laysPu14 s hmax u h w
def Tryz.lays145_ren:Go.Shelf.Ren:=⟨fun|145=>163|220=>202|219=>222|217=>240|225=>241|224=>242|267=>243|266=>260|314=>261|n=>n,fun|9=>9|4=>4|59=>206|3=>3|5=>5|46=>23|146=>224|51=>223|n=>n,fun|1=>0|n=>n⟩
theorem Tryz.lays145:Go.Proofs.Lays.n145 Tryz.prog Tryz.lays145_ren:={
 mixed:=by kernel_rfl
 f145:=Tryz.func163.trans (congrArg some (by kernel_rfl))
 f217:=Tryz.func240.trans (congrArg some (by kernel_rfl))
 f219:=Tryz.func222.trans (congrArg some (by kernel_rfl))
 f220:=Tryz.func202.trans (congrArg some (by kernel_rfl))
 f224:=Tryz.func242.trans (congrArg some (by kernel_rfl))
 f225:=Tryz.func241.trans (congrArg some (by kernel_rfl))
 f266:=Tryz.func260.trans (congrArg some (by kernel_rfl))
 f267:=Tryz.func243.trans (congrArg some (by kernel_rfl))
 f314:=Tryz.func261.trans (congrArg some (by kernel_rfl))
 t3:=Tryz.underlying3
 a3:=Tryz.isAgg3
 z3:=Tryz.sizeOf3
 v3:=Tryz.zeroValue3
 t4:=Tryz.underlying4
 a4:=Tryz.isAgg4
 z4:=Tryz.sizeOf4
 v4:=Tryz.zeroValue4
 t5:=Tryz.underlying5
 a5:=Tryz.isAgg5
 z5:=Tryz.sizeOf5
 v5:=Tryz.zeroValue5
 t9:=Tryz.underlying9
 a9:=Tryz.isAgg9
 z9:=Tryz.sizeOf9
 v9:=Tryz.zeroValue9
 t46:=Tryz.underlying23
 a46:=Tryz.isAgg23
 z46:=Tryz.sizeOf23
 v46:=Tryz.zeroValue23
 t51:=Tryz.underlying223
 a51:=Tryz.isAgg223
 z51:=Tryz.sizeOf223
 v51:=Tryz.zeroValue223
 t59:=Tryz.underlying206
 a59:=Tryz.isAgg206
 z59:=Tryz.sizeOf206
 v59:=Tryz.zeroValue206
 t146:=Tryz.underlying224
 a146:=Tryz.isAgg224
 z146:=Tryz.sizeOf224
 v146:=Tryz.zeroValue224
 g1:=by kernel_rfl}
open Go.RowKit Go.Lib in
theorem Tryz.strings_Cut(s sep:ByteArray)(m:Int)(w:World)(hs:s.size<4294967281)(hm:w.cell? ⟨0,0,none⟩=some (.int .i64 m)) :
  Calls Tryz.prog 163 #[.string s,.string sep] w fun e w'=>e = .returned (.tuple #[.string ⟨(Lib.cut s.data.toList sep.data.toList).1.toArray⟩,.string ⟨(Lib.cut s.data.toList sep.data.toList).2.1.toArray⟩,.bool (Lib.cut s.data.toList sep.data.toList).2.2])∧∃n,w'=w.drewN n:=Any.strings_Cut Tryz.lays145 s sep m w hs hm
def Tryz.laysM219_ren:Go.Shelf.Ren:=⟨fun|219=>222|217=>240|225=>241|224=>242|267=>243|266=>260|314=>261|n=>n,fun|9=>9|3=>3|4=>4|5=>5|46=>23|146=>224|51=>223|n=>n,fun|1=>0|n=>n⟩
theorem Tryz.laysM219:Go.Proofs.LaysM.n219 Tryz.prog Tryz.laysM219_ren:={
 mixed:=by kernel_rfl
 f217:=Tryz.func240.trans (congrArg some (by kernel_rfl))
 f219:=Tryz.func222.trans (congrArg some (by kernel_rfl))
 f224:=Tryz.func242.trans (congrArg some (by kernel_rfl))
 f225:=Tryz.func241.trans (congrArg some (by kernel_rfl))
 f266:=Tryz.func260.trans (congrArg some (by kernel_rfl))
 f267:=Tryz.func243.trans (congrArg some (by kernel_rfl))
 f314:=Tryz.func261.trans (congrArg some (by kernel_rfl))
 t3:=Tryz.underlying3
 a3:=Tryz.isAgg3
 z3:=Tryz.sizeOf3
 v3:=Tryz.zeroValue3
 t4:=Tryz.underlying4
 a4:=Tryz.isAgg4
 z4:=Tryz.sizeOf4
 v4:=Tryz.zeroValue4
 t5:=Tryz.underlying5
 a5:=Tryz.isAgg5
 z5:=Tryz.sizeOf5
 v5:=Tryz.zeroValue5
 t9:=Tryz.underlying9
 a9:=Tryz.isAgg9
 z9:=Tryz.sizeOf9
 v9:=Tryz.zeroValue9
 t46:=Tryz.underlying23
 a46:=Tryz.isAgg23
 z46:=Tryz.sizeOf23
 v46:=Tryz.zeroValue23
 t51:=Tryz.underlying223
 a51:=Tryz.isAgg223
 z51:=Tryz.sizeOf223
 v51:=Tryz.zeroValue223
 t146:=Tryz.underlying224
 a146:=Tryz.isAgg224
 z146:=Tryz.sizeOf224
 v146:=Tryz.zeroValue224
 g1:=by kernel_rfl
 i3:=by kernel_rfl
 i4:=by kernel_rfl
 i5:=by kernel_rfl
 i9:=by kernel_rfl
 i46:=by kernel_rfl
 i51:=by kernel_rfl
 i146:=by kernel_rfl
 m1:=by kernel_rfl
 s1_3:=fun w h=>Go.Proofs.cell_of_shapedOpen_int (zero:=#[.int .i64 0]) (t:=3) h (of_decide_eq_true (by kernel_rfl)) (by kernel_rfl) rfl (by kernel_rfl) (by kernel_rfl) Tryz.underlying3}
def Tryz.lays105_ren:Go.Shelf.Ren:=⟨fun|105=>186|212=>134|99=>215|165=>216|166=>184|170=>217|169=>187|263=>182|264=>183|206=>223|240=>213|241=>239|276=>234|277=>259|n=>n,fun|9=>9|3=>3|4=>4|20=>20|0=>0|46=>23|109=>178|5=>5|72=>231|76=>234|51=>223|146=>224|53=>116|148=>226|70=>228|37=>229|75=>233|127=>261|164=>275|80=>36|n=>n,fun|n=>n⟩
theorem Tryz.lays105:Go.Proofs.Lays.n105 Tryz.prog Tryz.lays105_ren:={
 mixed:=by kernel_rfl
 f99:=Tryz.func215.trans (congrArg some (by kernel_rfl))
 f105:=Tryz.func186.trans (congrArg some (by kernel_rfl))
 f165:=Tryz.func216.trans (congrArg some (by kernel_rfl))
 f166:=Tryz.func184.trans (congrArg some (by kernel_rfl))
 f169:=Tryz.func187.trans (congrArg some (by kernel_rfl))
 f170:=Tryz.func217.trans (congrArg some (by kernel_rfl))
 f206:=Tryz.func223.trans (congrArg some (by kernel_rfl))
 f212:=Tryz.func134.trans (congrArg some (by kernel_rfl))
 f240:=Tryz.func213.trans (congrArg some (by kernel_rfl))
 f241:=Tryz.func239.trans (congrArg some (by kernel_rfl))
 f263:=Tryz.func182.trans (congrArg some (by kernel_rfl))
 f264:=Tryz.func183.trans (congrArg some (by kernel_rfl))
 f276:=Tryz.func234.trans (congrArg some (by kernel_rfl))
 f277:=Tryz.func259.trans (congrArg some (by kernel_rfl))
 t0:=Tryz.underlying0
 a0:=Tryz.isAgg0
 z0:=Tryz.sizeOf0
 v0:=Tryz.zeroValue0
 t3:=Tryz.underlying3
 a3:=Tryz.isAgg3
 z3:=Tryz.sizeOf3
 v3:=Tryz.zeroValue3
 t4:=Tryz.underlying4
 a4:=Tryz.isAgg4
 z4:=Tryz.sizeOf4
 v4:=Tryz.zeroValue4
 t5:=Tryz.underlying5
 a5:=Tryz.isAgg5
 z5:=Tryz.sizeOf5
 v5:=Tryz.zeroValue5
 t9:=Tryz.underlying9
 a9:=Tryz.isAgg9
 z9:=Tryz.sizeOf9
 v9:=Tryz.zeroValue9
 t20:=Tryz.underlying20
 a20:=Tryz.isAgg20
 z20:=Tryz.sizeOf20
 v20:=Tryz.zeroValue20
 t37:=Tryz.underlying229
 a37:=Tryz.isAgg229
 z37:=Tryz.sizeOf229
 v37:=Tryz.zeroValue229
 t46:=Tryz.underlying23
 a46:=Tryz.isAgg23
 z46:=Tryz.sizeOf23
 v46:=Tryz.zeroValue23
 t51:=Tryz.underlying223
 a51:=Tryz.isAgg223
 z51:=Tryz.sizeOf223
 v51:=Tryz.zeroValue223
 t53:=Tryz.underlying116
 a53:=Tryz.isAgg116
 z53:=Tryz.sizeOf116
 v53:=Tryz.zeroValue116
 t70:=Tryz.underlying228
 a70:=Tryz.isAgg228
 z70:=Tryz.sizeOf228
 v70:=Tryz.zeroValue228
 t72:=Tryz.underlying231
 a72:=Tryz.isAgg231
 z72:=Tryz.sizeOf231
 v72:=Tryz.zeroValue231
 t75:=Tryz.underlying233
 a75:=Tryz.isAgg233
 z75:=Tryz.sizeOf233
 v75:=Tryz.zeroValue233
 t76:=Tryz.underlying234
 a76:=Tryz.isAgg234
 z76:=Tryz.sizeOf234
 v76:=Tryz.zeroValue234
 t109:=Tryz.underlying178
 a109:=Tryz.isAgg178
 z109:=Tryz.sizeOf178
 v109:=Tryz.zeroValue178
 t127:=Tryz.underlying261
 a127:=Tryz.isAgg261
 z127:=Tryz.sizeOf261
 v127:=Tryz.zeroValue261
 t146:=Tryz.underlying224
 a146:=Tryz.isAgg224
 z146:=Tryz.sizeOf224
 v146:=Tryz.zeroValue224
 t148:=Tryz.underlying226
 a148:=Tryz.isAgg226
 z148:=Tryz.sizeOf226
 v148:=Tryz.zeroValue226
 t164:=Tryz.underlying275
 a164:=Tryz.isAgg275
 z164:=Tryz.sizeOf275
 v164:=Tryz.zeroValue275}
theorem Tryz.Builder_Extra_105:Builder.Extra Tryz.prog Tryz.lays105_ren:={
 sizeBuilder:=by kernel_rfl
 liesBuilder:=by kernel_rfl
 t5:=Tryz.underlying5
 a5:=Tryz.isAgg5
 z5:=Tryz.sizeOf5
 v5:=Tryz.zeroValue5
 infoByte:=by kernel_rfl
 cellsByte:=by kernel_rfl
 sizeByte:=by kernel_rfl
 neB5:=by decide}
open Go.RowKit Go.Lib in
theorem Tryz.strings_Repeat(s:ByteArray)(c:Nat)(w:World)(hc:c≤9223372036854775807)(hlen:s.size*c≤140737488355328) :
  Calls Tryz.prog 186 #[.string s,.int .i64 c] w fun e w'=>e = .returned (.string ⟨(Lib.repeatL s.data.toList c).toArray⟩)∧Below w.heap.size w w':=Any.strings_Repeat Tryz.lays105 Tryz.Builder_Extra_105 s c w hc hlen
end Go.Proofs
namespace Go.Num
open Go.Shelf Go.RowKit Go.Proofs Go.Proofs.YtepakfjilnpodaaGreatDoor
theorem bld_size:(Tryz.prog.info? 231).map (·.size)=some 2:=by kernel_rfl
theorem bld_lies:liesAt Tryz.prog Tryz.prog.depth 231 (2/Tryz.prog.cellsOf 231) 0 231 1=true:=by kernel_rfl
theorem u156:Tryz.prog.underlying 228=some (.pointer 231):=by kernel_rfl
theorem u206:Tryz.prog.underlying 275=some .unsafePointer:=by kernel_rfl
set_option maxHeartbeats 1000000 in
set_option maxRecDepth 100000 in
theorem copyCheck_used(b:Nat)(w:World)(h0:w.cell? ⟨b,0,none⟩=some (.pointer (some ⟨b,0,none⟩))) :
  Calls Tryz.prog 213 #[.pointer (some ⟨b,0,none⟩)] w fun e w'=>e = .returned (.tuple #[])∧w'=w:=by
 obtain⟨j,hj,_⟩:=Option.map_eq_some_iff.1 bld_size
 go_enter Tryz.func213,Tryz.ntmps213
 go_wp2
 rw [Lib.run_neq_ptr_same w _ Go.Num.u156 hj]
 go_wp2
 go_end0
 exact⟨rfl,rfl⟩
set_option maxHeartbeats 1000000 in
set_option maxRecDepth 100000 in
theorem copyCheck_fresh(b:Nat)(w:World)(h0:w.cell? ⟨b,0,none⟩=some (.pointer none))(hsh:w.shape? b=some (231,2))(hfz:w.frozen? ⟨b,0,none⟩=false) :
  Calls Tryz.prog 213 #[.pointer (some ⟨b,0,none⟩)] w fun e w'=>e = .returned (.tuple #[])∧w'=w.setCell ⟨b,0,none⟩ (.pointer (some ⟨b,0,none⟩)):=by
 obtain⟨j,hj,hjs⟩:=Option.map_eq_some_iff.1 bld_size
 go_enter Tryz.func213,Tryz.ntmps213
 go_wp2
 rw [Lib.run_to_unsafe w ⟨b,0,none⟩ Go.Num.u156 Go.Num.u206 hj (by rw [hjs];decide) hsh (Nat.zero_lt_succ 1)]
 simp only [Result.andThen]
 rw [Oper.upon_value]
 go_wp2
 rw [run_callFunc_extern Tryz.func234 (by kernel_rfl) (by kernel_rfl) (by kernel_rfl) (e:=Extern.AbiNoEscape.same) (by kernel_rfl)]
 rw [Lib.run_noEscape]
 simp only [Result.andThen]
 rw [Oper.upon_value]
 go_wp2
 rw [Lib.run_from_unsafe w ⟨b,0,none⟩ Go.Num.u206 Go.Num.u156 hj hsh bld_lies]
 simp only [Result.andThen]
 rw [Oper.upon_value]
 go_wp2
 go_end0
 exact⟨rfl,rfl⟩
theorem copyCheck_calls(B b:Nat)(bs:List Value)(w:World)(h:Lib.IsBuilder 231 5 B b bs w) :
  Calls Tryz.prog 213 #[.pointer (some ⟨b,0,none⟩)] w fun e w'=>e = .returned (.tuple #[])∧(Lib.BuilderAt 231 5 B b (.pointer (some ⟨b,0,none⟩)) bs w'∧Below B w w'):=by
 rcases h with h|h
 ·refine(copyCheck_fresh b w h.cell0 h.shape h.frozen0).mono ?_
  rintro e w' ⟨rfl,rfl⟩
  exact⟨rfl,h.used _,(Below.refl B w).setCell (p:=⟨b,0,none⟩) h.1 _⟩
 ·refine(copyCheck_used b w h.cell0).mono ?_
  rintro e w' ⟨rfl,rfl⟩
  exact⟨rfl,h,Below.refl B _⟩
set_option maxHeartbeats 2000000 in
set_option maxRecDepth 100000 in
theorem writeString_calls(B b:Nat)(bs:List Value)(s:ByteArray)(w:World)(h:Lib.IsBuilder 231 5 B b bs w)(hlen:bs.length+s.size≤140737488355328)(hBw:B≤w.heap.size) :
  Calls Tryz.prog 184 #[.pointer (some ⟨b,0,none⟩),.string s] w fun e w'=>e = .returned (.tuple #[.int .i64 s.size,.nilIface])∧(Lib.BuilderAt 231 5 B b (.pointer (some ⟨b,0,none⟩)) (bs ++ Lib.strCells s) w'∧Below B w w'):=by
 go_enter Tryz.func184,Tryz.ntmps184
 go_wp2_with (go_at_call 213;refine(copyCheck_calls B b bs _ h).mono ?_)
 rintro e w1 ⟨rfl,h1,hb1⟩
 obtain⟨hB,v,hbk,hown,hne⟩:=h1
 have c0:w1.cell? ⟨b,0,none⟩=some (.pointer (some ⟨b,0,none⟩)):=by rw [Lib.cell_of_heap hbk];rfl
 have c1:w1.cell? ⟨b,1,none⟩=some v:=by rw [Lib.cell_of_heap hbk];rfl
 go_wp2_with (at_builtin;refine Lib.wpList_append_own_string _ rfl _ _ 229 9 rfl B 5 Tryz.t5 Go.Num.u107 Go.Num.u9 t5_info t5_zero t5_size t5_bytes _ _ _ rfl hown s rfl ?c3 ?c4 ?c5 ?_)
 case c3=>unfold maxLen;omega
 case c4=>omega
 case c5=>have:=hb1.size;omega
 intro v' w2 hown' hgrow _
 have hlt:b<w1.heap.size:=by
  rcases Nat.lt_or_ge b w1.heap.size with h'|h'
  ·exact h'
  ·simp [Array.getElem?_eq_none h']at hbk
 have hb2:w2.heap[b]? = some (.cells #[.pointer (some ⟨b,0,none⟩),v] 231 (0,0)):=by
  rw [hgrow.block b hlt (fun e=>hne e.symm)]
  exact hbk
 have d0:w2.cell? ⟨b,0,none⟩=some (.pointer (some ⟨b,0,none⟩)):=by rw [Lib.cell_of_heap hb2];rfl
 have d1:w2.cell? ⟨b,1,none⟩=some v:=by rw [Lib.cell_of_heap hb2];rfl
 have f1:w2.frozen? ⟨b,1,none⟩=false:=Lib.frozen_of_heap hb2 1
 obtain⟨ao,n',cap,rfl⟩:∃ao n' cap,v' = .slice ao n' cap:=by
  rcases hown'.2 with⟨hv,_⟩|⟨g,cap,cur,hv,_⟩
  ·exact⟨_,_,_,hv⟩
  ·exact⟨_,_,_,hv⟩
 go_wp2
 go_ret2
 refine⟨rfl,?_,?_⟩
 ·exact Lib.BuilderAt.put (T:=231) (e:=5) hB hb2 (bs':=bs ++ Lib.strCells s) (by simpa [Lib.strCells_length]using hown') (by decide)
 ·exact(hb1.grown hgrow (by have:=hb1.size;omega) (fun k hk=>(hown.lt k hk).1)).setCell (p:=⟨b,1,none⟩) hB _
end Go.Num
