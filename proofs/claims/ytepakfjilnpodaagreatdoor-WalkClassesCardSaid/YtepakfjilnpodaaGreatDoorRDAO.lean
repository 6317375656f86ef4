/-
  'Make' of the program. Fractions made: Whole, Frac, Zero of the reference; Make of the program. How long a number may be: 'isSmall', 'kept'.
  Conditions: see each statement.
-/
import Derived.Test.YtepakfjilnpodaaGreatDoorRDAN
import Derived.Lib.ItoaMem
import Derived.Test.YtepakfjilnpodaaGreatDoorRDAL
import Derived.Lib.SmallJoins
import Derived.RecoverIn
namespace Go.Num
open Go.Shelf Go.RowKit Go.Sort Go.Proofs Go.Proofs.YtepakfjilnpodaaGreatDoor
abbrev Pow10(w:World):Prop:=Lib.TabIs Tryz.prog w "internal/strconv.uint64pow10" .u64 Lib.pow10Tab
theorem al209:Tryz.prog.arrayLen 278=24:=by kernel_rfl
theorem grow_below'(w:World)(os:Array Obj):Below w.heap.size w (grow w os):=⟨rfl,rfl,rfl,by simp [grow],fun k hk=>by
 show(w.heap ++ os)[k]? = w.heap[k]?
 exact Array.getElem?_append_left hk⟩
set_option maxHeartbeats 6400000 in
set_option maxRecDepth 100000 in
theorem format_calls(u:Nat)(hu64:u<18446744073709551616)(w:World)(htab:Pow10 w) :
  Calls Tryz.prog 214 #[.int .u64 u,.int .i64 10] w fun e w'=>e = .returned (.string ⟨(Lib.decDigits u).toArray⟩)∧Below w.heap.size w w':=by
 by_cases hs:u<100
 ·have hsi:decide ((u:Int)<100)=true:=decide_eq_true (by omega)
  have hwr:IntKind.i64.wrap (u:Int)=(u:Int):=i64_small (by omega)
  go_enter Tryz.func214,Tryz.ntmps214
  go_wp2_with (go_at_call 235;refine(Tryz.internal_strconv_small u hs _).mono ?_;rintro e w' ⟨rfl,rfl⟩)
  go_ret
  exact⟨rfl,Below.refl _ _⟩
 ·have hsi:decide ((u:Int)<100)=false:=decide_eq_false (by omega)
  have hu1:1≤u:=by omega
  have hnd20:Lib.nDigits u≤20:=by have:=Lib.numDigits_eq u hu1 hu64;split at this <;> omega
  have hsl1:∀W,(Instr.sliceAt 278 (.pointer (some ⟨w.heap.size,0,none⟩)) none (some (.int .i64 (Lib.nDigits u:Int))) none).run Tryz.prog W = .ok (.slice (some ⟨w.heap.size,0,none⟩) (Lib.nDigits u) 24) W:=fun W=>by
   rw [run_sliceAt_array_h W 278 ⟨w.heap.size,0,none⟩ (by kernel_rfl) .i64 (Lib.nDigits u:Int) (by omega) (by rw [al209];omega)]
   rw [al209]
   go_simp
  have hH0:Holds (fun (b:UInt8)=>Value.int .u8 (b.toNat:Int)) (w.alloc (.cells Lib.zeros24 278)) w.heap.size 0 (Array.replicate (Lib.nDigits u) 0):=fun i hi=>by
   have hj':i<Lib.nDigits u:=by simpa using hi
   refine⟨?_,World.frozen?_alloc_new _ _ _ _⟩
   rw [Nat.zero_add,World.cell?_alloc_new,Lib.zeros24_at _ (by omega),getElem!_pos _ i hi]
   simp
  have hfmt:=Tryz.internal_strconv_formatBase10 w.heap.size 0 24 u (Array.replicate (Lib.nDigits u) 0) (w.alloc (.cells Lib.zeros24 278)) hH0 (by rw [Array.size_replicate];exact Lib.lt_pow_nDigits u) hu64 (by rw [Array.size_replicate];omega)
  rw [Array.size_replicate]at hfmt
  have HH0:=Lib.hid hH0
  clear hH0
  go_enter Tryz.func214,Tryz.ntmps214
  go_wp2_with (first
   | (go_at_call 236;refine(Tryz.internal_strconv_numDigits u hu1 hu64 _ (Lib.tabIs_alloc htab _)).mono ?_;rintro e w' ⟨rfl,rfl⟩))
  refine hfmt.mono ?_
  rintro e w' ⟨rfl,k,v',dk,rfl,hF⟩
  have hcv:(convert 229 9 (.slice (some ⟨w.heap.size,0,none⟩) (Lib.nDigits u) 24)).run Tryz.prog ((putRow (fun (b:UInt8)=>Value.int .u8 (b.toNat:Int)) (w.alloc (.cells Lib.zeros24 278)) w.heap.size 0 dk).drewN k) = .ok (.string ⟨(Lib.decDigits u).toArray⟩) ((putRow (fun (b:UInt8)=>Value.int .u8 (b.toNat:Int)) (w.alloc (.cells Lib.zeros24 278)) w.heap.size 0 dk).drewN k):=by
   have h:=run_convert_bytes_back (P:=Tryz.prog) ((putRow (fun (b:UInt8)=>Value.int .u8 (b.toNat:Int)) (w.alloc (.cells Lib.zeros24 278)) w.heap.size 0 dk).drewN k) 229 9 5 ⟨w.heap.size,0,none⟩ 24 (Lib.decDigits u) Go.Num.u107 Go.Num.u5 Go.Num.u9 (fun j hj=>by
    rw [Lib.row_is_numeral hF j hj,Lib.add_plain,World.cell?_drewN]
    exact cell?_putRow (fun (b:UInt8)=>Value.int .u8 (b.toNat:Int)) _ w.heap.size 0 _ dk HH0.out (by rw [hF.size,Array.size_replicate]) j (by rw [hF.size];rw [Lib.decDigits_length]at hj;exact hj))
   rw [Lib.decDigits_length]at h
   exact h
  have hB:Below w.heap.size w ((putRow (fun (b:UInt8)=>Value.int .u8 (b.toNat:Int)) (w.alloc (.cells Lib.zeros24 278)) w.heap.size 0 dk).drewN k):=by
   rw [alloc_eq_grow]
   obtain⟨os',_,e⟩:=putRow_grow_new (fun (b:UInt8)=>Value.int .u8 (b.toNat:Int)) w #[.cells Lib.zeros24 278] w.heap.size 0 dk (Nat.le_refl _)
   rw [e]
   exact(grow_below' w os').trans ((drewN_below _ _).mono (by simp))
  have HBl:=Lib.hid hB
  clear hB
  go_wp2
  go_ret
  exact⟨rfl,HBl.out⟩
end Go.Num
namespace Go.Num
open Go.Eng Go.Shelf Go.RowKit Go.Sort Go.Proofs Go.Proofs.YtepakfjilnpodaaGreatDoor
theorem Pow10.below{w w':World}(h:Pow10 w)(hb:Below w.heap.size w w'):Pow10 w':=by
 unfold Pow10 Lib.TabIs World.var? at h ⊢
 cases hg:Tryz.prog.globalNamed "internal/strconv.uint64pow10" with
 | none=>rw [hg]at h;cases h
 | some g=>
  rw [hg]at h
  simp only [Option.bind_some]at h ⊢
  have hlt:g<w.heap.size:=by
   rcases Nat.lt_or_ge g w.heap.size with h'|h'
   ·exact h'
   ·rw [Array.getElem?_eq_none h']at h;cases h
  rw [hb.block g hlt]
  exact h
set_option maxHeartbeats 4000000 in
set_option maxRecDepth 100000 in
theorem formatUint_calls(u:Nat)(hu64:u<18446744073709551616)(w:World)(htab:Pow10 w) :
  CallsIn Fence.wide 0 Tryz.prog 185 #[.int .u64 u,.int .i64 10] w fun e w'=>e = .returned (.string ⟨(Lib.decDigits u).toArray⟩)∧Below w.heap.size w w':=by
 refine callsIn_of_wp Tryz.func185 rfl trivial ?_ rfl
 simp only [Tryz.ntmps185,List.size_toArray,List.length_cons,List.length_nil,Nat.reduceAdd,Nat.reduceSub,Array.replicate_succ,Array.replicate_zero,List.push_toArray,List.append_toArray,List.nil_append,List.cons_append]
 gi_wp2_with (gi_at_call 214;refine stop ?_)
 unfold Stop
 refine(callsIn_wide.2 (format_calls u hu64 w htab)).mono ?_
 rintro e w' ⟨rfl,hB⟩
 gi_wp2
 all_goals (first|go_returns|go_ret|go_end0)
 exact⟨rfl,hB⟩
theorem bld_new(w:World):Lib.IsBuilder 231 5 w.heap.size w.heap.size [] (w.alloc (.cells #[.pointer none,.slice none 0 0] 231)):=
 .inl ⟨Nat.le_refl _,.slice none 0 0,by show(w.heap.push _)[w.heap.size]? = _;simp,World.ownsRow_nil _ _ _ _,by simp [Value.ownBlock]⟩
theorem repL(c:UInt8):∀n,Lib.repeatL [c] n=List.replicate n c
 | 0=>rfl
 | n+1=>by
  show [c] ++ Lib.repeatL [c] n=_
  rw [repL c n];rfl
theorem row_below{w w':World}{base e size n:Nat}{v:Value}{xs:List Value}(h:w.ownsRow base e size v n xs)(hb:Below w.heap.size w w'):w'.ownsRow base e size v n xs:=by
 refine⟨h.1,?_⟩
 rcases h.2 with h|⟨g,cap,cur,h1,h2,h3,h4⟩
 ·exact .inl h
 ·have hlt:g<w.heap.size:=by
   rcases Nat.lt_or_ge g w.heap.size with h'|h'
   ·exact h'
   ·rw [Array.getElem?_eq_none h']at h3;cases h3
  exact .inr ⟨g,cap,cur,h1,h2,(hb.block g hlt).trans h3,h4⟩
theorem bldAt_below{B b:Nat}{p:Value}{bs:List Value}{w w':World}(h:Lib.BuilderAt 231 5 B b p bs w)(hb:Below w.heap.size w w'):Lib.BuilderAt 231 5 B b p bs w':=by
 have hlt:=h.lt
 obtain⟨h1,v,h2,h3,h4⟩:=h
 exact⟨h1,v,(hb.block b hlt).trans h2,row_below h3 hb,h4⟩
theorem bld_below{B b:Nat}{bs:List Value}{w w':World}(h:Lib.IsBuilder 231 5 B b bs w)(hb:Below w.heap.size w w'):Lib.IsBuilder 231 5 B b bs w':=by
 rcases h with h|h
 ·exact .inl (bldAt_below h hb)
 ·exact .inr (bldAt_below h hb)
theorem nDigits_le:∀(n x:Nat),x<10^(n+1)→Lib.nDigits x≤n+1
 | 0,x,h=>by rw [Lib.nDigits_small (by simpa using h)];omega
 | n+1,x,h=>by
  by_cases hs:x<10
  ·rw [Lib.nDigits_small hs];omega
  ·rw [Lib.nDigits_big hs]
   have:=nDigits_le n (x/10) (by rw [Nat.pow_succ]at h;omega)
   omega
theorem nDigits_pow{x k:Nat}(hk:0<k)(h:x<B^k):Lib.nDigits x≤9*k:=by
 obtain⟨m,hm⟩:∃m,9*k=m+1:=⟨9*k-1,by omega⟩
 rw [pow9,hm]at h
 rw [hm]
 exact nDigits_le m x h
theorem nDigits_B{x:Nat}(h:x<B^100000):Lib.nDigits x≤900000:=nDigits_pow (k:=100000) (by decide) h
theorem nDigits_9{x:Nat}(h:x<1000000000):Lib.nDigits x≤9:=nDigits_le 8 x h
theorem strCells_arr(l:List UInt8):Lib.strCells ⟨l.toArray⟩=Lib.byteCells l:=rfl
theorem bytes_size(l:List UInt8):(⟨l.toArray⟩:ByteArray).size=l.length:=rfl
set_option maxRecDepth 100000 in
set_option maxHeartbeats 8000000 in
theorem mString_form(w:World)(v:Value)(N k:Nat)(hk:LenIs N k)(hl:∃o c,v = .slice o k c∧(0<k→∃a:Addr,o=some a∧a.block<w.heap.size∧∀i,i<k→w.cell? (a.add i)=some (.int .u64 ((limb N i:Nat):Int))))(hN:N<B^100000)(htab:Pow10 w) :
  CallsIn Fence.wide 0 Tryz.prog 141 #[v] w fun e w'=>e = .returned (.string ⟨(Lib.decDigits N).toArray⟩)∧Below w.heap.size w w':=by
 have hkL:k≤100000:=hk.le hN
 obtain⟨o,c,rfl,h1⟩:=hl
 have H1:=Hid.intro h1
 have HK:=Hid.intro hk
 have HTab:=Hid.intro htab
 clear h1 hk htab
 refine callsIn_of_wp Tryz.func141 rfl trivial ?_ rfl
 simp only [Tryz.ntmps141,List.size_toArray,List.length_cons,List.length_nil,Nat.reduceAdd,Nat.reduceSub,Array.replicate_succ,Array.replicate_zero,List.push_toArray,List.append_toArray,List.nil_append,List.cons_append]
 by_cases hk0:k=0
 ·subst hk0
  have hN0:N=0:=HK.out.zero
  subst hN0
  gi_wp2
  all_goals (first|go_returns|go_ret|go_end0)
  exact⟨by rw [Lib.decDigits,dif_pos (by decide)];rfl,Below.refl _ _⟩
 ·obtain⟨m,rfl⟩:∃m,k=m+1:=⟨k-1,by omega⟩
  have hk0':((m:Int)+1 == 0)=false:=beq_false_of_ne (by omega)
  obtain⟨a1,rfl,ha1,hc1⟩:=H1.out (by omega)
  have p1:=hc1 m (by omega)
  obtain⟨l,hlm⟩:∃l,limb N m=l:=⟨_,rfl⟩
  have hl9:l<1000000000:=by rw [←hlm];exact limb_lt N m
  rw [hlm]at p1
  have HTOP:Hid (l=N/B^m):=Hid.intro (by
   rw [←hlm]
   unfold limb
   refine Nat.mod_eq_of_lt (Nat.div_lt_of_lt_mul ?_)
   have:=HK.out.1
   rw [Nat.pow_succ]at this
   exact this)
  have HPos:Hid (0<N/B^m):=Hid.intro (by
   have:=HK.out.2
   rcases this with h|h
   ·omega
   ·exact Nat.div_pos h (pow_pos' m))
  obtain⟨W1,hW1⟩:∃W,W=w.alloc (.cells #[.pointer none,.slice none 0 0] 231):=⟨_,rfl⟩
  have HBW:Hid (Below w.heap.size w W1):=Hid.intro (by rw [hW1];exact alloc_below _ _)
  have HBl:Hid (Lib.IsBuilder 231 5 w.heap.size w.heap.size [] W1):=Hid.intro (by rw [hW1];exact bld_new w)
  have p1':(w.alloc (.cells #[.pointer none,.slice none 0 0] 231)).cell? (a1.add m)=some (.int .u64 (l:Int)):=by
   rw [←hW1]
   exact(HBW.out.cell (p:=a1.add m) (by rw [add_block];exact ha1)).trans p1
  have hH:=Hid.intro hc1
  clear hc1 p1
  gi_wp2_with (gi_at_call 185;refine stop ?_)
  unfold Stop
  rw [←hW1]
  refine(formatUint_calls l (by omega) W1 (HTab.out.below HBW.out)).mono ?_
  rintro e w2 ⟨rfl,hb2⟩
  have HBl2:=Hid.intro (bld_below HBl.out hb2)
  have HBW2:=Hid.intro (HBW.out.trans (hb2.mono HBW.out.size))
  obtain⟨b,hbs⟩:∃b,w.heap.size=b:=⟨_,rfl⟩
  have HLT:=Hid.intro hN
  have hab:a1.block<b:=by omega
  rw [hbs]at HBl2 HBW2
  have HTab2:Hid (∀W,Below b w W→Pow10 W):=Hid.intro fun W h=>HTab.out.below (by rw [hbs];exact h)
  have hsz2:=HBW2.out.size
  have hbsz:b≤w2.heap.size:=by omega
  obtain⟨S,hS⟩:∃S:ByteArray,(⟨(Lib.decDigits l).toArray⟩:ByteArray)=S:=⟨_,rfl⟩
  rw [hS,hbs]
  clear HBl HBW hW1 p1' hb2 hlm HTab H1
  gi_wp2_with (gi_at_call 184;refine stop ?_)
  unfold Stop
  refine(callsIn_wide.2 (writeString_calls b b [] S w2 HBl2.out (by rw [←hS,bytes_size,Lib.decDigits_length];have:=nDigits_9 hl9;simp;omega) hbsz)).mono ?_
  rintro e w3 ⟨rfl,hbl3,hb3⟩
  have HBl3:Hid (Lib.IsBuilder 231 5 b b (Lib.byteCells (Lib.decDigits (N/B^m))) w3):=Hid.intro (.inr (by
   rw [←hS,List.nil_append,strCells_arr,HTOP.out]at hbl3
   exact hbl3))
  have HBW3:=Hid.intro (HBW2.out.trans hb3)
  clear hbl3 hb3 HBl2 HBW2 hsz2 hbsz hS HTOP hl9
  gi_wp2
  gi_loopw [4,5] (fun iv _ wr=>∃i0:Int,-1≤i0∧i0<m∧iv = .int .i64 i0∧Hid (Lib.IsBuilder 231 5 b b (Lib.byteCells (Lib.decDigits (N/B^(i0+1).toNat))) wr)∧Hid (Below b w wr)) (fun iv _ _=>(intOf iv+1).toNat)
  case atStart=>exact⟨(m:Int)-1,by omega,by omega,by go_num,Hid.intro (by rw [show((m:Int)-1+1).toNat=m by omega];exact HBl3.out),HBW3.out⟩
  case round=>
   obtain⟨i0,hi1,hi2,rfl,HBl,HB⟩:=hrel
   clear HBl3 HBW3
   by_cases h0:0≤i0
   ·obtain⟨j,rfl⟩:∃j:Nat,i0=(j:Int):=⟨i0.toNat,by omega⟩
    rw [show((j:Int)+1).toNat=j+1 by omega]at HBl
    have p1:=(HB.out.cell (p:=a1.add j) (by rw [add_block];exact hab)).trans (hH.out j (by omega))
    obtain⟨lj,hlj⟩:∃l,limb N j=l:=⟨_,rfl⟩
    have hlj9:lj<1000000000:=by rw [←hlj];exact limb_lt N j
    rw [hlj]at p1
    have HLJ:=Hid.intro hlj
    clear hlj
    gi_wp2_with (gi_at_call 185;refine stop ?_)
    unfold Stop
    refine(formatUint_calls lj (by omega) wr (HTab2.out wr HB.out)).mono ?_
    rintro e w4 ⟨rfl,hb4⟩
    have hbr:b≤wr.heap.size:=by have:=HB.out.size;omega
    have HBl4:=Hid.intro (bld_below HBl.out hb4)
    have HB4:=Hid.intro (HB.out.trans (hb4.mono hbr))
    have hbr4:b≤w4.heap.size:=Nat.le_trans hbr hb4.size
    obtain⟨S,hS⟩:∃S:ByteArray,(⟨(Lib.decDigits lj).toArray⟩:ByteArray)=S:=⟨_,rfl⟩
    have hSd:S.size=Lib.nDigits lj:=by rw [←hS,bytes_size,Lib.decDigits_length]
    have hd9:=nDigits_9 hlj9
    have hd1:=Lib.nDigits_pos lj
    have HS:=Hid.intro hS
    obtain⟨d,hd⟩:∃d,Lib.nDigits lj=d:=⟨_,rfl⟩
    have HD:=Hid.intro hd
    rw [hd]at hSd hd9 hd1
    obtain⟨d',hdd⟩:∃d',9-d=d':=⟨_,rfl⟩
    rw [hS]
    clear hb4 hS hd HBl HB p1
    gi_wp2_with (gi_at_call 186;refine stop ?_)
    unfold Stop
    have e9:((9:Int)-(d:Int))=(d':Int):=by omega
    rw [e9]
    refine(callsIn_wide.2 (Tryz.strings_Repeat ⟨#[48]⟩ d' w4 (by omega) (by show 1*d'≤_;omega))).mono ?_
    obtain⟨R,hR⟩:∃R:ByteArray,(⟨(Lib.repeatL (⟨#[48]⟩:ByteArray).data.toList d').toArray⟩:ByteArray)=R:=⟨_,rfl⟩
    rintro e w5 ⟨he,hb5⟩
    rw [hR]at he
    subst he
    have HBl5:=Hid.intro (bld_below HBl4.out hb5)
    have HB5:=Hid.intro (HB4.out.trans (hb5.mono hbr4))
    have hbr5:b≤w5.heap.size:=Nat.le_trans hbr4 hb5.size
    have hR2:(⟨(List.replicate d' 48).toArray⟩:ByteArray)=R:=by rw [←hR,←repL 48 d']
    have hRd:R.size=d':=by rw [←hR2,bytes_size,List.length_replicate]
    have HR:=Hid.intro hR2
    clear hb5 hR hR2 e9 HBl4 HB4
    gi_wp2_with (gi_at_call 184;refine stop ?_)
    unfold Stop
    refine(callsIn_wide.2 (writeString_calls b b _ (R ++ S) w5 HBl5.out (by
     rw [Lib.byteCells_length,Lib.decDigits_length,ByteArray.size_append,hRd,hSd]
     have:=nDigits_B (Nat.lt_of_le_of_lt (Nat.div_le_self N (B^(j+1))) HLT.out)
     omega) hbr5)).mono ?_
    rintro e w6 ⟨rfl,hbl6,hb6⟩
    have HBl6:Hid (Lib.IsBuilder 231 5 b b (Lib.byteCells (Lib.decDigits (N/B^j))) w6):=Hid.intro (.inr (by
     have hpos:0<N/B^(j+1):=Nat.lt_of_lt_of_le HPos.out (Nat.div_le_div_left (pow_mono (by omega)) (pow_pos' _))
     rw [dec_down hpos,Lib.byteCells_append,HLJ.out,HD.out,hdd]
     have e:Lib.strCells (R ++ S)=Lib.byteCells (List.replicate d' 48 ++ Lib.decDigits lj):=by
      rw [Lib.strCells_eq,ByteArray.data_append,Array.toList_append,←HR.out,←HS.out]
     rw [e]at hbl6
     exact hbl6))
    have HB6:=Hid.intro (HB5.out.trans hb6)
    clear hbl6 hb6 HBl5 HB5
    gi_wp2
    refine⟨⟨(j:Int)-1,by omega,by omega,by go_num,Hid.intro (by rw [show((j:Int)-1+1).toNat=j by omega];exact HBl6.out),HB6⟩,by simp [intOf] <;> omega⟩
   ·have hi0:i0 = -1:=by omega
    subst hi0
    have hbr:b≤wr.heap.size:=by have:=HB.out.size;omega
    have HBl:Hid (Lib.IsBuilder 231 5 b b (Lib.byteCells (Lib.decDigits N)) wr):=Hid.intro (by
     have:=HBl.out
     rw [show((-1:Int)+1).toNat=0 from rfl,Nat.pow_zero,Nat.div_one]at this
     exact this)
    gi_wp2_with (gi_at_call 187;refine stop ?_)
    unfold Stop
    refine(callsIn_wide.2 (Tryz.Builder_String_any b b _ wr HBl.out hbr)).mono ?_
    rintro e w6 ⟨rfl,hb6⟩
    have HB6:=Hid.intro (HB.out.trans hb6)
    gi_wp2
    all_goals (first|go_returns|go_ret|go_end0)
    exact⟨rfl,by rw [hbs];exact HB6.out⟩
theorem mString_calls(w:World)(v:Value)(N:Nat)(h:MagAt w v N)(hN:N<B^100000)(htab:Pow10 w) :
  CallsIn Fence.wide 0 Tryz.prog 141 #[v] w fun e w'=>e = .returned (.string ⟨(Lib.decDigits N).toArray⟩)∧Below w.heap.size w w':=by
 obtain⟨k,hk,hl⟩:=h
 exact mString_form w v N k hk hl.form hN htab
def textN(n:Nat):ByteArray:=⟨(Lib.decDigits n).toArray⟩
theorem textZ_pos{z:Int}(h:0≤z):textZ z=textN z.natAbs:=by
 unfold textZ textN Lib.itoa
 rw [if_neg (by omega),show z.toNat=z.natAbs by omega]
theorem ba_append(a b:List UInt8):(⟨a.toArray⟩:ByteArray) ++ ⟨b.toArray⟩=⟨(a ++ b).toArray⟩:=by
 refine ByteArray.ext ?_
 rw [ByteArray.data_append]
 simp
theorem textZ_neg{z:Int}(h:z<0):(⟨#[45]⟩:ByteArray) ++ textN z.natAbs=textZ z:=by
 unfold textZ textN Lib.itoa
 rw [if_pos h]
 exact ba_append [45] _
theorem textN_size{n:Nat}(h:n<B^100000):(textN n).size≤900000:=by
 unfold textN
 rw [bytes_size,Lib.decDigits_length]
 exact nDigits_B h
theorem textZ_size{z:Int}(h:z.natAbs<B^100000):(textZ z).size≤900001:=by
 by_cases h0:z<0
 ·rw [←textZ_neg h0,ByteArray.size_append]
  have:=textN_size h
  show 1+_≤_
  omega
 ·rw [textZ_pos (by omega)]
  have:=textN_size h
  omega
theorem textQ_one{q:Rat}(h:q.den=1):textQ q=textZ q.num:=by unfold textQ;rw [if_pos h]
theorem textQ_more{q:Rat}(h:q.den≠1):textZ q.num ++ ⟨#[47]⟩ ++ textN q.den=textQ q:=by
 unfold textQ textZ textN
 rw [if_neg h]
 have e1:=ba_append (Lib.itoa q.num) [47]
 have e2:=ba_append (Lib.itoa q.num ++ [47]) (Lib.decDigits q.den)
 rw [show(⟨#[47]⟩:ByteArray)=⟨[47].toArray⟩from rfl,e1,e2,List.append_assoc]
 rfl
set_option maxRecDepth 100000 in
set_option maxHeartbeats 8000000 in
theorem parts_calls(w:World)(v:Value)(q:Rat)(h:RatAt w v q)(hq:RatLe q 100000)(htab:Pow10 w) :
  CallsIn Fence.wide 0 Tryz.prog 75 #[v] w fun e w'=>e = .returned (.tuple #[.string (textZ q.num),.string (textN q.den)])∧Below w.heap.size w w':=by
 have HR:=Hid.intro h
 obtain⟨vn,vd,rfl,hn,hd⟩:=h
 have HN:=Hid.intro hn
 obtain⟨sg,hsg⟩:∃sg,decide (q.num<0)=sg:=⟨_,rfl⟩
 have HSG:=Hid.intro hsg
 obtain⟨o1,k1,c1,rfl,_,_⟩:=mag_len hn
 obtain⟨o2,k2,c2,rfl,_,_⟩:=mag_len hd
 rw [hsg]at HR
 rw [hsg]
 obtain⟨W1,hW1⟩:∃W,W=w.alloc (.cells #[.bool sg,.slice o1 k1 c1,.slice o2 k2 c2] 27):=⟨_,rfl⟩
 have HX1:Hid (Box3 W1 w.heap.size (.bool sg) (.slice o1 k1 c1) (.slice o2 k2 c2)):=Hid.intro (by rw [hW1];exact box3_new _ _ _ _ _)
 have HB1:Hid (Below w.heap.size w W1):=Hid.intro (by rw [hW1];exact alloc_below _ _)
 have HP:=Hid.intro hq
 have HTab:=Hid.intro htab
 clear hn hd hsg hq htab
 refine callsIn_of_wp Tryz.func75 rfl trivial ?_ rfl
 simp only [Tryz.ntmps75,List.size_toArray,List.length_cons,List.length_nil,Nat.reduceAdd,Nat.reduceSub,Array.replicate_succ,Array.replicate_zero,List.push_toArray,List.append_toArray,List.nil_append,List.cons_append]
 gi_wp2_with (gi_at_call 141;refine stop ?_)
 unfold Stop
 rw [←hW1]
 obtain⟨g,hg⟩:∃g,w.heap.size=g:=⟨_,rfl⟩
 rw [hg]at HX1
 rw [hg]
 clear hW1
 refine(mString_calls W1 _ _ (HN.out.below HB1.out) HP.out.1 (HTab.out.below HB1.out)).mono ?_
 rintro e w2 ⟨rfl,hb2⟩
 have HX2:=Hid.intro (HX1.out.below hb2)
 have HB2:=Hid.intro (HB1.out.trans (hb2.mono HB1.out.size))
 have y0:=HX2.out.c0
 have y1:=HX2.out.c1
 have y2:=HX2.out.c2
 have HR2:=Hid.intro (HR.out.below HB2.out)
 obtain⟨S,hS⟩:∃S:ByteArray,(⟨(Lib.decDigits q.num.natAbs).toArray⟩:ByteArray)=S:=⟨_,rfl⟩
 rw [hS]
 have HS:=Hid.intro hS
 have hSsz:S.size≤900000:=by rw [←hS];exact textN_size HP.out.1
 clear hb2 HX1 HB1 hS
 cases sg with
 | true=>
  have HT:Hid ((⟨#[45]⟩:ByteArray) ++ S=textZ q.num):=Hid.intro (by rw [←HS.out];exact textZ_neg (of_decide_eq_true HSG.out))
  gi_wp2_with (gi_at_call 132;refine stop ?_)
  unfold Stop
  refine(bottom_calls w2 _ q HR2.out).mono ?_
  rintro e w3 ⟨v3,rfl,hm3,hb3⟩
  have HM3:=Hid.intro hm3
  have HB3:=Hid.intro (HB2.out.trans (hb3.mono HB2.out.size))
  clear hm3 hb3 HR2 HX2 HB2 y0 y1 y2
  gi_wp2_with (gi_at_call 141;refine stop ?_)
  unfold Stop
  refine(mString_calls w3 _ _ HM3.out HP.out.2 (HTab.out.below HB3.out)).mono ?_
  rintro e w4 ⟨rfl,hb4⟩
  have HB4:=Hid.intro (HB3.out.trans (hb4.mono HB3.out.size))
  rw [HT.out]
  clear hb4 HB3
  gi_wp2
  all_goals (first|go_returns|go_ret2|go_ret|go_end0)
  exact⟨rfl,HB4.out⟩
 | false=>
  have HT:Hid (S=textZ q.num):=Hid.intro (by rw [←HS.out];exact(textZ_pos (by have:=of_decide_eq_false HSG.out;omega)).symm)
  gi_wp2_with (gi_at_call 132;refine stop ?_)
  unfold Stop
  refine(bottom_calls w2 _ q HR2.out).mono ?_
  rintro e w3 ⟨v3,rfl,hm3,hb3⟩
  have HM3:=Hid.intro hm3
  have HB3:=Hid.intro (HB2.out.trans (hb3.mono HB2.out.size))
  clear hm3 hb3 HR2 HX2 HB2 y0 y1 y2
  gi_wp2_with (gi_at_call 141;refine stop ?_)
  unfold Stop
  refine(mString_calls w3 _ _ HM3.out HP.out.2 (HTab.out.below HB3.out)).mono ?_
  rintro e w4 ⟨rfl,hb4⟩
  have HB4:=Hid.intro (HB3.out.trans (hb4.mono HB3.out.size))
  rw [HT.out]
  clear hb4 HB3
  gi_wp2
  all_goals (first|go_returns|go_ret2|go_ret|go_end0)
  exact⟨rfl,HB4.out⟩
set_option maxRecDepth 100000 in
set_option maxHeartbeats 8000000 in
theorem string_calls(w:World)(v:Value)(q:Rat)(h:RatAt w v q)(hq:RatLe q 100000)(htab:Pow10 w) :
  CallsIn Fence.wide 0 Tryz.prog 18 #[v] w fun e w'=>e = .returned (.string (textQ q))∧Below w.heap.size w w':=by
 have HR:=Hid.intro h
 obtain⟨vn,vd,rfl,hn,hd⟩:=h
 obtain⟨sg,hsg⟩:∃sg,decide (q.num<0)=sg:=⟨_,rfl⟩
 obtain⟨o1,k1,c1,rfl,_,_⟩:=mag_len hn
 obtain⟨o2,k2,c2,rfl,hk2,_⟩:=mag_len hd
 have HK2:=Hid.intro hk2
 rw [hsg]at HR
 rw [hsg]
 obtain⟨W1,hW1⟩:∃W,W=w.alloc (.cells #[.bool sg,.slice o1 k1 c1,.slice o2 k2 c2] 27):=⟨_,rfl⟩
 have HX1:Hid (Box3 W1 w.heap.size (.bool sg) (.slice o1 k1 c1) (.slice o2 k2 c2)):=Hid.intro (by rw [hW1];exact box3_new _ _ _ _ _)
 have HB1:Hid (Below w.heap.size w W1):=Hid.intro (by rw [hW1];exact alloc_below _ _)
 have HP:=Hid.intro hq
 have HTab:=Hid.intro htab
 clear hn hd hsg hq htab hk2
 refine callsIn_of_wp Tryz.func18 rfl trivial ?_ rfl
 simp only [Tryz.ntmps18,List.size_toArray,List.length_cons,List.length_nil,Nat.reduceAdd,Nat.reduceSub,Array.replicate_succ,Array.replicate_zero,List.push_toArray,List.append_toArray,List.nil_append,List.cons_append]
 gi_wp2_with (gi_at_call 75;refine stop ?_)
 unfold Stop
 rw [←hW1]
 obtain⟨g,hg⟩:∃g,w.heap.size=g:=⟨_,rfl⟩
 rw [hg]at HX1
 rw [hg]
 clear hW1
 refine(parts_calls W1 _ q (HR.out.below HB1.out) HP.out (HTab.out.below HB1.out)).mono ?_
 rintro e w2 ⟨rfl,hb2⟩
 have HX2:=Hid.intro (HX1.out.below hb2)
 have HB2:=Hid.intro (HB1.out.trans (hb2.mono HB1.out.size))
 have y0:=HX2.out.c0
 have y1:=HX2.out.c1
 have y2:=HX2.out.c2
 clear hb2 HX1 HB1
 obtain⟨Z,hZ⟩:∃Z,textZ q.num=Z:=⟨_,rfl⟩
 obtain⟨D,hD⟩:∃D,textN q.den=D:=⟨_,rfl⟩
 have hZsz:Z.size≤900001:=by rw [←hZ];exact textZ_size HP.out.1
 have hDsz:D.size≤900000:=by rw [←hD];exact textN_size HP.out.2
 have hZ47:(Z ++ ⟨#[47]⟩:ByteArray).size=Z.size+1:=by rw [ByteArray.size_append];rfl
 rw [hZ,hD]
 by_cases h1:q.den=1
 ·have hk0:k2=0:=HK2.out.2 (by rw [if_pos h1])
  subst hk0
  have HT:=Hid.intro (textQ_one h1)
  rw [hZ]at HT
  clear hZ hD
  gi_wp2
  all_goals (first|go_returns|go_ret2|go_ret|go_end0)
  exact⟨by rw [HT.out];rfl,HB2.out⟩
 ·have hk0:((k2:Int) == 0)=false:=beq_false_of_ne (by
   intro h
   have:=HK2.out.1 (by omega)
   rw [if_neg h1]at this
   exact q.den_nz this)
  have HT:=Hid.intro (textQ_more h1)
  rw [hZ,hD]at HT
  clear hZ hD
  gi_wp2
  all_goals (first|go_returns|go_ret2|go_ret|go_end0)
  exact⟨by rw [←HT.out];rfl,HB2.out⟩
end Go.Num
namespace Go.Eng
open Go.RowKit
section
variable {P:Program} {ops:Array Oper} {bs bars r:List Nat} {i:Nat} {a:CAct} {w:World} {Q:CAct→World→Prop} {o:Oper}
theorem OW.eqInt{t x2:TypeId}{x y:Operand}{k':IntKind}{p q:Int}{d:Option Tmp}{ty:TypeId}{ps:String}{af:Array Edge}(ho:ops[i]? = some {op:=.binOp .eql t x y x2,dst:=d,type:=ty,pos:=ps,after:=af,guard:=none})(hb:bars.contains i=false)
  (hx:a.eval x = .int k' p) (hy:a.eval y = .int k' q) (h:OW P none ops bs bars Q r (a.put d (.bool (p == q))) w):OW P none ops bs bars Q (i :: r) a w:=
 OW.read ho hb _ (fun w' _=>by
  have:(execOp a.eval {op:=.binOp .eql t x y x2,dst:=d,type:=ty,pos:=ps,after:=af,guard:=none}).run P w' = .ok (.value (.bool (p == q))) w':=by
   unfold execOp
   simp only [hx,hy]
   simp [eqGuard,binOp,Op.intCmp,Sem.run_pure]
  exact this) h
theorem OW.addStr{t x2:TypeId}{x y:Operand}{p q:ByteArray}{d:Option Tmp}{ty:TypeId}{ps:String}{af:Array Edge}(ho:ops[i]? = some {op:=.binOp .add t x y x2,dst:=d,type:=ty,pos:=ps,after:=af,guard:=none})(hb:bars.contains i=false)
  (hx:a.eval x = .string p) (hy:a.eval y = .string q) (hs:p.size+q.size≤9223372036854775807) (h:OW P none ops bs bars Q r (a.put d (.string (p ++ q))) w):OW P none ops bs bars Q (i :: r) a w:=
 OW.read ho hb _ (fun w' _=>by
  have:(execOp a.eval {op:=.binOp .add t x y x2,dst:=d,type:=ty,pos:=ps,after:=af,guard:=none}).run P w' = .ok (.value (.string (p ++ q))) w':=by
   unfold execOp
   simp only [hx,hy]
   have:¬(((p.size+q.size:Nat):Int)>IntKind.i64.max):=by
    rw [show IntKind.i64.max=9223372036854775807 from rfl];omega
   simp [eqGuard,binOp,Op.stringOp,Sem.run_pure]
   omega
  exact this) h
def LoadMid(P:Program)(t:TypeId)(n:Nat):Prop:=∀g off (cs:List Value) w,cs.length=n→(∀j v,cs[j]? = some v→World.cell? w ⟨g,off+j,none⟩=some v)→(Instr.loadAt t (.pointer (some ⟨g,off,none⟩))).run P w = .ok (.agg cs.toArray) w
theorem loadMid_of{P:Program}{t:TypeId}{n:Nat}(h:(match P.underlying t with|some (.struct _)=>true|_=>false)=true)(hi:(P.info? t).map (·.size)=some n):LoadMid P t n:=by
 intro g off cs w hn hc
 cases hu:P.underlying t with
 | none=>rw [hu]at h;cases h
 | some d=>
  rw [hu]at h
  cases d with
  | struct fs=>
   have hl:=run_loadVar_mid (P:=P) w g off t cs (.struct fs) hc hu rfl (by rw [hn];exact hi)
   simp [Instr.loadAt,Instr.sureAddr,hl]
  | _=>cases h
theorem OW.loadMid{t:TypeId}{x:Operand}{g off n:Nat}{cs:List Value}{d:Option Tmp}{ty:TypeId}{ps:String}{af:Array Edge}(ho:ops[i]? = some {op:=.load t x,dst:=d,type:=ty,pos:=ps,after:=af,guard:=none})(hb:bars.contains i=false)
  (hL:LoadMid P t n) (hn:cs.length=n) (h0:0<n) (hc:∀j v,cs[j]? = some v→w.cell? ⟨g,off+j,none⟩=some v) (hx:a.eval x = .pointer (some ⟨g,off,none⟩)) (h:OW P none ops bs bars Q r (a.put d (.agg cs.toArray)) w):OW P none ops bs bars Q (i :: r) a w:=
 OW.read ho hb _ (fun w' hb'=>by
  have hp:g<w.heap.size:=by
   obtain⟨v,hv⟩:∃v,cs[0]? = some v:=⟨_,List.getElem?_eq_getElem (by omega)⟩
   exact World.block_lt_of_cell? _ _ (hc 0 v hv)
  simp [execOp,hx,hL g off cs w' hn (fun j v hj=>(hb'.cell (p:=⟨g,off+j,none⟩) hp).trans (hc j v hj))]) h
end
end Go.Eng
namespace Go.Num
open Go.Eng Go.Shelf Go.RowKit Go.Sort Go.Proofs Go.Proofs.YtepakfjilnpodaaGreatDoor
theorem f34_0:FieldAt Tryz.prog 62 0 0:=fieldAt_ok (by kernel_rfl)
theorem f34_1:FieldAt Tryz.prog 62 1 2:=fieldAt_ok (by kernel_rfl)
theorem m32:LoadMid Tryz.prog 60 2:=loadMid_of (by kernel_rfl) (by kernel_rfl)
theorem m34:LoadAll Tryz.prog 62 4:=loadAll_of (by kernel_rfl) (by kernel_rfl)
def Box4(w:World)(g:Nat)(x y z u:Value):Prop:=∀j v,[x,y,z,u][j]? = some v→w.cell? ⟨g,j,none⟩=some v
theorem Box4.lt{w:World}{g:Nat}{x y z u:Value}(h:Box4 w g x y z u):g<w.heap.size:=World.block_lt_of_cell? _ _ (h 0 x rfl)
theorem Box4.below{w w':World}{g:Nat}{x y z u:Value}(h:Box4 w g x y z u)(hb:Below w.heap.size w w'):Box4 w' g x y z u:=fun j v hj=>(hb.cell (p:=⟨g,j,none⟩) h.lt).trans (h j v hj)
theorem box4_new(w:World)(x y z u:Value)(t:TypeId):Box4 (w.alloc (.cells #[x,y,z,u] t)) w.heap.size x y z u:=fun j v hj=>by
 rw [World.cell?_alloc_new,←hj]
 simp
theorem Box4.lo{w:World}{g:Nat}{x y z u:Value}(h:Box4 w g x y z u):∀j v,[x,y][j]? = some v→w.cell? ⟨g,0+j,none⟩=some v:=fun j v hj=>by
 match j,hj with
 | 0,hj=>exact h 0 v hj
 | 1,hj=>exact h 1 v hj
 | n+2,hj=>simp at hj
theorem Box4.hi{w:World}{g:Nat}{x y z u:Value}(h:Box4 w g x y z u):∀j v,[z,u][j]? = some v→w.cell? ⟨g,2+j,none⟩=some v:=fun j v hj=>by
 match j,hj with
 | 0,hj=>exact h 2 v hj
 | 1,hj=>exact h 3 v hj
 | n+2,hj=>simp at hj
theorem QAt.parts{w:World}{v:Value}{q:Rat}(h:QAt w v q):∃m1 m2,v = .agg #[.bool (decide (q.num<0)),m1,.bool false,m2]∧ZAt w (.agg #[.bool (decide (q.num<0)),m1]) q.num∧ZAt w (.agg #[.bool false,m2]) (q.den:Int):=by
 obtain⟨m1,m2,e,h1,h2⟩:=h
 refine⟨m1,m2,e,⟨m1,rfl,h1⟩,⟨m2,?_,h2⟩⟩
 have:decide ((q.den:Int)<0)=false:=decide_eq_false (by omega)
 rw [this]
set_option maxRecDepth 100000 in
set_option maxHeartbeats 8000000 in
theorem form_calls(w:World)(v:Value)(q:Rat)(h:QAt w v q)(hq:RatLe q 20000) :
  CallsIn Fence.wide 0 Tryz.prog 91 #[v] w fun e w'=>e = .returned (.string (textQ q))∧Below w.heap.size w w':=by
 obtain⟨m1,m2,rfl,hn,hd⟩:=h.parts
 have HN:=Hid.intro hn
 have HD:=Hid.intro hd
 obtain⟨sg,hsg⟩:∃sg,decide (q.num<0)=sg:=⟨_,rfl⟩
 rw [hsg]at HN
 rw [hsg]
 obtain⟨W1,hW1⟩:∃W,W=w.alloc (.cells #[.bool sg,m1,.bool false,m2] 62):=⟨_,rfl⟩
 have HX:Hid (Box4 W1 w.heap.size (.bool sg) m1 (.bool false) m2):=Hid.intro (by rw [hW1];exact box4_new _ _ _ _ _ _)
 have HBW:Hid (Below w.heap.size w W1):=Hid.intro (by rw [hW1];exact alloc_below _ _)
 have HP:=Hid.intro hq
 clear h hn hd hsg hq
 refine callsIn_of_wp Tryz.func91 rfl trivial ?_ rfl
 simp only [Tryz.ntmps91,List.size_toArray,List.length_cons,List.length_nil,Nat.reduceAdd,Nat.reduceSub,Array.replicate_succ,Array.replicate_zero,List.push_toArray,List.append_toArray,List.nil_append,List.cons_append]
 gi_wp2
 rw [←hW1]
 obtain⟨g,hg⟩:∃g,w.heap.size=g:=⟨_,rfl⟩
 rw [hg]at HX
 rw [hg]
 clear hW1
 refine wpIn_region_ow (ro:=none) [2,3] [0,1,2,3,4] [0,1,0,7,15] follows 19 rfl (by kernel_rfl) (by kernel_rfl) ?_
 replace HX:=Hid.intro (HX.out.below (drew_below _))
 replace HBW:=Hid.intro (HBW.out.trans ((drew_below W1).mono HBW.out.size))
 refine OW.fieldAddr rfl rfl f34_1 rfl ?_
 simp only [Go.Act.put,List.setIfInBounds_toArray,List.set_cons_succ,List.set_cons_zero]
 refine OW.loadMid rfl rfl m32 (cs:=[.bool false,m2]) rfl (by decide) HX.out.hi rfl ?_
 simp only [Go.Act.put,List.setIfInBounds_toArray,List.set_cons_succ,List.set_cons_zero]
 refine OW.call rfl rfl Tryz.func31 rfl namesOK (args:=[.int .i64 1]) rfl ?_
 refine(rOf_calls W1.drew 1 (by decide) (by decide)).mono ?_
 rintro e w2 ⟨v5,rfl,hz5,hB⟩
 refine⟨v5,rfl,hB,?_⟩
 simp only [Go.Act.put,List.setIfInBounds_toArray,List.set_cons_succ,List.set_cons_zero]
 replace HX:=Hid.intro (HX.out.below hB)
 replace HBW:=Hid.intro (HBW.out.trans (hB.mono HBW.out.size))
 have HZ5:=Hid.intro hz5
 clear hz5 hB
 refine OW.call rfl rfl Tryz.func99 rfl namesOK (args:=[.agg #[.bool false,m2],v5]) rfl ?_
 refine(zcmp_calls w2 _ v5 (q.den:Int) 1 (HD.out.below HBW.out) HZ5.out (lt_lift 50000 HP.out.2 (by decide)) (lt_lift 50000 (show 1<B^1 by decide) (by decide))).mono ?_
 rintro e w3 ⟨rfl,hB⟩
 refine⟨_,rfl,hB,?_⟩
 simp only [Go.Act.put,List.setIfInBounds_toArray,List.set_cons_succ,List.set_cons_zero]
 replace HX:=Hid.intro (HX.out.below hB)
 replace HBW:=Hid.intro (HBW.out.trans (hB.mono HBW.out.size))
 clear hB HZ5
 refine OW.eqInt rfl rfl rfl rfl ?_
 simp only [Go.Act.put,List.setIfInBounds_toArray,List.set_cons_succ,List.set_cons_zero]
 refine OW.done ?_
 by_cases h1:q.den=1
 ·have hc:(((q.den:Int)-1).sign == 0)=true:=by rw [h1];rfl
  rw [hc]
  have y0:=HX.out 0 _ rfl
  have y1:=HX.out 1 _ rfl
  have HT:=Hid.intro (textQ_one h1)
  clear h1 hc
  gi_wp2_with (gi_at_call 155;refine stop ?_)
  unfold Stop
  refine(rString_calls w3 _ q.num (HN.out.below HBW.out) (lt_lift 100000 HP.out.1 (by decide))).mono ?_
  rintro e w4 ⟨rfl,hB⟩
  have HB4:=Hid.intro (HBW.out.trans (hB.mono HBW.out.size))
  clear hB
  gi_wp2
  all_goals (first|go_returns|go_ret|go_end0)
  exact⟨by rw [HT.out];rfl,HB4.out⟩
 ·have hc:(((q.den:Int)-1).sign == 0)=false:=beq_false_of_ne (by
   intro h
   have:=Int.sign_eq_zero_iff_zero.1 h
   omega)
  rw [hc]
  have HT:=Hid.intro (textQ_more h1)
  have hsz1:=textZ_size (z:=q.num) (lt_lift 100000 HP.out.1 (by decide))
  have hsz2:=textN_size (n:=q.den) (lt_lift 100000 HP.out.2 (by decide))
  gi_wp2
  refine wpIn_region_ow (ro:=none) [2,6] [0,1,4,5,2,3,6,7,8] [0,1,3,7,0,16,55,127,255] follows 19 rfl (by kernel_rfl) (by kernel_rfl) ?_
  replace HX:=Hid.intro (HX.out.below (drew_below _))
  replace HBW:=Hid.intro (HBW.out.trans ((drew_below w3).mono HBW.out.size))
  refine OW.fieldAddr rfl rfl f34_0 rfl ?_
  simp only [Go.Act.put,List.setIfInBounds_toArray,List.set_cons_succ,List.set_cons_zero]
  refine OW.loadMid rfl rfl m32 (cs:=[.bool sg,m1]) rfl (by decide) HX.out.lo rfl ?_
  simp only [Go.Act.put,List.setIfInBounds_toArray,List.set_cons_succ,List.set_cons_zero]
  refine OW.fieldAddr rfl rfl f34_1 rfl ?_
  simp only [Go.Act.put,List.setIfInBounds_toArray,List.set_cons_succ,List.set_cons_zero]
  refine OW.loadMid rfl rfl m32 (cs:=[.bool false,m2]) rfl (by decide) HX.out.hi rfl ?_
  simp only [Go.Act.put,List.setIfInBounds_toArray,List.set_cons_succ,List.set_cons_zero]
  refine OW.call rfl rfl Tryz.func155 rfl namesOK (args:=[.agg #[.bool sg,m1]]) rfl ?_
  refine(rString_calls w3.drew _ q.num (HN.out.below HBW.out) (lt_lift 100000 HP.out.1 (by decide))).mono ?_
  rintro e w4 ⟨rfl,hB⟩
  refine⟨_,rfl,hB,?_⟩
  simp only [Go.Act.put,List.setIfInBounds_toArray,List.set_cons_succ,List.set_cons_zero]
  replace HBW:=Hid.intro (HBW.out.trans (hB.mono HBW.out.size))
  clear hB
  refine OW.addStr rfl rfl rfl rfl (by show _+1≤_;omega) ?_
  simp only [Go.Act.put,List.setIfInBounds_toArray,List.set_cons_succ,List.set_cons_zero]
  refine OW.call rfl rfl Tryz.func155 rfl namesOK (args:=[.agg #[.bool false,m2]]) rfl ?_
  refine(rString_calls w4 _ (q.den:Int) (HD.out.below HBW.out) (lt_lift 100000 HP.out.2 (by decide))).mono ?_
  rintro e w5 ⟨rfl,hB⟩
  refine⟨_,rfl,hB,?_⟩
  simp only [Go.Act.put,List.setIfInBounds_toArray,List.set_cons_succ,List.set_cons_zero]
  replace HBW:=Hid.intro (HBW.out.trans (hB.mono HBW.out.size))
  clear hB
  rw [textZ_pos (z:=(q.den:Int)) (by omega),Int.natAbs_natCast]
  refine OW.addStr rfl rfl rfl rfl (by rw [ByteArray.size_append];show _+1+_≤_;omega) ?_
  simp only [Go.Act.put,List.setIfInBounds_toArray,List.set_cons_succ,List.set_cons_zero]
  refine OW.assign rfl rfl _ rfl ?_
  simp only [Go.Act.put,List.setIfInBounds_toArray,List.set_cons_succ,List.set_cons_zero]
  refine OW.done ?_
  rw [HT.out]
  gi_wp2
  all_goals (first|go_returns|go_ret|go_end0)
  exact⟨rfl,HBW.out⟩
theorem l34:LoadAll Tryz.prog 62 4:=m34
theorem int_small{a:Int}(h1 : -9223372036854775808≤a)(h2:a≤9223372036854775807):a.natAbs<B^3:=by
 have:B^3=1000000000000000000000000000:=by decide
 omega
theorem ratLe_rat{a b:Int}(ha:a.natAbs<B^3)(hb:b.natAbs<B^3):RatLe ((a:Rat)/(b:Rat)) 6:=ratLe_div (ratLe_int ha (by decide)) (ratLe_int hb (by decide))
set_option maxRecDepth 100000 in
set_option maxHeartbeats 8000000 in
theorem frac_calls(w:World)(a b:Int)(ha1 : -9223372036854775808≤a)(ha2:a≤9223372036854775807)(hb1 : -9223372036854775808≤b)(hb2:b≤9223372036854775807)(hb0:b≠0) :
  CallsIn Fence.wide 0 Tryz.prog 39 #[.int .i64 a,.int .i64 b] w fun e w'=>∃v',e = .returned v'∧QAt w' v' ((a:Rat)/(b:Rat))∧Below w.heap.size w w':=by
 refine callsIn_of_wp Tryz.func39 rfl trivial ?_ rfl
 simp only [Tryz.ntmps39,List.size_toArray,List.length_cons,List.length_nil,Nat.reduceAdd,Nat.reduceSub,Array.replicate_succ,Array.replicate_zero,List.push_toArray,List.append_toArray,List.nil_append,List.cons_append]
 gi_wp2_with (gi_at_call 31;refine stop ?_)
 unfold Stop
 obtain⟨W1,hW1⟩:∃W,W=w.alloc (.cells #[.bool false,.slice none 0 0,.bool false,.slice none 0 0] 62):=⟨_,rfl⟩
 rw [←hW1]
 have HBW:Hid (Below w.heap.size w W1):=Hid.intro (by rw [hW1];exact alloc_below _ _)
 have HA:Hid (ArrAt W1 w.heap.size 4 fun i => [.bool false,.slice none 0 0,.bool false,.slice none 0 0].getD i (.bool false)):=Hid.intro (by
  rw [hW1]
  refine ArrAt.new _ _ _ fun i hi => ?_
  match i,hi with
  | 0,_=>rfl
  | 1,_=>rfl
  | 2,_=>rfl
  | 3,_=>rfl)
 have HE:Hid (Elem W1 w.heap.size 62):=Hid.intro (by rw [hW1];exact elem_new _ _ _)
 obtain⟨g,hg⟩:∃g,w.heap.size=g:=⟨_,rfl⟩
 have hgl:g<W1.heap.size:=by rw [hW1,←hg];simp
 have hgw:w.heap.size≤g:=by omega
 rw [hg]at HA HE
 rw [hg]
 clear hg hW1
 refine(rOf_calls W1 a ha1 ha2).mono ?_
 rintro e w2 ⟨v2,rfl,hz2,hB⟩
 replace HA:=Hid.intro (HA.out.below hgl hB)
 replace HE:=Hid.intro (HE.out.below hB hgl)
 replace HBW:=Hid.intro (HBW.out.trans (hB.mono HBW.out.size))
 replace hgl:=Nat.lt_of_lt_of_le hgl hB.size
 have HZ2:=Hid.intro hz2
 clear hz2 hB
 gi_wp2_with (gi_at_call 31;refine stop ?_)
 unfold Stop
 refine(rOf_calls w2 b hb1 hb2).mono ?_
 rintro e w3 ⟨v3,rfl,hz3,hB⟩
 replace HA:=Hid.intro (HA.out.below hgl hB)
 replace HE:=Hid.intro (HE.out.below hB hgl)
 replace HBW:=Hid.intro (HBW.out.trans (hB.mono HBW.out.size))
 replace hgl:=Nat.lt_of_lt_of_le hgl hB.size
 replace HZ2:=Hid.intro (HZ2.out.below hB)
 have HZ3:=Hid.intro hz3
 clear hz3 hB
 gi_wp2_with (gi_at_call 92;refine stop ?_)
 unfold Stop
 refine(ratio_calls w3 v2 v3 a b HZ2.out HZ3.out (lt_lift 20000 (int_small ha1 ha2) (by decide)) (lt_lift 20000 (int_small hb1 hb2) (by decide)) hb0).mono ?_
 rintro e w4 ⟨v4,rfl,⟨m1,m2,rfl,h1,h2⟩,hB⟩
 replace HA:=Hid.intro (HA.out.below hgl hB)
 replace HE:=Hid.intro (HE.out.below hB hgl)
 replace HBW:=Hid.intro (HBW.out.trans (hB.mono HBW.out.size))
 obtain⟨o1,k1,c1,rfl,_,_⟩:=natI_len h1
 obtain⟨o2,k2,c2,rfl,_,_⟩:=natI_len h2
 have H1:=Hid.intro h1
 have H2:=Hid.intro h2
 have y0:=(HA.out 0 (by omega)).1
 have y1:=(HA.out 1 (by omega)).1
 have y2:=(HA.out 2 (by omega)).1
 have y3:=(HA.out 3 (by omega)).1
 have z0:=(HA.out 0 (by omega)).2
 have z1:=(HA.out 1 (by omega)).2
 have z2:=(HA.out 2 (by omega)).2
 have z3:=(HA.out 3 (by omega)).2
 simp only [List.getD_cons_zero,List.getD_cons_succ]at y0 y1 y2 y3
 clear h1 h2 hB HZ2 HZ3
 obtain⟨sg,hsg⟩:∃sg,decide (((a:Rat)/(b:Rat)).num<0)=sg:=⟨_,rfl⟩
 rw [hsg]
 gi_wp2
 have ha6:=(((HA.out.set (i:=0) (by omega) (.bool sg)).set (i:=1) (by omega) (.slice o1 k1 c1)).set (i:=2) (by omega) (.bool false)).set (i:=3) (by omega) (.slice o2 k2 c2)
 refine ret_agg (cs:=[.bool sg,.slice o1 k1 c1,.bool false,.slice o2 k2 c2]) rfl rfl g rfl l34 rfl ?_ ?_
 ·intro j v hj
  match j,hj with
  | 0,hj=>cases hj;exact(ha6 0 (by omega)).1
  | 1,hj=>cases hj;exact(ha6 1 (by omega)).1
  | 2,hj=>cases hj;exact(ha6 2 (by omega)).1
  | 3,hj=>cases hj;exact(ha6 3 (by omega)).1
 ·have n:∀{v:Value} {x:Nat},NatI w4 v x→NatI ((((w4.setCell ⟨g,0,none⟩ (.bool sg)).setCell ⟨g,1,none⟩ (.slice o1 k1 c1)).setCell ⟨g,2,none⟩ (.bool false)).setCell ⟨g,3,none⟩ (.slice o2 k2 c2)) v x:=fun h=>
   (((h.setElem HE.out (by decide)).setElem (HE.out.setCell _ _) (by decide)).setElem ((HE.out.setCell _ _).setCell _ _) (by decide)).setElem (((HE.out.setCell _ _).setCell _ _).setCell _ _) (by decide)
  refine⟨_,rfl,⟨_,_,by rw [hsg],n H1.out,n H2.out⟩,(((HBW.out.setCell hgw _).setCell hgw _).setCell hgw _).setCell hgw _⟩
theorem ret_rat_two{fn:Func}{p t:Tmp}{R:Ending→World→Prop}{a:Act}{w:World}{x y z x0 x1 x2 u:Value}(h:fn.results=#[.cell p 27,.tmp t])(hd:a.defers = [])(g:Nat)(hp:a.tmps.getD p undef = .pointer (some ⟨g,0,none⟩))(ht:a.tmps.getD t undef=u)
  (h0:w.cell? ⟨g,0,none⟩=some x0) (h1:w.cell? ⟨g,1,none⟩=some x1) (h2:w.cell? ⟨g,2,none⟩=some x2) (hR:R (.returned (.tuple #[.agg #[x,y,z],u])) (((w.setCell ⟨g,0,none⟩ x).setCell ⟨g,1,none⟩ y).setCell ⟨g,2,none⟩ z)) :
  bodyPost Tryz.prog fn R .ret a (((w.setCell ⟨g,0,none⟩ x).setCell ⟨g,1,none⟩ y).setCell ⟨g,2,none⟩ z):=by
 have n01:(⟨g,0,none⟩:Addr)≠⟨g,1,none⟩:=by intro e;injection e with _ e;omega
 have n02:(⟨g,0,none⟩:Addr)≠⟨g,2,none⟩:=by intro e;injection e with _ e;omega
 have n12:(⟨g,1,none⟩:Addr)≠⟨g,2,none⟩:=by intro e;injection e with _ e;omega
 have c0:(((w.setCell ⟨g,0,none⟩ x).setCell ⟨g,1,none⟩ y).setCell ⟨g,2,none⟩ z).cell? ⟨g,0,none⟩=some x:=by
  rw [World.cell?_setCell_other _ _ _ _ n02.symm,World.cell?_setCell_other _ _ _ _ n01.symm,World.cell?_setCell_same _ _ _ h0]
 have c1:(((w.setCell ⟨g,0,none⟩ x).setCell ⟨g,1,none⟩ y).setCell ⟨g,2,none⟩ z).cell? ⟨g,1,none⟩=some y:=by
  rw [World.cell?_setCell_other _ _ _ _ n12.symm,World.cell?_setCell_same _ _ _ (by rw [World.cell?_setCell_other _ _ _ _ n01];exact h1)]
 have c2:(((w.setCell ⟨g,0,none⟩ x).setCell ⟨g,1,none⟩ y).setCell ⟨g,2,none⟩ z).cell? ⟨g,2,none⟩=some z:=by
  rw [World.cell?_setCell_same _ _ _ (by rw [World.cell?_setCell_other _ _ _ _ n12,World.cell?_setCell_other _ _ _ _ n02];exact h2)]
 refine bodyPost_ret ?_ hd hR
 have hl:=l25 g [x,y,z] (((w.setCell ⟨g,0,none⟩ x).setCell ⟨g,1,none⟩ y).setCell ⟨g,2,none⟩ z) rfl (fun j v hj=>by
  match j,hj with
  | 0,hj=>rw [←hj];exact c0
  | 1,hj=>rw [←hj];exact c1
  | 2,hj=>rw [←hj];exact c2
  | n+3,hj=>simp at hj)
 simp only [Instr.loadAt,Instr.sureAddr,Sem.run_bind,Sem.run_pure,Result.andThen_ok]at hl
 have hp':a.tmps[p]?.getD undef = .pointer (some ⟨g,0,none⟩):=by rw [←Array.getD_eq_getD_getElem?];exact hp
 have ht':a.tmps[t]?.getD undef=u:=by rw [←Array.getD_eq_getD_getElem?];exact ht
 simp [results,h,hp',ht',asAddr,hl]
theorem ratAt_zero(w:World):RatAt w (.agg #[.bool false,.slice none 0 0,.slice none 0 0]) 0:=⟨_,_,rfl,magAt_nil _ _ _,magAt_nil _ _ _⟩
set_option maxRecDepth 100000 in
set_option maxHeartbeats 8000000 in
theorem make_calls(w:World)(a b:Int)(ha1 : -9223372036854775808≤a)(ha2:a≤9223372036854775807)(hb1 : -9223372036854775808≤b)(hb2:b≤9223372036854775807)(hb0:b≠0) :
  CallsIn Fence.wide 0 Tryz.prog 13 #[.int .i64 a,.int .i64 b] w fun e w'=>∃v',e = .returned (.tuple #[v',.int .i64 0])∧RatAt w' v' ((a:Rat)/(b:Rat))∧Below w.heap.size w w':=by
 refine callsIn_of_wp Tryz.func13 rfl trivial ?_ rfl
 simp only [Tryz.ntmps13,List.size_toArray,List.length_cons,List.length_nil,Nat.reduceAdd,Nat.reduceSub,Array.replicate_succ,Array.replicate_zero,List.push_toArray,List.append_toArray,List.nil_append,List.cons_append]
 have hb0':(b == 0)=false:=beq_false_of_ne hb0
 gi_wp2_with (gi_at_call 16;refine stop ?_)
 unfold Stop
 obtain⟨W,hW⟩:∃W,W=w.alloc (.cells #[.bool false,.slice none 0 0,.slice none 0 0] 27):=⟨_,rfl⟩
 rw [←hW]
 have HK:Hid (Own3 w W):=by rw [hW];exact own3_new _ _ _ _ _
 have HE:Hid (Elem W w.heap.size 27):=Hid.intro (by rw [hW];exact elem_new _ _ _)
 clear hW
 refine(ofN_calls W a ha1 ha2).mono ?_
 rintro e w2 ⟨v2,rfl,hr2,hB⟩
 replace HE:=Hid.intro (HE.out.below hB HK.out.2.1)
 replace HK:=Hid.intro (HK.out.step hB)
 have HR2:=Hid.intro hr2
 clear hr2 hB
 gi_wp2_with (gi_at_call 16;refine stop ?_)
 unfold Stop
 refine(ofN_calls w2 b hb1 hb2).mono ?_
 rintro e w3 ⟨v3,rfl,hr3,hB⟩
 replace HE:=Hid.intro (HE.out.below hB HK.out.2.1)
 replace HK:=Hid.intro (HK.out.step hB)
 replace HR2:=Hid.intro (HR2.out.below hB)
 have HR3:=Hid.intro hr3
 clear hr3 hB
 gi_wp2_with (gi_at_call 61;refine stop ?_)
 unfold Stop
 refine(over_calls w3 v2 v3 (a:Rat) (b:Rat) 3 HR2.out HR3.out (ratLe_int (int_small ha1 ha2) (by decide)) (ratLe_int (int_small hb1 hb2) (by decide)) (by rw [rat_ofInt_num];exact hb0) (by decide)).mono ?_
 rintro e w4 ⟨v4,rfl,hr4,hB⟩
 replace HE:=Hid.intro (HE.out.below hB HK.out.2.1)
 replace HK:=Hid.intro (HK.out.step hB)
 have HR4:=Hid.intro hr4
 obtain⟨o,k,c,o2,k2,c2,rfl⟩:=hr4.form
 obtain⟨x0,x1,x2,z0,z1,z2,y0,y1,y2⟩:=HK.out.cells
 clear hr4 hB HR2 HR3
 obtain⟨sg,hsg⟩:∃sg,decide (((a:Rat)/(b:Rat)).num<0)=sg:=⟨_,rfl⟩
 rw [hsg]at HR4
 rw [hsg]
 gi_wp2
 refine ret_rat_two rfl rfl w.heap.size rfl rfl z0 z1 z2 ?_
 have hB:=HK.out.2.2
 refine⟨_,rfl,?_,((hB.setCell (Nat.le_refl _) _).setCell (Nat.le_refl _) _).setCell (Nat.le_refl _) _⟩
 exact((HR4.out.setElem HE.out (by decide)).setElem (HE.out.setCell _ _) (by decide)).setElem ((HE.out.setCell _ _).setCell _ _) (by decide)
def Awake(w:World):Prop:=∀w',Below w.heap.size w w'→CallsIn Fence.wide 0 Tryz.prog 19 #[] w' fun e w''=>e = .returned (.bool true)∧Below w'.heap.size w' w''
end Go.Num
namespace Go.Num
open Go.Eng Go.Shelf Go.RowKit Go.Proofs Go.Proofs.YtepakfjilnpodaaGreatDoor
structure Laid(w:World):Prop where
 pow:Pow10 w
 len:∃m,w.cell? ⟨0,0,none⟩=some (.int .i64 m)
theorem Laid.below{w w':World}(h:Laid w)(hb:Below w.heap.size w w'):Laid w':=by
 obtain⟨h1,m,h2⟩:=h
 exact⟨h1.below hb,m,(hb.cell (World.block_lt_of_cell? _ _ h2)).trans h2⟩
theorem bltN_lt{a b:Nat}(h:Nat.blt a b=true):a<b:=Nat.le_of_ble_eq_true h
def decF:Nat→Nat→List UInt8→List UInt8
 | 0,_,acc=>acc
 | f+1,n,acc=>bif Nat.blt n 10 then UInt8.ofNat (48+n) :: acc else decF f (n/10) (UInt8.ofNat (48+n%10) :: acc)
theorem decF_eq:∀(f n:Nat) (acc:List UInt8),n<10^f→0<f→decF f n acc=Lib.decDigits n ++ acc
 | 0,n,acc,_,h=>by omega
 | f+1,n,acc,h,_=>by
  unfold decF
  cases e:Nat.blt n 10 with
  | true=>
   have:=bltN_lt e
   rw [Lib.decDigits,dif_pos this]
   rfl
  | false=>
   have hn:¬n<10:=by
    intro h'
    have:Nat.blt n 10=true:=Nat.ble_eq_true_of_le h'
    rw [e]at this;cases this
   have hf:0<f:=by
    rcases Nat.eq_zero_or_pos f with h0|h0
    ·subst h0;simp at h;omega
    ·exact h0
   rw [cond_false,decF_eq f (n/10) _ (by rw [Nat.pow_succ]at h;omega) hf,Lib.decDigits.eq_def n,dif_neg hn,List.append_assoc]
   rfl
theorem dec_fuel{n k f:Nat}(h:n<B^k)(hf:9*k≤f)(h0:0<f):decF f n []=Lib.decDigits n:=by
 rw [decF_eq f n [] (Nat.lt_of_lt_of_le (by rw [←pow9];exact h) (Nat.pow_le_pow_right (by decide) hf)) h0,List.append_nil]
theorem bytesW_below(w:World)(s:ByteArray):Below w.heap.size w (Lib.bytesWorld w 5 s):=
 ⟨rfl,rfl,rfl,by rw [Lib.bytesWorld_size];omega,fun k hk=>Lib.bytesWorld_at_old w 5 s k hk⟩
theorem body_of{f:FuncId}(h:(match Tryz.prog.funcs[f]? with|some fn=>fn.body.isSome|none=>false)=true):∃fn:Func,Tryz.prog.funcs[f]? = some fn∧fn.body.isSome=true:=by
 split at h
 ·rename_i fn e;exact⟨fn,e,h⟩
 ·cases h
theorem still_109:StillFn Tryz.prog 139:=by
 refine⟨body_of (by kernel_rfl),fun args w => ?_⟩
 refine CallsDIn.mono (callsDIn_of_wpSIn (R:=fun e u' w'=>e = .returned (.tuple #[])∧u' = .returning∧w'=w) Tryz.func139 rfl trivial fun c₀ cs hu => ?_) ?_
 ·obtain⟨T,hT⟩:∃T,args ++ Array.replicate (Tryz.f139.ntmps-args.size) undef=T:=⟨_,rfl⟩
  have hsz:18≤T.size:=by
   rw [←hT]
   have:Tryz.f139.ntmps=18:=rfl
   rw [this]
   simp
   omega
  rw [hT]
  clear hT
  apply wpSIn_seq
  apply wpSIn_region
  have s6:6<T.size:=by omega
  have s2:2<T.size:=by omega
  have s7:7<T.size:=by omega
  have s8:8<T.size:=by omega
  simp [wpOpsSIn,go_sem,recoverD,hu,Exit.thenS,s6]
  apply wpSIn_seq
  apply wpSIn_region
  simp [wpOpsSIn,go_sem,Exit.thenS,s2,s7]
  refine wpSIn_cond (t:=false) (by simp [Act.eval,s8]) ?_
  simp only [Bool.false_eq_true,if_false]
  refine wpSIn_of_wpIn rfl (wpIn_skip ?_)
  cases c₀
  simp_all [bodyPostS,results]
 ·rintro e u' w' ⟨rfl,rfl,rfl⟩
  exact⟨⟨_,rfl⟩,rfl,rfl,Below.refl _ _⟩
theorem still_133:StillFn Tryz.prog 133:=by
 refine⟨body_of (by kernel_rfl),fun args w => ?_⟩
 refine CallsDIn.mono (callsDIn_of_wpSIn (R:=fun e u' w'=>e = .returned (.tuple #[])∧u' = .returning∧w'=w) Tryz.func133 rfl trivial fun c₀ cs hu => ?_) ?_
 ·obtain⟨T,hT⟩:∃T,args ++ Array.replicate (Tryz.f133.ntmps-args.size) undef=T:=⟨_,rfl⟩
  have hsz:18≤T.size:=by
   rw [←hT]
   have:Tryz.f133.ntmps=20:=rfl
   rw [this]
   simp
   omega
  rw [hT]
  clear hT
  apply wpSIn_seq
  apply wpSIn_region
  have s6:6<T.size:=by omega
  have s2:2<T.size:=by omega
  have s7:7<T.size:=by omega
  have s8:8<T.size:=by omega
  simp [wpOpsSIn,go_sem,recoverD,hu,Exit.thenS,s6]
  apply wpSIn_seq
  apply wpSIn_region
  simp [wpOpsSIn,go_sem,Exit.thenS,s2,s7]
  refine wpSIn_cond (t:=false) (by simp [Act.eval,s8]) ?_
  simp only [Bool.false_eq_true,if_false]
  refine wpSIn_of_wpIn rfl (wpIn_skip ?_)
  cases c₀
  simp_all [bodyPostS,results]
 ·rintro e u' w' ⟨rfl,rfl,rfl⟩
  exact⟨⟨_,rfl⟩,rfl,rfl,Below.refl _ _⟩
theorem still_143:StillFn Tryz.prog 143:=by
 refine⟨body_of (by kernel_rfl),fun args w => ?_⟩
 refine CallsDIn.mono (callsDIn_of_wpSIn (R:=fun e u' w'=>e = .returned (.tuple #[])∧u' = .returning∧w'=w) Tryz.func143 rfl trivial fun c₀ cs hu => ?_) ?_
 ·obtain⟨T,hT⟩:∃T,args ++ Array.replicate (Tryz.f143.ntmps-args.size) undef=T:=⟨_,rfl⟩
  have hsz:18≤T.size:=by
   rw [←hT]
   have:Tryz.f143.ntmps=20:=rfl
   rw [this]
   simp
   omega
  rw [hT]
  clear hT
  apply wpSIn_seq
  apply wpSIn_region
  have s6:6<T.size:=by omega
  have s2:2<T.size:=by omega
  have s7:7<T.size:=by omega
  have s8:8<T.size:=by omega
  simp [wpOpsSIn,go_sem,recoverD,hu,Exit.thenS,s6]
  apply wpSIn_seq
  apply wpSIn_region
  simp [wpOpsSIn,go_sem,Exit.thenS,s2,s7]
  refine wpSIn_cond (t:=false) (by simp [Act.eval,s8]) ?_
  simp only [Bool.false_eq_true,if_false]
  refine wpSIn_of_wpIn rfl (wpIn_skip ?_)
  cases c₀
  simp_all [bodyPostS,results]
 ·rintro e u' w' ⟨rfl,rfl,rfl⟩
  exact⟨⟨_,rfl⟩,rfl,rfl,Below.refl _ _⟩
theorem still_146:StillFn Tryz.prog 146:=by
 refine⟨body_of (by kernel_rfl),fun args w => ?_⟩
 refine CallsDIn.mono (callsDIn_of_wpSIn (R:=fun e u' w'=>e = .returned (.tuple #[])∧u' = .returning∧w'=w) Tryz.func146 rfl trivial fun c₀ cs hu => ?_) ?_
 ·obtain⟨T,hT⟩:∃T,args ++ Array.replicate (Tryz.f146.ntmps-args.size) undef=T:=⟨_,rfl⟩
  have hsz:18≤T.size:=by
   rw [←hT]
   have:Tryz.f146.ntmps=20:=rfl
   rw [this]
   simp
   omega
  rw [hT]
  clear hT
  apply wpSIn_seq
  apply wpSIn_region
  have s6:6<T.size:=by omega
  have s2:2<T.size:=by omega
  have s7:7<T.size:=by omega
  have s8:8<T.size:=by omega
  simp [wpOpsSIn,go_sem,recoverD,hu,Exit.thenS,s6]
  apply wpSIn_seq
  apply wpSIn_region
  simp [wpOpsSIn,go_sem,Exit.thenS,s2,s7]
  refine wpSIn_cond (t:=false) (by simp [Act.eval,s8]) ?_
  simp only [Bool.false_eq_true,if_false]
  refine wpSIn_of_wpIn rfl (wpIn_skip ?_)
  cases c₀
  simp_all [bodyPostS,results]
 ·rintro e u' w' ⟨rfl,rfl,rfl⟩
  exact⟨⟨_,rfl⟩,rfl,rfl,Below.refl _ _⟩
theorem still_219:StillFn Tryz.prog 219:=by
 refine⟨body_of (by kernel_rfl),fun args w => ?_⟩
 refine CallsDIn.mono (callsDIn_of_wpSIn (R:=fun e u' w'=>e = .returned (.tuple #[])∧u' = .returning∧w'=w) Tryz.func219 rfl trivial fun c₀ cs hu => ?_) ?_
 ·obtain⟨T,hT⟩:∃T,args ++ Array.replicate (Tryz.f219.ntmps-args.size) undef=T:=⟨_,rfl⟩
  have hsz:18≤T.size:=by
   rw [←hT]
   have:Tryz.f219.ntmps=18:=rfl
   rw [this]
   simp
   omega
  rw [hT]
  clear hT
  apply wpSIn_seq
  apply wpSIn_region
  have s6:6<T.size:=by omega
  have s2:2<T.size:=by omega
  have s7:7<T.size:=by omega
  have s8:8<T.size:=by omega
  simp [wpOpsSIn,go_sem,recoverD,hu,Exit.thenS,s6]
  apply wpSIn_seq
  apply wpSIn_region
  simp [wpOpsSIn,go_sem,Exit.thenS,s2,s7]
  refine wpSIn_cond (t:=false) (by simp [Act.eval,s8]) ?_
  simp only [Bool.false_eq_true,if_false]
  refine wpSIn_of_wpIn rfl (wpIn_skip ?_)
  cases c₀
  simp_all [bodyPostS,results]
 ·rintro e u' w' ⟨rfl,rfl,rfl⟩
  exact⟨⟨_,rfl⟩,rfl,rfl,Below.refl _ _⟩
end Go.Num
namespace Go.Num
open Go.Eng Go.Shelf Go.RowKit Go.Sort Go.Proofs Go.Proofs.YtepakfjilnpodaaGreatDoor
def SmallN(n:Nat):Bool:=decide (Lib.nDigits n≤20000)
set_option maxRecDepth 100000 in
set_option maxHeartbeats 8000000 in
theorem isSmall_calls(w:World)(v:Value)(n:Nat)(h:MagAt w v n)(hn:n<B^100000)(htab:Pow10 w) :
  CallsIn Fence.wide 0 Tryz.prog 140 #[v] w fun e w'=>e = .returned (.bool (SmallN n))∧Below w.heap.size w w':=by
 have HM:=Hid.intro h
 have HN:=Hid.intro hn
 have HTab:=Hid.intro htab
 obtain⟨k,hk,hl⟩:=h
 obtain⟨o,c,rfl,_⟩:=hl.form
 have HK:=Hid.intro hk
 clear hk hl hn htab
 refine callsIn_of_wp Tryz.func140 rfl trivial ?_ rfl
 simp only [Tryz.ntmps140,List.size_toArray,List.length_cons,List.length_nil,Nat.reduceAdd,Nat.reduceSub,Array.replicate_succ,Array.replicate_zero,List.push_toArray,List.append_toArray,List.nil_append,List.cons_append]
 by_cases hk2:k≤2222
 ·have hkd:decide ((k:Int)≤2222)=true:=decide_eq_true (by omega)
  have HS:Hid (SmallN n=true):=Hid.intro (decide_eq_true (by
   rcases Nat.eq_zero_or_pos k with h0|h0
   ·subst h0
    rw [HK.out.zero,Lib.nDigits_small (by decide)];decide
   ·have h1:=nDigits_pow h0 HK.out.1
    omega))
  gi_wp2
  all_goals (first|go_returns|go_ret|go_end0)
  exact⟨by rw [HS.out];rfl,Below.refl _ _⟩
 ·have hkd:decide ((k:Int)≤2222)=false:=decide_eq_false (by omega)
  gi_wp2_with (gi_at_call 141;refine stop ?_)
  unfold Stop
  refine(mString_calls w _ n HM.out HN.out HTab.out).mono ?_
  rintro e w2 ⟨rfl,hB⟩
  obtain⟨S,hS⟩:∃S:ByteArray,(⟨(Lib.decDigits n).toArray⟩:ByteArray)=S:=⟨_,rfl⟩
  have hsz:S.size=Lib.nDigits n:=by rw [←hS,bytes_size,Lib.decDigits_length]
  rw [hS]
  obtain⟨d,hd⟩:∃d,Lib.nDigits n=d:=⟨_,rfl⟩
  have HS:Hid (SmallN n=decide (d≤20000)):=Hid.intro (by unfold SmallN;rw [hd])
  rw [hd]at hsz
  clear hS hd
  gi_wp2
  all_goals (first|go_returns|go_ret|go_end0)
  refine⟨?_,hB⟩
  rw [HS.out]
  show Ending.returned (Value.bool (decide ((d:Int)≤20000)))=Ending.returned (Value.bool (decide (d≤20000)))
  rw [show decide ((d:Int)≤20000)=decide (d≤20000)from decide_eq_decide.2 (by omega)]
def Kept1(q:Rat):Bool:=SmallN q.num.natAbs && SmallN (if q.den=1 then 0 else q.den)
set_option maxRecDepth 100000 in
set_option maxHeartbeats 8000000 in
theorem kept_calls(w:World)(v:Value)(q:Rat)(h:RatAt w v q)(hq:RatLe q 100000)(hs:Kept1 q=true)(htab:Pow10 w) :
  CallsIn Fence.wide 0 Tryz.prog 74 #[v] w fun e w'=>∃v',e = .returned v'∧RatAt w' v' q∧Below w.heap.size w w':=by
 have HR:=Hid.intro h
 obtain⟨vn,vd,rfl,hn,hd⟩:=h
 have HN:=Hid.intro hn
 have HD:=Hid.intro hd
 obtain⟨sg,hsg⟩:∃sg,decide (q.num<0)=sg:=⟨_,rfl⟩
 obtain⟨o1,k1,c1,rfl,_,_⟩:=mag_len hn
 obtain⟨o2,k2,c2,rfl,_,_⟩:=mag_len hd
 rw [hsg]at HR
 rw [hsg]
 have hs1:SmallN q.num.natAbs=true:=by unfold Kept1 at hs;rw [Bool.and_eq_true]at hs;exact hs.1
 have hs2:SmallN (if q.den=1 then 0 else q.den)=true:=by unfold Kept1 at hs;rw [Bool.and_eq_true]at hs;exact hs.2
 have HS1:=Hid.intro hs1
 have HS2:=Hid.intro hs2
 obtain⟨W0,hW0⟩:∃W,W=w.alloc (.cells #[.bool sg,.slice o1 k1 c1,.slice o2 k2 c2] 27):=⟨_,rfl⟩
 have h0s:W0.heap.size=w.heap.size+1:=by rw [hW0];simp
 obtain⟨W1,hW1⟩:∃W,W=W0.alloc (.cells #[.bool false,.slice none 0 0,.slice none 0 0] 27):=⟨_,rfl⟩
 have HX:Hid (Box3 W1 w.heap.size (.bool sg) (.slice o1 k1 c1) (.slice o2 k2 c2)):=Hid.intro (by rw [hW1];exact Box3.below (by rw [hW0];exact box3_new _ _ _ _ _) (alloc_below _ _))
 have HK:Hid (Own3 W0 W1):=by rw [hW1];exact own3_new _ _ _ _ _
 have HE:Hid (Elem W1 W0.heap.size 27):=Hid.intro (by rw [hW1];exact elem_new _ _ _)
 have HB0:Hid (Below w.heap.size w W0):=Hid.intro (by rw [hW0];exact alloc_below _ _)
 have HBW:Hid (Below w.heap.size w W1):=Hid.intro (HB0.out.trans (HK.out.2.2.mono HB0.out.size))
 have HP:=Hid.intro hq
 have HTab:=Hid.intro htab
 have y0:=HX.out.c0
 have y1:=HX.out.c1
 have y2:=HX.out.c2
 clear hn hd hsg hq htab hs hs1 hs2
 refine callsIn_of_wp Tryz.func74 rfl trivial ?_ rfl
 simp only [Tryz.ntmps74,List.size_toArray,List.length_cons,List.length_nil,Nat.reduceAdd,Nat.reduceSub,Array.replicate_succ,Array.replicate_zero,List.push_toArray,List.append_toArray,List.nil_append,List.cons_append]
 gi_wp2_with (gi_at_call 140;refine stop ?_)
 unfold Stop
 rw [←hW0,←hW1]
 obtain⟨g,hg⟩:∃g,w.heap.size=g:=⟨_,rfl⟩
 rw [hg]at HX h0s y0 y1 y2
 rw [hg]
 obtain⟨g2,hg2⟩:∃g2,W0.heap.size=g2:=⟨_,rfl⟩
 have hg2':g+1=g2:=by omega
 have HE2:Hid (Elem W1 g2 27):=by rw [←hg2];exact HE
 have HA2:Hid (∃f,ArrAt W1 g2 3 f):=by rw [←hg2];exact HK.out.1
 have hl2:g2<W1.heap.size:=by rw [←hg2];exact HK.out.2.1
 have hgw:w.heap.size≤g2:=by omega
 rw [hg2']
 clear hW0 hW1 HE HK HB0 h0s hg2 hg
 refine(isSmall_calls W1 _ _ (HN.out.below HBW.out) HP.out.1 (HTab.out.below HBW.out)).mono ?_
 rintro e w2 ⟨rfl,hB⟩
 replace HX:=Hid.intro (HX.out.below hB)
 replace HBW:=Hid.intro (HBW.out.trans (hB.mono HBW.out.size))
 replace HE2:=Hid.intro (HE2.out.below hB hl2)
 replace HA2:Hid (∃f,ArrAt w2 g2 3 f):=Hid.intro (HA2.out.elim fun f hf=>⟨f,hf.below hl2 hB⟩)
 replace hl2:=Nat.lt_of_lt_of_le hl2 hB.size
 rw [HS1.out]
 replace y0:=HX.out.c0
 replace y1:=HX.out.c1
 replace y2:=HX.out.c2
 clear hB
 gi_wp2_with (gi_at_call 140;refine stop ?_)
 unfold Stop
 refine(isSmall_calls w2 _ _ (HD.out.below HBW.out) (by split;exact pow_pos' 100000;exact HP.out.2) (HTab.out.below HBW.out)).mono ?_
 rintro e w3 ⟨rfl,hB⟩
 replace HX:=Hid.intro (HX.out.below hB)
 replace HBW:=Hid.intro (HBW.out.trans (hB.mono HBW.out.size))
 replace HE2:=Hid.intro (HE2.out.below hB hl2)
 replace HA2:Hid (∃f,ArrAt w3 g2 3 f):=Hid.intro (HA2.out.elim fun f hf=>⟨f,hf.below hl2 hB⟩)
 rw [HS2.out]
 replace y0:=HX.out.c0
 replace y1:=HX.out.c1
 replace y2:=HX.out.c2
 replace HR:=Hid.intro (HR.out.below HBW.out)
 obtain⟨f,hf⟩:=HA2.out
 have z0:=(hf 0 (by omega)).1
 have z1:=(hf 1 (by omega)).1
 have z2:=(hf 2 (by omega)).1
 have f0:=(hf 0 (by omega)).2
 have f1:=(hf 1 (by omega)).2
 have f2:=(hf 2 (by omega)).2
 clear hB HA2
 gi_wp2
 refine ret_rat3 rfl rfl g2 rfl z0 z1 z2 ?_
 refine⟨_,rfl,?_,((HBW.out.setCell hgw _).setCell hgw _).setCell hgw _⟩
 exact((HR.out.setElem HE2.out (by decide)).setElem (HE2.out.setCell _ _) (by decide)).setElem ((HE2.out.setCell _ _).setCell _ _) (by decide)
end Go.Num
