/-
  'Check' of the reference.
  Conditions: see each statement.
-/
import Derived.Test.YtoamcgjbelhnkaaGreatDoorSAA
import Derived.Test.YtoamcgjbelhnkaaGreatDoorSAH
import Derived.Test.YtoamcgjbelhnkaaGreatDoorSAG
import Derived.BigFrameIn
import Derived.SliceStrings
import Derived.Deep.MidRow
set_option maxRecDepth 100000
set_option maxHeartbeats 8000000
namespace Go.Num
open Go.Eng Go.Shelf Go.RowKit Go.Sort Go.Proofs Go.Proofs.YtoamcgjbelhnkaaGreatDoor
theorem zdG(q:Rat):zbq q 20000=zb5 q:=by
 unfold zbq zb5 zeY;congr 1
 split
 ·rename_i h;rw [h,Lib.nDigits_small (by decide),Lib.nDigits_small (by decide)]
 ·rfl
theorem zqk{n:Nat}(k:Nat)(h:Lib.nDigits n≤9*k):n<B^k:=by
 rw [zmf];exact Nat.lt_of_lt_of_le (Lib.lt_pow_nDigits n) (Nat.pow_le_pow_right (by decide) h)
theorem zqv{q:Rat}(h:zb5 q=true):zan q 2223:=by
 rw [←zdG]at h;unfold zbq at h;rw [Bool.and_eq_true]at h;have h1:=of_decide_eq_true h.1;have h2:=of_decide_eq_true h.2;exact⟨zqk 2223 (by omega),zqk 2223 (by omega)⟩
theorem zmm(q:Rat):zgX q=⟨(zio q).toArray⟩:=by
 unfold zgX zio zds;split <;> rfl
theorem zpt{q:Rat}(h:zb5 q=true):(zio q).length≤41000:=by
 rw [←zdG]at h;unfold zbq at h;rw [Bool.and_eq_true]at h;have h1:=of_decide_eq_true h.1;have h2:=of_decide_eq_true h.2;have hi:(Lib.itoa q.num).length≤20001:=by
  unfold Lib.itoa;split
  ·rw [List.length_cons,Lib.decDigits_length];omega
  ·rename_i hn;rw [Lib.decDigits_length];rw [show q.num.natAbs=q.num.toNat by omega]at h1;omega
 unfold zio;split
 ·omega
 ·rw [List.length_append,List.length_cons,Lib.decDigits_length];omega
theorem zi7{q:Rat}(h:zb5 q=true):zhy (zio q)=0∧zhx (zio q)=q:=by
 have hp:=zdM (l:=zio q) (by have:=zpt h;omega) (zoz q);rw [hp.1,hp.2];unfold zqw zko;rw [if_pos h,if_pos h];exact⟨rfl,rfl⟩
def rq(l:List UInt8)(most:Nat):Rat:=if refE (l.take most)=0 then(zcg (l.take most)).getD 0 else((((l.length:Int)%7-3:Int):Rat)/((1+(l.length:Int)%3:Int):Rat))
theorem zsu(a b:Int)(hb:0<b):((a:Rat)/(b:Rat)).num.natAbs≤a.natAbs∧((a:Rat)/(b:Rat)).den≤b.natAbs:=by
 have e:(a:Rat)/(b:Rat)=frac (decide (a<0)) a.natAbs b.natAbs:=by
  unfold frac;have h1:sgn (decide (a<0)) a.natAbs=a:=by unfold sgn;simp;omega
  rw [h1,Rat.divInt_eq_div,show((b.natAbs:Nat):Int)=b by omega]
 have h:=zdS (neg:=decide (a<0)) (n:=a.natAbs) (d:=b.natAbs) (by omega);rw [←e]at h;exact⟨by rw [h.1];exact Nat.div_le_self _ _,by rw [h.2.1];exact Nat.div_le_self _ _⟩
theorem zmx(l:List UInt8)(most:Nat):zb5 (rq l most)=true:=by
 unfold rq;split
 ·rename_i h;unfold refE at h;split at h
  ·cases h
  ·split at h
   ·cases h
   ·rename_i q hq;rw [hq];show zb5 q=true
    rw [←zdG]
    cases hs:zbq q 20000 with
    | true=>rfl
    | false=>rw [hs]at h;cases h
 ·obtain⟨a,ha⟩:∃a:Int,(l.length:Int)%7-3=a:=⟨_,rfl⟩;obtain⟨b,hb⟩:∃b:Int,1+(l.length:Int)%3=b:=⟨_,rfl⟩;rw [ha,hb];have h:=zsu a b (by omega);rw [←zdG];unfold zbq;rw [Lib.nDigits_small (by omega),Lib.nDigits_small (by omega)];rfl
theorem zi0(w:World)(s:ByteArray)(l:List UInt8)(hl:s.data.toList=l)(hs:s.size≤9223372036854775807)(most:Nat)(_hm:most≤100000) :
  CallsIn Fence.wide 0 Tryz.prog 30 #[.string s,.int .i64 (most:Int)] w fun e w'=>∃v',e = .returned v'∧QAt w' v' (rq l most)∧Below w.heap.size w w':=by
 have hsz:s.size=l.length:=by rw [Lib.size_eq,hl]
 have HSL:=zHi hl;obtain⟨n,hnl⟩:∃n,l.length=n:=⟨_,rfl⟩;rw [hnl]at hsz;rw [hsz]at hs;have HN:=zHi hnl;obtain⟨k,hk⟩:∃k,min n most=k:=⟨_,rfl⟩;have hkm:min (n:Int) (most:Int)=(k:Int):=by omega
 have hkn:k≤n:=by omega
 have HTk:Hid (l.take k=l.take most):=zHi (by
  rcases Nat.le_total n most with h|h
  ·rw [List.take_of_length_le (by omega),List.take_of_length_le (by omega)]
  ·rw [show k=most by omega])
 clear hl hnl;refine callsIn_of_wp Tryz.func30 rfl trivial ?_ rfl;simp only [Tryz.ntmps30,ztH,ztI,ztJ,Nat.reduceAdd,Nat.reduceSub,ztK,ztL,ztM,ztN,ztO,ztP];gi_wp2_with (gi_at_call 12;refine stop ?_)
 unfold Stop;obtain⟨W,hW⟩:∃W,W=w.alloc (.cells #[.bool false,.slice none 0 0,.bool false,.slice none 0 0] 34):=⟨_,rfl⟩;rw [←hW];have HFK:Hid (zcL w W w.heap.size):=zHi (by rw [hW];exact zeP _ _ _ _ _);obtain⟨g,hg⟩:∃g,w.heap.size=g:=⟨_,rfl⟩;rw [hg]at HFK;rw [hg];clear hW hg;have hx:(s.extract 0 k).data.toList=l.take most:=by
  rw [zku (l:=l) (m:=n) (by rw [HSL.out,←HN.out,List.take_length]) hkn,HTk.out]
 refine(zlp W (s.extract 0 k) (l.take most) hx).mono ?_;rintro e w2 ⟨v2,rfl,⟨s1,o1,k1,c1,s2,o2,k2,c2,rfl⟩,hq,hB⟩;replace HFK:=zHi (HFK.out.step hB);obtain⟨W3,hW3⟩:∃W,W=w2.alloc (.cells #[.bool s1,.slice o1 k1 c1,.bool s2,.slice o2 k2 c2] 34):=⟨_,rfl⟩;have hB3:Below w2.heap.size w2 W3:=by rw [hW3];exact zaa _ _
 replace HFK:=zHi (HFK.out.step hB3);have HBX:Hid (BoxL W3 w2.heap.size [.bool s1,.slice o1 k1 c1,.bool s2,.slice o2 k2 c2]):=zHi (by rw [hW3];exact zaU _ _ _);have hle:=HFK.out.le;have HE:=zHi HFK.out.el;have d0:=HBX.out.2 0 _ rfl;have d1:=HBX.out.2 1 _ rfl;have d2:=HBX.out.2 2 _ rfl;have d3:=HBX.out.2 3 _ rfl;by_cases h0:refE (l.take most)=0
 ·obtain⟨q,hfq,hqa⟩:=hq h0;have HQ:=zHi (hqa.below hB3);have HRQ:Hid (rq l most=q):=zHi (by unfold rq;rw [if_pos h0,hfq];rfl);obtain⟨f,hf⟩:=HFK.out.res;have HF:=zHi hf;have z0:=(hf 0 (by omega)).1;have z1:=(hf 1 (by omega)).1;have z2:=(hf 2 (by omega)).1;have z3:=(hf 3 (by omega)).1;have y0:=(hf 0 (by omega)).2;have y1:=(hf 1 (by omega)).2;have y2:=(hf 2 (by omega)).2;have y3:=(hf 3 (by omega)).2;rw [h0];rw [hW3]at d0 d1 d2 d3 z0 z1 z2 z3 y0 y1 y2 y3;clear hq hfq hqa hf hx hB hB3 h0;gi_wp2;rw [←hW3];have hA:=(((HF.out.set (i:=0) (by omega) (.bool s1)).set (i:=1) (by omega) (.slice o1 k1 c1)).set (i:=2) (by omega) (.bool s2)).set (i:=3) (by omega) (.slice o2 k2 c2);refine zjX (cs:=[.bool s1,.slice o1 k1 c1,.bool s2,.slice o2 k2 c2]) rfl rfl g rfl l34 rfl (fun j v hj => ?_) ?_
  ·match j,hj with
   | 0,hj=>rw [←hj];exact(hA 0 (by omega)).1
   | 1,hj=>rw [←hj];exact(hA 1 (by omega)).1
   | 2,hj=>rw [←hj];exact(hA 2 (by omega)).1
   | 3,hj=>rw [←hj];exact(hA 3 (by omega)).1
  ·refine⟨_,rfl,?_,(((HFK.out.below.setCell hle _).setCell hle _).setCell hle _).setCell hle _⟩;rw [HRQ.out];obtain⟨m1,m2,e,h1,h2⟩:=HQ.out;exact⟨m1,m2,e,h1.set4 HE.out,h2.set4 HE.out⟩
 ·have hne:(refE (l.take most) != 0)=true:=by rw [bne_iff_ne];exact h0
  have HRQ:Hid (rq l most=(((n:Int)%7-3:Int):Rat)/((1+(n:Int)%3:Int):Rat)):=zHi (by unfold rq;rw [if_neg h0,HN.out]);clear hq hx hB d0 d1 d2 d3 h0;gi_wp2_with (gi_at_call 24;refine stop ?_)
  unfold Stop;rw [←hW3];clear hW3 hB3;refine(zo6 W3 ((n:Int)%7-3) (1+(n:Int)%3) (by omega) (by omega) (by omega) (by omega) (by omega)).mono ?_;rintro e w4 ⟨v4,rfl,hq4,hB⟩;replace HFK:=zHi (HFK.out.step hB);replace HE:=zHi HFK.out.el;rw [←HRQ.out]at hq4;have HQ:=zHi hq4;obtain⟨m1,m2,rfl,hm1,hm2⟩:=hq4;obtain⟨o3,k3,c3,rfl,_,_⟩:=zaC hm1;obtain⟨o4,k4,c4,rfl,_,_⟩:=zaC hm2;obtain⟨s3,hs3⟩:∃s3,decide ((rq l most).num<0)=s3:=⟨_,rfl⟩;rw [hs3]at HQ;rw [hs3];obtain⟨f,hf⟩:=HFK.out.res;have HF:=zHi hf;have z0:=(hf 0 (by omega)).1;have z1:=(hf 1 (by omega)).1;have z2:=(hf 2 (by omega)).1;have z3:=(hf 3 (by omega)).1;have y0:=(hf 0 (by omega)).2;have y1:=(hf 1 (by omega)).2;have y2:=(hf 2 (by omega)).2;have y3:=(hf 3 (by omega)).2;clear hm1 hm2 hf hB hs3;gi_wp2;have hA:=(((HF.out.set (i:=0) (by omega) (.bool s3)).set (i:=1) (by omega) (.slice o3 k3 c3)).set (i:=2) (by omega) (.bool false)).set (i:=3) (by omega) (.slice o4 k4 c4);refine zjX (cs:=[.bool s3,.slice o3 k3 c3,.bool false,.slice o4 k4 c4]) rfl rfl g rfl l34 rfl (fun j v hj => ?_) ?_
  ·match j,hj with
   | 0,hj=>rw [←hj];exact(hA 0 (by omega)).1
   | 1,hj=>rw [←hj];exact(hA 1 (by omega)).1
   | 2,hj=>rw [←hj];exact(hA 2 (by omega)).1
   | 3,hj=>rw [←hj];exact(hA 3 (by omega)).1
  ·refine⟨_,rfl,?_,(((HFK.out.below.setCell hle _).setCell hle _).setCell hle _).setCell hle _⟩;obtain⟨m1,m2,e,h1,h2⟩:=HQ.out;exact⟨m1,m2,e,h1.set4 HE.out,h2.set4 HE.out⟩
theorem zhq(w:World)(v:Value)(q:Rat)(h:QAt w v q)(hk:zb5 q=true)(hL:Laid w) :
  CallsIn Fence.wide 0 Tryz.prog 31 #[v] w fun e w'=>∃v',e = .returned v'∧zau w' v' q∧Below w.heap.size w w':=by
 have hT:TI w [zti q,ztz (zgX q),ztA q] [(73,A1 (tg 0),A1 (tg 1)),(11,A1 (tg 1),A2 (tg 2) (vi 0))]:=by
  refine zjK ⟨_,Tryz.func73,rfl⟩ (fun w1 v hw hv => ?_) <| zjK ⟨_,Tryz.func11,rfl⟩ (fun w1 v hw hv => ?_) znp
  ·refine(zjk w1 v q hv ((zqv hk).mono (by decide))).mono ?_;rintro e w' ⟨rfl,h2⟩;exact⟨_,rfl,rfl,h2⟩
  ·have hv:v = .string (zgX q):=hv;subst hv;refine(zlo w1 (zgX q) (zio q) (by rw [zmm]) (hL.below hw)).mono ?_;rintro e w' ⟨v',rfl,h1,h2⟩;rw [(zi7 hk).1];rw [(zi7 hk).2]at h1;exact⟨_,rfl,pk2 h1 rfl,h2⟩
 refine(ziY zaq zah (S:=[shQ,.str,shR]) rfl hT (n:=50) (ts:=A1 (tg 0)) (rs:=A1 (tg 2)) (by kernel_rfl) (xs:=#[v]) (ps1 h)).mono ?_;rintro e w' ⟨x,rfl,hx,hB⟩;exact⟨x,rfl,hx,hB⟩
def zty(z:Int):Leaf rs3 where
 sh:=.agg 2
 I:=fun v w=>ZAt w v z
 stable:=by
  rintro v w w' hk ⟨m,e,h⟩;exact⟨m,e,h.kept hk rfl⟩
 ok:=by
  rintro v w ⟨m,rfl,h⟩;refine⟨_,rfl,rfl,fun x hx => ?_⟩;simp only [List.mem_cons,List.not_mem_nil,or_false]at hx;rcases hx with rfl|rfl
  ·rfl
  ·exact h.oneCell
 det:=fun h=>by cases h
theorem zfi(w:World):CallsIn Fence.wide 0 Tryz.prog 36 #[] w fun e w'=>∃v',e = .returned v'∧QAt w' v' 0∧Below w.heap.size w w':=by
 have hT:TI w [zty 0,zti 0] [(22,A1 (vi 0),A1 (tg 0)),(21,A1 (tg 0),A1 (tg 1))]:=by
  refine zjK ⟨_,Tryz.func22,rfl⟩ (fun w1 v hw hv => ?_) <| zjK ⟨_,Tryz.func21,rfl⟩ (fun w1 v hw hv => ?_) znp
  ·have hv:some (Value.int .i64 0)=some v:=hv
   cases hv
   refine(za6 w1 0 (by decide) (by decide)).mono ?_;rintro e w' ⟨v',rfl,h1,h2⟩;exact⟨_,rfl,h1,h2⟩
  ·refine(zdZ w1 v 0 hv).mono ?_;rintro e w' ⟨v',rfl,h1,h2⟩;exact⟨_,rfl,h1,h2⟩
 refine(ziY zaq zah (S:=[.agg 2,shQ]) rfl hT (n:=50) (ts:=.nil) (rs:=A1 (tg 1)) (by kernel_rfl) (xs:=#[]) rfl).mono ?_;rintro e w' ⟨x,rfl,hx,hB⟩;exact⟨x,rfl,hx,hB⟩
section
variable {w0:World} {env:List (Leaf rs3)} {r:List znl}
end
theorem u63:Tryz.prog.underlying 63=some (.slice 34):=by kernel_rfl
theorem u64:Tryz.prog.underlying 64=some (.slice 25):=by kernel_rfl
theorem u54:Tryz.prog.underlying 54=some (.slice 63):=by kernel_rfl
theorem u55:Tryz.prog.underlying 55=some (.slice 64):=by kernel_rfl
theorem i34:Tryz.prog.info? 34=some Tryz.t34:=by kernel_rfl
theorem i34z:Tryz.t34.zero=some (.agg #[.bool false,.slice none 0 0,.bool false,.slice none 0 0]):=by kernel_rfl
theorem i34s:Tryz.t34.size=4:=by kernel_rfl
theorem i34b:Tryz.t34.bytes=64:=by kernel_rfl
theorem i25':Tryz.prog.info? 25=some Tryz.t25:=by kernel_rfl
theorem i25z:Tryz.t25.zero=some (.agg #[.bool false,.slice none 0 0,.slice none 0 0]):=by kernel_rfl
theorem i25s:Tryz.t25.size=3:=by kernel_rfl
theorem i25b:Tryz.t25.bytes=56:=by kernel_rfl
theorem i63:Tryz.prog.info? 63=some Tryz.t63:=by kernel_rfl
theorem i63z:Tryz.t63.zero=some (.slice none 0 0):=by kernel_rfl
theorem i63s:Tryz.t63.size=1:=by kernel_rfl
theorem i63b:Tryz.t63.bytes=24:=by kernel_rfl
theorem i64i:Tryz.prog.info? 64=some Tryz.t64:=by kernel_rfl
theorem i64z:Tryz.t64.zero=some (.slice none 0 0):=by kernel_rfl
theorem i64s:Tryz.t64.size=1:=by kernel_rfl
theorem i64b:Tryz.t64.bytes=24:=by kernel_rfl
def Touch(ty:TypeId)(w w':World):Prop:=w.heap.size≤w'.heap.size∧∀(b:Nat) (cs:Array Value) (e:TypeId) (fz:Nat × Nat),w.heap[b]? = some (Obj.cells cs e fz)→e≠ty→w'.heap[b]? = some (Obj.cells cs e fz)
theorem Touch.of_below{ty:TypeId}{w w':World}(h:Below w.heap.size w w'):Touch ty w w':=⟨h.size,fun b cs e fz q _=>by
 rw [h.block b (Array.getElem?_eq_some_iff.1 q).1];exact q⟩
theorem Touch.kept{ty:TypeId}{w w':World}(h:Touch ty w w')(hty:rs3.contains ty=false):Go.Eng.Kept rs3 w w':=fun b cs e fz q hc=>h.2 b cs e fz q (fun he=>by rw [he,hty]at hc;cases hc)
theorem Touch.elem{ty e:TypeId}{w w':World}{b:Nat}(h:Touch ty w w')(hE:Elem w b e)(hne:e≠ty):Elem w' b e∧w'.heap[b]? = w.heap[b]?:=by
 obtain⟨cs,fz,hb⟩:=hE;have:=h.2 _ _ _ _ hb hne;exact⟨⟨cs,fz,this⟩,by rw [this,hb]⟩
def zad{β:Type}(w:World)(ty sz:Nat)(I:β→List Value→World→Prop)(v:Value)(bs:List β):Prop:=
 (bs = []∧∃o c,v = .slice o 0 c)∨∃(a:Addr) (cap:Nat) (xs:List (List Value)),v = .slice (some a) bs.length cap∧0<bs.length∧(bs.length≤cap∧bs.length≤1000000000)∧Elem w a.block ty∧xs.length=bs.length∧(∀r∈xs,r.length=sz) ∧
  (∀(i:Nat) (row:List Value),xs[i]? = some row→∀(j:Nat) (x:Value),row[j]? = some x→w.cell? (a.add (i*sz+j))=some x)∧(∀(i:Nat) (row:List Value) (b:β),xs[i]? = some row→bs[i]? = some b→I b row w)
theorem zad.touch{β:Type}{w w':World}{ty ty' sz:Nat}{I:β→List Value→World→Prop}{v:Value}{bs:List β}(h:zad w ty sz I v bs)(ht:Touch ty' w w')(hne:ty≠ty')(hI:∀b r,I b r w→I b r w'):zad w' ty sz I v bs:=by
 rcases h with h|⟨a,cap,xs,h1,h2,h3,h4,h5,h6,h7,h8⟩
 ·exact .inl h
 ·obtain⟨hE,hb⟩:=ht.elem h4 hne;exact .inr ⟨a,cap,xs,h1,h2,h3,hE,h5,h6,fun i row hr j x hx=>(World.cell?_of_block (by rw [zac];exact hb)).trans (h7 i row hr j x hx),fun i row b hr hb'=>hI _ _ (h8 i row b hr hb')⟩
theorem zad.below{β:Type}{w w':World}{ty sz:Nat}{I:β→List Value→World→Prop}{v:Value}{bs:List β}(h:zad w ty sz I v bs)(hb:Below w.heap.size w w')(hI:∀b r,I b r w→I b r w'):zad w' ty sz I v bs:=
 h.touch (ty':=ty+1) (.of_below hb) (by omega) hI
def OwnR{β:Type}(w:World)(base:Nat)(ty sz:Nat)(I:β→List Value→World→Prop)(v:Value)(bs:List β):Prop:=
 ∃xs:List (List Value),w.ownsRow base ty sz v bs.length xs.flatten∧xs.length=bs.length∧(∀r∈xs,r.length=sz)∧(∀(i:Nat) (row:List Value) (b:β),xs[i]? = some row→bs[i]? = some b→I b row w)
theorem zcD{sz:Nat}:∀{xs:List (List Value)} (_:∀r∈xs,r.length=sz) {i:Nat} {row:List Value} {j:Nat} {x:Value},xs[i]? = some row→row[j]? = some x→xs.flatten[i*sz+j]? = some x
 | [],_,i,_,_,_,h,_=>by simp at h
 | r :: t,hr,0,row,j,x,h,hx=>by
  have h:r=row:=by simpa using h
  subst h;have hj:j<r.length:=(List.getElem?_eq_some_iff.1 hx).1;rw [Nat.zero_mul,Nat.zero_add,List.flatten_cons,List.getElem?_append_left hj];exact hx
 | r :: t,hr,i+1,row,j,x,h,hx=>by
  have h:t[i]? = some row:=by simpa using h
  have hl:=hr r (by simp);rw [List.flatten_cons,List.getElem?_append_right (by rw [hl,Nat.add_mul];omega),hl,show(i+1)*sz+j-sz=i*sz+j by rw [Nat.add_mul];omega];exact zcD (fun q hq=>hr q (by simp [hq])) h hx
theorem OwnR.nil{β:Type}(w:World)(base ty sz:Nat)(I:β→List Value→World→Prop):OwnR w base ty sz I (.slice none 0 0) []:=
 ⟨[],World.ownsRow_nil _ _ _ _,rfl,fun r h=>by simp at h,fun i row b h=>by simp at h⟩
theorem OwnR.row{β:Type}{w:World}{base ty sz:Nat}{I:β→List Value→World→Prop}{v:Value}{bs:List β}(h:OwnR w base ty sz I v bs)(hn:bs.length≤1000000000):zad w ty sz I v bs:=by
 obtain⟨xs,h1,h2,h3,h4⟩:=h;rcases Nat.eq_zero_or_pos bs.length with h0|h0
 ·left;have hb:bs = []:=List.eq_nil_of_length_eq_zero h0;refine⟨hb,?_⟩;rcases h1.2 with⟨rfl,_⟩|⟨g,cap,cur,rfl,_⟩
  ·exact⟨none,0,rfl⟩
  ·rw [h0];exact⟨_,_,rfl⟩
 ·right;rcases h1.2 with⟨_,e⟩|⟨g,cap,cur,rfl,g1,g2,g3,g4,_⟩
  ·omega
  ·refine⟨⟨g,0,none⟩,cap,xs,rfl,h0,⟨g3,hn⟩,⟨cur,(0,0),g2⟩,h2,h3,fun i row hr j x hx => ?_,h4⟩;exact h1.cells rfl _ _ (zcD h3 hr hx)
theorem OwnR.touch{β:Type}{w w':World}{base ty ty' sz:Nat}{I:β→List Value→World→Prop}{v:Value}{bs:List β}(h:OwnR w base ty sz I v bs)(ht:Touch ty' w w')(hne:ty≠ty')(hI:∀b r,I b r w→I b r w'):OwnR w' base ty sz I v bs:=by
 obtain⟨xs,h1,h2,h3,h4⟩:=h;refine⟨xs,⟨h1.1,?_⟩,h2,h3,fun i row b hr hb=>hI _ _ (h4 i row b hr hb)⟩;rcases h1.2 with e|⟨g,cap,cur,e,g1,g2,g3⟩
 ·exact .inl e
 ·exact .inr ⟨g,cap,cur,e,g1,ht.2 _ _ _ _ g2 hne,g3⟩
theorem OwnR.below{β:Type}{w w':World}{base ty sz:Nat}{I:β→List Value→World→Prop}{v:Value}{bs:List β}(h:OwnR w base ty sz I v bs)(hb:Below w.heap.size w w')(hI:∀b r,I b r w→I b r w'):OwnR w' base ty sz I v bs:=
 h.touch (ty':=ty+1) (.of_below hb) (by omega) hI
theorem OwnR.form{β:Type}{w:World}{base ty sz:Nat}{I:β→List Value→World→Prop}{v:Value}{bs:List β}(h:OwnR w base ty sz I v bs):∃o c,v = .slice o bs.length c:=by
 obtain⟨xs,h1,_⟩:=h;rcases h1.2 with⟨e,h0⟩|⟨g,cap,cur,e,_⟩
 ·exact⟨none,0,by rw [e,h0]⟩
 ·exact⟨_,_,e⟩
theorem zcb{β:Type}{F:Fence}{n:Nat}(w wr:World){ops:Array Oper}{rest:List Oper}{o:Oper}{a:CAct}{Q:Exit→CAct→World→Prop}{ty sz t bytes:Nat}{inf:TypeInfo}{z:Value}{I:β→List Value→World→Prop}
  (hg:o.guard=none) (s x:Operand) (hop:o.op=Op.call {callee:=Callee.builtin Builtin.append,args:=#[s,x],argTypes:=#[t,t]})
  (e1:Tryz.prog.underlying t=some (.slice ty)) (e2:Tryz.prog.info? ty=some inf) (e3:inf.zero=some z) (e4:inf.size=sz) (e5:inf.bytes=bytes) (e6:z.cells.size=sz) (e7:0<sz) (e8:bytes≤100)
  (v:Value) (bs:List β) (hs:a.eval s=v) (HO:OwnR wr w.heap.size ty sz I v bs) (b:β) (row:List Value) (tt:TypeId) (hx:a.eval x = .slice (some ⟨wr.heap.size,0,none⟩) 1 1) (hrow:row.length=sz) (h1c:∀u∈row,u.oneCell'=true) (hIb:I b row wr) (hI:∀b r w1 w2,Touch ty w1 w2→I b r w1→I b r w2) (hn:bs.length<500000000)
  (HB:Below w.heap.size w wr)
  (hK:∀v' w',Hid (OwnR w' w.heap.size ty sz I v' (bs ++ [b]))→Hid (Below w.heap.size w w')→Hid (Touch ty wr w')→Hid (∀k,k<wr.heap.size→some k≠v.ownBlock→w'.heap[k]? = wr.heap[k]?)→wpListIn F n Tryz.prog ops Q rest (a.put o.dst v') w') :
  wpListIn F n Tryz.prog ops Q (o :: rest) a (wr.alloc (.cells row.toArray tt)):=by
 have hsz:=HB.size;obtain⟨xs,h1,h2,h3,h4⟩:=HO;refine wpListIn_append_own _ hg s x t hop w.heap.size ty inf z sz bytes e1 e2 e3 e4 e5 e6 e7 v bs.length xs.flatten hs (World.ownsRow.alloc h1 _) ⟨wr.heap.size,0,none⟩ 1 1 row hx (by rw [hrow];omega) (fun j u hu=>by rw [Addr.add_lit,Nat.zero_add,World.cell?_alloc_new];simpa using hu) h1c (by unfold maxLen;omega) (by
  have:(bs.length+1)*bytes≤500000000*100:=Nat.mul_le_mul (by omega) e8;omega) (by simp;omega) ?_
 intro v' w' g1 g2 _;have hT:Touch ty wr w':=by
  refine⟨Nat.le_trans (by simp) g2.size,fun k cs e fz hk hne => ?_⟩;have hlt:k<wr.heap.size:=(Array.getElem?_eq_some_iff.1 hk).1;have hal:(wr.alloc (.cells row.toArray tt)).heap[k]? = wr.heap[k]?:=(zaa wr _).block k hlt;rw [g2.block k (by simp;omega) (fun hk' => ?_),hal]
  ·exact hk
  ·rcases h1.2 with⟨rfl,_⟩|⟨g,cap,cur,rfl,q1,q2,_⟩
   ·cases hk'
   ·have:k=g:=by simpa [Value.ownBlock]using hk'
    subst this;rw [q2]at hk;injection hk with hk;injection hk with _ hk _;exact hne hk.symm
 refine hK v' w' ⟨xs ++ [row],?_,by simp [h2],fun r hr => ?_,fun i r b' hr hb' => ?_⟩ ?_ hT ?_
 ·rw [List.flatten_append,List.length_append];simpa using g1
 ·rcases List.mem_append.1 hr with h|h
  ·exact h3 r h
  ·rw [List.mem_singleton.1 h,hrow]
 ·rcases Nat.lt_or_ge i bs.length with hi|hi
  ·rw [List.getElem?_append_left (by omega)]at hr hb';exact hI _ _ _ _ hT (h4 i r b' hr hb')
  ·rw [List.getElem?_append_right (by omega)]at hr hb';rw [h2]at hr;rcases Nat.eq_zero_or_pos (i-bs.length)with h0|h0
   ·rw [h0]at hr hb';have hr:row=r:=by simpa using hr
    have hb':b=b':=by simpa using hb'
    rw [←hr,←hb'];exact hI _ _ _ _ hT hIb
   ·rw [List.getElem?_eq_none (by simp;omega)]at hr
    cases hr
 ·exact(HB.alloc hsz _).grown g2 (by simp;omega) fun k hk=>zbU h1 hk
 ·intro k hk hne;rw [g2.block k (by simp;omega) hne,(zaa wr _).block k hk]
theorem OwnR.lt{β:Type}{w:World}{base ty sz:Nat}{I:β→List Value→World→Prop}{v:Value}{bs:List β}(h:OwnR w base ty sz I v bs){k:Nat}(hk:v.ownBlock=some k):k<w.heap.size:=by
 obtain⟨xs,h1,_⟩:=h;exact(h1.lt k hk).2
def IQ(q:Rat)(r:List Value)(w:World):Prop:=QAt w (.agg r.toArray) q
def IR(q:Rat)(r:List Value)(w:World):Prop:=zau w (.agg r.toArray) q
theorem IQ.touch{ty:TypeId}{w w':World}(ht:Touch ty w w')(hty:rs3.contains ty=false):∀q r,IQ q r w→IQ q r w':=fun _ _ h=>QAt.kept h (ht.kept hty)
theorem IR.touch{ty:TypeId}{w w':World}(ht:Touch ty w w')(hty:rs3.contains ty=false):∀q r,IR q r w→IR q r w':=fun _ _ h=>zau.kept h (ht.kept hty)
theorem IQ.below{w w':World}(h:Below w.heap.size w w'):∀q r,IQ q r w→IQ q r w':=fun _ _ k=>QAt.below k h
theorem IR.below{w w':World}(h:Below w.heap.size w w'):∀q r,IR q r w→IR q r w':=fun _ _ k=>zau.below k h
abbrev RowQ(w:World)(v:Value)(qs:List Rat):Prop:=zad w 34 4 IQ v qs
abbrev RowR(w:World)(v:Value)(qs:List Rat):Prop:=zad w 25 3 IR v qs
def zcJ(qs:List Rat)(r:List Value)(w:World):Prop:=∃v,r = [v]∧RowQ w v qs
def zbQ(qs:List Rat)(r:List Value)(w:World):Prop:=∃v,r = [v]∧RowR w v qs
theorem zcJ.touch{ty:TypeId}{w w':World}(ht:Touch ty w w')(hty:rs3.contains ty=false)(hne:34≠ty):∀q r,zcJ q r w→zcJ q r w':=fun _ _ ⟨v,e,h⟩=>⟨v,e,h.touch ht hne (IQ.touch ht hty)⟩
theorem zbQ.touch{ty:TypeId}{w w':World}(ht:Touch ty w w')(hty:rs3.contains ty=false)(hne:25≠ty):∀q r,zbQ q r w→zbQ q r w':=fun _ _ ⟨v,e,h⟩=>⟨v,e,h.touch ht hne (IR.touch ht hty)⟩
theorem zcJ.below{w w':World}(h:Below w.heap.size w w'):∀q r,zcJ q r w→zcJ q r w':=fun _ _ ⟨v,e,k⟩=>⟨v,e,zad.below k h (IQ.below h)⟩
theorem zbQ.below{w w':World}(h:Below w.heap.size w w'):∀q r,zbQ q r w→zbQ q r w':=fun _ _ ⟨v,e,k⟩=>⟨v,e,zad.below k h (IR.below h)⟩
abbrev MatQ(w:World)(v:Value)(m:List (List Rat)):Prop:=zad w 63 1 zcJ v m
abbrev MatR(w:World)(v:Value)(m:List (List Rat)):Prop:=zad w 64 1 zbQ v m
def zmc(w:World)(v:Value)(n:Nat)(f:Nat→Value):Prop:=∃o c,v = .slice o n c∧n≤9223372036854775807∧(0<n→∃a:Addr,o=some a∧a.block<w.heap.size∧∀i,i<n→w.cell? (a.add i)=some (f i))
structure zsV(w:World)(v:Value)(n:Nat)(rv:Nat→Value)(m:Nat→Nat)(s:Nat→Nat→ByteArray):Prop where
 top:zmc w v n rv
 row:∀i,i<n→zmc w (rv i) (m i) fun j => .string (s i j)
 len:∀i j,i<n→j<m i→(s i j).size≤9223372036854775807
def zbs(s:Nat→ByteArray)(k:Nat):List Rat:=(List.range k).map fun j=>rq (s j).data.toList 50
def zcQ(m:Nat→Nat)(s:Nat→Nat→ByteArray)(most k:Nat):List (List Rat):=(List.range k).map fun i=>zbs (s i) (min (m i) most)
theorem zgm(s:Nat→ByteArray)(k:Nat):zbs s (k+1)=zbs s k ++ [rq (s k).data.toList 50]:=by simp [zbs,List.range_succ]
theorem ze4(m:Nat→Nat)(s:Nat→Nat→ByteArray)(most k:Nat):zcQ m s most (k+1)=zcQ m s most k ++ [zbs (s k) (min (m k) most)]:=by simp [zcQ,List.range_succ]
theorem za5(s:Nat→ByteArray)(k:Nat):(zbs s k).length=k:=by simp [zbs]
theorem zb1(m:Nat→Nat)(s:Nat→Nat→ByteArray)(most k:Nat):(zcQ m s most k).length=k:=by simp [zcQ]
theorem zlw(w:World)(v:Value)(n:Nat)(rv:Nat→Value)(m:Nat→Nat)(s:Nat→Nat→ByteArray)(most:Nat)(h:zsV w v n rv m s)(hm:most≤100)(hL:Laid w) :
  CallsIn Fence.wide 0 Tryz.prog 25 #[v,.int .i64 (most:Int)] w fun e w'=>∃v1 v2,e = .returned (.tuple #[v1,v2])∧MatQ w' v1 (zcQ m s most (min n most))∧MatR w' v2 (zcQ m s most (min n most))∧Below w.heap.size w w':=by
 have HT:=zHi h;have HL:=zHi hL;obtain⟨o,c,rfl,hn9,_⟩:=h.top;clear h hL;refine callsIn_of_wp Tryz.func25 rfl trivial ?_ rfl;simp only [Tryz.ntmps25,ztH,ztI,ztJ,Nat.reduceAdd,Nat.reduceSub,ztK,ztL,ztM,ztN,ztO,ztP];gi_wp2;gi_loopw [6,7,8] (fun x6 x7 x8 wr=>∃i:Nat,x8 = .int .i64 (i:Int)∧i≤n∧i≤most∧Hid (OwnR wr w.heap.size 63 1 zcJ x6 (zcQ m s most i))∧Hid (OwnR wr w.heap.size 64 1 zbQ x7 (zcQ m s most i))∧Hid (Below w.heap.size w wr)) (fun _ _ x _=>most-(intOf x).toNat)
 case atStart=>exact⟨0,rfl,by omega,by omega,OwnR.nil _ _ _ _ _,OwnR.nil _ _ _ _ _,Below.refl _ w⟩
 case round=>
  obtain⟨ws,hws⟩:∃ws,ws=wr:=⟨_,rfl⟩;subst hws;obtain⟨i,rfl,hin,him,HO6,HO7,HBr⟩:=hrel;by_cases hi1:i<n
  ·by_cases hi2:i<most
   ·obtain⟨o',c',e',_,htop⟩:=HT.out.top;injection e' with e1 e2 e3;subst e1;obtain⟨a,rfl,ha,hca⟩:=htop (by omega);obtain⟨oi,ci,hri,hmi9,hrow⟩:=HT.out.row i hi1;have p0:=hca i hi1;rw [hri]at p0;have HP0:Hid (∀w',Below w.heap.size w w'→w'.cell? (a.add i)=some (.slice oi (m i) ci)):=zHi (fun w' hb=>(hb.cell (p:=a.add i) (by rw [zac];exact ha)).trans p0);obtain⟨mi,hmi⟩:∃mi,m i=mi:=⟨_,rfl⟩;have HMI:=zHi hmi;have HRow:=zHi hrow;rw [hmi]at HP0 hmi9;clear e2 e3 htop hca p0 hri hrow hmi;gi_wp2;have HO9:Hid (OwnR ws ws.heap.size 34 4 IQ (.slice none 0 0) (zbs (s i) 0)):=OwnR.nil _ _ _ _ _;have HO10:Hid (OwnR ws ws.heap.size 25 3 IR (.slice none 0 0) (zbs (s i) 0)):=OwnR.nil _ _ _ _ _;have HBi:Hid (Below ws.heap.size ws ws):=Below.refl _ ws;gi_loopw [9,10,11] (fun x9 x10 x11 wi=>∃j:Nat,x11 = .int .i64 (j:Int)∧j≤mi∧j≤most∧Hid (OwnR wi ws.heap.size 34 4 IQ x9 (zbs (s i) j))∧Hid (OwnR wi ws.heap.size 25 3 IR x10 (zbs (s i) j))∧Hid (Below ws.heap.size ws wi)) (fun _ _ x _=>most-(intOf x).toNat)
    case atStart=>exact⟨0,rfl,by omega,by omega,HO9.out,HO10.out,HBi.out⟩
    case round=>
     obtain⟨j,rfl,hjm,hjmost,HO9',HO10',HBi'⟩:=hrel;clear HO9 HO10 HBi;have HBw:=zHi (HBr.out.trans (HBi'.out.mono HBr.out.size));have p0:=HP0.out wr HBw.out;by_cases hj1:j<mi
     ·by_cases hj2:j<most
      ·obtain⟨ai,rfl,hai,hcai⟩:=HRow.out (by rw [HMI.out];omega);have p1:=(HBw.out.cell (p:=ai.add j) (by rw [zac];exact hai)).trans (hcai j (by rw [HMI.out];exact hj1));obtain⟨sj,hsj⟩:∃sj,s i j=sj:=⟨_,rfl⟩;have HSJ:=zHi hsj;have hsl:=HT.out.len i j hi1 (by rw [HMI.out];exact hj1);rw [hsj]at p1 hsl;clear hcai hsj;gi_wp2_with (gi_at_call 30;refine stop ?_)
       refine(zi0 wr sj _ rfl hsl 50 (by decide)).mono ?_;rintro e w2 ⟨vq,rfl,hq,hB⟩;have HQ:=zHi hq;obtain⟨m1,m2,rfl,hm1,hm2⟩:=hq;obtain⟨o1,k1,c1,rfl,_,_⟩:=zaC hm1;obtain⟨o2,k2,c2,rfl,_,_⟩:=zaC hm2;obtain⟨q,hqq⟩:∃q,rq sj.data.toList 50=q:=⟨_,rfl⟩;have HQQ:Hid (rq (s i j).data.toList 50=q):=zHi (by rw [HSJ.out];exact hqq);have HKq:Hid (zb5 q=true):=zHi (by rw [←hqq];exact zmx _ _);rw [hqq]at HQ;rw [hqq];obtain⟨sg,hsg⟩:∃sg,decide (q.num<0)=sg:=⟨_,rfl⟩;rw [hsg]at HQ;rw [hsg];obtain⟨W3,hW3⟩:∃W,W=w2.alloc (.cells #[.bool sg,.slice o1 k1 c1,.bool false,.slice o2 k2 c2] 34):=⟨_,rfl⟩;have hB3:Below w2.heap.size w2 W3:=by rw [hW3];exact zaa _ _
       have HBox:Hid (BoxL W3 w2.heap.size [.bool sg,.slice o1 k1 c1,.bool false,.slice o2 k2 c2]):=zHi (by rw [hW3];exact zaU _ _ _);have hBw3:=hB.trans (hB3.mono hB.size);have HBi3:=zHi (HBi'.out.trans (hBw3.mono HBi'.out.size));have H9:=zHi (HO9'.out.below hBw3 (IQ.below hBw3));have H10:=zHi (HO10'.out.below hBw3 (IR.below hBw3));have h9lt:∀k,u9.ownBlock=some k→k<w2.heap.size:=fun k hk=>Nat.lt_of_lt_of_le (HO9'.out.lt hk) hB.size
       have H9L:=zHi h9lt;have HQ3:=zHi (HQ.out.below hB3);have HBw3:=zBt HBw hBw3;have HW3s:Hid (W3.heap.size=w2.heap.size+1):=zHi (by rw [hW3];simp);have d0:=HBox.out.2 0 _ rfl;have d1:=HBox.out.2 1 _ rfl;have d2:=HBox.out.2 2 _ rfl;have d3:=HBox.out.2 3 _ rfl;obtain⟨o9,c9,h9f⟩:=HO9'.out.form;rw [za5]at h9f;rw [hW3]at d0 d1 d2 d3;clear hm1 hm2 hB hB3 hBw3 h9lt hqq hsg p0 p1;gi_wp2_with (gi_at_builtin;refine stop ?_)
       unfold Stop;rw [←hW3];obtain⟨g12,hg12⟩:∃g12,w2.heap.size=g12:=⟨_,rfl⟩;rw [hg12]at HBox H9L HW3s;rw [hg12];clear hW3 hg12 d0 d1 d2 d3;rw [h9f]at H9 H9L;refine zcb (ty:=34) (sz:=4) (bytes:=64) ws W3 rfl _ _ rfl Go.Num.u63 i34 i34z i34s i34b rfl (by decide) (by decide) (.slice o9 j c9) (zbs (s i) j) rfl H9.out q [.bool sg,.slice o1 k1 c1,.bool false,.slice o2 k2 c2] _ (by rw [HW3s.out];rfl) rfl (by simp [Value.oneCell']) HQ3.out (fun b r w1 w2 ht=>IQ.touch ht rfl b r) (by rw [za5];omega) HBi3.out ?_;intro v9 w4 HO9n HBi4 HT4 HBlk;have hrs:zbs (s i) j ++ [q]=zbs (s i) (j+1):=by rw [zgm,HQQ.out]
       rw [hrs]at HO9n;have hboxb:w4.heap[g12]? = W3.heap[g12]?:=HBlk.out g12 HBox.out.1 (fun e=>by have:=H9L.out g12 e.symm;omega);have HBox4:Hid (BoxL w4 g12 [.bool sg,.slice o1 k1 c1,.bool false,.slice o2 k2 c2]):=zHi ⟨Nat.lt_of_lt_of_le HBox.out.1 HT4.out.1,fun x v hx=>(World.cell?_of_block hboxb).trans (HBox.out.2 x v hx)⟩;have H10b:=zHi (H10.out.touch HT4.out (by decide) (IR.touch HT4.out rfl));have HQ4:=zHi (IQ.touch HT4.out rfl _ _ HQ3.out);have HBw4:=zHi (HBr.out.trans (HBi4.out.mono HBr.out.size));obtain⟨o10,c10,h10f⟩:=H10b.out.form;obtain⟨on,cn,h9n⟩:=HO9n.out.form;rw [za5]at h10f h9n;have d0:=HBox4.out.2 0 _ rfl;have d1:=HBox4.out.2 1 _ rfl;have d2:=HBox4.out.2 2 _ rfl;have d3:=HBox4.out.2 3 _ rfl;clear hboxb h9f hrs;gi_wp2_with (gi_at_call 31;refine stop ?_)
       refine(zhq w4 _ q HQ4.out HKq.out (HL.out.below HBw4.out)).mono ?_;rintro e w5 ⟨vr,rfl,hr,hB⟩;have HR:=zHi hr;obtain⟨o5,k5,c5,o6,k6,c6,rfl⟩:=hr.form;obtain⟨sr,hsr⟩:∃sr,decide (q.num<0)=sr:=⟨_,rfl⟩;rw [hsr]at HR;rw [hsr];have HBi5:=zBt HBi4 hB;have H10c:=zHi (H10b.out.below hB (IR.below hB));have H9c:=zHi (HO9n.out.below hB (IQ.below hB));rw [h10f]at H10c;clear hr hB d0 d1 d2 d3 hsr;gi_wp2_with (gi_at_builtin;refine stop ?_)
       unfold Stop;refine zcb (ty:=25) (sz:=3) (bytes:=56) ws w5 rfl _ _ rfl Go.Num.u64 i25' i25z i25s i25b rfl (by decide) (by decide) (.slice o10 j c10) (zbs (s i) j) rfl H10c.out q [.bool sr,.slice o5 k5 c5,.slice o6 k6 c6] _ rfl rfl (by simp [Value.oneCell']) HR.out (fun b r w1 w2 ht=>IR.touch ht rfl b r) (by rw [za5];omega) HBi5.out ?_;intro v10 w6 HO10n HBi6 HT6 _;have hrs:zbs (s i) j ++ [q]=zbs (s i) (j+1):=by rw [zgm,HQQ.out]
       rw [hrs]at HO10n;have H9d:=zHi (H9c.out.touch HT6.out (by decide) (IQ.touch HT6.out rfl));clear hrs h10f;gi_wp2;exact⟨⟨j+1,by go_num,by omega,by omega,by rw [h9n]at H9d;exact H9d,HO10n,HBi6⟩,by simp only [intOf];omega⟩
      ·have hjm2:j=most:=by omega
       have hmin:min mi most=j:=by omega
       have hjx:decide ((j:Int)<(most:Int))=false:=decide_eq_false (by omega);have hj9:j≤100:=by omega
       have HMN:Hid (zbs (s i) (min (m i) most)=zbs (s i) j):=zHi (by rw [HMI.out,hmin]);obtain⟨o9,c9,h9f⟩:=HO9'.out.form;obtain⟨o10,c10,h10f⟩:=HO10'.out.form;obtain⟨o6,c6,h6f⟩:=HO6.out.form;obtain⟨o7,c7,h7f⟩:=HO7.out.form;rw [za5]at h9f h10f;rw [zb1]at h6f h7f;subst h9f;subst h10f;subst h6f;subst h7f;have H6:=zHi (HO6.out.below HBi'.out (zcJ.below HBi'.out));have H7:=zHi (HO7.out.below HBi'.out (zbQ.below HBi'.out));clear hjm2 hmin hjx;gi_wp2_with (first|(exfalso;exact zae (by assumption))|(gi_at_builtin;refine stop ?_))
       unfold Stop;refine zcb (ty:=63) (sz:=1) (bytes:=24) w wr rfl _ _ rfl Go.Num.u54 i63 i63z i63s i63b rfl (by decide) (by decide) (.slice o6 i c6) (zcQ m s most i) rfl H6.out (zbs (s i) j) [.slice o9 j c9] _ rfl rfl (by simp [Value.oneCell']) ⟨_,rfl,HO9'.out.row (by rw [za5];omega)⟩ (fun b r w1 w2 ht=>zcJ.touch ht rfl (by decide) b r) (by rw [zb1];omega) HBw.out ?_;intro v6 w4 HO6n HBw4 HT4 _;have hms:zcQ m s most i ++ [zbs (s i) j]=zcQ m s most (i+1):=by rw [ze4,HMN.out]
       rw [hms]at HO6n;have H7b:=zHi (H7.out.touch HT4.out (by decide) (zbQ.touch HT4.out rfl (by decide)));have H10b:=zHi ((HO10'.out.row (by rw [za5];omega)).touch HT4.out (by decide) (IR.touch HT4.out rfl));clear hms;gi_wp2_with (gi_at_builtin;refine stop ?_)
       unfold Stop;refine zcb (ty:=64) (sz:=1) (bytes:=24) w w4 rfl _ _ rfl Go.Num.u55 i64i i64z i64s i64b rfl (by decide) (by decide) (.slice o7 i c7) (zcQ m s most i) rfl H7b.out (zbs (s i) j) [.slice o10 j c10] _ rfl rfl (by simp [Value.oneCell']) ⟨_,rfl,H10b.out⟩ (fun b r w1 w2 ht=>zbQ.touch ht rfl (by decide) b r) (by rw [zb1];omega) HBw4.out ?_;intro v7 w5 HO7n HBw5 HT5 _;have hms:zcQ m s most i ++ [zbs (s i) j]=zcQ m s most (i+1):=by rw [ze4,HMN.out]
       rw [hms]at HO7n;have H6c:=zHi (HO6n.out.touch HT5.out (by decide) (zcJ.touch HT5.out rfl (by decide)));clear hms;gi_wp2;exact⟨⟨i+1,by go_num,by omega,by omega,H6c,HO7n,HBw5⟩,by simp only [intOf];omega⟩
     ·have hjm2:j=mi:=by omega
      have hmin:min mi most=j:=by omega
      subst hjm2;have HMN:Hid (zbs (s i) (min (m i) most)=zbs (s i) j):=zHi (by rw [HMI.out,hmin]);obtain⟨o9,c9,h9f⟩:=HO9'.out.form;obtain⟨o10,c10,h10f⟩:=HO10'.out.form;obtain⟨o6,c6,h6f⟩:=HO6.out.form;obtain⟨o7,c7,h7f⟩:=HO7.out.form;rw [za5]at h9f h10f;rw [zb1]at h6f h7f;subst h9f;subst h10f;subst h6f;subst h7f;have H6:=zHi (HO6.out.below HBi'.out (zcJ.below HBi'.out));have H7:=zHi (HO7.out.below HBi'.out (zbQ.below HBi'.out));have hj9:j≤100:=by omega
      gi_wp2_with (first|(exfalso;exact zae (by assumption))|(gi_at_builtin;refine stop ?_))
      unfold Stop;refine zcb (ty:=63) (sz:=1) (bytes:=24) w wr rfl _ _ rfl Go.Num.u54 i63 i63z i63s i63b rfl (by decide) (by decide) (.slice o6 i c6) (zcQ m s most i) rfl H6.out (zbs (s i) j) [.slice o9 j c9] _ rfl rfl (by simp [Value.oneCell']) ⟨_,rfl,HO9'.out.row (by rw [za5];omega)⟩ (fun b r w1 w2 ht=>zcJ.touch ht rfl (by decide) b r) (by rw [zb1];omega) HBw.out ?_;intro v6 w4 HO6n HBw4 HT4 _;have hms:zcQ m s most i ++ [zbs (s i) j]=zcQ m s most (i+1):=by rw [ze4,HMN.out]
      rw [hms]at HO6n;have H7b:=zHi (H7.out.touch HT4.out (by decide) (zbQ.touch HT4.out rfl (by decide)));have H10b:=zHi ((HO10'.out.row (by rw [za5];omega)).touch HT4.out (by decide) (IR.touch HT4.out rfl));clear hms;gi_wp2_with (gi_at_builtin;refine stop ?_)
      unfold Stop;refine zcb (ty:=64) (sz:=1) (bytes:=24) w w4 rfl _ _ rfl Go.Num.u55 i64i i64z i64s i64b rfl (by decide) (by decide) (.slice o7 i c7) (zcQ m s most i) rfl H7b.out (zbs (s i) j) [.slice o10 j c10] _ rfl rfl (by simp [Value.oneCell']) ⟨_,rfl,H10b.out⟩ (fun b r w1 w2 ht=>zbQ.touch ht rfl (by decide) b r) (by rw [zb1];omega) HBw4.out ?_;intro v7 w5 HO7n HBw5 HT5 _;have hms:zcQ m s most i ++ [zbs (s i) j]=zcQ m s most (i+1):=by rw [ze4,HMN.out]
      rw [hms]at HO7n;have H6c:=zHi (HO6n.out.touch HT5.out (by decide) (zcJ.touch HT5.out rfl (by decide)));clear hms;gi_wp2;exact⟨⟨i+1,by go_num,by omega,by omega,H6c,HO7n,HBw5⟩,by simp only [intOf];omega⟩
   ·have him2:min n most=i:=by omega
    have HMM:Hid (zcQ m s most (min n most)=zcQ m s most i):=zHi (by rw [him2]);gi_wp2_with (exfalso;exact zae (by assumption))
    all_goals (first|go_returns|go_ret|go_end0)
    exact⟨_,_,rfl,by rw [HMM.out];exact HO6.out.row (by rw [zb1];omega),by rw [HMM.out];exact HO7.out.row (by rw [zb1];omega),HBr.out⟩
  ·have him2:min n most=i:=by omega
   have HMM:Hid (zcQ m s most (min n most)=zcQ m s most i):=zHi (by rw [him2]);gi_wp2_with (exfalso;exact zae (by assumption))
   all_goals (first|go_returns|go_ret|go_end0)
   exact⟨_,_,rfl,by rw [HMM.out];exact HO6.out.row (by rw [zb1];omega),by rw [HMM.out];exact HO7.out.row (by rw [zb1];omega),HBr.out⟩
end Go.Num
namespace Go.Num
open Go.ChangeShapes Go.WideShapes Go.Eng Go.RowKit Go.Proofs Go.Proofs.YtoamcgjbelhnkaaGreatDoor
section
variable {H:Type} {enc:TypeId × Value→H} {w:World} {base:Nat} {spare:Nat→Bool} {held:Bool}
theorem zr5{fuel:Nat}{v:Value}{x:DataW H × List MemPlace}(h:DataW.trod enc Tryz.prog w base spare held fuel 53 [v]=some x):∃(n:Nat) (s:Nat→ByteArray),zmc w v n (fun j => .string (s j))∧∀j,j<n→(s j).size≤9223372036854775807:=by
 rcases open_strings (e:=9) (by kernel_rfl) (by kernel_rfl) (by kernel_rfl) h with⟨hcs,_⟩|⟨a,len,cap,ss,hcs,_,hl,hm,hz,_,hcell,hsz⟩
 ·injection hcs with hv _;exact⟨0,fun _=>ByteArray.empty,⟨none,0,hv,by omega,fun h=>absurd h (by omega)⟩,fun j hj=>absurd hj (by omega)⟩
 ·injection hcs with hv _;have hlen:len≤ss.length:=by rw [hz];split <;> omega
  have hm':cap≤9223372036854775807:=hm;refine⟨len,fun j=>ss.getD j ByteArray.empty,⟨some a,cap,hv,by omega,fun h0=>⟨a,rfl,?_,fun i hi=>hcell i (by omega)⟩⟩,fun j hj => ?_⟩
  ·have:=World.block_lt_of_cell? _ _ (hcell 0 (by omega));rwa [zac]at this
  ·have hmem:ss.getD j ByteArray.empty∈ss:=by
    rw [List.getD_eq_getElem?_getD,List.getElem?_eq_getElem (by omega)];exact List.getElem_mem _
   exact hsz _ hmem
theorem zs6{v:Value}{d:DataW H}{ps:List MemPlace}(hs:∃a len cap,v = .slice a len cap)(h:DataW.Trod enc Tryz.prog w base spare held 52 v d ps):∃(n:Nat) (rv:Nat→Value) (m:Nat→Nat) (s:Nat→Nat→ByteArray),zsV w v n rv m s:=by
 obtain⟨a,len,cap,rfl⟩:=hs;obtain⟨fuel,h⟩:=h;have h:DataW.trod enc Tryz.prog w base spare held fuel 52 [.slice a len cap]=some (d,ps):=h;rcases DataW.trod_slice (e:=53) (by kernel_rfl) h with⟨hcs,_⟩|⟨a,len,cap,elems,rest,n,_,hcs,_,_,hl,hm,hlen,hel,_,_⟩
 ·injection hcs with hv _;exact⟨0,fun _ => .nilFunc,fun _=>0,fun _ _=>ByteArray.empty,⟨none,0,hv,by omega,fun h=>absurd h (by omega)⟩,fun i hi=>absurd hi (by omega),fun i j hi _=>absurd hi (by omega)⟩
 ·injection hcs with hv _;have hm':cap≤9223372036854775807:=hm;have each:∀i,∃t:Value × Nat × (Nat→ByteArray),i<len→w.cell? (a.add i)=some t.1∧zmc w t.1 t.2.1 (fun j => .string (t.2.2 j))∧∀j,j<t.2.1→(t.2.2 j).size≤9223372036854775807:=by
   intro i;by_cases hi:i<len
   ·have he:=hel i hi;rw [show Tryz.prog.cellsOf 53=1 by kernel_rfl,Nat.mul_one,List.getElem?_eq_getElem (by omega),Option.bind_eq_some_iff]at he;obtain⟨cs,hcs,hy⟩:=he;obtain⟨x,rfl⟩:∃x,cs = [x]:=by
     rcases DataW.trod_slice (e:=9) (by kernel_rfl) hy with⟨rfl,_⟩|⟨_,_,_,_,_,_,_,rfl,_⟩
     ·exact⟨_,rfl⟩
     ·exact⟨_,rfl⟩
    obtain⟨k,s,h1,h2⟩:=zr5 hy;exact⟨(x,k,s),fun _=>⟨cell_of_cells?_one hcs,h1,h2⟩⟩
   ·exact⟨(.nilFunc,0,fun _=>ByteArray.empty),fun h=>absurd h hi⟩
  have hall:=fun i=>Classical.choose_spec (each i)
  refine⟨len,fun i=>(Classical.choose (each i)).1,fun i=>(Classical.choose (each i)).2.1,fun i=>(Classical.choose (each i)).2.2,⟨some a,cap,hv,by omega,fun h0=>⟨a,rfl,?_,fun i hi=>(hall i hi).1⟩⟩,fun i hi=>(hall i hi).2.1,fun i j hi hj=>(hall i hi).2.2 j hj⟩;have:=World.block_lt_of_cell? _ _ (hall 0 h0).1;rwa [zac]at this
end
end Go.Num
namespace Go.Num
open Go.Eng Go.Shelf Go.RowKit Go.Sort Go.Proofs Go.Proofs.YtoamcgjbelhnkaaGreatDoor
theorem zad.view{β:Type}{w:World}{ty:Nat}{J:World→Value→β→Prop}{v:Value}{m:List β}(h:zad w ty 1 (fun b r w=>∃v,r = [v]∧J w v b) v m) :
  ∃o c,v = .slice o m.length c∧m.length≤1000000000∧∃rv:Nat→Value,(0<m.length→∃a:Addr,o=some a∧a.block<w.heap.size∧∀i,i<m.length→w.cell? (a.add i)=some (rv i))∧∀i b,m[i]? = some b→J w (rv i) b:=by
 rcases h with⟨rfl,o,c,rfl⟩|⟨a,cap,xs,rfl,h2,h3,h4,h5,h6,h7,h8⟩
 ·exact⟨o,c,rfl,by simp,fun _ => .nilFunc,fun h=>absurd h (by simp),fun i b hb=>by simp at hb⟩
 ·refine⟨some a,cap,rfl,h3.2,fun i=>(xs.getD i []).getD 0 .nilFunc,fun _=>⟨a,rfl,h4.lt,fun i hi => ?_⟩,fun i b hb => ?_⟩
  ·obtain⟨row,hr⟩:∃row,xs[i]? = some row:=⟨_,List.getElem?_eq_getElem (by omega)⟩;have hl:=h6 row (List.mem_of_getElem? hr);obtain⟨x,rfl⟩:∃x,row = [x]:=by
    match row,hl with
    | [x],_=>exact⟨x,rfl⟩
   have:=h7 i _ hr 0 x rfl;rw [Nat.mul_one,Nat.add_zero]at this;rw [this];show some x=some ((xs.getD i []).getD 0 .nilFunc)
   rw [List.getD_eq_getElem?_getD (l:=xs),hr];rfl
  ·have hi:i<m.length:=(List.getElem?_eq_some_iff.1 hb).1;obtain⟨row,hr⟩:∃row,xs[i]? = some row:=⟨_,List.getElem?_eq_getElem (by omega)⟩;obtain⟨x,rfl,hJ⟩:=h8 i row b hr hb;show J w ((xs.getD i []).getD 0 .nilFunc) b
   rw [List.getD_eq_getElem?_getD (l:=xs),hr];exact hJ
theorem zad.form{β:Type}{w:World}{ty sz:Nat}{I:β→List Value→World→Prop}{v:Value}{bs:List β}(h:zad w ty sz I v bs):∃o c,v = .slice o bs.length c∧bs.length≤1000000000:=by
 rcases h with⟨rfl,o,c,rfl⟩|⟨a,cap,xs,rfl,_,h3,_⟩
 ·exact⟨o,c,rfl,by simp⟩
 ·exact⟨_,_,rfl,h3.2⟩
theorem zlH(w:World)(v:Value)(q:Rat)(h:zau w v q)(hq:zan q 100000)(htab:zaY w) :
  CallsIn Fence.wide 0 Tryz.prog 124 #[v] w fun e w'=>e = .returned (.bool (!zbq q 20))∧Below w.heap.size w w':=by
 obtain⟨vn,vd,rfl,hn,hd⟩:=h;have HN:=zHi hn;have HD:=zHi hd;obtain⟨sg,hsg⟩:∃sg,decide (q.num<0)=sg:=⟨_,rfl⟩;obtain⟨o1,k1,c1,rfl,_,_⟩:=zaI hn;obtain⟨o2,k2,c2,rfl,_,_⟩:=zaI hd;rw [hsg];obtain⟨W1,hW1⟩:∃W,W=w.alloc (.cells #[.bool sg,.slice o1 k1 c1,.slice o2 k2 c2] 25):=⟨_,rfl⟩;have HX:Hid (Box3 W1 w.heap.size (.bool sg) (.slice o1 k1 c1) (.slice o2 k2 c2)):=zHi (by rw [hW1];exact zbu _ _ _ _ _);have HBW:Hid (Below w.heap.size w W1):=zHi (by rw [hW1];exact zaa _ _);have HP:=zHi hq;have HTab:=zHi htab;have y0:=HX.out.c0;have y1:=HX.out.c1;have y2:=HX.out.c2;clear hn hd hsg hq htab;refine callsIn_of_wp Tryz.func124 rfl trivial ?_ rfl;simp only [Tryz.ntmps124,ztH,ztI,ztJ,Nat.reduceAdd,Nat.reduceSub,ztK,ztL,ztM,ztN,ztO,ztP];rw [hW1]at y0 y1 y2;gi_wp2_with (gi_at_call 71;refine stop ?_)
 unfold Stop;rw [←hW1]at y0 y1 y2 ⊢;obtain⟨g,hg⟩:∃g,w.heap.size=g:=⟨_,rfl⟩;rw [hg]at HX y0 y1 y2;rw [hg];clear hW1 hg;refine(zbV W1 _ _ (HN.out.below HBW.out) HP.out.1 (HTab.out.below HBW.out)).mono ?_;rintro e w2 ⟨rfl,hB⟩;replace HX:=zHi (HX.out.below hB);replace HBW:=zBt HBW hB;replace y0:=HX.out.c0;replace y1:=HX.out.c1;replace y2:=HX.out.c2;obtain⟨S,hS⟩:∃S:ByteArray,(⟨(Lib.decDigits q.num.natAbs).toArray⟩:ByteArray)=S:=⟨_,rfl⟩;have hsz:S.size=Lib.nDigits q.num.natAbs:=by rw [←hS,zcG,Lib.decDigits_length]
 rw [hS];obtain⟨d,hd⟩:∃d,Lib.nDigits q.num.natAbs=d:=⟨_,rfl⟩;have HDd:=zHi hd;rw [hd]at hsz;clear hB hS hd;by_cases hd20:20<d
 ·have hdd:decide ((d:Int)>20)=true:=decide_eq_true (by omega);have HS:Hid (zbq q 20=false):=zHi (by unfold zbq;rw [HDd.out,decide_eq_false (by omega)];rfl);gi_wp2_with (exfalso;exact zae (by assumption))
  all_goals (first|go_returns|go_ret|go_end0)
  exact⟨by rw [HS.out];rfl,HBW.out⟩
 ·have hdd:decide ((d:Int)>20)=false:=decide_eq_false (by omega);gi_wp2_with (gi_at_call 71;refine stop ?_)
  refine(zbV w2 _ _ (HD.out.below HBW.out) (by split;exact zar 100000;exact HP.out.2) (HTab.out.below HBW.out)).mono ?_;rintro e w3 ⟨rfl,hB⟩;replace HBW:=zBt HBW hB;obtain⟨S2,hS2⟩:∃S:ByteArray,(⟨(Lib.decDigits (if q.den=1 then 0 else q.den)).toArray⟩:ByteArray)=S:=⟨_,rfl⟩;have hsz2:S2.size=Lib.nDigits (if q.den=1 then 0 else q.den):=by rw [←hS2,zcG,Lib.decDigits_length]
  rw [hS2];have hde:Lib.nDigits (if q.den=1 then 0 else q.den)=Lib.nDigits q.den:=by
   split
   ·rename_i h1;rw [h1,Lib.nDigits_small (show 0<10 by decide),Lib.nDigits_small (show 1<10 by decide)]
   ·rfl
  rw [hde]at hsz2;obtain⟨d2,hd2⟩:∃d2,Lib.nDigits q.den=d2:=⟨_,rfl⟩;have HS:Hid ((!zbq q 20)=decide (20<d2)):=zHi (by
   unfold zbq;rw [HDd.out,hd2,decide_eq_true (by omega),Bool.true_and];by_cases h:d2≤20
   ·rw [decide_eq_true h,decide_eq_false (by omega)];rfl
   ·rw [decide_eq_false h,decide_eq_true (by omega)];rfl)
  rw [hd2]at hsz2;clear hB hS2 hde hd2 y0 y1 y2;gi_wp2;all_goals (first|go_returns|go_ret|go_end0)
  refine⟨?_,HBW.out⟩;rw [HS.out];show Ending.returned (Value.bool (decide ((20:Int)<(d2:Int))))=_
  rw [show decide ((20:Int)<(d2:Int))=decide (20<d2)from decide_eq_decide.2 (by omega)]
theorem zbx(a:Addr)(i k:Nat)(hk:0<k):(⟨(a.add i).block,(a.add i).off+k,none⟩:Addr)=a.add (i+k):=by
 unfold Addr.add;split <;> simp_all <;> omega
theorem zad.item{w:World}{a:Addr}{n c:Nat}{qs:List Rat}(h:RowR w (.slice (some a) n c) qs){i:Nat}{q:Rat}(hq:qs[i]? = some q) :
  a.block<w.heap.size∧∃sg o1 k1 c1 o2 k2 c2,w.cell? (a.add (i*3))=some (.bool sg)∧w.cell? ⟨(a.add (i*3)).block,(a.add (i*3)).off+1,none⟩=some (.slice o1 k1 c1)∧w.cell? ⟨(a.add (i*3)).block,(a.add (i*3)).off+2,none⟩=some (.slice o2 k2 c2)∧zau w (.agg #[.bool sg,.slice o1 k1 c1,.slice o2 k2 c2]) q:=by
 rcases h with⟨rfl,_⟩|⟨a',cap,xs,e,h2,h3,h4,h5,h6,h7,h8⟩
 ·simp at hq
 ·injection e with e _ _;injection e with e;subst e;have hi:i<qs.length:=(List.getElem?_eq_some_iff.1 hq).1;obtain⟨row,hr⟩:∃row,xs[i]? = some row:=⟨_,List.getElem?_eq_getElem (by omega)⟩;have hR:zau w (.agg row.toArray) q:=h8 i row q hr hq;obtain⟨o1,k1,c1,o2,k2,c2,hf⟩:=hR.form;have hrow:row = [.bool (decide (q.num<0)),.slice o1 k1 c1,.slice o2 k2 c2]:=by
   injection hf with hf;have:=congrArg Array.toList hf;simpa using this
  subst hrow;exact⟨h4.lt,_,o1,k1,c1,o2,k2,c2,h7 i _ hr 0 _ rfl,by rw [zbx _ _ _ (by decide)];exact h7 i _ hr 1 _ rfl,by rw [zbx _ _ _ (by decide)];exact h7 i _ hr 2 _ rfl,hR⟩
def zbf(q:Rat):Bool:=!zbq q 20
theorem zlJ(w:World)(v:Value)(qs:List Rat)(h:RowR w v qs)(hq:∀q∈qs,zan q 100000)(htab:zaY w) :
  CallsIn Fence.wide 0 Tryz.prog 158 #[v,.func (.func 124) #[] #[]] w fun e w'=>(∃i:Int,e = .returned (.int .i64 i)∧decide (0≤i)=qs.any zbf)∧Below w.heap.size w w':=by
 have HR:=zHi h;have HQ:=zHi hq;have HTab:=zHi htab;obtain⟨o,c,rfl,hn9⟩:=h.form;obtain⟨n,hn⟩:∃n,qs.length=n:=⟨_,rfl⟩;have HN:=zHi hn;rw [hn]at hn9 HR;rw [hn];clear h hq htab hn;refine callsIn_of_wp Tryz.func158 rfl trivial ?_ rfl;simp only [Tryz.ntmps158,ztH,ztI,ztJ,Nat.reduceAdd,Nat.reduceSub,ztK,ztL,ztM,ztN,ztO,ztP];gi_wp2;gi_loopw [8] (fun x8 wr=>∃i:Nat,x8 = .int .i64 (i:Int)∧i≤n∧Hid ((qs.take i).any zbf=false)∧Hid (Below w.heap.size w wr)) (fun x _=>n-(intOf x).toNat)
 case atStart=>exact⟨0,rfl,by omega,zHi (by simp),Below.refl _ w⟩
 case round=>
  obtain⟨i,rfl,hi,HA,HB⟩:=hrel;by_cases hin:i<n
  ·obtain⟨q,hq⟩:∃q,qs[i]? = some q:=⟨_,List.getElem?_eq_getElem (by rw [HN.out];exact hin)⟩;have hR2:RowR wr (.slice o n c) qs:=HR.out.below HB.out (IR.below HB.out);obtain⟨a,rfl⟩:∃a,o=some a:=by
    rcases hR2 with⟨h0,_⟩|⟨a,cap,xs,e,_⟩
    ·rw [h0]at hq;simp at hq
    ·injection e with e _ _;exact⟨a,e⟩
   obtain⟨hal,sg,o1,k1,c1,o2,k2,c2,x0,x1,x2,hra⟩:=hR2.item hq;have HRA:=zHi hra;have HQq:=zHi hq;clear hR2 hra hq;gi_wp2_with (gi_at_call 124;refine stop ?_)
   refine(zlH wr _ q HRA.out (HQ.out q (List.mem_of_getElem? HQq.out)) (HTab.out.below HB.out)).mono ?_;rintro e w2 ⟨rfl,hB⟩;have HB2:=zBt HB hB;have htk:qs.take (i+1)=qs.take i ++ [q]:=by rw [List.take_add_one,HQq.out];rfl
   have HTK:=zHi htk;clear hB htk
   cases hs:zbq q 20 with
   | true=>
    simp only [Bool.not_true];have HA2:Hid ((qs.take (i+1)).any zbf=false):=zHi (by rw [HTK.out,List.any_append,HA.out];show(false || (zbf q || false))=false;unfold zbf;rw [hs];rfl);clear hs;gi_wp2;exact⟨⟨i+1,by go_num,by omega,HA2,HB2⟩,by simp only [intOf];omega⟩
   | false=>
    simp only [Bool.not_false];have HA2:Hid (qs.any zbf=true):=zHi (List.any_eq_true.2 ⟨q,List.mem_of_getElem? HQq.out,by unfold zbf;rw [hs];rfl⟩);clear hs;gi_wp2;all_goals (first|go_returns|go_ret|go_end0)
    exact⟨⟨(i:Int),rfl,by rw [HA2.out];exact decide_eq_true (by omega)⟩,HB2.out⟩
  ·have hin2:i=n:=by omega
   have HA2:Hid (qs.any zbf=false):=zHi (by have:=HA.out;rw [hin2,←HN.out,List.take_length]at this;exact this);gi_wp2;all_goals (first|go_returns|go_ret|go_end0)
   exact⟨⟨-1,rfl,by rw [HA2.out];rfl⟩,HB.out⟩
theorem zh4(w:World)(v:Value)(qs:List Rat)(h:RowR w v qs)(hq:∀q∈qs,zan q 100000)(htab:zaY w) :
  CallsIn Fence.wide 0 Tryz.prog 123 #[v,.func (.func 124) #[] #[]] w fun e w'=>e = .returned (.bool (qs.any zbf))∧Below w.heap.size w w':=by
 have H1:Hid (CallsIn Fence.wide 0 Tryz.prog 158 #[v,.func (.func 124) #[] #[]] w fun e w'=>(∃i:Int,e = .returned (.int .i64 i)∧decide (0≤i)=qs.any zbf)∧Below w.heap.size w w'):=zHi (zlJ w v qs h hq htab);obtain⟨o,c,rfl,_⟩:=h.form;clear h hq htab;refine callsIn_of_wp Tryz.func123 rfl trivial ?_ rfl;simp only [Tryz.ntmps123,ztH,ztI,ztJ,Nat.reduceAdd,Nat.reduceSub,ztK,ztL,ztM,ztN,ztO,ztP];gi_wp2_with (gi_at_call 158;refine stop ?_)
 unfold Stop;refine H1.out.mono ?_;rintro e w2 ⟨⟨i,rfl,hi⟩,hB⟩;have HI:=zHi hi;have HB:=zHi hB;clear hi hB;gi_wp2;all_goals (first|go_returns|go_ret|go_end0)
 refine⟨?_,HB.out⟩;rw [←HI.out];first|rfl|trace_state
theorem zgd(w:World)(v:Value)(qs:List Rat)(h:RowR w v qs)(hq:∀q∈qs,zan q 100000)(htab:zaY w) :
  CallsIn Fence.wide 0 Tryz.prog 86 #[v] w fun e w'=>e = .returned (.bool (qs.any zbf))∧Below w.heap.size w w':=by
 have H1:Hid (CallsIn Fence.wide 0 Tryz.prog 123 #[v,.func (.func 124) #[] #[]] w fun e w'=>e = .returned (.bool (qs.any zbf))∧Below w.heap.size w w'):=zHi (zh4 w v qs h hq htab);obtain⟨o,c,rfl,_⟩:=h.form;clear h hq htab;refine callsIn_of_wp Tryz.func86 rfl trivial ?_ rfl;simp only [Tryz.ntmps86,ztH,ztI,ztJ,Nat.reduceAdd,Nat.reduceSub,ztK,ztL,ztM,ztN,ztO,ztP];gi_wp2_with (gi_at_call 123;refine stop ?_)
 unfold Stop;refine H1.out.mono ?_;rintro e w2 ⟨rfl,hB⟩;have HB:=zHi hB;clear hB;gi_wp2;all_goals (first|go_returns|go_ret|go_end0)
 exact⟨rfl,HB.out⟩
def zbt(r:List Rat):Bool:=r.any zbf
def zcf(k:Nat)(r:List Rat):Bool:=!decide (r.length=k)
theorem zmT(w:World)(v:Value)(m:List (List Rat))(h:MatR w v m)(hq:∀r∈m,∀q∈r,zan q 100000)(htab:zaY w) :
  CallsIn Fence.wide 0 Tryz.prog 133 #[v,(.func (.func 86) #[] #[])] w fun e w'=>(∃i:Int,e = .returned (.int .i64 i)∧decide (0≤i)=m.any zbt)∧Below w.heap.size w w':=by
 have HR:=zHi h;have HQ:=zHi hq;have HTab:=zHi htab;obtain⟨o,c,hv,hn9,rv,hrd,hrow⟩:=zad.view (J:=fun w x r=>RowR w x r) h;subst hv;obtain⟨n,hn⟩:∃n,m.length=n:=⟨_,rfl⟩;have HN:=zHi hn;have HRd:=zHi hrd;have HRow:=zHi hrow;rw [hn]at hn9 HR HRd;rw [hn];clear h hq htab hn hrd hrow;refine callsIn_of_wp Tryz.func133 rfl trivial ?_ rfl;simp only [Tryz.ntmps133,ztH,ztI,ztJ,Nat.reduceAdd,Nat.reduceSub,ztK,ztL,ztM,ztN,ztO,ztP];gi_wp2;gi_loopw [8] (fun x8 wr=>∃i:Nat,x8 = .int .i64 (i:Int)∧i≤n∧Hid ((m.take i).any zbt=false)∧Hid (Below w.heap.size w wr)) (fun x _=>n-(intOf x).toNat)
 case atStart=>exact⟨0,rfl,by omega,zHi (by simp),Below.refl _ w⟩
 case round=>
  obtain⟨i,rfl,hi,HA,HB⟩:=hrel;by_cases hin:i<n
  ·obtain⟨r,hr⟩:∃r,m[i]? = some r:=⟨_,List.getElem?_eq_getElem (by rw [HN.out];exact hin)⟩;obtain⟨a,rfl,ha,hc⟩:=HRd.out (by omega);have hrr:=HRow.out i r hr;obtain⟨oi,ci,hf,_⟩:=hrr.form;have p0:=(HB.out.cell (p:=a.add i) (by rw [zac];exact ha)).trans (hc i hin);rw [hf]at p0 hrr;have HRR:=zHi hrr;have HMr:=zHi hr;clear hc hrr hr hf;gi_wp2_with (gi_at_call 86;refine stop ?_)
   refine(zgd wr _ r (zad.below HRR.out HB.out (IR.below HB.out)) (HQ.out r (List.mem_of_getElem? HMr.out)) (HTab.out.below HB.out)).mono ?_;rintro e w2 ⟨rfl,hB⟩;have HB2:=zBt HB hB;have htk:m.take (i+1)=m.take i ++ [r]:=by rw [List.take_add_one,HMr.out];rfl
   have HTK:=zHi htk;clear hB htk;obtain⟨b,hb⟩:∃b,zbt r=b:=⟨_,rfl⟩;rw [show r.any zbf=b from hb]
   cases b with
   | false=>
    have HA2:Hid ((m.take (i+1)).any zbt=false):=zHi (by rw [HTK.out,List.any_append,HA.out];show(false || (zbt r || false))=false;rw [hb];rfl);clear hb;gi_wp2;exact⟨⟨i+1,by go_num,by omega,HA2,HB2⟩,by simp only [intOf];omega⟩
   | true=>
    have HA2:Hid (m.any zbt=true):=zHi (List.any_eq_true.2 ⟨r,List.mem_of_getElem? HMr.out,hb⟩);clear hb;gi_wp2;all_goals (first|go_returns|go_ret|go_end0)
    exact⟨⟨(i:Int),rfl,by rw [HA2.out];exact decide_eq_true (by omega)⟩,HB2.out⟩
  ·have hin2:i=n:=by omega
   have HA2:Hid (m.any zbt=false):=zHi (by have:=HA.out;rw [hin2,←HN.out,List.take_length]at this;exact this);gi_wp2;all_goals (first|go_returns|go_ret|go_end0)
   exact⟨⟨-1,rfl,by rw [HA2.out];rfl⟩,HB.out⟩
theorem zqe(w:World)(oi:Option Addr)(l ci:Nat)(g:Nat)(a:Addr)(n c:Nat)(o0:Option Addr)(k c0:Nat)(hn:0<n)(hk:k≤1000000000)(hb:w.cell? ⟨g,0,none⟩=some (.slice (some a) n c))(h0:w.cell? a=some (.slice o0 k c0)) :
  CallsIn Fence.wide 0 Tryz.prog 97 #[.slice oi l ci,.pointer (some ⟨g,0,none⟩)] w fun e w'=>e = .returned (.bool (!decide (l=k)))∧Below w.heap.size w w':=by
 refine callsIn_of_wp Tryz.func97 rfl trivial ?_ rfl;simp only [Tryz.ntmps97,ztH,ztI,ztJ,Nat.reduceAdd,Nat.reduceSub,ztK,ztL,ztM,ztN,ztO,ztP];by_cases hlk:l=k
 ·subst hlk;gi_wp2;all_goals (first|go_returns|go_ret|go_end0)
  refine⟨?_,Below.refl _ _⟩;first|rfl|(rw [decide_eq_true rfl];rfl)
 ·have hne:((l:Int) != (k:Int))=true:=by rw [bne_iff_ne];omega
  gi_wp2;all_goals (first|go_returns|go_ret|go_end0)
  refine⟨?_,Below.refl _ _⟩;rw [decide_eq_false hlk];first|rfl|trace_state
theorem zo4(w:World)(v:Value)(m:List (List Rat))(h:MatR w v m)(hq:∀r∈m,∀q∈r,zan q 100000)(htab:zaY w)(g:Nat)(a0:Addr)(n0 cc:Nat)(o0:Option Addr)(k c0:Nat)(hn0:0<n0)(hk:k≤1000000000)(hb0:w.cell? ⟨g,0,none⟩=some (.slice (some a0) n0 cc))(hc0:w.cell? a0=some (.slice o0 k c0)) :
  CallsIn Fence.wide 0 Tryz.prog 133 #[v,(.func (.func 97) #[] #[.pointer (some ⟨g,0,none⟩)])] w fun e w'=>(∃i:Int,e = .returned (.int .i64 i)∧decide (0≤i)=m.any (zcf k))∧Below w.heap.size w w':=by
 have HR:=zHi h;have HQ:=zHi hq;have HTab:=zHi htab;have HB0:=zHi hb0;have HC0:=zHi hc0;obtain⟨o,c,hv,hn9,rv,hrd,hrow⟩:=zad.view (J:=fun w x r=>RowR w x r) h;subst hv;obtain⟨n,hn⟩:∃n,m.length=n:=⟨_,rfl⟩;have HN:=zHi hn;have HRd:=zHi hrd;have HRow:=zHi hrow;rw [hn]at hn9 HR HRd;rw [hn];clear h hq htab hn hrd hrow hb0 hc0;refine callsIn_of_wp Tryz.func133 rfl trivial ?_ rfl;simp only [Tryz.ntmps133,ztH,ztI,ztJ,Nat.reduceAdd,Nat.reduceSub,ztK,ztL,ztM,ztN,ztO,ztP];gi_wp2;gi_loopw [8] (fun x8 wr=>∃i:Nat,x8 = .int .i64 (i:Int)∧i≤n∧Hid ((m.take i).any (zcf k)=false)∧Hid (Below w.heap.size w wr)) (fun x _=>n-(intOf x).toNat)
 case atStart=>exact⟨0,rfl,by omega,zHi (by simp),Below.refl _ w⟩
 case round=>
  obtain⟨i,rfl,hi,HA,HB⟩:=hrel;by_cases hin:i<n
  ·obtain⟨r,hr⟩:∃r,m[i]? = some r:=⟨_,List.getElem?_eq_getElem (by rw [HN.out];exact hin)⟩;obtain⟨a,rfl,ha,hc⟩:=HRd.out (by omega);have hrr:=HRow.out i r hr;obtain⟨oi,ci,hf,_⟩:=hrr.form;have p0:=(HB.out.cell (p:=a.add i) (by rw [zac];exact ha)).trans (hc i hin);rw [hf]at p0 hrr;have HRR:=zHi hrr;have HMr:=zHi hr;clear hc hrr hr hf;gi_wp2_with (gi_at_call 97;refine stop ?_)
   refine(zqe wr oi r.length ci g a0 n0 cc o0 k c0 hn0 hk ((HB.out.cell (World.block_lt_of_cell? _ _ HB0.out)).trans HB0.out) ((HB.out.cell (World.block_lt_of_cell? _ _ HC0.out)).trans HC0.out)).mono ?_;rintro e w2 ⟨rfl,hB⟩;have HB2:=zBt HB hB;have htk:m.take (i+1)=m.take i ++ [r]:=by rw [List.take_add_one,HMr.out];rfl
   have HTK:=zHi htk;clear hB htk;obtain⟨b,hb⟩:∃b,(zcf k) r=b:=⟨_,rfl⟩;rw [show(!decide (r.length=k))=b from hb]
   cases b with
   | false=>
    have HA2:Hid ((m.take (i+1)).any (zcf k)=false):=zHi (by rw [HTK.out,List.any_append,HA.out];show(false || ((zcf k) r || false))=false;rw [hb];rfl);clear hb;gi_wp2;exact⟨⟨i+1,by go_num,by omega,HA2,HB2⟩,by simp only [intOf];omega⟩
   | true=>
    have HA2:Hid (m.any (zcf k)=true):=zHi (List.any_eq_true.2 ⟨r,List.mem_of_getElem? HMr.out,hb⟩);clear hb;gi_wp2;all_goals (first|go_returns|go_ret|go_end0)
    exact⟨⟨(i:Int),rfl,by rw [HA2.out];exact decide_eq_true (by omega)⟩,HB2.out⟩
  ·have hin2:i=n:=by omega
   have HA2:Hid (m.any (zcf k)=false):=zHi (by have:=HA.out;rw [hin2,←HN.out,List.take_length]at this;exact this);gi_wp2;all_goals (first|go_returns|go_ret|go_end0)
   exact⟨⟨-1,rfl,by rw [HA2.out];rfl⟩,HB.out⟩
theorem ziC(w:World)(v:Value)(m:List (List Rat))(h:MatR w v m)(hq:∀r∈m,∀q∈r,zan q 100000)(htab:zaY w) :
  CallsIn Fence.wide 0 Tryz.prog 96 #[v,(.func (.func 86) #[] #[])] w fun e w'=>e = .returned (.bool (m.any zbt))∧Below w.heap.size w w':=by
 have H1:=zHi (zmT w v m h hq htab);obtain⟨o,c,rfl,_⟩:=zad.form h;clear h hq htab;refine callsIn_of_wp Tryz.func96 rfl trivial ?_ rfl;simp only [Tryz.ntmps96,ztH,ztI,ztJ,Nat.reduceAdd,Nat.reduceSub,ztK,ztL,ztM,ztN,ztO,ztP];gi_wp2_with (gi_at_call 133;refine stop ?_)
 unfold Stop;refine H1.out.mono ?_;rintro e w2 ⟨⟨i,rfl,hi⟩,hB⟩;have HI:=zHi hi;have HB:=zHi hB;clear hi hB;gi_wp2;all_goals (first|go_returns|go_ret|go_end0)
 refine⟨?_,HB.out⟩;rw [←HI.out];first|rfl|trace_state
theorem zkv(w:World)(v:Value)(m:List (List Rat))(h:MatR w v m)(hq:∀r∈m,∀q∈r,zan q 100000)(htab:zaY w)(g:Nat)(a0:Addr)(n0 cc:Nat)(o0:Option Addr)(k c0:Nat)(hn0:0<n0)(hk:k≤1000000000)(hb0:w.cell? ⟨g,0,none⟩=some (.slice (some a0) n0 cc))(hc0:w.cell? a0=some (.slice o0 k c0)) :
  CallsIn Fence.wide 0 Tryz.prog 96 #[v,(.func (.func 97) #[] #[.pointer (some ⟨g,0,none⟩)])] w fun e w'=>e = .returned (.bool (m.any (zcf k)))∧Below w.heap.size w w':=by
 have H1:=zHi (zo4 w v m h hq htab g a0 n0 cc o0 k c0 hn0 hk hb0 hc0);obtain⟨o,c,rfl,_⟩:=zad.form h;clear h hq htab hn0 hk hb0 hc0;refine callsIn_of_wp Tryz.func96 rfl trivial ?_ rfl;simp only [Tryz.ntmps96,ztH,ztI,ztJ,Nat.reduceAdd,Nat.reduceSub,ztK,ztL,ztM,ztN,ztO,ztP];gi_wp2_with (gi_at_call 133;refine stop ?_)
 unfold Stop;refine H1.out.mono ?_;rintro e w2 ⟨⟨i,rfl,hi⟩,hB⟩;have HI:=zHi hi;have HB:=zHi hB;clear hi hB;gi_wp2;all_goals (first|go_returns|go_ret|go_end0)
 refine⟨?_,HB.out⟩;rw [←HI.out];first|rfl|trace_state
def zbi(m:List (List Rat)):Int:=
 if 8<m.length then 2 else
 match m with
 | []=>7
 | r :: _=>if 8<r.length then 2 else if r.length=0 then 7 else if m.any (zcf r.length)then 7 else if m.any zbt then 11 else 0
theorem zib(w:World)(v:Value)(m:List (List Rat))(h:MatR w v m)(hq:∀r∈m,∀q∈r,zan q 100000)(htab:zaY w) :
  CallsIn Fence.wide 0 Tryz.prog 49 #[v] w fun e w'=>e = .returned (.int .i64 (zbi m))∧Below w.heap.size w w':=by
 have HR:=zHi h;have HQ:=zHi hq;have HTab:=zHi htab;obtain⟨o,c,rfl,hn9,rv,hrd,hrow⟩:=zad.view (J:=fun w x r=>RowR w x r) h;obtain⟨n,hn⟩:∃n,m.length=n:=⟨_,rfl⟩;have HN:=zHi hn;have HRow:=zHi hrow;rw [hn]at hn9 HR hrd;rw [hn];obtain⟨W1,hW1⟩:∃W,W=w.alloc (.cells #[.slice o n c] 55):=⟨_,rfl⟩;have hbw:Below w.heap.size w W1:=by rw [hW1];exact zaa _ _
 have HBW:=zHi hbw;obtain⟨g,hg⟩:∃g,w.heap.size=g:=⟨_,rfl⟩;have hbox:W1.cell? ⟨g,0,none⟩=some (.slice o n c):=by rw [hW1,←hg];exact(zaU _ [.slice o n c] _).2 0 _ rfl
 have HBox:=zHi hbox;refine callsIn_of_wp Tryz.func49 rfl trivial ?_ rfl;simp only [Tryz.ntmps49,ztH,ztI,ztJ,Nat.reduceAdd,Nat.reduceSub,ztK,ztL,ztM,ztN,ztO,ztP];rcases Nat.lt_or_ge 8 n with h8|h8
 ·have hd:decide ((n:Int)>8)=true:=decide_eq_true (by omega);have HS:Hid (zbi m=2):=zHi (by unfold zbi;rw [if_pos (by omega)]);clear hq h htab hn hrow hrd hbw;rw [hW1,←hg]at hbox;gi_wp2_with (exfalso;exact zae (by assumption))
  all_goals (first|go_returns|go_ret|go_end0)
  refine⟨by rw [HS.out];rfl,?_⟩;rw [←hW1];exact HBW.out
 ·have hd:decide ((n:Int)>8)=false:=decide_eq_false (by omega);match m,h,hq,HR,HQ,HN,HRow,hrow,hn with
  | [],_,_,_,_,HN,_,_,hn=>
   have hn0:n=0:=by rw [←hn];rfl
   subst hn0;clear hq h htab hn hrow hrd hbw;rw [hW1,←hg]at hbox;gi_wp2_with (exfalso;exact zae (by assumption))
   all_goals (first|go_returns|go_ret|go_end0)
   refine⟨rfl,?_⟩;rw [←hW1];exact HBW.out
  | r :: t,_,_,HR,HQ,HN,HRow,hrow,hn=>
   have hn1:0<n:=by rw [←hn];exact Nat.succ_pos _
   obtain⟨a,rfl,ha,hc⟩:=hrd hn1;have hr0:=hrow 0 r rfl;obtain⟨o0,c0,hf,hk9⟩:=zad.form hr0;have p0:=(hbw.cell (p:=a.add 0) (by rw [zac];exact ha)).trans (hc 0 hn1);rw [hf,show a.add 0=a by simp [Addr.add]]at p0;obtain⟨k,hk⟩:∃k,r.length=k:=⟨_,rfl⟩;have HK:=zHi hk;rw [hk]at p0 hk9;have HP0:=zHi p0;have he:decide ((n:Int)=0)=false:=decide_eq_false (by omega);have he2:((n:Int) == 0)=false:=by rw [beq_eq_false_iff_ne];omega
   have hn8:(r :: t).length=n:=hn;have HN8:Hid (¬8<(r :: t).length):=zHi (by rw [hn];omega);clear hq h htab hn hrow hrd hbw hc hr0 hf hk;rw [hW1]at p0;rw [hW1,←hg]at hbox;rcases Nat.lt_or_ge 8 k with hk8|hk8
   ·have hd2:decide ((k:Int)>8)=true:=decide_eq_true (by omega);have HS:Hid (zbi (r :: t)=2):=zHi (by unfold zbi;rw [if_neg HN8.out];show(if 8<r.length then _ else _)=_;rw [if_pos (by rw [HK.out];exact hk8)]);gi_wp2_with (exfalso;exact zae (by assumption))
    all_goals (first|go_returns|go_ret|go_end0)
    refine⟨by rw [HS.out];rfl,?_⟩;rw [←hW1];exact HBW.out
   ·have hd2:decide ((k:Int)>8)=false:=decide_eq_false (by omega);rcases Nat.eq_zero_or_pos k with hk0|hk0
    ·subst hk0;have HS:Hid (zbi (r :: t)=7):=zHi (by unfold zbi;rw [if_neg HN8.out];show(if 8<r.length then _ else _)=_;rw [if_neg (by rw [HK.out];omega),if_pos HK.out]);gi_wp2_with (exfalso;exact zae (by assumption))
     all_goals (first|go_returns|go_ret|go_end0)
     refine⟨by rw [HS.out];rfl,?_⟩;rw [←hW1];exact HBW.out
    ·have he3:((k:Int) == 0)=false:=by rw [beq_eq_false_iff_ne];omega
     have hne8:zbi (r :: t)=(if(r :: t).any (zcf k)then 7 else if(r :: t).any zbt then 11 else 0):=by
      unfold zbi;rw [if_neg HN8.out];show(if 8<r.length then _ else _)=_
      rw [if_neg (by rw [HK.out];omega),if_neg (by rw [HK.out];omega),HK.out]
     have HS:=zHi hne8;have h1:=zkv W1 (.slice (some a) n c) (r :: t) (zad.below HR.out HBW.out (zbQ.below HBW.out)) HQ.out (HTab.out.below HBW.out) g a n c o0 k c0 hn1 hk9 HBox.out HP0.out;have H1:=zHi h1;clear hne8 h1;gi_wp2_with (first|(exfalso;exact zae (by assumption))|(gi_at_call 96;refine stop ?_))
     unfold Stop;rw [←hW1];refine H1.out.mono ?_;rintro e w2 ⟨rfl,hB⟩;have hbox2:w2.cell? ⟨g,0,none⟩=some (.slice (some a) n c):=(hB.cell (World.block_lt_of_cell? _ _ HBox.out)).trans HBox.out;have HBW2:=zBt HBW hB;clear hbox p0 hW1 hB;obtain⟨b,hb⟩:∃b,(r :: t).any (zcf k)=b:=⟨_,rfl⟩;rw [hb]
     cases b with
     | true=>
      have HS2:Hid (zbi (r :: t)=7):=zHi (by rw [HS.out,hb];rfl);gi_wp2_with (exfalso;exact zae (by assumption))
      all_goals (first|go_returns|go_ret|go_end0)
      exact⟨by rw [HS2.out];rfl,HBW2.out⟩
     | false=>
      have HS2:Hid (zbi (r :: t)=(if(r :: t).any zbt then 11 else 0)):=zHi (by rw [HS.out,hb];rfl);have h2:=ziC w2 (.slice (some a) n c) (r :: t) (zad.below HR.out HBW2.out (zbQ.below HBW2.out)) HQ.out (HTab.out.below HBW2.out);have H2:=zHi h2;clear h2 hb;gi_wp2_with (first|(exfalso;exact zae (by assumption))|(gi_at_call 96;refine stop ?_))
      unfold Stop;refine H2.out.mono ?_;rintro e w3 ⟨rfl,hB⟩;have HBW3:=zBt HBW2 hB;clear hB;obtain⟨b,hb⟩:∃b,(r :: t).any zbt=b:=⟨_,rfl⟩;rw [hb]
      cases b with
      | true=>
       have HS3:Hid (zbi (r :: t)=11):=zHi (by rw [HS2.out,hb];rfl);clear hb;gi_wp2_with (exfalso;exact zae (by assumption))
       all_goals (first|go_returns|go_ret|go_end0)
       exact⟨by rw [HS3.out];rfl,HBW3.out⟩
      | false=>
       have HS3:Hid (zbi (r :: t)=0):=zHi (by rw [HS2.out,hb];rfl);clear hb;gi_wp2_with (exfalso;exact zae (by assumption))
       all_goals (first|go_returns|go_ret|go_end0)
       exact⟨by rw [HS3.out];rfl,HBW3.out⟩
theorem zad.itemQ{w:World}{a:Addr}{n c:Nat}{qs:List Rat}(h:RowQ w (.slice (some a) n c) qs){i:Nat}{q:Rat}(hq:qs[i]? = some q) :
  a.block<w.heap.size∧∃sg o1 k1 c1 o2 k2 c2,w.cell? (a.add (i*4))=some (.bool sg)∧w.cell? ⟨(a.add (i*4)).block,(a.add (i*4)).off+1,none⟩=some (.slice o1 k1 c1)∧w.cell? ⟨(a.add (i*4)).block,(a.add (i*4)).off+2,none⟩=some (.bool false)∧w.cell? ⟨(a.add (i*4)).block,(a.add (i*4)).off+3,none⟩=some (.slice o2 k2 c2)∧QAt w (.agg #[.bool sg,.slice o1 k1 c1,.bool false,.slice o2 k2 c2]) q:=by
 rcases h with⟨rfl,_⟩|⟨a',cap,xs,e,h2,h3,h4,h5,h6,h7,h8⟩
 ·simp at hq
 ·injection e with e _ _;injection e with e;subst e;have hi:i<qs.length:=(List.getElem?_eq_some_iff.1 hq).1;obtain⟨row,hr⟩:∃row,xs[i]? = some row:=⟨_,List.getElem?_eq_getElem (by omega)⟩;have hR:QAt w (.agg row.toArray) q:=h8 i row q hr hq;obtain⟨m1,m2,hf,hm1,hm2⟩:=hR;obtain⟨o1,k1,c1,rfl,_,_⟩:=zaC hm1;obtain⟨o2,k2,c2,rfl,_,_⟩:=zaC hm2;have hrow:row = [.bool (decide (q.num<0)),.slice o1 k1 c1,.bool false,.slice o2 k2 c2]:=by
   injection hf with hf;have:=congrArg Array.toList hf;simpa using this
  subst hrow;exact⟨h4.lt,_,o1,k1,c1,o2,k2,c2,h7 i _ hr 0 _ rfl,by rw [zbx _ _ _ (by decide)];exact h7 i _ hr 1 _ rfl,by rw [zbx _ _ _ (by decide)];exact h7 i _ hr 2 _ rfl,by rw [zbx _ _ _ (by decide)];exact h7 i _ hr 3 _ rfl,_,_,rfl,hm1,hm2⟩
theorem zle(w:World)(v:Value)(m:List (List Rat))(h:MatQ w v m) :
  CallsIn Fence.wide 0 Tryz.prog 26 #[v] w fun e w'=>e = .returned (.int .i64 (zbi m))∧Below w.heap.size w w':=by
 obtain⟨o,c,rfl,hn9,rv,hrd,hrow⟩:=zad.view (J:=fun w x r=>RowQ w x r) h;obtain⟨n,hn⟩:∃n,m.length=n:=⟨_,rfl⟩;have HN:=zHi hn;have HRow:=zHi hrow;rw [hn]at hn9 hrd;rw [hn];have HRd:=zHi hrd;clear h;refine callsIn_of_wp Tryz.func26 rfl trivial ?_ rfl;simp only [Tryz.ntmps26,ztH,ztI,ztJ,Nat.reduceAdd,Nat.reduceSub,ztK,ztL,ztM,ztN,ztO,ztP];rcases Nat.lt_or_ge 8 n with h8|h8
 ·have hd:decide ((n:Int)>8)=true:=decide_eq_true (by omega);have HS:Hid (zbi m=2):=zHi (by unfold zbi;rw [if_pos (by omega)]);clear hn hrow hrd;gi_wp2_with (exfalso;exact zae (by assumption))
  all_goals (first|go_returns|go_ret|go_end0)
  exact⟨by rw [HS.out];rfl,Below.refl _ _⟩
 ·have hd:decide ((n:Int)>8)=false:=decide_eq_false (by omega);match m,HN,HRow,hrow,hn with
  | [],HN,_,_,hn=>
   have hn0:n=0:=by rw [←hn];rfl
   subst hn0;clear hn hrow hrd;gi_wp2_with (exfalso;exact zae (by assumption))
   all_goals (first|go_returns|go_ret|go_end0)
   exact⟨rfl,Below.refl _ _⟩
  | r :: t,HN,HRow,hrow,hn=>
   have hn1:0<n:=by rw [←hn];exact Nat.succ_pos _
   obtain⟨a,rfl,ha,hc⟩:=hrd hn1;have hr0:=hrow 0 r rfl;obtain⟨o0,c0,hf,hk9⟩:=zad.form hr0;have p0:=hc 0 hn1;rw [hf,show a.add 0=a by simp [Addr.add]]at p0;obtain⟨k,hk⟩:∃k,r.length=k:=⟨_,rfl⟩;have HK:=zHi hk;rw [hk]at p0 hk9;have HP0:=zHi p0;have HA:=zHi ha;have HC:=zHi hc;have he:decide ((n:Int)=0)=false:=decide_eq_false (by omega);have he2:((n:Int) == 0)=false:=by rw [beq_eq_false_iff_ne];omega
   have HN8:Hid (¬8<(r :: t).length):=zHi (by rw [hn];omega);clear hn hrow hrd hc hr0 hf hk ha;rcases Nat.lt_or_ge 8 k with hk8|hk8
   ·have hd2:decide ((k:Int)>8)=true:=decide_eq_true (by omega);have HS:Hid (zbi (r :: t)=2):=zHi (by unfold zbi;rw [if_neg HN8.out];show(if 8<r.length then _ else _)=_;rw [if_pos (by rw [HK.out];exact hk8)]);gi_wp2_with (exfalso;exact zae (by assumption))
    all_goals (first|go_returns|go_ret|go_end0)
    exact⟨by rw [HS.out];rfl,Below.refl _ _⟩
   ·have hd2:decide ((k:Int)>8)=false:=decide_eq_false (by omega);rcases Nat.eq_zero_or_pos k with hk0|hk0
    ·subst hk0;have HS:Hid (zbi (r :: t)=7):=zHi (by unfold zbi;rw [if_neg HN8.out];show(if 8<r.length then _ else _)=_;rw [if_neg (by rw [HK.out];omega),if_pos HK.out]);gi_wp2_with (exfalso;exact zae (by assumption))
     all_goals (first|go_returns|go_ret|go_end0)
     exact⟨by rw [HS.out];rfl,Below.refl _ _⟩
    ·have he3:((k:Int) == 0)=false:=by rw [beq_eq_false_iff_ne];omega
     have hne8:zbi (r :: t)=(if(r :: t).any (zcf k)then 7 else if(r :: t).any zbt then 11 else 0):=by
      unfold zbi;rw [if_neg HN8.out];show(if 8<r.length then _ else _)=_
      rw [if_neg (by rw [HK.out];omega),if_neg (by rw [HK.out];omega),HK.out]
     have HS:=zHi hne8;clear hne8;obtain⟨m',hm'⟩:∃m',r :: t=m':=⟨_,rfl⟩;rw [hm']at HS HRow HN;rw [hm'];clear hm';gi_wp2_with (exfalso;exact zae (by assumption))
     clear p0;gi_loopw [3] (fun x3 wr=>∃i:Nat,x3 = .int .i64 (i:Int)∧i≤n∧Hid ((m'.take i).any (zcf k)=false)∧Hid (Below w.heap.size w wr)) (fun x _=>n-(intOf x).toNat)
     case atStart=>exact⟨0,rfl,by omega,zHi (by simp),Below.refl _ w⟩
     case round=>
      obtain⟨i,rfl,hi,HA1,HB⟩:=hrel;by_cases hin:i<n
      ·obtain⟨ri,hri⟩:∃r,m'[i]? = some r:=⟨_,List.getElem?_eq_getElem (by rw [HN.out];exact hin)⟩;have hrr:=HRow.out i ri hri;obtain⟨oi,ci,hf,hli9⟩:=hrr.form;have p0:=(HB.out.cell (p:=a) HA.out).trans HP0.out;have p1:=(HB.out.cell (p:=a.add i) (by rw [zac];exact HA.out)).trans (HC.out i hin);rw [hf]at p1;have htk:m'.take (i+1)=m'.take i ++ [ri]:=by rw [List.take_add_one,hri];rfl
       have HTK:=zHi htk;have HMr:=zHi hri;obtain⟨li,hli⟩:∃li,ri.length=li:=⟨_,rfl⟩;have HLi:=zHi hli;rw [hli]at p1 hli9;clear hrr hri hf htk hli;by_cases hlk:li=k
       ·subst hlk;have HA2:Hid ((m'.take (i+1)).any (zcf li)=false):=zHi (by rw [HTK.out,List.any_append,HA1.out];show(false || (zcf li ri || false))=false;unfold zcf;rw [HLi.out,decide_eq_true rfl];rfl);gi_wp2_with (gi_region)
        have HB2:Hid (Below w.heap.size w wr.drew):=zHi (HB.out.trans ((zab wr).mono HB.out.size));exact⟨⟨i+1,by go_num,by omega,HA2,HB2⟩,by simp only [intOf];omega⟩
       ·have HA2:Hid (m'.any (zcf k)=true):=zHi (List.any_eq_true.2 ⟨ri,List.mem_of_getElem? HMr.out,by unfold zcf;rw [HLi.out,decide_eq_false hlk];rfl⟩);have hne:((li:Int) != (k:Int))=true:=by rw [bne_iff_ne];omega
        gi_wp2_with (gi_region)
        all_goals (first|go_returns|go_ret|go_end0)
        exact⟨by rw [HS.out,HA2.out];rfl,HB.out.trans ((zab wr).mono HB.out.size)⟩
      ·have hin2:i=n:=by omega
       have HA2:Hid (m'.any (zcf k)=false):=zHi (by have:=HA1.out;rw [hin2,←HN.out,List.take_length]at this;exact this);have HS2:Hid (zbi m'=if m'.any zbt then 11 else 0):=zHi (by rw [HS.out,HA2.out];rfl);obtain⟨ws,hws⟩:∃ws,wr=ws:=⟨_,rfl⟩;rw [hws]at HB;rw [hws];clear HA1 hws;gi_wp2;clear hi hin hin2;gi_loopw [4] (fun x4 wt=>∃i:Nat,x4 = .int .i64 (i:Int)∧i≤n∧Hid ((m'.take i).any zbt=false)∧Hid (Below w.heap.size w wt)) (fun x _=>n-(intOf x).toNat)
       case atStart=>exact⟨0,rfl,by omega,zHi (by simp),HB.out⟩
       case round=>
        clear HB;obtain⟨i,rfl,hi,HA1,HB⟩:=hrel;by_cases hin:i<n
        ·obtain⟨ri,hri⟩:∃r,m'[i]? = some r:=⟨_,List.getElem?_eq_getElem (by rw [HN.out];exact hin)⟩;have hrr:=HRow.out i ri hri;obtain⟨oi,ci,hf,hli9⟩:=hrr.form;rw [hf]at hrr;have HRR:=zHi hrr;have HP1:Hid (∀w',Below w.heap.size w w'→w'.cell? (a.add i)=some (.slice oi ri.length ci)):=zHi (fun w' hb=>by rw [←hf];exact(hb.cell (p:=a.add i) (by rw [zac];exact HA.out)).trans (HC.out i hin));have htk:m'.take (i+1)=m'.take i ++ [ri]:=by rw [List.take_add_one,hri];rfl
         have HTK:=zHi htk;have HMr:=zHi hri;obtain⟨li,hli⟩:∃li,ri.length=li:=⟨_,rfl⟩;have HLi:=zHi hli;rw [hli]at hli9 HP1 HRR;clear hrr hri hf htk hli;gi_wp2;gi_loopw [5] (fun x5 wt=>∃j:Nat,x5 = .int .i64 (j:Int)∧j≤li∧Hid ((ri.take j).any zbf=false)∧Hid (Below w.heap.size w wt)) (fun x _=>li-(intOf x).toNat)
         case atStart=>exact⟨0,rfl,by omega,zHi (by simp),HB.out⟩
         case round=>
          clear HB;obtain⟨j,rfl,hj,HA3,HB⟩:=hrel;have p1:=HP1.out _ HB.out;by_cases hjl:j<li
          ·obtain⟨q,hq⟩:∃q,ri[j]? = some q:=⟨_,List.getElem?_eq_getElem (by rw [HLi.out];exact hjl)⟩;obtain⟨ai,rfl⟩:∃a,oi=some a:=by
            rcases HRR.out with⟨h0,_⟩|⟨a,cap,xs,e,_⟩
            ·rw [h0]at hq;simp at hq
            ·injection e with e _ _;exact⟨a,e⟩
           have hR2:=zad.below HRR.out HB.out (IQ.below HB.out);obtain⟨hal,sg,o1,k1,c1,o2,k2,c2,x0,x1,x2,x3,hra⟩:=zad.itemQ hR2 hq;have HRA:=zHi hra;have hjk:ri.take (j+1)=ri.take j ++ [q]:=by rw [List.take_add_one,hq];rfl
           have HJK:=zHi hjk;have HQq:=zHi hq;clear hR2 hra hq hjk;gi_wp2_with (gi_at_call 33;refine stop ?_)
           refine(zdu _ _ q 20 HRA.out).mono ?_;rintro e w2 ⟨rfl,hB⟩;have HB2:=zBt HB hB;clear hB
           cases hs:zbq q 20 with
           | true=>
            have HA4:Hid ((ri.take (j+1)).any zbf=false):=zHi (by rw [HJK.out,List.any_append,HA3.out];show(false || (zbf q || false))=false;unfold zbf;rw [hs];rfl);clear hs;gi_wp2;exact⟨⟨j+1,by go_num,by omega,HA4,HB2⟩,by simp only [intOf];omega⟩
           | false=>
            have HA4:Hid (m'.any zbt=true):=zHi (List.any_eq_true.2 ⟨ri,List.mem_of_getElem? HMr.out,List.any_eq_true.2 ⟨q,List.mem_of_getElem? HQq.out,by unfold zbf;rw [hs];rfl⟩⟩);clear hs;gi_wp2;all_goals (first|go_returns|go_ret|go_end0)
            exact⟨by rw [HS2.out,HA4.out];rfl,HB2.out⟩
          ·have hjn:j=li:=by omega
           have HA4:Hid (ri.any zbf=false):=zHi (by have:=HA3.out;rw [hjn,←HLi.out,List.take_length]at this;exact this);have HA5:Hid ((m'.take (i+1)).any zbt=false):=zHi (by rw [HTK.out,List.any_append,HA1.out];show(false || (ri.any zbf || false))=false;rw [HA4.out];rfl);gi_wp2;exact⟨⟨i+1,by go_num,by omega,HA5,HB⟩,by simp only [intOf];omega⟩
        ·have hin2:i=n:=by omega
         have HA2:Hid (m'.any zbt=false):=zHi (by have:=HA1.out;rw [hin2,←HN.out,List.take_length]at this;exact this);gi_wp2;all_goals (first|go_returns|go_ret|go_end0)
         exact⟨by rw [HS2.out,HA2.out];rfl,HB.out⟩
end Go.Num
namespace Go.Eng
open Go.RowKit
section
variable {P:Program}
theorem zs9{F:Fence}{n:Nat}{x y:Code}{Q:Exit→CAct→World→Prop}{a:CAct}{w:World}{A:CAct}{W:World}(hx:x.wpIn F n P (fun e a' w'=>e = .normal∧a'=A∧w'=W) a w)(hy:y.wpIn F n P Q A W):(x.seq y).wpIn F n P Q a w:=by
 refine wpIn_seq (wpIn_mono hx ?_);rintro e a' w' ⟨rfl,rfl,rfl⟩;exact hy
end
end Go.Eng
namespace Go.Num
open Go.Eng Go.Shelf Go.RowKit Go.Sort Go.Proofs Go.Proofs.YtoamcgjbelhnkaaGreatDoor
section
variable {w:World} {o:Option Addr} {n k:Nat} {m:List (List Rat)} {c:Int}
end
theorem zkc(w:World)(v:Value)(l:List Rat)(h:RowR w v l)(h9:l.length≤1000) :
  CallsIn Fence.wide 0 Tryz.prog 135 #[v] w fun e w'=>∃v',e = .returned v'∧OwnR w' w.heap.size 25 3 IR v' (l.map fun q => -q)∧Below w.heap.size w w':=by
 have HR:=zHi h;obtain⟨o,c,rfl,_⟩:=zad.form h;obtain⟨n,hn⟩:∃n,l.length=n:=⟨_,rfl⟩;have HN:=zHi hn;rw [hn]at HR h9;rw [hn];clear h hn;refine callsIn_of_wp Tryz.func135 rfl trivial ?_ rfl;simp only [Tryz.ntmps135,ztH,ztI,ztJ,Nat.reduceAdd,Nat.reduceSub,ztK,ztL,ztM,ztN,ztO,ztP];gi_wp2;gi_loopw [3,8] (fun x3 x8 wr=>∃i:Nat,x8 = .int .i64 (i:Int)∧i≤n∧Hid (OwnR wr w.heap.size 25 3 IR x3 ((l.take i).map fun q => -q))∧Hid (Below w.heap.size w wr)) (fun _ x _=>n-(intOf x).toNat)
 case atStart=>exact⟨0,rfl,by omega,OwnR.nil _ _ _ _ _,Below.refl _ w⟩
 case round=>
  obtain⟨i,rfl,hi,HO,HB⟩:=hrel;by_cases hin:i<n
  ·obtain⟨q,hq⟩:∃q,l[i]? = some q:=⟨_,List.getElem?_eq_getElem (by rw [HN.out];exact hin)⟩;have hR2:RowR wr (.slice o n c) l:=zad.below HR.out HB.out (IR.below HB.out);obtain⟨a,rfl⟩:∃a,o=some a:=by
    rcases hR2 with⟨h0,_⟩|⟨a,cap,xs,e,_⟩
    ·rw [h0]at hq;simp at hq
    ·injection e with e _ _;exact⟨a,e⟩
   obtain⟨hal,sg,o1,k1,c1,o2,k2,c2,x0,x1,x2,hra⟩:=zad.item hR2 hq;have HRA:=zHi hra;have HQq:=zHi hq;clear hR2 hra hq;gi_wp2_with (gi_at_call 46;refine stop ?_)
   unfold Stop;obtain⟨W1,hW1⟩:∃W,wr.alloc (.cells #[.bool sg,.slice o1 k1 c1,.slice o2 k2 c2] 25)=W:=⟨_,rfl⟩;have hb1:Below wr.heap.size wr W1:=by rw [←hW1];exact zaa _ _
   rw [hW1];refine(zhD W1 _ q (zau.below HRA.out hb1)).mono ?_;rintro e w2 ⟨vr,rfl,hr,hB⟩;have hb2:Below wr.heap.size wr w2:=hb1.trans (hB.mono hb1.size);have HR2:=zHi hr;obtain⟨o5,k5,c5,o6,k6,c6,rfl⟩:=hr.form;obtain⟨sr,hsr⟩:∃sr,decide ((-q).num<0)=sr:=⟨_,rfl⟩;rw [hsr]at HR2;rw [hsr];have HB2:=zBt HB hb2;have HO2:=zHi (HO.out.below hb2 (IR.below hb2));obtain⟨oo,cc,hof⟩:=HO2.out.form;have hlen:((l.take i).map fun q => -q).length=i:=by rw [List.length_map,List.length_take,HN.out];omega
   have HLen:=zHi hlen;rw [hlen]at hof;have htk:((l.take (i+1)).map fun q => -q)=((l.take i).map fun q => -q) ++ [-q]:=by rw [List.take_add_one,HQq.out,List.map_append];rfl
   have HTK:=zHi htk;subst hof;clear hr hB hsr hb1 hb2 hW1 hlen htk x0 x1 x2 hal;gi_wp2_with (gi_at_builtin;refine stop ?_)
   unfold Stop;refine zcb (ty:=25) (sz:=3) (bytes:=56) w w2 rfl _ _ rfl Go.Num.u64 i25' i25z i25s i25b rfl (by decide) (by decide) (.slice oo i cc) ((l.take i).map fun q => -q) rfl HO2.out (-q) [.bool sr,.slice o5 k5 c5,.slice o6 k6 c6] _ rfl rfl (by simp [Value.oneCell']) HR2.out (fun b r w1 w2 ht=>IR.touch ht rfl b r) (by rw [HLen.out];omega) HB2.out ?_;intro v3 w4 HO3 HB4 _ _;rw [←HTK.out]at HO3;gi_wp2;exact⟨⟨i+1,by go_num,by omega,HO3,HB4⟩,by simp only [intOf];omega⟩
  ·have hin2:i=n:=by omega
   have HE:Hid (((l.take i).map fun q => -q)=l.map fun q => -q):=zHi (by rw [hin2,←HN.out,List.take_length]);gi_wp2;all_goals (first|go_returns|go_ret|go_end0)
   exact⟨_,rfl,by rw [←HE.out];exact HO.out,HB.out⟩
end Go.Num
namespace Go.Eng
open Go.RowKit Go.Num Go.Proofs Go.Proofs.YtoamcgjbelhnkaaGreatDoor
section
variable {P:Program} {ops:Array Oper} {bs bars r:List Nat} {i:Nat} {a:CAct} {w:World} {Q:CAct→World→Prop} {o:Oper}
end
theorem ztv(w:World)(a b c:Value):(Instr.buildSlice 64 1 #[(0,.agg #[a,b,c])]).run Tryz.prog w = .ok (.slice (some ⟨w.heap.size,0,none⟩) 1 1) (w.alloc (.cells #[a,b,c] 25)):=by
 simp [Instr.buildSlice,Go.Num.u64,underlying,sizeOf,typeInfo,i25',i25s,i25z,Sem.run_bind,Sem.run_pure,Result.andThen,go_sem,zeroValue,Value.cells]
section
variable {ops:Array Oper} {bs bars r:List Nat} {i:Nat} {a:CAct} {w:World} {Q:CAct→World→Prop} {o:Oper}
end
end Go.Eng
namespace Go.Num
open Go.Eng Go.Shelf Go.RowKit Go.Sort Go.Proofs Go.Proofs.YtoamcgjbelhnkaaGreatDoor
theorem zqc{β:Type}(w wr:World){ty sz t tx bytes:Nat}{inf:TypeInfo}{z:Value}{I:β→List Value→World→Prop}
  (e1:Tryz.prog.underlying t=some (.slice ty)) (e2:Tryz.prog.info? ty=some inf) (e3:inf.zero=some z) (e4:inf.size=sz) (e5:inf.bytes=bytes) (e6:z.cells.size=sz) (e7:0<sz) (e8:bytes≤100)
  (v:Value) (bs:List β) (HO:OwnR wr w.heap.size ty sz I v bs) (b:β) (row:List Value) (tt:TypeId) (hrow:row.length=sz) (h1c:∀u∈row,u.oneCell'=true) (hIb:I b row wr) (hI:∀b r w1 w2,Touch ty w1 w2→I b r w1→I b r w2) (hn:bs.length<500000000)
  (HB:Below w.heap.size w wr) :
  ∃v' w',(Builtin.append_ #[t,t] tx #[v,.slice (some ⟨wr.heap.size,0,none⟩) 1 1]).run Tryz.prog (wr.alloc (.cells row.toArray tt)) = .ok v' w' ∧
   OwnR w' w.heap.size ty sz I v' (bs ++ [b])∧Below w.heap.size w w'∧Touch ty wr w'∧∀k,k<wr.heap.size→some k≠v.ownBlock→w'.heap[k]? = wr.heap[k]?:=by
 have hsz:=HB.size;obtain⟨xs,h1,h2,h3,h4⟩:=HO;obtain⟨v',w',hrun,g1,g2,_⟩:=run_append_own (P:=Tryz.prog) (wr.alloc (.cells row.toArray tt)) w.heap.size t tx ty inf z sz bytes e1 e2 e3 e4 e5 e6 e7 v bs.length xs.flatten (World.ownsRow.alloc h1 _) ⟨wr.heap.size,0,none⟩ 1 1 row (by rw [hrow];omega) (fun j u hu=>by rw [Addr.add_lit,Nat.zero_add,World.cell?_alloc_new];simpa using hu) h1c (by unfold maxLen;omega) (by
  have:(bs.length+1)*bytes≤500000000*100:=Nat.mul_le_mul (by omega) e8;omega) (by simp;omega)
 have hT:Touch ty wr w':=by
  refine⟨Nat.le_trans (by simp) g2.size,fun k cs e fz hk hne => ?_⟩;have hlt:k<wr.heap.size:=(Array.getElem?_eq_some_iff.1 hk).1;have hal:(wr.alloc (.cells row.toArray tt)).heap[k]? = wr.heap[k]?:=(zaa wr _).block k hlt;rw [g2.block k (by simp;omega) (fun hk' => ?_),hal]
  ·exact hk
  ·rcases h1.2 with⟨rfl,_⟩|⟨g,cap,cur,rfl,q1,q2,_⟩
   ·cases hk'
   ·have:k=g:=by simpa [Value.ownBlock]using hk'
    subst this;rw [q2]at hk;injection hk with hk;injection hk with _ hk _;exact hne hk.symm
 refine⟨v',w',hrun,⟨xs ++ [row],?_,by simp [h2],fun r hr => ?_,fun i r b' hr hb' => ?_⟩,?_,hT,?_⟩
 ·rw [List.flatten_append,List.length_append];simpa using g1
 ·rcases List.mem_append.1 hr with h|h
  ·exact h3 r h
  ·rw [List.mem_singleton.1 h,hrow]
 ·rcases Nat.lt_or_ge i bs.length with hi|hi
  ·rw [List.getElem?_append_left (by omega)]at hr hb';exact hI _ _ _ _ hT (h4 i r b' hr hb')
  ·rw [List.getElem?_append_right (by omega)]at hr hb';rw [h2]at hr;rcases Nat.eq_zero_or_pos (i-bs.length)with h0|h0
   ·rw [h0]at hr hb';have hr:row=r:=by simpa using hr
    have hb':b=b':=by simpa using hb'
    rw [←hr,←hb'];exact hI _ _ _ _ hT hIb
   ·rw [List.getElem?_eq_none (by simp;omega)]at hr
    cases hr
 ·exact(HB.alloc hsz _).grown g2 (by simp;omega) fun k hk=>zbU h1 hk
 ·intro k hk hne;rw [g2.block k (by simp;omega) hne,(zaa wr _).block k hk]
end Go.Num
namespace Go.Eng
open Go.RowKit Go.Num Go.Proofs Go.Proofs.YtoamcgjbelhnkaaGreatDoor
def zbo(a:CAct):List (Tmp × Value)→CAct
 | []=>a
 | (t,v) :: r=>(zbo a r).put (some t) v
def zrx(a:CAct):List (Tmp × Value)→Tmp→Value
 | [],t=>a.tmps.getD t undef
 | (s,v) :: r,t=>bif Nat.beq s t then v else zrx a r t
def look(a:CAct)(ov:List (Tmp × Value)):Operand→Value
 | .tmp t=>zrx a ov t
 | .const v=>v
 | .global g => .pointer (some ⟨g,0,none⟩)
 | .func f => .func (.func f) #[] #[]
def zji(nt:Nat)(ov:List (Tmp × Value)):Prop:=∀p∈ov,p.1<nt
theorem zhv(a:CAct):∀ov,(zbo a ov).tmps.size=a.tmps.size
 | []=>rfl
 | (t,v) :: r=>by rw [zbo,zg2];exact zhv a r
theorem zi3(a:CAct):∀ov,zji a.tmps.size ov→∀t,(zbo a ov).tmps.getD t undef=zrx a ov t
 | [],_,t=>rfl
 | (s,v) :: r,h,t=>by
  have ih:=zi3 a r (fun p hp=>h p (by simp [hp])) t;show((zbo a r).put (some s) v).tmps.getD t undef=bif Nat.beq s t then v else zrx a r t
  cases e:Nat.beq s t with
  | true=>
   have:=Nat.eq_of_beq_eq_true e;subst this;exact zg3 (by rw [zhv];exact h (s,v) (by simp))
  | false=>
   rw [zdi (by intro q;cases q;rw [Nat.beq_refl]at e;cases e)];exact ih
theorem zdj(a:CAct)(ov:List (Tmp × Value))(h:zji a.tmps.size ov):(zbo a ov).eval=look a ov:=by
 funext x
 cases x with
 | tmp t=>exact zi3 a ov h t
 | _=>rfl
def OV(K:World→Prop)(ks:List Nat)(P:Program)(nt:Nat)(ops:Array Oper)(bs bars:List Nat)(Q:CAct→World→Prop)(r:List Nat)(a:CAct)(ov:List (Tmp × Value))(w:World):Prop:=
 a.tmps.size=nt→zji nt ov→OWK K ks P none ops bs bars Q r (zbo a ov) w
section
variable {K:World→Prop} {ks:List Nat} {P:Program} {nt:Nat} {ops:Array Oper} {bs bars r:List Nat} {i:Nat} {a:CAct} {ov:List (Tmp × Value)} {w:World} {Q:CAct→World→Prop} {o:Oper}
theorem zji.cons{d:Tmp}{v:Value}(h:zji nt ov)(hd:Nat.blt d nt=true):zji nt ((d,v) :: ov):=by
 intro p hp;rcases List.mem_cons.1 hp with rfl|hp
 ·exact(zca _ _).1 hd
 ·exact h p hp
theorem OV.read{d:Tmp}(v:Value)(ho:ops[i]? = some o)(hdst:o.dst=some d)(hb:bars.contains i=false)(hd:Nat.blt d nt=true)
  (hrun:∀w',(Below w.heap.size w w'∨(ks.contains i=true∧K w'))→(execOp (look a ov) o).run P w' = .ok (.value v) w') (h:OV K ks P nt ops bs bars Q r a ((d,v) :: ov) w):OV K ks P nt ops bs bars Q (i :: r) a ov w:=by
 intro hn hk;refine⟨o,ho,.inr ⟨hb,v,fun w' hw' => ?_,?_⟩⟩
 ·rw [zdj a ov (by rw [hn];exact hk)];exact hrun w' hw'
 ·rw [hdst];exact h hn (hk.cons hd)
theorem OV.mv{x:Operand}{v:Value}{d:Tmp}{ty:TypeId}{ps:String}{af:Array Edge}(ho:ops[i]? = some {op:=.move x,dst:=some d,type:=ty,pos:=ps,after:=af,guard:=none})(hb:bars.contains i=false)(hd:Nat.blt d nt=true)
  (hx:look a ov x=v) (h:OV K ks P nt ops bs bars Q r a ((d,v) :: ov) w):OV K ks P nt ops bs bars Q (i :: r) a ov w:=
 OV.read v ho rfl hb hd (fun w' _=>by subst hx;rfl) h
theorem OV.asg{x:Operand}{v:Value}{d:Tmp}{ty:TypeId}{ps:String}{af:Array Edge}(ho:ops[i]? = some {op:=.assign x,dst:=some d,type:=ty,pos:=ps,after:=af,guard:=none})(hb:bars.contains i=false)(hd:Nat.blt d nt=true)
  (hx:look a ov x=v) (h:OV K ks P nt ops bs bars Q r a ((d,v) :: ov) w):OV K ks P nt ops bs bars Q (i :: r) a ov w:=
 OV.read v ho rfl hb hd (fun w' _=>by subst hx;rfl) h
def zff(P:Program)(t:TypeId)(sz:Nat):Prop:=∀(p:Addr) (len cap k:Nat) (w:World),k<len→(Instr.indexAt t (.slice (some p) len cap) (.int .i64 (k:Int))).run P w = .ok (.pointer (some (p.add (k*sz)))) w
theorem zcR{t e:TypeId}{inf:TypeInfo}{sz:Nat}(hu:P.underlying t=some (.slice e))(hi:P.info? e=some inf)(hs:inf.size=sz):zff P t sz:=by
 intro p len cap k w hk;have hk':(k:Int)<(len:Int):=by omega
 subst hs;simp [Instr.indexAt,asIntOf,hu,hk',hk,underlying,sizeOf,typeInfo,hi,Sem.run_bind,Sem.run_pure,Result.andThen,go_sem]
theorem OV.idx{t:TypeId}{x y:Operand}{p:Addr}{len cap k sz:Nat}{d:Tmp}{ty:TypeId}{ps:String}{af:Array Edge}(hI:zff P t sz)(hk:k<len)(ho:ops[i]? = some {op:=.indexAddr t x y,dst:=some d,type:=ty,pos:=ps,after:=af,guard:=none})(hb:bars.contains i=false)(hd:Nat.blt d nt=true)
  (hx:look a ov x = .slice (some p) len cap) (hy:look a ov y = .int .i64 (k:Int)) (h:OV K ks P nt ops bs bars Q r a ((d,.pointer (some (p.add (k*sz)))) :: ov) w):OV K ks P nt ops bs bars Q (i :: r) a ov w:=
 OV.read _ ho rfl hb hd (fun w' _=>by simp [execOp,hx,hy,hI p len cap k w' hk]) h
def zek(P:Program)(s:TypeId)(f off:Nat):Prop:=∀(p:Addr) w,(Instr.fieldAt s (.pointer (some p)) f).run P w = .ok (.pointer (some (p.add off))) w
theorem zcE{s:TypeId}{f off:Nat}(h:(match P.underlying s with|some (.struct fs)=>(match fs[f]? with|some fd=>Nat.beq fd.offset off && (match P.info? fd.type with|some i => !Nat.beq i.size 0|none=>false)|none=>false)|_=>false)=true):zek P s f off:=by
 intro p w;split at h
 ·rename_i fs h1;split at h
  ·rename_i fd h2;rw [Bool.and_eq_true]at h;have h3:=Nat.eq_of_beq_eq_true h.1;have h4:=h.2;split at h4
   ·rename_i inf h5;have h6:inf.size≠0:=by
     intro e;rw [e]at h4
     cases h4
    subst h3;simp [Instr.fieldAt,run_underlying h1,h2,Instr.sureAddr,fieldPlace,sizeOf,typeInfo,h5,h6]
   ·cases h4
  ·cases h
 ·cases h
theorem OV.fld{s:TypeId}{x:Operand}{f off:Nat}{p:Addr}{d:Tmp}{ty:TypeId}{ps:String}{af:Array Edge}(hF:zek P s f off)(ho:ops[i]? = some {op:=.fieldAddr s x f,dst:=some d,type:=ty,pos:=ps,after:=af,guard:=none})(hb:bars.contains i=false)(hd:Nat.blt d nt=true)
  (hx:look a ov x = .pointer (some p)) (h:OV K ks P nt ops bs bars Q r a ((d,.pointer (some (p.add off))) :: ov) w):OV K ks P nt ops bs bars Q (i :: r) a ov w:=
 OV.read _ ho rfl hb hd (fun w' _=>by simp [execOp,hx,hF p w']) h
theorem OV.ld{t:TypeId}{x:Operand}{p:Addr}{v:Value}{d:Tmp}{ty:TypeId}{ps:String}{af:Array Edge}(hL:zcc P t)(hc:w.cell? p=some v)(hks:ks.contains i=false)(ho:ops[i]? = some {op:=.load t x,dst:=some d,type:=ty,pos:=ps,after:=af,guard:=none})(hb:bars.contains i=false)(hd:Nat.blt d nt=true)
  (hx:look a ov x = .pointer (some p)) (h:OV K ks P nt ops bs bars Q r a ((d,v) :: ov) w):OV K ks P nt ops bs bars Q (i :: r) a ov w:=
 OV.read _ ho rfl hb hd (fun w' hb'=>by
  rcases hb' with hb'|⟨q,_⟩
  ·have hp:p.block<w.heap.size:=World.block_lt_of_cell? _ _ hc;simp [execOp,hx,hL p v w' ((hb'.cell hp).trans hc)]
  ·rw [hks]at q;cases q) h
theorem OV.ldK{t:TypeId}{x:Operand}{p:Addr}{v:Value}{d:Tmp}{ty:TypeId}{ps:String}{af:Array Edge}(hL:zcc P t)(hc:w.cell? p=some v)(hK:∀w',K w'→w'.cell? p=some v)(ho:ops[i]? = some {op:=.load t x,dst:=some d,type:=ty,pos:=ps,after:=af,guard:=none})(hb:bars.contains i=false)(hd:Nat.blt d nt=true)
  (hx:look a ov x = .pointer (some p)) (h:OV K ks P nt ops bs bars Q r a ((d,v) :: ov) w):OV K ks P nt ops bs bars Q (i :: r) a ov w:=
 OV.read _ ho rfl hb hd (fun w' hb'=>by
  have hp:p.block<w.heap.size:=World.block_lt_of_cell? _ _ hc;have:w'.cell? p=some v:=hb'.elim (fun q=>(q.cell hp).trans hc) (fun q=>hK w' q.2);simp [execOp,hx,hL p v w' this]) h
def zgg(P:Program)(t:TypeId)(n:Nat):Prop:=∀(p:Addr) (cs:List Value) w,cs.length=n→(∀j v,cs[j]? = some v→World.cell? w (p.add j)=some v)→(Instr.loadAt t (.pointer (some p))).run P w = .ok (.agg cs.toArray) w
theorem zft{t:TypeId}{n:Nat}(h:(match P.underlying t with|some (.struct _)=>true|_=>false)=true)(hi:(P.info? t).map (·.size)=some n):zgg P t n:=by
 intro p cs w hn hc
 cases hu:P.underlying t with
 | none=>rw [hu]at h;cases h
 | some d=>
  rw [hu]at h
  cases d with
  | struct fs=>
   have hl:(loadCells p cs.length).run P w = .ok cs.toArray w:=run_loadCells_list (P:=P) w p cs hc
   cases hq:P.info? t with
   | none=>simp [hq]at hi
   | some inf=>
    have hs:inf.size=n:=by simpa [hq]using hi
    have hagg:(isAgg t).run P w = .ok true w:=by
     unfold isAgg;rw [Sem.run_bind,run_underlying hu w];rfl
    simp [Instr.loadAt,Instr.sureAddr,loadVar,Sem.run_bind,hagg,sizeOf,typeInfo,hq,hs,←hn,hl]
  | _=>cases h
theorem OV.ldn{t:TypeId}{x:Operand}{p:Addr}{n:Nat}(cs:List Value){d:Tmp}{ty:TypeId}{ps:String}{af:Array Edge}(hL:zgg P t n)(hc:∀j v,cs[j]? = some v→w.cell? (p.add j)=some v)(hks:ks.contains i=false)(ho:ops[i]? = some {op:=.load t x,dst:=some d,type:=ty,pos:=ps,after:=af,guard:=none})(hb:bars.contains i=false)(hd:Nat.blt d nt=true)
  (hn:cs.length=n) (h0:0<n) (hx:look a ov x = .pointer (some p)) (h:OV K ks P nt ops bs bars Q r a ((d,.agg cs.toArray) :: ov) w):OV K ks P nt ops bs bars Q (i :: r) a ov w:=
 OV.read _ ho rfl hb hd (fun w' hb'=>by
  rcases hb' with hb'|⟨q,_⟩
  ·have hp:p.block<w.heap.size:=by
    obtain⟨v,hv⟩:∃v,cs[0]? = some v:=⟨_,List.getElem?_eq_getElem (by omega)⟩;have:=World.block_lt_of_cell? _ _ (hc 0 v hv);rwa [zac]at this
   simp [execOp,hx,hL p cs w' hn (fun j v hj=>(hb'.cell (p:=p.add j) (by rw [zac];exact hp)).trans (hc j v hj))]
  ·rw [hks]at q;cases q) h
theorem OV.len{t e:TypeId}{x:Operand}{p:Option Addr}{len cap:Nat}{d:Tmp}{ty:TypeId}{ps:String}{af:Array Edge}(hu:P.underlying t=some (.slice e))(ho:ops[i]? = some {op:=.call {callee:=.builtin .len,args:=#[x],argTypes:=#[t]},dst:=some d,type:=ty,pos:=ps,after:=af,guard:=none})(hb:bars.contains i=false)(hd:Nat.blt d nt=true)
  (hx:look a ov x = .slice p len cap) (h:OV K ks P nt ops bs bars Q r a ((d,.int .i64 (len:Int)) :: ov) w):OV K ks P nt ops bs bars Q (i :: r) a ov w:=
 OV.read _ ho rfl hb hd (fun w' _=>by
  simp [execOp,resolve,invoke,builtin,hx,Builtin.len_,hu,underlying,Sem.run_bind,Sem.run_pure,Result.andThen,go_sem,goInt]) h
theorem OWK.call{f:FuncId}{fn:Func}{xs:Array Operand}{ts:Array TypeId}{args:List Value}{d:Option Tmp}{ty:TypeId}{ps:String}{af:Array Edge}(ho:ops[i]? = some {op:=.call {callee:=.value (.func f),args:=xs,argTypes:=ts},dst:=d,type:=ty,pos:=ps,after:=af,guard:=none})(hb:bars.contains i=true)
  (hfn:P.funcs[f]? = some fn) (hbody:fn.body.isSome=true) (hN:zbO P) (ha:xs.toList.map a.eval=args)
  (h:CallsIn Fence.wide 0 P f args.toArray w fun e w'=>∃v,e = .returned v∧((zkl bs ks ops.size i=true∧K w')∨Below w.heap.size w w')∧OWK K ks P none ops bs bars Q r (a.put d v) w'):OWK K ks P none ops bs bars Q (i :: r) a w:=by
 refine⟨_,ho,.inl ⟨hb,.inl ⟨f,args.toArray,?_,h⟩⟩⟩;have ha':xs.map a.eval=args.toArray:=by subst ha;apply Array.ext';rw [Array.toList_map]
 rw [←ha'];have hbn:fn.body≠none:=by intro q;rw [q]at hbody;simp at hbody
 have hev:a.eval (.func f) = .func (.func f) #[] #[]:=rfl;unfold execOp;simp only [resolve,hev,Deferred.ofValue,Sem.run_bind,Sem.run_pure,Result.andThen_ok,invoke,callFunc,run_program,hfn,hN f fn hfn hbody,Bool.false_eq_true,if_false];have:fn.body.isNone=false:=by cases hq:fn.body <;> simp_all
 rw [this];simp
theorem OV.call{f:FuncId}{fn:Func}{xs:Array Operand}{ts:Array TypeId}(args:List Value){d:Tmp}{ty:TypeId}{ps:String}{af:Array Edge}{R:Value→World→Prop}{f':FuncId}(hfn:P.funcs[f]? = some fn)(hbody:fn.body.isSome=true)(hN:zbO P)
  (ho:ops[i]? = some {op:=.call {callee:=.value (.func f),args:=xs,argTypes:=ts},dst:=some d,type:=ty,pos:=ps,after:=af,guard:=none}) (hb:bars.contains i=true) (hd:Nat.blt d nt=true)
  (ha:xs.toList.map (look a ov)=args) (hf:f=f') (hcall:CallsIn Fence.wide 0 P f' args.toArray w fun e w'=>∃v,e = .returned v∧R v w'∧Below w.heap.size w w')
  (h:∀v w',R v w'→Below w.heap.size w w'→OV K ks P nt ops bs bars Q r a ((d,v) :: ov) w'):OV K ks P nt ops bs bars Q (i :: r) a ov w:=by
 intro hn hk;subst hf;refine OWK.call ho hb hfn hbody hN (args:=args) (by rw [zdj a ov (by rw [hn];exact hk)];exact ha) (hcall.mono ?_);rintro e w' ⟨v,rfl,hR,hB⟩;exact⟨v,rfl,.inr hB,h v w' hR hB hn (hk.cons hd)⟩
theorem OV.put1{t:TypeId}{x:Operand}{v:Value}{w':World}{d:Tmp}{ty:TypeId}{ps:String}{af:Array Edge}(hrun:(Instr.buildSlice t 1 #[(0,v)]).run P w = .ok (.slice (some ⟨w.heap.size,0,none⟩) 1 1) w')(hB:Below w.heap.size w w')(ho:ops[i]? = some {op:=.buildSlice t 1 #[(0,x)],dst:=some d,type:=ty,pos:=ps,after:=af,guard:=none})(hb:bars.contains i=true)(hd:Nat.blt d nt=true)
  (hx:look a ov x=v) (h:OV K ks P nt ops bs bars Q r a ((d,.slice (some ⟨w.heap.size,0,none⟩) 1 1) :: ov) w'):OV K ks P nt ops bs bars Q (i :: r) a ov w:=by
 intro hn hk;exact⟨_,ho,.inl ⟨hb,.inr ⟨w',_,.inl (by simp [execOp,zdj a ov (by rw [hn];exact hk),hx,hrun]),.inr hB,h hn (hk.cons hd)⟩⟩⟩
theorem OV.app{t:TypeId}{s x:Operand}{v y v':Value}{w':World}{d:Tmp}{ty:TypeId}{ps:String}{af:Array Edge}(hKw:K w')(hrun:(Builtin.append_ #[t,t] ty #[v,y]).run P w = .ok v' w')(ho:ops[i]? = some {op:=.call {callee:=Callee.builtin Builtin.append,args:=#[s,x],argTypes:=#[t,t]},dst:=some d,type:=ty,pos:=ps,after:=af,guard:=none})(hb:bars.contains i=true)(hd:Nat.blt d nt=true)
  (hl:zkl bs ks ops.size i=true) (hs:look a ov s=v) (hx:look a ov x=y) (h:OV K ks P nt ops bs bars Q r a ((d,v') :: ov) w'):OV K ks P nt ops bs bars Q (i :: r) a ov w:=by
 intro hn hk;have e:=zdj a ov (by rw [hn];exact hk);exact⟨_,ho,.inl ⟨hb,.inr ⟨w',v',.inl (by simp [execOp,resolve,invoke,builtin,e,hs,hx,hrun,Result.andThen]),.inl ⟨hl,hKw⟩,h hn (hk.cons hd)⟩⟩⟩
theorem OV.st{t:TypeId}{x y:Operand}{p v:Value}{w':World}{ty:TypeId}{ps:String}{af:Array Edge}(hKw:K w')(hrun:(Instr.storeAt t p v).run P w = .ok () w')(ho:ops[i]? = some {op:=.store t x y,dst:=none,type:=ty,pos:=ps,after:=af,guard:=none})(hb:bars.contains i=true)(hl:zkl bs ks ops.size i=true)
  (hx:look a ov x=p) (hy:look a ov y=v) (h:OV K ks P nt ops bs bars Q r a ov w'):OV K ks P nt ops bs bars Q (i :: r) a ov w:=by
 intro hn hk;have e:=zdj a ov (by rw [hn];exact hk);exact⟨_,ho,.inl ⟨hb,.inr ⟨w',undef,.inr ⟨by simp [execOp,e,hx,hy,hrun],rfl⟩,.inl ⟨hl,hKw⟩,h hn hk⟩⟩⟩
theorem OV.done(h:Q (zbo a ov) w):OV K ks P nt ops bs bars Q [] a ov w:=fun _ _=>h
theorem zes(K:World→Prop)(ks:List Nat)(hKB:∀w w',K w→Below w.heap.size w w'→K w'){id:Nat}{l:List Oper}(bars ord:List Nat)(bs:List Nat){a:CAct}{w:World}{ro:Option Nat}{Q:Exit→CAct→World→Prop}(hm:P.follows .mixedOrders=true)(hro:ro=none)
  (nt:Nat) (hnt:a.tmps.size=nt) (hc:zf5 l bars ord nt=true) (hbs:zgY l []=bs) (hK:K w.drew) (h:OV K ks P nt l.toArray bs bars (fun a' w'=>Q .normal a' w') ord a [] w.drew):(Code.region id l.toArray true).wpIn (Fz ro) 0 P Q a w:=by
 subst hro;exact zer ks hKB bars ord bs hm nt hnt hc hbs hK (h hnt (fun p hp=>by cases hp))
theorem zap{id:Nat}{l:List Oper}(bars ord:List Nat)(bs:List Nat){a:CAct}{w:World}{ro:Option Nat}{Q:Exit→CAct→World→Prop}(hm:P.follows .mixedOrders=true)(hro:ro=none)
  (nt:Nat) (hnt:a.tmps.size=nt) (hc:zf5 l bars ord nt=true) (hbs:zgY l []=bs) (h:OV (fun _=>True) [] P nt l.toArray bs bars (fun a' w'=>Q .normal a' w') ord a [] w.drew):(Code.region id l.toArray true).wpIn (Fz ro) 0 P Q a w:=
 zes (fun _=>True) [] (fun _ _ _ _=>trivial) bars ord bs hm hro nt hnt hc hbs trivial h
end
end Go.Eng
namespace Go.Num
open Go.Eng Go.Shelf Go.RowKit Go.Sort Go.Proofs Go.Proofs.YtoamcgjbelhnkaaGreatDoor
theorem OwnR.item{β:Type}{w:World}{base ty sz:Nat}{I:β→List Value→World→Prop}{v:Value}{bs:List β}(h:OwnR w base ty sz I v bs){i:Nat}{b:β}(hb:bs[i]? = some b) :
  ∃g cap row,v = .slice (some ⟨g,0,none⟩) bs.length cap∧base≤g∧g<w.heap.size∧row.length=sz∧(∀j x,row[j]? = some x→w.cell? (((⟨g,0,none⟩:Addr).add (i*sz)).add j)=some x)∧I b row w:=by
 obtain⟨xs,h1,h2,h3,h4⟩:=h;have hi:i<bs.length:=(List.getElem?_eq_some_iff.1 hb).1;obtain⟨row,hr⟩:∃row,xs[i]? = some row:=⟨_,List.getElem?_eq_getElem (by omega)⟩;have hl:=h3 row (List.mem_of_getElem? hr);rcases h1.2 with⟨_,e⟩|⟨g,cap,cur,rfl,g1,g2,_⟩
 ·omega
 ·refine⟨g,cap,row,rfl,g1,(Array.getElem?_eq_some_iff.1 g2).1,hl,fun j x hx => ?_,h4 i row b hr hb⟩;have:=h1.cells rfl _ _ (zcD h3 hr hx);rw [Addr.add_add];exact this
theorem OwnR.base{β:Type}{w:World}{base b' ty sz:Nat}{I:β→List Value→World→Prop}{v:Value}{bs:List β}(h:OwnR w base ty sz I v bs)(hb:b'≤base):OwnR w b' ty sz I v bs:=by
 obtain⟨xs,h1,h2⟩:=h;refine⟨xs,⟨h1.1,?_⟩,h2⟩;rcases h1.2 with e|⟨g,cap,cur,e,g1,g2⟩
 ·exact .inl e
 ·exact .inr ⟨g,cap,cur,e,Nat.le_trans hb g1,g2⟩
theorem zad.at'{β:Type}{w:World}{ty sz n c:Nat}{I:β→List Value→World→Prop}{a:Addr}{bs:List β}(h:zad w ty sz I (.slice (some a) n c) bs){i:Nat}{b:β}(hb:bs[i]? = some b) :
  i<n∧∃row,row.length=sz∧(∀j x,row[j]? = some x→w.cell? ((a.add (i*sz)).add j)=some x)∧I b row w:=by
 have hi:i<bs.length:=(List.getElem?_eq_some_iff.1 hb).1;rcases h with⟨rfl,_⟩|⟨a',cap,xs,e,h2,h3,h4,h5,h6,h7,h8⟩
 ·simp at hb
 ·injection e with e e2 _;injection e with e;subst e;obtain⟨row,hr⟩:∃row,xs[i]? = some row:=⟨_,List.getElem?_eq_getElem (by omega)⟩;exact⟨by omega,row,h6 row (List.mem_of_getElem? hr),fun j x hx=>by rw [Addr.add_add];exact h7 i row hr j x hx,h8 i row b hr hb⟩
theorem zad.some{β:Type}{w:World}{ty sz:Nat}{I:β→List Value→World→Prop}{v:Value}{bs:List β}(h:zad w ty sz I v bs)(h0:0<bs.length):∃a c,v = .slice (some a) bs.length c:=by
 rcases h with⟨rfl,_⟩|⟨a,cap,_,e,_⟩
 ·simp at h0
 ·exact⟨a,cap,e⟩
theorem BoxL.at'{w:World}{g:Nat}{xs:List Value}(h:BoxL w g xs):∀j v,xs[j]? = some v→w.cell? ((⟨g,0,none⟩:Addr).add j)=some v:=fun j v hj=>by
 rw [Addr.add_lit,Nat.zero_add];exact h.2 j v hj
theorem it64:zff Tryz.prog 64 3:=zcR Go.Num.u64 i25' i25s
theorem lm25:zgg Tryz.prog 25 3:=zft (by kernel_rfl) (by kernel_rfl)
def zlZ(f:Rat)(a b:Nat→Rat)(n:Nat):List Rat:=(List.range n).map fun j=>a j + -(f*b j)
theorem zpf(f:Rat)(a b:Nat→Rat)(n:Nat):zlZ f a b (n+1)=zlZ f a b n ++ [a n + -(f*b n)]:=by simp [zlZ,List.range_succ]
theorem zh6(f:Rat)(a b:Nat→Rat)(n:Nat):(zlZ f a b n).length=n:=by simp [zlZ]
def rowF(a:Nat→Rat)(n:Nat):List Rat:=(List.range n).map a
theorem zdf{a:Nat→Rat}{n j:Nat}(h:j<n):(rowF a n)[j]? = some (a j):=by simp [rowF,h]
theorem zak(a:Nat→Rat)(n:Nat):(rowF a n).length=n:=by simp [rowF]
theorem ziD(w:World)(va vb vf:Value)(f:Rat)(a b:Nat→Rat)(n L:Nat)(h0:0<n)(h9:n≤1000)(ha:RowR w va (rowF a n))(hb:RowR w vb (rowF b n))(hf:zau w vf f)
  (hL:L≤20000) (la:∀j,j<n→zan (a j) L) (lb:∀j,j<n→zan (b j) L) (lf:zan f L) (lp:∀j,j<n→zan (f*b j) L) (lk:∀j,j<n→zan (a j + -(f*b j)) 100000∧zb5 (a j + -(f*b j))=true) (hT:zaY w) :
  CallsIn Fence.wide 0 Tryz.prog 136 #[va,vb,vf] w fun e w'=>∃v',e = .returned v'∧OwnR w' w.heap.size 25 3 IR v' (zlZ f a b n)∧Below w.heap.size w w':=by
 obtain⟨aa,ca,rfl⟩:=zad.some ha (by rw [zak];exact h0);obtain⟨ab,cb,rfl⟩:=zad.some hb (by rw [zak];exact h0);rw [zak]at ha hb;rw [zak,zak];obtain⟨o1,k1,c1,o2,k2,c2,rfl⟩:=hf.form;obtain⟨sf,hsf⟩:∃sf,decide (f.num<0)=sf:=⟨_,rfl⟩;rw [hsf]at hf;rw [hsf];obtain⟨W1,hW1⟩:∃W,W=w.alloc (.cells #[.bool sf,.slice o1 k1 c1,.slice o2 k2 c2] 25):=⟨_,rfl⟩;have hb1:Below w.heap.size w W1:=by rw [hW1];exact zaa _ _
 have HB1:=zHi hb1;have HA:=zHi (zad.below ha hb1 (IR.below hb1));have HBb:=zHi (zad.below hb hb1 (IR.below hb1));have HF:=zHi (hf.below hb1);have HT:=zHi (hT.below hb1);have HBX:Hid (BoxL W1 w.heap.size [.bool sf,.slice o1 k1 c1,.slice o2 k2 c2]):=zHi (by rw [hW1];exact zaU _ _ _);obtain⟨g,hg⟩:∃g,w.heap.size=g:=⟨_,rfl⟩;have HLa:=zHi la;have HLb:=zHi lb;have HLf:=zHi lf;have HLp:=zHi lp;have HLk:=zHi lk;rw [hg]at HBX;clear ha hb hf hsf hb1 hT la lb lf lp lk;refine callsIn_of_wp Tryz.func136 rfl trivial ?_ rfl;simp only [Tryz.ntmps136,ztH,ztI,ztJ,Nat.reduceAdd,Nat.reduceSub,ztK,ztL,ztM,ztN,ztO,ztP];gi_wp2;rw [←hW1];clear hW1;gi_loopw [7,11] (fun x7 x11 wr=>∃i:Nat,x11 = .int .i64 (i:Int)∧i≤n∧Hid (OwnR wr W1.heap.size 25 3 IR x7 (zlZ f a b i))∧Hid (Below W1.heap.size W1 wr)) (fun _ x _=>n-(intOf x).toNat)
 case atStart=>exact⟨0,rfl,by omega,OwnR.nil _ _ _ _ _,Below.refl _ W1⟩
 case round=>
  obtain⟨i,rfl,hi,HO,HB⟩:=hrel;by_cases hin:i<n
  ·gi_wp2;have HBd:=zHi (HB.out.trans ((zab wr).mono HB.out.size));obtain⟨hia,ra,hra1,hra2,hra3⟩:=zad.at' (zad.below HA.out HBd.out (IR.below HBd.out)) (zdf (a:=a) hin);obtain⟨hib,rb,hrb1,hrb2,hrb3⟩:=zad.at' (zad.below HBb.out HBd.out (IR.below HBd.out)) (zdf (a:=b) hin);have hbr:Below wr.heap.size wr wr.drew:=zab wr;refine zap (ro:=none) [10,11,12,13,14,15] [0,1,2,3,4,5,6,7,8,9,10,11,12,13,14,15,16] [0,0,0,6,14,0,0,0,192,448,992,2016,4094,8190,16382,32767,65535] zaq rfl 32 rfl (by kernel_rfl) (by kernel_rfl) ?_;refine OV.mv rfl rfl rfl rfl ?_;refine OV.mv rfl rfl rfl rfl ?_;refine OV.mv rfl rfl rfl rfl ?_;refine OV.idx it64 hia rfl rfl rfl rfl rfl ?_;refine OV.ldn ra lm25 hra2 rfl rfl rfl rfl hra1 (by decide) rfl ?_;refine OV.ldn [.bool sf,.slice o1 k1 c1,.slice o2 k2 c2] lm25 (HBX.out.below HBd.out).at' rfl rfl rfl rfl rfl (by decide) rfl ?_;refine OV.mv rfl rfl rfl rfl ?_;refine OV.mv rfl rfl rfl rfl ?_;refine OV.idx it64 hib rfl rfl rfl rfl rfl ?_;refine OV.ldn rb lm25 hrb2 rfl rfl rfl rfl hrb1 (by decide) rfl ?_;refine OV.call [.agg [.bool sf,.slice o1 k1 c1,.slice o2 k2 c2].toArray,.agg rb.toArray] Tryz.func94 rfl zah rfl rfl rfl rfl rfl (zml _ _ _ f (b i) L (HF.out.below HBd.out) hrb3 HLf.out (HLb.out i hin) (by omega)) fun v1 w1 h1 hB => ?_
   replace HBd:=zBt HBd hB;replace hbr:=hbr.trans (hB.mono hbr.size);have hra4:=IR.below hB _ _ hra3;refine OV.call [v1] Tryz.func46 rfl zah rfl rfl rfl rfl rfl (zhD _ _ _ h1) fun v2 w2 h2 hB => ?_
   replace HBd:=zBt HBd hB;replace hbr:=hbr.trans (hB.mono hbr.size);have hra5:=IR.below hB _ _ hra4;refine OV.call [.agg ra.toArray,v2] Tryz.func93 rfl zah rfl rfl rfl rfl rfl (zoQ _ _ _ (a i) (-(f*b i)) L hra5 h2 (HLa.out i hin) (zeE (HLp.out i hin)) (by omega)) fun v3 w3 h3 hB => ?_
   replace HBd:=zBt HBd hB;replace hbr:=hbr.trans (hB.mono hbr.size);refine OV.call [v3] Tryz.func67 rfl zah rfl rfl rfl rfl rfl (zgw _ _ _ h3 (HLk.out i hin).1 (HLk.out i hin).2 (HT.out.below HBd.out)) fun v4 w4 h4 hB => ?_
   replace HBd:=zBt HBd hB;replace hbr:=hbr.trans (hB.mono hbr.size);obtain⟨o5,k5,c5,o6,k6,c6,rfl⟩:=h4.form;obtain⟨s4,hs4⟩:∃s4,decide ((a i + -(f*b i)).num<0)=s4:=⟨_,rfl⟩;rw [hs4]at h4 ⊢;have HO4:=HO.out.below hbr (IR.below hbr);obtain⟨v7,w7,hrun,HO7,hB7,_,_⟩:=zqc (ty:=25) (sz:=3) (t:=64) (tx:=64) (bytes:=56) W1 w4 Go.Num.u64 i25' i25z i25s i25b rfl (by decide) (by decide) u7 (zlZ f a b i) HO4 (a i + -(f*b i)) [.bool s4,.slice o5 k5 c5,.slice o6 k6 c6] 25 rfl (by simp [Value.oneCell']) h4 (fun b r w1 w2 ht=>IR.touch ht rfl b r) (by rw [zh6];omega) HBd.out;refine OV.put1 (ztv _ _ _ _) (zaa _ _) rfl rfl rfl rfl ?_;refine OV.app trivial hrun rfl rfl rfl rfl rfl rfl ?_;refine OV.asg rfl rfl rfl rfl ?_;refine OV.done ?_;simp only [zbo,Go.Act.put,ztQ,ztR,ztS];rw [←zpf]at HO7;have HO8:=zHi HO7;have HB8:=zHi hB7;clear HO7 hB7 hrun HO4 h1 h2 h3 h4 hra1 hra2 hra3 hra4 hra5 hrb1 hrb2 hrb3 hbr hB hs4;gi_wp2;exact⟨⟨i+1,by go_num,by omega,HO8,HB8⟩,by simp only [intOf];omega⟩
  ·have hin2:i=n:=by omega
   subst hin2;gi_wp2;all_goals (first|go_returns|go_ret|go_end0)
   exact⟨_,rfl,HO.out.base HB1.out.size,HB1.out.trans (HB.out.mono HB1.out.size)⟩
end Go.Num
