/-
  The program's 'Det': its closure. The program's 'slices.Clone' of a row, and 'clone' of a matrix. The program's run and the reference's run 
  Conditions: see each statement.
-/
import Derived.Test.YtoamcgjbelhnkaaGreatDoorPAA
import Derived.Test.YtoamcgjbelhnkaaGreatDoorPAV
import Derived.Test.YtoamcgjbelhnkaaGreatDoorPAU
set_option maxRecDepth 100000
set_option maxHeartbeats 16000000
namespace Go.Num
open Go.Eng Go.Shelf Go.RowKit Go.Sort Go.Proofs Go.Proofs.YtoamcgjbelhnkaaGreatDoor
theorem znl{β:Type}{F:Fence}{n:Nat}(wr:World){ops:Array Oper}{rest:List Oper}{o:Oper}{a:CAct}{Q:Exit→CAct→World→Prop}{ty sz t bytes:Nat}{inf:TypeInfo}{z:Value}{I:β→List Value→World→Prop}
  (hg:o.guard=none) (s x:Operand) (hop:o.op=Op.call {callee:=Callee.builtin Builtin.append,args:=#[s,x],argTypes:=#[t,t]})
  (e1:Tryz.prog.underlying t=some (.slice ty)) (e2:Tryz.prog.info? ty=some inf) (e3:inf.zero=some z) (e4:inf.size=sz) (e5:inf.bytes=bytes) (e6:z.cells.size=sz) (e7:0<sz) (e8:bytes≤100)
  (base:Nat) (hbase:base≤wr.heap.size) (v:Value) (bs:List β) (hs:a.eval s=v) (HO:OwnR wr base ty sz I v bs) (ad:Addr) (c:Nat) (cs:List β) (hx:a.eval x = .slice (some ad) cs.length c) (hcs:zah wr ty sz I (.slice (some ad) cs.length c) cs) (h0:0<cs.length)
  (h1c:∀b r w,I b r w→∀u∈r,u.oneCell'=true) (hI:∀b r w1 w2,Touch ty w1 w2→I b r w1→I b r w2) (hn:bs.length+cs.length<500000000)
  (hK:∀v' w',Hid (OwnR w' base ty sz I v' (bs ++ cs))→Hid (wr.heap.size≤w'.heap.size∧∀k,k<wr.heap.size→some k≠v.ownBlock→w'.heap[k]? = wr.heap[k]?)→Hid (∀B0 w0,Below B0 w0 wr→B0≤base→Below B0 w0 w')→wpListIn F n Tryz.prog ops Q rest (a.put o.dst v') w') :
  wpListIn F n Tryz.prog ops Q (o :: rest) a wr:=by
 obtain⟨xs,h1,h2,h3,h4⟩:=HO;rcases hcs with⟨rfl,_⟩|⟨a',cap,ys,e,_,_,hE,y2,y3,y4,y5⟩
 ·simp at h0
 injection e with e _ ec;injection e with e;subst e;have hyl:ys.flatten.length=cs.length*sz:=by
  rw [←y2];clear y2 y4 y5;induction ys with
  | nil=>simp
  | cons r t ih=>rw [List.flatten_cons,List.length_append,ih (fun q hq=>y3 q (by simp [hq])),y3 r (by simp),List.length_cons,Nat.add_mul];omega
 refine wpListIn_append_own _ hg s x t hop base ty inf z sz bytes e1 e2 e3 e4 e5 e6 e7 v bs.length xs.flatten hs h1 ad cs.length c ys.flatten hx hyl (fun j u hu => ?_) (fun u hu => ?_) (by unfold maxLen;omega) (by
  have:(bs.length+cs.length)*bytes≤500000000*100:=Nat.mul_le_mul (by omega) e8;omega) hbase ?_
 ·have hj:j<cs.length*sz:=by rw [←hyl];exact(List.getElem?_eq_some_iff.1 hu).1
  have hi:j/sz<ys.length:=by rw [y2];exact Nat.div_lt_of_lt_mul (by rw [Nat.mul_comm];exact hj)
  have hrow:ys[j/sz]? = some ys[j/sz]:=List.getElem?_eq_getElem hi;have hrl:ys[j/sz].length=sz:=y3 _ (List.getElem_mem hi);have hm:j%sz<ys[j/sz].length:=by rw [hrl];exact Nat.mod_lt _ e7
  have hx2:ys[j/sz][j%sz]? = some ys[j/sz][j%sz]:=List.getElem?_eq_getElem hm;have:=zb7 y3 hrow hx2;rw [Nat.div_add_mod' j sz]at this;rw [this]at hu;have hc:=y4 _ _ hrow _ _ hx2;rw [Nat.div_add_mod' j sz]at hc;rw [hc];exact hu
 ·obtain⟨r,hr,hu⟩:=List.mem_flatten.1 hu;obtain⟨i,hi,e⟩:=List.getElem_of_mem hr;have hi2:i<cs.length:=by rw [←y2];exact hi
  exact h1c _ _ _ (y5 i r cs[i] (by rw [←e];exact List.getElem?_eq_getElem hi) (List.getElem?_eq_getElem hi2)) u hu
 intro v' w' g1 g2 _;have hT:Touch ty wr w':=by
  refine⟨g2.size,fun k cs e fz hk hne => ?_⟩;have hlt:k<wr.heap.size:=(Array.getElem?_eq_some_iff.1 hk).1;rw [g2.block k hlt (fun hk' => ?_)]
  ·exact hk
  ·rcases h1.2 with⟨rfl,_⟩|⟨g,cap,cur,rfl,q1,q2,_⟩
   ·cases hk'
   ·have:k=g:=by simpa [Value.ownBlock]using hk'
    subst this;rw [q2]at hk;injection hk with hk;injection hk with _ hk _;exact hne hk.symm
 refine hK v' w' ⟨xs ++ ys,?_,by simp [h2,y2],fun r hr => ?_,fun i r b' hr hb' => ?_⟩ ⟨hT.1,fun k hk hne=>g2.block k hk hne⟩ ?_
 ·rw [List.flatten_append,List.length_append];exact g1
 ·rcases List.mem_append.1 hr with h|h
  ·exact h3 r h
  ·exact y3 r h
 ·rcases Nat.lt_or_ge i bs.length with hi|hi
  ·rw [List.getElem?_append_left (by omega)]at hr hb';exact hI _ _ _ _ hT (h4 i r b' hr hb')
  ·rw [List.getElem?_append_right (by omega)]at hr hb';rw [h2]at hr;exact hI _ _ _ _ hT (y5 _ r b' hr hb')
 ·intro B0 w0 hb hB;refine⟨g2.os.trans hb.os,g2.tape.trans hb.tape,g2.output.trans hb.output,Nat.le_trans hb.size g2.size,fun k hk => ?_⟩;rw [g2.block k (Nat.lt_of_lt_of_le (Nat.lt_of_lt_of_le hk hB) hbase) (fun hk' => ?_),hb.block k hk];rcases h1.2 with⟨rfl,_⟩|⟨g,cap,cur,rfl,q1,q2,_⟩
  ·cases hk'
  ·have:k=g:=by simpa [Value.ownBlock]using hk'
   omega
theorem IR.one{b:Rat}{r:List Value}{w:World}(h:IR b r w):∀u∈r,u.oneCell'=true:=by
 obtain⟨o1,k1,c1,o2,k2,c2,e⟩:=zao.form h;have e:r = [.bool (decide (b.num<0)),.slice o1 k1 c1,.slice o2 k2 c2]:=by
  injection e with e;injection e
 subst e;simp [Value.oneCell']
@[local go_sem] theorem eq64 (a:Addr) (n c:Nat) (W:World):(binOp .eql 64 (.slice (some a) n c) (.slice none 0 0)).run Tryz.prog W = .ok (.bool false) W:=by kernel_rfl
theorem OwnR.weaken{β:Type}{w:World}{base b2 ty sz:Nat}{I:β→List Value→World→Prop}{v:Value}{bs:List β}(h:OwnR w b2 ty sz I v bs)(hb:base≤b2):OwnR w base ty sz I v bs:=by
 obtain⟨xs,h1,h2⟩:=h;refine⟨xs,⟨h1.1,h1.2.imp id ?_⟩,h2⟩;rintro⟨g,cap,cur,e,g1,g2⟩;exact⟨g,cap,cur,e,Nat.le_trans hb g1,g2⟩
theorem OwnR.empty{β:Type}(w:World)(base ty sz:Nat)(I:β→List Value→World→Prop)(hb:base≤w.heap.size)(_:0<sz):OwnR (w.alloc (.cells #[] ty)) base ty sz I (.slice (some ⟨w.heap.size,0,none⟩) 0 0) []:=
 ⟨[],⟨by simp,.inr ⟨w.heap.size,0,#[],rfl,hb,heap_alloc_new _ _,Nat.le_refl 0,Nat.zero_le _,by simp,by simp⟩⟩,rfl,fun r h=>by simp at h,fun i row b h=>by simp at h⟩
theorem zi9(w:World)(v:Value)(l:List Rat)(h:RowR w v l)(h0:0<l.length)(h9:l.length≤1000) :
  CallsIn Fence.wide 0 Tryz.prog 121 #[v] w fun e w'=>∃v',e = .returned v'∧OwnR w' w.heap.size 25 3 IR v' l∧Below w.heap.size w w':=by
 obtain⟨ad,c,rfl⟩:=zah.some h h0;have HR:=zHi h;clear h;refine callsIn_of_wp Tryz.func121 rfl trivial ?_ rfl;simp only [Tryz.ntmps121,ztE,ztF,ztG,Nat.reduceAdd,Nat.reduceSub,ztH,ztI,ztJ,ztK,ztL,ztM];gi_wp2_with (gi_at_builtin;refine stop ?_)
 unfold Stop;have hb1:=zaa w (.cells #[] 25);refine znl (ty:=25) (sz:=3) (bytes:=56) _ rfl _ _ rfl Go.Num.u64 i25' i25z i25s i25b rfl (by decide) (by decide) w.heap.size hb1.size (.slice (some ⟨w.heap.size,0,none⟩) 0 0) [] rfl (OwnR.empty _ _ _ _ _ (Nat.le_refl _) (by decide)) ad c l rfl (zah.below HR.out hb1 (IR.below hb1)) h0 (fun b r w h=>IR.one h) (fun b r w1 w2 ht=>IR.touch ht rfl b r) (by rw [List.length_nil];omega) ?_;intro v' w' HO _ HB;have HB2:=zHi (HB.out w.heap.size w hb1 (Nat.le_refl _));clear hb1;gi_wp2;all_goals (first|go_returns|go_ret|go_end0)
 exact⟨_,rfl,HO.out,HB2.out⟩
def zdo(m:List (List Rat))(b:List Rat):List (List Rat):=m.mapIdx fun i l=>l ++ (b[i]?).toList
theorem zjS(m:List (List Rat))(b:List Rat):(zdo m b).length=m.length:=List.length_mapIdx
theorem zqS{m:List (List Rat)}{b:List Rat}{i:Nat}{l:List Rat}(h:m[i]? = some l):(zdo m b)[i]? = some (l ++ (b[i]?).toList):=by
 unfold zdo;rw [List.getElem?_mapIdx,h];rfl
theorem zav.snoc{β:Type}{w w':World}{base tyO tyI sz:Nat}{I:β→List Value→World→Prop}{v v':Value}{rvs:List Value}{rows:List (List β)}(h:zav w base tyO tyI sz I v rvs rows){u:Value}{l:List β}
  (ht:OwnR w' base tyO 1 (fun u r _=>r = [u]) v' (rvs ++ [u])) (hk:∀(b:Nat) (cs:Array Value),base≤b→w.heap[b]? = some (.cells cs tyI (0,0))→w'.heap[b]? = w.heap[b]?) (hI:∀b r,I b r w→I b r w') (hu:OwnR w' base tyI sz I u l) (hl:0<l.length)
  (hd:∀b cs,base≤b→w.heap[b]? = some (.cells cs tyI (0,0))→(∃(i:Nat) (u':Value),rvs[i]? = some u'∧u'.ownBlock=some b)→u.ownBlock≠some b):zav w' base tyO tyI sz I v' (rvs ++ [u]) (rows ++ [l]):=by
 have hrow:∀(i:Nat) (u':Value) (l':List β),rvs[i]? = some u'→rows[i]? = some l'→∃b cs,u'.ownBlock=some b∧base≤b∧w.heap[b]? = some (.cells cs tyI (0,0)):=fun i u' l' q1 q2=>by
  obtain⟨g,cap,e,g1,_,cur,g2⟩:=(h.row i u' l' q1 q2).own (h.ne l' (List.mem_of_getElem? q2));exact⟨g,cur,by rw [e];rfl,g1,g2⟩
 have hnew:∀(i:Nat) (u':Value),rvs[i]? = some u'→u'.ownBlock≠u.ownBlock:=fun i u' q1 q2=>by
  have hi:i<rows.length:=by rw [h.len];exact(List.getElem?_eq_some_iff.1 q1).1
  obtain⟨b,cs,e,g1,g2⟩:=hrow i u' _ q1 (List.getElem?_eq_getElem hi);exact hd b cs g1 g2 ⟨i,u',q1,e⟩ (by rw [←q2,e])
 refine⟨ht,by rw [List.length_append,List.length_append,h.len];rfl,fun i u' l' q1 q2 => ?_,fun l' q => ?_,fun i j u1 u2 q1 q2 e => ?_⟩
 ·rcases Nat.lt_or_ge i rvs.length with hi|hi
  ·rw [List.getElem?_append_left hi]at q1;rw [List.getElem?_append_left (by rw [h.len];exact hi)]at q2;refine(h.row i u' l' q1 q2).keep (fun b hb _ => ?_) hI;obtain⟨b',cs,e,g1,g2⟩:=hrow i u' l' q1 q2;rw [e]at hb;cases hb;exact hk _ cs g1 g2
  ·rw [List.getElem?_append_right hi]at q1;rw [List.getElem?_append_right (by rw [h.len];exact hi),h.len]at q2;rcases Nat.eq_zero_or_pos (i-rvs.length)with h0|h0
   ·rw [h0]at q1 q2;have q1:u=u':=by simpa using q1
    have q2:l=l':=by simpa using q2
    rw [←q1,←q2];exact hu
   ·rw [List.getElem?_eq_none (by simp;omega)]at q1;cases q1
 ·rcases List.mem_append.1 q with q|q
  ·exact h.ne l' q
  ·rw [List.mem_singleton.1 q];exact hl
 ·have key:∀(i:Nat) (u1:Value),(rvs ++ [u])[i]? = some u1→(i<rvs.length∧rvs[i]? = some u1)∨(i=rvs.length∧u1=u):=fun i u1 q=>by
   rcases Nat.lt_or_ge i rvs.length with hi|hi
   ·rw [List.getElem?_append_left hi]at q;exact .inl ⟨hi,q⟩
   ·rw [List.getElem?_append_right hi]at q;rcases Nat.eq_zero_or_pos (i-rvs.length)with h0|h0
    ·rw [h0]at q;exact .inr ⟨by omega,by simpa using q.symm⟩
    ·rw [List.getElem?_eq_none (by simp;omega)]at q;cases q
  rcases key i u1 q1 with⟨a1,a2⟩|⟨a1,a2⟩ <;> rcases key j u2 q2 with⟨b1,b2⟩|⟨b1,b2⟩
  ·exact h.inj i j u1 u2 a2 b2 e
  ·subst b2;exact absurd e (hnew i u1 a2)
  ·subst a2;exact absurd e.symm (hnew j u2 b2)
  ·omega
theorem zs5:Tryz.prog.underlying 116=some (.slice 64):=by kernel_rfl
theorem zj1{F:Fence}{n:Nat}(wr:World){ops:Array Oper}{rest:List Oper}{o:Oper}{a:CAct}{Q:Exit→CAct→World→Prop}{t:TypeId}(e1:Tryz.prog.underlying t=some (.slice 64))
  (hg:o.guard=none) (s x:Operand) (hop:o.op=Op.call {callee:=Callee.builtin Builtin.append,args:=#[s,x],argTypes:=#[t,t]})
  (base b2:Nat) (hbase:base≤wr.heap.size) (v:Value) {rvs:List Value} {rows:List (List Rat)} (hs:a.eval s=v) (HM:zav wr base 64 25 3 IR v rvs rows) (u:Value) {l:List Rat} (hu:OwnR wr b2 25 3 IR u l) (hb2:base≤b2) (hl:0<l.length)
  (hlt:∀(i:Nat) (u':Value) (b:Nat),rvs[i]? = some u'→u'.ownBlock=some b→b<b2) (tt:TypeId) (hx:a.eval x = .slice (some ⟨wr.heap.size,0,none⟩) 1 1) (hn:rvs.length<500000000)
  (hK:∀v' w',Hid (zav w' base 64 25 3 IR v' (rvs ++ [u]) (rows ++ [l]))→Hid (∀B0 w0,Below B0 w0 wr→B0≤base→Below B0 w0 w')→wpListIn F n Tryz.prog ops Q rest (a.put o.dst v') w') :
  wpListIn F n Tryz.prog ops Q (o :: rest) a (wr.alloc (.cells #[u] tt)):=by
 obtain⟨gu,cu,eu,gu1,gu2,curu,gu3⟩:=hu.own hl;have hvb:∀b,v.ownBlock=some b→∃cur,wr.heap[b]? = some (.cells cur 64 (0,0)):=fun b hb=>(HM.top.blk hb).2
 refine zdi (ty:=64) (sz:=1) (bytes:=24) wr hg s x hop e1 i64i i64z i64s i64b rfl (by decide) (by decide) base hbase v rvs hs HM.top u [u] tt hx rfl (by simp [eu,Value.oneCell']) rfl (fun _ _ _ _ _ q=>q) hn ?_;intro v' w' h1 h2 h3;have hk:∀(b:Nat) (cs:Array Value),wr.heap[b]? = some (.cells cs 25 (0,0))→w'.heap[b]? = wr.heap[b]?:=fun b cs hb=>h2.out.2 b (Array.getElem?_eq_some_iff.1 hb).1 (fun e=>by
  obtain⟨cur,hc⟩:=hvb b e.symm;rw [hc]at hb;cases hb)
 have hT:Touch 64 wr w':=⟨h2.out.1,fun b cs e fz hb hne=>by
  rw [h2.out.2 b (Array.getElem?_eq_some_iff.1 hb).1 (fun e'=>by
   obtain⟨cur,hc⟩:=hvb b e'.symm;rw [hc]at hb;cases hb;exact hne rfl)]
  exact hb⟩
 refine hK v' w' ?_ h3;refine HM.snoc h1.out (fun b cs _ hb=>hk b cs hb) (IR.touch hT rfl) (OwnR.weaken (hu.keep (fun b hb _ => ?_) (IR.touch hT rfl)) hb2) hl ?_
 ·have hb:gu=b:=by rw [eu]at hb;simpa [Value.ownBlock]using hb
  rw [←hb];exact hk _ _ gu3
 ·rintro b cs _ _ ⟨i,u',q1,q2⟩ e;have:=hlt i u' b q1 q2;have e:gu=b:=by rw [eu]at e;simpa [Value.ownBlock]using e
  omega
theorem zd9(w:World)(v vb:Value)(m:List (List Rat))(bs:List Rat)(h:MatR w v m)(hb:RowR w vb bs)(h0:0<m.length)(h9:m.length≤1000)(hne:∀l∈m,0<l.length∧l.length≤1000)(hbl:bs.length≤1000) :
  CallsIn Fence.wide 0 Tryz.prog 80 #[v,vb] w fun e w'=>∃v' rvs,e = .returned v'∧zav w' w.heap.size 64 25 3 IR v' rvs (zdo m bs)∧Below w.heap.size w w':=by
 obtain⟨a,c,rfl⟩:=zah.some h h0;obtain⟨ob,cb,rfl,_⟩:=zah.form hb;have HM:=zHi h;have HV:=zHi hb;have HNE:=zHi hne;obtain⟨n,hn⟩:∃n,m.length=n:=⟨_,rfl⟩;obtain⟨nb,hnb⟩:∃n,bs.length=n:=⟨_,rfl⟩;have HN:=zHi hn;have HNB:=zHi hnb;rw [hn]at HM h0 h9;rw [hnb]at HV hbl;rw [hn,hnb];clear h hb hne hn hnb;refine callsIn_of_wp Tryz.func80 rfl trivial ?_ rfl;simp only [Tryz.ntmps80,ztE,ztF,ztG,Nat.reduceAdd,Nat.reduceSub,ztH,ztI,ztJ,ztK,ztL,ztM];gi_wp2;gi_loopw [5,11] (fun x5 x11 wr=>∃i:Nat,x11 = .int .i64 (i:Int)∧i≤n∧Hid (∃rvs,zav wr w.heap.size 64 25 3 IR x5 rvs ((zdo m bs).take i))∧Hid (Below w.heap.size w wr)) (fun _ x _=>n-(intOf x).toNat)
 case atStart=>exact⟨0,rfl,by omega,zHi ⟨[],OwnR.nil _ _ _ _ _,rfl,fun i u l h=>by simp at h,fun l h=>by simp at h,fun i j u u' h=>by simp at h⟩,Below.refl _ w⟩
 case round=>
  obtain⟨i,rfl,hi,HO,HB⟩:=hrel;by_cases hin:i<n
  ·obtain⟨l,hl⟩:∃l,m[i]? = some l:=⟨_,List.getElem?_eq_getElem (by rw [HN.out];exact hin)⟩;have hl9:=HNE.out l (List.mem_of_getElem? hl);obtain⟨hi',row,hrl,hcell,u,rfl,hu⟩:=zah.at' (zah.below HM.out HB.out (zaF.below HB.out)) hl;have x0:=hcell 0 u rfl;have HL:=zHi hl;obtain⟨al,cl,rfl⟩:=zah.some hu hl9.1;obtain⟨rvs,hm⟩:=HO.out;have HMR:=zHi hm;have hlen:rvs.length=i:=by rw [←hm.len,List.length_take,zjS,HN.out];omega
   have hblk:∀(i:Nat) (u':Value) (b:Nat),rvs[i]? = some u'→u'.ownBlock=some b→b<wr.heap.size:=fun k u' b q1 q2=>by
    have hk:k<((zdo m bs).take i).length:=by rw [hm.len];exact(List.getElem?_eq_some_iff.1 q1).1
    exact(hm.row k u' _ q1 (List.getElem?_eq_getElem hk)).lt q2
   obtain⟨oo,cc,hof⟩:=hm.top.form;rw [hlen]at hof;have HLen:=zHi hlen;have HBlk:=zHi hblk;clear hm hlen hblk HO;subst hof;obtain⟨nl,hnl⟩:∃n,l.length=n:=⟨_,rfl⟩;have HU:=zHi hu;have HNL:=zHi hnl;rw [hnl]at HU x0 hl9;rw [Addr.add_add,Nat.add_zero,Nat.mul_one]at x0;clear hcell hl hu hrl hi' hnl;gi_wp2_with (gi_at_call 121;refine stop ?_)
   unfold Stop;refine(zi9 wr _ l HU.out (by rw [HNL.out];exact hl9.1) (by rw [HNL.out];exact hl9.2)).mono ?_;rintro e w2 ⟨vr,rfl,hr,hB⟩;obtain⟨orr,cr,rfl⟩:=hr.form;rw [HNL.out]at hr;rw [HNL.out];have HB2:=zHi (HB.out.trans (hB.mono HB.out.size));have HO2:=zHi (HMR.out.below hB (IR.below hB));have HBr:=zHi hB;have HR2:=zHi hr;clear hr hB x0;have hnext:∀l',l'=l ++ (bs[i]?).toList→(zdo m bs).take i ++ [l']=(zdo m bs).take (i+1):=fun l' e=>by
    rw [List.take_add_one,zqS HL.out,e];rfl
   have HNext:=zHi hnext;clear hnext;by_cases hib:i<nb
   ·obtain⟨q,hq⟩:∃q,bs[i]? = some q:=⟨_,List.getElem?_eq_getElem (by rw [HNB.out];exact hib)⟩;have HQ:=zHi hq;have hV2:RowR w2 (.slice ob nb cb) bs:=zah.below HV.out HB2.out (IR.below HB2.out);obtain⟨a2,rfl⟩:∃a,ob=some a:=by
     rcases hV2 with⟨h0,_⟩|⟨a,cap,xs,e,_⟩
     ·rw [h0]at hq;simp at hq
     ·injection e with e _ _;exact⟨a,e⟩
    obtain⟨hal,sg,o1,k1,c1,o2,k2,c2,x0,x1,x2,hra⟩:=zah.item hV2 hq;have HRA:=zHi hra;clear hV2 hra hq;gi_wp2_with (gi_at_builtin;refine stop ?_)
    unfold Stop;obtain⟨sr,hsr⟩:∃sr,decide (q.num<0)=sr:=⟨_,rfl⟩;have hsg:=zao.form HRA.out;have hst:sg=decide (q.num<0):=by
     obtain⟨_,_,_,_,_,_,e⟩:=hsg;injection e with e;injection e with e;injection e with e;injection e with e
    refine zdi (ty:=25) (sz:=3) (bytes:=56) w2 rfl _ _ rfl Go.Num.u64 i25' i25z i25s i25b rfl (by decide) (by decide) wr.heap.size HBr.out.size (.slice orr nl cr) l rfl HR2.out q [.bool sg,.slice o1 k1 c1,.slice o2 k2 c2] _ rfl rfl (by simp [Value.oneCell']) HRA.out (fun b r w1 w2 ht=>IR.touch ht rfl b r) (by rw [HNL.out];omega) ?_;intro v3 w3 HO3 HK3 HB3;have hBr3:=HB3.out wr.heap.size wr HBr.out (Nat.le_refl _);have HM3:=zHi (HMR.out.below hBr3 (IR.below hBr3));have HB4:=zHi (HB.out.trans (hBr3.mono HB.out.size));obtain⟨o3,c3,hv3⟩:=HO3.out.form;have hl3:(l ++ [q]).length=nl+1:=by rw [List.length_append,HNL.out];rfl
    rw [hl3]at hv3;subst hv3;have HL3:=zHi hl3;clear hBr3 hl3 x0 x1 x2 hal hsg hst hsr;gi_wp2_with (gi_at_builtin;refine stop ?_)
    unfold Stop;refine zj1 w3 zs5 rfl _ _ rfl w.heap.size wr.heap.size HB4.out.size (.slice oo i cc) rfl HM3.out _ HO3.out HB.out.size (by rw [HL3.out];omega) HBlk.out _ rfl (by rw [HLen.out];omega) ?_;intro v4 w4 HM4 HB5;have HB6:=zHi (HB5.out w.heap.size w HB4.out (Nat.le_refl _));have HM5:Hid (∃rvs,zav w4 w.heap.size 64 25 3 IR v4 rvs ((zdo m bs).take (i+1))):=zHi ⟨_,by rw [←HNext.out (l ++ [q]) (by rw [HQ.out];rfl)];exact HM4.out⟩;gi_wp2;exact⟨⟨i+1,by go_num,by omega,HM5,HB6⟩,by simp only [intOf];omega⟩
   ·have hq:bs[i]? = none:=List.getElem?_eq_none (by rw [HNB.out];omega);have HQ:=zHi hq;clear hq;gi_wp2_with (gi_at_builtin;refine stop ?_)
    unfold Stop;refine zj1 w2 zs5 rfl _ _ rfl w.heap.size wr.heap.size HB2.out.size (.slice oo i cc) rfl HO2.out _ HR2.out HB.out.size (by rw [HNL.out];omega) HBlk.out _ rfl (by rw [HLen.out];omega) ?_;intro v4 w4 HM4 HB5;have HB6:=zHi (HB5.out w.heap.size w HB2.out (Nat.le_refl _));have HM5:Hid (∃rvs,zav w4 w.heap.size 64 25 3 IR v4 rvs ((zdo m bs).take (i+1))):=zHi ⟨_,by rw [←HNext.out l (by rw [HQ.out];simp)];exact HM4.out⟩;gi_wp2;exact⟨⟨i+1,by go_num,by omega,HM5,HB6⟩,by simp only [intOf];omega⟩
  ·have hin2:i=n:=by omega
   have HE:Hid ((zdo m bs).take i=zdo m bs):=zHi (by rw [hin2,←HN.out,←zjS m bs,List.take_length]);gi_wp2;all_goals (first|go_returns|go_ret|go_end0)
   obtain⟨rvs,hm⟩:=HO.out;exact⟨_,rvs,rfl,by rw [←HE.out];exact hm,HB.out⟩
end Go.Num
namespace Go.Num
def zca(l:List Rat):Rat:=l.foldl (· * ·) 1
theorem zgu(l:List Rat)(x:Rat):zca (l ++ [x])=zca l*x:=by unfold zca;rw [List.foldl_append];rfl
def zbc(m:Nat)(P0:Nat→Nat→Rat):Nat→List Rat
 | 0 => []
 | c+1=>if pRow m c (pRun m P0 c)=m then zbc m P0 c else zbc m P0 c ++ [(pRun m P0 c).P (pRow m c (pRun m P0 c)) c]
structure RS where
 A:Nat→Nat→Int
 last:Int
 turns:Nat
 k:Nat
def nzA(A:Nat→Nat→Int)(cc i:Nat):Bool:=decide (A i cc≠0)
def rRow(m cc:Nat)(t:RS):Nat:=fnz (nzA t.A cc) (m-t.k) t.k
def zsE(m cc:Nat)(t:RS):RS:=if rRow m cc t=m then t else⟨zeA (fun i=>t.A (zaY t.k (rRow m cc t) i)) t.k cc t.last,t.A (rRow m cc t) cc,t.turns+(if rRow m cc t=t.k then 0 else 1),t.k+1⟩
def rRun(m:Nat)(A0:Nat→Nat→Int):Nat→RS
 | 0=>⟨A0,1,0,0⟩
 | c+1=>zsE m c (rRun m A0 c)
structure zmb(N m X F:Nat)(g0:Nat→Rat)(c:Nat)(s:PS)(t:RS)(cs:List Nat)(ps:List Rat)(U:Nat→Nat→Rat)(cf:Nat→Nat)(g:Nat→Rat):Prop where
 k:t.k=s.k
 E:Elim N m X U cf s.k
 P:zdq N m U g s.P
 R:zdu N m U cf s.k t.A t.last
 lt:∀l,l<s.k→cf l<c
 col:∀l,l<s.k→cs[l]? = some (cf l)
 csl:cs.length=s.k
 g1:∀i,i<m→RatB 1 F (g i)
 gs:zcQ g m=pm t.turns*zcQ g0 m
 prod:zca ps=zcQ g s.k*zaJ U cf s.k
theorem RatB.neg{X Y:Nat}{q:Rat}(h:RatB X Y q):RatB X Y (-q):=by
 obtain⟨x,y,h1,rfl,h2,h3⟩:=h;refine⟨-x,y,h1,?_,by rw [Int.natAbs_neg];exact h2,h3⟩;have:=zb6 h1;rw [Rat.intCast_neg];grind
theorem zlR{p q:Nat→Bool}:∀{n r:Nat},(∀i,r≤i→i<r+n→p i=q i)→fnz p n r=fnz q n r
 | 0,r,_=>rfl
 | n+1,r,h=>by
  unfold fnz;rw [h r (Nat.le_refl _) (by omega),zlR (n:=n) (r:=r+1) (fun i h1 h2=>h i (by omega) (by omega))]
section
variable {N m X F c:Nat} {g0:Nat→Rat} {s:PS} {t:RS} {cs:List Nat} {ps:List Rat} {U:Nat→Nat→Rat} {cf:Nat→Nat} {g:Nat→Rat}
theorem zmb.row(h:zmb N m X F g0 c s t cs ps U cf g)(hc:c<N):rRow m c t=pRow m c s:=by
 have hk:=h.E.hk;unfold rRow pRow;rw [h.k];refine zlR fun i h1 h2 => ?_
 have him:i<m:=by omega
 unfold nzA nzP;have e1:=zdu.zero h.E h.R h1 him hc;have e2:=zdq.zero h.P him hc;rw [decide_eq_decide];exact not_congr (e1.trans e2.symm)
theorem zmb.step(h:zmb N m X F g0 c s t cs ps U cf g)(hc:c<N) :
  ∃U' cf' g',zmb N m X F g0 (c+1) (zdm m c s) (zsE m c t) (if pRow m c s=m then cs else cs ++ [c]) (if pRow m c s=m then ps else ps ++ [s.P (pRow m c s) c]) U' cf' g':=by
 have hrow:=h.row hc;unfold zdm zsE;rw [hrow];by_cases e:pRow m c s=m
 ·rw [if_pos e,if_pos e,if_pos e,if_pos e];exact⟨U,cf,g,h.k,h.E,h.P,h.R,fun l hl=>Nat.lt_succ_of_lt (h.lt l hl),h.col,h.csl,h.g1,h.gs,h.prod⟩
 ·rw [if_neg e,if_neg e,if_neg e,if_neg e];have hk:=h.E.hk;obtain⟨r,hr⟩:∃r,pRow m c s=r:=⟨_,rfl⟩;have hge:=zlQ (nzP s.P c) (m-s.k) s.k;have hge1:s.k≤r:=by rw [←hr];exact hge.1
  have hrm:r<m:=by
   have:=hge.2;have q:pRow m c s≤m:=by unfold pRow;omega
   omega
  have hhit:s.P r c≠0:=by
   have:=zm2 (p:=nzP s.P c) (n:=m-s.k) (r:=s.k) (by
    show pRow m c s<_
    omega)
   unfold nzP at this;have:=of_decide_eq_true this;rw [←hr];exact this
  rw [hr];have hkm:s.k<m:=by omega
  obtain⟨V,hV⟩:∃V,(fun i=>U (zaY s.k r i))=V:=⟨_,rfl⟩;obtain⟨B,hB⟩:∃B,(fun i=>t.A (zaY s.k r i))=B:=⟨_,rfl⟩;have hE1:=h.E.swap hge1 hrm;have hP1:=h.P.swap hkm hrm;have hR1:=h.R.swap hge1 hrm;rw [hV]at hE1 hP1 hR1;rw [hB]at hR1;have hVk:V s.k=U r:=by rw [←hV];show U (zaY s.k r s.k)=U r;unfold zaY;rw [if_pos rfl]
  have hBk:B s.k=t.A r:=by rw [←hB];show t.A (zaY s.k r s.k)=t.A r;unfold zaY;rw [if_pos rfl]
  have hU0:V s.k c≠0:=by
   rw [hVk];exact fun q=>hhit ((h.P.zero hrm hc).2 q)
  have hE2:=hE1.step hkm hc h.lt hU0;have hP2:=hP1.step hkm hc hU0;have hR2:=(zdu.step hE1 hR1 hkm hc h.lt hU0).1;have ecf:∀l,l<s.k→colP cf s.k c l=cf l:=fun l hl=>by unfold colP;rw [if_neg (by omega)]
  have ecfk:colP cf s.k c s.k=c:=by unfold colP;rw [if_pos rfl]
  have egs:∀i,i<s.k→zeJ g s.k r i=g i:=fun i hi=>by
   unfold zeJ;split
   ·rfl
   ·rw [if_neg (by omega),if_neg (by omega)]
  have egk:zeJ g s.k r s.k=g r:=by
   unfold zeJ;split
   ·rename_i e;rw [e]
   ·rw [if_pos rfl]
  refine⟨zaV V s.k c,colP cf s.k c,zeJ g s.k r,?_,hE2,hP2,?_,fun l hl => ?_,fun l hl => ?_,?_,fun i hi => ?_,?_,?_⟩
  ·show t.k+1=s.k+1
   rw [h.k]
  ·show zdu N m (zaV V s.k c) (colP cf s.k c) (s.k+1) (zeA (fun i=>t.A (zaY t.k r i)) t.k c t.last) (t.A r c)
   rw [h.k,hB,←hBk];exact hR2
  ·rcases Nat.lt_or_ge l s.k with hl'|hl'
   ·rw [ecf l hl'];have:=h.lt l hl';omega
   ·have:l=s.k:=Nat.le_antisymm (Nat.lt_succ_iff.1 hl) hl';rw [this,ecfk];exact Nat.lt_succ_self _
  ·rcases Nat.lt_or_ge l s.k with hl'|hl'
   ·rw [List.getElem?_append_left (by rw [h.csl];exact hl'),h.col l hl',ecf l hl']
   ·have:l=s.k:=Nat.le_antisymm (Nat.lt_succ_iff.1 hl) hl';rw [this,List.getElem?_append_right (by rw [h.csl];exact Nat.le_refl _),h.csl,Nat.sub_self,ecfk];rfl
  ·show(cs ++ [c]).length=s.k+1
   rw [List.length_append,h.csl];rfl
  ·unfold zeJ;split
   ·exact h.g1 i hi
   ·split
    ·exact h.g1 r hrm
    ·split
     ·exact(h.g1 s.k hkm).neg
     ·exact h.g1 i hi
  ·show zcQ (zeJ g s.k r) m=pm (t.turns+(if r=t.k then 0 else 1))*zcQ g0 m
   rw [h.k];by_cases q:r=s.k
   ·rw [if_pos q,Nat.add_zero,←h.gs,q];exact zd3 fun i _=>by unfold zeJ;rw [if_pos rfl]
   ·rw [if_neg q,zoU hkm hrm (fun e=>q e.symm) h.P.ne,h.gs,zkn];grind
  ·rw [zgu,h.prod];show zcQ g s.k*zaJ U cf s.k*s.P r c=(zcQ (zeJ g s.k r) s.k*zeJ g s.k r s.k)*(zaV V s.k c s.k (colP cf s.k c s.k)*zaJ (zaV V s.k c) (colP cf s.k c) s.k)
   have q1:zcQ (zeJ g s.k r) s.k=zcQ g s.k:=zd3 fun i hi=>egs i hi
   have q2:zaJ (zaV V s.k c) (colP cf s.k c) s.k=zaJ U cf s.k:=zcs fun l hl=>by
    rw [ecf l hl];show(if l=s.k then V s.k else fun j=>V l j + -(V l c/V s.k c)*V s.k j) (cf l)=_
    rw [if_neg (by omega)];show V l (cf l) + -(V l c/V s.k c)*V s.k (cf l)=_
    rw [hE1.zero s.k hkm l hl (by omega),←hV];show U (zaY s.k r l) (cf l)+_*0=_
    have:zaY s.k r l=l:=by unfold zaY;rw [if_neg (by omega),if_neg (by omega)]
    rw [this];grind
   have q3:zaV V s.k c s.k=V s.k:=by unfold zaV;rw [if_pos rfl]
   rw [q1,q2,q3,ecfk,egk,hVk,h.P.row r hrm c hc];grind
end
theorem zmT{N m X F:Nat}{g0:Nat→Rat}{U0 P0:Nat→Nat→Rat}{A0:Nat→Nat→Int}(hA:∀i,i<m→∀j,j<N→(A0 i j:Rat)=U0 i j)(hX:∀i,i<m→∀j,j<N→(A0 i j).natAbs≤X)(hg:∀i,i<m→g0 i≠0)(hgF:∀i,i<m→RatB 1 F (g0 i))
  (hP:∀i,i<m→∀j,j<N→P0 i j=g0 i*U0 i j):∀c,c≤N→∃U cf g,zmb N m X F g0 c (pRun m P0 c) (rRun m A0 c) (zay m P0 c) (zbc m P0 c) U cf g
 | 0,_=>⟨U0,fun _=>0,g0,rfl,Elim.start (fun i hi j hj=>⟨A0 i j,(hA i hi j hj).symm,hX i hi j hj⟩),⟨hg,hP⟩,zdu.start hA,fun l hl=>absurd hl (Nat.not_lt_zero _),fun l hl=>absurd hl (Nat.not_lt_zero _),rfl,hgF,by
   show zcQ g0 m=pm 0*zcQ g0 m
   unfold pm;rw [if_pos rfl];grind,by
   show zca []=zcQ g0 0*zaJ U0 _ 0
   show(1:Rat)=1*1
   grind⟩
 | c+1,hc=>by
  obtain⟨U,cf,g,h⟩:=zmT hA hX hg hgF hP c (Nat.le_of_succ_le hc);exact h.step (Nat.lt_of_succ_le hc)
end Go.Num
namespace Go.Num
open Go.Eng Go.Shelf Go.RowKit Go.Sort Go.Proofs Go.Proofs.YtoamcgjbelhnkaaGreatDoor
attribute [local go_sem] Oper.semAt_some
theorem zhZ(m:Nat)(P0:Nat→Nat→Rat):∀c,(zbc m P0 c).length=(pRun m P0 c).k
 | 0=>rfl
 | c+1=>by
  have ih:=zhZ m P0 c;show(if pRow m c (pRun m P0 c)=m then zbc m P0 c else zbc m P0 c ++ [(pRun m P0 c).P (pRow m c (pRun m P0 c)) c]).length=(zdm m c (pRun m P0 c)).k
  unfold zdm;split
  ·exact ih
  ·rw [List.length_append,ih];rfl
theorem zlr(m:Nat)(P0:Nat→Nat→Rat)(c:Nat):∀d,∃t,zbc m P0 (c+d)=zbc m P0 c ++ t
 | 0=>⟨[],by simp⟩
 | d+1=>by
  obtain⟨t,ht⟩:=zlr m P0 c d;show ∃t',(if pRow m (c+d) (pRun m P0 (c+d))=m then zbc m P0 (c+d)else zbc m P0 (c+d) ++ [(pRun m P0 (c+d)).P (pRow m (c+d) (pRun m P0 (c+d))) (c+d)])=_
  split
  ·exact⟨t,ht⟩
  ·exact⟨t ++ [_],by rw [ht,List.append_assoc]⟩
theorem zjz{m:Nat}{P0:Nat→Nat→Rat}{c n:Nat}(h:c≤n):(zbc m P0 n).take (pRun m P0 c).k=zbc m P0 c:=by
 obtain⟨t,ht⟩:=zlr m P0 c (n-c);rw [show c+(n-c)=n by omega]at ht;rw [ht,←zhZ,List.take_left]
theorem zoZ{m:Nat}{P0:Nat→Nat→Rat}{c n:Nat}(h:c<n)(hr:pRow m c (pRun m P0 c)<m):(zbc m P0 n).take ((pRun m P0 c).k+1)=(zbc m P0 n).take (pRun m P0 c).k ++ [(pRun m P0 c).P (pRow m c (pRun m P0 c)) c]:=by
 have h1:=zjz (m:=m) (P0:=P0) (c:=c+1) (n:=n) h;have e:(pRun m P0 (c+1)).k=(pRun m P0 c).k+1:=by
  show(zdm m c (pRun m P0 c)).k=_
  unfold zdm;rw [if_neg (by omega)]
 rw [e]at h1;rw [h1,zjz (by omega)];show(if pRow m c (pRun m P0 c)=m then zbc m P0 c else zbc m P0 c ++ [_])=_
 rw [if_neg (by omega)]
theorem zkl:∀(l:List Rat),(∀q∈l,zar q 700)→∀k,zar (zca (l.take k)) (700*k+1)
 | l,h,0=>by rw [List.take_zero];exact⟨by show(1:Rat).num.natAbs<B^1;decide,by show(1:Rat).den<B^1;decide⟩
 | l,h,k+1=>by
  rw [List.take_add_one]
  cases e:l[k]? with
  | none=>rw [show(none:Option Rat).toList = []from rfl,List.append_nil];exact(zkl l h k).mono (by omega)
  | some q=>
   rw [show(some q).toList = [q]from rfl,zgu];exact(zdB (zkl l h k) (h q (List.mem_of_getElem? e))).mono (by omega)
structure DtS(w0:World)(g1 g2 g3:Nat)(ps:List Rat)(k:Nat)(w:World):Prop where
 below:Below w0.heap.size w0 w
 ret:∃f,zaf w g1 3 f
 e1:Elem w g1 25
 acc:∃f,zaf w g2 3 f∧zao w (.agg #[f 0,f 1,f 2]) (zca (ps.take k))
 e2:Elem w g2 25
 cnt:zaf w g3 1 (fun _ => .int .i64 (k:Int))
 e3:Elem w g3 3
section
variable {w0 w w':World} {g1 g2 g3 k:Nat} {ps:List Rat}
theorem DtS.of(h:DtS w0 g1 g2 g3 ps k w)(hb:Below w0.heap.size w0 w')(hk:Go.Eng.Kept rs3 w w')(hc:∀b,b=g1∨b=g2∨b=g3→w'.heap[b]? = w.heap[b]?):DtS w0 g1 g2 g3 ps k w':=by
 have ha:∀{b n:Nat} {f:Nat→Value},zaf w b n f→w'.heap[b]? = w.heap[b]? → zaf w' b n f:=fun h e i hi=>by
  rw [World.cell?_of_block (a:=⟨_,i,none⟩) e,World.frozen?_of_block (a:=⟨_,i,none⟩) e];exact h i hi
 obtain⟨f1,h1⟩:=h.ret;obtain⟨f2,h2,h3⟩:=h.acc;exact⟨hb,⟨f1,ha h1 (hc _ (.inl rfl))⟩,h.e1.of_block (hc _ (.inl rfl)),⟨f2,ha h2 (hc _ (.inr (.inl rfl))),zao.kept h3 hk⟩,h.e2.of_block (hc _ (.inr (.inl rfl))),ha h.cnt (hc _ (.inr (.inr rfl))),h.e3.of_block (hc _ (.inr (.inr rfl)))⟩
theorem DtS.lt(h:DtS w0 g1 g2 g3 ps k w){b:Nat}(hb:b=g1∨b=g2∨b=g3):∃cs e fz,w.heap[b]? = some (.cells cs e fz)∧b<w.heap.size:=by
 have:∀{b e:Nat},Elem w b e→∃cs e fz,w.heap[b]? = some (.cells cs e fz)∧b<w.heap.size:=fun⟨cs,fz,q⟩=>⟨cs,_,fz,q,(Array.getElem?_eq_some_iff.1 q).1⟩
 rcases hb with rfl|rfl|rfl
 ·exact this h.e1
 ·exact this h.e2
 ·exact this h.e3
theorem DtS.under(h:DtS w0 g1 g2 g3 ps k w)(hb:Below w.heap.size w w'):DtS w0 g1 g2 g3 ps k w':=
 h.of (h.below.trans (hb.mono h.below.size)) (fun b cs e fz hc _=>(hb.block b (Array.getElem?_eq_some_iff.1 hc).1).trans hc) (fun b q=>by
  obtain⟨_,_,_,_,hl⟩:=h.lt q;exact hb.block b hl)
theorem DtS.keepC{g l:Nat}(h:DtS w0 g1 g2 g3 ps k w)(hk:zma g l w w')(hg:g1<g∧g2<g∧g3<g)(hl:g<l)(hs:w0.heap.size≤g1):DtS w0 g1 g2 g3 ps k w':=by
 have:=h.lt (.inl rfl);obtain⟨_,_,_,_,hl1⟩:=this;exact h.of (hk.below h.below (by omega) (by omega) (by omega)) hk.kept (fun b q=>by
  obtain⟨_,_,_,_,hlb⟩:=h.lt q;exact hk.blk b hlb (by omega) (by omega))
end
theorem zaf.other{w w':World}{g n:Nat}{f:Nat→Value}(h:zaf w g n f)(e:w'.heap[g]? = w.heap[g]?):zaf w' g n f:=fun i hi=>by
 rw [World.cell?_of_block (a:=⟨g,i,none⟩) e,World.frozen?_of_block (a:=⟨g,i,none⟩) e];exact h i hi
theorem DtS.turn{w0 w:World}{g1 g2 g3 k:Nat}{ps:List Rat}(h:DtS w0 g1 g2 g3 ps k w)(h1:g1<g2)(h2:g2<g3)(hs:w0.heap.size≤g1){a b c:Value}(hr:zao w (.agg #[a,b,c]) (zca (ps.take (k+1)))) :
  DtS w0 g1 g2 g3 ps (k+1) ((((w.setCell ⟨g2,0,none⟩ a).setCell ⟨g2,1,none⟩ b).setCell ⟨g2,2,none⟩ c).setCell ⟨g3,0,none⟩ (.int .i64 ((k+1:Nat):Int))):=by
 have n1:∀(W:World) (i:Nat) (v:Value) (b:Nat),b≠g2→(W.setCell ⟨g2,i,none⟩ v).heap[b]? = W.heap[b]?:=fun W i v b hb=>heap_setCell_other _ _ _ _ hb
 have n2:∀(W:World) (i:Nat) (v:Value) (b:Nat),b≠g3→(W.setCell ⟨g3,i,none⟩ v).heap[b]? = W.heap[b]?:=fun W i v b hb=>heap_setCell_other _ _ _ _ hb
 obtain⟨f1,hf1⟩:=h.ret;obtain⟨f2,hf2,_⟩:=h.acc;refine⟨(((h.below.setCell (p:=⟨g2,0,none⟩) (by show _≤g2;omega) _).setCell (p:=⟨g2,1,none⟩) (by show _≤g2;omega) _).setCell (p:=⟨g2,2,none⟩) (by show _≤g2;omega) _).setCell (p:=⟨g3,0,none⟩) (by show _≤g3;omega) _,
  ⟨f1,hf1.other (by rw [n2 _ _ _ _ (by omega),n1 _ _ _ _ (by omega),n1 _ _ _ _ (by omega),n1 _ _ _ _ (by omega)])⟩,(((h.e1.setCell _ _).setCell _ _).setCell _ _).setCell _ _,
  ⟨_,(((hf2.set (i:=0) (by omega) a).set (i:=1) (by omega) b).set (i:=2) (by omega) c).other (n2 _ _ _ _ (by omega)),?_⟩,(((h.e2.setCell _ _).setCell _ _).setCell _ _).setCell _ _,?_,(((h.e3.setCell _ _).setCell _ _).setCell _ _).setCell _ _⟩
 ·exact(((hr.setElem (i:=0) (u:=a) h.e2 (by decide)).setElem (i:=1) (u:=b) (h.e2.setCell _ _) (by decide)).setElem (i:=2) (u:=c) ((h.e2.setCell _ _).setCell _ _) (by decide)).setElem (i:=0) (u:=.int .i64 ((k+1:Nat):Int)) (((h.e3.setCell _ _).setCell _ _).setCell _ _) (by decide)
 ·refine(zaf.set (h.cnt.other (by rw [n1 _ _ _ _ (by omega),n1 _ _ _ _ (by omega),n1 _ _ _ _ (by omega)])) (i:=0) (by omega) _).congr (fun i hi => ?_);have:i=0:=by omega
  rw [if_pos this]
theorem zrd{w:World}{g2 g3:Nat}{a b c d:Value}{e2 e3:TypeId}(h2:Elem w g2 e2)(h3:Elem w g3 e3):NoC w ((((w.setCell ⟨g2,0,none⟩ a).setCell ⟨g2,1,none⟩ b).setCell ⟨g2,2,none⟩ c).setCell ⟨g3,0,none⟩ d):=by
 obtain⟨cs,fz,h2⟩:=h2;have h3':=((h3.setCell ⟨g2,0,none⟩ a).setCell ⟨g2,1,none⟩ b).setCell ⟨g2,2,none⟩ c;obtain⟨cs3,fz3,h3'⟩:=h3';exact((zal g2 [a,b,c] 0 w).noC h2).trans ((zal g3 [d] 0 _).noC h3')
theorem zre{w:World}{g2 g3:Nat}{a b c d:Value}{e2 e3:TypeId}{X:Nat→TypeId→Prop}(h2:Elem w g2 e2)(h3:Elem w g3 e3)(x2:X g2 e2)(x3:X g3 e3):FrX X w ((((w.setCell ⟨g2,0,none⟩ a).setCell ⟨g2,1,none⟩ b).setCell ⟨g2,2,none⟩ c).setCell ⟨g3,0,none⟩ d):=by
 have k2:=zal g2 [a,b,c] 0 w;have k3:=zal g3 [d] 0 (w.setCells g2 0 [a,b,c]);refine⟨Nat.le_trans k2.size k3.size,fun b cs e fz hb hx => ?_⟩;obtain⟨_,_,h2⟩:=h2;obtain⟨_,_,h3⟩:=h3;have n2:b≠g2:=fun q=>by subst q;rw [h2]at hb;cases hb;exact hx x2
 have n3:b≠g3:=fun q=>by subst q;rw [h3]at hb;cases hb;exact hx x3
 have hl:=(Array.getElem?_eq_some_iff.1 hb).1;exact((k3.blk b (Nat.lt_of_lt_of_le hl k2.size) n3).trans (k2.blk b hl n2)).trans hb
theorem BoxL.put{w w':World}{g:Nat}{xs:List Value}{e:TypeId}(h:BoxL w g xs)(hE:Elem w g e)(hp:PutC w w'):BoxL w' g xs:=by
 obtain⟨cs,fz,hE⟩:=hE;refine⟨by rw [hp.size];exact h.1,fun j v hj => ?_⟩;have e:w'.heap[g]? = w.heap[g]?:=by rw [hp.blk _ _ _ _ hE,hE]
 rw [World.cell?_of_block (a:=⟨g,j,none⟩) e];exact h.2 j v hj
theorem PutC.kept{w w':World}(h:PutC w w'):Go.Eng.Kept rs3 w w':=fun b cs e fz hc _=>h.blk b cs e fz hc
theorem zqK{w W:World}{g1 r:Nat}{f:Nat→Value}{a b c:Value}{D:Rat}(hf:zaf W g1 3 f)(hE:Elem W g1 25)(hr:zao W (.agg #[a,b,c]) D)(hB:Below w.heap.size w W)(hs:w.heap.size≤g1)(hm:W.heap[r]? = some (.deferred (some [])))(hsr:w.heap.size≤r) :
  (((W.setCell ⟨g1,0,none⟩ a).setCell ⟨g1,1,none⟩ b).setCell ⟨g1,2,none⟩ c).heap[r]? = some (.deferred (some []))∧zao ((((W.setCell ⟨g1,0,none⟩ a).setCell ⟨g1,1,none⟩ b).setCell ⟨g1,2,none⟩ c).putObj r (.deferred none)) (.agg #[a,b,c]) D ∧
  Below w.heap.size w ((((W.setCell ⟨g1,0,none⟩ a).setCell ⟨g1,1,none⟩ b).setCell ⟨g1,2,none⟩ c).putObj r (.deferred none))∧Box3 ((((W.setCell ⟨g1,0,none⟩ a).setCell ⟨g1,1,none⟩ b).setCell ⟨g1,2,none⟩ c).putObj r (.deferred none)) g1 a b c:=by
 have hne:r≠g1:=fun e=>by
  obtain⟨cs,fz,hE⟩:=hE;rw [e,hE]at hm;cases hm
 have h1:(((W.setCell ⟨g1,0,none⟩ a).setCell ⟨g1,1,none⟩ b).setCell ⟨g1,2,none⟩ c).heap[r]? = some (.deferred (some [])):=by
  rw [heap_setCell_other _ _ _ _ hne,heap_setCell_other _ _ _ _ hne,heap_setCell_other _ _ _ _ hne];exact hm
 have hp:=zhU (o':=.deferred none) h1 rfl;have ha:=((hf.set (i:=0) (by omega) a).set (i:=1) (by omega) b).set (i:=2) (by omega) c;have h2:=((hr.setElem (i:=0) (u:=a) hE (by decide)).setElem (i:=1) (u:=b) (hE.setCell _ _) (by decide)).setElem (i:=2) (u:=c) ((hE.setCell _ _).setCell _ _) (by decide);have h3:=((hB.setCell (p:=⟨g1,0,none⟩) hs a).setCell (p:=⟨g1,1,none⟩) hs b).setCell (p:=⟨g1,2,none⟩) hs c;have hg:=grownBy_putObj' (((W.setCell ⟨g1,0,none⟩ a).setCell ⟨g1,1,none⟩ b).setCell ⟨g1,2,none⟩ c) r (.deferred none);refine⟨h1,h2.kept hp.kept,⟨hg.os.trans h3.os,hg.tape.trans h3.tape,hg.output.trans h3.output,Nat.le_trans h3.size hg.size,fun k hk=>(World.putObj_heap_other (by omega)).trans (h3.block k hk)⟩,fun j v hj => ?_⟩;rw [World.cell?_of_block (a:=⟨g1,j,none⟩) (World.putObj_heap_other (Ne.symm hne))];match j,hj with
 | 0,hj=>rw [←hj];exact(ha 0 (by omega)).1
 | 1,hj=>rw [←hj];exact(ha 1 (by omega)).1
 | 2,hj=>rw [←hj];exact(ha 2 (by omega)).1
 | n+3,hj=>simp at hj
theorem lo55:zcB Tryz.prog 55:=zbP (by kernel_rfl)
theorem zff(m:List (List Rat)):zdo m []=m:=by
 unfold zdo;refine List.ext_getElem? fun i => ?_
 simp
theorem zpg(w:World)(gb n:Nat)(v:Value)(A0:Nat→Nat→Rat)(hb:w.cell? ⟨gb,0,none⟩=some v)(hm:MatR w v (tab n n A0))(h0:0<n)(h9:n≤8)(hT:zaU w)
  (hG:∀c,c≤n→Good n n (pRun n A0 c).P) (hK:(pRun n A0 n).k=n→zar (zca (zbc n A0 n)) 700) :
  CallsIn Fence.wide 0 Tryz.prog 98 #[.pointer (some ⟨gb,0,none⟩)] w fun e w'=>∃v',e = .returned v'∧zao w' v' (if(pRun n A0 n).k<n then 0 else zca (zbc n A0 n))∧Below w.heap.size w w':=by
 obtain⟨a,c,rfl⟩:=zah.some hm (by rw [zaq];exact h0);rw [zaq]at hb hm;have HM:=zHi hm;have HT:=zHi hT;have HG:=zHi hG;have HK:=zHi hK;have HB:=zHi hb;obtain⟨D,hD⟩:∃D,(if(pRun n A0 n).k<n then 0 else zca (zbc n A0 n))=D:=⟨_,rfl⟩;have HDD':=zHi hD;rw [hD];clear hm hT hG hK hb hD;refine callsIn_of_wp_marks Tryz.func98 rfl trivial ?_ rfl;simp only [Tryz.ntmps98,ztE,ztF,ztG,Nat.reduceAdd,Nat.reduceSub,ztH,ztI,ztJ,ztK,ztL,ztM];gi_wp2_with (gi_at_call 20;refine stop ?_)
 unfold Stop;refine(zh4 _ 1 (by decide) (by decide)).mono ?_;rintro e w1 ⟨v1,rfl,hr1,hB1⟩;obtain⟨o1,k1,c1,o2,k2,c2,rfl⟩:=hr1.form;obtain⟨sg,hsg⟩:∃sg,decide ((((1:Int):Rat)).num<0)=sg:=⟨_,rfl⟩;rw [hsg]at hr1;rw [hsg];have HR1:=zHi hr1;have HB1:=zHi hB1;obtain⟨g1,hg1⟩:∃g,w.heap.size=g:=⟨_,rfl⟩;obtain⟨g2,hg2⟩:∃g,w1.heap.size=g:=⟨_,rfl⟩;have HG1:=zHi hg1;have HG2:=zHi hg2;clear hr1 hB1 hsg hg1 hg2;gi_wp2;rw [HG1.out,HG2.out];obtain⟨W4,hW4⟩:∃W,(w1.alloc (.cells #[.bool sg,.slice o1 k1 c1,.slice o2 k2 c2] 25)).alloc (.cells #[.int .i64 0] 3)=W:=⟨_,rfl⟩;have hb1:=zaa w (.cells #[.bool false,.slice none 0 0,.slice none 0 0] 25);have hb2:Below w1.heap.size w1 W4:=by rw [←hW4];exact(zaa _ _).alloc (by simp) _
 have hbw:Below w.heap.size w W4:=(hb1.trans (HB1.out.mono hb1.size)).trans (hb2.mono (Nat.le_trans hb1.size HB1.out.size));have h12:g1<g2:=by
  rw [←HG1.out,←HG2.out];have:=HB1.out.size;rw [World.size_alloc]at this;omega
 have hs4:W4.heap.size=g2+2:=by rw [←hW4,←HG2.out];simp
 have hD:DtS w g1 g2 (g2+1) (zbc n A0 n) 0 W4:=by
  refine⟨hbw,⟨fun i => [.bool false,.slice none 0 0,.slice none 0 0].getD i (.bool false),?_⟩,?_,⟨fun i => [.bool sg,.slice o1 k1 c1,.slice o2 k2 c2].getD i (.bool false),?_,?_⟩,?_,?_,?_⟩
  ·rw [←HG1.out];refine zaf.below (B:=w1.heap.size) (zaf.below (B:=w.heap.size+1) (zaf.new w #[.bool false,.slice none 0 0,.slice none 0 0] 25 (fun i hi => ?_)) (by omega) (by have:=HB1.out;rw [World.size_alloc]at this;exact this)) (by rw [HG1.out,HG2.out];exact h12) hb2;have:i=0∨i=1∨i=2:=by omega
   rcases this with rfl|rfl|rfl <;> rfl
  ·rw [←HG1.out];exact((zaA w #[.bool false,.slice none 0 0,.slice none 0 0] 25).below HB1.out (by simp)).below hb2 (by rw [HG1.out,HG2.out];exact h12)
  ·rw [←HG2.out,←hW4];refine zaf.alloc (zaf.new w1 #[.bool sg,.slice o1 k1 c1,.slice o2 k2 c2] 25 (fun i hi => ?_)) (by simp) _;have:i=0∨i=1∨i=2:=by omega
   rcases this with rfl|rfl|rfl <;> rfl
  ·rw [List.take_zero];exact HR1.out.below hb2
  ·rw [←HG2.out,←hW4];exact(zaA w1 _ 25).below (zaa _ _) (by simp)
  ·rw [←HG2.out,←hW4];have:=zaf.new (w1.alloc (.cells #[.bool sg,.slice o1 k1 c1,.slice o2 k2 c2] 25)) #[.int .i64 0] 3 (n:=1) (f:=fun _ => .int .i64 ((0:Nat):Int)) (fun i hi=>by
    have:i=0:=by omega
    rw [this];rfl)
   rw [World.size_alloc]at this;exact this
  ·rw [←HG2.out,←hW4];have:=zaA (w1.alloc (.cells #[.bool sg,.slice o1 k1 c1,.slice o2 k2 c2] 25)) #[.int .i64 0] 3;rw [World.size_alloc]at this;exact this
 have HD:=zHi hD;have HS4:=zHi hs4;have HBW:=zHi hbw;rw [hW4];clear hW4 hb1 hb2 hbw hs4 hD HR1 HB1 HG2;have hbd:Below W4.heap.size W4 W4.drew:=zab W4;have HB4:=zHi ((hbd.cell (p:=⟨gb,0,none⟩) (World.block_lt_of_cell? _ _ ((HBW.out.cell (World.block_lt_of_cell? _ _ HB.out)).trans HB.out))).trans ((HBW.out.cell (World.block_lt_of_cell? _ _ HB.out)).trans HB.out));have HBD:=zHi (HBW.out.trans (hbd.mono HBW.out.size));have HDD:=zHi (HD.out.under hbd);have HSD:Hid (W4.drew.heap.size=g2+2):=zHi HS4.out;clear hbd HD HS4 HBW;refine zbf (ro:=none) [1,4] [0,2,3,1,4] [0,1,0,4,15] zaz rfl 26 rfl (by kernel_rfl) (by kernel_rfl) ?_;obtain⟨W5,hW5⟩:∃W,W4.drew=W:=⟨_,rfl⟩;rw [hW5]at HB4 HBD HDD HSD;rw [hW5];clear hW5;refine OV.ld lo55 HB4.out rfl rfl rfl rfl rfl ?_;refine OV.ld lo55 HB4.out rfl rfl rfl rfl rfl ?_;refine OV.len u55 rfl rfl rfl rfl ?_;refine OV.call (R:=fun v' w'=>∃rvs,zav w' W5.heap.size 64 25 3 IR v' rvs (tab n n A0)) [.slice (some a) n c,.slice none 0 0] Tryz.func80 rfl zai rfl rfl rfl rfl rfl ((zd9 W5 _ _ (tab n n A0) [] (zah.below HM.out HBD.out (zaF.below HBD.out)) (.inl ⟨rfl,none,0,rfl⟩) (by rw [zaq];exact h0) (by rw [zaq];omega) (fun l hl=>by rw [zgm hl];omega) (by simp)).mono (by
  rintro e w' ⟨v',rvs,h1,h2,h3⟩;rw [zff]at h2;exact⟨v',h1,⟨rvs,h2⟩,h3⟩)) fun v6 w6 hm6 hB6 => ?_
 obtain⟨gm,cm,hgm,hgm1,hgm2,curm,hgm3⟩:∃g cap,v6 = .slice (some ⟨g,0,none⟩) n cap∧W5.heap.size≤g∧g<w6.heap.size∧∃cur,w6.heap[g]? = some (.cells cur 64 (0,0)):=by
  obtain⟨rvs,hm⟩:=hm6;have hl:rvs.length=n:=by rw [←hm.len,zaq]
  obtain⟨g',c',e,h1,h2,h3⟩:=hm.top.own (by omega);exact⟨g',c',by rw [e,hl],h1,h2,h3⟩
 subst hgm;refine OV.call (R:=fun v' w'=>v' = .func (.func 134) #[] #[.pointer (some ⟨w6.heap.size+1,0,none⟩),.pointer (some ⟨w6.heap.size,0,none⟩)]∧w'=(w6.alloc (.cells #[.slice (some ⟨gm,0,none⟩) n cm] 116)).alloc (.cells #[.int .i64 (n:Int)] 3)) [.slice (some ⟨gm,0,none⟩) n cm,.int .i64 (n:Int)] Tryz.func99 rfl zai rfl rfl rfl rfl rfl ((zg0 w6 _ n ⟨_,_,_,rfl⟩).mono (by
  rintro e w' ⟨h1,rfl⟩;exact⟨_,h1,⟨rfl,rfl⟩,(zaa _ _).alloc (by simp) _⟩)) fun v7 w7 h7 hB7 => ?_
 obtain⟨rfl,hw7⟩:=h7;refine OV.done ?_;obtain⟨g5,hg5⟩:∃g,w6.heap.size=g:=⟨_,rfl⟩;have hs7:w7.heap.size=g5+2:=by rw [hw7,←hg5];simp
 have hb57:=hB6.trans (hB7.mono hB6.size);have hD7:=HDD.out.under hb57;have hb07:=HBD.out.trans (hb57.mono HBD.out.size);have hg56:g2+2≤g5:=by rw [←HSD.out,←hg5];exact hB6.size
 have hgm56:gm<g5:=by rw [←hg5];exact hgm2
 have hgmb:g2+2≤gm:=by rw [←HSD.out];exact hgm1
 have y6:w7.cell? ⟨g5,0,none⟩=some (.slice (some ⟨gm,0,none⟩) n cm):=by
  rw [hw7,←hg5];exact((zaP w6 [.slice (some ⟨gm,0,none⟩) n cm] 116).below (zaa _ _)).2 0 _ rfl
 have z6:Elem w7 g5 116:=by
  rw [hw7,←hg5];exact(zaA w6 _ 116).below (zaa _ _) (by simp)
 have y7:w7.cell? ⟨g5+1,0,none⟩=some (.int .i64 (n:Int)):=by
  rw [hw7];have:=(zaP (w6.alloc (.cells #[.slice (some ⟨gm,0,none⟩) n cm] 116)) [.int .i64 (n:Int)] 3).2 0 _ rfl;rw [World.size_alloc,hg5]at this;exact this
 have hb4:4≤g2+2:=by
  have:=HT.out.two;rw [HG1.out]at this;omega
 have hPS:Hid (PvS (g2+2) g5 gm cm n n (fun _ _=>True) A0 0 w7):=zHi (by
  obtain⟨rvs,hm⟩:=hm6;rw [HSD.out]at hm;exact⟨⟨rvs,hm.below hB7 (IR.below hB7)⟩,y6,z6,⟨curm,_,(hB7.block gm hgm2).trans hgm3⟩,HT.out.below hb07,hb4,trivial⟩)
 have HI0:Hid (∀w',Below w7.heap.size w7 w'→(∃L,w'.heap[w7.heap.size+1]? = some (.loop L))→DtS w g1 g2 (g2+1) (zbc n A0 n) 0 w'):=zHi (fun w' hb _=>hD7.under hb);have HY7:=zHi y7;have hbox7:=zHi ((hb57.cell (p:=⟨gb,0,none⟩) (World.block_lt_of_cell? _ _ HB4.out)).trans HB4.out);have hpl:∀q∈zbc n A0 n,zar q 700:=by
  have:∀c,c≤n→∀q∈zbc n A0 c,zar q 700:=by
   intro c;induction c with
   | zero=>intro _ q hq;simp [zbc]at hq
   | succ c ih=>
    intro hc q hq;unfold zbc at hq;split at hq
    ·exact ih (by omega) q hq
    ·rename_i hr;rcases List.mem_append.1 hq with hq|hq
     ·exact ih (by omega) q hq
     ·rw [List.mem_singleton.1 hq];have hrl:pRow n c (pRun n A0 c)<n:=by
       have:=zlQ (nzP (pRun n A0 c).P c) (n-(pRun n A0 c).k) (pRun n A0 c).k;have hk:=(zdG n A0 c).1;unfold pRow at hr ⊢;omega
      exact HG.out c (by omega) _ _ hrl (by omega)
  exact this n (Nat.le_refl _)
 have HPL:=zHi hpl;have HS7:=zHi hs7;have hgs:g1<gm∧g2<gm∧g2+1<gm:=by omega
 simp only [zbo,Go.Act.put,ztN,ztO,ztP];rw [hg5];clear hm6 hB6 hB7 hb57 hb07 hD7 y6 z6 y7 hw7 hg5 hpl HDD HBD HB4 HSD hgm1 hgm2 hgm3 hs7;gi_wp2;refine zgY (w0:=w7) rfl (g5+1) g5 (g2+2) gm cm n n n (DtS w g1 g2 (g2+1) (zbc n A0 n)) (fun b e=>b<g2+2∧4≤b∧(e=25∨e=3)) A0 rfl rfl h0 (by omega) h0 (by omega) (Nat.le_refl _) ?_ (fun b e hb _ q=>by have:=q.1;omega) (fun b q=>q.2.2.elim (fun h=>absurd h (by decide)) (fun h=>absurd h (by decide))) (fun e q=>by have:=q.2.1;omega) (by omega) HG.out ?_ hPS.out HI0.out HY7.out ?_
 ·intro k w1 w2 h hk;rw [HS7.out]at hk;exact h.keepC hk hgs (by omega) (by rw [HG1.out];exact Nat.le_refl _)
 ·intro cc W v q hcc hrow hq hq0 hRq hRv _ hsz hInv;rw [HS7.out]at hsz;obtain⟨vo1,vk1,vc1,vo2,vk2,vc2,rfl⟩:=hRv.form;obtain⟨sq,hsq⟩:∃sq,decide (q.num<0)=sq:=⟨_,rfl⟩;rw [hsq]at hRv;rw [hsq];have HIv:=zHi hInv;have HRv:=zHi hRv;have HQ:=zHi hq;have HRQ:=zHi hRq;obtain⟨gW,hgW⟩:∃g,W.heap.size=g:=⟨_,rfl⟩;have HGW:=zHi hgW;rw [hgW]at hsz;clear hInv hRv hq hq0 hRq hsq hgW;refine zpB (by gi_wp2;exact⟨rfl,rfl⟩) ?_;have hba:=zaa W (.cells #[.bool sq,.slice vo1 vk1 vc1,.slice vo2 vk2 vc2] 25);refine⟨hba,fun Wp hpc hkc => ?_⟩;rw [HS7.out]at hkc;have hIp:=(HIv.out.under hba).keepC hkc hgs (by omega) (by rw [HG1.out];exact Nat.le_refl _);have h5:=(zaP W [.bool sq,.slice vo1 vk1 vc1,.slice vo2 vk2 vc2] 25).put (zaA W _ 25) hpc;rw [HGW.out]at h5;have z0:=h5.2 0 _ rfl;have z1:=h5.2 1 _ rfl;have z2:=h5.2 2 _ rfl;have HRq:=zHi ((HRv.out.below hba).kept hpc.kept);have HIp:=zHi hIp;obtain⟨f,hf,hr⟩:=hIp.acc;obtain⟨ao1,ak1,ac1,ao2,ak2,ac2,hfe⟩:=hr.form;obtain⟨sa,hsa⟩:∃sa,decide ((zca ((zbc n A0 n).take (pRun n A0 cc).k)).num<0)=sa:=⟨_,rfl⟩;rw [hsa]at hfe;have e0:f 0 = .bool sa∧f 1 = .slice ao1 ak1 ac1∧f 2 = .slice ao2 ak2 ac2:=by
   injection hfe with hfe;injection hfe with hfe;injection hfe with q0 hfe;injection hfe with q1 hfe;injection hfe with q2 hfe;exact⟨q0,q1,q2⟩
  obtain⟨e0,e1,e2⟩:=e0;rw [e0,e1,e2]at hr;have x0:=(hf 0 (by omega)).1;have x1:=(hf 1 (by omega)).1;have x2:=(hf 2 (by omega)).1;rw [e0]at x0;rw [e1]at x1;rw [e2]at x2;have HR:=zHi hr;have HF:=zHi hf;clear hba hpc hkc hIp h5 hf hr hfe hsa e0 e1 e2;rw [HGW.out];gi_wp2_with (gi_at_call 94;refine stop ?_)
  unfold Stop;refine(zfm Wp _ _ _ q 100000 HR.out HRq.out ((zkl _ HPL.out _).mono (by have:=(zdG n A0 cc).2;omega)) (HRQ.out.mono (by omega)) (by omega)).mono ?_;rintro e w8 ⟨v8,rfl,hr8,hB8⟩;rw [HQ.out,←zgu,←zoZ hcc hrow]at hr8;have hI8:=HIp.out.under hB8;obtain⟨bo1,bk1,bc1,bo2,bk2,bc2,rfl⟩:=hr8.form;obtain⟨sb,hsb⟩:∃sb,decide ((zca ((zbc n A0 n).take ((pRun n A0 cc).k+1))).num<0)=sb:=⟨_,rfl⟩;rw [hsb]at hr8;rw [hsb];have ha8:=HF.out.below (B:=Wp.heap.size) (HIp.out.e2.lt) hB8;have u0:=(ha8 0 (by omega)).1;have u1:=(ha8 1 (by omega)).1;have u2:=(ha8 2 (by omega)).1;have y0:=(ha8 0 (by omega)).2;have y1:=(ha8 1 (by omega)).2;have y2:=(ha8 2 (by omega)).2;have c0:=(hI8.cnt 0 (by omega)).1;have c1':=(hI8.cnt 0 (by omega)).2;have HI8:=zHi hI8;have HR8:=zHi hr8;have HA8:=zHi ha8;have HB8:=zHi hB8;obtain⟨kk,hkk⟩:∃kk,(pRun n A0 cc).k=kk:=⟨_,rfl⟩;have hk9:kk≤8:=by have:=(zdG n A0 cc).2;omega
  rw [hkk]at c0;have HKK:=zHi hkk;clear hr8 hI8 ha8 hB8 hsb hkk x0 x1 x2 z0 z1 z2;gi_wp2;have hq:((kk:Int)+1)=((((pRun n A0 cc).k+1:Nat)):Int):=by rw [HKK.out];omega
  rw [hq];have h4:=HT.out.two;rw [HG1.out]at h4;exact⟨(NoC.of_below HB8.out).trans (zrd HI8.out.e2 HI8.out.e3),HI8.out.turn h12 (Nat.lt_succ_self _) (by rw [HG1.out];exact Nat.le_refl _) HR8.out,(FrX.of_below HB8.out).trans (zre HI8.out.e2 HI8.out.e3 ⟨by omega,by omega,.inl rfl⟩ ⟨by omega,by omega,.inr rfl⟩)⟩
 ·intro W2 hS2 hmark;rw [HS7.out]at hmark;obtain⟨f,hf,hr⟩:=hS2.inv.acc;obtain⟨ao1,ak1,ac1,ao2,ak2,ac2,hfe⟩:=hr.form;rw [←zhZ,List.take_length]at hr hfe;obtain⟨sa,hsa⟩:∃sa,decide ((zca (zbc n A0 n)).num<0)=sa:=⟨_,rfl⟩;rw [hsa]at hfe;have e0:f 0 = .bool sa∧f 1 = .slice ao1 ak1 ac1∧f 2 = .slice ao2 ak2 ac2:=by
   injection hfe with hfe;injection hfe with hfe;injection hfe with q0 hfe;injection hfe with q1 hfe;injection hfe with q2 hfe;exact⟨q0,q1,q2⟩
  obtain⟨e0,e1,e2⟩:=e0;rw [e0,e1,e2]at hr;have c0:=(hS2.inv.cnt 0 (by omega)).1;obtain⟨fr,hfr⟩:=hS2.inv.ret;obtain⟨kk,hkk⟩:∃kk,(pRun n A0 n).k=kk:=⟨_,rfl⟩;have hk9:kk≤n:=by have:=(zdG n A0 n).2;omega
  have hbx:=(hS2.inv.below.cell (p:=⟨gb,0,none⟩) (World.block_lt_of_cell? _ _ HB.out)).trans HB.out;have HI2:=zHi hS2.inv;rw [hkk]at c0;have HKK:=zHi hkk;have HR:=zHi hr;have HMk:=zHi hmark;have HFR:=zHi hfr;have q0:=(hfr 0 (by omega)).1;have q1:=(hfr 1 (by omega)).1;have q2:=(hfr 2 (by omega)).1;have p0:=(hfr 0 (by omega)).2;have p1:=(hfr 1 (by omega)).2;have p2:=(hfr 2 (by omega)).2;have x0:=(hf 0 (by omega)).1;have x1:=(hf 1 (by omega)).1;have x2:=(hf 2 (by omega)).1;rw [e0]at x0;rw [e1]at x1;rw [e2]at x2;clear hS2 hr hfe hsa e0 e1 e2 hmark hfr hf hkk;rw [HS7.out];dsimp only;by_cases hkn:kk<n
  ·have hz:D=0:=by rw [←HDD'.out,HKK.out,if_pos hkn]
   have HZ:=zHi hz;clear hz;gi_wp2;obtain⟨t1,t2,t3,t4⟩:=zqK (r:=g5+2) (a:=.bool false) (b:=.slice none 0 0) (c:=.slice none 0 0) HFR.out HI2.out.e1 (zaL W2) HI2.out.below (by rw [HG1.out];exact Nat.le_refl _) HMk.out (by rw [HG1.out];omega);refine⟨by simp,.inl ⟨g5+2,_,rfl,zhK t1,.agg #[.bool false,.slice none 0 0,.slice none 0 0],?_,_,rfl,by rw [HZ.out];exact t2,t3⟩⟩;have e1:=l25 g1 [.bool false,.slice none 0 0,.slice none 0 0] _ rfl t4;simp only [Instr.loadAt,Instr.sureAddr,Sem.run_bind,Sem.run_pure,Result.andThen_ok]at e1;simp [results,asAddr,e1]
  ·gi_wp2_with (gi_at_call 67;refine stop ?_)
   unfold Stop;have hke:kk=n:=by omega
   have hkd:=HK.out (by rw [HKK.out];exact hke);refine(ze9 W2 _ _ HR.out (hkd.mono (by omega)) (zcv hkd (by omega) (by omega)) (HT.out.below (HI2.out.below))).mono ?_;rintro e w8 ⟨v8,rfl,hr8,hB8⟩;obtain⟨bo1,bk1,bc1,bo2,bk2,bc2,rfl⟩:=hr8.form;obtain⟨sb,hsb⟩:∃sb,decide ((zca (zbc n A0 n)).num<0)=sb:=⟨_,rfl⟩;rw [hsb]at hr8;rw [hsb];have ha8:=HFR.out.below (B:=W2.heap.size) (HI2.out.e1.lt) hB8;have HA8:=zHi ha8;have HB8:=zHi hB8;have HR8:=zHi hr8;have u0:=(ha8 0 (by omega)).1;have u1:=(ha8 1 (by omega)).1;have u2:=(ha8 2 (by omega)).1;have v0:=(ha8 0 (by omega)).2;have v1:=(ha8 1 (by omega)).2;have v2:=(ha8 2 (by omega)).2;clear p0 p1 p2 q0 q1 q2 x0 x1 x2 ha8 hB8 hr8 hsb hkd;gi_wp2;obtain⟨t1,t2,t3,t4⟩:=zqK (r:=g5+2) HA8.out (HI2.out.e1.below HB8.out HI2.out.e1.lt) HR8.out (HI2.out.below.trans (HB8.out.mono HI2.out.below.size)) (by rw [HG1.out];exact Nat.le_refl _) ((HB8.out.block _ (Array.getElem?_eq_some_iff.1 HMk.out).1).trans HMk.out) (by rw [HG1.out];omega);have hz:D=zca (zbc n A0 n):=by rw [←HDD'.out,HKK.out,if_neg hkn]
   refine⟨by simp,.inl ⟨g5+2,_,rfl,zhK t1,.agg #[.bool sb,.slice bo1 bk1 bc1,.slice bo2 bk2 bc2],?_,_,rfl,by rw [hz];exact t2,t3⟩⟩;have e1:=l25 g1 [.bool sb,.slice bo1 bk1 bc1,.slice bo2 bk2 bc2] _ rfl t4;simp only [Instr.loadAt,Instr.sureAddr,Sem.run_bind,Sem.run_pure,Result.andThen_ok]at e1;simp [results,asAddr,e1]
end Go.Num
