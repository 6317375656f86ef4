/-
  'attempt' of a closure that does not panic.
  Conditions: see each statement.
-/
import Derived.Test.YtoamcgjbelhnkaaGreatDoorSAA
import Derived.Test.YtoamcgjbelhnkaaGreatDoorSAJ
import Derived.Test.YtoamcgjbelhnkaaGreatDoorSAG
import Derived.Maps.AppendAt
import Derived.Test.YtoamcgjbelhnkaaGreatDoorSAH
set_option maxRecDepth 100000
set_option maxHeartbeats 16000000
namespace Go.Num
open Go.Eng Go.Shelf Go.RowKit Go.Sort Go.Proofs Go.Proofs.YtoamcgjbelhnkaaGreatDoor
attribute [local go_sem] Oper.semAt_some
theorem OwnR.blk{β:Type}{w:World}{base ty sz:Nat}{I:β→List Value→World→Prop}{v:Value}{bs:List β}(h:OwnR w base ty sz I v bs){b:Nat}(hb:v.ownBlock=some b):base≤b∧∃cur,w.heap[b]? = some (.cells cur ty (0,0)):=by
 obtain⟨xs,h1,_⟩:=h;rcases h1.2 with⟨e,_⟩|⟨g,cap,cur,e,g1,g2,_⟩
 ·rw [e]at hb;cases hb
 ·rw [e]at hb;cases hb;exact⟨g1,cur,g2⟩
structure RdS(w0:World)(base g5:Nat)(cs:List Nat)(k:Nat)(w:World):Prop where
 below:Below base w0 w
 box:∃vl,zaj w g5 1 (fun _=>vl)∧OwnR w (g5+1) 3 1 II vl (cs.take k)
 eb:Elem w g5 29
 rl:∃L,w.heap[g5+4]? = some (.loop L)
theorem zaj.put{w w':World}{g n:Nat}{e:TypeId}{f:Nat→Value}(h:zaj w g n f)(hE:Elem w g e)(hp:PutC w w'):zaj w' g n f:=by
 obtain⟨cs,fz,hE⟩:=hE;have e1:w'.heap[g]? = w.heap[g]?:=by rw [hp.blk _ _ _ _ hE,hE]
 exact fun i hi=>by
  rw [World.cell?_of_block (a:=⟨g,i,none⟩) e1,World.frozen?_of_block (a:=⟨g,i,none⟩) e1];exact h i hi
theorem RdS.keep{w0 w w':World}{base g5 k g:Nat}{cs:List Nat}(h:RdS w0 base g5 cs k w)(hk:znk g (g5+4) w w')(hg:g<g5)(hbg:base≤g):RdS w0 base g5 cs k w':=by
 obtain⟨vl,h1,h2⟩:=h.box;obtain⟨L,hL⟩:=h.rl;have hcell:∀(b:Nat) (c:Array Value) (e:TypeId) (fz:Nat × Nat),w.heap[b]? = some (.cells c e fz)→b≠g5+4:=fun b c e fz q e'=>by
  subst e';rw [hL]at q;cases q
 obtain⟨c5,fz5,hE5⟩:=h.eb;have h5:w'.heap[g5]? = w.heap[g5]?:=hk.blk g5 (Array.getElem?_eq_some_iff.1 hE5).1 (by omega) (hcell _ _ _ _ hE5);refine⟨hk.below h.below hbg (by omega) (by have:=(Array.getElem?_eq_some_iff.1 hE5).1;omega),⟨vl,fun i hi => ?_,h2.keep (fun b hb _ => ?_) (fun _ _ q=>q)⟩,⟨c5,fz5,h5.trans hE5⟩,hk.rcd h.rl⟩
 ·rw [World.cell?_of_block (a:=⟨g5,i,none⟩) h5,World.frozen?_of_block (a:=⟨g5,i,none⟩) h5];exact h1 i hi
 ·obtain⟨hge,cur,hcur⟩:=h2.blk hb;exact hk.blk b (Array.getElem?_eq_some_iff.1 hcur).1 (by omega) (hcell _ _ _ _ hcur)
structure RdT(w0:World)(base s B:Nat)(vl:Value)(cs:List Nat)(w:World):Prop where
 below:Below base w0 w
 lst:OwnR w (s+1) 3 1 II vl cs
 box:w.cell? ⟨s,0,none⟩=some vl
 eb:Elem w s 29
 mark:w.heap[B]? = some (.deferred (some []))
theorem RdT.but{w0 w w':World}{base s B b:Nat}{e:TypeId}{vl:Value}{cs:List Nat}(h:RdT w0 base s B vl cs w)(hb:ButB b w w')(hE:Elem w b e)(hek:rs3.contains e=false)(he:e≠3∧e≠29)(hbb:base≤b):RdT w0 base s B vl cs w':=by
 obtain⟨ce,fze,hE⟩:=hE;have hlt:=(Array.getElem?_eq_some_iff.1 hE).1;refine⟨(hb.keepC (l:=b+1) (by omega) (hb.kept ⟨ce,fze,hE⟩ hek)).below h.below hbb (by omega) (by omega),h.lst.keep (fun k hk _ => ?_) (fun _ _ q=>q),(hb.cell (p:=⟨s,0,none⟩) h.eb.lt (h.eb.ne ⟨ce,fze,hE⟩ (Ne.symm he.2))).trans h.box,hb.elem h.eb (h.eb.ne ⟨ce,fze,hE⟩ (Ne.symm he.2)),hb.noC hE _ _ h.mark rfl⟩;obtain⟨_,cur,hcur⟩:=h.lst.blk hk;refine hb.blk k (Array.getElem?_eq_some_iff.1 hcur).1 (fun e' => ?_);subst e';rw [hE]at hcur
 cases hcur
 exact he.1 rfl
def zdL(P:Nat→Nat→Rat)(cs:List Nat)(i c j:Nat):Nat→Nat→Rat:=fun i'=>if i'<i then zbS P cs i' else if i'=i then(fun j'=>if j'<j then P i j'/P i c else P i j')else P i'
theorem zoS(P:Nat→Nat→Rat)(cs:List Nat)(i c j:Nat):(fun i'=>if i'=i then(fun j'=>if j'=j then P i j/P i c else zdL P cs i c j i j')else zdL P cs i c j i')=zdL P cs i c (j+1):=by
 funext i' j'
 unfold zdL;by_cases h1:i'=i
 ·subst h1;simp only [if_true,Nat.lt_irrefl,if_false];by_cases h2:j'=j
  ·rw [if_pos h2,if_pos (by omega),h2]
  ·rw [if_neg h2];by_cases h3:j'<j
   ·rw [if_pos h3,if_pos (by omega)]
   ·rw [if_neg h3,if_neg (by omega)]
 ·simp only [if_neg h1]
theorem zp8{P:Nat→Nat→Rat}{cs:List Nat}{i c N:Nat}(h:∀j,zbS P cs i j=P i j/P i c){j':Nat}(hj:j'<N)(i':Nat):zdL P cs i c N i' j'=zdL P cs (i+1) 0 0 i' j':=by
 unfold zdL;by_cases h1:i'=i
 ·subst h1;simp only [if_true,Nat.lt_irrefl,if_false,if_pos (Nat.lt_succ_self _),if_pos hj,h]
 ·by_cases h2:i'<i
  ·rw [if_pos h2,if_pos (by omega)]
  ·rw [if_neg h2,if_neg h1,if_neg (by omega)];by_cases h3:i'=i+1
   ·subst h3;simp only [if_true,Nat.not_lt_zero,if_false]
   ·rw [if_neg h3]
theorem zp9(P:Nat→Nat→Rat)(cs:List Nat){i:Nat}(h:cs.length=i)(i':Nat):zdL P cs i 0 0 i'=zbS P cs i':=by
 unfold zdL;by_cases h1:i'<i
 ·rw [if_pos h1]
 ·rw [if_neg h1];unfold zbS;rw [List.getElem?_eq_none (by omega)];by_cases h3:i'=i
  ·subst h3;simp only [if_true,Nat.not_lt_zero,if_false]
  ·rw [if_neg h3]
theorem zjO{w:World}{b o:Nat}{x y z:Value}(ht:w.there b o 3)(h1:#[x,y,z].all (·.oneCell')=true):(Instr.storeAt 25 (.pointer (some ((⟨b,0,none⟩:Addr).add o))) (.agg #[x,y,z])).run Tryz.prog w = .ok () (w.setCells b o [x,y,z]):=by
 rw [Addr.add_lit,Nat.zero_add];exact run_storeAt_mid w b o 25 #[x,y,z] ht (by kernel_rfl) h1
theorem zpP{r:Nat}{w:World}(h:w.heap[r]? = some (.deferred (some []))):(Instr.takeDeferred r).run Tryz.prog w = .ok [] (w.putObj r (.deferred none)):=run_takeDeferred h
theorem zfV(w:World)(base g cv m N columns:Nat)(A0:Nat→Nat→Rat)(h0:0<m)(hm9:m≤1000)(hN:0<N)(hN9:N≤1000)(hcN:columns≤N)(hb4:4≤base)
  (hM:∃rvs,zav w base 64 25 3 IR (.slice (some ⟨g,0,none⟩) m cv) rvs (tab m N A0)) (hT:zaY w) (hG:∀c,c≤columns→Good m N (pRun m A0 c).P) (hG2:Good m N (zbS (pRun m A0 columns).P (zaF m A0 columns)))
  (hpv:∀(i c:Nat),(zaF m A0 columns)[i]? = some c→(pRun m A0 columns).P i c≠0) :
  CallsIn Fence.wide 0 Tryz.prog 81 #[.slice (some ⟨g,0,none⟩) m cv,.int .i64 (columns:Int)] w fun e w'=>∃vc,e = .returned vc∧OwnR w' (w.heap.size+1) 3 1 II vc (zaF m A0 columns)∧(∃rvs,zav w' base 64 25 3 IR (.slice (some ⟨g,0,none⟩) m cv) rvs (tab m N (zbS (pRun m A0 columns).P (zaF m A0 columns))))∧Below base w w':=by
 have HM:=zHi hM;have HT:=zHi hT;have HG:=zHi hG;have HG2:=zHi hG2;have HPV:=zHi hpv;have hbg:base≤g∧g<w.heap.size∧∃cur,w.heap[g]? = some (.cells cur 64 (0,0)):=by
  obtain⟨rvs,hm⟩:=hM;have hl:rvs.length=m:=by rw [←hm.len,zal]
  obtain⟨g',c',e,h1,h2,h3⟩:=hm.top.own (by omega);injection e with e;injection e with e;injection e with e;subst e;exact⟨h1,h2,h3⟩
 obtain⟨hbg,hgl,curg,hcurg⟩:=hbg;have HCG:=zHi hcurg;clear hM hT hG hG2 hcurg hpv;refine callsIn_of_wp_marks Tryz.func81 rfl trivial ?_ rfl;simp only [Tryz.ntmps81,ztH,ztI,ztJ,Nat.reduceAdd,Nat.reduceSub,ztK,ztL,ztM,ztN,ztO,ztP];gi_wp2_with (gi_at_call 99;refine stop ?_)
 refine(zlj _ _ columns ⟨_,_,_,rfl⟩).mono ?_;rintro e w1 ⟨rfl,rfl⟩;gi_wp2;obtain⟨g5,hg5⟩:∃g5,w.heap.size=g5:=⟨_,rfl⟩;obtain⟨WA,hWA⟩:∃W,((w.alloc (Obj.cells #[Value.slice none 0 0] 29)).alloc (Obj.cells #[Value.slice (some ⟨g,0,none⟩) m cv] 116)).alloc (Obj.cells #[Value.int .i64 (columns:Int)] 3)=W:=⟨_,rfl⟩;have hsA:WA.heap.size=g5+3:=by rw [←hWA,←hg5];simp
 have hBA:Below w.heap.size w WA:=by rw [←hWA];exact(((zaa w _).alloc (by simp) _).alloc (by simp;omega) _)
 have x5:=zaU w [.slice none 0 0] 29;have x6:=zaU (w.alloc (Obj.cells #[Value.slice none 0 0] 29)) [.slice (some ⟨g,0,none⟩) m cv] 116;have x7:=zaU ((w.alloc (Obj.cells #[Value.slice none 0 0] 29)).alloc (Obj.cells #[Value.slice (some ⟨g,0,none⟩) m cv] 116)) [.int .i64 (columns:Int)] 3;have y5:zaj WA g5 1 (fun _ => .slice none 0 0):=by
  rw [←hWA,←hg5];refine((zaj.new w _ 29 (fun i hi => ?_)).alloc (by simp) _).alloc (by simp;omega) _;have:i=0:=by omega
  subst this;rfl
 have z5:Elem WA g5 29:=by
  rw [←hWA,←hg5];exact((zaB w _ 29).below (zaa _ _) (by simp)).below (zaa _ _) (by simp;omega)
 have y6:WA.cell? ⟨g5+1,0,none⟩=some (.slice (some ⟨g,0,none⟩) m cv):=by
  rw [←hWA];have:=(x6.below (zaa _ (.cells #[.int .i64 (columns:Int)] 3))).2 0 _ rfl;rw [World.size_alloc,hg5]at this;exact this
 have z6:Elem WA (g5+1) 116:=by
  rw [←hWA];have:=(zaB (w.alloc (Obj.cells #[Value.slice none 0 0] 29)) #[Value.slice (some ⟨g,0,none⟩) m cv] 116).below (zaa _ (.cells #[.int .i64 (columns:Int)] 3)) (by simp);rw [World.size_alloc,hg5]at this;exact this
 have y7:WA.cell? ⟨g5+1+1,0,none⟩=some (.int .i64 (columns:Int)):=by
  rw [←hWA];have:=x7.2 0 _ rfl;rw [World.size_alloc,World.size_alloc,hg5]at this;exact this
 have hPS:PvS base (g5+1) g cv m N (fun _ _=>True) A0 0 WA:=by
  obtain⟨rvs,hm⟩:=HM.out;exact⟨⟨rvs,hm.below hBA (IR.below hBA)⟩,y6,z6,⟨curg,_,(hBA.block g hgl).trans HCG.out⟩,HT.out.below hBA,hb4,trivial⟩
 have HI0:Hid (∀w',Below WA.heap.size WA w'→(∃L,w'.heap[WA.heap.size+1]? = some (.loop L))→RdS w base g5 (zaF m A0 columns) 0 w'):=zHi (fun w' hb hL=>by
  rw [hsA]at hL;refine⟨(hBA.mono (by omega)).trans (hb.mono (by omega)),⟨_,y5.below (by omega) hb,?_⟩,z5.below hb (by omega),hL⟩;rw [List.take_zero];exact OwnR.nil _ _ _ _ _)
 have HPS:=zHi hPS;have HY7:=zHi y7;rw [hWA,hg5];have hbg5:g<g5:=by omega
 have HG5:=zHi hg5;clear x5 x6 x7 y5 y6 y7 z5 z6 hPS hWA HM HT HCG;refine zlg (w0:=WA) rfl (g5+1+1) (g5+1) base g cv m N columns (RdS w base g5 (zaF m A0 columns)) (fun b e=>g5≤b∧(e=29∨e=3)) A0 rfl rfl h0 hm9 hN hN9 hcN ?_ (fun b e _ he q=>by rcases he with rfl|rfl|rfl <;> exact q.2.elim (fun h=>absurd h (by decide)) (fun h=>absurd h (by decide))) (fun b q=>q.2.elim (fun h=>absurd h (by decide)) (fun h=>absurd h (by decide))) (fun e q=>by have:=q.1;omega) (by omega) HG.out ?_ HPS.out HI0.out HY7.out ?_
 ·intro k w1 w2 h hk;rw [hsA]at hk;exact h.keep hk (by omega) hbg
 ·intro cc W v q hcc hrow _ _ _ _ _ hsz hInv;have HIv:=zHi hInv;obtain⟨vl,hbx,hlst⟩:=hInv.box;refine zsl (by gi_wp2;exact⟨rfl,rfl⟩) ?_;refine⟨Below.refl _ _,fun Wp hpc hkc => ?_⟩;rw [hsA]at hkc;have HRp:=zHi (hInv.keep hkc (by omega) hbg);have hbx':zaj Wp g5 1 (fun _=>vl):=hbx.put hInv.eb hpc;have hl5:OwnR Wp (g5+1) 3 1 II vl ((zaF m A0 columns).take (pRun m A0 cc).k):=hlst.keep (fun b hb _=>by
   obtain⟨_,cur,hcur⟩:=hlst.blk hb;rw [hpc.blk _ _ _ _ hcur,hcur]) (fun _ _ q=>q)
  have HL5:=zHi hl5;have c0:=(hbx' 0 (by omega)).1;have hlen:((zaF m A0 columns).take (pRun m A0 cc).k).length≤1000:=by
   rw [List.length_take];have:=(zf3 m A0 cc).1;omega
  rw [hsA,←hpc.size]at hsz;obtain⟨ov,cv',hvf⟩:=hl5.form;obtain⟨kl,hkl⟩:∃kl,((zaF m A0 columns).take (pRun m A0 cc).k).length=kl:=⟨_,rfl⟩;rw [hkl]at hvf hlen;have HKL:=zHi hkl;have HPC:=zHi hpc;have HBX':=zHi hbx';subst hvf;clear hpc hbx hbx' hl5 hlst hInv hkl;gi_wp2_with (gi_at_builtin;refine stop ?_)
  unfold Stop;refine zaJ (ty:=3) (sz:=1) (bytes:=8) Wp rfl _ _ rfl u29' zd0 zfl zev zd1 rfl (by decide) (by decide) (g5+1) (by omega) (.slice ov kl cv') _ rfl HL5.out cc [.int .i64 (cc:Int)] _ rfl rfl (by simp [Value.oneCell']) rfl (fun _ _ _ _ _ h=>h) (by rw [HKL.out];omega) ?_;intro v' w' HO HBk HBel;have hne5:∀b,(Value.slice ov kl cv').ownBlock=some b→g5+1≤b∧∃cur,Wp.heap[b]? = some (.cells cur 3 (0,0)):=fun b hb=>HL5.out.blk hb
  have HNE:=zHi hne5;have hg5W:g5<Wp.heap.size:=by omega
  have hb5:w'.heap[g5]? = Wp.heap[g5]?:=HBk.out.2 g5 hg5W (fun e=>by have:=(HNE.out g5 e.symm).1;omega);have HB5:=zHi hb5;have hax:zaj w' g5 1 (fun _ => .slice ov kl cv'):=fun i hi=>by
   rw [World.cell?_of_block (a:=⟨g5,i,none⟩) hb5,World.frozen?_of_block (a:=⟨g5,i,none⟩) hb5];exact HBX'.out i hi
  have HAX:=zHi hax;have d0:=(hax 0 (by omega)).1;have d1:=(hax 0 (by omega)).2;obtain⟨o',c',hvf⟩:=HO.out.form;have hl':((zaF m A0 columns).take (pRun m A0 cc).k ++ [cc]).length=kl+1:=by rw [List.length_append,HKL.out];rfl
  rw [hl']at hvf;subst hvf;clear hax hb5 hne5 hl' c0;gi_wp2;obtain⟨c5,fz5,he5⟩:=HRp.out.eb;refine⟨fun b o hb ho => ?_,⟨(HBel.out base w HRp.out.below (by omega)).setCell (p:=⟨g5,0,none⟩) (show base≤g5 by omega) _,⟨.slice o' (kl+1) c',(HAX.out.set (by omega) _).congr (fun i hi => ?_),?_⟩,?_,?_⟩,?_⟩
  ·rw [heap_setCell_other _ _ _ _ (show b≠g5 from fun e=>by rw [e,he5]at hb;cases hb;cases ho),HBk.out.2 b (Array.getElem?_eq_some_iff.1 hb).1 (fun e=>by
    obtain⟨_,cur,hcur⟩:=HNE.out b e.symm;rw [hcur]at hb;cases hb;cases ho),hb]
  ·have:i=0:=by omega
   rw [if_pos this]
  ·rw [zoX hcc hrow];exact HO.out.keep (fun b hb _=>heap_setCell_other _ _ _ _ (show b≠g5 from fun e=>by have:=(HO.out.blk hb).1;omega)) (fun _ _ q=>q)
  ·exact(Elem.of_block (w:=Wp) ⟨c5,fz5,he5⟩ HB5.out).setCell _ _
  ·obtain⟨L,hL⟩:=HRp.out.rl;refine⟨L,?_⟩;rw [heap_setCell_other _ _ _ _ (show g5+4≠g5 by omega),HBk.out.2 _ (Array.getElem?_eq_some_iff.1 hL).1 (fun e=>by
    obtain⟨_,cur,hcur⟩:=HNE.out _ e.symm;rw [hcur]at hL;cases hL),hL]
  ·refine⟨by rw [World.size_setCell];exact HBk.out.1,fun b cs e fz hb hx => ?_⟩;rw [heap_setCell_other _ _ _ _ (show b≠g5 from fun e'=>by rw [e',he5]at hb;cases hb;exact hx ⟨by omega,.inl rfl⟩),HBk.out.2 b (Array.getElem?_eq_some_iff.1 hb).1 (fun e'=>by
    obtain⟨hge,cur,hcur⟩:=HNE.out b e'.symm;rw [hcur]at hb;cases hb;exact hx ⟨by omega,.inr rfl⟩),hb]
 ·intro W2 hS2 hmark;obtain⟨P,hP⟩:∃P,(pRun m A0 columns).P=P:=⟨_,rfl⟩;obtain⟨cs,hcs⟩:∃cs,zaF m A0 columns=cs:=⟨_,rfl⟩;have hck:cs.length=(pRun m A0 columns).k:=by rw [←hcs];exact zdl _ _ _
  have hk9:=zf3 m A0 columns;have hclt:∀x∈cs,x<columns:=by rw [←hcs];exact zg4 _ _ _
  rw [←hck]at hk9 hS2;have HGP:=zHi (HG.out columns (Nat.le_refl _));rw [hP]at hS2 HGP HG2 HPV;rw [hcs]at hS2 HG2 HPV;have HPE:=zHi hP;have HCE:=zHi hcs;obtain⟨vl,hbx,hlst⟩:=hS2.inv.box;rw [List.take_length]at hlst;have HT0:Hid (PvS base (g5+1) g cv m N (fun _ w'=>RdT w base g5 (g5+3) vl cs w') P 0 W2):=zHi ⟨hS2.mat,hS2.box,hS2.eb,hS2.eg,hS2.tab,hS2.two,⟨hS2.inv.below,hlst,(hbx 0 (by omega)).1,hS2.inv.eb,by rw [←hsA];exact hmark⟩⟩;have d0:=(hbx 0 (by omega)).1;obtain⟨ol,cl,hvf⟩:=hlst.form;obtain⟨K,hK⟩:∃K,cs.length=K:=⟨_,rfl⟩;have HK:=zHi hK;rw [hK]at hvf hk9;have HCL:=zHi hclt;have hIb:∀(k:Nat) (w1 w2:World),RdT w base g5 (g5+3) vl cs w1→ButB g w1 w2→Elem w1 g 64→RdT w base g5 (g5+3) vl cs w2:=fun _ _ _ h hb hE=>h.but hb hE rfl (by decide) hbg
  have HIB:=zHi hIb;subst hvf;rw [hsA];clear hbx hlst hS2 hmark hP hcs hck hK hclt hIb HI0 HPS HY7 HG hBA hg5;dsimp only;gi_wp2;gi_loopw [22] (fun x22 wr=>∃i:Nat,x22 = .int .i64 (i:Int)∧i≤K∧Hid (PvS base (g5+1) g cv m N (fun _ w'=>RdT w base g5 (g5+3) (.slice ol K cl) cs w') (zdL P cs i 0 0) 0 wr)) (fun x _=>K-(intOf x).toNat)
  case atStart=>exact⟨0,rfl,by omega,zHi (HT0.out.congr (fun i _=>by
   unfold zdL;rw [if_neg (by omega)];split
   ·rename_i e;subst e;funext j;rw [if_neg (by omega)]
   ·rfl))⟩
  case round=>
   obtain⟨i,rfl,hiK,HS⟩:=hrel;clear HT0;by_cases hi:i<K
   ·obtain⟨c,hc⟩:∃c,cs[i]? = some c:=⟨_,List.getElem?_eq_getElem (by rw [HK.out];exact hi)⟩;have HC:=zHi hc;have hcN':c<N:=by have:=HCL.out c (List.mem_of_getElem? hc);omega
    have him:i<m:=by omega
    obtain⟨gl,cl',rl,e,_,_,_,hl2,hl3⟩:=HS.out.inv.lst.item hc;injection e with e1 e2 e3;subst e1;have hl3:rl = [.int .i64 (c:Int)]:=hl3;subst hl3;have x0:=hl2 0 _ rfl;rw [Addr.add_add,Addr.add_lit]at x0;simp only [Nat.mul_one,Nat.add_zero,Nat.zero_add]at x0;obtain⟨ra,rc,sg,o1,k1,c1,o2,k2,c2,p0,p1,p2,p3,hra⟩:=HS.out.item him hcN' hN9;obtain⟨_,bi,ci,_,_,_,hci,hri⟩:=HS.out.row him hN;have hbi:bi<wr.heap.size:=by
     obtain⟨b',c',e,_,h',_⟩:=hri.own (by rw [zak];exact hN);injection e with e;injection e with e;injection e with e;omega
    have hpi:zdL P cs i 0 0 i c=P i c:=by unfold zdL;rw [if_neg (by omega),if_pos rfl,if_neg (by omega)]
    rw [hpi]at hra;have hpc:P i c≠0:=HPV.out i c hc;have hgw:=HS.out.eg.lt;have hunit:∀j,zbS P cs i j=P i j/P i c:=fun j=>by unfold zbS;rw [hc]
    have HUN:=zHi hunit;obtain⟨W5,hW5⟩:∃W,W=wr.alloc (.cells #[.bool sg,.slice o1 k1 c1,.slice o2 k2 c2] 25):=⟨_,rfl⟩;have hB5:Below wr.heap.size wr W5:=by rw [hW5];exact zaa _ _
    have HS5:Hid (PvS base (g5+1) g cv m N (fun _ w'=>RdT w base g5 (g5+3) (.slice (some ⟨gl,0,none⟩) K cl) cs w') (zdL P cs i c 0) 0 W5):=zHi ((HS.out.below hB5 HIB.out).congr (fun i' _=>by
     unfold zdL;by_cases h1:i'<i
     ·rw [if_pos h1,if_pos h1]
     ·rw [if_neg h1,if_neg h1];by_cases h2:i'=i
      ·rw [if_pos h2,if_pos h2];funext j';rw [if_neg (by omega),if_neg (by omega)]
      ·rw [if_neg h2,if_neg h2]))
    have HB5:Hid (BoxL W5 wr.heap.size [.bool sg,.slice o1 k1 c1,.slice o2 k2 c2]):=zHi (by rw [hW5];exact zaU _ _ _);have HR5:Hid (zau W5 (.agg #[.bool sg,.slice o1 k1 c1,.slice o2 k2 c2]) (P i c)):=zHi (hra.below hB5);have HC5:Hid (W5.cell? ((⟨g,0,none⟩:Addr).add (i*1))=some (.slice (some ⟨bi,0,none⟩) N ci)):=zHi ((hB5.cell (by rw [zac];exact hgw)).trans hci);have HCI:=zHi hci;clear hra hri hpi hc hl2 hci hB5 hunit;gi_wp2;rw [←hW5];obtain⟨g9,hg9⟩:∃g9,wr.heap.size=g9:=⟨_,rfl⟩;rw [hg9]at HB5 hbi;rw [hg9];clear hW5 hg9 p0 p1 p2 p3 hgw x0;gi_loopw [39] (fun x39 wi=>∃j:Nat,x39 = .int .i64 (j:Int)∧j≤N∧Hid (PvS base (g5+1) g cv m N (fun _ w'=>RdT w base g5 (g5+3) (.slice (some ⟨gl,0,none⟩) K cl) cs w') (zdL P cs i c j) 0 wi)∧Hid (BoxL wi g9 [.bool sg,.slice o1 k1 c1,.slice o2 k2 c2])∧Hid (zau wi (.agg #[.bool sg,.slice o1 k1 c1,.slice o2 k2 c2]) (P i c))∧Hid (wi.cell? ((⟨g,0,none⟩:Addr).add (i*1))=some (.slice (some ⟨bi,0,none⟩) N ci))) (fun x _=>N-(intOf x).toNat)
    case atStart=>exact⟨0,rfl,by omega,HS5,HB5,HR5,HC5⟩
    case round=>
     obtain⟨j,rfl,hjN9,HS6,HB6,HR6,HC6⟩:=hrel;clear HS5 HB5 HR5 HC5;by_cases hjN:j<N
     ·gi_wp2;have HS8:=zHi (HS6.out.below (zab wr) HIB.out);have HB9:=zHi (HB6.out.below (zab wr));have HR9:=zHi (HR6.out.below (zab wr));have hci:wr.drew.cell? ((⟨g,0,none⟩:Addr).add (i*1))=some (.slice (some ⟨bi,0,none⟩) N ci):=HC6.out;obtain⟨_,b',c',_,_,_,hc',hri⟩:=HS8.out.row him hN;rw [hci]at hc'
      cases hc'
      have hpi:(rowF (zdL P cs i c j i) N)[j]? = some (P i j):=by
       rw [zdf hjN];unfold zdL;rw [if_neg (by omega),if_pos rfl,if_neg (by omega)]
      obtain⟨b',c',rj,e,_,_,hrj1,hrj2,hrj3⟩:=hri.item hpi;injection e with e;injection e with e;injection e with e;subst e;have hun:zan (P i j/P i c) 700:=by
       rw [←HUN.out j];exact HG2.out i j him hjN
      have hIs:∀(b k:Nat) (w1 w2:World),base≤b→RdT w base g5 (g5+3) (.slice (some ⟨gl,0,none⟩) K cl) cs w1→ButB b w1 w2→Elem w1 b 25→RdT w base g5 (g5+3) (.slice (some ⟨gl,0,none⟩) K cl) cs w2:=fun _ _ _ _ hb h hbut hE=>h.but hbut hE rfl (by decide) hb
      refine zap (ro:=none) [13,14,16] [0,1,2,3,4,5,6,7,8,9,10,11,12,13,14,15,16] [0,0,3,7,0,0,0,96,224,0,992,2016,0,8160,16352,32767,65535] zaq rfl 61 rfl (by kernel_rfl) (by kernel_rfl) ?_;refine OV.mv (v:=.slice (some ⟨g,0,none⟩) m cv) rfl rfl rfl rfl ?_;refine OV.mv (v:=.int .i64 (i:Int)) rfl rfl rfl rfl ?_;refine OV.idx zkp him rfl rfl rfl rfl rfl ?_;refine OV.ld lo64 hci rfl rfl rfl rfl rfl ?_;refine OV.mv (v:=.int .i64 (j:Int)) rfl rfl rfl rfl ?_;refine OV.mv (v:=.slice (some ⟨g,0,none⟩) m cv) rfl rfl rfl rfl ?_;refine OV.mv (v:=.int .i64 (i:Int)) rfl rfl rfl rfl ?_;refine OV.idx zkp him rfl rfl rfl rfl rfl ?_;refine OV.ld lo64 hci rfl rfl rfl rfl rfl ?_;refine OV.mv (v:=.int .i64 (j:Int)) rfl rfl rfl rfl ?_;refine OV.idx it64 hjN rfl rfl rfl rfl rfl ?_;refine OV.ldn rj lm25 hrj2 rfl rfl rfl rfl hrj1 (by decide) rfl ?_;refine OV.ldn [.bool sg,.slice o1 k1 c1,.slice o2 k2 c2] lm25 HB9.out.at' rfl rfl rfl rfl rfl (by decide) rfl ?_;refine OV.call [.agg rj.toArray,.agg #[.bool sg,.slice o1 k1 c1,.slice o2 k2 c2]] Tryz.func76 rfl zah rfl rfl rfl rfl rfl (zi9 _ _ _ (P i j) (P i c) 700 hrj3 HR9.out (HGP.out i j him hjN) (HGP.out i c him hcN') (fun e=>hpc (Rat.num_eq_zero.1 e)) (by omega)) fun vf w9 hf hB => ?_
      have hci9:=(hB.cell (p:=(⟨g,0,none⟩:Addr).add (i*1)) (by rw [zac];exact HS8.out.eg.lt)).trans hci;have HS9:=zHi (HS8.out.below hB HIB.out);replace HB9:=zHi (HB9.out.below hB);replace HR9:=zHi (HR9.out.below hB);clear hB;refine OV.call [vf] Tryz.func67 rfl zah rfl rfl rfl rfl rfl (zgw _ _ _ hf (hun.mono (by omega)) (zgv hun (by omega) (by omega)) HS9.out.tab) fun v5 w10 h5 hB => ?_
      have HS10:=zHi (HS9.out.below hB HIB.out);replace HB9:=zHi (HB9.out.below hB);replace HR9:=zHi (HR9.out.below hB);obtain⟨o5,k5,c5,o6,k6,c6,rfl⟩:=h5.form;have hci10:=(hB.cell (p:=(⟨g,0,none⟩:Addr).add (i*1)) (by rw [zac];exact HS9.out.eg.lt)).trans hci9;obtain⟨h6,h7⟩:=HS10.out.store him hjN hci10 (row:=[.bool (decide ((P i j/P i c).num<0)),.slice o5 k5 c5,.slice o6 k6 c6]) rfl h5 hIs;clear hB;refine OV.idx it64 hjN rfl rfl rfl rfl rfl ?_;refine OV.st (w':=w10.setCells bi (j*3) [.bool (decide ((P i j/P i c).num<0)),.slice o5 k5 c5,.slice o6 k6 c6]) trivial (zjO h7 (by simp [Value.oneCell'])) rfl rfl rfl rfl rfl ?_;refine OV.done ?_;obtain⟨W6,hW6⟩:∃W,W=w10.setCells bi (j*3) [.bool (decide ((P i j/P i c).num<0)),.slice o5 k5 c5,.slice o6 k6 c6]:=⟨_,rfl⟩;have hbut:ButB bi w10 W6:=by rw [hW6];exact zai bi _ _ _
      have hbE:Elem w10 bi 25:=by
       obtain⟨_,b',c',_,_,_,hc',hr'⟩:=HS10.out.row him hN;rw [hci10]at hc'
       cases hc'
       obtain⟨b',c',e,_,_,cur,hcur⟩:=hr'.own (by rw [zak];exact hN);injection e with e;injection e with e;injection e with e;subst e;exact⟨cur,_,hcur⟩
      have HS7:Hid (PvS base (g5+1) g cv m N (fun _ w'=>RdT w base g5 (g5+3) (.slice (some ⟨gl,0,none⟩) K cl) cs w') (zdL P cs i c (j+1)) 0 W6):=zHi (by
       rw [hW6];exact h6.congr (fun i' _=>congrFun (zoS P cs i c j) i'))
      have HB7:=zHi (HB9.out.but hbut (by omega));have HR7:=zHi (HR9.out.kept (hbut.kept hbE rfl));have HC7:Hid (W6.cell? ((⟨g,0,none⟩:Addr).add (i*1))=some (.slice (some ⟨bi,0,none⟩) N ci)):=zHi ((hbut.cell (by rw [zac];exact HS10.out.eg.lt) (by rw [zac];exact HS10.out.eg.ne hbE (by decide))).trans hci10);rw [←hW6];simp only [zbo,Go.Act.put,ztQ,ztR,ztS,Addr.add_lit,Nat.mul_one,Nat.zero_add];clear hW6 h5 h6 h7 hbut hbE hci hci9 hci10 hri hrj1 hrj2 hrj3 hf HS8 HS9 HS10 HB9 HR9 hun hIs hpi;gi_wp2;exact⟨⟨j+1,by go_num,by omega,HS7,HB7,HR7,HC7⟩,by simp only [intOf];omega⟩
     ·have hjN2:j=N:=by omega
      subst hjN2;gi_wp2;exact⟨⟨i+1,by go_num,by omega,zHi (HS6.out.congr2 (fun i' j' hi' hj'=>by
       exact zp8 HUN.out hj' i'))⟩,by simp only [intOf];omega⟩
   ·have hiK2:i=K:=by omega
    subst hiK2;have x5:=HS.out.inv.box;gi_wp2;refine⟨by simp,.inl ⟨g5+3,_,rfl,zpP HS.out.inv.mark,_,Go.results_tmp rfl _ _ _,?_⟩⟩;have hmk:=HS.out.inv.mark;have hnm:∀(b:Nat) (cs:Array Value) (e:TypeId) (fz:Nat × Nat),wr.heap[b]? = some (.cells cs e fz)→b≠g5+3:=fun b cs e fz hb e'=>by rw [e',hmk]at hb;cases hb
    refine⟨_,rfl,?_,?_,?_⟩
    ·rw [HCE.out];have:=HS.out.inv.lst.keep (w':=wr.putObj (g5+3) (.deferred none)) (fun b hb _=>by
      obtain⟨_,cur,hcur⟩:=HS.out.inv.lst.blk hb;exact World.putObj_heap_other (hnm _ _ _ _ hcur)) (fun _ _ q=>q)
     rw [HG5.out];exact this
    ·rw [HCE.out,HPE.out];obtain⟨rvs,hm⟩:=HS.out.mat;refine⟨rvs,?_⟩;have:=hm.keep (w':=wr.putObj (g5+3) (.deferred none)) (fun b cs e _ _ hc=>World.putObj_heap_other (hnm _ _ _ _ hc)) (fun b r q=>zau.kept q (fun b cs e fz hc _=>(World.putObj_heap_other (hnm _ _ _ _ hc)).trans hc));rw [zkX (A':=zdL P cs i 0 0)]
     ·exact this
     ·intro i' hi';rw [zp9 P cs (by rw [HK.out]) i']
    ·have hg:=grownBy_putObj' wr (g5+3) (.deferred none);have hbl:=HS.out.inv.below;exact⟨hg.os.trans hbl.os,hg.tape.trans hbl.tape,hg.output.trans hbl.output,Nat.le_trans hbl.size hg.size,fun k hk=>(World.putObj_heap_other (by omega)).trans (hbl.block k hk)⟩
end Go.Num
namespace Go.Num
open Go.Eng Go.Shelf Go.RowKit Go.Sort Go.Proofs Go.Proofs.YtoamcgjbelhnkaaGreatDoor
theorem zfC{β:Type}{F:Fence}{n:Nat}(wr:World){ops:Array Oper}{rest:List Oper}{o:Oper}{a:CAct}{Q:Exit→CAct→World→Prop}{ty sz t bytes:Nat}{inf:TypeInfo}{z:Value}{I:β→List Value→World→Prop}
  (hg:o.guard=none) (s x:Operand) (hop:o.op=Op.call {callee:=Callee.builtin Builtin.append,args:=#[s,x],argTypes:=#[t,t]})
  (e1:Tryz.prog.underlying t=some (.slice ty)) (e2:Tryz.prog.info? ty=some inf) (e3:inf.zero=some z) (e4:inf.size=sz) (e5:inf.bytes=bytes) (e6:z.cells.size=sz) (e7:0<sz) (e8:bytes≤100)
  (base:Nat) (hbase:base≤wr.heap.size) (v:Value) (bs:List β) (hs:a.eval s=v) (HO:OwnR wr base ty sz I v bs) (ad:Addr) (c:Nat) (cs:List β) (hx:a.eval x = .slice (some ad) cs.length c) (hcs:zad wr ty sz I (.slice (some ad) cs.length c) cs) (h0:0<cs.length)
  (h1c:∀b r w,I b r w→∀u∈r,u.oneCell'=true) (hI:∀b r w1 w2,Touch ty w1 w2→I b r w1→I b r w2) (hn:bs.length+cs.length<500000000)
  (hK:∀v' w',Hid (OwnR w' base ty sz I v' (bs ++ cs))→Hid (wr.heap.size≤w'.heap.size∧∀k,k<wr.heap.size→some k≠v.ownBlock→w'.heap[k]? = wr.heap[k]?)→Hid (∀B0 w0,Below B0 w0 wr→B0≤base→Below B0 w0 w')→wpListIn F n Tryz.prog ops Q rest (a.put o.dst v') w') :
  wpListIn F n Tryz.prog ops Q (o :: rest) a wr:=by
 obtain⟨xs,h1,h2,h3,h4⟩:=HO;rcases hcs with⟨rfl,_⟩|⟨a',cap,ys,e,_,_,hE,y2,y3,y4,y5⟩
 ·simp at h0
 injection e with e _ ec;injection e with e;subst e;have hyl:ys.flatten.length=cs.length*sz:=by
  rw [←y2];clear y2 y4 y5;induction ys with
  | nil=>simp
  | cons r t ih=>rw [List.flatten_cons,List.length_append,ih (fun q hq=>y3 q (by simp [hq])),y3 r (by simp),List.length_cons,Nat.add_mul];omega
 refine wpListIn_append_own _ hg s x t hop base ty inf z sz bytes e1 e2 e3 e4 e5 e6 e7 v bs.length xs.flatten hs h1 ad cs.length c ys.flatten hx hyl (fun j u hu => ?_) (fun u hu => ?_) (by unfold maxLen;omega) (by
  have:(bs.length+cs.length)*bytes≤500000000*100:=Nat.mul_le_mul (by omega) e8;omega) hbase ?_
 ·have hj:j<cs.length*sz:=by rw [←hyl];exact(List.getElem?_eq_some_iff.1 hu).1
  have hi:j/sz<ys.length:=by rw [y2];exact Nat.div_lt_of_lt_mul (by rw [Nat.mul_comm];exact hj)
  have hrow:ys[j/sz]? = some ys[j/sz]:=List.getElem?_eq_getElem hi;have hrl:ys[j/sz].length=sz:=y3 _ (List.getElem_mem hi);have hm:j%sz<ys[j/sz].length:=by rw [hrl];exact Nat.mod_lt _ e7
  have hx2:ys[j/sz][j%sz]? = some ys[j/sz][j%sz]:=List.getElem?_eq_getElem hm;have:=zcD y3 hrow hx2;rw [Nat.div_add_mod' j sz]at this;rw [this]at hu;have hc:=y4 _ _ hrow _ _ hx2;rw [Nat.div_add_mod' j sz]at hc;rw [hc];exact hu
 ·obtain⟨r,hr,hu⟩:=List.mem_flatten.1 hu;obtain⟨i,hi,e⟩:=List.getElem_of_mem hr;have hi2:i<cs.length:=by rw [←y2];exact hi
  exact h1c _ _ _ (y5 i r cs[i] (by rw [←e];exact List.getElem?_eq_getElem hi) (List.getElem?_eq_getElem hi2)) u hu
 intro v' w' g1 g2 _;have hT:Touch ty wr w':=by
  refine⟨g2.size,fun k cs e fz hk hne => ?_⟩;have hlt:k<wr.heap.size:=(Array.getElem?_eq_some_iff.1 hk).1;rw [g2.block k hlt (fun hk' => ?_)]
  ·exact hk
  ·rcases h1.2 with⟨rfl,_⟩|⟨g,cap,cur,rfl,q1,q2,_⟩
   ·cases hk'
   ·have:k=g:=by simpa [Value.ownBlock]using hk'
    subst this;rw [q2]at hk;injection hk with hk;injection hk with _ hk _;exact hne hk.symm
 refine hK v' w' ⟨xs ++ ys,?_,by simp [h2,y2],fun r hr => ?_,fun i r b' hr hb' => ?_⟩ ⟨hT.1,fun k hk hne=>g2.block k hk hne⟩ ?_
 ·rw [List.flatten_append,List.length_append];exact g1
 ·rcases List.mem_append.1 hr with h|h
  ·exact h3 r h
  ·exact y3 r h
 ·rcases Nat.lt_or_ge i bs.length with hi|hi
  ·rw [List.getElem?_append_left (by omega)]at hr hb';exact hI _ _ _ _ hT (h4 i r b' hr hb')
  ·rw [List.getElem?_append_right (by omega)]at hr hb';rw [h2]at hr;exact hI _ _ _ _ hT (y5 _ r b' hr hb')
 ·intro B0 w0 hb hB;refine⟨g2.os.trans hb.os,g2.tape.trans hb.tape,g2.output.trans hb.output,Nat.le_trans hb.size g2.size,fun k hk => ?_⟩;rw [g2.block k (Nat.lt_of_lt_of_le (Nat.lt_of_lt_of_le hk hB) hbase) (fun hk' => ?_),hb.block k hk];rcases h1.2 with⟨rfl,_⟩|⟨g,cap,cur,rfl,q1,q2,_⟩
  ·cases hk'
  ·have:k=g:=by simpa [Value.ownBlock]using hk'
   omega
theorem IR.one{b:Rat}{r:List Value}{w:World}(h:IR b r w):∀u∈r,u.oneCell'=true:=by
 obtain⟨o1,k1,c1,o2,k2,c2,e⟩:=zau.form h;have e:r = [.bool (decide (b.num<0)),.slice o1 k1 c1,.slice o2 k2 c2]:=by
  injection e with e;injection e
 subst e;simp [Value.oneCell']
@[local go_sem] theorem eq64 (a:Addr) (n c:Nat) (W:World):(binOp .eql 64 (.slice (some a) n c) (.slice none 0 0)).run Tryz.prog W = .ok (.bool false) W:=by kernel_rfl
theorem OwnR.weaken{β:Type}{w:World}{base b2 ty sz:Nat}{I:β→List Value→World→Prop}{v:Value}{bs:List β}(h:OwnR w b2 ty sz I v bs)(hb:base≤b2):OwnR w base ty sz I v bs:=by
 obtain⟨xs,h1,h2⟩:=h;refine⟨xs,⟨h1.1,h1.2.imp id ?_⟩,h2⟩;rintro⟨g,cap,cur,e,g1,g2⟩;exact⟨g,cap,cur,e,Nat.le_trans hb g1,g2⟩
theorem OwnR.empty{β:Type}(w:World)(base ty sz:Nat)(I:β→List Value→World→Prop)(hb:base≤w.heap.size)(h0:0<sz):OwnR (w.alloc (.cells #[] ty)) base ty sz I (.slice (some ⟨w.heap.size,0,none⟩) 0 0) []:=
 ⟨[],⟨by simp,.inr ⟨w.heap.size,0,#[],rfl,hb,heap_alloc_new _ _,Nat.le_refl 0,Nat.zero_le _,by simp,by simp⟩⟩,rfl,fun r h=>by simp at h,fun i row b h=>by simp at h⟩
theorem ziE(w:World)(v:Value)(l:List Rat)(h:RowR w v l)(h0:0<l.length)(h9:l.length≤1000) :
  CallsIn Fence.wide 0 Tryz.prog 121 #[v] w fun e w'=>∃v',e = .returned v'∧OwnR w' w.heap.size 25 3 IR v' l∧Below w.heap.size w w':=by
 obtain⟨ad,c,rfl⟩:=zad.some h h0;have HR:=zHi h;clear h;refine callsIn_of_wp Tryz.func121 rfl trivial ?_ rfl;simp only [Tryz.ntmps121,ztH,ztI,ztJ,Nat.reduceAdd,Nat.reduceSub,ztK,ztL,ztM,ztN,ztO,ztP];gi_wp2_with (gi_at_builtin;refine stop ?_)
 unfold Stop;have hb1:=zaa w (.cells #[] 25);refine zfC (ty:=25) (sz:=3) (bytes:=56) _ rfl _ _ rfl Go.Num.u64 i25' i25z i25s i25b rfl (by decide) (by decide) w.heap.size hb1.size (.slice (some ⟨w.heap.size,0,none⟩) 0 0) [] rfl (OwnR.empty _ _ _ _ _ (Nat.le_refl _) (by decide)) ad c l rfl (zad.below HR.out hb1 (IR.below hb1)) h0 (fun b r w h=>IR.one h) (fun b r w1 w2 ht=>IR.touch ht rfl b r) (by rw [List.length_nil];omega) ?_;intro v' w' HO _ HB;have HB2:=zHi (HB.out w.heap.size w hb1 (Nat.le_refl _));clear hb1;gi_wp2;all_goals (first|go_returns|go_ret|go_end0)
 exact⟨_,rfl,HO.out,HB2.out⟩
def zc2(m:List (List Rat))(b:List Rat):List (List Rat):=m.mapIdx fun i l=>l ++ (b[i]?).toList
theorem zjt(m:List (List Rat))(b:List Rat):(zc2 m b).length=m.length:=List.length_mapIdx
theorem zqX{m:List (List Rat)}{b:List Rat}{i:Nat}{l:List Rat}(h:m[i]? = some l):(zc2 m b)[i]? = some (l ++ (b[i]?).toList):=by
 unfold zc2;rw [List.getElem?_mapIdx,h];rfl
theorem zav.snoc{β:Type}{w w':World}{base tyO tyI sz:Nat}{I:β→List Value→World→Prop}{v v':Value}{rvs:List Value}{rows:List (List β)}(h:zav w base tyO tyI sz I v rvs rows){u:Value}{l:List β}
  (ht:OwnR w' base tyO 1 (fun u r _=>r = [u]) v' (rvs ++ [u])) (hk:∀(b:Nat) (cs:Array Value),base≤b→w.heap[b]? = some (.cells cs tyI (0,0))→w'.heap[b]? = w.heap[b]?) (hI:∀b r,I b r w→I b r w') (hu:OwnR w' base tyI sz I u l) (hl:0<l.length)
  (hd:∀b cs,base≤b→w.heap[b]? = some (.cells cs tyI (0,0))→(∃(i:Nat) (u':Value),rvs[i]? = some u'∧u'.ownBlock=some b)→u.ownBlock≠some b):zav w' base tyO tyI sz I v' (rvs ++ [u]) (rows ++ [l]):=by
 have hrow:∀(i:Nat) (u':Value) (l':List β),rvs[i]? = some u'→rows[i]? = some l'→∃b cs,u'.ownBlock=some b∧base≤b∧w.heap[b]? = some (.cells cs tyI (0,0)):=fun i u' l' q1 q2=>by
  obtain⟨g,cap,e,g1,_,cur,g2⟩:=(h.row i u' l' q1 q2).own (h.ne l' (List.mem_of_getElem? q2));exact⟨g,cur,by rw [e];rfl,g1,g2⟩
 have hnew:∀(i:Nat) (u':Value),rvs[i]? = some u'→u'.ownBlock≠u.ownBlock:=fun i u' q1 q2=>by
  have hi:i<rows.length:=by rw [h.len];exact(List.getElem?_eq_some_iff.1 q1).1
  obtain⟨b,cs,e,g1,g2⟩:=hrow i u' _ q1 (List.getElem?_eq_getElem hi);exact hd b cs g1 g2 ⟨i,u',q1,e⟩ (by rw [←q2,e])
 refine⟨ht,by rw [List.length_append,List.length_append,h.len];rfl,fun i u' l' q1 q2 => ?_,fun l' q => ?_,fun i j u1 u2 q1 q2 e => ?_⟩
 ·rcases Nat.lt_or_ge i rvs.length with hi|hi
  ·rw [List.getElem?_append_left hi]at q1;rw [List.getElem?_append_left (by rw [h.len];exact hi)]at q2;refine(h.row i u' l' q1 q2).keep (fun b hb _ => ?_) hI;obtain⟨b',cs,e,g1,g2⟩:=hrow i u' l' q1 q2;rw [e]at hb;cases hb;exact hk _ cs g1 g2
  ·rw [List.getElem?_append_right hi]at q1;rw [List.getElem?_append_right (by rw [h.len];exact hi),h.len]at q2;rcases Nat.eq_zero_or_pos (i-rvs.length)with h0|h0
   ·rw [h0]at q1 q2;have q1:u=u':=by simpa using q1
    have q2:l=l':=by simpa using q2
    rw [←q1,←q2];exact hu
   ·rw [List.getElem?_eq_none (by simp;omega)]at q1;cases q1
 ·rcases List.mem_append.1 q with q|q
  ·exact h.ne l' q
  ·rw [List.mem_singleton.1 q];exact hl
 ·have key:∀(i:Nat) (u1:Value),(rvs ++ [u])[i]? = some u1→(i<rvs.length∧rvs[i]? = some u1)∨(i=rvs.length∧u1=u):=fun i u1 q=>by
   rcases Nat.lt_or_ge i rvs.length with hi|hi
   ·rw [List.getElem?_append_left hi]at q;exact .inl ⟨hi,q⟩
   ·rw [List.getElem?_append_right hi]at q;rcases Nat.eq_zero_or_pos (i-rvs.length)with h0|h0
    ·rw [h0]at q;exact .inr ⟨by omega,by simpa using q.symm⟩
    ·rw [List.getElem?_eq_none (by simp;omega)]at q;cases q
  rcases key i u1 q1 with⟨a1,a2⟩|⟨a1,a2⟩ <;> rcases key j u2 q2 with⟨b1,b2⟩|⟨b1,b2⟩
  ·exact h.inj i j u1 u2 a2 b2 e
  ·subst b2;exact absurd e (hnew i u1 a2)
  ·subst a2;exact absurd e.symm (hnew j u2 b2)
  ·omega
theorem zs0:Tryz.prog.underlying 116=some (.slice 64):=by kernel_rfl
theorem zjB{F:Fence}{n:Nat}(wr:World){ops:Array Oper}{rest:List Oper}{o:Oper}{a:CAct}{Q:Exit→CAct→World→Prop}{t:TypeId}(e1:Tryz.prog.underlying t=some (.slice 64))
  (hg:o.guard=none) (s x:Operand) (hop:o.op=Op.call {callee:=Callee.builtin Builtin.append,args:=#[s,x],argTypes:=#[t,t]})
  (base b2:Nat) (hbase:base≤wr.heap.size) (v:Value) {rvs:List Value} {rows:List (List Rat)} (hs:a.eval s=v) (HM:zav wr base 64 25 3 IR v rvs rows) (u:Value) {l:List Rat} (hu:OwnR wr b2 25 3 IR u l) (hb2:base≤b2) (hl:0<l.length)
  (hlt:∀(i:Nat) (u':Value) (b:Nat),rvs[i]? = some u'→u'.ownBlock=some b→b<b2) (tt:TypeId) (hx:a.eval x = .slice (some ⟨wr.heap.size,0,none⟩) 1 1) (hn:rvs.length<500000000)
  (hK:∀v' w',Hid (zav w' base 64 25 3 IR v' (rvs ++ [u]) (rows ++ [l]))→Hid (∀B0 w0,Below B0 w0 wr→B0≤base→Below B0 w0 w')→wpListIn F n Tryz.prog ops Q rest (a.put o.dst v') w') :
  wpListIn F n Tryz.prog ops Q (o :: rest) a (wr.alloc (.cells #[u] tt)):=by
 obtain⟨gu,cu,eu,gu1,gu2,curu,gu3⟩:=hu.own hl;have hvb:∀b,v.ownBlock=some b→∃cur,wr.heap[b]? = some (.cells cur 64 (0,0)):=fun b hb=>(HM.top.blk hb).2
 refine zaJ (ty:=64) (sz:=1) (bytes:=24) wr hg s x hop e1 i64i i64z i64s i64b rfl (by decide) (by decide) base hbase v rvs hs HM.top u [u] tt hx rfl (by simp [eu,Value.oneCell']) rfl (fun _ _ _ _ _ q=>q) hn ?_;intro v' w' h1 h2 h3;have hk:∀(b:Nat) (cs:Array Value),wr.heap[b]? = some (.cells cs 25 (0,0))→w'.heap[b]? = wr.heap[b]?:=fun b cs hb=>h2.out.2 b (Array.getElem?_eq_some_iff.1 hb).1 (fun e=>by
  obtain⟨cur,hc⟩:=hvb b e.symm;rw [hc]at hb;cases hb)
 have hT:Touch 64 wr w':=⟨h2.out.1,fun b cs e fz hb hne=>by
  rw [h2.out.2 b (Array.getElem?_eq_some_iff.1 hb).1 (fun e'=>by
   obtain⟨cur,hc⟩:=hvb b e'.symm;rw [hc]at hb;cases hb;exact hne rfl)]
  exact hb⟩
 refine hK v' w' ?_ h3;refine HM.snoc h1.out (fun b cs _ hb=>hk b cs hb) (IR.touch hT rfl) (OwnR.weaken (hu.keep (fun b hb _ => ?_) (IR.touch hT rfl)) hb2) hl ?_
 ·have hb:gu=b:=by rw [eu]at hb;simpa [Value.ownBlock]using hb
  rw [←hb];exact hk _ _ gu3
 ·rintro b cs _ _ ⟨i,u',q1,q2⟩ e;have:=hlt i u' b q1 q2;have e:gu=b:=by rw [eu]at e;simpa [Value.ownBlock]using e
  omega
theorem zia(w:World)(v vb:Value)(m:List (List Rat))(bs:List Rat)(h:MatR w v m)(hb:RowR w vb bs)(h0:0<m.length)(h9:m.length≤1000)(hne:∀l∈m,0<l.length∧l.length≤1000)(hbl:bs.length≤1000) :
  CallsIn Fence.wide 0 Tryz.prog 80 #[v,vb] w fun e w'=>∃v' rvs,e = .returned v'∧zav w' w.heap.size 64 25 3 IR v' rvs (zc2 m bs)∧Below w.heap.size w w':=by
 obtain⟨a,c,rfl⟩:=zad.some h h0;obtain⟨ob,cb,rfl,_⟩:=zad.form hb;have HM:=zHi h;have HV:=zHi hb;have HNE:=zHi hne;obtain⟨n,hn⟩:∃n,m.length=n:=⟨_,rfl⟩;obtain⟨nb,hnb⟩:∃n,bs.length=n:=⟨_,rfl⟩;have HN:=zHi hn;have HNB:=zHi hnb;rw [hn]at HM h0 h9;rw [hnb]at HV hbl;rw [hn,hnb];clear h hb hne hn hnb;refine callsIn_of_wp Tryz.func80 rfl trivial ?_ rfl;simp only [Tryz.ntmps80,ztH,ztI,ztJ,Nat.reduceAdd,Nat.reduceSub,ztK,ztL,ztM,ztN,ztO,ztP];gi_wp2;gi_loopw [5,11] (fun x5 x11 wr=>∃i:Nat,x11 = .int .i64 (i:Int)∧i≤n∧Hid (∃rvs,zav wr w.heap.size 64 25 3 IR x5 rvs ((zc2 m bs).take i))∧Hid (Below w.heap.size w wr)) (fun _ x _=>n-(intOf x).toNat)
 case atStart=>exact⟨0,rfl,by omega,zHi ⟨[],OwnR.nil _ _ _ _ _,rfl,fun i u l h=>by simp at h,fun l h=>by simp at h,fun i j u u' h=>by simp at h⟩,Below.refl _ w⟩
 case round=>
  obtain⟨i,rfl,hi,HO,HB⟩:=hrel;by_cases hin:i<n
  ·obtain⟨l,hl⟩:∃l,m[i]? = some l:=⟨_,List.getElem?_eq_getElem (by rw [HN.out];exact hin)⟩;have hl9:=HNE.out l (List.mem_of_getElem? hl);obtain⟨hi',row,hrl,hcell,u,rfl,hu⟩:=zad.at' (zad.below HM.out HB.out (zbQ.below HB.out)) hl;have x0:=hcell 0 u rfl;have HL:=zHi hl;obtain⟨al,cl,rfl⟩:=zad.some hu hl9.1;obtain⟨rvs,hm⟩:=HO.out;have HMR:=zHi hm;have hlen:rvs.length=i:=by rw [←hm.len,List.length_take,zjt,HN.out];omega
   have hblk:∀(i:Nat) (u':Value) (b:Nat),rvs[i]? = some u'→u'.ownBlock=some b→b<wr.heap.size:=fun k u' b q1 q2=>by
    have hk:k<((zc2 m bs).take i).length:=by rw [hm.len];exact(List.getElem?_eq_some_iff.1 q1).1
    exact(hm.row k u' _ q1 (List.getElem?_eq_getElem hk)).lt q2
   obtain⟨oo,cc,hof⟩:=hm.top.form;rw [hlen]at hof;have HLen:=zHi hlen;have HBlk:=zHi hblk;clear hm hlen hblk HO;subst hof;obtain⟨nl,hnl⟩:∃n,l.length=n:=⟨_,rfl⟩;have HU:=zHi hu;have HNL:=zHi hnl;rw [hnl]at HU x0 hl9;rw [Addr.add_add,Nat.add_zero,Nat.mul_one]at x0;clear hcell hl hu hrl hi' hnl;gi_wp2_with (gi_at_call 121;refine stop ?_)
   refine(ziE wr _ l HU.out (by rw [HNL.out];exact hl9.1) (by rw [HNL.out];exact hl9.2)).mono ?_;rintro e w2 ⟨vr,rfl,hr,hB⟩;obtain⟨orr,cr,rfl⟩:=hr.form;rw [HNL.out]at hr;rw [HNL.out];have HB2:=zBt HB hB;have HO2:=zHi (HMR.out.below hB (IR.below hB));have HBr:=zHi hB;have HR2:=zHi hr;clear hr hB x0;have hnext:∀l',l'=l ++ (bs[i]?).toList→(zc2 m bs).take i ++ [l']=(zc2 m bs).take (i+1):=fun l' e=>by
    rw [List.take_add_one,zqX HL.out,e];rfl
   have HNext:=zHi hnext;clear hnext;by_cases hib:i<nb
   ·obtain⟨q,hq⟩:∃q,bs[i]? = some q:=⟨_,List.getElem?_eq_getElem (by rw [HNB.out];exact hib)⟩;have HQ:=zHi hq;have hV2:RowR w2 (.slice ob nb cb) bs:=zad.below HV.out HB2.out (IR.below HB2.out);obtain⟨a2,rfl⟩:∃a,ob=some a:=by
     rcases hV2 with⟨h0,_⟩|⟨a,cap,xs,e,_⟩
     ·rw [h0]at hq;simp at hq
     ·injection e with e _ _;exact⟨a,e⟩
    obtain⟨hal,sg,o1,k1,c1,o2,k2,c2,x0,x1,x2,hra⟩:=zad.item hV2 hq;have HRA:=zHi hra;clear hV2 hra hq;gi_wp2_with (gi_at_builtin;refine stop ?_)
    unfold Stop;obtain⟨sr,hsr⟩:∃sr,decide (q.num<0)=sr:=⟨_,rfl⟩;have hsg:=zau.form HRA.out;have hst:sg=decide (q.num<0):=by
     obtain⟨_,_,_,_,_,_,e⟩:=hsg;injection e with e;injection e with e;injection e with e;injection e with e
    refine zaJ (ty:=25) (sz:=3) (bytes:=56) w2 rfl _ _ rfl Go.Num.u64 i25' i25z i25s i25b rfl (by decide) (by decide) wr.heap.size HBr.out.size (.slice orr nl cr) l rfl HR2.out q [.bool sg,.slice o1 k1 c1,.slice o2 k2 c2] _ rfl rfl (by simp [Value.oneCell']) HRA.out (fun b r w1 w2 ht=>IR.touch ht rfl b r) (by rw [HNL.out];omega) ?_;intro v3 w3 HO3 HK3 HB3;have hBr3:=HB3.out wr.heap.size wr HBr.out (Nat.le_refl _);have HM3:=zHi (HMR.out.below hBr3 (IR.below hBr3));have HB4:=zBt HB hBr3;obtain⟨o3,c3,hv3⟩:=HO3.out.form;have hl3:(l ++ [q]).length=nl+1:=by rw [List.length_append,HNL.out];rfl
    rw [hl3]at hv3;subst hv3;have HL3:=zHi hl3;clear hBr3 hl3 x0 x1 x2 hal hsg hst hsr;gi_wp2_with (gi_at_builtin;refine stop ?_)
    unfold Stop;refine zjB w3 zs0 rfl _ _ rfl w.heap.size wr.heap.size HB4.out.size (.slice oo i cc) rfl HM3.out _ HO3.out HB.out.size (by rw [HL3.out];omega) HBlk.out _ rfl (by rw [HLen.out];omega) ?_;intro v4 w4 HM4 HB5;have HB6:=zHi (HB5.out w.heap.size w HB4.out (Nat.le_refl _));have HM5:Hid (∃rvs,zav w4 w.heap.size 64 25 3 IR v4 rvs ((zc2 m bs).take (i+1))):=zHi ⟨_,by rw [←HNext.out (l ++ [q]) (by rw [HQ.out];rfl)];exact HM4.out⟩;gi_wp2;exact⟨⟨i+1,by go_num,by omega,HM5,HB6⟩,by simp only [intOf];omega⟩
   ·have hq:bs[i]? = none:=List.getElem?_eq_none (by rw [HNB.out];omega);have HQ:=zHi hq;clear hq;gi_wp2_with (gi_at_builtin;refine stop ?_)
    unfold Stop;refine zjB w2 zs0 rfl _ _ rfl w.heap.size wr.heap.size HB2.out.size (.slice oo i cc) rfl HO2.out _ HR2.out HB.out.size (by rw [HNL.out];omega) HBlk.out _ rfl (by rw [HLen.out];omega) ?_;intro v4 w4 HM4 HB5;have HB6:=zHi (HB5.out w.heap.size w HB2.out (Nat.le_refl _));have HM5:Hid (∃rvs,zav w4 w.heap.size 64 25 3 IR v4 rvs ((zc2 m bs).take (i+1))):=zHi ⟨_,by rw [←HNext.out l (by rw [HQ.out];simp)];exact HM4.out⟩;gi_wp2;exact⟨⟨i+1,by go_num,by omega,HM5,HB6⟩,by simp only [intOf];omega⟩
  ·have hin2:i=n:=by omega
   have HE:Hid ((zc2 m bs).take i=zc2 m bs):=zHi (by rw [hin2,←HN.out,←zjt m bs,List.take_length]);gi_wp2;all_goals (first|go_returns|go_ret|go_end0)
   obtain⟨rvs,hm⟩:=HO.out;exact⟨_,rvs,rfl,by rw [←HE.out];exact hm,HB.out⟩
end Go.Num
namespace Go.Num
def zli(l:List Rat):Rat:=l.foldl (· * ·) 1
theorem zoN(l:List Rat)(x:Rat):zli (l ++ [x])=zli l*x:=by unfold zli;rw [List.foldl_append];rfl
def zoW(m:Nat)(P0:Nat→Nat→Rat):Nat→List Rat
 | 0 => []
 | c+1=>if pRow m c (pRun m P0 c)=m then zoW m P0 c else zoW m P0 c ++ [(pRun m P0 c).P (pRow m c (pRun m P0 c)) c]
structure RS where
 A:Nat→Nat→Int
 last:Int
 turns:Nat
 k:Nat
def nzA(A:Nat→Nat→Int)(cc i:Nat):Bool:=decide (A i cc≠0)
def rRow(m cc:Nat)(t:RS):Nat:=fnz (nzA t.A cc) (m-t.k) t.k
def zeF(m cc:Nat)(t:RS):RS:=if rRow m cc t=m then t else⟨zcX (fun i=>t.A (zaM t.k (rRow m cc t) i)) t.k cc t.last,t.A (rRow m cc t) cc,t.turns+(if rRow m cc t=t.k then 0 else 1),t.k+1⟩
def rRun(m:Nat)(A0:Nat→Nat→Int):Nat→RS
 | 0=>⟨A0,1,0,0⟩
 | c+1=>zeF m c (rRun m A0 c)
structure zme(N m X F:Nat)(g0:Nat→Rat)(c:Nat)(s:PS)(t:RS)(cs:List Nat)(ps:List Rat)(U:Nat→Nat→Rat)(cf:Nat→Nat)(g:Nat→Rat):Prop where
 k:t.k=s.k
 E:Elim N m X U cf s.k
 P:zdx N m U g s.P
 R:zdB N m U cf s.k t.A t.last
 lt:∀l,l<s.k→cf l<c
 col:∀l,l<s.k→cs[l]? = some (cf l)
 csl:cs.length=s.k
 g1:∀i,i<m→RatB 1 F (g i)
 gs:zcY g m=pm t.turns*zcY g0 m
 prod:zli ps=zcY g s.k*zaE U cf s.k
theorem RatB.neg{X Y:Nat}{q:Rat}(h:RatB X Y q):RatB X Y (-q):=by
 obtain⟨x,y,h1,rfl,h2,h3⟩:=h;refine⟨-x,y,h1,?_,by rw [Int.natAbs_neg];exact h2,h3⟩;have:=zdR h1;rw [Rat.intCast_neg];grind
theorem zlP{p q:Nat→Bool}:∀{n r:Nat},(∀i,r≤i→i<r+n→p i=q i)→fnz p n r=fnz q n r
 | 0,r,_=>rfl
 | n+1,r,h=>by
  unfold fnz;rw [h r (Nat.le_refl _) (by omega),zlP (n:=n) (r:=r+1) (fun i h1 h2=>h i (by omega) (by omega))]
section
variable {N m X F c:Nat} {g0:Nat→Rat} {s:PS} {t:RS} {cs:List Nat} {ps:List Rat} {U:Nat→Nat→Rat} {cf:Nat→Nat} {g:Nat→Rat}
theorem zme.row(h:zme N m X F g0 c s t cs ps U cf g)(hc:c<N):rRow m c t=pRow m c s:=by
 have hk:=h.E.hk;unfold rRow pRow;rw [h.k];refine zlP fun i h1 h2 => ?_
 have him:i<m:=by omega
 unfold nzA nzP;have e1:=zdB.zero h.E h.R h1 him hc;have e2:=zdx.zero h.P him hc;rw [decide_eq_decide];exact not_congr (e1.trans e2.symm)
theorem zme.step(h:zme N m X F g0 c s t cs ps U cf g)(hc:c<N) :
  ∃U' cf' g',zme N m X F g0 (c+1) (zf2 m c s) (zeF m c t) (if pRow m c s=m then cs else cs ++ [c]) (if pRow m c s=m then ps else ps ++ [s.P (pRow m c s) c]) U' cf' g':=by
 have hrow:=h.row hc;unfold zf2 zeF;rw [hrow];by_cases e:pRow m c s=m
 ·rw [if_pos e,if_pos e,if_pos e,if_pos e];exact⟨U,cf,g,h.k,h.E,h.P,h.R,fun l hl=>Nat.lt_succ_of_lt (h.lt l hl),h.col,h.csl,h.g1,h.gs,h.prod⟩
 ·rw [if_neg e,if_neg e,if_neg e,if_neg e];have hk:=h.E.hk;obtain⟨r,hr⟩:∃r,pRow m c s=r:=⟨_,rfl⟩;have hge:=zn9 (nzP s.P c) (m-s.k) s.k;have hge1:s.k≤r:=by rw [←hr];exact hge.1
  have hrm:r<m:=by
   have:=hge.2;have q:pRow m c s≤m:=by unfold pRow;omega
   omega
  have hhit:s.P r c≠0:=by
   have:=zqI (p:=nzP s.P c) (n:=m-s.k) (r:=s.k) (by
    show pRow m c s<_
    omega)
   unfold nzP at this;have:=of_decide_eq_true this;rw [←hr];exact this
  rw [hr];have hkm:s.k<m:=by omega
  obtain⟨V,hV⟩:∃V,(fun i=>U (zaM s.k r i))=V:=⟨_,rfl⟩;obtain⟨B,hB⟩:∃B,(fun i=>t.A (zaM s.k r i))=B:=⟨_,rfl⟩;have hE1:=h.E.swap hge1 hrm;have hP1:=h.P.swap hkm hrm;have hR1:=h.R.swap hge1 hrm;rw [hV]at hE1 hP1 hR1;rw [hB]at hR1;have hVk:V s.k=U r:=by rw [←hV];show U (zaM s.k r s.k)=U r;unfold zaM;rw [if_pos rfl]
  have hBk:B s.k=t.A r:=by rw [←hB];show t.A (zaM s.k r s.k)=t.A r;unfold zaM;rw [if_pos rfl]
  have hU0:V s.k c≠0:=by
   rw [hVk];exact fun q=>hhit ((h.P.zero hrm hc).2 q)
  have hE2:=hE1.step hkm hc h.lt hU0;have hP2:=hP1.step hkm hc hU0;have hR2:=(zdB.step hE1 hR1 hkm hc h.lt hU0).1;have ecf:∀l,l<s.k→colP cf s.k c l=cf l:=fun l hl=>by unfold colP;rw [if_neg (by omega)]
  have ecfk:colP cf s.k c s.k=c:=by unfold colP;rw [if_pos rfl]
  have egs:∀i,i<s.k→zeO g s.k r i=g i:=fun i hi=>by
   unfold zeO;split
   ·rfl
   ·rw [if_neg (by omega),if_neg (by omega)]
  have egk:zeO g s.k r s.k=g r:=by
   unfold zeO;split
   ·rename_i e;rw [e]
   ·rw [if_pos rfl]
  refine⟨zaT V s.k c,colP cf s.k c,zeO g s.k r,?_,hE2,hP2,?_,fun l hl => ?_,fun l hl => ?_,?_,fun i hi => ?_,?_,?_⟩
  ·show t.k+1=s.k+1
   rw [h.k]
  ·show zdB N m (zaT V s.k c) (colP cf s.k c) (s.k+1) (zcX (fun i=>t.A (zaM t.k r i)) t.k c t.last) (t.A r c)
   rw [h.k,hB,←hBk];exact hR2
  ·rcases Nat.lt_or_ge l s.k with hl'|hl'
   ·rw [ecf l hl'];have:=h.lt l hl';omega
   ·have:l=s.k:=Nat.le_antisymm (Nat.lt_succ_iff.1 hl) hl';rw [this,ecfk];exact Nat.lt_succ_self _
  ·rcases Nat.lt_or_ge l s.k with hl'|hl'
   ·rw [List.getElem?_append_left (by rw [h.csl];exact hl'),h.col l hl',ecf l hl']
   ·have:l=s.k:=Nat.le_antisymm (Nat.lt_succ_iff.1 hl) hl';rw [this,List.getElem?_append_right (by rw [h.csl];exact Nat.le_refl _),h.csl,Nat.sub_self,ecfk];rfl
  ·show(cs ++ [c]).length=s.k+1
   rw [List.length_append,h.csl];rfl
  ·unfold zeO;split
   ·exact h.g1 i hi
   ·split
    ·exact h.g1 r hrm
    ·split
     ·exact(h.g1 s.k hkm).neg
     ·exact h.g1 i hi
  ·show zcY (zeO g s.k r) m=pm (t.turns+(if r=t.k then 0 else 1))*zcY g0 m
   rw [h.k];by_cases q:r=s.k
   ·rw [if_pos q,Nat.add_zero,←h.gs,q];exact zd8 fun i _=>by unfold zeO;rw [if_pos rfl]
   ·rw [if_neg q,zoO hkm hrm (fun e=>q e.symm) h.P.ne,h.gs,zj4];grind
  ·rw [zoN,h.prod];show zcY g s.k*zaE U cf s.k*s.P r c=(zcY (zeO g s.k r) s.k*zeO g s.k r s.k)*(zaT V s.k c s.k (colP cf s.k c s.k)*zaE (zaT V s.k c) (colP cf s.k c) s.k)
   have q1:zcY (zeO g s.k r) s.k=zcY g s.k:=zd8 fun i hi=>egs i hi
   have q2:zaE (zaT V s.k c) (colP cf s.k c) s.k=zaE U cf s.k:=zcA fun l hl=>by
    rw [ecf l hl];show(if l=s.k then V s.k else fun j=>V l j + -(V l c/V s.k c)*V s.k j) (cf l)=_
    rw [if_neg (by omega)];show V l (cf l) + -(V l c/V s.k c)*V s.k (cf l)=_
    rw [hE1.zero s.k hkm l hl (by omega),←hV];show U (zaM s.k r l) (cf l)+_*0=_
    have:zaM s.k r l=l:=by unfold zaM;rw [if_neg (by omega),if_neg (by omega)]
    rw [this];grind
   have q3:zaT V s.k c s.k=V s.k:=by unfold zaT;rw [if_pos rfl]
   rw [q1,q2,q3,ecfk,egk,hVk,h.P.row r hrm c hc];grind
end
theorem zmP{N m X F:Nat}{g0:Nat→Rat}{U0 P0:Nat→Nat→Rat}{A0:Nat→Nat→Int}(hA:∀i,i<m→∀j,j<N→(A0 i j:Rat)=U0 i j)(hX:∀i,i<m→∀j,j<N→(A0 i j).natAbs≤X)(hg:∀i,i<m→g0 i≠0)(hgF:∀i,i<m→RatB 1 F (g0 i))
  (hP:∀i,i<m→∀j,j<N→P0 i j=g0 i*U0 i j):∀c,c≤N→∃U cf g,zme N m X F g0 c (pRun m P0 c) (rRun m A0 c) (zaF m P0 c) (zoW m P0 c) U cf g
 | 0,_=>⟨U0,fun _=>0,g0,rfl,Elim.start (fun i hi j hj=>⟨A0 i j,(hA i hi j hj).symm,hX i hi j hj⟩),⟨hg,hP⟩,zdB.start hA,fun l hl=>absurd hl (Nat.not_lt_zero _),fun l hl=>absurd hl (Nat.not_lt_zero _),rfl,hgF,by
   show zcY g0 m=pm 0*zcY g0 m
   unfold pm;rw [if_pos rfl];grind,by
   show zli []=zcY g0 0*zaE U0 _ 0
   show(1:Rat)=1*1
   grind⟩
 | c+1,hc=>by
  obtain⟨U,cf,g,h⟩:=zmP hA hX hg hgF hP c (Nat.le_of_succ_le hc);exact h.step (Nat.lt_of_succ_le hc)
end Go.Num
namespace Go.Num
open Go.Eng Go.Shelf Go.RowKit Go.Sort Go.Proofs Go.Proofs.YtoamcgjbelhnkaaGreatDoor
attribute [local go_sem] Oper.semAt_some
section
variable {w0 w w':World} {g1 g2 g3 k:Nat} {ps:List Rat}
end
theorem zaj.other{w w':World}{g n:Nat}{f:Nat→Value}(h:zaj w g n f)(e:w'.heap[g]? = w.heap[g]?):zaj w' g n f:=fun i hi=>by
 rw [World.cell?_of_block (a:=⟨g,i,none⟩) e,World.frozen?_of_block (a:=⟨g,i,none⟩) e];exact h i hi
theorem zpg(m:List (List Rat)):zc2 m []=m:=by
 unfold zc2;refine List.ext_getElem? fun i => ?_
 simp
end Go.Num
namespace Go.Num
open Go.Eng Go.Shelf Go.RowKit Go.Sort Go.Proofs Go.Proofs.YtoamcgjbelhnkaaGreatDoor
theorem zsq{F:Fence}{n:Nat}{P:Program}{f:FuncId}{args:Array Value}{w:World}{R:Ending→World→Prop}(h:Stop (CallsIn F n P f args w R)):CallsIn F n P f args w R:=h
theorem zdA{w:World}{g i:Nat}{e:TypeId}{v:Value}{X:Nat→TypeId→Prop}(hE:Elem w g e)(hx:X g e):FrX X w (w.setCell ⟨g,i,none⟩ v):=by
 refine⟨by rw [World.size_setCell];exact Nat.le_refl _,fun b cs e' fz hb hx' => ?_⟩;obtain⟨_,_,hE⟩:=hE;rw [heap_setCell_other _ _ _ _ (show b≠g from fun q=>by subst q;rw [hE]at hb;cases hb;exact hx' hx)];exact hb
theorem l55a:zcc Tryz.prog 55:=zbm (by kernel_rfl)
theorem l131:zcd Tryz.prog 131 3:=zbB (by kernel_rfl) (by kernel_rfl)
theorem zsd(w:World)(f:FuncId)(cap:Array Value)(R:Value→World→Prop)(hce:∀args w,(callFunc f args).run Tryz.prog w = .ok (.enter f args) w)
  (hRs:∀v W W',R v W→FrX (fun _ e=>e=25∨e=26) W W'→R v W')
  (hc:∀W,Below w.heap.size w W→CallsIn Fence.wide 0 Tryz.prog f cap W fun e w'=>∃v',e = .returned v'∧((∃(sg:Bool) (p:Option Addr) (l:Nat) (d:Nat) (p2:Option Addr) (l2:Nat) (d2:Nat),v' = .agg #[.bool sg,.slice p l d,.slice p2 l2 d2])∧R v' w')∧Below W.heap.size W w') :
  CallsIn Fence.wide 0 Tryz.prog 66 #[.func (.func f) #[] cap] w fun e w'=>∃v',e = .returned (.tuple #[v',.int .i64 0])∧R v' w'∧Below w.heap.size w w':=by
 have hmf:∀(fn:Fn) (first cap:Array Value) (w:World),(Instr.makeFunc fn first cap).run Tryz.prog w = .ok (.func fn first cap) w:=fun _ _ _ _=>rfl
 have HC:=zHi hc;have HRS:=zHi hRs;clear hc hRs;gi_enter_defers Tryz.func66,Tryz.ntmps66
 gi_wp2_with (with_reducible refine zsq (f:=f) ?_)
 unfold Stop;obtain⟨W0,hW0⟩:∃W,W=w.alloc (.cells #[.bool false,.slice none 0 0,.slice none 0 0] 25):=⟨_,rfl⟩;have h0s:W0.heap.size=w.heap.size+1:=by rw [hW0];simp
 obtain⟨W1,hW1⟩:∃W,W=W0.alloc (.cells #[.int .i64 0] 26):=⟨_,rfl⟩;rw [←hW0,←hW1];have HA:Hid (∃f,zaj W1 w.heap.size 3 f):=zHi ⟨fun i => [.bool false,.slice none 0 0,.slice none 0 0].getD i (.bool false),by
  rw [hW1];refine zaj.alloc ?_ (by omega) _;rw [hW0];refine zaj.new _ _ _ fun i hi => ?_
  have:i=0∨i=1∨i=2:=by omega
  rcases this with rfl|rfl|rfl <;> rfl⟩
 have HA2:Hid (∃f,zaj W1 (w.heap.size+1) 1 f):=zHi ⟨fun i => .int .i64 0,by
  rw [hW1,←h0s];exact zaj.new _ _ _ fun i hi=>by
   have:i=0:=by omega
   rw [this];rfl⟩
 have HE:Hid (Elem W1 w.heap.size 25):=zHi ((by rw [hW0];exact zaB _ _ _:Elem W0 w.heap.size 25).below (by rw [hW1];exact zaa _ _) (by omega));have HE2:Hid (Elem W1 (w.heap.size+1) 26):=zHi (by rw [hW1,←h0s];exact zaB _ _ _);have HBW:Hid (Below w.heap.size w W1):=zHi (by rw [hW1,hW0];exact(zaa _ _).alloc (by simp) _);have hl:w.heap.size+1<W1.heap.size:=by rw [hW1];simp;omega
 obtain⟨g,hg⟩:∃g,w.heap.size=g:=⟨_,rfl⟩;rw [hg]at HA HA2 HE HE2 hl;rw [hg];have hgw:w.heap.size≤g:=by omega
 clear hW0 hW1 h0s hg;refine(HC.out W1 HBW.out).mono ?_;rintro e w2 ⟨v2,rfl,⟨⟨sg,p,l,d,p2,l2,d2,rfl⟩,hr2⟩,hB⟩;have HR2:=zHi hr2;replace HBW:=zBt HBW hB;replace HE:=zHi (HE.out.below hB (by omega));replace HE2:=zHi (HE2.out.below hB (by omega));obtain⟨f1,hf⟩:=HA.out;obtain⟨f2,hf2⟩:=HA2.out;have ha:=hf.below (by omega) hB;have ha2:=hf2.below (by omega) hB;have z0:=(ha 0 (by omega)).1;have y0:=(ha 0 (by omega)).2;have z1:=(ha 1 (by omega)).1;have y1:=(ha 1 (by omega)).2;have z2:=(ha 2 (by omega)).1;have y2:=(ha 2 (by omega)).2;have x0:=(ha2 0 (by omega)).1;have x1:=(ha2 0 (by omega)).2;have HA9:=zHi ha;have HA8:=zHi ha2;clear hr2 hB ha ha2 hf hf2 HA HA2;gi_wp2;have hB3:Below w.heap.size w ((((w2.setCell ⟨g,0,none⟩ (.bool sg)).setCell ⟨g,1,none⟩ (.slice p l d)).setCell ⟨g,2,none⟩ (.slice p2 l2 d2)).setCell ⟨g+1,0,none⟩ (.int .i64 0)):=
  (((HBW.out.setCell hgw _).setCell hgw _).setCell hgw _).setCell (by show w.heap.size≤g+1;omega) _
 refine leavesIn_cons (f:=109) (args:=#[.pointer (some ⟨g,0,none⟩),.pointer (some ⟨g+1,0,none⟩)]) (by simp) (by simp) (by simp [go_sem]) (by simp [Target.leads]) ?_;refine(zhi.2 _ _).mono ?_;rintro e u' w'' ⟨⟨v3,rfl⟩,rfl,hh,hb⟩;refine⟨.tuple #[.agg #[.bool sg,.slice p l d,.slice p2 l2 d2],.int .i64 0],?_,_,rfl,?_,?_⟩
 ·have h3:=(((HA9.out.set (i:=0) (by omega) (.bool sg)).set (i:=1) (by omega) (.slice p l d)).set (i:=2) (by omega) (.slice p2 l2 d2));have n3:∀j:Nat,(⟨g,j,none⟩:Addr)≠⟨g+1,0,none⟩:=fun j e=>by injection e with e _ _;omega
  have n4:∀j:Nat,(⟨g+1,0,none⟩:Addr)≠⟨g,j,none⟩:=fun j e=>by injection e with e _ _;omega
  have b3:BoxL ((((w2.setCell ⟨g,0,none⟩ (.bool sg)).setCell ⟨g,1,none⟩ (.slice p l d)).setCell ⟨g,2,none⟩ (.slice p2 l2 d2)).setCell ⟨g+1,0,none⟩ (.int .i64 0)) g [.bool sg,.slice p l d,.slice p2 l2 d2]:=⟨by have:=HE.out.lt;simpa using this,fun j v hj=>by
   rw [World.cell?_setCell_other _ _ _ _ (n4 j)];match j,hj with
   | 0,hj=>rw [←hj];exact(h3 0 (by omega)).1
   | 1,hj=>rw [←hj];exact(h3 1 (by omega)).1
   | 2,hj=>rw [←hj];exact(h3 2 (by omega)).1
   | n+3,hj=>simp at hj⟩
  have c3:((((w2.setCell ⟨g,0,none⟩ (.bool sg)).setCell ⟨g,1,none⟩ (.slice p l d)).setCell ⟨g,2,none⟩ (.slice p2 l2 d2)).setCell ⟨g+1,0,none⟩ (.int .i64 0)).cell? ⟨g+1,0,none⟩=some (.int .i64 0):=
   World.cell?_setCell_same _ _ _ (by rw [World.cell?_setCell_other _ _ _ _ (n3 2),World.cell?_setCell_other _ _ _ _ (n3 1),World.cell?_setCell_other _ _ _ _ (n3 0)];exact x0)
  have e1:=l25 g [.bool sg,.slice p l d,.slice p2 l2 d2] w'' rfl (fun j v hj=>(hb.cell (p:=⟨g,j,none⟩) b3.1).trans (b3.2 j v hj));have e2:=l26 ⟨g+1,0,none⟩ _ w'' ((hb.cell (World.block_lt_of_cell? _ _ c3)).trans c3);simp only [Instr.loadAt,Instr.sureAddr,Sem.run_bind,Sem.run_pure,Result.andThen_ok]at e1 e2;simp [results,asAddr,e1,e2]
 ·exact HRS.out _ _ _ HR2.out (((zdA (i:=0) (v:=.bool sg) HE.out (.inl rfl)).trans ((zdA (i:=1) (v:=.slice p l d) (HE.out.setCell _ _) (.inl rfl)).trans ((zdA (i:=2) (v:=.slice p2 l2 d2) ((HE.out.setCell _ _).setCell _ _) (.inl rfl)).trans (zdA (i:=0) (v:=.int .i64 0) (((HE2.out.setCell _ _).setCell _ _).setCell _ _) (.inr rfl))))).trans (FrX.of_below hb))
 ·exact hB3.trans (hb.mono hB3.size)
theorem zl4(w:World)(f:FuncId)(cap:Array Value)(R:Value→World→Prop)(hce:∀args w,(callFunc f args).run Tryz.prog w = .ok (.enter f args) w)
  (hRs:∀v W W',R v W→FrX (fun _ e=>e=55∨e=26) W W'→R v W')
  (hc:∀W,Below w.heap.size w W→CallsIn Fence.wide 0 Tryz.prog f cap W fun e w'=>∃v',e = .returned v'∧((∃(p:Option Addr) (l:Nat) (d:Nat),v' = .slice p l d)∧R v' w')∧Below W.heap.size W w') :
  CallsIn Fence.wide 0 Tryz.prog 78 #[.func (.func f) #[] cap] w fun e w'=>∃v',e = .returned (.tuple #[v',.int .i64 0])∧R v' w'∧Below w.heap.size w w':=by
 have hmf:∀(fn:Fn) (first cap:Array Value) (w:World),(Instr.makeFunc fn first cap).run Tryz.prog w = .ok (.func fn first cap) w:=fun _ _ _ _=>rfl
 have HC:=zHi hc;have HRS:=zHi hRs;clear hc hRs;gi_enter_defers Tryz.func78,Tryz.ntmps78
 gi_wp2_with (with_reducible refine zsq (f:=f) ?_)
 unfold Stop;obtain⟨W0,hW0⟩:∃W,W=w.alloc (.cells #[.slice none 0 0] 55):=⟨_,rfl⟩;have h0s:W0.heap.size=w.heap.size+1:=by rw [hW0];simp
 obtain⟨W1,hW1⟩:∃W,W=W0.alloc (.cells #[.int .i64 0] 26):=⟨_,rfl⟩;rw [←hW0,←hW1];have HA:Hid (∃f,zaj W1 w.heap.size 1 f):=zHi ⟨fun i => [.slice none 0 0].getD i (.bool false),by
  rw [hW1];refine zaj.alloc ?_ (by omega) _;rw [hW0];refine zaj.new _ _ _ fun i hi => ?_
  have:i=0:=by omega
  rw [this];rfl⟩
 have HA2:Hid (∃f,zaj W1 (w.heap.size+1) 1 f):=zHi ⟨fun i => .int .i64 0,by
  rw [hW1,←h0s];exact zaj.new _ _ _ fun i hi=>by
   have:i=0:=by omega
   rw [this];rfl⟩
 have HE:Hid (Elem W1 w.heap.size 55):=zHi ((by rw [hW0];exact zaB _ _ _:Elem W0 w.heap.size 55).below (by rw [hW1];exact zaa _ _) (by omega));have HE2:Hid (Elem W1 (w.heap.size+1) 26):=zHi (by rw [hW1,←h0s];exact zaB _ _ _);have HBW:Hid (Below w.heap.size w W1):=zHi (by rw [hW1,hW0];exact(zaa _ _).alloc (by simp) _);have hl:w.heap.size+1<W1.heap.size:=by rw [hW1];simp;omega
 obtain⟨g,hg⟩:∃g,w.heap.size=g:=⟨_,rfl⟩;rw [hg]at HA HA2 HE HE2 hl;rw [hg];have hgw:w.heap.size≤g:=by omega
 clear hW0 hW1 h0s hg;refine(HC.out W1 HBW.out).mono ?_;rintro e w2 ⟨v2,rfl,⟨⟨p,l,d,rfl⟩,hr2⟩,hB⟩;have HR2:=zHi hr2;replace HBW:=zBt HBW hB;replace HE:=zHi (HE.out.below hB (by omega));replace HE2:=zHi (HE2.out.below hB (by omega));obtain⟨f1,hf⟩:=HA.out;obtain⟨f2,hf2⟩:=HA2.out;have ha:=hf.below (by omega) hB;have ha2:=hf2.below (by omega) hB;have z0:=(ha 0 (by omega)).1;have y0:=(ha 0 (by omega)).2;have x0:=(ha2 0 (by omega)).1;have x1:=(ha2 0 (by omega)).2;have HA9:=zHi ha;have HA8:=zHi ha2;clear hr2 hB ha ha2 hf hf2 HA HA2;gi_wp2;have hB3:Below w.heap.size w ((w2.setCell ⟨g,0,none⟩ (.slice p l d)).setCell ⟨g+1,0,none⟩ (.int .i64 0)):=
  (HBW.out.setCell hgw _).setCell (by show w.heap.size≤g+1;omega) _
 refine leavesIn_cons (f:=120) (args:=#[.pointer (some ⟨g,0,none⟩),.pointer (some ⟨g+1,0,none⟩)]) (by simp) (by simp) (by simp [go_sem]) (by simp [Target.leads]) ?_;refine(zk4.2 _ _).mono ?_;rintro e u' w'' ⟨⟨v3,rfl⟩,rfl,hh,hb⟩;refine⟨.tuple #[.slice p l d,.int .i64 0],?_,_,rfl,?_,?_⟩
 ·have h3:=(HA9.out.set (i:=0) (by omega) (.slice p l d));have n3:∀j:Nat,(⟨g,j,none⟩:Addr)≠⟨g+1,0,none⟩:=fun j e=>by injection e with e _ _;omega
  have n4:∀j:Nat,(⟨g+1,0,none⟩:Addr)≠⟨g,j,none⟩:=fun j e=>by injection e with e _ _;omega
  have b3:BoxL ((w2.setCell ⟨g,0,none⟩ (.slice p l d)).setCell ⟨g+1,0,none⟩ (.int .i64 0)) g [.slice p l d]:=⟨by have:=HE.out.lt;simpa using this,fun j v hj=>by
   rw [World.cell?_setCell_other _ _ _ _ (n4 j)];match j,hj with
   | 0,hj=>rw [←hj];exact(h3 0 (by omega)).1
   | n+1,hj=>simp at hj⟩
  have c3:((w2.setCell ⟨g,0,none⟩ (.slice p l d)).setCell ⟨g+1,0,none⟩ (.int .i64 0)).cell? ⟨g+1,0,none⟩=some (.int .i64 0):=
   World.cell?_setCell_same _ _ _ (by rw [World.cell?_setCell_other _ _ _ _ (n3 0)];exact x0)
  have e1:=l55a ⟨g,0,none⟩ _ w'' ((hb.cell (p:=⟨g,0,none⟩) b3.1).trans (b3.2 0 _ rfl));have e2:=l26 ⟨g+1,0,none⟩ _ w'' ((hb.cell (World.block_lt_of_cell? _ _ c3)).trans c3);simp only [Instr.loadAt,Instr.sureAddr,Sem.run_bind,Sem.run_pure,Result.andThen_ok]at e1 e2;simp [results,asAddr,e1,e2]
 ·exact HRS.out _ _ _ HR2.out (((zdA (i:=0) (v:=.slice p l d) HE.out (.inl rfl)).trans (zdA (i:=0) (v:=.int .i64 0) (HE2.out.setCell _ _) (.inr rfl))).trans (FrX.of_below hb))
 ·exact hB3.trans (hb.mono hB3.size)
theorem zl3(w:World)(f:FuncId)(cap:Array Value)(R:Value→World→Prop)(hce:∀args w,(callFunc f args).run Tryz.prog w = .ok (.enter f args) w)
  (hRs:∀v W W',R v W→FrX (fun _ e=>e=131∨e=26) W W'→R v W')
  (hc:∀W,Below w.heap.size w W→CallsIn Fence.wide 0 Tryz.prog f cap W fun e w'=>∃v',e = .returned v'∧((∃(p:Option Addr) (l:Nat) (d:Nat) (fr:Int) (no:Bool),v' = .agg #[.slice p l d,.int .i64 fr,.bool no])∧R v' w')∧Below W.heap.size W w') :
  CallsIn Fence.wide 0 Tryz.prog 87 #[.func (.func f) #[] cap] w fun e w'=>∃v',e = .returned (.tuple #[v',.int .i64 0])∧R v' w'∧Below w.heap.size w w':=by
 have hmf:∀(fn:Fn) (first cap:Array Value) (w:World),(Instr.makeFunc fn first cap).run Tryz.prog w = .ok (.func fn first cap) w:=fun _ _ _ _=>rfl
 have HC:=zHi hc;have HRS:=zHi hRs;clear hc hRs;gi_enter_defers Tryz.func87,Tryz.ntmps87
 gi_wp2_with (with_reducible refine zsq (f:=f) ?_)
 unfold Stop;obtain⟨W0,hW0⟩:∃W,W=w.alloc (.cells #[.slice none 0 0,.int .i64 0,.bool false] 131):=⟨_,rfl⟩;have h0s:W0.heap.size=w.heap.size+1:=by rw [hW0];simp
 obtain⟨W1,hW1⟩:∃W,W=W0.alloc (.cells #[.int .i64 0] 26):=⟨_,rfl⟩;rw [←hW0,←hW1];have HA:Hid (∃f,zaj W1 w.heap.size 3 f):=zHi ⟨fun i => [.slice none 0 0,.int .i64 0,.bool false].getD i (.bool false),by
  rw [hW1];refine zaj.alloc ?_ (by omega) _;rw [hW0];refine zaj.new _ _ _ fun i hi => ?_
  have:i=0∨i=1∨i=2:=by omega
  rcases this with rfl|rfl|rfl <;> rfl⟩
 have HA2:Hid (∃f,zaj W1 (w.heap.size+1) 1 f):=zHi ⟨fun i => .int .i64 0,by
  rw [hW1,←h0s];exact zaj.new _ _ _ fun i hi=>by
   have:i=0:=by omega
   rw [this];rfl⟩
 have HE:Hid (Elem W1 w.heap.size 131):=zHi ((by rw [hW0];exact zaB _ _ _:Elem W0 w.heap.size 131).below (by rw [hW1];exact zaa _ _) (by omega));have HE2:Hid (Elem W1 (w.heap.size+1) 26):=zHi (by rw [hW1,←h0s];exact zaB _ _ _);have HBW:Hid (Below w.heap.size w W1):=zHi (by rw [hW1,hW0];exact(zaa _ _).alloc (by simp) _);have hl:w.heap.size+1<W1.heap.size:=by rw [hW1];simp;omega
 obtain⟨g,hg⟩:∃g,w.heap.size=g:=⟨_,rfl⟩;rw [hg]at HA HA2 HE HE2 hl;rw [hg];have hgw:w.heap.size≤g:=by omega
 clear hW0 hW1 h0s hg;refine(HC.out W1 HBW.out).mono ?_;rintro e w2 ⟨v2,rfl,⟨⟨p,l,d,fr,no,rfl⟩,hr2⟩,hB⟩;have HR2:=zHi hr2;replace HBW:=zBt HBW hB;replace HE:=zHi (HE.out.below hB (by omega));replace HE2:=zHi (HE2.out.below hB (by omega));obtain⟨f1,hf⟩:=HA.out;obtain⟨f2,hf2⟩:=HA2.out;have ha:=hf.below (by omega) hB;have ha2:=hf2.below (by omega) hB;have z0:=(ha 0 (by omega)).1;have y0:=(ha 0 (by omega)).2;have z1:=(ha 1 (by omega)).1;have y1:=(ha 1 (by omega)).2;have z2:=(ha 2 (by omega)).1;have y2:=(ha 2 (by omega)).2;have x0:=(ha2 0 (by omega)).1;have x1:=(ha2 0 (by omega)).2;have HA9:=zHi ha;have HA8:=zHi ha2;clear hr2 hB ha ha2 hf hf2 HA HA2;gi_wp2;have hB3:Below w.heap.size w ((((w2.setCell ⟨g,0,none⟩ (.slice p l d)).setCell ⟨g,1,none⟩ (.int .i64 fr)).setCell ⟨g,2,none⟩ (.bool no)).setCell ⟨g+1,0,none⟩ (.int .i64 0)):=
  (((HBW.out.setCell hgw _).setCell hgw _).setCell hgw _).setCell (by show w.heap.size≤g+1;omega) _
 refine leavesIn_cons (f:=125) (args:=#[.pointer (some ⟨g,0,none⟩),.pointer (some ⟨g+1,0,none⟩)]) (by simp) (by simp) (by simp [go_sem]) (by simp [Target.leads]) ?_;refine(zk3.2 _ _).mono ?_;rintro e u' w'' ⟨⟨v3,rfl⟩,rfl,hh,hb⟩;refine⟨.tuple #[.agg #[.slice p l d,.int .i64 fr,.bool no],.int .i64 0],?_,_,rfl,?_,?_⟩
 ·have h3:=(((HA9.out.set (i:=0) (by omega) (.slice p l d)).set (i:=1) (by omega) (.int .i64 fr)).set (i:=2) (by omega) (.bool no));have n3:∀j:Nat,(⟨g,j,none⟩:Addr)≠⟨g+1,0,none⟩:=fun j e=>by injection e with e _ _;omega
  have n4:∀j:Nat,(⟨g+1,0,none⟩:Addr)≠⟨g,j,none⟩:=fun j e=>by injection e with e _ _;omega
  have b3:BoxL ((((w2.setCell ⟨g,0,none⟩ (.slice p l d)).setCell ⟨g,1,none⟩ (.int .i64 fr)).setCell ⟨g,2,none⟩ (.bool no)).setCell ⟨g+1,0,none⟩ (.int .i64 0)) g [.slice p l d,.int .i64 fr,.bool no]:=⟨by have:=HE.out.lt;simpa using this,fun j v hj=>by
   rw [World.cell?_setCell_other _ _ _ _ (n4 j)];match j,hj with
   | 0,hj=>rw [←hj];exact(h3 0 (by omega)).1
   | 1,hj=>rw [←hj];exact(h3 1 (by omega)).1
   | 2,hj=>rw [←hj];exact(h3 2 (by omega)).1
   | n+3,hj=>simp at hj⟩
  have c3:((((w2.setCell ⟨g,0,none⟩ (.slice p l d)).setCell ⟨g,1,none⟩ (.int .i64 fr)).setCell ⟨g,2,none⟩ (.bool no)).setCell ⟨g+1,0,none⟩ (.int .i64 0)).cell? ⟨g+1,0,none⟩=some (.int .i64 0):=
   World.cell?_setCell_same _ _ _ (by rw [World.cell?_setCell_other _ _ _ _ (n3 2),World.cell?_setCell_other _ _ _ _ (n3 1),World.cell?_setCell_other _ _ _ _ (n3 0)];exact x0)
  have e1:=l131 g [.slice p l d,.int .i64 fr,.bool no] w'' rfl (fun j v hj=>(hb.cell (p:=⟨g,j,none⟩) b3.1).trans (b3.2 j v hj));have e2:=l26 ⟨g+1,0,none⟩ _ w'' ((hb.cell (World.block_lt_of_cell? _ _ c3)).trans c3);simp only [Instr.loadAt,Instr.sureAddr,Sem.run_bind,Sem.run_pure,Result.andThen_ok]at e1 e2;simp [results,asAddr,e1,e2]
 ·exact HRS.out _ _ _ HR2.out (((zdA (i:=0) (v:=.slice p l d) HE.out (.inl rfl)).trans ((zdA (i:=1) (v:=.int .i64 fr) (HE.out.setCell _ _) (.inl rfl)).trans ((zdA (i:=2) (v:=.bool no) ((HE.out.setCell _ _).setCell _ _) (.inl rfl)).trans (zdA (i:=0) (v:=.int .i64 0) (((HE2.out.setCell _ _).setCell _ _).setCell _ _) (.inr rfl))))).trans (FrX.of_below hb))
 ·exact hB3.trans (hb.mono hB3.size)
theorem zkh{w:World}{v:Value}{m N:Nat}{A:Nat→Nat→Rat}(h:MatR w v (tab m N A))(h0:0<m)(hN:0<N):∃a c a0 c0,v = .slice (some a) m c∧w.cell? (a.add (0*1))=some (.slice (some a0) N c0):=by
 obtain⟨a,c,rfl⟩:=zad.some h (by rw [zal];exact h0);rw [zal]at h;obtain⟨_,row,hrl,hcell,u,rfl,hu⟩:=zad.at' h (zbG (A:=A) h0);obtain⟨a0,c0,rfl⟩:=zad.some hu (by simpa using hN);have:=hcell 0 _ rfl;rw [Addr.add_add,Nat.add_zero]at this;refine⟨a,c,a0,c0,by rw [zal],?_⟩;simpa using this
theorem it55:zff Tryz.prog 55 1:=zcR (e:=64) (inf:=Tryz.t64) (by kernel_rfl) (by kernel_rfl) (by kernel_rfl)
def zos(m N:Nat)(A:Nat→Nat→Rat):Prop:=∀i j,i<m→j<N→zan (A i j) 100000
theorem znU{m N:Nat}{A:Nat→Nat→Rat}(h:zos m N A):∀r∈tab m N A,∀q∈r,zan q 100000:=by
 intro r hr q hq;obtain⟨i,hi,rfl⟩:=List.mem_map.1 hr;obtain⟨j,hj,rfl⟩:=List.mem_map.1 hq;exact h i j (List.mem_range.1 hi) (List.mem_range.1 hj)
theorem zlK(w:World)(v:Value)(cs:List Nat)(x:Nat)(h:zad w 3 1 II v cs)(h9:cs.length≤1000) :
  CallsIn Fence.wide 0 Tryz.prog 122 #[v,.int .i64 (x:Int)] w fun e w'=>∃r:Int,e = .returned (.int .i64 r)∧(0≤r↔x∈cs)∧w'=w:=by
 obtain⟨o,c,rfl,_⟩:=zad.form h;have HR:=zHi h;obtain⟨n,hn⟩:∃n,cs.length=n:=⟨_,rfl⟩;have HN:=zHi hn;rw [hn]at HR h9;rw [hn];clear h hn;refine callsIn_of_wp Tryz.func122 rfl trivial ?_ rfl;simp only [Tryz.ntmps122,ztH,ztI,ztJ,Nat.reduceAdd,Nat.reduceSub,ztK,ztL,ztM,ztN,ztO,ztP];gi_wp2;gi_loopw [8] (fun x8 wr=>∃i:Nat,x8 = .int .i64 (i:Int)∧i≤n∧wr=w∧Hid (∀j,j<i→cs[j]? ≠ some x)) (fun x _=>n-(intOf x).toNat)
 case atStart=>exact⟨0,rfl,by omega,rfl,zHi (fun j hj=>absurd hj (Nat.not_lt_zero _))⟩
 case round=>
  obtain⟨i,rfl,hi,rfl,HS⟩:=hrel;by_cases hin:i<n
  ·obtain⟨q,hq⟩:∃q,cs[i]? = some q:=⟨_,List.getElem?_eq_getElem (by rw [HN.out];exact hin)⟩;obtain⟨a,rfl⟩:∃a,o=some a:=by
    rcases HR.out with⟨h0,_⟩|⟨a,cap,xs,e,_⟩
    ·rw [h0]at hq;simp at hq
    ·injection e with e _ _;exact⟨a,e⟩
   obtain⟨_,row,hrl,hcell,hII⟩:=zad.at' HR.out hq;have hII:row = [.int .i64 (q:Int)]:=hII;subst hII;have x0:=hcell 0 _ rfl;rw [Addr.add_add,Nat.add_zero,Nat.mul_one]at x0;have HQ:=zHi hq;clear hcell hq hrl;by_cases hxq:x=q
   ·have hd:((x:Int) == (q:Int))=true:=by rw [hxq];exact beq_self_eq_true _
    have hd':decide ((x:Int)=(q:Int))=true:=decide_eq_true (by rw [hxq]);gi_wp2;all_goals (first|go_returns|go_ret|go_end0)
    exact⟨_,rfl,⟨fun _=>List.mem_of_getElem? (by rw [HQ.out,hxq]),fun _=>by omega⟩,by trivial⟩
   ·have hd:((x:Int) == (q:Int))=false:=by rw [beq_eq_false_iff_ne];omega
    have hd':decide ((x:Int)=(q:Int))=false:=decide_eq_false (by omega);gi_wp2;exact⟨⟨i+1,by go_num,by omega,by trivial,zHi (fun j hj=>by
     rcases Nat.lt_or_ge j i with h|h
     ·exact HS.out j h
     ·have:j=i:=by omega
      rw [this,HQ.out];exact fun e=>hxq (Option.some.inj e).symm)⟩,by simp only [intOf];omega⟩
  ·have hin2:i=n:=by omega
   have hno:Hid (x∉cs):=zHi (fun hm=>by
    obtain⟨j,hj,e⟩:=List.getElem_of_mem hm;exact HS.out j (by rw [hin2,←HN.out];exact hj) (by rw [List.getElem?_eq_getElem hj,e]))
   gi_wp2;all_goals (first|go_returns|go_ret|go_end0)
   exact⟨_,rfl,⟨fun h=>by omega,fun h=>absurd h hno.out⟩,rfl⟩
theorem zh5(w:World)(v:Value)(cs:List Nat)(x:Nat)(h:zad w 3 1 II v cs)(h9:cs.length≤1000) :
  CallsIn Fence.wide 0 Tryz.prog 82 #[v,.int .i64 (x:Int)] w fun e w'=>e = .returned (.bool (decide (x∈cs)))∧w'=w:=by
 obtain⟨o,c,rfl,_⟩:=zad.form h;have HR:=zHi h;clear h;refine callsIn_of_wp Tryz.func82 rfl trivial ?_ rfl;simp only [Tryz.ntmps82,ztH,ztI,ztJ,Nat.reduceAdd,Nat.reduceSub,ztK,ztL,ztM,ztN,ztO,ztP];gi_wp2_with (gi_at_call 122;refine stop ?_)
 refine(zlK w _ cs x HR.out h9).mono ?_;rintro e w2 ⟨r,rfl,hr,rfl⟩;have hd:decide (r≥0)=decide (x∈cs):=decide_eq_decide.2 hr;gi_wp2;all_goals (first|go_returns|go_ret|go_end0)
 exact⟨rfl,rfl⟩
end Go.Num
namespace Go.Num
structure Fine(m N columns:Nat)(A:Nat→Nat→Rat):Prop where
 run:∀c,c≤columns→Good m N (pRun m A c).P
 unit:Good m N (zbS (pRun m A columns).P (zaF m A columns))
 piv:∀(i c:Nat),(zaF m A columns)[i]? = some c→(pRun m A columns).P i c≠0
structure Ends(m N columns:Nat)(g0:Nat→Rat)(P0:Nat→Nat→Rat)(A0:Nat→Nat→Int):Prop where
 k:(rRun m A0 columns).k=(pRun m P0 columns).k
 last:(rRun m A0 columns).last≠0
 piv:∀(i c:Nat),(zaF m P0 columns)[i]? = some c→i<m∧(rRun m A0 columns).A i c=(rRun m A0 columns).last
 unit:∀(i c:Nat),(zaF m P0 columns)[i]? = some c→∀j,j<N→(pRun m P0 columns).P i j/(pRun m P0 columns).P i c=((rRun m A0 columns).A i j:Rat)/((rRun m A0 columns).last:Rat)
 zero:∀i,(pRun m P0 columns).k≤i→i<m→∀j,j<N→((pRun m P0 columns).P i j=0↔(rRun m A0 columns).A i j=0)
 det:(pRun m P0 columns).k=m→zli (zoW m P0 columns)=pm (rRun m A0 columns).turns*zcY g0 m*((rRun m A0 columns).last:Rat)
theorem zjZ{X Y L:Nat}{q:Rat}(h:RatB X Y q)(hx:X<B^L)(hy:Y<B^L):zan q L:=by
 have:=h.size;exact⟨Nat.lt_of_le_of_lt this.1 hx,Nat.lt_of_le_of_lt this.2 hy⟩
section
variable {m N X F columns:Nat} {g0:Nat→Rat} {U0 P0:Nat→Nat→Rat} {A0:Nat→Nat→Int}
theorem zme.at'{c:Nat}{s:PS}{t:RS}{cs:List Nat}{ps:List Rat}{U:Nat→Nat→Rat}{cf:Nat→Nat}{g:Nat→Rat}(h:zme N m X F g0 c s t cs ps U cf g){i x:Nat}(hi:cs[i]? = some x):i<s.k∧cf i=x:=by
 have h1:i<s.k:=by rw [←h.csl];exact(List.getElem?_eq_some_iff.1 hi).1
 have:=h.col i h1;rw [hi]at this;exact⟨h1,(Option.some.inj this).symm⟩
theorem zm4(hA:∀i,i<m→∀j,j<N→(A0 i j:Rat)=U0 i j)(hX:∀i,i<m→∀j,j<N→(A0 i j).natAbs≤X)(hg:∀i,i<m→g0 i≠0)(hgF:∀i,i<m→RatB 1 F (g0 i))
  (hP:∀i,i<m→∀j,j<N→P0 i j=g0 i*U0 i j) (hcN:columns≤N):Ends m N columns g0 P0 A0:=by
 obtain⟨U,cf,g,h⟩:=zmP hA hX hg hgF hP columns hcN;have hk:=h.E.hk;have hd:zaE U cf (pRun m P0 columns).k≠0:=zd7 h.E.piv;have hl0:(rRun m A0 columns).last≠0:=by
  intro e;have:=h.R.last;rw [e]at this;exact hd this.symm
 refine⟨h.k,hl0,fun i c hi => ?_,fun i c hi j hj => ?_,fun i h1 h2 j hj => ?_,fun e => ?_⟩
 ·obtain⟨h1,h2⟩:=h.at' hi;refine⟨by omega,?_⟩;have hcN':c<N:=by rw [←h2];exact h.E.lt i h1
  rw [←intCast_inj,h.R.held i h1 c hcN',h.R.last,←h2];have:=h.E.piv i h1;grind
 ·obtain⟨h1,h2⟩:=h.at' hi;have hcN':c<N:=by rw [←h2];exact h.E.lt i h1
  have him:i<m:=by omega
  rw [h.P.row i him j hj,h.P.row i him c hcN',h.R.held i h1 j hj,h.R.last,←h2];have:=h.E.piv i h1;have:=h.P.ne i him;grind
 ·exact(zdx.zero h.P h2 hj).trans (zdB.zero h.E h.R h1 h2 hj).symm
 ·rw [h.prod,e,h.gs,h.R.last,e]
theorem zsL(hA:∀i,i<m→∀j,j<N→(A0 i j:Rat)=U0 i j)(hX:∀i,i<m→∀j,j<N→(A0 i j).natAbs≤X)(hg:∀i,i<m→g0 i≠0)(hgF:∀i,i<m→RatB 1 F (g0 i))
  (hP:∀i,i<m→∀j,j<N→P0 i j=g0 i*U0 i j) (hcN:columns≤N) (hNX:1≤N*X) (hF:1≤F) (hb:F*((N*X)^m*(N*X)^m)<B^700):Fine m N columns P0:=by
 have h1:1≤(N*X)^m:=Nat.one_le_pow _ _ hNX;have hb1:(N*X)^m*(N*X)^m<B^700:=Nat.lt_of_le_of_lt (Nat.le_mul_of_pos_left _ hF) hb;have hb2:(N*X)^m<B^700:=Nat.lt_of_le_of_lt (Nat.le_mul_of_pos_left _ h1) hb1;have hrun:∀c,c≤columns→Good m N (pRun m P0 c).P:=fun c hc i j hi hj=>by
  obtain⟨U,cf,g,h⟩:=zmP hA hX hg hgF hP c (by omega);exact zjZ (zdx.bound h.E h.P hNX hF h.g1 hi hj) hb1 hb
 obtain⟨U,cf,g,h⟩:=zmP hA hX hg hgF hP columns hcN;have hE:=zm4 hA hX hg hgF hP hcN;have hbd:=zdB.bound h.E h.R hNX;refine⟨hrun,fun i j hi hj => ?_,fun i c hi => ?_⟩
 ·unfold zbS
  cases e:(zaF m P0 columns)[i]? with
  | none=>exact hrun columns (Nat.le_refl _) i j hi hj
  | some c=>
   show zan ((pRun m P0 columns).P i j/(pRun m P0 columns).P i c) 700
   rw [hE.unit i c e j hj];exact zjZ ⟨_,_,hE.last,rfl,hbd.2 i hi j hj,hbd.1⟩ hb2 hb2
 ·obtain⟨h1,h2⟩:=h.at' hi;have:=h.E.piv i h1;rw [h2]at this;have him:i<m:=by have:=h.E.hk;omega
  have hcN':c<N:=by rw [←h2];exact h.E.lt i h1
  exact fun q=>this ((h.P.zero him hcN').1 q)
theorem ztl(hA:∀i,i<m→∀j,j<N→(A0 i j:Rat)=U0 i j)(hX:∀i,i<m→∀j,j<N→(A0 i j).natAbs≤X)(hg:∀i,i<m→g0 i≠0)(hgF:∀i,i<m→RatB 1 F (g0 i))
  (hP:∀i,i<m→∀j,j<N→P0 i j=g0 i*U0 i j) (hcN:columns≤N) (hNX:1≤N*X) (hF:1≤F) (hb:F^m*(N*X)^m<B^700) (hk:(pRun m P0 columns).k=m):zan (zli (zoW m P0 columns)) 700:=by
 obtain⟨U,cf,g,h⟩:=zmP hA hX hg hgF hP columns hcN;have hE:=zm4 hA hX hg hgF hP hcN;have hbd:=(zdB.bound h.E h.R hNX).1;have hF1:1≤F^m:=Nat.one_le_pow _ _ hF;have hgm:∀l,l≤m→RatB 1 (F^l) (zcY g l):=by
  intro l;induction l with
  | zero=>intro _;exact⟨1,1,by decide,by show(1:Rat)=((1:Int):Rat)/((1:Int):Rat);grind,Nat.le_refl _,Nat.le_refl _⟩
  | succ l ih=>
   intro hl;have:=(ih (by omega)).mul (h.g1 l (by omega));rw [Nat.one_mul,←Nat.pow_succ]at this;exact this
 rw [h.prod,hk,←show((rRun m A0 columns).last:Rat)=zaE U cf m by rw [h.R.last,hk]];have h2:RatB ((N*X)^m) 1 ((rRun m A0 columns).last:Rat):=⟨(rRun m A0 columns).last,1,by decide,by show _=_/((1:Int):Rat);grind,hbd,Nat.le_refl _⟩;have h3:=(hgm m (Nat.le_refl _)).mul h2;rw [Nat.one_mul,Nat.mul_one]at h3;refine zjZ h3 (Nat.lt_of_le_of_lt (Nat.le_mul_of_pos_left _ hF1) hb) (Nat.lt_of_le_of_lt (Nat.le_mul_of_pos_right _ (Nat.one_le_pow _ _ hNX)) hb)
end
end Go.Num
namespace Go.Num
open Go.Eng Go.Shelf Go.RowKit Go.Sort Go.Proofs Go.Proofs.YtoamcgjbelhnkaaGreatDoor
attribute [local go_sem] Oper.semAt_some
theorem zav.at'{w:World}{base m N:Nat}{A:Nat→Nat→Rat}{v:Value}{rvs:List Value}(h:zav w base 64 25 3 IR v rvs (tab m N A))(h0:0<m):∃g c,v = .slice (some ⟨g,0,none⟩) m c∧base≤g:=by
 have hl:rvs.length=m:=by rw [←h.len,zal]
 obtain⟨g',c',e,h1,_⟩:=h.top.own (by omega);exact⟨g',c',by rw [e,hl],h1⟩
end Go.Num
namespace Go.Num
open Go.Eng Go.Shelf Go.RowKit Go.Sort Go.Proofs Go.Proofs.YtoamcgjbelhnkaaGreatDoor
theorem zmp{F:Fence}{n:Nat}{P:Program}{ops:Array Oper}{rest:List Oper}{x y:Operand}{ty:TypeId}{ps:String}{af:Array Edge}{a:CAct}{Q:Exit→CAct→World→Prop}{w:World}
  (h:Stop (wpListIn F n P ops Q ({op:=.store 25 x y,dst:=none,type:=ty,pos:=ps,after:=af,guard:=none} :: rest) a w)):wpListIn F n P ops Q ({op:=.store 25 x y,dst:=none,type:=ty,pos:=ps,after:=af,guard:=none} :: rest) a w:=h
theorem za2{F:Fence}{n:Nat}{P:Program}{ops:Array Oper}{rest:List Oper}{t:TypeId}{x y:Operand}{ty:TypeId}{ps:String}{af:Array Edge}{a:CAct}{Q:Exit→CAct→World→Prop}{w:World}(w':World){p v:Value}(hx:a.eval x=p)(hy:a.eval y=v)(hrun:(Instr.storeAt t p v).run P w = .ok () w')
  (h:wpListIn F n P ops Q rest a w'):wpListIn F n P ops Q ({op:=.store t x y,dst:=none,type:=ty,pos:=ps,after:=af,guard:=none} :: rest) a w:=by
 refine wpListIn_plain rfl fun K hK => ?_
 unfold Oper.wpIn;refine⟨by simp [Oper.about],?_⟩;rw [Oper.semAt_plain F _ _ (by intro c hc';cases hc')];simp [execOp,hx,hy,hrun,Result.andThen]
 exact hK _ _ h
theorem ztw(x y z:Value)(m:Nat):(madeCells #[x,y,z] (m*3)).toList=(List.replicate m [x,y,z]).flatten:=by
 refine List.ext_getElem? fun i => ?_
 have hlen:(List.replicate m [x,y,z]).flatten.length=m*3:=by
  induction m with
  | zero=>rfl
  | succ m ih=>rw [List.replicate_succ,List.flatten_cons,List.length_append,ih];show 3+m*3=(m+1)*3;omega
 rcases Nat.lt_or_ge i (m*3)with hi|hi
 ·have h1:(List.replicate m [x,y,z])[i/3]? = some [x,y,z]:=by
   rw [List.getElem?_replicate,if_pos (by omega)]
  have hm:i%3 < [x,y,z].length:=Nat.mod_lt _ (by decide);have h2:=zcD (sz:=3) (xs:=List.replicate m [x,y,z]) (fun r hr=>by rw [List.eq_of_mem_replicate hr];rfl) h1 (List.getElem?_eq_getElem hm);rw [Nat.div_add_mod' i 3]at h2;rw [h2];have h3:i%3=0∨i%3=1∨i%3=2:=by omega
  simp only [madeCells,Array.toList_map,Array.toList_range,List.getElem?_map,List.getElem?_range hi,Option.map_some];rcases h3 with h3|h3|h3 <;> simp [h3]
 ·rw [List.getElem?_eq_none (by simp [size_madeCells];omega),List.getElem?_eq_none (by rw [hlen];exact hi)]
theorem OwnR.made{w:World}{base g m:Nat}(h:w.ownsRow base 25 3 (.slice (some ⟨g,0,none⟩) m m) m (madeCells #[.bool false,.slice none 0 0,.slice none 0 0] (m*3)).toList):OwnR w base 25 3 IR (.slice (some ⟨g,0,none⟩) m m) (rowF (fun _=>0) m):=by
 refine⟨List.replicate m [.bool false,.slice none 0 0,.slice none 0 0],?_,by rw [List.length_replicate,zak],fun r hr=>by rw [List.eq_of_mem_replicate hr];rfl,fun i r b hr hb => ?_⟩
 ·rw [zak,←ztw];exact h
 ·have h1:r = [.bool false,.slice none 0 0,.slice none 0 0]:=by
   rw [List.getElem?_replicate]at hr;split at hr
   ·exact(Option.some.inj hr).symm
   ·cases hr
  have h2:b=0:=by
   have hi:i<m:=by
    have:=(List.getElem?_eq_some_iff.1 hb).1;rwa [zak]at this
   rw [zdf hi]at hb;exact(Option.some.inj hb).symm
  rw [h1,h2];exact zaS w
def kvec(P:Nat→Nat→Rat)(cs:List Nat)(c:Nat):Nat→Nat→Rat
 | 0=>fun j=>if j=c then 1 else 0
 | i+1=>match cs[i]? with|some p=>fun j=>if j=p then -(P i c)else kvec P cs c i j|none=>kvec P cs c i
def kern(P:Nat→Nat→Rat)(cs:List Nat)(N c:Nat):List (List Rat):=((List.range c).filter (fun x=>decide (x∉cs))).map fun x=>rowF (kvec P cs x cs.length) N
theorem zmN{P:Nat→Nat→Rat}{cs:List Nat}{N c:Nat}(h:c∈cs):kern P cs N (c+1)=kern P cs N c:=by
 unfold kern;rw [List.range_succ,List.filter_append];simp [h]
theorem zkn{P:Nat→Nat→Rat}{cs:List Nat}{N c:Nat}(h:c∉cs):kern P cs N (c+1)=kern P cs N c ++ [rowF (kvec P cs c cs.length) N]:=by
 unfold kern;rw [List.range_succ,List.filter_append];simp [h]
theorem ze6{P:Nat→Nat→Rat}{cs:List Nat}{N:Nat}:∀c,(kern P cs N c).length≤c
 | 0=>Nat.le_refl _
 | c+1=>by
  by_cases h:c∈cs
  ·rw [zmN h];exact Nat.le_succ_of_le (ze6 c)
  ·rw [zkn h,List.length_append];exact Nat.succ_le_succ (ze6 c)
theorem zeK{P:Nat→Nat→Rat}{cs:List Nat}{c i p:Nat}(h:cs[i]? = some p):kvec P cs c (i+1)=fun j=>if j=p then -(P i c)else kvec P cs c i j:=by
 show(match cs[i]? with|some p=>fun j=>if j=p then -(P i c)else kvec P cs c i j|none=>kvec P cs c i)=_
 rw [h]
theorem OwnR.put{w:World}{base g cap N i:Nat}{a:Nat→Rat}{row:List Value}{x:Rat}(h:OwnR w base 25 3 IR (.slice (some ⟨g,0,none⟩) N cap) (rowF a N))(hi:i<N)(hrow:row.length=3)(hx:IR x row w) :
  OwnR (w.setCells g (i*3) row) base 25 3 IR (.slice (some ⟨g,0,none⟩) N cap) (rowF (fun j=>if j=i then x else a j) N)∧w.there g (i*3) 3∧base≤g∧Below g w (w.setCells g (i*3) row):=by
 have hl:(rowF a N).length=N:=zak a N;obtain⟨g',c',e,hb,_,cur,hcur⟩:=h.own (by rw [hl];omega);injection e with e;injection e with e;injection e with e;subst e;have hE:Elem w g 25:=⟨cur,_,hcur⟩;have hK:=(zai g row (i*3) w).kept hE rfl;have h':OwnR w base 25 3 IR (.slice (some ⟨g,0,none⟩) (rowF a N).length cap) (rowF a N):=by rw [hl];exact h
 rw [←hl]at hi;have:=OwnR.store (I:=IR) h' (by decide) (i:=i) hi (row:=row) (b:=x) hrow (fun b r q=>zau.kept (show zau w (.agg r.toArray) b from q) hK) (show IR x row _ from zau.kept hx hK);rw [hl,zjV]at this;exact⟨this.1,this.2,hb,zax (Nat.le_refl _) _ _ _ (Below.refl _ _)⟩
theorem znz{w:World}{b o:Nat}{x y z:Value}(ht:w.there b o 3)(h1:#[x,y,z].all (·.oneCell')=true):(Instr.storeAt 25 (.pointer (some ⟨b,o,none⟩)) (.agg #[x,y,z])).run Tryz.prog w = .ok () (w.setCells b o [x,y,z]):=by
 have:=zjO ht h1;rwa [Addr.add_lit,Nat.zero_add]at this
theorem ziF{w w':World}(h:w.grownBy w' none):Below w.heap.size w w':=⟨h.os,h.tape,h.output,h.size,fun k hk=>h.block k hk (by simp)⟩
theorem zav.mat{w:World}{base:Nat}{v:Value}{rvs:List Value}{rows:List (List Rat)}(h:zav w base 64 25 3 IR v rvs rows)(h9:rows.length≤1000000000)(h8:∀l∈rows,l.length≤1000000000):MatR w v rows:=by
 have hl:=h.len;rcases h.top.row (by omega)with⟨e,o,c,e2⟩|⟨a,cap,xs,e,h2,h3,h4,h5,h6,h7,h10⟩
 ·refine .inl ⟨List.eq_nil_of_length_eq_zero (by rw [hl,e];rfl),o,c,e2⟩
 ·refine .inr ⟨a,cap,xs,by rw [e,hl],by omega,by omega,h4,by omega,h6,h7,fun i row b hr hb => ?_⟩;have hi:i<rvs.length:=by rw [←hl];exact(List.getElem?_eq_some_iff.1 hb).1
  have hu:rvs[i]? = some rvs[i]:=List.getElem?_eq_getElem hi;have hrow:row = [rvs[i]]:=h10 i row _ hr hu;exact⟨_,hrow,(h.row i _ b hu hb).row (h8 b (List.mem_of_getElem? hb))⟩
theorem zkm(w:World)(gb m N:Nat)(v:Value)(A:Nat→Nat→Rat)(hb:w.cell? ⟨gb,0,none⟩=some v)(hm:MatR w v (tab m N A))(h0:0<m)(hN:0<N)(h9:m≤1000∧N≤1000)(hT:zaY w)(hF:Fine m N N A) :
  CallsIn Fence.wide 0 Tryz.prog 79 #[.pointer (some ⟨gb,0,none⟩)] w fun e w'=>∃v',e = .returned v'∧MatR w' v' (kern (zbS (pRun m A N).P (zaF m A N)) (zaF m A N) N N)∧Below w.heap.size w w':=by
 obtain⟨a,c,a0,c0,rfl,hx⟩:=zkh hm h0 hN;have HM:=zHi hm;have HT:=zHi hT;have HF:=zHi hF;have HB:=zHi hb;have HX:=zHi hx;obtain⟨cs,hcs⟩:∃cs,zaF m A N=cs:=⟨_,rfl⟩;obtain⟨P,hP⟩:∃P,zbS (pRun m A N).P cs=P:=⟨_,rfl⟩;rw [hcs,hP];have HP:=zHi hP;have HCS:=zHi hcs;clear hm hT hF hx hP hcs;refine callsIn_of_wp Tryz.func79 rfl trivial ?_ rfl;simp only [Tryz.ntmps79,ztH,ztI,ztJ,Nat.reduceAdd,Nat.reduceSub,ztK,ztL,ztM,ztN,ztO,ztP];gi_wp2_with (gi_at_call 80;refine stop ?_)
 refine(zia w _ _ (tab m N A) [] HM.out (.inl ⟨rfl,none,0,rfl⟩) (by rw [zal];exact h0) (by rw [zal];omega) (fun l hl=>by rw [zfk hl];omega) (by simp)).mono ?_;rintro e w6 ⟨v6,rvs,rfl,hm6,hB6⟩;rw [zpg]at hm6;obtain⟨gm,cm,rfl,hgm1⟩:=hm6.at' h0;have HM6:Hid (∃rvs,zav w6 w.heap.size 64 25 3 IR (.slice (some ⟨gm,0,none⟩) m cm) rvs (tab m N A)):=zHi ⟨rvs,hm6⟩;have HB6:=zHi hB6;have hb6:=(hB6.cell (World.block_lt_of_cell? _ _ hb)).trans hb;have hx6:=(hB6.cell (World.block_lt_of_cell? _ _ HX.out)).trans HX.out;rw [show a.add (0*1)=a by simp [Addr.add]]at hx6;clear hm6 hB6 hb;gi_wp2_with (gi_at_call 81;refine stop ?_)
 refine(zfV w6 w.heap.size gm cm m N N A h0 h9.1 hN h9.2 (Nat.le_refl _) HT.out.two HM6.out (HT.out.below HB6.out) HF.out.run HF.out.unit HF.out.piv).mono ?_;rintro e w7 ⟨vc,rfl,hl7,⟨rvs7,hm7⟩,hB7⟩;rw [HCS.out,HP.out]at hm7;rw [HCS.out]at hl7;have hk9:cs.length≤m:=by rw [←HCS.out,zdl];exact(zf3 m A N).1
 have HCLT:Hid (∀x∈cs,x<N):=zHi (by rw [←HCS.out];exact zg4 _ _ _);have hb07:=HB6.out.trans hB7;have HB07:=zHi hb07;have HM7:=zHi (hm7.mat (by rw [zal];omega) (fun l hl=>by rw [zfk hl];omega));have HL7:=zHi (hl7.row (by omega));obtain⟨oc,cc,hvc⟩:=hl7.form;obtain⟨K,hK⟩:∃K,cs.length=K:=⟨_,rfl⟩;have HK:=zHi hK;rw [hK]at hvc hk9;have hb7:=(hb07.cell (World.block_lt_of_cell? _ _ HB.out)).trans HB.out;have hx7:=(hb07.cell (World.block_lt_of_cell? _ _ HX.out)).trans HX.out;rw [show a.add (0*1)=a by simp [Addr.add]]at hx7;have HB7:=zHi hb7;have HX7:=zHi hx7;subst hvc;clear hB7 hm7 hl7 hb07 hK hb6 hx6;gi_wp2;gi_loopw [4,21] (fun x4 x21 wr=>∃i:Nat,x21 = .int .i64 (i:Int)∧i≤N∧Hid (OwnR wr w7.heap.size 64 1 zbQ x4 (kern P cs N i))∧Hid (Below w7.heap.size w7 wr)) (fun _ x _=>N-(intOf x).toNat)
 case atStart=>exact⟨0,rfl,by omega,OwnR.nil _ _ _ _ _,Below.refl _ _⟩
 case round=>
  obtain⟨i,rfl,hi,HO,HBr⟩:=hrel;clear hb7 hx7;by_cases hin:i<N
  ·gi_wp2_with (gi_at_call 82;refine stop ?_)
   refine(zh5 wr _ cs i (zad.below HL7.out HBr.out (fun _ _ q=>q)) (by rw [HK.out];omega)).mono ?_;rintro e w8 ⟨rfl,rfl⟩;by_cases hic:i∈cs
   ·have hd:decide (i∈cs)=true:=decide_eq_true hic;have HKI:Hid (kern P cs N (i+1)=kern P cs N i):=zHi (zmN hic);rw [hd];gi_wp2;exact⟨⟨i+1,by go_num,by omega,zHi (by rw [HKI.out];exact HO.out),HBr⟩,by simp only [intOf];omega⟩
   ·have hd:decide (i∈cs)=false:=decide_eq_false hic;have HKI:=zHi (zkn (P:=P) (cs:=cs) (N:=N) hic);rw [hd];have hb8:=(HBr.out.cell (World.block_lt_of_cell? _ _ HB7.out)).trans HB7.out;have hx8:=(HBr.out.cell (World.block_lt_of_cell? _ _ HX7.out)).trans HX7.out;gi_wp2_with (gi_at_make;refine stop ?_)
    unfold Stop;refine zaL _ rfl _ _ _ rfl w8.heap.size 25 Tryz.t25 _ 3 Go.Num.u64 i25' i25z i25s _ _ _ _ N rfl rfl rfl rfl (by rw [i25b];omega) (by unfold maxLen;omega) (Nat.le_refl _) ?_;intro w9 hr9 hg9;have hb89:=ziF hg9;have ho9:=OwnR.made hr9;obtain⟨gx,hgx⟩:∃g,w8.heap.size=g:=⟨_,rfl⟩;rw [hgx]at ho9;have HGX:=zHi hgx;have HB89:=zHi hb89;have HO9:=zHi ho9;rw [hgx];clear hr9 hg9 hb89 ho9 hgx hb8 hx8;gi_wp2_with (first|(gi_at_call 20;refine stop ?_)|(with_reducible refine zmp ?_))
    refine(zqf w9 1 (by decide) (by decide)).mono ?_;rintro e w10 ⟨v10,rfl,hr10,hB10⟩;have ho10:=HO9.out.below hB10 (IR.below hB10);obtain⟨o1,k1,c1,o2,k2,c2,rfl⟩:=hr10.form;obtain⟨sg,hsg⟩:∃sg,decide ((((1:Int):Rat)).num<0)=sg:=⟨_,rfl⟩;rw [hsg]at hr10;rw [hsg];obtain⟨p1,p2,p3,p4⟩:=ho10.put (i:=i) (row:=[.bool sg,.slice o1 k1 c1,.slice o2 k2 c2]) hin rfl hr10;have hb811:Below w8.heap.size w8 (w10.setCells gx (i*3) [.bool sg,.slice o1 k1 c1,.slice o2 k2 c2]):=(HB89.out.trans (hB10.mono HB89.out.size)).trans (p4.mono (by rw [HGX.out];exact Nat.le_refl _));have HP2:=zHi p2;obtain⟨W11,hW11⟩:∃W,w10.setCells gx (i*3) [.bool sg,.slice o1 k1 c1,.slice o2 k2 c2]=W:=⟨_,rfl⟩;rw [hW11]at p1 hb811;have HO11:Hid (OwnR W11 gx 25 3 IR (.slice (some ⟨gx,0,none⟩) N N) (rowF (kvec P cs i 0) N)):=zHi p1;have HB811:=zHi hb811;clear hr10 hB10 ho10 p1 p2 p3 p4 hsg hb811;gi_wp2_with (with_reducible refine zmp ?_)
    unfold Stop;refine za2 _ rfl rfl (znz HP2.out (by simp [Value.oneCell'])) ?_;rw [hW11];clear hW11 HP2;gi_wp2;gi_loopw [38] (fun x38 wi=>∃k:Nat,x38 = .int .i64 (k:Int)∧k≤K∧Hid (OwnR wi gx 25 3 IR (.slice (some ⟨gx,0,none⟩) N N) (rowF (kvec P cs i k) N))∧Hid (Below w8.heap.size w8 wi)) (fun x _=>K-(intOf x).toNat)
    case atStart=>exact⟨0,rfl,by omega,HO11,HB811⟩
    case round=>
     obtain⟨k,rfl,hk,HOx,HBx⟩:=hrel;clear HO11 HB811;have HB7x:=zHi (HBr.out.trans (HBx.out.mono HBr.out.size));by_cases hkK:k<K
     ·obtain⟨p,hp⟩:∃p,cs[k]? = some p:=⟨_,List.getElem?_eq_getElem (by rw [HK.out];exact hkK)⟩;have hpN:=HCLT.out p (List.mem_of_getElem? hp);have hlx:=zad.below HL7.out HB7x.out (fun _ _ q=>q);obtain⟨ac,rfl⟩:∃a,oc=some a:=by
       rcases HL7.out with⟨h0,_⟩|⟨a,cap,xs,e,_⟩
       ·rw [h0]at hp;simp at hp
       ·injection e with e _ _;exact⟨a,e⟩
      obtain⟨_,row,hrl,hcell,hII⟩:=zad.at' hlx hp;have hII:row = [.int .i64 (p:Int)]:=hII;subst hII;have x0:=hcell 0 _ rfl;rw [Addr.add_add,Nat.add_zero,Nat.mul_one]at x0;have hkm:k<m:=by omega
      have hmx:=zad.below HM7.out HB7x.out (zbQ.below HB7x.out);obtain⟨_,row2,_,hcell2,u,rfl,hu⟩:=zad.at' hmx (zbG (A:=P) hkm);have x1:=hcell2 0 _ rfl;rw [Addr.add_add,Nat.add_zero,Nat.mul_one,Addr.add_lit,Nat.zero_add]at x1;obtain⟨ar,cr,rfl⟩:=zad.some hu (by simpa using hN);rw [List.length_map,List.length_range]at x1 hu;have hpi:((List.range N).map (P k))[i]? = some (P k i):=by simp [hin]
      obtain⟨hal,sg3,o3,k3,c3,o4,k4,c4,z0,z1,z2,hra⟩:=zad.item hu hpi;have HRA:=zHi hra;have HPP:=zHi hp;clear hcell hcell2 hrl hu hlx hmx hp hra hpi;gi_wp2_with (gi_at_call 46;refine stop ?_)
      refine(zhD wr _ _ HRA.out).mono ?_;rintro e w12 ⟨v12,rfl,hr12,hB12⟩;have ho12:=HOx.out.below hB12 (IR.below hB12);obtain⟨o5,k5,c5,o6,k6,c6,rfl⟩:=hr12.form;obtain⟨sh,hsh⟩:∃sh,decide ((-(P k i)).num<0)=sh:=⟨_,rfl⟩;rw [hsh]at hr12;rw [hsh];obtain⟨p1,p2,p3,p4⟩:=ho12.put (i:=p) (row:=[.bool sh,.slice o5 k5 c5,.slice o6 k6 c6]) hpN rfl hr12;rw [←zeK HPP.out]at p1;have hb813:Below w8.heap.size w8 (w12.setCells gx (p*3) [.bool sh,.slice o5 k5 c5,.slice o6 k6 c6]):=(HBx.out.trans (hB12.mono HBx.out.size)).trans (p4.mono (by rw [HGX.out];exact Nat.le_refl _));have HP1:=zHi p1;have HP2:=zHi p2;have HB813:=zHi hb813;clear hr12 hB12 ho12 p1 p2 p3 p4 hsh hb813 x0 x1 z0 z1 z2 hal;gi_wp2_with (with_reducible refine zmp ?_)
      unfold Stop;refine za2 _ rfl rfl (znz HP2.out (by simp [Value.oneCell'])) ?_;gi_wp2;exact⟨⟨k+1,by go_num,by omega,HP1,HB813⟩,by simp only [intOf];omega⟩
     ·have hkK2:k=K:=by omega
      subst hkK2;have ho:=HO.out.below HBx.out (zbQ.below HBx.out);obtain⟨oo,co,hof⟩:=ho.form;obtain⟨nk,hnk⟩:∃nk,(kern P cs N i).length=nk:=⟨_,rfl⟩;have hnk9:nk≤i:=by rw [←hnk];exact ze6 i
      have HNK:=zHi hnk;rw [hnk]at hof;subst hof;have HO2:=zHi ho;clear ho hnk;gi_wp2_with (gi_at_builtin;refine stop ?_)
      unfold Stop;have hrow:RowR wr (.slice (some ⟨gx,0,none⟩) N N) (rowF (kvec P cs i k) N):=HOx.out.row (by rw [zak];omega);refine zaJ (ty:=64) (sz:=1) (bytes:=24) wr rfl _ _ rfl Go.Num.u55 i64i i64z i64s i64b rfl (by decide) (by decide) w7.heap.size (Nat.le_trans HBr.out.size HBx.out.size) (.slice oo nk co) _ rfl HO2.out (rowF (kvec P cs i k) N) [.slice (some ⟨gx,0,none⟩) N N] _ rfl rfl (by simp [Value.oneCell']) ⟨_,rfl,hrow⟩ (fun b r w1 w2 ht=>zbQ.touch ht rfl (by decide) b r) (by rw [HNK.out];omega) ?_;intro v13 w13 HO13 HK13 HB13;have HB14:=zHi (HB13.out w7.heap.size w7 HB7x.out (Nat.le_refl _));have HO14:Hid (OwnR w13 w7.heap.size 64 1 zbQ v13 (kern P cs N (i+1))):=zHi (by rw [HKI.out,HK.out];exact HO13.out);gi_wp2;exact⟨⟨i+1,by go_num,by omega,HO14,HB14⟩,by simp only [intOf];omega⟩
  ·have hi2:i=N:=by omega
   subst hi2;gi_wp2;all_goals (first|go_returns|go_ret|go_end0)
   exact⟨_,rfl,HO.out.row (by have:=ze6 (P:=P) (cs:=cs) (N:=i) i;omega),HB07.out.trans (HBr.out.mono HB07.out.size)⟩
theorem zad.frx{β:Type}{w w':World}{ty sz:Nat}{I:β→List Value→World→Prop}{v:Value}{bs:List β}{X:Nat→TypeId→Prop}(h:zad w ty sz I v bs)(hf:FrX X w w')(hx:∀b,¬X b ty)(hI:∀b r,I b r w→I b r w'):zad w' ty sz I v bs:=by
 rcases h with h|⟨a,cap,xs,h1,h2,h3,⟨cs,fz,h4⟩,h5,h6,h7,h8⟩
 ·exact .inl h
 ·have hb:=hf.2 _ _ _ _ h4 (hx _);exact .inr ⟨a,cap,xs,h1,h2,h3,⟨cs,fz,hb⟩,h5,h6,fun i row hr j x hx=>(World.cell?_of_block (by rw [zac,hb,h4])).trans (h7 i row hr j x hx),fun i row b hr hb'=>hI _ _ (h8 i row b hr hb')⟩
theorem MatR.frx{w w':World}{v:Value}{m:List (List Rat)}{X:Nat→TypeId→Prop}(h:MatR w v m)(hf:FrX X w w')(h1:∀b,¬X b 64)(h2:∀b,¬X b 25)(h3:∀b e,rs3.contains e=true→¬X b e):MatR w' v m:=
 zad.frx h hf h1 (fun _ _ ⟨v,e,k⟩=>⟨v,e,zad.frx k hf h2 (fun _ _ q=>zau.kept q (fun b cs e fz hb hc=>hf.2 b cs e fz hb (h3 b e hc)))⟩)
theorem zlE(w:World)(v:Value)(m N:Nat)(A:Nat→Nat→Rat)(hm:MatR w v (tab m N A))(h0:0<m)(hN:0<N)(h9:m≤1000∧N≤1000)(hc:zbi (tab m N A)=0)(hq:zos m N A)(hT:zaY w)(hF:Fine m N N A) :
  CallsIn Fence.wide 0 Tryz.prog 27 #[v] w fun e w'=>∃v',e = .returned (.tuple #[v',.int .i64 0])∧MatR w' v' (kern (zbS (pRun m A N).P (zaF m A N)) (zaF m A N) N N)∧Below w.heap.size w w':=by
 obtain⟨a,c,a0,c0,rfl,hx⟩:=zkh hm h0 hN;have HM:=zHi hm;have HQ:=zHi (znU hq);have HT:=zHi hT;have HC:=zHi hc;have HF:=zHi hF;obtain⟨D,hD⟩:∃D,kern (zbS (pRun m A N).P (zaF m A N)) (zaF m A N) N N=D:=⟨_,rfl⟩;have HD:=zHi hD;rw [hD];clear hm hq hT hc hx hF hD;refine callsIn_of_wp Tryz.func27 rfl trivial ?_ rfl;simp only [Tryz.ntmps27,ztH,ztI,ztJ,Nat.reduceAdd,Nat.reduceSub,ztK,ztL,ztM,ztN,ztO,ztP];obtain⟨g1,hg1⟩:∃g,w.heap.size=g:=⟨_,rfl⟩;obtain⟨W1,hW1⟩:∃W,w.alloc (.cells #[.slice (some a) m c] 55)=W:=⟨_,rfl⟩;have hb0:Below w.heap.size w W1:=by rw [←hW1];exact zaa _ _
 have y0:W1.cell? ⟨g1,0,none⟩=some (.slice (some a) m c):=by
  rw [←hW1,←hg1];exact(zaU w [.slice (some a) m c] 55).2 0 _ rfl
 have HB0:=zHi hb0;have HY:=zHi y0;clear hb0;gi_wp2_with (gi_at_call 49;refine stop ?_)
 refine(zib W1 _ _ (zad.below HM.out HB0.out (zbQ.below HB0.out)) HQ.out (HT.out.below HB0.out)).mono ?_;rintro e w2 ⟨rfl,hB2⟩;rw [HC.out];have HB2:=zBt HB0 hB2;have HY2:=zHi ((hB2.cell (World.block_lt_of_cell? _ _ y0)).trans y0);clear y0 hB2 hW1 hg1;have hmf:∀(fn:Fn) (first cap:Array Value) (w:World),(Instr.makeFunc fn first cap).run Tryz.prog w = .ok (.func fn first cap) w:=fun _ _ _ _=>rfl
 gi_wp2_with (gi_at_call 78;refine stop ?_)
 refine(zl4 w2 79 #[.pointer (some ⟨g1,0,none⟩)] (fun v' w'=>MatR w' v' D) (ec 79 _ Tryz.func79 rfl) (fun v W W' h hf=>MatR.frx h hf (fun b=>by decide) (fun b=>by decide) (fun b e he q=>by rcases q with rfl|rfl <;> cases he)) (fun W hW => ?_)).mono ?_
 ·have hbW:=HB2.out.trans (hW.mono HB2.out.size);refine(zkm W g1 m N (.slice (some a) m c) A ((hW.cell (World.block_lt_of_cell? _ _ HY2.out)).trans HY2.out) (zad.below HM.out hbW (zbQ.below hbW)) h0 hN h9 (HT.out.below hbW) HF.out).mono ?_;rintro e w' ⟨v',rfl,h1,h2⟩;rw [HD.out]at h1;obtain⟨p,d,e,_⟩:=zad.form h1;exact⟨_,rfl,⟨⟨_,_,_,e⟩,h1⟩,h2⟩
 rintro e w4 ⟨v4,rfl,hr4,hB4⟩;have HBB:=zBt HB2 hB4;have HR4:=zHi hr4;obtain⟨p,d,rfl,_⟩:=zad.form hr4;clear hB4 hr4;gi_wp2;all_goals (first|go_returns|go_ret|go_end0)
 exact⟨_,rfl,HR4.out,HBB.out⟩
end Go.Num
namespace Go.Num
open Go.Eng Go.Shelf Go.RowKit Go.Sort Go.Proofs Go.Proofs.YtoamcgjbelhnkaaGreatDoor
attribute [local go_sem] Oper.semAt_some
section
variable {β:Type} {w w':World} {base tyO tyI sz:Nat} {I:β→List Value→World→Prop} {v:Value} {rvs:List Value} {rows:List (List β)}
end
theorem zoL{a b:Nat→Rat}{n:Nat}(h:∀j,j<n→a j=b j):rowF a n=rowF b n:=List.map_congr_left fun j hj=>h j (List.mem_range.1 hj)
theorem zla(a:Nat→Rat)(n:Nat):rowF a (n+1)=rowF a n ++ [a n]:=by simp [rowF,List.range_succ]
theorem lo3:zcc Tryz.prog 3:=zbm (by kernel_rfl)
end Go.Num
namespace Go.Num
open Go.Eng Go.Shelf Go.RowKit Go.Sort Go.Proofs Go.Proofs.YtoamcgjbelhnkaaGreatDoor
@[local go_sem] theorem eq55 (a:Addr) (n c:Nat) (W:World):(binOp .eql 55 (.slice (some a) n c) (.slice none 0 0)).run Tryz.prog W = .ok (.bool false) W:=by kernel_rfl
@[local go_sem] theorem eq55n (W:World):(binOp .eql 55 (.slice none 0 0) (.slice none 0 0)).run Tryz.prog W = .ok (.bool true) W:=by kernel_rfl
end Go.Num
namespace Go.Num
open Go.Eng Go.Shelf Go.RowKit Go.Proofs Go.Proofs.YtoamcgjbelhnkaaGreatDoor
def zse(b:Nat)(v:Value):Prop:=∃x m,v = .agg #[x,m]∧zc1 b m
theorem zou(w:World)(u v:Value)(x y:Int)(L:Nat)(hu:ZAt w u x)(hv:ZAt w v y)(hx:x.natAbs<B^L)(hy:y.natAbs<B^L)(hL:L≤100000)(hy0:y.natAbs≠0) :
  CallsIn Fence.wide 0 Tryz.prog 119 #[u,v] w fun e w'=>∃v',e = .returned v'∧(ZAt w' v' (sgn (decide (x<0) != decide (y<0)) (x.natAbs/y.natAbs))∧zse w.heap.size v')∧Below w.heap.size w w':=by
 obtain⟨mu,rfl,hmu⟩:=hu;obtain⟨mv,rfl,hmv⟩:=hv;obtain⟨ou,ku,cu,rfl,_,_⟩:=zaC hmu;obtain⟨ov,kv,cv,rfl,_,_⟩:=zaC hmv;have HMU:=zHi hmu;have HMV:=zHi hmv;have HX:=zHi hx;have HY:=zHi hy;clear hmu hmv hx hy;obtain⟨sx,hsx⟩:∃s,decide (x<0)=s:=⟨_,rfl⟩;obtain⟨sy,hsy⟩:∃s,decide (y<0)=s:=⟨_,rfl⟩;rw [hsx,hsy];refine callsIn_of_wp Tryz.func119 rfl trivial ?_ rfl;simp only [Tryz.ntmps119,ztH,ztI,ztJ,Nat.reduceAdd,Nat.reduceSub,ztK,ztL,ztM,ztN,ztO,ztP];obtain⟨g1,hg1⟩:∃g,w.heap.size=g:=⟨_,rfl⟩;obtain⟨W1,hW1⟩:∃W,((w.alloc (.cells #[.bool sx,.slice ou ku cu] 32)).alloc (.cells #[.bool sy,.slice ov kv cv] 32)).alloc (.cells #[.bool false,.slice none 0 0] 32)=W:=⟨_,rfl⟩;have hb1:Below w.heap.size w W1:=by rw [←hW1];exact((zaa _ _).alloc (by simp) _).alloc (by simp;omega) _
 have x1:BoxL W1 g1 [.bool sx,.slice ou ku cu]:=by
  rw [←hW1,←hg1];exact((zaU w [.bool sx,.slice ou ku cu] 32).below (zaa _ (.cells #[.bool sy,.slice ov kv cv] 32))).below (zaa _ _)
 have x2:BoxL W1 (g1+1) [.bool sy,.slice ov kv cv]:=by
  rw [←hW1,←hg1];have:=(zaU (w.alloc (.cells #[.bool sx,.slice ou ku cu] 32)) [.bool sy,.slice ov kv cv] 32).below (zaa _ (.cells #[.bool false,.slice none 0 0] 32));rw [World.size_alloc]at this;exact this
 have a3:zaj W1 (g1+1+1) 2 (fun i => [.bool false,.slice none 0 0].getD i (.bool false)):=by
  rw [←hW1,←hg1];have:=zaj.new ((w.alloc (.cells #[.bool sx,.slice ou ku cu] 32)).alloc (.cells #[.bool sy,.slice ov kv cv] 32)) #[.bool false,.slice none 0 0] 32 (n:=2) (f:=fun i => [.bool false,.slice none 0 0].getD i (.bool false)) (fun i hi=>by
   have:i=0∨i=1:=by omega
   rcases this with rfl|rfl <;> rfl)
  rw [World.size_alloc,World.size_alloc]at this;exact this
 have e3:Elem W1 (g1+1+1) 32:=by
  rw [←hW1,←hg1];have:=zaB ((w.alloc (.cells #[.bool sx,.slice ou ku cu] 32)).alloc (.cells #[.bool sy,.slice ov kv cv] 32)) #[.bool false,.slice none 0 0] 32;rw [World.size_alloc,World.size_alloc]at this;exact this
 have HB1:=zHi hb1;have HX1:=zHi x1;have HX2:=zHi x2;have HA3:=zHi a3;have HE3:=zHi e3;have HG1:=zHi hg1;have p0:=x1.2 0 _ rfl;have p1:=x1.2 1 _ rfl;have q0:=x2.2 0 _ rfl;have q1:=x2.2 1 _ rfl;clear hb1 x1 x2 a3 e3;gi_wp2_with (gi_at_call 151;refine stop ?_)
 refine(zjn W1 _ _ x.natAbs y.natAbs L (HMU.out.below HB1.out) (HMV.out.below HB1.out) (by omega) HX.out HY.out (by omega)).mono ?_;rintro e w2 ⟨vq,vr,rfl,⟨hq,hfq⟩,_,hB2⟩;have p0':=(hB2.cell HX1.out.1).trans p0;have q0':=(hB2.cell HX2.out.1).trans q0;have HQ:=zHi hq;have HFQ:=zHi (hfq.mono HB1.out.size);have HB2:=zHi hB2;clear p0 p1 q0 q1 hW1 hg1 hq hfq hB2;have hbx:∀a b:Bool,decide (a≠b)=(a != b):=fun a b=>by cases a <;> cases b <;> rfl
 gi_wp2_with (gi_at_call 75;refine stop ?_)
 refine(zn5 w2 _ vq _ HQ.out).mono ?_;rintro e w3 ⟨v3,rfl,⟨hz,x3,rfl⟩,hB3⟩;obtain⟨z,hzz⟩:∃z,sgn (!sx == sy) (x.natAbs/y.natAbs)=z:=⟨_,rfl⟩;have hz':sgn (sx != sy) (x.natAbs/y.natAbs)=z:=by rw [←hzz];cases sx <;> cases sy <;> rfl
 have HZ':=zHi hz';rw [hzz]at hz;obtain⟨m,e,hm⟩:=hz;have e:x3 = .bool (decide (z<0))∧vq=m:=by simpa using e
 obtain⟨rfl,rfl⟩:=e;obtain⟨oq,kq,cq,rfl,_,_⟩:=zaC hm;obtain⟨sz,hsz⟩:∃s,decide (z<0)=s:=⟨_,rfl⟩;have HZ:Hid (ZAt w3 (.agg #[.bool sz,.slice oq kq cq]) z):=zHi ⟨_,by rw [hsz],hm⟩;have hb13:=HB2.out.trans (hB3.mono HB2.out.size);have ha:=HA3.out.below HE3.out.lt hb13;have he:=HE3.out.below hb13 HE3.out.lt;have HB13:=zHi hb13;have HA:=zHi ha;have HE:=zHi he;rw [hsz];have r0:=(ha 0 (by omega)).1;have r1:=(ha 1 (by omega)).1;have t0:=(ha 0 (by omega)).2;have t1:=(ha 1 (by omega)).2;clear hm hb13 ha he hB3 hsz hz' hzz p0' q0' hbx;gi_wp2;have hx:=(HA.out.set (i:=0) (by omega) (.bool sz)).set (i:=1) (by omega) (.slice oq kq cq);have l32:zcd Tryz.prog 32 2:=zbB (by kernel_rfl) (by kernel_rfl);refine⟨rfl,.agg #[.bool sz,.slice oq kq cq],?_,_,rfl,⟨?_,⟨_,_,rfl,HFQ.out⟩⟩,?_⟩
 ·have e1:=l32 (g1+1+1) [.bool sz,.slice oq kq cq] ((w3.setCell ⟨g1+1+1,0,none⟩ (.bool sz)).setCell ⟨g1+1+1,1,none⟩ (.slice oq kq cq)) rfl (fun j v hj=>by
   match j,hj with
   | 0,hj=>rw [←hj];exact(hx 0 (by omega)).1
   | 1,hj=>rw [←hj];exact(hx 1 (by omega)).1
   | n+2,hj=>simp at hj)
  simp only [Instr.loadAt,Instr.sureAddr,Sem.run_bind,Sem.run_pure,Result.andThen_ok]at e1;simp [results,asAddr,e1]
 ·rw [HZ'.out];obtain⟨m,e,hm⟩:=HZ.out;exact⟨m,e,(hm.setElem HE.out (by decide)).setElem (HE.out.setCell _ _) (by decide)⟩
 ·have hw:=HB1.out.trans (HB13.out.mono HB1.out.size);have hg:=HG1.out;exact(hw.setCell (p:=⟨g1+1+1,0,none⟩) (show w.heap.size≤g1+1+1 by omega) _).setCell (p:=⟨g1+1+1,1,none⟩) (show w.heap.size≤g1+1+1 by omega) _
end Go.Num
namespace Go.Num
def facF(q:Nat→Rat):Nat→Nat
 | 0=>1
 | j+1=>facF q j*((q j).den/Nat.gcd (facF q j) (q j).den)
theorem zkt(q:Nat→Rat):∀n,0<facF q n
 | 0=>Nat.one_pos
 | n+1=>by
  have h1:=zkt q n;have h2:=(q n).den_pos;refine Nat.mul_pos h1 (Nat.div_pos (Nat.le_of_dvd h2 (Nat.gcd_dvd_right _ _)) (Nat.gcd_pos_of_pos_left _ h1))
theorem zrN(q:Nat→Rat)(n:Nat):facF q (n+1)=Nat.lcm (facF q n) (q n).den:=by
 show facF q n*((q n).den/Nat.gcd (facF q n) (q n).den)=_
 unfold Nat.lcm;rw [Nat.mul_div_assoc _ (Nat.gcd_dvd_right _ _)]
theorem zob(q:Nat→Rat):∀{n j:Nat},j<n→(q j).den∣facF q n
 | n+1,j,h=>by
  rw [zrN];rcases Nat.lt_or_ge j n with hj|hj
  ·exact Nat.dvd_trans (zob q hj) (Nat.dvd_lcm_left _ _)
  ·have:j=n:=by omega
   rw [this];exact Nat.dvd_lcm_right _ _
theorem zhU{q:Nat→Rat}{D:Nat}:∀{n:Nat},(∀j,j<n→(q j).den≤D)→facF q n≤D^n
 | 0,_=>Nat.le_refl _
 | n+1,h=>by
  rw [Nat.pow_succ];exact Nat.mul_le_mul (zhU fun j hj=>h j (by omega)) (Nat.le_trans (Nat.div_le_self _ _) (h n (Nat.lt_succ_self _)))
def zcy(q:Nat→Rat)(n j:Nat):Int:=(q j).num*((facF q n/(q j).den:Nat):Int)
theorem zoI(q:Nat→Rat){n j:Nat}(h:j<n):(zcy q n j:Rat)=(facF q n:Rat)*q j:=by
 obtain⟨d,hd⟩:=zob q h;have hp:=(q j).den_pos;unfold zcy;rw [hd,Nat.mul_div_cancel_left _ hp,Rat.intCast_mul];have e:q j=((q j).num:Rat)/(((q j).den:Int):Rat):=by rw [←Rat.divInt_eq_div,Rat.num_divInt_den]
 have hden:(((q j).den:Int):Rat)≠0:=fun h0=>by
  have:((q j).den:Int)=0:=Rat.intCast_inj.1 (by rw [h0];rfl);omega
 have h2:(((q j).den*d:Nat):Rat)=(((q j).den:Int):Rat)*((d:Int):Rat):=by
  rw [←Rat.intCast_mul];rfl
 rw [h2];generalize ((q j).num:Rat)=a at *
 generalize (((q j).den:Int):Rat)=b at *
 generalize ((d:Int):Rat)=c at *
 rw [e];grind
theorem zro{q:Nat→Rat}{n j D X:Nat}(h:j<n)(hD:∀j,j<n→(q j).den≤D)(hX:(q j).num.natAbs≤X):(zcy q n j).natAbs≤X*D^n:=by
 unfold zcy;rw [Int.natAbs_mul,Int.natAbs_natCast];exact Nat.mul_le_mul hX (Nat.le_trans (Nat.div_le_self _ _) (zhU hD))
theorem zm1{q:Nat→Rat}{n:Nat}:RatB 1 (facF q n) (1/(facF q n:Rat))∧(1/(facF q n:Rat))≠0:=by
 have hp:=zkt q n;have h0:(facF q n:Rat)≠0:=fun h=>by
  have:((facF q n:Int):Rat)=((0:Int):Rat):=h;have:=Rat.intCast_inj.1 this;omega
 refine⟨⟨1,(facF q n:Int),by omega,rfl,Nat.le_refl _,by rw [Int.natAbs_natCast];exact Nat.le_refl _⟩,?_⟩;grind
end Go.Num
