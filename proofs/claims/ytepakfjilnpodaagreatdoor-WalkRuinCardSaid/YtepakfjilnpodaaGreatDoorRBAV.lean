/-
  'isShort': a fraction that is at least 0 and has few digits. 'shot' of the reference. Sums and products of a list of fractions. Sums and pro
  Conditions: see each statement.
-/
import Derived.Test.YtepakfjilnpodaaGreatDoorRBAU
import Derived.Deep.Upon
import Derived.Test.YtepakfjilnpodaaGreatDoorRBAA
import Derived.Test.YtepakfjilnpodaaGreatDoorRBAO
import Derived.Test.YtepakfjilnpodaaGreatDoorRBAN
set_option maxRecDepth 100000
set_option maxHeartbeats 8000000
namespace Go.Num
open Go.Eng Go.Shelf Go.RowKit Go.Sort Go.Proofs Go.Proofs.YtepakfjilnpodaaGreatDoor
attribute [local go_sem] Oper.semAt_some
abbrev zQ:Obj:=.cells #[.bool false,.slice none 0 0,.bool false,.slice none 0 0] 62
theorem znr{ps:String}{d:Option Tmp}{ty:TypeId}{af:Array Edge}{gd:Option (Nat × Bool)}(ev:Operand→Value)(w:World):(execOp ev {op:=.alloc 62,dst:=d,type:=ty,pos:=ps,after:=af,guard:=gd}).run Tryz.prog w = .ok (.value (.pointer (some ⟨w.heap.size,0,none⟩))) (w.alloc zQ):=by
 simp [execOp,Instr.alloc,typeInfo,i34,i34z,Sem.run_bind,Result.andThen,go_sem,zeroValue,Value.cells]
theorem OU.boxQ{nt:Nat}{ops:Array Oper}{bs bars:List Nat}{a:CAct}{ov:List (Tmp × Value)}{w:World}{Q:CAct→World→Prop}{base:Nat}{d:Tmp}{y:Operand}{ty:TypeId}{ps:String}{af:Array Edge}{x0 x1 x2 x3:Value}(hd:Nat.blt d nt=true)
  (hy:Go.Eng.look a ov y = .agg #[x0,x1,x2,x3]) (hyd:(match y with | .tmp t => !Nat.beq t d|_=>true)=true) (h1:#[x0,x1,x2,x3].all (·.oneCell')=true)
  (h:∀b w1 w2,base≤b→Below w.heap.size w w1→BoxL w2 b [x0,x1,x2,x3]→Touch 62 w1 w2→Below base w1 w2→Q (zaH a ((d,.pointer (some ⟨b,0,none⟩)) :: ov)) w2) :
  OU Tryz.prog nt ops bs bars (zkr Tryz.prog d zQ base {op:=.store 62 (.tmp d) y,dst:=none,type:=ty,pos:=ps,after:=af,guard:=none} Q) [] a ov w:=by
 intro hn hk w1 hb1 b hb hbl hob;have hk':zde a.tmps.size ((d,.pointer (some ⟨b,0,none⟩)) :: ov):=by rw [hn];exact hk.cons hd
 have ht:w1.there b 0 4:=by
  intro j hj;have:w1.cell? ⟨b,0+j,none⟩=(#[Value.bool false,.slice none 0 0,.bool false,.slice none 0 0]:Array Value)[0+j]?:=by
   simp [World.cell?,hob]
  refine⟨?_,?_⟩
  ·rw [this];match j,hj with
   | 0,_=>rfl
   | 1,_=>rfl
   | 2,_=>rfl
   | 3,_=>rfl
  ·simp [World.frozen?,hob]
 have hrun:=run_storeAt_mid (P:=Tryz.prog) w1 b 0 62 #[x0,x1,x2,x3] ht (by kernel_rfl) h1;have hB:Below base w1 (w1.setCells b 0 [x0,x1,x2,x3]):=((((Below.refl base w1).setCell (p:=⟨b,0,none⟩) hb x0).setCell (p:=⟨b,0+1,none⟩) hb x1).setCell (p:=⟨b,0+1+1,none⟩) hb x2).setCell (p:=⟨b,0+1+1+1,none⟩) hb x3;have hr:=World.rangeAt_setCells_same w1 b 0 [x0,x1,x2,x3] ht;have hput:(zaH a ov).put (some d) (.pointer (some ⟨b,0,none⟩))=zaH a ((d,.pointer (some ⟨b,0,none⟩)) :: ov):=rfl;refine⟨w1.setCells b 0 [x0,x1,x2,x3],?_,?_⟩
 ·rw [hput,zaV a _ hk'];have e1:Go.Eng.look a ((d,.pointer (some ⟨b,0,none⟩)) :: ov) (.tmp d) = .pointer (some ⟨b,0,none⟩):=by
   show(bif Nat.beq d d then _ else _)=_
   rw [Nat.beq_refl];rfl
  have e2:Go.Eng.look a ((d,.pointer (some ⟨b,0,none⟩)) :: ov) y = .agg #[x0,x1,x2,x3]:=by
   rw [←hy]
   cases y with
   | tmp t=>
    show(bif Nat.beq d t then _ else zk8 a ov t)=zk8 a ov t
    cases e:Nat.beq d t with
    | true=>
     have:=Nat.eq_of_beq_eq_true e;subst this;simp at hyd
    | false=>rfl
   | _=>rfl
  simp [execOp,e1,e2,hrun]
 ·rw [hput];refine h b w1 _ hb hb1 ⟨Nat.lt_of_lt_of_le hbl hB.size,fun j v hj=>by have:=hr j v hj;rwa [Nat.zero_add]at this⟩ ⟨hB.size,fun k cs e fz hc hne => ?_⟩ hB;have hkl:k<w1.heap.size:=(Array.getElem?_eq_some_iff.1 hc).1;rw [World.heap_setCells_other w1 b 0 _ hkl (fun e2=>by
   rw [e2,hob]at hc;injection hc with hc;injection hc with _ hc _;exact hne hc.symm)]
  exact hc
theorem zjX{fn:Func}{p:Tmp}(h:fn.results=#[.cell p 62]){tmps:Array Value}{w:World}{g:Nat}{x0 x1 x2 x3:Value}(hp:tmps.getD p undef = .pointer (some ⟨g,0,none⟩))(hb:BoxL w g [x0,x1,x2,x3]) :
  (results fn tmps).run Tryz.prog w = .ok (.agg #[x0,x1,x2,x3]) w:=by
 have h1:=lmQ ⟨g,0,none⟩ [x0,x1,x2,x3] w rfl hb.at9;simp only [Instr.loadAt,Instr.sureAddr,Sem.run_bind,Sem.run_pure,Result.andThen_ok]at h1;unfold results;rw [h];have hp':tmps[p]?.getD undef = .pointer (some ⟨g,0,none⟩):=by rw [←hp,Array.getD_eq_getD_getElem?]
 simp [hp',asAddr,h1]
theorem zee{w1:World}{b base:Nat}{x0 x1 x2 x3:Value}(hob:w1.heap[b]? = some zQ)(hb:base≤b)(h1:#[x0,x1,x2,x3].all (·.oneCell')=true) :
  ∃w2,(Instr.storeAt 62 (.pointer (some ⟨b,0,none⟩)) (.agg #[x0,x1,x2,x3])).run Tryz.prog w1 = .ok () w2∧BoxL w2 b [x0,x1,x2,x3]∧Touch 62 w1 w2∧Below base w1 w2∧∀k,k<w1.heap.size→k≠b→w2.heap[k]? = w1.heap[k]?:=by
 have hbl:b<w1.heap.size:=(Array.getElem?_eq_some_iff.1 hob).1;have ht:w1.there b 0 4:=by
  intro j hj;have:w1.cell? ⟨b,0+j,none⟩=(#[Value.bool false,.slice none 0 0,.bool false,.slice none 0 0]:Array Value)[0+j]?:=by
   simp [World.cell?,hob]
  refine⟨?_,?_⟩
  ·rw [this];match j,hj with
   | 0,_=>rfl
   | 1,_=>rfl
   | 2,_=>rfl
   | 3,_=>rfl
  ·simp [World.frozen?,hob]
 have hrun:=run_storeAt_mid (P:=Tryz.prog) w1 b 0 62 #[x0,x1,x2,x3] ht (by kernel_rfl) h1;have hB:Below base w1 (w1.setCells b 0 [x0,x1,x2,x3]):=((((Below.refl base w1).setCell (p:=⟨b,0,none⟩) hb x0).setCell (p:=⟨b,0+1,none⟩) hb x1).setCell (p:=⟨b,0+1+1,none⟩) hb x2).setCell (p:=⟨b,0+1+1+1,none⟩) hb x3;have hr:=World.rangeAt_setCells_same w1 b 0 [x0,x1,x2,x3] ht;have hot:∀k,k<w1.heap.size→k≠b→(w1.setCells b 0 [x0,x1,x2,x3]).heap[k]? = w1.heap[k]?:=fun k hk hne=>World.heap_setCells_other w1 b 0 _ hk hne
 refine⟨w1.setCells b 0 [x0,x1,x2,x3],hrun,⟨Nat.lt_of_lt_of_le hbl hB.size,fun j v hj=>by have:=hr j v hj;rwa [Nat.zero_add]at this⟩,⟨hB.size,fun k cs e fz hc hne => ?_⟩,hB,hot⟩;have hkl:k<w1.heap.size:=(Array.getElem?_eq_some_iff.1 hc).1;rw [hot k hkl (fun e2=>by
  rw [e2,hob]at hc;injection hc with hc;injection hc with _ hc _;exact hne hc.symm)]
 exact hc
theorem BoxL.eqB{w w':World}{g:Nat}{xs:List Value}(h:BoxL w g xs)(hs:w.heap.size≤w'.heap.size)(e:w'.heap[g]? = w.heap[g]?):BoxL w' g xs:=
 ⟨Nat.lt_of_lt_of_le h.1 hs,fun j v hj=>by rw [World.cell?_of_block (a:=⟨g,j,none⟩) e];exact h.2 j v hj⟩
theorem zlN{F:Fence}{n:Nat}{P:Program}{ops:Array Oper}{rest:List Oper}{x y:Operand}{ty:TypeId}{ps:String}{af:Array Edge}{a:CAct}{Q:Exit→CAct→World→Prop}{w:World}
  (h:Stop (wpListIn F n P ops Q ({op:=.store 62 x y,dst:=none,type:=ty,pos:=ps,after:=af,guard:=none} :: rest) a w)):wpListIn F n P ops Q ({op:=.store 62 x y,dst:=none,type:=ty,pos:=ps,after:=af,guard:=none} :: rest) a w:=h
theorem zb0{F:Fence}{n:Nat}{P:Program}{ops:Array Oper}{rest:List Oper}{t:TypeId}{x y:Operand}{ty:TypeId}{ps:String}{af:Array Edge}{a:CAct}{Q:Exit→CAct→World→Prop}{w:World}(w':World){p v:Value}(hx:a.eval x=p)(hy:a.eval y=v)(hrun:(Instr.storeAt t p v).run P w = .ok () w')
  (h:wpListIn F n P ops Q rest a w'):wpListIn F n P ops Q ({op:=.store t x y,dst:=none,type:=ty,pos:=ps,after:=af,guard:=none} :: rest) a w:=by
 refine wpListIn_plain rfl fun K hK => ?_
 unfold Oper.wpIn;refine⟨by simp [Oper.about],?_⟩;rw [Oper.semAt_plain F _ _ (by intro c hc';cases hc')];simp [execOp,hx,hy,hrun,Result.andThen]
 exact hK _ _ h
end Go.Num
namespace Go.Num
open Go.Eng Go.Shelf Go.RowKit Go.Sort Go.Proofs Go.Proofs.YtepakfjilnpodaaGreatDoor
theorem zdi{w:World}{v:Value}{q:Rat}(h:QAt w v q):∃s o1 k1 c1 o2 k2 c2,v = .agg #[.bool s,.slice o1 k1 c1,.bool false,.slice o2 k2 c2]:=by
 obtain⟨m1,m2,e,h1,h2⟩:=h;obtain⟨o1,k1,c1,rfl,_,_⟩:=zbf h1;obtain⟨o2,k2,c2,rfl,_,_⟩:=zbf h2;exact⟨_,o1,k1,c1,o2,k2,c2,e⟩
theorem OwnR.keepB{β:Type}{w w':World}{base ty sz:Nat}{I:β→List Value→World→Prop}{v:Value}{bs:List β}(h:OwnR w base ty sz I v bs)(hk:∀b,v.ownBlock=some b→b<w.heap.size→w'.heap[b]? = w.heap[b]?)(hI:∀b r,I b r w→I b r w'):OwnR w' base ty sz I v bs:=by
 obtain⟨xs,h1,h2,h3,h4⟩:=h;refine⟨xs,⟨h1.1,?_⟩,h2,h3,fun i row b hr hb=>hI _ _ (h4 i row b hr hb)⟩;rcases h1.2 with e|⟨g,cap,cur,e,g1,g2,g3⟩
 ·exact .inl e
 ·exact .inr ⟨g,cap,cur,e,g1,by rw [hk g (by rw [e];rfl) (Array.getElem?_eq_some_iff.1 g2).1];exact g2,g3⟩
theorem zo1{w:World}{base:Nat}{q1 q2:Rat}{a b c d a' b' c' d':Value}(hb:base≤w.heap.size)(h1:QAt w (.agg #[a,b,c,d]) q1)(h2:QAt w (.agg #[a',b',c',d']) q2):OwnR (w.alloc (.cells #[a,b,c,d,a',b',c',d'] 62)) base 62 4 IQ (.slice (some ⟨w.heap.size,0,none⟩) 2 2) [q1,q2]:=by
 have hB:=zaa w (.cells #[a,b,c,d,a',b',c',d'] 62);refine⟨[[a,b,c,d],[a',b',c',d']],⟨rfl,.inr ⟨w.heap.size,2,#[a,b,c,d,a',b',c',d'],rfl,hb,heap_alloc_new w _,Nat.le_refl _,by unfold maxLen;omega,rfl,rfl⟩⟩,rfl,by simp,fun i row b hr hb' => ?_⟩;match i with
 | 0=>
  injection hr with hr;injection hb' with hb';subst hr;subst hb';exact h1.below hB
 | 1=>
  injection hr with hr;injection hb' with hb';subst hr;subst hb';exact h2.below hB
 | n+2=>simp at hr
theorem zkO(a:Nat→Rat)(n:Nat):rowW a (n+1)=rowW a n ++ [a n]:=by simp [rowW,List.range_succ]
theorem zi9(w:World)(vp vq vc ve:Value)(p c e:Rat)(m n L:Nat)(hm:m≤n)(h0:0<n)(h9:n≤1000)(hp0:0<p)(hp:QAt w vp p)(hq:QAt w vq (1-p))(hc:QAt w vc c)(he:QAt w ve e)
  (hL:L≤4700)
  (lp:zad p L) (lq:zad (1-p) L) (lc:zad c L) (la:∀k,k≤n→zad (shA p k) L∧zad ((1-p)*shA p k) L∧zad (shA p (k+1)-(1-p)*shA p k) L)
  (lb:∀k,k≤n→zad (shB p c k) L∧zad ((1-p)*shB p c k) L∧zad (shB p c (k+1)-(1-p)*shB p c k) L∧zad (shB p c (k+1)-(1-p)*shB p c k-c) L)
  (le:zad e L) (ly1:zad (e-shB p c n) L) (ly2:zad ((e-shB p c n)/shA p n) L) (ly3:zad (shA p m*((e-shB p c n)/shA p n)) L) (hA0:shA p n≠0) :
  CallsIn Fence.wide 0 Tryz.prog 101 #[vp,vq,.int .i64 (m:Int),.int .i64 (n:Int),vc,ve] w fun e' w'=>∃v',e' = .returned v'∧QAt w' v' (shA p m*((e-shB p c n)/shA p n)+shB p c m)∧Below w.heap.size w w':=by
 obtain⟨s1,o1,k1,c1,o2,k2,c2,rfl⟩:=zdi hp;obtain⟨s2,o3,k3,c3,o4,k4,c4,rfl⟩:=zdi hq;obtain⟨s3,o5,k5,c5,o6,k6,c6,rfl⟩:=zdi hc;obtain⟨s4,o7,k7,c7,o8,k8,c8,rfl⟩:=zdi he;refine callsIn_of_wp Tryz.func101 rfl trivial ?_ rfl;simp only [Tryz.ntmps101,zsj,zsk,zsl,Nat.reduceAdd,Nat.reduceSub,zsm,zsn,zso,zsp,zsq,zsr];gi_wp2_with (gi_at_call 89;refine stop ?_)
 unfold Stop;refine(zbB _).mono ?_;rintro e1 w1 ⟨u1,rfl,hu1,hB1⟩;gi_wp2_with (gi_at_call 88;refine stop ?_)
 unfold Stop;refine(zd2 _).mono ?_;rintro e2 w2 ⟨u2,rfl,hu2,hB2⟩;have hu1':=QAt.below hu1 hB2;obtain⟨s5,p1,l1,d1,p2,l2,d2,rfl⟩:=zdi hu1;obtain⟨s6,p3,l3,d3,p4,l4,d4,rfl⟩:=zdi hu2;gi_wp2_with (gi_at_call 89;refine stop ?_)
 unfold Stop;refine(zbB _).mono ?_;rintro e3 w3 ⟨u3,rfl,hu3,hB3⟩;gi_wp2_with (gi_at_call 89;refine stop ?_)
 unfold Stop;refine(zbB _).mono ?_;rintro e4 w4 ⟨u4,rfl,hu4,hB4⟩;have hu3':=QAt.below hu3 hB4;obtain⟨s7,p5,l5,d5,p6,l6,d6,rfl⟩:=zdi hu3;obtain⟨s8,p7,l7,d7,p8,l8,d8,rfl⟩:=zdi hu4;obtain⟨W5,hW5⟩:∃W,W=(((((w.alloc (Obj.cells #[Value.bool s1,Value.slice o1 k1 c1,Value.bool false,Value.slice o2 k2 c2] 62)).alloc (Obj.cells #[Value.bool s2,Value.slice o3 k3 c3,Value.bool false,Value.slice o4 k4 c4] 62)).alloc (Obj.cells #[Value.bool s3,Value.slice o5 k5 c5,Value.bool false,Value.slice o6 k6 c6] 62)).alloc (Obj.cells #[Value.bool s4,Value.slice o7 k7 c7,Value.bool false,Value.slice o8 k8 c8] 62)).alloc (Obj.cells #[Value.bool false,Value.slice none 0 0,Value.bool false,Value.slice none 0 0] 62)):=⟨_,rfl⟩;have hz5:W5.heap.size=w.heap.size+5:=by rw [hW5];simp
 have HX0:Hid (BoxL W5 (w.heap.size) [Value.bool s1,Value.slice o1 k1 c1,Value.bool false,Value.slice o2 k2 c2]):=zHi (by
  rw [hW5];have h:=zdK w [Value.bool s1,Value.slice o1 k1 c1,Value.bool false,Value.slice o2 k2 c2] 62;refine BoxL.below ?_ (zaa _ _);refine BoxL.below ?_ (zaa _ _);refine BoxL.below ?_ (zaa _ _);refine BoxL.below ?_ (zaa _ _);simpa using h)
 have HX1:Hid (BoxL W5 (w.heap.size+1) [Value.bool s2,Value.slice o3 k3 c3,Value.bool false,Value.slice o4 k4 c4]):=zHi (by
  rw [hW5];have h:=zdK (w.alloc (Obj.cells #[Value.bool s1,Value.slice o1 k1 c1,Value.bool false,Value.slice o2 k2 c2] 62)) [Value.bool s2,Value.slice o3 k3 c3,Value.bool false,Value.slice o4 k4 c4] 62;refine BoxL.below ?_ (zaa _ _);refine BoxL.below ?_ (zaa _ _);refine BoxL.below ?_ (zaa _ _);simpa using h)
 have HX2:Hid (BoxL W5 (w.heap.size+2) [Value.bool s3,Value.slice o5 k5 c5,Value.bool false,Value.slice o6 k6 c6]):=zHi (by
  rw [hW5];have h:=zdK ((w.alloc (Obj.cells #[Value.bool s1,Value.slice o1 k1 c1,Value.bool false,Value.slice o2 k2 c2] 62)).alloc (Obj.cells #[Value.bool s2,Value.slice o3 k3 c3,Value.bool false,Value.slice o4 k4 c4] 62)) [Value.bool s3,Value.slice o5 k5 c5,Value.bool false,Value.slice o6 k6 c6] 62;refine BoxL.below ?_ (zaa _ _);refine BoxL.below ?_ (zaa _ _);simpa using h)
 have HX3:Hid (BoxL W5 (w.heap.size+3) [Value.bool s4,Value.slice o7 k7 c7,Value.bool false,Value.slice o8 k8 c8]):=zHi (by
  rw [hW5];have h:=zdK (((w.alloc (Obj.cells #[Value.bool s1,Value.slice o1 k1 c1,Value.bool false,Value.slice o2 k2 c2] 62)).alloc (Obj.cells #[Value.bool s2,Value.slice o3 k3 c3,Value.bool false,Value.slice o4 k4 c4] 62)).alloc (Obj.cells #[Value.bool s3,Value.slice o5 k5 c5,Value.bool false,Value.slice o6 k6 c6] 62)) [Value.bool s4,Value.slice o7 k7 c7,Value.bool false,Value.slice o8 k8 c8] 62;refine BoxL.below ?_ (zaa _ _);simpa using h)
 have HRes:Hid (W5.heap[w.heap.size+1+1+1+1]? = some zQ):=zHi (by
  rw [hW5];have h:=heap_alloc_new ((((w.alloc (Obj.cells #[Value.bool s1,Value.slice o1 k1 c1,Value.bool false,Value.slice o2 k2 c2] 62)).alloc (Obj.cells #[Value.bool s2,Value.slice o3 k3 c3,Value.bool false,Value.slice o4 k4 c4] 62)).alloc (Obj.cells #[Value.bool s3,Value.slice o5 k5 c5,Value.bool false,Value.slice o6 k6 c6] 62)).alloc (Obj.cells #[Value.bool s4,Value.slice o7 k7 c7,Value.bool false,Value.slice o8 k8 c8] 62)) zQ;simpa using h)
 have hw5:Below w.heap.size w W5:=by
  rw [hW5];exact((((zaa w _).trans ((zaa _ _).mono (by simp))).trans ((zaa _ _).mono (by simp;omega))).trans ((zaa _ _).mono (by simp;omega))).trans ((zaa _ _).mono (by simp;omega))
 rw [←hW5]at hB1;gi_wp2;obtain⟨WL,hWL⟩:∃W,W=(w4.alloc (Obj.cells #[Value.bool s7,Value.slice p5 l5 d5,Value.bool false,Value.slice p6 l6 d6,Value.bool s8,Value.slice p7 l7 d7,Value.bool false,Value.slice p8 l8 d8] 62)):=⟨_,rfl⟩;have HLa:=zHi la;have HPn:Hid (p.num≠0):=zHi (fun h=>by have h':p=0:=Rat.num_eq_zero.1 h;rw [h']at hp0;exact absurd hp0 (by decide));have HLb:=zHi lb;have HL1:=zHi ly1;have HL2:=zHi ly2;have HL3:=zHi ly3;have HA0:=zHi hA0;have HW5:=zHi hw5;have HP:=zHi (hp.below hw5);have HQ:=zHi (hq.below hw5);have HC:=zHi (hc.below hw5);have HE:=zHi (he.below hw5);have HStart:Hid (OwnR WL W5.heap.size 62 4 IQ (Value.slice (some {block:=w2.heap.size,off:=0}) 2 2) (rowW (shA p) 2)∧OwnR WL W5.heap.size 62 4 IQ (Value.slice (some {block:=w4.heap.size,off:=0}) 2 2) (rowW (shB p c) 2)∧w2.heap.size≠w4.heap.size∧Below W5.heap.size W5 WL):=zHi (by
  have k1:=zo1 (w:=w2) (base:=W5.heap.size) (Nat.le_trans hB1.size hB2.size) hu1' hu2;have k2:=zo1 (w:=w4) (base:=W5.heap.size) (Nat.le_trans (Nat.le_trans hB1.size hB2.size) (Nat.le_trans (Nat.le_trans (zaa w2 _).size hB3.size) hB4.size)) hu3' hu4;have b3:=hB3.trans (hB4.mono hB3.size);have b4:=b3.trans ((zaa w4 (Obj.cells #[Value.bool s7,Value.slice p5 l5 d5,Value.bool false,Value.slice p6 l6 d6,Value.bool s8,Value.slice p7 l7 d7,Value.bool false,Value.slice p8 l8 d8] 62)).mono b3.size);have b5:=hB1.trans (hB2.mono hB1.size);have b6:=b5.trans ((zaa w2 (Obj.cells #[Value.bool s5,Value.slice p1 l1 d1,Value.bool false,Value.slice p2 l2 d2,Value.bool s6,Value.slice p3 l3 d3,Value.bool false,Value.slice p4 l4 d4] 62)).mono b5.size);have b7:=b6.trans (b4.mono b6.size);have k3:=k1.below b4 (IQ.below b4);rw [hWL];refine⟨k3,k2,?_,b7⟩;have:=b3.size;have e:(w2.alloc (Obj.cells #[Value.bool s5,Value.slice p1 l1 d1,Value.bool false,Value.slice p2 l2 d2,Value.bool s6,Value.slice p3 l3 d3,Value.bool false,Value.slice p4 l4 d4] 62)).heap.size=w2.heap.size+1:=by simp
  rw [e]at this;omega)
 rw [←hWL];clear la lb ly1 ly2 ly3 hA0 hp hq hc he hw5 hB1 hB2 hB3 hB4 hu1 hu2 hu3 hu4 hu1' hu3' hWL hW5;gi_loopw [13,14,15] (fun x13 x14 x15 wr=>∃j:Nat,x15 = .int .i64 ((j:Int)+1)∧j+1≤n∧Hid (OwnR wr W5.heap.size 62 4 IQ x13 (rowW (shA p) (j+2)))∧Hid (OwnR wr W5.heap.size 62 4 IQ x14 (rowW (shB p c) (j+2)))∧Hid (x13.ownBlock≠x14.ownBlock)∧Hid (Below W5.heap.size W5 wr)) (fun _ _ x _=>n+2-(intOf x).toNat)
 case atStart=>exact⟨0,rfl,by omega,HStart.out.1,HStart.out.2.1,(by intro h;exact HStart.out.2.2.1 (by simpa [Value.ownBlock]using h)),HStart.out.2.2.2⟩
 case round=>
  obtain⟨j,rfl,hj,HA,HB,HD,HW⟩:=hrel;by_cases hjn:j+1<n
  ·gi_wp2;have HBd:=zHi (HW.out.trans ((zab wr).mono HW.out.size));have hbr:Below wr.heap.size wr wr.drew:=zab wr;have HAd:=zHi (HA.out.below hbr (IQ.below hbr));have HBBd:=zHi (HB.out.below hbr (IQ.below hbr));obtain⟨ga,ka,ra,rfl,hga,hga2,hra1,hra2,hra3⟩:=OwnR.item9 HAd.out (zeR (a:=shA p) (show j<j+2 by omega));obtain⟨ga',ka',rb,he',_,_,hrb1,hrb2,hrb3⟩:=OwnR.item9 HAd.out (zeR (a:=shA p) (show j+1<j+2 by omega));rw [zcm]at he';injection he' with e1 e2 e3;injection e1 with e1;injection e1 with e1;subst e1;rw [zcm];have hcast:(j:Int)+1=((j+1:Nat):Int):=by omega
   rw [hcast];refine zdP (ro:=none) [11,12,14,15,16] [0,1,2,3,4,5,6,7,8,9,10,13,11,12,14,15,16,17] [0,0,0,6,14,0,0,0,128,448,960,2016,4094,0,16382,32766,65535,131071] zak rfl 86 rfl (by kernel_rfl) (by kernel_rfl) ?_;refine OV.mv (v:=(.slice (some ⟨ga,0,none⟩) (j+2) ka)) rfl rfl rfl rfl ?_;refine OV.mv (v:=(.slice (some ⟨ga,0,none⟩) (j+2) ka)) rfl rfl rfl rfl ?_;refine OV.mv (v:=(.int .i64 ((j+1:Nat):Int))) rfl rfl rfl rfl ?_;refine OV.idx itQ (show j+1<j+2 by omega) rfl rfl rfl rfl rfl ?_;refine OV.ldn rb lmQ hrb2 rfl rfl rfl rfl hrb1 (by decide) rfl ?_;refine OV.ldn _ lmQ (HX1.out.below HBd.out).at9 rfl rfl rfl rfl rfl (by decide) rfl ?_;refine OV.mv (v:=(.slice (some ⟨ga,0,none⟩) (j+2) ka)) rfl rfl rfl rfl ?_;refine OV.mv (v:=(.int .i64 ((j+1:Nat):Int))) rfl rfl rfl rfl ?_;refine OV.sub9 (z:=(j:Int)) (by unfold RowKit.wrap64;omega) rfl rfl rfl rfl rfl ?_;refine OV.idx itQ (show j<j+2 by omega) rfl rfl rfl rfl rfl ?_;refine OV.ldn ra lmQ hra2 rfl rfl rfl rfl hra1 (by decide) rfl ?_;refine OV.ldn _ lmQ (HX0.out.below HBd.out).at9 rfl rfl rfl rfl rfl (by decide) rfl ?_;refine OV.call [_,.agg ra.toArray] Tryz.func128 rfl zac rfl rfl rfl rfl rfl (zeI _ _ _ (1-p) (shA p j) (HQ.out.below HBd.out) hra3 (zad.mono lq hL) (zad.mono (HLa.out j (by omega)).1 hL)) fun v1 w1' h1 hB1 => ?_
   replace HBd:=zHi (HBd.out.trans (hB1.mono HBd.out.size));replace hbr:=hbr.trans (hB1.mono hbr.size);have hrb4:=IQ.below hB1 _ _ hrb3;refine OV.call [.agg rb.toArray,v1] Tryz.func87 rfl zac rfl rfl rfl rfl rfl (zc4 _ _ _ (shA p (j+1)) ((1-p)*shA p j) hrb4 h1 (zad.mono (HLa.out (j+1) (by omega)).1 hL) (zad.mono (HLa.out j (by omega)).2.1 hL)) fun v2 w2' h2 hB2 => ?_
   replace HBd:=zHi (HBd.out.trans (hB2.mono HBd.out.size));replace hbr:=hbr.trans (hB2.mono hbr.size);refine OV.call [v2,_] Tryz.func29 rfl zac rfl rfl rfl rfl rfl (zfF _ _ _ (shA p (j+1)-(1-p)*shA p j) p h2 (HP.out.below HBd.out) (zad.mono (HLa.out j (by omega)).2.2 hL) (zad.mono lp hL) HPn.out) fun v3 w3' h3 hB3 => ?_
   replace HBd:=zHi (HBd.out.trans (hB3.mono HBd.out.size));replace hbr:=hbr.trans (hB3.mono hbr.size);obtain⟨s9,p9,l9,d9,p10,l10,d10,rfl⟩:=zdi h3;have HO4:=HA.out.below hbr (IQ.below hbr);rw [zcm]at HO4;obtain⟨v7,w7,hrun,HO7,hB7,hT7,hsame,hplace⟩:=zjj (ty:=62) (sz:=4) (t:=54) (tx:=54) W5 w3' Go.Num.u63 i34 i34z i34s rfl (by decide) (by decide) (by decide) _ (rowW (shA p) (j+2)) HO4 (shA p (j+2)) [.bool s9,.slice p9 l9 d9,.bool false,.slice p10 l10 d10] 62 rfl (by simp [Value.oneCell']) h3 (fun b r w1 w2 ht=>IQ.touch ht rfl b r) (by rw [zcm];omega) HBd.out;refine OV.put1 (zqL _ _ _ _ _) (zaa _ _) rfl rfl rfl rfl ?_;refine OV.app trivial hrun rfl rfl rfl rfl rfl rfl ?_;refine OV.asg (v:=v7) rfl rfl rfl rfl ?_;refine OV.done ?_;have HB5:=HB.out.below hbr (IQ.below hbr);have HB7:=zHi (OwnR.keepB HB5 (fun b hb hlt=>hsame b hlt (fun h=>HD.out (Eq.trans (Eq.symm h) hb.symm))) (fun b r h=>IQ.touch hT7 rfl b r h));have HD7:Hid (v7.ownBlock≠u14.ownBlock):=zHi (fun h=>by
    rcases hplace with h1|⟨k,h1,h2⟩
    ·exact HD.out (h1.symm.trans h)
    ·have:=HB5.lt (h.symm.trans h1);omega)
   rw [←zkO]at HO7;have HA7:=zHi HO7;have HW7:=zHi hB7;simp only [zaH,Go.Act.put,zss,zst,zsu];clear HO7 hB7 hrun HO4 h1 h2 h3 hra1 hra2 hra3 hrb1 hrb2 hrb3 hrb4 hbr hsame hplace hT7 HB5 HD HAd HBBd;gi_wp2;replace HBd:=zHi (HW7.out.trans ((zab w7).mono HW7.out.size));have hbr:Below w7.heap.size w7 w7.drew:=zab w7;have HAd:=zHi (HA7.out.below hbr (IQ.below hbr));have HBBd:=zHi (HB7.out.below hbr (IQ.below hbr));obtain⟨gb,kb,ra,rfl,hgb,hgb2,hra1,hra2,hra3⟩:=OwnR.item9 HBBd.out (zeR (a:=shB p c) (show j<j+2 by omega));obtain⟨gb',kb',rb,he',_,_,hrb1,hrb2,hrb3⟩:=OwnR.item9 HBBd.out (zeR (a:=shB p c) (show j+1<j+2 by omega));rw [zcm]at he';injection he' with e1 e2 e3;injection e1 with e1;injection e1 with e1;subst e1;rw [zcm];refine zdP (ro:=none) [11,12,14,16,17,18] [0,1,2,3,4,5,6,7,8,9,10,13,15,11,12,14,16,17,18,19] [0,0,0,6,14,0,0,0,128,448,960,2016,4094,0,16382,0,65534,131070,262143,524287] zak rfl 86 rfl (by kernel_rfl) (by kernel_rfl) ?_;refine OV.mv (v:=(.slice (some ⟨gb,0,none⟩) (j+2) kb)) rfl rfl rfl rfl ?_;refine OV.mv (v:=(.slice (some ⟨gb,0,none⟩) (j+2) kb)) rfl rfl rfl rfl ?_;refine OV.mv (v:=(.int .i64 ((j+1:Nat):Int))) rfl rfl rfl rfl ?_;refine OV.idx itQ (show j+1<j+2 by omega) rfl rfl rfl rfl rfl ?_;refine OV.ldn rb lmQ hrb2 rfl rfl rfl rfl hrb1 (by decide) rfl ?_;refine OV.ldn _ lmQ (HX1.out.below HBd.out).at9 rfl rfl rfl rfl rfl (by decide) rfl ?_;refine OV.mv (v:=(.slice (some ⟨gb,0,none⟩) (j+2) kb)) rfl rfl rfl rfl ?_;refine OV.mv (v:=(.int .i64 ((j+1:Nat):Int))) rfl rfl rfl rfl ?_;refine OV.sub9 (z:=(j:Int)) (by unfold RowKit.wrap64;omega) rfl rfl rfl rfl rfl ?_;refine OV.idx itQ (show j<j+2 by omega) rfl rfl rfl rfl rfl ?_;refine OV.ldn ra lmQ hra2 rfl rfl rfl rfl hra1 (by decide) rfl ?_;refine OV.ldn _ lmQ (HX2.out.below HBd.out).at9 rfl rfl rfl rfl rfl (by decide) rfl ?_;refine OV.ldn _ lmQ (HX0.out.below HBd.out).at9 rfl rfl rfl rfl rfl (by decide) rfl ?_;refine OV.call [_,.agg ra.toArray] Tryz.func128 rfl zac rfl rfl rfl rfl rfl (zeI _ _ _ (1-p) (shB p c j) (HQ.out.below HBd.out) hra3 (zad.mono lq hL) (zad.mono (HLb.out j (by omega)).1 hL)) fun v1 w1' h1 hB1 => ?_
   replace HBd:=zHi (HBd.out.trans (hB1.mono HBd.out.size));replace hbr:=hbr.trans (hB1.mono hbr.size);have hrb4:=IQ.below hB1 _ _ hrb3;refine OV.call [.agg rb.toArray,v1] Tryz.func87 rfl zac rfl rfl rfl rfl rfl (zc4 _ _ _ (shB p c (j+1)) ((1-p)*shB p c j) hrb4 h1 (zad.mono (HLb.out (j+1) (by omega)).1 hL) (zad.mono (HLb.out j (by omega)).2.1 hL)) fun v2 w2' h2 hB2 => ?_
   replace HBd:=zHi (HBd.out.trans (hB2.mono HBd.out.size));replace hbr:=hbr.trans (hB2.mono hbr.size);refine OV.call [v2,_] Tryz.func87 rfl zac rfl rfl rfl rfl rfl (zc4 _ _ _ (shB p c (j+1)-(1-p)*shB p c j) c h2 (HC.out.below HBd.out) (zad.mono (HLb.out j (by omega)).2.2.1 hL) (zad.mono lc hL)) fun v3 w3'' h3 hB3 => ?_
   replace HBd:=zHi (HBd.out.trans (hB3.mono HBd.out.size));replace hbr:=hbr.trans (hB3.mono hbr.size);refine OV.call [v3,_] Tryz.func29 rfl zac rfl rfl rfl rfl rfl (zfF _ _ _ (shB p c (j+1)-(1-p)*shB p c j-c) p h3 (HP.out.below HBd.out) (zad.mono (HLb.out j (by omega)).2.2.2 hL) (zad.mono lp hL) HPn.out) fun v4 w4' h4 hB4 => ?_
   replace HBd:=zHi (HBd.out.trans (hB4.mono HBd.out.size));replace hbr:=hbr.trans (hB4.mono hbr.size);obtain⟨s9',p11,l11,d11,p12,l12,d12,rfl⟩:=zdi h4;have HO4:=HB7.out.below hbr (IQ.below hbr);rw [zcm]at HO4;obtain⟨v8,w8,hrun,HO8,hB8,hT8,hsame,hplace⟩:=zjj (ty:=62) (sz:=4) (t:=54) (tx:=54) W5 w4' Go.Num.u63 i34 i34z i34s rfl (by decide) (by decide) (by decide) _ (rowW (shB p c) (j+2)) HO4 (shB p c (j+2)) [.bool s9',.slice p11 l11 d11,.bool false,.slice p12 l12 d12] 62 rfl (by simp [Value.oneCell']) h4 (fun b r w1 w2 ht=>IQ.touch ht rfl b r) (by rw [zcm];omega) HBd.out;refine OV.put1 (zqL _ _ _ _ _) (zaa _ _) rfl rfl rfl rfl ?_;refine OV.app trivial hrun rfl rfl rfl rfl rfl rfl ?_;refine OV.asg (v:=v8) rfl rfl rfl rfl ?_;refine OV.done ?_;have HA5:=HA7.out.below hbr (IQ.below hbr);have HA8:=zHi (OwnR.keepB HA5 (fun b hb hlt=>hsame b hlt (fun h=>HD7.out (Eq.trans hb h))) (fun b r h=>IQ.touch hT8 rfl b r h));have HD8:Hid (v7.ownBlock≠v8.ownBlock):=zHi (fun h=>by
    rcases hplace with h1|⟨k,h1,h2⟩
    ·exact HD7.out (h.trans h1)
    ·have:=HA5.lt (h.trans h1);omega)
   rw [←zkO]at HO8;have HB8:=zHi HO8;have HW8:=zHi hB8;simp only [zaH,Go.Act.put,zss,zst,zsu];clear HO8 hB8 hrun HO4 h1 h2 h3 h4 hra1 hra2 hra3 hrb1 hrb2 hrb3 hrb4 hbr hsame hplace hT8 HA5 HD7 HAd HBBd;clear hcast;gi_wp2;exact⟨⟨j+1,by go_num,by omega,HA8,HB8,HD8,HW8⟩,by simp only [intOf];omega⟩
  ·have hnj:n=j+1:=by omega
   gi_wp2;have HBd:=zHi (HW.out.trans ((zab wr).mono HW.out.size));have hbr:Below wr.heap.size wr wr.drew:=zab wr;have HAd:=zHi (HA.out.below hbr (IQ.below hbr));have HBBd:=zHi (HB.out.below hbr (IQ.below hbr));obtain⟨ga,ka,ra,rfl,hga,hga2,hra1,hra2,hra3⟩:=OwnR.item9 HAd.out (zeR (a:=shA p) (show n<j+2 by omega));obtain⟨gb,kb,rb,rfl,hgb,hgb2,hrb1,hrb2,hrb3⟩:=OwnR.item9 HBBd.out (zeR (a:=shB p c) (show n<j+2 by omega));rw [zcm,zcm];refine zcy (ro:=none) [5,10] [0,1,2,3,4,6,7,8,9,5,10] [0,0,0,6,14,31,0,0,192,448,1023,0,4095] 11 12 16 zQ zak rfl 86 rfl (by kernel_rfl) (by kernel_rfl) rfl znr rfl ?_;refine OU.ldn _ lmQ (HX3.out.below HBd.out).at9 rfl rfl rfl rfl (by decide) rfl ?_;refine OU.mv (v:=.slice (some ⟨gb,0,none⟩) (j+2) kb) rfl rfl rfl rfl ?_;refine OU.mv (v:=.int .i64 (n:Int)) rfl rfl rfl rfl ?_;refine OU.idx itQ (show n<j+2 by omega) rfl rfl rfl rfl rfl ?_;refine OU.ldn rb lmQ hrb2 rfl rfl rfl hrb1 (by decide) rfl ?_;refine OU.mv (v:=.slice (some ⟨ga,0,none⟩) (j+2) ka) rfl rfl rfl rfl ?_;refine OU.mv (v:=.int .i64 (n:Int)) rfl rfl rfl rfl ?_;refine OU.idx itQ (show n<j+2 by omega) rfl rfl rfl rfl rfl ?_;refine OU.ldn ra lmQ hra2 rfl rfl rfl hra1 (by decide) rfl ?_;refine OU.call [_,.agg rb.toArray] Tryz.func87 rfl zac rfl rfl rfl rfl rfl (fun w1 hb1=>zc4 _ _ _ e (shB p c n) ((HE.out.below HBd.out).below hb1) (IQ.below hb1 _ _ hrb3) (zad.mono le hL) (zad.mono (HLb.out n (by omega)).1 hL)) fun v1 w1' h1 hB1 => ?_
   have hra4:=IQ.below hB1 _ _ hra3;refine OU.call [v1,.agg ra.toArray] Tryz.func29 rfl zac rfl rfl rfl rfl rfl (fun w1 hb1=>zfF _ _ _ (e-shB p c n) (shA p n) (h1.below hb1) (IQ.below hb1 _ _ hra4) (zad.mono HL1.out hL) (zad.mono (HLa.out n (by omega)).1 hL) (fun h=>HA0.out (Rat.num_eq_zero.1 h))) fun v2 w2' h2 hB2 => ?_
   obtain⟨s9,p9,l9,d9,p10,l10,d10,rfl⟩:=zdi h2;refine OU.boxQ rfl rfl rfl (by simp [Value.oneCell']) fun g9 w3' w4' hg9 hb3 hbx hT4 hB4 => ?_
   have hBW:Below wr.heap.size wr w4':=(((hbr.trans (hB1.mono hbr.size)).trans (hB2.mono (Nat.le_trans hbr.size hB1.size))).trans (hb3.mono (Nat.le_trans (Nat.le_trans hbr.size hB1.size) hB2.size))).trans hB4;have HV:=zHi (IQ.touch hT4 rfl _ [.bool s9,.slice p9 l9 d9,.bool false,.slice p10 l10 d10] (h2.below hb3));have HBX:=zHi hbx;have HBW:=zHi hBW;simp only [zaH,Go.Act.put,zss,zst,zsu];clear h1 h2 hra1 hra2 hra3 hra4 hrb1 hrb2 hrb3 hbr hB1 hB2 hb3 hbx hT4 hB4 hBW HAd HBBd HBd;gi_wp2;have HBd:=zHi ((HW.out.trans (HBW.out.mono HW.out.size)).trans ((zab w4').mono (HW.out.trans (HBW.out.mono HW.out.size)).size));have hbr:Below w4'.heap.size w4' w4'.drew:=zab w4';have hbq:=HBW.out.trans (hbr.mono HBW.out.size);have HAd:=zHi (HA.out.below hbq (IQ.below hbq));have HBBd:=zHi (HB.out.below hbq (IQ.below hbq));obtain⟨ga',ka',ra,he',_,_,hra1,hra2,hra3⟩:=OwnR.item9 HAd.out (zeR (a:=shA p) (show m<j+2 by omega));rw [zcm]at he';injection he' with e1 e2 e3;injection e1 with e1;injection e1 with e1;subst e1;obtain⟨gb',kb',rb,he',_,_,hrb1,hrb2,hrb3⟩:=OwnR.item9 HBBd.out (zeR (a:=shB p c) (show m<j+2 by omega));rw [zcm]at he';injection he' with e1 e4 e5;injection e1 with e1;injection e1 with e1;subst e1;refine zdP (ro:=none) [5,10,11] [0,1,2,3,4,6,7,8,9,5,10,11] [0,0,3,7,0,31,0,0,192,448,1023,2047] zak rfl 86 rfl (by kernel_rfl) (by kernel_rfl) ?_;refine OV.mv (v:=.slice (some ⟨ga,0,none⟩) (j+2) ka) rfl rfl rfl rfl ?_;refine OV.mv (v:=.int .i64 (m:Int)) rfl rfl rfl rfl ?_;refine OV.idx itQ (show m<j+2 by omega) rfl rfl rfl rfl rfl ?_;refine OV.ldn ra lmQ hra2 rfl rfl rfl rfl hra1 (by decide) rfl ?_;refine OV.ldn _ lmQ (HBX.out.below hbr).at9 rfl rfl rfl rfl rfl (by decide) rfl ?_;refine OV.mv (v:=.slice (some ⟨gb,0,none⟩) (j+2) kb) rfl rfl rfl rfl ?_;refine OV.mv (v:=.int .i64 (m:Int)) rfl rfl rfl rfl ?_;refine OV.idx itQ (show m<j+2 by omega) rfl rfl rfl rfl rfl ?_;refine OV.ldn rb lmQ hrb2 rfl rfl rfl rfl hrb1 (by decide) rfl ?_;refine OV.call [.agg ra.toArray,_] Tryz.func128 rfl zac rfl rfl rfl rfl rfl (zeI _ _ _ (shA p m) ((e-shB p c n)/shA p n) hra3 (HV.out.below hbr) (zad.mono (HLa.out m hm).1 hL) (zad.mono HL2.out hL)) fun v5 w5' h5 hB5 => ?_
   have hrb4:=IQ.below hB5 _ _ hrb3;refine OV.call [v5,.agg rb.toArray] Tryz.func95 rfl zac rfl rfl rfl rfl rfl (zl2 _ _ _ (shA p m*((e-shB p c n)/shA p n)) (shB p c m) h5 hrb4 (zad.mono HL3.out hL) (zad.mono (HLb.out m hm).1 hL)) fun v6 w6' h6 hB6 => ?_
   obtain⟨s11,p11,l11,d11,p12,l12,d12,rfl⟩:=zdi h6;have hb6:=(HBd.out.trans (hB5.mono HBd.out.size)).trans (hB6.mono (Nat.le_trans HBd.out.size hB5.size));have hres:w6'.heap[w.heap.size+1+1+1+1]? = some zQ:=by rw [hb6.block _ (by omega)];exact HRes.out
   obtain⟨w7',hrun,hbx7,hT7,hB7,_⟩:=zee (b:=w.heap.size+1+1+1+1) (base:=w.heap.size) (x0:=.bool s11) (x1:=.slice p11 l11 d11) (x2:=.bool false) (x3:=.slice p12 l12 d12) hres (by omega) (by simp [Value.oneCell']);refine OV.st trivial hrun rfl rfl rfl rfl rfl ?_;refine OV.done ?_;have HBX7:=zHi hbx7;have HF:=zHi ((HW5.out.trans (hb6.mono (by omega))).trans hB7);have HV7:=zHi (IQ.touch hT7 rfl _ [.bool s11,.slice p11 l11 d11,.bool false,.slice p12 l12 d12] h6);have d0:=hbx7.2 0 _ rfl;have d1:=hbx7.2 1 _ rfl;have d2:=hbx7.2 2 _ rfl;have d3:=hbx7.2 3 _ rfl;simp only [zaH,Go.Act.put,zss,zst,zsu];clear hrun hbx7 hT7 hB7 hb6 hres h5 h6 hB5 hB6 hra1 hra2 hra3 hrb1 hrb2 hrb3 hrb4 hbr hbq;gi_wp2;refine Go.bodyPost_ret (zjX (g:=w.heap.size+1+1+1+1) rfl rfl HBX7.out) rfl ⟨_,rfl,?_,HF.out⟩;rw [←hnj];exact HV7.out
def zcv(q:Rat):Bool:=decide (0≤q.num) && zaU q 6
theorem zbo(w:World)(v:Value)(q:Rat)(h:zaj w v q)(hq:zad q 100000)(htab:zbh w) :
  CallsIn Fence.wide 0 Tryz.prog 62 #[v] w fun e w'=>e = .returned (.bool (zcv q))∧Below w.heap.size w w':=by
 have HR:=zHi h;have HQ:=zHi hq;have HTab:=zHi htab;obtain⟨o1,k1,c1,o2,k2,c2,rfl⟩:=h.form;obtain⟨sg,hsg⟩:∃sg,decide (q.num<0)=sg:=⟨_,rfl⟩;rw [hsg]at HR;rw [hsg];obtain⟨W1,hW1⟩:∃W,W=w.alloc (.cells #[.bool sg,.slice o1 k1 c1,.slice o2 k2 c2] 27):=⟨_,rfl⟩;have HX:Hid (Box3 W1 w.heap.size (.bool sg) (.slice o1 k1 c1) (.slice o2 k2 c2)):=zHi (by rw [hW1];exact zaK _ _ _ _ _);have HBW:Hid (Below w.heap.size w W1):=zHi (by rw [hW1];exact zaa _ _);clear hq htab hsg;refine callsIn_of_wp Tryz.func62 rfl trivial ?_ rfl;simp only [Tryz.ntmps62,zsj,zsk,zsl,Nat.reduceAdd,Nat.reduceSub,zsm,zsn,zso,zsp,zsq,zsr];have y0:=HX.out.c0;have y1:=HX.out.c1;have y2:=HX.out.c2;rw [hW1]at y0 y1 y2;gi_wp2_with (gi_at_call 75;refine stop ?_)
 unfold Stop;rw [←hW1]at y0 y1 y2 ⊢;obtain⟨g,hg⟩:∃g,w.heap.size=g:=⟨_,rfl⟩;rw [hg]at HX y0 y1 y2;rw [hg];clear hW1 hg;refine(zfE W1 _ q (HR.out.below HBW.out) HQ.out (HTab.out.below HBW.out)).mono ?_;rintro e w2 ⟨rfl,hB⟩;replace HX:=zHi (HX.out.below hB);replace HBW:=zHi (HBW.out.trans (hB.mono HBW.out.size));replace y0:=HX.out.c0;replace y1:=HX.out.c1;replace y2:=HX.out.c2;obtain⟨S,hS⟩:∃S:ByteArray,zdg q.num=S:=⟨_,rfl⟩;obtain⟨T,hT⟩:∃T:ByteArray,zgw q.den=T:=⟨_,rfl⟩;have HS:=zHi hS;have HT:=zHi hT;rw [hS,hT];clear hS hT hB;gi_wp2_with (gi_at_call 25;refine stop ?_)
 unfold Stop;refine(zaT w2 _ q (HR.out.below HBW.out)).mono ?_;rintro e w3 ⟨rfl,hB⟩;replace HBW:=zHi (HBW.out.trans (hB.mono HBW.out.size));clear y0 y1 y2 hB;have hTs:T.size=Lib.nDigits q.den:=by rw [←HT.out];unfold zgw;rw [zch,Lib.decDigits_length]
 obtain⟨d2,hd2⟩:∃d,Lib.nDigits q.den=d:=⟨_,rfl⟩;rw [hd2]at hTs;by_cases h0:0≤q.num
 ·have hsz:S.size=Lib.nDigits q.num.natAbs:=by rw [←HS.out,zf4 h0];unfold zgw;rw [zch,Lib.decDigits_length]
  obtain⟨d1,hd1⟩:∃d,Lib.nDigits q.num.natAbs=d:=⟨_,rfl⟩;rw [hd1]at hsz;obtain⟨s,hs⟩:∃s,sgnR q=s:=⟨_,rfl⟩;have hs0:0≤s:=by
   rw [←hs];unfold sgnR;rw [if_neg (by omega)];split <;> omega
  have HV:Hid (zcv q=(decide (d1≤6) && decide (d2≤6))):=zHi (by unfold zcv zaU;rw [hd1,hd2,decide_eq_true h0,Bool.true_and]);rw [hs];clear h0 hs hd1 hd2;have hge:decide (s≥0)=true:=decide_eq_true hs0;by_cases h6:d1≤6
  ·have hc:decide ((d1:Int)≤6)=true:=decide_eq_true (by omega);by_cases h7:d2≤6
   ·have hc2:decide ((d2:Int)≤6)=true:=decide_eq_true (by omega);have HV2:Hid (zcv q=true):=zHi (by rw [HV.out,decide_eq_true h6,decide_eq_true h7];rfl);clear HV h6 h7;gi_wp2_with (exfalso;exact undef_not (by assumption))
    all_goals (first|go_returns|go_ret|go_end0)
    exact⟨by rw [HV2.out];rfl,HBW.out⟩
   ·have hc2:decide ((d2:Int)≤6)=false:=decide_eq_false (by omega);have HV2:Hid (zcv q=false):=zHi (by rw [HV.out,decide_eq_false h7,Bool.and_false]);clear HV h6 h7;gi_wp2_with (exfalso;exact undef_not (by assumption))
    all_goals (first|go_returns|go_ret|go_end0)
    exact⟨by rw [HV2.out];rfl,HBW.out⟩
  ·have hc:decide ((d1:Int)≤6)=false:=decide_eq_false (by omega);have HV2:Hid (zcv q=false):=zHi (by rw [HV.out,decide_eq_false h6,Bool.false_and]);clear HV h6;gi_wp2_with (exfalso;exact undef_not (by assumption))
   all_goals (first|go_returns|go_ret|go_end0)
   exact⟨by rw [HV2.out];rfl,HBW.out⟩
 ·have hs:sgnR q = -1:=by unfold sgnR;rw [if_pos (by omega)]
  have HV2:Hid (zcv q=false):=zHi (by unfold zcv;rw [decide_eq_false h0,Bool.false_and]);rw [hs];clear h0 hs;gi_wp2_with (exfalso;exact undef_not (by assumption))
  all_goals (first|go_returns|go_ret|go_end0)
  exact⟨by rw [HV2.out];rfl,HBW.out⟩
end Go.Num
namespace Go.Num
open Go.Eng Go.Shelf Go.RowKit Go.Proofs Go.Proofs.YtepakfjilnpodaaGreatDoor
def RowC(w:World)(v:Value)(l:List Rat):Prop:=
 ∃o c,v = .slice o l.length c∧l.length≤1000000000∧∀(i:Nat) (q:Rat),l[i]? = some q→∃a,o=some a∧a.block<w.heap.size ∧
  ∃x0 x1 x2,w.cell? (a.add (i*3))=some x0∧w.cell? ⟨(a.add (i*3)).block,(a.add (i*3)).off+1,none⟩=some x1∧w.cell? ⟨(a.add (i*3)).block,(a.add (i*3)).off+2,none⟩=some x2∧zaj w (.agg #[x0,x1,x2]) q
theorem RowC.below{w w':World}{v:Value}{l:List Rat}(h:RowC w v l)(hb:Below w.heap.size w w'):RowC w' v l:=by
 obtain⟨o,c,rfl,h9,hi⟩:=h;refine⟨o,c,rfl,h9,fun i q hq => ?_⟩;obtain⟨a,rfl,ha,x0,x1,x2,h0,h1,h2,hr⟩:=hi i q hq;have hab:(a.add (i*3)).block<w.heap.size:=by rw [zaf];exact ha
 exact⟨a,rfl,Nat.lt_of_lt_of_le ha hb.size,x0,x1,x2,(hb.cell hab).trans h0,(hb.cell (p:=⟨(a.add (i*3)).block,_,none⟩) hab).trans h1,(hb.cell (p:=⟨(a.add (i*3)).block,_,none⟩) hab).trans h2,hr.below hb⟩
def BoxQ(w:World)(g:Nat)(q:Rat):Prop:=∃sg o1 k1 c1 o2 k2 c2,zag w g 3 (fun i => [.bool sg,.slice o1 k1 c1,.slice o2 k2 c2].getD i (.bool false))∧zaj w (.agg #[.bool sg,.slice o1 k1 c1,.slice o2 k2 c2]) q∧Elem w g 27
theorem RowC.item{w:World}{o:Option Addr}{n c:Nat}{l:List Rat}(h:RowC w (.slice o n c) l){i:Nat}{q:Rat}(hq:l[i]? = some q):∃a,o=some a∧a.block<w.heap.size ∧
  ∃sg o1 k1 c1 o2 k2 c2,w.cell? (a.add (i*3))=some (.bool sg)∧w.cell? ⟨(a.add (i*3)).block,(a.add (i*3)).off+1,none⟩=some (.slice o1 k1 c1)∧w.cell? ⟨(a.add (i*3)).block,(a.add (i*3)).off+2,none⟩=some (.slice o2 k2 c2)∧zaj w (.agg #[.bool sg,.slice o1 k1 c1,.slice o2 k2 c2]) q:=by
 obtain⟨o',c',e,h9,hi⟩:=h;injection e with e _ _;subst e;obtain⟨a,rfl,ha,x0,x1,x2,h0,h1,h2,hr⟩:=hi i q hq;obtain⟨o1,k1,c1,o2,k2,c2,hf⟩:=hr.form;injection hf with hf;have:=congrArg Array.toList hf;simp only [List.cons.injEq,and_true]at this;obtain⟨rfl,rfl,rfl⟩:=this;exact⟨a,rfl,ha,_,o1,k1,c1,o2,k2,c2,h0,h1,h2,hr⟩
theorem zag.other{w:World}{g n b i:Nat}{f:Nat→Value}{v:Value}(h:zag w g n f)(hne:b≠g):zag (w.setCell ⟨b,i,none⟩ v) g n f:=fun j hj=>by
 refine⟨by rw [World.cell?_setCell_other _ _ _ _ (fun e=>by injection e with e _ _;exact hne e)];exact(h j hj).1,?_⟩;rw [World.frozen?_setCell];exact(h j hj).2
theorem BoxQ.below{w w':World}{g:Nat}{q:Rat}(h:BoxQ w g q)(hb:Below w.heap.size w w'):BoxQ w' g q:=by
 obtain⟨sg,o1,k1,c1,o2,k2,c2,hA,hr,hE⟩:=h;have hl:=hA.lt (by omega);exact⟨sg,o1,k1,c1,o2,k2,c2,hA.below hl hb,hr.below hb,hE.below hb hl⟩
theorem znn{w:World}{sg:Bool}{o1 o2:Option Addr}{k1 c1 k2 c2:Nat}{q:Rat}(h:zaj w (.agg #[.bool sg,.slice o1 k1 c1,.slice o2 k2 c2]) q):BoxQ (w.alloc (.cells #[.bool sg,.slice o1 k1 c1,.slice o2 k2 c2] 27)) w.heap.size q:=by
 refine⟨sg,o1,k1,c1,o2,k2,c2,zag.new _ _ _ fun i hi => ?_,h.below (zaa _ _),zaO _ _ _⟩;match i,hi with
 | 0,_=>rfl
 | 1,_=>rfl
 | 2,_=>rfl
theorem BoxQ.set{w:World}{g:Nat}{p q:Rat}{sg:Bool}{o1 o2:Option Addr}{k1 c1 k2 c2:Nat}(h:BoxQ w g p)(hr:zaj w (.agg #[.bool sg,.slice o1 k1 c1,.slice o2 k2 c2]) q) :
  BoxQ (((w.setCell ⟨g,0,none⟩ (.bool sg)).setCell ⟨g,1,none⟩ (.slice o1 k1 c1)).setCell ⟨g,2,none⟩ (.slice o2 k2 c2)) g q:=by
 obtain⟨sg',o3,k3,c3,o4,k4,c4,hA,_,hE⟩:=h;refine⟨sg,o1,k1,c1,o2,k2,c2,(((hA.set (i:=0) (by omega) (.bool sg)).set (i:=1) (by omega) (.slice o1 k1 c1)).set (i:=2) (by omega) (.slice o2 k2 c2)).congr fun i hi => ?_,((hr.setElem hE (by decide)).setElem (hE.setCell _ _) (by decide)).setElem ((hE.setCell _ _).setCell _ _) (by decide),((hE.setCell _ _).setCell _ _).setCell _ _⟩;match i,hi with
 | 0,_=>rfl
 | 1,_=>rfl
 | 2,_=>rfl
def sumL(l:List Rat):Rat:=l.foldl (· + ·) 0
def zeC(l:List Rat):Rat:=l.foldl (· * ·) 1
theorem zos(l:List Rat)(q:Rat):sumL (l ++ [q])=sumL l+q:=by unfold sumL;rw [List.foldl_append];rfl
theorem zjh(l:List Rat)(q:Rat):zeC (l ++ [q])=zeC l*q:=by unfold zeC;rw [List.foldl_append];rfl
theorem zjm(w:World)(v:Value)(q:Rat)(h:zaj w v q) :
  CallsIn Fence.wide 0 Tryz.prog 85 #[v,.int .i64 0] w fun e w'=>∃v',e = .returned v'∧zaj w' v' q∧Below w.heap.size w w':=by
 refine(zdX zak zac (env:=[zlb q]) (S:=[shR]) rfl (w:=w) zdI (n:=50) (ts:=A2 (tg 0) (vi 0)) (rs:=A1 (tg 0)) (by kernel_rfl) (xs:=#[v,.int .i64 0]) (ps2 h rfl)).mono ?_;rintro e w' ⟨x,rfl,hx,hB⟩;exact⟨x,rfl,hx,hB⟩
theorem zlF(w:World)(va vb:Value)(p q:Rat)(L:Nat)(ha:zaj w va p)(hb:zaj w vb q)(hp:zad p L)(hq:zad q L)(hq0:q.num≠0)(hL:L≤1000000)(hr:zad (p/q) 100000)(hs:zbR (p/q)=true)(htab:zbh w) :
  CallsIn Fence.wide 0 Tryz.prog 67 #[va,vb] w fun e w'=>∃v',e = .returned v'∧zaj w' v' (p/q)∧Below w.heap.size w w':=by
 have hT:TI w [zlb p,zlb q,zlb (p/q)] [(45,A2 (tg 0) (tg 1),A2 (tg 2) (vi 0))]:=by
  refine zlK ⟨_,Tryz.func45,rfl⟩ (fun w1 v u hw hv hu => ?_) zdI;refine(zjg w1 v u p q L hv hu hp hq hq0 hL hr hs (htab.below hw)).mono ?_;rintro e w' ⟨v',rfl,h1,h2⟩;exact⟨_,rfl,pk2 h1 rfl,h2⟩
 refine(zdX zak zac (S:=[shR,shR,shR]) rfl hT (n:=50) (ts:=A2 (tg 0) (tg 1)) (rs:=A1 (tg 2)) (by kernel_rfl) (xs:=#[va,vb]) (ps2 ha hb)).mono ?_;rintro e w' ⟨x,rfl,hx,hB⟩;exact⟨x,rfl,hx,hB⟩
theorem zj0(w:World)(v:Value)(l:List Rat)(L:Nat)(h:RowC w v l)(hl:∀q∈l,zad q L)(hp:∀k,zad (zeC (l.take k)) L)(hk:∀k,zbR (zeC (l.take k))=true)(hL:L≤100000)(htab:zbh w) :
  CallsIn Fence.wide 0 Tryz.prog 68 #[v] w fun e w'=>∃v',e = .returned v'∧zaj w' v' (zeC l)∧Below w.heap.size w w':=by
 have HR:=zHi h;have HL:=zHi hl;have HP:=zHi hp;have HK:=zHi hk;have HTab:=zHi htab;obtain⟨o,c,rfl,h9,_⟩:=h;obtain⟨n,hn⟩:∃n,l.length=n:=⟨_,rfl⟩;have HN:=zHi hn;rw [hn]at HR h9;rw [hn];clear hl hp hk htab hn;refine callsIn_of_wp Tryz.func68 rfl trivial ?_ rfl;simp only [Tryz.ntmps68,zsj,zsk,zsl,Nat.reduceAdd,Nat.reduceSub,zsm,zsn,zso,zsp,zsq,zsr];gi_wp2_with (gi_at_call 16;refine stop ?_)
 unfold Stop;obtain⟨W1,hW1⟩:∃W,W=w.alloc (.cells #[.bool false,.slice none 0 0,.slice none 0 0] 27):=⟨_,rfl⟩;rw [←hW1];have HBW:Hid (Below w.heap.size w W1):=zHi (by rw [hW1];exact zaa _ _);have hA0:zag W1 w.heap.size 3 fun i => [.bool false,.slice none 0 0,.slice none 0 0].getD i (.bool false):=by
  rw [hW1];refine zag.new _ _ _ fun i hi => ?_
  match i,hi with
  | 0,_=>rfl
  | 1,_=>rfl
  | 2,_=>rfl
 have HE:Hid (Elem W1 w.heap.size 27):=zHi (by rw [hW1];exact zaO _ _ _);obtain⟨g,hg⟩:∃g,w.heap.size=g:=⟨_,rfl⟩;have hgl:g<W1.heap.size:=by rw [hW1,←hg];simp
 have hgw:w.heap.size≤g:=by omega
 rw [hg]at hA0 HE;rw [hg];have HA:=zHi hA0;clear hg hW1 hA0;refine(zbm W1 1 (by decide) (by decide)).mono ?_;rintro e w2 ⟨v2,rfl,hr2,hB⟩;replace HA:=zHi (HA.out.below hgl hB);replace HE:=zHi (HE.out.below hB hgl);replace HBW:=zHi (HBW.out.trans (hB.mono HBW.out.size));replace hgl:=Nat.lt_of_lt_of_le hgl hB.size;obtain⟨o1,k1,c1,o2,k2,c2,rfl⟩:=hr2.form;have HR2:=zHi hr2;clear hr2 hB;obtain⟨g3,hg3⟩:∃g3,w2.heap.size=g3:=⟨_,rfl⟩;have HG3:=zHi hg3;have HLT:Hid (g<g3):=zHi (by omega);have hle3:w.heap.size≤g3:=by omega
 gi_wp2;gi_loopw [9] (fun x9 wr=>∃i:Nat,x9 = .int .i64 (i:Int)∧i≤n∧Hid (BoxQ wr g3 (zeC (l.take i)))∧Hid (zag wr g 3 fun i => [.bool false,.slice none 0 0,.slice none 0 0].getD i (.bool false))∧Hid (Elem wr g 27)∧Hid (Below w.heap.size w wr)) (fun x _=>n-(intOf x).toNat)
 case atStart=>
  refine⟨0,rfl,by omega,?_,?_,?_,?_⟩
  ·rw [←HG3.out];exact znn HR2.out
  ·exact HA.out.alloc hgl _
  ·exact HE.out.below (zaa _ _) hgl
  ·exact HBW.out.trans ((zaa _ _).mono HBW.out.size)
 case round=>
  obtain⟨i,rfl,hi,HQ,HA,HE,HB⟩:=hrel;clear HR2 hg3 HBW;by_cases hin:i<n
  ·obtain⟨q,hq⟩:∃q,l[i]? = some q:=⟨_,List.getElem?_eq_getElem (by rw [HN.out];exact hin)⟩;obtain⟨a,rfl,hal,sg,o3,k3,c3,o4,k4,c4,x0,x1,x2,hra⟩:=(HR.out.below HB.out).item hq;have HRA:=zHi hra;have HQq:=zHi (HL.out q (List.mem_of_getElem? hq));have htk:zeC (l.take (i+1))=zeC (l.take i)*q:=by rw [List.take_add_one,hq];exact zjh _ _
   have HTK:=zHi htk;have hP1:=HP.out (i+1);have hK1:=HK.out (i+1);rw [htk]at hP1 hK1;have HP1:=zHi hP1;have HK1:=zHi hK1;obtain⟨sp,o5,k5,c5,o6,k6,c6,hA3,hr3,hE3⟩:=HQ.out;have HR3:=zHi hr3;have y0:wr.cell? ⟨g3,0,none⟩=some (.bool sp):=(hA3 0 (by omega)).1;have y1:wr.cell? ⟨g3,1,none⟩=some (.slice o5 k5 c5):=(hA3 1 (by omega)).1;have y2:wr.cell? ⟨g3,2,none⟩=some (.slice o6 k6 c6):=(hA3 2 (by omega)).1;have hl3:g3<wr.heap.size:=hA3.lt (by omega);clear hq hra htk hP1 hK1 hA3 hr3 hE3;gi_wp2_with (gi_at_call 44;refine stop ?_)
   unfold Stop;obtain⟨W3,hW3⟩:∃W,wr.alloc (.cells #[.bool sg,.slice o3 k3 c3,.slice o4 k4 c4] 27)=W:=⟨_,rfl⟩;have hb3:Below wr.heap.size wr W3:=by rw [←hW3];exact zaa _ _
   rw [hW3];clear hW3;refine(zjn W3 _ _ _ q L (HR3.out.below hb3) (HRA.out.below hb3) (HP.out i) HQq.out (by omega) (HP1.out.mono hL) HK1.out (HTab.out.below (HB.out.trans (hb3.mono HB.out.size)))).mono ?_;rintro e w4 ⟨v4,rfl,hr4,hB4⟩;have HB4:=zHi (hb3.trans (hB4.mono hb3.size));have HR4:=zHi hr4;obtain⟨o7,k7,c7,o8,k8,c8,rfl⟩:=hr4.form;clear hr4 hB4 hb3 HRA y0 y1 y2 x0 x1 x2;gi_wp2_with (gi_at_call 85;refine stop ?_)
   unfold Stop;refine(zjm w4 _ _ HR4.out).mono ?_;rintro e w5 ⟨v5,rfl,hr5,hB5⟩;replace HB4:=zHi (HB4.out.trans (hB5.mono HB4.out.size));have HR5:=zHi hr5;obtain⟨o9,k9,c9,o10,k10,c10,rfl⟩:=hr5.form;obtain⟨s9,hs9⟩:∃s,decide ((zeC (l.take i)*q).num<0)=s:=⟨_,rfl⟩;rw [hs9]at HR5;rw [hs9];clear hr5 hB5 HR4 hs9;replace HQ:=zHi (HQ.out.below HB4.out);replace HA:=zHi (HA.out.below (HE.out.lt) HB4.out);replace HE:=zHi (HE.out.below HB4.out HE.out.lt);replace HB:=zHi (HB.out.trans (HB4.out.mono HB.out.size));obtain⟨s6,p1,n1,d1,p2,n2,d2,hA6,hr6,hE6⟩:=HQ.out;have y0:w5.cell? ⟨g3,0,none⟩=some (.bool s6):=(hA6 0 (by omega)).1;have y1:w5.cell? ⟨g3,1,none⟩=some (.slice p1 n1 d1):=(hA6 1 (by omega)).1;have y2:w5.cell? ⟨g3,2,none⟩=some (.slice p2 n2 d2):=(hA6 2 (by omega)).1;have z0:=(hA6 0 (by omega)).2;have z1:=(hA6 1 (by omega)).2;have z2:=(hA6 2 (by omega)).2;clear hA6 hr6 hE6 hl3;gi_wp2;refine⟨⟨i+1,by go_num,by omega,?_,?_,?_,?_⟩,by simp only [intOf];omega⟩
   ·rw [HTK.out];exact HQ.out.set HR5.out
   ·exact((HA.out.other (by have:=HLT.out;omega)).other (by have:=HLT.out;omega)).other (by have:=HLT.out;omega)
   ·exact((HE.out.setCell _ _).setCell _ _).setCell _ _
   ·exact((HB.out.setCell hle3 _).setCell hle3 _).setCell hle3 _
  ·have hin2:i=n:=by omega
   have HE2:Hid (zeC (l.take i)=zeC l):=zHi (by rw [hin2,←HN.out,List.take_length]);obtain⟨sp,o5,k5,c5,o6,k6,c6,hA3,hr3,hE3⟩:=HQ.out;have HR3:=zHi hr3;have y0:wr.cell? ⟨g3,0,none⟩=some (.bool sp):=(hA3 0 (by omega)).1;have y1:wr.cell? ⟨g3,1,none⟩=some (.slice o5 k5 c5):=(hA3 1 (by omega)).1;have y2:wr.cell? ⟨g3,2,none⟩=some (.slice o6 k6 c6):=(hA3 2 (by omega)).1;have z0:wr.cell? ⟨g,0,none⟩=some (.bool false):=(HA.out 0 (by omega)).1;have z1:wr.cell? ⟨g,1,none⟩=some (.slice none 0 0):=(HA.out 1 (by omega)).1;have z2:wr.cell? ⟨g,2,none⟩=some (.slice none 0 0):=(HA.out 2 (by omega)).1;have f0:=(HA.out 0 (by omega)).2;have f1:=(HA.out 1 (by omega)).2;have f2:=(HA.out 2 (by omega)).2;clear hA3 hr3 hE3;gi_wp2;refine zbe rfl rfl g rfl z0 z1 z2 ?_;refine⟨_,rfl,?_,((HB.out.setCell hgw _).setCell hgw _).setCell hgw _⟩;rw [HE2.out]at HR3;exact((HR3.out.setElem HE.out (by decide)).setElem (HE.out.setCell _ _) (by decide)).setElem ((HE.out.setCell _ _).setCell _ _) (by decide)
theorem zor(w:World)(v:Value)(l:List Rat)(L:Nat)(h:RowC w v l)(hl:∀q∈l,zad q L)(hp:∀k,zad (sumL (l.take k)) L)(hk:∀k,zbR (sumL (l.take k))=true)(hL:L≤100000)(htab:zbh w) :
  CallsIn Fence.wide 0 Tryz.prog 65 #[v] w fun e w'=>∃v',e = .returned v'∧zaj w' v' (sumL l)∧Below w.heap.size w w':=by
 have HR:=zHi h;have HL:=zHi hl;have HP:=zHi hp;have HK:=zHi hk;have HTab:=zHi htab;obtain⟨o,c,rfl,h9,_⟩:=h;obtain⟨n,hn⟩:∃n,l.length=n:=⟨_,rfl⟩;have HN:=zHi hn;rw [hn]at HR h9;rw [hn];clear hl hp hk htab hn;refine callsIn_of_wp Tryz.func65 rfl trivial ?_ rfl;simp only [Tryz.ntmps65,zsj,zsk,zsl,Nat.reduceAdd,Nat.reduceSub,zsm,zsn,zso,zsp,zsq,zsr];obtain⟨W1,hW1⟩:∃W,W=w.alloc (.cells #[.bool false,.slice none 0 0,.slice none 0 0] 27):=⟨_,rfl⟩;have HBW:Hid (Below w.heap.size w W1):=zHi (by rw [hW1];exact zaa _ _);have hA0:zag W1 w.heap.size 3 fun i => [.bool false,.slice none 0 0,.slice none 0 0].getD i (.bool false):=by
  rw [hW1];refine zag.new _ _ _ fun i hi => ?_
  match i,hi with
  | 0,_=>rfl
  | 1,_=>rfl
  | 2,_=>rfl
 have HE:Hid (Elem W1 w.heap.size 27):=zHi (by rw [hW1];exact zaO _ _ _);have hsz1:W1.heap.size=w.heap.size+1:=by rw [hW1];simp
 have HW1:=zHi hW1;clear hW1;obtain⟨g,hg⟩:∃g,w.heap.size=g:=⟨_,rfl⟩;have hgl:g<W1.heap.size:=by omega
 have hgw:w.heap.size≤g:=by omega
 have HG:=zHi hg;rw [hg]at hA0 HE;have HA:=zHi hA0;have hz:=zao W1;have HR2:=zHi hz;clear hA0 hz;have HG3:Hid (W1.heap.size=g+1):=zHi (by omega);have HLT:Hid (g<g+1):=zHi (by omega);have hle3:w.heap.size≤g+1:=by omega
 clear hsz1;gi_wp2;gi_loopw [8] (fun x8 wr=>∃i:Nat,x8 = .int .i64 (i:Int)∧i≤n∧Hid (BoxQ wr (g+1) (sumL (l.take i)))∧Hid (zag wr g 3 fun i => [.bool false,.slice none 0 0,.slice none 0 0].getD i (.bool false))∧Hid (Elem wr g 27)∧Hid (Below w.heap.size w wr)) (fun x _=>n-(intOf x).toNat)
 case atStart=>
  rw [←HW1.out];refine⟨0,rfl,by omega,?_,?_,?_,?_⟩
  ·rw [←HG3.out];exact znn HR2.out
  ·exact HA.out.alloc hgl _
  ·exact HE.out.below (zaa _ _) hgl
  ·exact HBW.out.trans ((zaa _ _).mono HBW.out.size)
 case round=>
  obtain⟨i,rfl,hi,HQ,HA,HE,HB⟩:=hrel;clear HR2 HBW;by_cases hin:i<n
  ·obtain⟨q,hq⟩:∃q,l[i]? = some q:=⟨_,List.getElem?_eq_getElem (by rw [HN.out];exact hin)⟩;obtain⟨a,rfl,hal,sg,o3,k3,c3,o4,k4,c4,x0,x1,x2,hra⟩:=(HR.out.below HB.out).item hq;have HRA:=zHi hra;have HQq:=zHi (HL.out q (List.mem_of_getElem? hq));have htk:sumL (l.take (i+1))=sumL (l.take i)+q:=by rw [List.take_add_one,hq];exact zos _ _
   have HTK:=zHi htk;have hP1:=HP.out (i+1);have hK1:=HK.out (i+1);rw [htk]at hP1 hK1;have HP1:=zHi hP1;have HK1:=zHi hK1;obtain⟨sp,o5,k5,c5,o6,k6,c6,hA3,hr3,hE3⟩:=HQ.out;have HR3:=zHi hr3;have y0:wr.cell? ⟨g+1,0,none⟩=some (.bool sp):=(hA3 0 (by omega)).1;have y1:wr.cell? ⟨g+1,1,none⟩=some (.slice o5 k5 c5):=(hA3 1 (by omega)).1;have y2:wr.cell? ⟨g+1,2,none⟩=some (.slice o6 k6 c6):=(hA3 2 (by omega)).1;have hl3:g+1<wr.heap.size:=hA3.lt (by omega);clear hq hra htk hP1 hK1 hA3 hr3 hE3;gi_wp2_with (gi_at_call 17;refine stop ?_)
   unfold Stop;obtain⟨W3,hW3⟩:∃W,wr.alloc (.cells #[.bool sg,.slice o3 k3 c3,.slice o4 k4 c4] 27)=W:=⟨_,rfl⟩;have hb3:Below wr.heap.size wr W3:=by rw [←hW3];exact zaa _ _
   rw [hW3];clear hW3;refine(zjH W3 _ _ _ q L (HR3.out.below hb3) (HRA.out.below hb3) (HP.out i) HQq.out (by omega) (HP1.out.mono hL) HK1.out (HTab.out.below (HB.out.trans (hb3.mono HB.out.size)))).mono ?_;rintro e w4 ⟨v4,rfl,hr4,hB4⟩;have HB4:=zHi (hb3.trans (hB4.mono hb3.size));have HR4:=zHi hr4;obtain⟨o7,k7,c7,o8,k8,c8,rfl⟩:=hr4.form;clear hr4 hB4 hb3 HRA y0 y1 y2 x0 x1 x2;gi_wp2_with (gi_at_call 85;refine stop ?_)
   unfold Stop;refine(zjm w4 _ _ HR4.out).mono ?_;rintro e w5 ⟨v5,rfl,hr5,hB5⟩;replace HB4:=zHi (HB4.out.trans (hB5.mono HB4.out.size));have HR5:=zHi hr5;obtain⟨o9,k9,c9,o10,k10,c10,rfl⟩:=hr5.form;obtain⟨s9,hs9⟩:∃s,decide ((sumL (l.take i)+q).num<0)=s:=⟨_,rfl⟩;rw [hs9]at HR5;rw [hs9];clear hr5 hB5 HR4 hs9;replace HQ:=zHi (HQ.out.below HB4.out);replace HA:=zHi (HA.out.below (HE.out.lt) HB4.out);replace HE:=zHi (HE.out.below HB4.out HE.out.lt);replace HB:=zHi (HB.out.trans (HB4.out.mono HB.out.size));obtain⟨s6,p1,n1,d1,p2,n2,d2,hA6,hr6,hE6⟩:=HQ.out;have y0:w5.cell? ⟨g+1,0,none⟩=some (.bool s6):=(hA6 0 (by omega)).1;have y1:w5.cell? ⟨g+1,1,none⟩=some (.slice p1 n1 d1):=(hA6 1 (by omega)).1;have y2:w5.cell? ⟨g+1,2,none⟩=some (.slice p2 n2 d2):=(hA6 2 (by omega)).1;have z0:=(hA6 0 (by omega)).2;have z1:=(hA6 1 (by omega)).2;have z2:=(hA6 2 (by omega)).2;clear hA6 hr6 hE6 hl3;gi_wp2;refine⟨⟨i+1,by go_num,by omega,?_,?_,?_,?_⟩,by simp only [intOf];omega⟩
   ·rw [HTK.out];exact HQ.out.set HR5.out
   ·exact((HA.out.other (by have:=HLT.out;omega)).other (by have:=HLT.out;omega)).other (by have:=HLT.out;omega)
   ·exact((HE.out.setCell _ _).setCell _ _).setCell _ _
   ·exact((HB.out.setCell hle3 _).setCell hle3 _).setCell hle3 _
  ·have hin2:i=n:=by omega
   have HE2:Hid (sumL (l.take i)=sumL l):=zHi (by rw [hin2,←HN.out,List.take_length]);obtain⟨sp,o5,k5,c5,o6,k6,c6,hA3,hr3,hE3⟩:=HQ.out;have HR3:=zHi hr3;have y0:wr.cell? ⟨g+1,0,none⟩=some (.bool sp):=(hA3 0 (by omega)).1;have y1:wr.cell? ⟨g+1,1,none⟩=some (.slice o5 k5 c5):=(hA3 1 (by omega)).1;have y2:wr.cell? ⟨g+1,2,none⟩=some (.slice o6 k6 c6):=(hA3 2 (by omega)).1;have z0:wr.cell? ⟨g,0,none⟩=some (.bool false):=(HA.out 0 (by omega)).1;have z1:wr.cell? ⟨g,1,none⟩=some (.slice none 0 0):=(HA.out 1 (by omega)).1;have z2:wr.cell? ⟨g,2,none⟩=some (.slice none 0 0):=(HA.out 2 (by omega)).1;have f0:=(HA.out 0 (by omega)).2;have f1:=(HA.out 1 (by omega)).2;have f2:=(HA.out 2 (by omega)).2;clear hA3 hr3 hE3;gi_wp2;refine zbe rfl rfl g rfl z0 z1 z2 ?_;refine⟨_,rfl,?_,((HB.out.setCell hgw _).setCell hgw _).setCell hgw _⟩;rw [HE2.out]at HR3;exact((HR3.out.setElem HE.out (by decide)).setElem (HE.out.setCell _ _) (by decide)).setElem ((HE.out.setCell _ _).setCell _ _) (by decide)
end Go.Num
