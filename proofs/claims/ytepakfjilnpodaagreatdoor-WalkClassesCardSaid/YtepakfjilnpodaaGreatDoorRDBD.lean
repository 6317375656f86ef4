/-
  'Period' of the program.
  Conditions: a chain.
-/
import Derived.Test.YtepakfjilnpodaaGreatDoorRDBC
import Derived.Carry
namespace Go.Num
open Go.Eng Go.Shelf Go.RowKit Go.Sort Go.Proofs Go.Proofs.YtepakfjilnpodaaGreatDoor
def edP(Q:Nat→Nat→Rat)(x y:Nat):Bool:=decide (0<sgnR (Q x y))
theorem way_q{Q:Nat→Nat→Rat}{n x y m:Nat}(h:Way (EdN (edQ Q) n) x y m):∃m',Way (EdN (edP Q) n) x y m':=by
 induction h with
 | nil=>exact⟨0,.nil _⟩
 | @snoc y z k _ e ih=>
  obtain⟨m',h'⟩:=ih
  obtain⟨h1,h2,h3⟩:=e
  unfold edQ at h3
  rw [Bool.or_eq_true]at h3
  rcases h3 with h3|h3
  ·have:=of_decide_eq_true h3
   subst this
   exact⟨m',h'⟩
  ·exact⟨m'+1,.snoc h' ⟨h1,h2,h3⟩⟩
theorem way_p{Q:Nat→Nat→Rat}{n x y m:Nat}(h:Way (EdN (edP Q) n) x y m):Way (EdN (edQ Q) n) x y m:=by
 induction h with
 | nil=>exact .nil _
 | snoc _ e ih=>exact .snoc ih ⟨e.1,e.2.1,by unfold edQ;have:=e.2.2;unfold edP at this;rw [this,Bool.or_true]⟩
theorem cloB_all{L:Nat→Nat→Bool}{i:Nat}:∀{n:Nat},cloB L i n=true→∀j,j<n→L i j=true→L j i=true
 | 0,_,j,hj,_=>by omega
 | n+1,h,j,hj,hl=>by
  rw [cloB_step,Bool.and_eq_true]at h
  rcases Nat.lt_or_ge j n with q|q
  ·exact cloB_all h.1 j q hl
  ·have:j=n:=by omega
   subst this
   have:=h.2
   rw [hl]at this
   simpa using this
theorem closed_back{Q:Nat→Nat→Rat}{n i:Nat}(hi:i<n)(h:cloB (ldW (edQ Q) n) i n=true)(x m:Nat)(hw:Way (EdN (edP Q) n) i x m):∃m',Way (EdN (edP Q) n) x i m':=by
 have hx:=hw.lt hi
 have h1:ldW (edQ Q) n i x=true:=(ldW_way (fun a _=>edQ_refl Q a) hi hx).2 ⟨m,way_p hw⟩
 obtain⟨m',h2⟩:=(ldW_way (fun a _=>edQ_refl Q a) hx hi).1 (cloB_all h x hx h1)
 exact way_q h2
theorem PerI.known{E:Nat→Nat→Bool}{n i:Nat}{es:List (Nat × Nat)}{pr q:List Nat}{D:Nat→Nat→Prop}{per x:Nat}(h:PerI E n i es pr q D per)(hx:x∈pr ++ q):∃d,lookI es x=some d∧d<es.length:=by
 cases hl:lookI es x with
 | none=>exact absurd (by rw [h.keys];exact hx) (lookI_none.1 hl)
 | some d=>exact⟨d,rfl,h.small x d hl⟩
theorem wpListIn_append_run{F:Fence}{n:Nat}{P:Program}{w w':World}{ops:Array Oper}{rest:List Oper}{o:Oper}{a:Act}{Q:Exit→Act→World→Prop}
  (hg:o.guard=none) (s x:Operand) (t:TypeId) (hop:o.op=Op.call {callee:=Callee.builtin Builtin.append,args:=#[s,x],argTypes:=#[t,t]}) (v y v':Value) (ty:TypeId) (hty:o.type=ty) (hs:a.eval s=v) (hx:a.eval x=y)
  (hrun:(Builtin.append_ #[t,t] ty #[v,y]).run P w = .ok v' w') (hK:wpListIn F n P ops Q rest (a.put o.dst v') w'):wpListIn F n P ops Q (o :: rest) a w:=by
 subst hty
 refine wpListIn_plain hg fun K hK' => ?_
 unfold Oper.wpIn
 refine⟨?_,?_⟩
 ·simp [Oper.about,hop,resolve,Target.leads,Sem.run_pure]
 ·rw [Oper.semAt_plain F _ _ (by rw [hop];intro c hc';cases hc')]
  simp [execOp,hop,resolve,invoke,builtin,hs,hx,hrun,Result.andThen]
  exact hK' _ _ hK
def mapSz(w:World)(g:Nat):Nat:=match w.heap[g]? with|some (.map en _)=>en.size|_=>0
theorem mapSz_is{w:World}{g:Nat}{es:List (Nat × Nat)}(h:MapI w g es):mapSz w g=es.length:=by
 obtain⟨en,cl,h1,h2⟩:=h
 unfold mapSz
 rw [h1]
 have:=congrArg List.length h2
 simpa using this
def slLen:Value→Nat
 | .slice _ n _=>n
 | _=>0
theorem mapI_new(w:World):MapI (w.alloc (.map #[] 0)) w.heap.size []:=⟨#[],0,heap_alloc_new w _,rfl⟩
theorem MapI.below{w w':World}{m:Nat}{es:List (Nat × Nat)}(h:MapI w m es)(hb:Below w.heap.size w w'):MapI w' m es:=h.kept (hb.block m h.lt)
theorem QuI.notMap{w:World}{base m:Nat}{v:Value}{zs:List Nat}{es:List (Nat × Nat)}(h:QuI w base v zs)(hm:MapI w m es){k:Nat}(hk:some k=v.ownBlock):k≠m:=by
 obtain⟨g,off,cap,rfl,h1,h2,cur,h3,h4⟩:=h
 obtain⟨en,cl,h5,_⟩:=hm
 have:k=g:=by simpa [Value.ownBlock]using hk
 subst this
 intro e
 subst e
 rw [h3]at h5
 cases h5
theorem max_dif(a b:Nat)(_ha:a≤100)(_hb:b≤100):max ((a:Int)+1-b) ((b:Int)-a-1)=(dif a b:Int):=by
 unfold dif
 omega
theorem run_cut{w:World}{g off n cap:Nat}(_hc:n+1≤cap):(Instr.sliceAt 45 (.slice (some ⟨g,off,none⟩) (n+1) cap) (some (.int .i64 1)) none none).run Tryz.prog w = .ok (.slice (if cap=1 then some ⟨g,off,none⟩else some ⟨g,off+1,none⟩) n (cap-1)) w:=by
 have h1:(Instr.sliceBounds true (n+1) cap (some (.int .i64 1)) none none).run Tryz.prog w = .ok (1,n+1,cap) w:=by
  simp [Instr.sliceBounds,Instr.sliceBound,asIntOf,Sem.run_pure]
  intro h
  omega
 have hadd:(⟨g,off,none⟩:Addr).add 1=⟨g,off+1,none⟩:=rfl
 simp [Instr.sliceAt,Instr.slice,run_underlying ul45,h1,sizeOf,typeInfo,i3i,i3s,Sem.run_bind,Sem.run_pure,hadd]
theorem QuI.cut{w:World}{base x:Nat}{v:Value}{zs:List Nat}(h:QuI w base v (x :: zs)):∃g off cap o9 c9,v = .slice (some ⟨g,off,none⟩) (zs.length+1) cap∧w.cell? ⟨g,off,none⟩=some (.int .i64 (x:Int)) ∧
  (Instr.sliceAt 45 (.slice (some ⟨g,off,none⟩) (zs.length+1) cap) (some (.int .i64 1)) none none).run Tryz.prog w = .ok (.slice o9 zs.length c9) w∧QuI w base (.slice o9 zs.length c9) zs:=by
 obtain⟨g,off,cap,rfl,h1,h2,h3,h4⟩:=h.head
 refine⟨g,off,cap,_,_,rfl,h2,run_cut h1,?_⟩
 by_cases hc:cap=1
 ·subst hc
  rw [if_pos rfl]
  exact h4 rfl
 ·rw [if_neg hc]
  exact h3
set_option maxRecDepth 100000 in
set_option maxHeartbeats 8000000 in
theorem period_calls(w:World)(v:Value)(n:Nat)(Q:Nat→Nat→Rat)(i:Int)(hm:MtC w v (tabW n n Q))(h1:1≤n)(h8:n≤8)(hb:firstBad (tabW n n Q) n n=false)(hQ:∀i j,i<n→j<n→RatLe (Q i j) 2000)(hpos:∀i j,i<n→j<n→0≤sgnR (Q i j))(htab:Pow10 w) :
  CallsIn Fence.wide 0 Tryz.prog 47 #[v,.int .i64 i] w fun e w'=>∃p:Nat,e = .returned (.tuple #[.int .i64 (p:Int),.int .i64 (oaE (ldW (edQ Q) n) n i)])∧(oaE (ldW (edQ Q) n) n i=0→p=rp (edP Q) n i.toNat (2*n*n))∧(oaE (ldW (edQ Q) n) n i≠0→p=0)∧Below w.heap.size w w':=by
 have HM:=Hid.intro hm
 have HT:=Hid.intro htab
 have HQ:=Hid.intro hQ
 have HFB:=Hid.intro hb
 have HPos:=Hid.intro hpos
 obtain⟨_,rv,⟨om,cm,rfl,_,htop⟩,_⟩:=hm
 rw [tabW_len]at HM htop ⊢
 obtain⟨am,rfl,ham,hrvs0⟩:=htop (by omega)
 have hrvs:∀x,x<n→w.cell? (am.add x)=some (rv x):=hrvs0
 clear htab hQ hb hpos htop hrvs0
 obtain⟨E,hE⟩:∃E,oaE (ldW (edQ Q) n) n i=E:=⟨_,rfl⟩
 rw [hE]
 have HE:=Hid.intro hE
 clear hE
 refine callsIn_of_wp Tryz.func47 rfl trivial ?_ rfl
 simp only [Tryz.ntmps47,List.size_toArray,List.length_cons,List.length_nil,Nat.reduceAdd,Nat.reduceSub,Array.replicate_succ,Array.replicate_zero,List.push_toArray,List.append_toArray,List.nil_append,List.cons_append]
 gi_wp2_with (gi_at_call 77;refine stop ?_)
 unfold Stop
 refine(openAt_calls w _ n Q i HM.out h1 h8 HFB.out HQ.out HT.out).mono ?_
 rw [HE.out]
 rintro e w1 ⟨vr,rfl,hok,hB1⟩
 have HOK:=Hid.intro hok
 have HB1:=Hid.intro hB1
 clear hok hB1
 by_cases hE0:E=0
 ·obtain⟨g,rfl,hg,hch⟩:=HOK.out hE0
  have hE:=HE.out
  rw [hE0]at hE
  unfold oaE at hE
  by_cases hi:0≤i∧i<(n:Int)
  ·rw [if_pos hi]at hE
   obtain⟨k,rfl⟩:∃k:Nat,i=(k:Int):=⟨i.toNat,by omega⟩
   rw [Int.toNat_natCast]at hE
   have hkn:k<n:=by omega
   have hclo:cloB (ldW (edQ Q) n) k n=true:=by
    cases hc:cloB (ldW (edQ Q) n) k n with
    | true=>rfl
    | false=>rw [hc]at hE;cases hE
   have HClo:=Hid.intro hclo
   have HCH:=Hid.intro hch
   subst hE0
   clear hE hclo hch HOK hi
   have hmm:=@run_makeMap Tryz.prog
   obtain⟨W2,hU,hUm,hUg⟩:=update_iv (d:=0) (mapI_new w1) (y:=k) rfl
   have hU:(Instr.mapUpdate 159 (.map (some w1.heap.size)) (.int .i64 (k:Int)) (.int .i64 0)).run Tryz.prog (w1.alloc (.map #[] 0)) = .ok () W2:=hU
   have hb2:Below w1.heap.size w1 W2:=((Below.refl w1.heap.size w1).alloc (Nat.le_refl _) _).grown hUg (by simp) fun k hk=>by
    have:k=w1.heap.size:=by simpa using hk.symm
    omega
   have hUm:MapI W2 w1.heap.size [(k,0)]:=hUm
   have hs2:w1.heap.size<W2.heap.size:=MapI.lt hUm
   have hq2:QuI (W2.alloc (.cells #[.int .i64 (k:Int)] 3)) w1.heap.size (.slice (some ⟨W2.heap.size,0,none⟩) 1 1) [k]:=QuI.one W2 _ (by omega) k
   have hb3:Below w1.heap.size w1 (W2.alloc (.cells #[.int .i64 (k:Int)] 3)):=hb2.trans ((alloc_below W2 _).mono hb2.size)
   have hm3:MapI (W2.alloc (.cells #[.int .i64 (k:Int)] 3)) w1.heap.size [(k,0)]:=MapI.below hUm (alloc_below W2 _)
   have hp3:PerI (edP Q) n k [(k,0)] [] [k] (fun x _=>x∈([]:List Nat)) 0:=(PerI.start hkn).mono (fun _ _ h _=>by cases h)
   gi_wp2
   clear hU hmm
   generalize W2.alloc (.cells #[.int .i64 (k:Int)] 3)=W3 at hq2 hb3 hm3 ⊢
   obtain⟨g2,hg2⟩:∃g,W2.heap.size=g:=⟨_,rfl⟩
   rw [hg2]at hq2
   rw [hg2]
   obtain⟨gm,hgm⟩:∃g,w1.heap.size=g:=⟨_,rfl⟩
   rw [hgm]at hm3 hq2 hb3
   rw [hgm]
   have HGm:=Hid.intro hgm
   have HQ3:=Hid.intro hq2
   have HM3:=Hid.intro hm3
   have HB3:=Hid.intro hb3
   have HP3:=Hid.intro hp3
   clear hq2 hb3 hm3 hb2 hUm hUg hs2 hg2 hgm hp3
   gi_loopw [9,10] (fun x9 x10 wr=>∃(es:List (Nat × Nat)) (pr q:List Nat) (per:Nat),x10 = .int .i64 (per:Int)∧per≤100∧Hid (PerI (edP Q) n k es pr q (fun x _=>x∈pr) per)∧Hid (MapI wr gm es)∧Hid (QuI wr gm x9 q)∧Hid (Below gm w1 wr)) (fun x _ wr=>2*(n-mapSz wr gm)+slLen x)
   case atStart=>exact⟨[(k,0)],[],[k],0,rfl,by omega,HP3,HM3,HQ3,HB3⟩
   case round=>
    obtain⟨wo,hwo⟩:∃wo,wo=wr:=⟨_,rfl⟩
    subst hwo
    obtain⟨es,pr,q,per,rfl,hper,HP,HM',HQu,HB⟩:=hrel
    clear HQ3 HM3 HB3 HP3
    cases q with
    | nil=>
     obtain⟨gq,off,cap,rfl,_,_,_⟩:=HQu.out
     have HR:Hid (per=rp (edP Q) n k (2*n*n)):=Hid.intro (HP.out.period hkn (by have:2*n*1≤2*n*n:=Nat.mul_le_mul_left _ h1;omega) (closed_back hkn HClo.out))
     have HB9:=Hid.intro (HB1.out.trans ((show Below w1.heap.size w1 wo by rw [HGm.out];exact HB.out).mono HB1.out.size))
     rw [List.length_nil]
     gi_wp2
     all_goals (first|go_returns|go_ret|go_end0)
     first|exact⟨per,rfl,fun _=>HR.out,fun h=>absurd rfl h,HB9.out⟩|exact⟨per,rfl,HR.out,HB9.out⟩
    | cons x q=>
     obtain⟨gq,off,cap,o9,c9,hv,hc0,hcut,hq9⟩:=HQu.out.cut
     subst hv
     have HQ9:=Hid.intro hq9
     clear hq9
     have hxn:x<n:=HP.out.lt x (by simp)
     have hpos:(0:Int)<((q.length+1:Nat):Int):=by omega
     have HP1:=Hid.intro HP.out.next
     have HBw:Hid (Below w.heap.size w wo):=Hid.intro (HB1.out.trans ((show Below w1.heap.size w1 wo by rw [HGm.out];exact HB.out).mono HB1.out.size))
     have ych:=(HCH.out.below (show Below w1.heap.size w1 wo by rw [HGm.out];exact HB.out)).top
     obtain⟨ax,cx,_,_,_,_,_,_,_,yrow,_,_⟩:=mtC_at (HM.out.below HBw.out) hxn (show 0<n by omega)
     gi_wp2
     have HPs:Hid (PerI (edP Q) n k es (pr ++ [x]) q (fun a b=>a∈pr∨(a=x∧b<0)) per):=Hid.intro (HP1.out.mono fun a b h _=>h.elim id (fun h=>absurd h.2 (Nat.not_lt_zero _)))
     clear hcut hc0 HP1 ych
     gi_loopw [9,10,48] (fun x9 x10 x48 wi=>∃(es2:List (Nat × Nat)) (q2:List Nat) (per2 j:Nat),x48 = .int .i64 (j:Int)∧j≤n∧x10 = .int .i64 (per2:Int)∧per2≤100∧es.length≤es2.length∧Hid (PerI (edP Q) n k es2 (pr ++ [x]) q2 (fun a b=>a∈pr∨(a=x∧b<j)) per2)∧Hid (MapI wi gm es2)∧Hid (QuI wi gm x9 q2)∧Hid (Below gm w1 wi)) (fun _ _ x _=>n-(intOf x).toNat)
     case atStart=>exact⟨es,q,per,0,rfl,by omega,rfl,hper,Nat.le_refl _,HPs,HM',HQ9,HB⟩
     case round=>
      obtain⟨es2,q2,per2,j,rfl,hj,rfl,hper2,hes,HPj,HMj,HQj,HBj⟩:=hrel
      clear HPs
      by_cases hjn:j<n
      ·have HBv:Hid (Below w.heap.size w wr):=Hid.intro (HB1.out.trans ((show Below w1.heap.size w1 wr by rw [HGm.out];exact HBj.out).mono HB1.out.size))
       obtain⟨ai,ci,s1,o1,k1,c1,o2,k2,c2,z0,x2,hq1⟩:=mtC_at (HM.out.below HBv.out) hxn hjn
       obtain⟨gq2,off2,cap2,hv2,_⟩:=id HQj.out
       subst hv2
       have z1:wr.cell? (am.add x)=some (.slice (some ax) n cx):=by
        have y:=(HBv.out.cell (p:=am.add x) (by rw [add_block];exact ham)).trans (hrvs x hxn)
        have y2:=(HBw.out.cell (p:=am.add x) (by rw [add_block];exact ham)).trans (hrvs x hxn)
        rw [y,←y2,yrow]
       rw [z0]at z1
       injection z1 with z1
       injection z1 with z1 _ _
       injection z1 with z1
       subst z1
       have y0:wr.cell? (ai.add (j*3))=some (.bool s1):=by have:=x2 0 _ rfl;rwa [Addr.add_zero']at this
       have y1:wr.cell? ⟨(ai.add (j*3)).block,(ai.add (j*3)).off+1,none⟩=some (.slice o1 k1 c1):=x2 1 _ rfl
       have y2:wr.cell? ⟨(ai.add (j*3)).block,(ai.add (j*3)).off+2,none⟩=some (.slice o2 k2 c2):=x2 2 _ rfl
       have HRq:=Hid.intro hq1
       clear x2 hq1 z0
       obtain⟨W7,hW7⟩:∃W,W=wr.alloc (Obj.cells #[Value.bool s1,Value.slice o1 k1 c1,Value.slice o2 k2 c2] 27):=⟨_,rfl⟩
       have hb7:Below wr.heap.size wr W7:=by rw [hW7];exact alloc_below _ _
       have HRq7:=Hid.intro (HRq.out.below hb7)
       have HM7:=Hid.intro (MapI.below HMj.out hb7)
       have HQ7:=Hid.intro (HQj.out.below hb7)
       have HB7:=Hid.intro (HBj.out.trans (hb7.mono (by have:=HBj.out.size;have:=HGm.out;omega)))
       clear hb7 HRq
       gi_wp2_with (gi_at_call 25;refine stop ?_)
       unfold Stop
       rw [←hW7]
       clear hW7 y0 y1 y2
       refine(sign_calls W7 _ (Q x j) HRq7.out).mono ?_
       rintro e w2 ⟨rfl,hB2⟩
       have HM2:=Hid.intro (MapI.below HM7.out hB2)
       have HQ2:=Hid.intro (HQ7.out.below hB2)
       have HB2:=Hid.intro (HB7.out.trans (hB2.mono (by have:=HB7.out.size;have:=HGm.out;omega)))
       clear hB2 HM7 HQ7 HB7 HRq7 HMj HQj HBj HBv
       by_cases hs0:sgnR (Q x j)=0
       ·have HPn:Hid (PerI (edP Q) n k es2 (pr ++ [x]) q2 (fun a b=>a∈pr∨(a=x∧b<j+1)) per2):=Hid.intro (HPj.out.mono fun a b h he=>by
         rcases h with h|⟨rfl,hb⟩
         ·exact .inl h
         ·rcases Nat.lt_or_ge b j with hbj|hbj
          ·exact .inr ⟨rfl,hbj⟩
          ·have:b=j:=by omega
           subst this
           have:=he.2.2
           unfold edP at this
           rw [hs0]at this
           exact absurd this (by decide))
        rw [hs0]
        clear hs0
        gi_wp2
        exact⟨⟨es2,q2,per2,j+1,by go_num,by omega,rfl,hper2,hes,HPn,HM2,HQ2,HB2⟩,by simp only [intOf];omega⟩
       ·have hsp:=HPos.out x j hxn hjn
        have hE:EdN (edP Q) n x j:=⟨hxn,hjn,by unfold edP;exact decide_eq_true (by omega)⟩
        have HEd:=Hid.intro hE
        obtain⟨sg,hsg⟩:∃s,sgnR (Q x j)=s:=⟨_,rfl⟩
        rw [hsg]at hs0 ⊢
        clear hE hsp hsg
        have hkx:=HPj.out.known (x:=x) (by simp)
        obtain⟨dx,hdx,hdl⟩:=hkx
        have hdx8:dx≤8:=by have:=HPj.out.len;omega
        cases hl:lookI es2 j with
        | none=>
         have h14:=look_iv_not HM2.out hl true
         have h16:=look_iv HM2.out hdx false
         obtain⟨W3',hU,hUm,hUg⟩:=update_iv HM2.out (y:=j) (d:=dx+1) hl
         have hU:(Instr.mapUpdate 159 (.map (some gm)) (.int .i64 (j:Int)) (.int .i64 ((dx:Int)+1))).run Tryz.prog w2 = .ok () W3':=hU
         simp only [cond_true,cond_false]at h14 h16
         have HP3:=Hid.intro (HPj.out.new hdx hl HEd.out)
         have hdy:lookI (es2 ++ [(j,dx+1)]) j=some (dx+1):=by rw [lookI_app,hl,if_pos rfl];rfl
         have hdx3:lookI (es2 ++ [(j,dx+1)]) x=some dx:=by rw [lookI_app,hdx];rfl
         have HB3':=Hid.intro (HB2.out.grown hUg (by have:=HB2.out.size;have:=HGm.out;omega) fun k hk=>by
          have:k=gm:=by simpa using hk.symm
          omega)
         have HQ3':=Hid.intro (HQ2.out.eqB fun k hk=>hUg.block k (HQ2.out.lt hk) (fun e=>(HQ2.out.notMap HM2.out hk) (by simpa using e)))
         have hb8:Below W3'.heap.size W3' (W3'.alloc (.cells #[.int .i64 (j:Int)] 3)):=alloc_below _ _
         have hgs:gm≤W3'.heap.size:=by have:=HB3'.out.size;have:=HGm.out;omega
         obtain⟨v9,W4,hrun,hq4,hB4,hoth,_⟩:=run_append_q (HQ3'.out.below hb8) (Nat.le_trans hgs hb8.size) (by have:=HPj.out.len;have h3:=congrArg List.length HPj.out.keys;simp only [List.length_map,List.length_append]at h3;omega) j ⟨W3'.heap.size,0,none⟩ 1 (World.cell?_alloc_new _ _ _ _)
         have hm4:MapI W4 gm (es2 ++ [(j,dx+1)]):=(MapI.below hUm hb8).kept (hoth gm (MapI.lt (MapI.below hUm hb8)) (fun e=>(HQ3'.out.below hb8).notMap (MapI.below hUm hb8) e rfl))
         have HM4:=Hid.intro hm4
         have HQ4:=Hid.intro hq4
         have HB4:=Hid.intro ((HB3'.out.trans (hb8.mono hgs)).trans hB4)
         have hes3:es.length≤(es2 ++ [(j,dx+1)]).length:=by rw [List.length_append];omega
         obtain⟨es3,he3⟩:∃es3,es2 ++ [(j,dx+1)]=es3:=⟨_,rfl⟩
         obtain⟨q3,hq3⟩:∃q3,q2 ++ [j]=q3:=⟨_,rfl⟩
         rw [he3]at HP3 HM4 hdy hdx3 hes3
         rw [hq3]at HP3 HQ4
         have HRn:=Hid.intro hrun
         clear hm4 hq4 hB4 hoth hb8 HQ3' HB3' hrun he3 hq3 hUm hUg HQ2 HB2 HM2 hl hdx
         gi_wp2_with (gi_at_builtin;refine stop ?_)
         unfold Stop
         refine wpListIn_append_run rfl _ _ _ rfl _ _ _ 45 rfl rfl rfl HRn.out ?_
         clear h14 h16 hU
         obtain⟨dy,hdyE⟩:∃dy,dx+1=dy:=⟨_,rfl⟩
         rw [hdyE]at hdy
         have hdy9:dy≤9:=by omega
         clear hdyE
         gi_wp2
         have HBd:=Hid.intro (HB4.out.trans ((drew_below W4).mono (by have:=HB4.out.size;have:=HGm.out;omega)))
         have HMd:=Hid.intro (MapI.below HM4.out (drew_below W4))
         have HQd:=Hid.intro (HQ4.out.below (drew_below W4))
         have e1:=look_iv HMd.out hdx3 false
         have e2:=look_iv HMd.out hdy false
         simp only [cond_false]at e1 e2
         have HDx:=Hid.intro hdx3
         have HDy:=Hid.intro hdy
         clear hdx3 hdy HM4 HQ4 HB4
         gi_region
         rw [max_dif dx dy (by omega) (by omega)]
         have hdif:dif dx dy≤100:=by unfold dif;omega
         obtain⟨df,hdf⟩:∃df,dif dx dy=df:=⟨_,rfl⟩
         have HDf:=Hid.intro hdf
         rw [hdf]at hdif ⊢
         clear hdf e1 e2
         generalize W4.drew=W5 at HBd HMd HQd ⊢
         gi_wp2
         gi_loopw [16,17] (fun x16 x17 wi=>∃a b:Nat,x16 = .int .i64 (a:Int)∧x17 = .int .i64 (b:Int)∧a≤100∧b≤100∧Hid (Nat.gcd a b=Nat.gcd per2 df)∧Hid (Below W5.heap.size W5 wi)) (fun _ x _=>(intOf x).toNat)
         case atStart=>exact⟨per2,df,rfl,rfl,hper2,hdif,Hid.intro rfl,Hid.intro (Below.refl _ _)⟩
         case round=>
          obtain⟨a,b,rfl,rfl,ha,hb,HG,HBg⟩:=hrel
          by_cases h0:0<b
          ·have h0':¬((b:Int)=0):=by omega
           gi_wp2
           gi_region
           have HG2:Hid (Nat.gcd b (a%b)=Nat.gcd per2 df):=Hid.intro (by rw [←HG.out,Nat.gcd_comm a b,Nat.gcd_rec b a,Nat.gcd_comm])
           have hlt:=Nat.mod_lt a h0
           have hmd:(a:Int)%(b:Int)=((a%b:Nat):Int):=(Int.natCast_emod a b).symm
           have HBg2:=Hid.intro (HBg.out.trans ((drew_below wr).mono HBg.out.size))
           rw [hmd]
           clear hmd
           gi_wp2
           exact⟨⟨b,a%b,rfl,rfl,hb,by omega,HG2,HBg2⟩,by simp only [intOf];omega⟩
          ·obtain rfl:b=0:=by omega
           have HA:Hid (a=Nat.gcd per2 df):=Hid.intro (by rw [←HG.out,Nat.gcd_zero_right])
           have HPe:Hid (PerI (edP Q) n k es3 (pr ++ [x]) q3 (fun a b=>a∈pr∨(a=x∧b<j+1)) a):=Hid.intro (by
            rw [HA.out,←HDf.out]
            exact HP3.out.edge HDx.out HDy.out HEd.out fun a b h _=>by
             rcases h with h|⟨h,hb⟩
             ·exact .inl (.inl h)
             ·rcases Nat.lt_or_ge b j with hbj|hbj
              ·exact .inl (.inr ⟨h,hbj⟩)
              ·exact .inr ⟨h,by omega⟩)
           have HMe:=Hid.intro (MapI.below HMd.out HBg.out)
           have HQe:=Hid.intro (HQd.out.below HBg.out)
           have HBe:=Hid.intro (HBd.out.trans (HBg.out.mono (by have:=HBd.out.size;have:=HGm.out;omega)))
           clear HA HG HMd HQd HBd HBg
           gi_wp2
           exact⟨⟨es3,q3,a,j+1,by go_num,by omega,rfl,ha,hes3,HPe,HMe,HQe,HBe⟩,by simp only [intOf];omega⟩
        | some dy=>
         have h14:=look_iv HM2.out hl true
         simp only [cond_true]at h14
         have hdy9:dy≤9:=by have:=HPj.out.len;have:=HPj.out.small j dy hl;omega
         have hdy:=hl
         have hdx3:=hdx
         have hes3:=hes
         have HP3:=HPj
         have HM4:=HM2
         have HQ4:=HQ2
         have HB4:=HB2
         obtain⟨W4,hW4⟩:∃W,W=w2:=⟨_,rfl⟩
         obtain⟨es3,he3⟩:∃e,e=es2:=⟨_,rfl⟩
         obtain⟨q3,hq3⟩:∃e,e=q2:=⟨_,rfl⟩
         clear hdx hl HPj HM2 HQ2 HB2 hes
         gi_wp2
         subst hW4
         subst he3
         subst hq3
         clear h14
         have HBd:=Hid.intro (HB4.out.trans ((drew_below W4).mono (by have:=HB4.out.size;have:=HGm.out;omega)))
         have HMd:=Hid.intro (MapI.below HM4.out (drew_below W4))
         have HQd:=Hid.intro (HQ4.out.below (drew_below W4))
         have e1:=look_iv HMd.out hdx3 false
         have e2:=look_iv HMd.out hdy false
         simp only [cond_false]at e1 e2
         have HDx:=Hid.intro hdx3
         have HDy:=Hid.intro hdy
         clear hdx3 hdy HM4 HQ4 HB4
         gi_region
         rw [max_dif dx dy (by omega) (by omega)]
         have hdif:dif dx dy≤100:=by unfold dif;omega
         obtain⟨df,hdf⟩:∃df,dif dx dy=df:=⟨_,rfl⟩
         have HDf:=Hid.intro hdf
         rw [hdf]at hdif ⊢
         clear hdf e1 e2
         generalize W4.drew=W5 at HBd HMd HQd ⊢
         gi_wp2
         gi_loopw [16,17] (fun x16 x17 wi=>∃a b:Nat,x16 = .int .i64 (a:Int)∧x17 = .int .i64 (b:Int)∧a≤100∧b≤100∧Hid (Nat.gcd a b=Nat.gcd per2 df)∧Hid (Below W5.heap.size W5 wi)) (fun _ x _=>(intOf x).toNat)
         case atStart=>exact⟨per2,df,rfl,rfl,hper2,hdif,Hid.intro rfl,Hid.intro (Below.refl _ _)⟩
         case round=>
          obtain⟨a,b,rfl,rfl,ha,hb,HG,HBg⟩:=hrel
          by_cases h0:0<b
          ·have h0':¬((b:Int)=0):=by omega
           gi_wp2
           gi_region
           have HG2:Hid (Nat.gcd b (a%b)=Nat.gcd per2 df):=Hid.intro (by rw [←HG.out,Nat.gcd_comm a b,Nat.gcd_rec b a,Nat.gcd_comm])
           have hlt:=Nat.mod_lt a h0
           have hmd:(a:Int)%(b:Int)=((a%b:Nat):Int):=(Int.natCast_emod a b).symm
           have HBg2:=Hid.intro (HBg.out.trans ((drew_below wr).mono HBg.out.size))
           rw [hmd]
           clear hmd
           gi_wp2
           exact⟨⟨b,a%b,rfl,rfl,hb,by omega,HG2,HBg2⟩,by simp only [intOf];omega⟩
          ·obtain rfl:b=0:=by omega
           have HA:Hid (a=Nat.gcd per2 df):=Hid.intro (by rw [←HG.out,Nat.gcd_zero_right])
           have HPe:Hid (PerI (edP Q) n k es3 (pr ++ [x]) q3 (fun a b=>a∈pr∨(a=x∧b<j+1)) a):=Hid.intro (by
            rw [HA.out,←HDf.out]
            exact HP3.out.edge HDx.out HDy.out HEd.out fun a b h _=>by
             rcases h with h|⟨h,hb⟩
             ·exact .inl (.inl h)
             ·rcases Nat.lt_or_ge b j with hbj|hbj
              ·exact .inl (.inr ⟨h,hbj⟩)
              ·exact .inr ⟨h,by omega⟩)
           have HMe:=Hid.intro (MapI.below HMd.out HBg.out)
           have HQe:=Hid.intro (HQd.out.below HBg.out)
           have HBe:=Hid.intro (HBd.out.trans (HBg.out.mono (by have:=HBd.out.size;have:=HGm.out;omega)))
           clear HA HG HMd HQd HBd HBg
           gi_wp2
           exact⟨⟨es3,q3,a,j+1,by go_num,by omega,rfl,ha,hes3,HPe,HMe,HQe,HBe⟩,by simp only [intOf];omega⟩
      ·obtain rfl:n=j:=by omega
       have HPn:Hid (PerI (edP Q) n k es2 (pr ++ [x]) q2 (fun a _=>a∈pr ++ [x]) per2):=Hid.intro (HPj.out.mono fun a b h he=>by
        rcases List.mem_append.1 h with h|h
        ·exact .inl h
        ·exact .inr ⟨List.mem_singleton.1 h,he.2.1⟩)
       obtain⟨gq2,off2,cap2,hv2,_⟩:=id HQj.out
       subst hv2
       have hz1:=mapSz_is HM'.out
       have hz2:=mapSz_is HMj.out
       have hk1:=congrArg List.length HP.out.keys
       have hk2:=congrArg List.length HPj.out.keys
       have hl2:=HPj.out.len
       simp only [List.length_map,List.length_append,List.length_cons,List.length_nil]at hk1 hk2
       have HMeas:Hid (2*(n-mapSz wr gm)+q2.length<2*(n-mapSz wo gm)+(q.length+1)):=Hid.intro (by omega)
       clear hz1 hz2 hk1 hk2 hl2
       gi_wp2
       exact⟨⟨es2,pr ++ [x],q2,per2,rfl,hper2,HPn,HMj,HQj,HBj⟩,HMeas.out⟩
  ·rw [if_neg hi]at hE
   cases hE
 ·have HE1:=Hid.intro hE0
  gi_wp2
  all_goals (first|go_returns|go_ret|go_end0)
  exact⟨0,rfl,fun h=>absurd h HE1.out,fun _=>rfl,HB1.out⟩
end Go.Num
