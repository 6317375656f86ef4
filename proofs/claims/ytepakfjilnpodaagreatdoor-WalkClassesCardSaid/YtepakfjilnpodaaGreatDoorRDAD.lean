/-
  A region that draws its order: whatever order is drawn, the walk ends where the abstract machine's stages end. One operation of the abstract
  Conditions: see each statement.
-/
import Derived.Test.YtepakfjilnpodaaGreatDoorRDAC
import Derived.Laws.AppendOwn
import Derived.DefersIn
namespace Go.Eng
open Go.RowKit
section
variable {P:Program} {B:Nat} {w0:World} {G:Sett} {μ:Mu} {H:AH} {w:World}
theorem store_sound{β:Type}(h:Rep P B w0 G μ H w){t:TypeId}{i off n:Nat}{v:AV}{x y:Value}{k:AH→Option β}{r:β}(hs:sizeT P t=some n)(hn:v.cells.len=n)
  (hx:VR μ (.ptr i off) x) (hy:VR μ v y) (hk:H.storeCells i off v.cells k=some r) :
  ∃H' w',k H'=some r∧(Instr.storeAt t x y).run P w = .ok () w'∧Rep P B w0 G μ H' w'∧H'.next=H.next:=by
 obtain⟨fam,ver,e,cs,lw,cs',ho,hf,hl,hone,hp,hk'⟩:=storeCells_some hk
 obtain⟨b,N,hm,rfl⟩:=hx
 have hc:=hy.cells
 obtain⟨arr,te,hw,hfit,hrep⟩:=h.store ho hf hl hm hc hp
 have hst:=run_storeCells_at P b off te y.cells.toList 0 arr w hw (by simpa using hfit) (hc.allOne hone)
 simp only [Nat.add_zero]at hst
 have hsz:y.cells.size=n:=by rw [←Array.length_toList,hc.len,hn]
 refine⟨_,_,hk',?_,hrep,rfl⟩
 simp only [Instr.storeAt,Instr.sureAddr,Sem.run_bind,Sem.run_pure,Result.andThen_ok,storeVar,run_size hs,ne_eq,hsz,not_true_eq_false,if_false]
 exact hst
theorem mapUpdate_sound{β:Type}(h:Rep P B w0 G μ H w){t kt et:TypeId}{i:Nat}{key v es:AV}{x y z:Value}{k:AH→Option β}{r:β}(hu:P.underlying t=some (.map kt et))(hkf:keyFits P kt key=true)
  (ho:H.objs.get i=some (.map kt es)) (hx:VR μ (.map i) x) (hy:VR μ key y) (hz:VR μ v z) (hk:k (H.set i (.map kt (updE key v es)))=some r) :
  ∃H' w',k H'=some r∧(Instr.mapUpdate t x y z).run P w = .ok () w'∧Rep P B w0 G μ H' w'∧H'.next=H.next:=by
 obtain⟨b,N,hm,rfl⟩:=hx
 obtain⟨hB,en,cl,hw,hER⟩:=h.map _ _ _ _ _ ho hm
 obtain⟨res,hf,hfound⟩:=findKey_run hkf hy w hER
 have hck:=checkKey_run hkf hy false w
 have hset:∀o,(setObj b o).run P w = .ok () (withObjAt w b o):=fun o=>by simp [setObj,Sem.run,hw,withObjAt]
 have hget:(getObj b).run P w = .ok (.map en cl) w:=by simp [getObj,Sem.run,hw]
 have fits:∀(en':Array MapEntry) cl',ER P μ kt (updE key v es) en'.toList→Fits P G.res μ (.map kt (updE key v es)) (.map en' cl') N:=by
  intro en' cl' hE
  exact⟨(by intro _ he;cases he),(by intro _ _ _ he;cases he),(by intro _ _ _ _ he;cases he),(by intro kt' es' he;cases he;exact⟨en',cl',rfl,hE⟩),(by intro _ _ _ _ _ _ _ _ _ he;cases he),(by intro _ he;cases he)⟩
 rcases hfound with⟨g1,rfl,g2⟩|⟨u,j,e,g1,rfl,g3,g4,g5,g6⟩
 ·refine⟨_,withObjAt w b (.map (en.push {key:=y,val:=z,born:=cl}) (cl+1)),hk,?_,h.setObj ho hm hB (by simp) (by simp) (by simp) (fits _ _ (by simpa using g2 v z cl hz)),rfl⟩
  simp only [Instr.mapUpdate,Sem.run_bind,run_underlying hu,Result.andThen_ok,hget,hck,hf,hset]
 ·have hkey:((en[0+j]?).map (·.key)).getD y=y:=by
   have:en[j]? = some e:=by simpa using g3
   simp [this,g5]
  have hstay:(Instr.keyThatStays y y).run P w = .ok y w:=by simp [Instr.keyThatStays,sameBits_self hkf hy]
  refine⟨_,withObjAt w b (.map (en.modify (0+j) fun e=>{e with key:=y,val:=z}) cl),hk,?_,h.setObj ho hm hB (by simp) (by simp) (by simp) (fits _ _ ?_),rfl⟩
  ·simp only [Instr.mapUpdate,Sem.run_bind,run_underlying hu,Result.andThen_ok,hget,hck,hf,hset,hkey,hstay]
  ·have:=g6 v z hz
   rw [Nat.zero_add,Array.toList_modify]
   exact this
theorem src_sound(h:Rep P B w0 G μ H w){x:AV}{y:Value}{esz n:Nat}{xs:AV}(hx:VR μ x y)
  (hs:srcOf H esz x=some (n,xs)) :
  ∃a c news,y = .slice a n c∧news.length=n*esz∧LR μ xs news∧(∀w',w'.heap=w.heap→(Builtin.firstCells esz n y).run P w' = .ok news.toArray w'):=by
 unfold srcOf at hs
 cases x with
 | sc q=>
  cases q with
  | nilSlice=>
   simp at hs
   obtain⟨rfl,rfl⟩:=hs
   have hy:y = .slice none 0 0:=hx
   exact⟨none,0,[],hy,by simp,rfl,fun w' _=>by subst hy;simp [Builtin.firstCells]⟩
  | _=>simp at hs
 | slc i o len cm ex es=>
  simp only at hs
  split at hs
  ·rename_i cs hc
   simp at hs
   obtain⟨rfl,rfl⟩:=hs
   obtain⟨b,N,c,hm,rfl,_⟩:=hx
   obtain⟨news,h1,h2,h3⟩:=h.load hc hm
   refine⟨_,c,news,rfl,h1,h2,fun w' hw' => ?_⟩
   have:=run_firstCells_some (P:=P) w' esz len ⟨b,o,none⟩ len c news h1 (fun j v q=>by
    have:=h3 j v q
    simpa [World.cell?,hw']using this)
   exact this
  ·simp at hs
 | _=>simp at hs
theorem Rep.loadAll(h:Rep P B w0 G μ H w){i fam ver lw b N tip:Nat}{e:TypeId}{cs:AV}(ho:H.objs.get i=some (.cells fam ver e cs))(hf:H.fams.get fam=some (tip,lw))(hl:lw≤ver)(hm:μ i=some (b,N)) :
  ∃xs:List Value,xs.length=cs.len∧LR μ cs xs∧∀j v,xs[j]? = some v→w.cell? ⟨b,j,none⟩=some v:=by
 obtain⟨arr,te,fz,hw,hN,hcN,hLR,_⟩:=h.cells _ _ _ _ _ _ _ _ _ ho hf hl hm
 refine⟨_,hLR.len,hLR,?_⟩
 intro j v hj
 rw [List.getElem?_take]at hj
 split at hj
 ·rw [cell?_of hw];simpa using hj
 ·simp at hj
theorem append_room_run{t u ty e e':TypeId}{inf:TypeInfo}(hut:P.underlying t=some (.slice e))(huu:P.underlying u=some (.slice e'))(hi:P.info? e=some inf){b o sLen sCap n c:Nat}{a:Option Addr}{news:List Value}{arr:Array Value}{te:TypeId}
  (hfirst:∀w',w'.heap=w.heap→(Builtin.firstCells inf.size n (.slice a n c)).run P w' = .ok news.toArray w') (hw:w.heap[b]? = some (.cells arr te (0,0))) (hroom:sLen+n≤sCap)
  (hfit:o+sLen*inf.size+news.length≤arr.size) (hone:∀v∈news,v.oneCell'=true) :
  (Builtin.append_ #[t,u] ty #[.slice (some ⟨b,o,none⟩) sLen sCap,.slice a n c]).run P w =
   .ok (.slice (some ⟨b,o,none⟩) (sLen+n) sCap) (w.setRow b (arr.toList.take (o+sLen*inf.size) ++ news ++ arr.toList.drop (o+sLen*inf.size+news.length)).toArray):=by
 have hf:=hfirst w rfl
 have hst:=run_storeCells_at P b (o+sLen*inf.size) te news 0 arr w hw (by simpa using hfit) hone
 simp only [Nat.add_zero]at hst
 simp [Builtin.append_,run_underlying hut,run_underlying huu,sizeOf,typeInfo,hi,Builtin.lenOf,hroom,hf,add_off,hst]
theorem append_grow_run{t u ty e e':TypeId}{inf:TypeInfo}{z:Value}(hut:P.underlying t=some (.slice e))(huu:P.underlying u=some (.slice e'))(hi:P.info? e=some inf)(hz:inf.zero=some z){sLen sCap n c:Nat}{a base:Option Addr}{olds news:List Value}
  (hfirst:∀w',w'.heap=w.heap→(Builtin.firstCells inf.size n (.slice a n c)).run P w' = .ok news.toArray w') (hold:∀w',w'.heap=w.heap→(Builtin.firstCells inf.size sLen (.slice base sLen sCap)).run P w' = .ok olds.toArray w')
  (hg:sCap<sLen+n) (hfit:4*(sLen+n+1)*(inf.bytes+1)≤1000000000) :
  ∃C,sLen+n≤C∧(Builtin.append_ #[t,u] ty #[.slice base sLen sCap,.slice a n c]).run P w =
   .ok (.slice (some ⟨w.heap.size,0,none⟩) (sLen+n) C) (({w with drawn:=w.drawn+1}:World).alloc (.cells (olds.toArray ++ news.toArray ++ Builtin.zeroCells z.cells (C-(sLen+n))) e)):=by
 refine⟨grownCap w (sLen+n) sCap e,Nat.le_add_right _ _,?_⟩
 have hn:¬(sLen+n≤sCap):=by omega
 have hbig:4*(sLen+n+1)≤4*(sLen+n+1)*(inf.bytes+1):=Nat.le_mul_of_pos_right _ (by omega)
 have h63':¬(9223372036854775807<((sLen:Int)+(n:Int))):=by omega
 have h1:Builtin.nextslicecap (sLen+n) sCap≤2*(sLen+n):=nextslicecap_le hg
 have h2:Builtin.nextslicecap (sLen+n) sCap*inf.bytes≤4*(sLen+n+1)*(inf.bytes+1):=Nat.mul_le_mul (by omega) (by omega)
 have h48':¬(281474976710656<Builtin.nextslicecap (sLen+n) sCap*inf.bytes):=by omega
 have hf:=hfirst w.drew rfl
 have hfo:=hold w.drew rfl
 simp [Builtin.append_,run_underlying hut,run_underlying huu,sizeOf,typeInfo,zeroValue,hi,hz,Builtin.lenOf,hn,h63',h48',Question.forced,hf,hfo,newRow,grownCap]
 congr 2
 apply Array.ext'
 simp [List.append_assoc]
theorem append_sound{β:Type}(h:Rep P B w0 G μ H w){ts:Array TypeId}{ty:TypeId}{s x:AV}{sv xv:Value}{k:AV→AH→Option β}{r:β}(hs:VR μ s sv)(hx:VR μ x xv)(hk:opAppend P ts s x H k=some r) :
  ∃v H' w' μ' y,k v H'=some r∧(Builtin.append_ ts ty #[sv,xv]).run P w = .ok y w'∧Ext H μ H' μ'∧VR μ' v y∧Rep P B w0 G μ' H' w':=by
 unfold opAppend at hk
 split at hk
 ·rename_i t u hts
  have ht:ts=#[t,u]:=by apply Array.toList_inj.1;simpa using hts
  subst ht
  split at hk
  ·rename_i e e' hut huu
   split at hk
   ·rename_i inf za hi hza
    obtain⟨zi,z,hz1,hz2,hz3,_⟩:=zero_of μ hza
    rw [hi]at hz1;cases hz1
    cases hcond:(Nat.beq inf.size 0 || !Nat.beq za.cells.len inf.size || H.res.contains e)with
    | true=>simp only [hcond,cond_true]at hk;cases hk
    | false=>
     simp only [hcond,cond_false]at hk
     simp only [Bool.or_eq_false_iff,Bool.not_eq_false']at hcond
     have hesz:=(beq_false _ _).1 hcond.1.1
     have hzl:=(beq_iff _ _).1 hcond.1.2
     have hres:G.res.contains e=false:=by rw [←h.resd];exact hcond.2
     have hzs:z.cells.size=inf.size:=by rw [←Array.length_toList,hz3.cells.len,hzl]
     have hdrawn:Rep P B w0 G μ H {w with drawn:=w.drawn+1}:=h.drewN _
     have fresh:∀(cs:AV) (olds news:List Value) (C need:Nat) (k':Nat→AH→Option β),LR μ cs (olds ++ news)→(olds ++ news).length=need*inf.size→need≤C→H.newCells e cs k'=some r →
       ∃H',k' H.next H'=some r∧VR (μ.add H.next w.heap.size ((olds.toArray ++ news.toArray ++ Builtin.zeroCells z.cells (C-need)).size)) (.slc H.next 0 need need false inf.size) (.slice (some ⟨w.heap.size,0,none⟩) need C) ∧
        Ext H μ H' (μ.add H.next w.heap.size ((olds.toArray ++ news.toArray ++ Builtin.zeroCells z.cells (C-need)).size)) ∧
        Rep P B w0 G (μ.add H.next w.heap.size ((olds.toArray ++ news.toArray ++ Builtin.zeroCells z.cells (C-need)).size)) H' (({w with drawn:=w.drawn+1}:World).alloc (.cells (olds.toArray ++ news.toArray ++ Builtin.zeroCells z.cells (C-need)) e)):=by
      intro cs olds news C need k' hL hlen hC hkk
      rw [newCells_eq]at hkk
      have hun:=h.notYet (i:=H.next) (Nat.le_refl _)
      have hl:=hL.len
      have hsz:(olds.toArray ++ news.toArray ++ Builtin.zeroCells z.cells (C-need)).size=C*inf.size:=by
       simp only [Array.size_append,List.size_toArray,Builtin.zeroCells,Array.size_map,Array.size_range,hzs]
       rw [←List.length_append,hlen,←Nat.add_mul];congr 1;omega
      refine⟨_,hkk,⟨w.heap.size,_,C,if_pos rfl,rfl,hC,(fun q=>by cases q),by rw [hsz];omega,Nat.le_refl _⟩,.add hun (Nat.le_succ _),?_⟩
      have hob:∀o,(H.withCells e cs).objs.get H.next=some o→o = .cells H.next 0 e cs:=by
       intro o ho
       rcases Tr.get_set deep H.objs H.next (some (.cells H.next 0 e cs)) H.next o ho with⟨_,q⟩|⟨q,_⟩
       ·exact(Option.some.inj q).symm
       ·exact absurd rfl q
      refine(hdrawn.layCells e cs).bind (Nat.lt_succ_self _) hob hun ?_
      refine⟨(by intro _ he;cases he),(by intro _ _ _ he;cases he;exact hres),?_,(by intro _ _ he;cases he),(by intro _ _ _ _ _ _ _ _ _ he;cases he),(by intro _ he;cases he)⟩
      intro fam ver e2 cs2 he
      cases he
      refine⟨_,_,rfl,rfl,by rw [←hl,hlen,hsz];exact Nat.mul_le_mul_right _ hC,?_⟩
      have:((olds.toArray ++ news.toArray ++ Builtin.zeroCells z.cells (C-need)).toList).take cs.len=olds ++ news:=by
       simp only [Array.toList_append]
       rw [List.take_append_of_le_length (by simp at hl ⊢;omega),List.take_of_length_le (by simp at hl ⊢;omega)]
      rw [this];exact hL
     split at hk
     ·cases hk
     ·rename_i n xs hsrc
      obtain⟨a,c,news,rfl,hnl,hnL,hfirst⟩:=src_sound h hx hsrc
      split at hk
      ·have hsv:sv = .slice none 0 0:=hs
       subst hsv
       cases hn0:Nat.beq n 0 with
       | true=>
        simp only [hn0,cond_true]at hk
        have hn0:=(beq_iff _ _).1 hn0
        subst hn0
        simp [ok]at hk
        refine⟨_,H,w,μ,.slice none 0 0,hk,?_,.refl H μ,hs,h⟩
        have hf:=hfirst w rfl
        have hnil:news = []:=by apply List.length_eq_zero_iff.1;simpa using hnl
        subst hnil
        simp [Builtin.append_,run_underlying hut,run_underlying huu,sizeOf,typeInfo,hi,Builtin.lenOf,hf]
       | false=>
        simp only [hn0,cond_false]at hk
        have hn0:=(beq_false _ _).1 hn0
        cases hroom:Nat.ble (4*(n+1)*(inf.bytes+1)) 1000000000 with
        | false=>rw [hroom]at hk;cases hk
        | true=>
         rw [hroom]at hk
         have hroom:=Nat.le_of_ble_eq_true hroom
         simp only [cond_true]at hk
         obtain⟨C,hC,hrun⟩:=append_grow_run (w:=w) (ty:=ty) (sLen:=0) (sCap:=0) (base:=none) (olds:=[]) hut huu hi hz2 hfirst (fun w' _=>by simp [Builtin.firstCells]) (by omega) (by simpa using hroom)
         obtain⟨H',g1,g2,g3,g4⟩:=fresh xs [] news C n _ hnL hnl (by omega) hk
         simp only [Nat.zero_add]at hrun
         simp only [ok,AV.force_eq]at g1
         exact⟨_,H',_,_,_,g1,hrun,g3,g2,g4⟩
      ·rename_i i o len cm ex esz'
       obtain⟨b,N,cp,hm,rfl,hcp1,hcp2,hcp3,hcp4⟩:=hs
       cases hee:Nat.beq inf.size esz' with
       | false=>rw [hee]at hk;cases hk
       | true=>
        rw [hee]at hk
        have hee:=(beq_iff _ _).1 hee
        subst hee
        simp only [cond_true]at hk
        cases hn0:Nat.beq n 0 with
        | true=>
         rw [hn0]at hk
         have hn0:=(beq_iff _ _).1 hn0
         subst hn0
         simp [ok]at hk
         refine⟨_,H,w,μ,.slice (some ⟨b,o,none⟩) len cp,hk,?_,.refl H μ,⟨b,N,cp,hm,rfl,hcp1,hcp2,hcp3,hcp4⟩,h⟩
         have hf:=hfirst w rfl
         have hnil:news = []:=by apply List.length_eq_zero_iff.1;simpa using hnl
         subst hnil
         have hle:len≤cp:=by omega
         simp [Builtin.append_,run_underlying hut,run_underlying huu,sizeOf,typeInfo,hi,Builtin.lenOf,hf,hle,storeCells]
        | false=>
         rw [hn0]at hk
         have hn0:=(beq_false _ _).1 hn0
         simp only [cond_false]at hk
         cases hcm:Nat.ble (len+n) cm with
         | true=>
          rw [hcm]at hk
          have hcm:=Nat.le_of_ble_eq_true hcm
          simp only [cond_true]at hk
          obtain⟨fam,ver,te,cs,lw,cs',ho,hf,hl,hone,hp,hk'⟩:=storeCells_some hk
          obtain⟨arr,te',hw,hfit,hrep⟩:=h.store ho hf hl hm hnL hp
          have hrun:=append_room_run (ty:=ty) (sCap:=cp) (o:=o) hut huu hi hfirst hw (show len+n≤cp by omega) hfit (hnL.allOne hone)
          simp only [ok,AV.force_eq]at hk'
          exact⟨_,_,_,μ,_,hk',hrun,.same μ rfl,⟨b,N,cp,hm,rfl,hcp1,hcp2,hcp3,hcm⟩,hrep⟩
         | false=>
          rw [hcm]at hk
          have hcm:cm<len+n:=by
           refine Decidable.byContradiction fun q => ?_
           rw [Nat.ble_eq_true_of_le (by omega)]at hcm;cases hcm
          simp only [cond_false]at hk
          cases hroom:Nat.ble (4*(len+n+1)*(inf.bytes+1)) 1000000000 with
          | false=>rw [hroom]at hk;cases hk
          | true=>
           rw [hroom]at hk
           have hroom:=Nat.le_of_ble_eq_true hroom
           simp only [cond_true]at hk
           cases ex with
           | true=>
            simp only [cond_true]at hk
            have hcc:=hcp2 rfl
            subst hcc
            split at hk
            ·rename_i old hold
             obtain⟨olds,hol,hoL,hoc⟩:=h.load hold hm
             have hof:∀w':World,w'.heap=w.heap→(Builtin.firstCells inf.size len (.slice (some ⟨b,o,none⟩) len cp)).run P w' = .ok olds.toArray w':=fun w' hw'=>
              run_firstCells_some (P:=P) w' inf.size len ⟨b,o,none⟩ len cp olds hol (fun j v q=>by
               have:=hoc j v q
               simpa [World.cell?,hw']using this)
             obtain⟨C,hC,hrun⟩:=append_grow_run (w:=w) (ty:=ty) hut huu hi hz2 hfirst hof hcm hroom
             obtain⟨H',g1,g2,g3,g4⟩:=fresh (old.app xs) olds news C (len+n) _ (LR.app hnL hoL) (by rw [List.length_append,hol,hnl,Nat.add_mul]) hC hk
             simp only [ok,AV.force_eq]at g1
             exact⟨_,H',_,_,_,g1,hrun,g3,g2,g4⟩
            ·cases hk
           | false=>
            simp only [cond_false]at hk
            split at hk
            ·rename_i f1 f2 f3 cs1 hlive
             cases hbb:(Nat.beq (o+len*inf.size) cs1.len && Nat.beq o 0)with
             | false=>rw [hbb]at hk;cases hk
             | true=>
              rw [hbb]at hk
              simp only [Bool.and_eq_true]at hbb
              have hb1:=(beq_iff _ _).1 hbb.1
              have hb2:=(beq_iff _ _).1 hbb.2
              subst hb2
              simp only [cond_true]at hk
              obtain⟨fam,ver,te,cs,lw,ho,hf,hl,hone,hk'⟩:=version_some hk
              obtain⟨ho',_⟩:=live_some hlive
              have hcs:cs1=cs:=by rw [ho]at ho';cases ho';rfl
              rw [hcs]at hb1
              have hun:=h.notYet (i:=H.next) (Nat.le_refl _)
              simp only [ok,AV.force_eq]at hk'
              by_cases hroomy:len+n≤cp
              ·have hNfit:cs.len+news.length≤N:=by
                rw [hnl,←hb1,Nat.zero_add,←Nat.add_mul]
                have:=Nat.mul_le_mul_right inf.size hroomy
                omega
               obtain⟨arr,te',hw,hsz,hrep⟩:=h.versionHere ho hf hl hm hnL hNfit
               have hrun:=append_room_run (ty:=ty) (sCap:=cp) (o:=0) hut huu hi hfirst hw hroomy (by rw [hb1,hsz];exact hNfit) (hnL.allOne hone)
               rw [hb1]at hrun
               exact⟨_,_,_,_,_,hk',hrun,.add hun (Nat.le_succ _),⟨b,N,cp,if_pos rfl,rfl,hroomy,(fun q=>by cases q),hcp3,Nat.le_refl _⟩,hrep⟩
              ·obtain⟨olds,hol,hoL,hoc⟩:=h.loadAll ho hf hl hm
               have hol':olds.length=len*inf.size:=by rw [hol,←hb1];omega
               have hof:∀w':World,w'.heap=w.heap→(Builtin.firstCells inf.size len (.slice (some ⟨b,0,none⟩) len cp)).run P w' = .ok olds.toArray w':=fun w' hw'=>
                run_firstCells_some (P:=P) w' inf.size len ⟨b,0,none⟩ len cp olds hol' (fun j v q=>by
                 have:=hoc j v q
                 rw [add_off,Nat.zero_add]
                 simpa [World.cell?,hw']using this)
               obtain⟨C,hC,hrun⟩:=append_grow_run (w:=w) (ty:=ty) hut huu hi hz2 hfirst hof (by omega) hroom
               have hL2:LR μ (cs.app xs) (olds ++ news):=LR.app hnL hoL
               have hlen2:(olds ++ news).length=(len+n)*inf.size:=by rw [List.length_append,hol',hnl,Nat.add_mul]
               have hsz:(olds.toArray ++ news.toArray ++ Builtin.zeroCells z.cells (C-(len+n))).size=C*inf.size:=by
                simp only [Array.size_append,List.size_toArray,Builtin.zeroCells,Array.size_map,Array.size_range,hzs]
                rw [←List.length_append,hlen2,←Nat.add_mul];congr 1;omega
               have hl2:=hL2.len
               have hob:∀q,(H.versioned fam ver lw te (cs.app xs)).objs.get H.next=some q→q = .cells fam (ver+1) te (cs.app xs):=by
                intro q hq
                rcases Tr.get_set deep H.objs H.next (some (.cells fam (ver+1) te (cs.app xs))) H.next q hq with⟨_,q'⟩|⟨q',_⟩
                ·exact(Option.some.inj q').symm
                ·exact absurd rfl q'
               refine⟨_,_,_,μ.add H.next w.heap.size (olds.toArray ++ news.toArray ++ Builtin.zeroCells z.cells (C-(len+n))).size,_,hk',hrun,.add hun (Nat.le_succ _),⟨w.heap.size,_,C,if_pos rfl,rfl,hC,(fun q=>by cases q),by rw [hsz];omega,Nat.le_refl _⟩,
                (hdrawn.layVersion ho hf (cs.app xs)).bind (Nat.lt_succ_self _) hob hun ⟨(by intro _ he;cases he),(by intro _ _ _ he;cases he;exact hres),?_,(by intro _ _ he;cases he),(by intro _ _ _ _ _ _ _ _ _ he;cases he),(by intro _ he;cases he)⟩⟩
               intro fam2 ver2 e2 cs2 he
               cases he
               refine⟨_,_,rfl,rfl,by rw [←hl2,hlen2,hsz];exact Nat.mul_le_mul_right _ hC,?_⟩
               have:((olds.toArray ++ news.toArray ++ Builtin.zeroCells z.cells (C-(len+n))).toList).take (cs.app xs).len=olds ++ news:=by
                simp only [Array.toList_append]
                rw [List.take_append_of_le_length (by simp at hl2 ⊢;omega),List.take_of_length_le (by simp at hl2 ⊢;omega)]
               rw [this];exact hL2
            ·cases hk
      ·cases hk
   ·cases hk
  ·cases hk
 ·cases hk
theorem copy_sound{β:Type}(h:Rep P B w0 G μ H w){ts:Array TypeId}{ty:TypeId}{s x:AV}{sv xv:Value}{k:AV→AH→Option β}{r:β}(hs:VR μ s sv)(hx:VR μ x xv)(hk:opCopy P ts s x H k=some r) :
  ∃v H' w' μ' y,k v H'=some r∧(Builtin.copy_ ts ty #[sv,xv]).run P w = .ok y w'∧Ext H μ H' μ'∧VR μ' v y∧Rep P B w0 G μ' H' w':=by
 unfold opCopy at hk
 split at hk
 ·rename_i t us hts
  have ht:ts[0]? = some t:=by rw [←Array.getElem?_toList,hts];rfl
  split at hk
  ·rename_i e hut
   split at hk
   ·rename_i inf hi
    split at hk
    ·rename_i i o len cm ex esz j p n cm' ex' esz'
     split at hk
     ·rename_i xs hc
      obtain⟨b,N,cp,hm,rfl,hcp1,hcp2,hcp3,hcp4⟩:=hs
      obtain⟨b',N',cp',hm',rfl,_,_,_,_⟩:=hx
      obtain⟨news,hnl,hnL,hnc⟩:=h.load hc hm'
      have hf:(Builtin.firstCells inf.size (Nat.min n len) (.slice (some ⟨b',p,none⟩) n cp')).run P w = .ok news.toArray w:=
       run_firstCells_some (P:=P) w inf.size (Nat.min n len) ⟨b',p,none⟩ n cp' news hnl (fun j v q=>hnc j v q)
      obtain⟨fam,ver,te,cs,lw,cs',ho,hff,hl,hone,hp,hk'⟩:=storeCells_some hk
      obtain⟨arr,te',hw,hfit,hrep⟩:=h.store ho hff hl hm hnL hp
      have hst:=run_storeCells_at P b o te' news 0 arr w hw (by simpa using hfit) (hnL.allOne hone)
      simp only [Nat.add_zero]at hst
      simp only [ok,AV.force_eq]at hk'
      refine⟨_,_,_,μ,goInt (Nat.min n len:Nat),hk',?_,.same μ rfl,?_,hrep⟩
      ·simp [Builtin.copy_,ht,run_underlying hut,sizeOf,typeInfo,hi,Builtin.lenOf,hf,hst]
      ·rfl
     ·cases hk
    ·cases hk
   ·cases hk
  ·cases hk
 ·cases hk
end
abbrev CAct:=_root_.Go.Act
def StillD(P:Program)(d:Deferred):Prop:=∃g cap,d.target = .fn (.func g) cap∧(∀w,(invoke d.target d.args).run P w = .ok (.enter g (d.args ++ cap)) w) ∧
 ∀w,CallsDIn Fence.wide 0 P g (d.args ++ cap) .returning w fun e u w'=>(∃v,e = .returned v)∧u = .returning∧w'.heap=w.heap∧Below w.heap.size w w'
def DR(P:Program)(μ:Mu):List Mark→List Deferred→Prop
 | [],l=>l = []
 | .loop i :: r,l=>∃b N t,l={target:=.collected b,args:=#[]} :: t∧μ i=some (b,N)∧DR P μ r t
 | .still :: r,l=>∃d t,l=d :: t∧StillD P d∧DR P μ r t
theorem DR.mono{P:Program}{μ ν:Mu}(h:μ.le ν):∀{ds:List Mark} {l:List Deferred},DR P μ ds l→DR P ν ds l
 | [],_,h'=>h'
 | .loop _ :: _,_,⟨b,N,t,e,hm,ht⟩=>⟨b,N,t,e,h _ _ hm,DR.mono h ht⟩
 | .still :: _,_,⟨d,t,e,hd,ht⟩=>⟨d,t,e,hd,DR.mono h ht⟩
def ActRel(P:Program)(μ:Mu)(a:Act)(c:CAct):Prop:=TR μ a.nt a.T c.tmps∧DR P μ a.ds c.defers
theorem ActRel.mono{P:Program}{μ ν:Mu}(h:μ.le ν){a:Act}{c:CAct}(ha:ActRel P μ a c):ActRel P ν a c:=⟨ha.1.mono h,ha.2.mono h⟩
def After(P:Program)(B:Nat)(w0:World)(G:Sett)(μ:Mu)(H:AH)(v:AV)(H':AH):Ending→World→Prop:=
 fun e w'=>∃x μ',e = .returned x∧Ext H μ H' μ'∧VR μ' v x∧Rep P B w0 G μ' H' w'
def StillOK(P:Program)(self:Cb):Prop:=
 ∀g,self.still g=true→(∃fn:Func,P.funcs[g]? = some fn∧fn.body.isSome=true) ∧
  ∀args w,CallsDIn Fence.wide 0 P g args .returning w fun e u w'=>(∃v,e = .returned v)∧u = .returning∧w'.heap=w.heap∧Below w.heap.size w w'
def CallsOK(P:Program)(B:Nat)(w0:World)(G:Sett)(call:FuncId→AV→AH→Option (AV × AH)):Prop:=
 ∀f args H v H',call f args H=some (v,H')→(∃fn:Func,P.funcs[f]? = some fn∧fn.body.isSome=true) ∧
  ∀μ w (xs:Array Value),Rep P B w0 G μ H w→LR μ args xs.toList→CallsIn Fence.wide 0 P f xs w (After P B w0 G μ H v H')
def CallOK(P:Program)(B:Nat)(w0:World)(G:Sett)(self:Cb):Prop:=
 StillOK P self∧CallsOK P B w0 G self.call
def RoundOK(P:Program)(B:Nat)(w0:World)(G:Sett)(self:Cb):Prop:=
 ∀l xs H v H',self.round l xs H=some (v,H')→∀μ w b N (ys:Array Value),Rep P B w0 G μ H w→μ l=some (b,N)→LR μ xs ys.toList →
  ∃L:Loop,w.heap[b]? = some (.loop L)∧ys.size=L.params.size ∧
   RoundIn Fence.wide 0 P b L.fn ((L.params.zip ys).foldl (fun tmps (t,a)=>tmps.setIfInBounds t a) L.tmps) L.assign L.body w (After P B w0 G μ H v H')
def NamesOK(P:Program):Prop:=∀(f:FuncId) (fn:Func),P.funcs[f]? = some fn→fn.body.isSome=true→(fn.name == "runtime.NumGoroutine")=false
def Fz:Option Nat→Fence
 | none=>Fence.wide
 | some l=>Fence.wide.inRound l
theorem Fz_fn(ro:Option Nat)(f:FuncId):(Fz ro).fn f:=by cases ro <;> exact trivial
theorem Fz_depth(ro:Option Nat):(Fz ro).depth.isSome=true→1≤0:=by cases ro <;> (intro h;cases h)
theorem Fz_calls{ro:Option Nat}{n:Nat}{P:Program}{f:FuncId}{args:Array Value}{w:World}{R:Ending→World→Prop}(h:CallsIn Fence.wide n P f args w R):CallsIn (Fz ro) n P f args w R:=by
 cases ro <;> exact h
theorem Fz_rounds{ro:Option Nat}{n:Nat}{P:Program}{l:Nat}{f:FuncId}{t:Array Value}{az bd:Code}{w:World}{R:Ending→World→Prop}(h:RoundIn Fence.wide n P l f t az bd w R):RoundIn (Fz ro) n P l f t az bd w R:=by
 cases ro <;> exact h
section
variable {P:Program} {B:Nat} {w0:World} {G:Sett} {μ:Mu} {H:AH} {w:World}
theorem env_rel(h:Rep P B w0 G μ H w){a:Act}{c:CAct}(ha:TR μ a.nt a.T c.tmps){x:Operand}{v:AV}(hx:a.env G x=some v):VR μ v (c.eval x):=by
 cases x with
 | tmp t=>exact ha.2 t v hx
 | const u=>exact ofVal_VR μ hx
 | global g=>
  simp only [Act.env]at hx
  cases hc:G.ids.contains g with
  | false=>rw [hc]at hx;cases hx
  | true=>
   rw [hc]at hx
   simp at hx;subst hx
   obtain⟨N,hN⟩:=h.glob g (by simpa using hc)
   exact⟨g,N,hN,rfl⟩
 | func f=>
  simp [Act.env]at hx;subst hx
  exact⟨#[],#[],rfl,rfl,rfl⟩
theorem TR.put{nt:Nat}{T:Tr AV}{tmps:Array Value}(h:TR μ nt T tmps){d:Nat}{v:AV}{x:Value}(hd:d<nt)(hv:VR μ v x):TR μ nt (Tr.set deep T d (some v)) (tmps.setIfInBounds d x):=by
 refine⟨by simp [h.1],?_⟩
 intro t u ht
 rcases Tr.get_set deep T d (some v) t u ht with⟨rfl,q⟩|⟨hne,q⟩
 ·cases q
  have:t<tmps.size:=by rw [h.1];exact hd
  simpa [this]using hv
 ·have:=h.2 t u q
  simpa [Array.getD_eq_getD_getElem?,Array.getElem?_setIfInBounds,Ne.symm hne]using this
theorem put_some{β:Type}{a:Act}{dst:Option Tmp}{v:AV}{k:Act→Option β}{r:β}(h:a.put dst v k=some r){c:CAct}(ha:ActRel P μ a c){x:Value}(hv:VR μ v x) :
  ∃a',k a'=some r∧ActRel P μ a' (c.put dst x)∧a'.nt=a.nt∧a'.ds=a.ds:=by
 cases dst with
 | none=>exact⟨a,h,ha,rfl,rfl⟩
 | some d=>
  simp only [Act.put]at h
  cases hd:Nat.blt d a.nt with
  | false=>rw [hd]at h;cases h
  | true=>
   rw [hd]at h
   simp only [cond_true,Tr.setK_eq]at h
   exact⟨_,h,⟨ha.1.put ((blt_iff _ _).1 hd) hv,ha.2⟩,rfl,rfl⟩
theorem bar_sound{β:Type}(h:Rep P B w0 G μ H w){ρ:Env}{ρc:Operand→Value}{o:Oper}(hρ:∀x∈o.op.operands,∀v,ρ x=some v→VR μ v (ρc x)){k:AV→AH→Option β}{r:β}(hk:barOf P ρ o.op H k=some r) :
  ∃v H' w' μ' x res,k v H'=some r∧(execOp ρc o).run P w = .ok res w'∧(res = .value x∨(res = .skip∧x=undef))∧Ext H μ H' μ'∧VR μ' v x∧Rep P B w0 G μ' H' w':=by
 obtain⟨dst,op,type,pos,after,guard⟩:=o
 simp only at hρ hk
 have upd:∀{t m x v},(op = .mapUpdate t m x v∨op = .insert t m x v)→(match ρ m,ρ x,ρ v,P.underlying t with
   | some (.map i),some key,some v,some (.map kt _)=>bif keyFits P kt key then
     match H.objs.get i with
     | some (.map kt' es)=>bif Nat.beq kt kt' then(updE key v es).force fun es=>H.withObj i (.map kt es) fun H=>k (.sc .undef) H else none
     | _=>none
    else none
   | _,_,_,_=>none)=some r→∃v' H' w' μ' y res,k v' H'=some r∧((do Instr.mapUpdate t (ρc m) (ρc x) (ρc v);pure Next.skip):Sem Next).run P w = .ok res w'∧(res = .value y∨(res = .skip∧y=undef))∧Ext H μ H' μ'∧VR μ' v' y∧Rep P B w0 G μ' H' w':=by
  intro t m x v hop hk
  have hmem:∀y,y=m∨y=x∨y=v→y∈op.operands:=by
   intro y hy;rcases hop with rfl|rfl <;> simpa [Op.operands]using hy
  split at hk
  ·rename_i i key u kt et hm hx hv hu
   cases hf:keyFits P kt key with
   | false=>rw [hf]at hk;cases hk
   | true=>
    rw [hf]at hk
    simp only [cond_true]at hk
    split at hk
    ·rename_i kt' es ho
     cases hkk:Nat.beq kt kt' with
     | false=>rw [hkk]at hk;cases hk
     | true=>
      rw [hkk]at hk
      have:=(beq_iff _ _).1 hkk
      subst this
      simp only [cond_true,AV.force_eq,withObj_eq]at hk
      obtain⟨H',w',g1,g2,g3,g4⟩:=mapUpdate_sound (k:=fun H=>k (.sc .undef) H) h hu hf ho (hρ m (hmem m (by simp)) _ hm) (hρ x (hmem x (by simp)) _ hx) (hρ v (hmem v (by simp)) _ hv) hk
      exact⟨_,H',w',μ,undef,.skip,g1,by simp [g2],.inr ⟨rfl,rfl⟩,.same μ g4,rfl,g3⟩
    ·cases hk
  ·cases hk
 cases op with
 | store t a x=>
  simp only [barOf]at hk
  split at hk
  ·rename_i i off v n ha hx hs
   cases hn:Nat.beq v.cells.len n with
   | false=>rw [hn]at hk;cases hk
   | true=>
    rw [hn]at hk
    simp only [cond_true]at hk
    obtain⟨H',w',g1,g2,g3,g4⟩:=store_sound h hs ((beq_iff _ _).1 hn) (hρ a (by simp [Op.operands]) _ ha) (hρ x (by simp [Op.operands]) _ hx) hk
    exact⟨_,H',w',μ,undef,.skip,g1,by simp [execOp,g2],.inr ⟨rfl,rfl⟩,.same μ g4,rfl,g3⟩
  ·cases hk
 | mapUpdate t m x v=>
  obtain⟨v',H',w',μ',y,res,g1,g2,g3⟩:=upd (.inl rfl) hk
  exact⟨v',H',w',μ',y,res,g1,g2,g3⟩
 | insert t m x v=>
  obtain⟨v',H',w',μ',y,res,g1,g2,g3⟩:=upd (.inr rfl) hk
  exact⟨v',H',w',μ',y,res,g1,g2,g3⟩
 | call c=>
  obtain⟨callee,args,argTypes⟩:=c
  cases callee with
  | builtin b=>
   cases b with
   | append=>
    simp only [barOf]at hk
    split at hk
    ·rename_i s x hargs
     split at hk
     ·rename_i sv xv hs hx
      have ha:args=#[s,x]:=by apply Array.toList_inj.1;simpa using hargs
      subst ha
      obtain⟨v,H',w',μ',y,g1,g2,g3,g4,g5⟩:=append_sound (ty:=type) h (hρ s (by simp [Op.operands,Call.operands]) _ hs) (hρ x (by simp [Op.operands,Call.operands]) _ hx) hk
      exact⟨v,H',w',μ',y,.value y,g1,by simp [execOp,resolve,invoke,builtin,g2],.inl rfl,g3,g4,g5⟩
     ·cases hk
    ·cases hk
   | copy=>
    simp only [barOf]at hk
    split at hk
    ·rename_i s x hargs
     split at hk
     ·rename_i sv xv hs hx
      have ha:args=#[s,x]:=by apply Array.toList_inj.1;simpa using hargs
      subst ha
      obtain⟨v,H',w',μ',y,g1,g2,g3,g4,g5⟩:=copy_sound (ty:=type) h (hρ s (by simp [Op.operands,Call.operands]) _ hs) (hρ x (by simp [Op.operands,Call.operands]) _ hx) hk
      exact⟨v,H',w',μ',y,.value y,g1,by simp [execOp,resolve,invoke,builtin,g2],.inl rfl,g3,g4,g5⟩
     ·cases hk
    ·cases hk
   | _=>simp [barOf]at hk
  | _=>simp [barOf]at hk
 | _=>simp [barOf]at hk
end
section
variable {P:Program} {B:Nat} {w0:World} {G:Sett} {μ:Mu} {H:AH} {w:World}
theorem allOf_app{a b:AV}{xs ys:Array Value}(h1:LR μ a xs.toList)(h2:LR μ b ys.toList):LR μ (a.app b) (xs ++ ys).toList:=by
 rw [Array.toList_append];exact LR.app h2 h1
theorem wpIn_of_run{o:Oper}{c:CAct}{ro:Option Nat}{K:CAct→World→Prop}{Q:Exit→CAct→World→Prop}{res:Next}{x:Value}{w':World}(hd:∀q,o.op ≠ .defer q)(hr:(execOp c.eval o).run P w = .ok res w')
  (hx:res = .value x∨(res = .skip∧x=undef)) (hK:K (c.put o.dst x) w'):o.wpIn (Fz ro) 0 P c w K Q:=by
 refine⟨fun f _=>Fz_fn ro f,?_⟩
 rw [Oper.semAt_eq _ _ _ hd,hr]
 rcases hx with rfl|⟨rfl,rfl⟩
 ·exact hK
 ·exact hK
theorem quiet_noDefer{ρ:Env}{op:Op}{v:AV}(h:quietOf P ρ op H=some v)(q:Call):op ≠ .defer q:=by
 rintro rfl;simp [quietOf]at h
theorem alloc_noDefer{ρ:Env}{op:Op}{v:Mk × (Nat→AV)}(h:allocOf P ρ op=some v)(q:Call):op ≠ .defer q:=by
 rintro rfl;simp [allocOf]at h
theorem bar_noDefer{β:Type}{ρ:Env}{op:Op}{k:AV→AH→Option β}{r:β}(h:barOf P ρ op H k=some r)(q:Call):op ≠ .defer q:=by
 rintro rfl;simp [barOf]at h
def AH.made(H:AH):Mk→AH
 | .cells e cs=>H.withCells e cs
 | .map kt=>H.withNew (.map kt .nil)
theorem made_get{m:Mk}{o:AObj}(h:(H.made m).objs.get H.next=some o):o=m.obj H.next:=by
 cases m with
 | cells e cs=>
  rcases Tr.get_set deep H.objs H.next (some (.cells H.next 0 e cs)) H.next o h with⟨_,q⟩|⟨q,_⟩
  ·exact(Option.some.inj q).symm
  ·exact absurd rfl q
 | map kt=>
  rcases Tr.get_set deep H.objs H.next (some (.map kt .nil)) H.next o h with⟨_,q⟩|⟨q,_⟩
  ·exact(Option.some.inj q).symm
  ·exact absurd rfl q
theorem made_next(m:Mk):(H.made m).next=H.next+1:=by cases m <;> rfl
theorem Rep.make(h:Rep P B w0 G μ H w){m:Mk}{obj:Obj}{N:Nat}(hfit:Fits P G.res μ (m.obj H.next) obj N):Rep P B w0 G (μ.add H.next w.heap.size N) (H.made m) (w.alloc obj):=by
 have h':Rep P B w0 G μ (H.made m) w:=by
  cases m with
  | cells e cs=>exact h.layCells e cs
  | map kt=>exact h.layObj _ (by simp)
 exact h'.bind (by rw [made_next];exact Nat.lt_succ_self _) (fun o ho=>made_get ho) (h.notYet (Nat.le_refl _)) hfit
theorem opOf_wp{β:Type}(h:Rep P B w0 G μ H w){ρ:Env}{c:CAct}{o:Oper}(hρ:∀x∈o.op.operands,∀v,ρ x=some v→VR μ v (c.eval x)){k:AV→AH→Option β}{r:β}(hk:opOf P ρ o H k=some r){ro:Option Nat}{K:CAct→World→Prop}{Q:Exit→CAct→World→Prop}
  (hK:∀v H' μ' x w',k v H'=some r→Ext H μ H' μ'→VR μ' v x→Rep P B w0 G μ' H' w'→K (c.put o.dst x) w'):o.wpIn (Fz ro) 0 P c w K Q:=by
 unfold opOf at hk
 cases hb:isBar o.op with
 | true=>
  rw [hb]at hk
  simp only [cond_true]at hk
  obtain⟨v,H',w',μ',x,res,g1,g2,g3,g4,g5,g6⟩:=bar_sound h hρ hk
  exact wpIn_of_run (bar_noDefer hk) g2 g3 (hK v H' μ' x w' g1 g4 g5 g6)
 | false=>
  rw [hb]at hk
  simp only [cond_false]at hk
  cases hal:isAlloc o.op with
  | true=>
   rw [hal]at hk
   simp only [cond_true]at hk
   split at hk
   ·rename_i e cs f hmk
    cases hbad:H.res.contains e with
    | true=>rw [hbad]at hk;cases hk
    | false=>
    rw [hbad]at hk
    simp only [cond_false]at hk
    obtain⟨obj,N,x,g1,g2,g3⟩:=alloc_sound (R:=G.res) hρ hmk (by rw [←h.resd];exact hbad) w
    rw [newCells_eq]at hk
    exact wpIn_of_run (alloc_noDefer hmk) g1 (.inl rfl) (hK _ _ _ x _ hk (.add (h.notYet (Nat.le_refl _)) (Nat.le_succ _)) (g3 _ _ (if_pos rfl)) (h.make (m:=.cells e cs) (g2 _)))
   ·rename_i kt f hmk
    obtain⟨obj,N,x,g1,g2,g3⟩:=alloc_sound (R:=G.res) hρ hmk rfl w
    rw [newObj_eq]at hk
    exact wpIn_of_run (alloc_noDefer hmk) g1 (.inl rfl) (hK _ _ _ x _ hk (.add (h.notYet (Nat.le_refl _)) (Nat.le_succ _)) (g3 _ _ (if_pos rfl)) (h.make (m:=.map kt) (g2 _)))
   ·cases hk
  | false=>
   rw [hal]at hk
   simp only [cond_false]at hk
   split at hk
   ·rename_i v hq
    obtain⟨x,g1,g2⟩:=quiet_sound h hρ hq
    have hk':k v H=some r:=by
     cases hp:plainOp o.op with
     | true=>rw [hp]at hk;exact hk
     | false=>rw [hp]at hk;simpa [ok]using hk
    exact wpIn_of_run (quiet_noDefer hq) g1 (.inl rfl) (hK v H μ x w hk' (.refl H μ) g2 h)
   ·cases hk
theorem stepE_wp{β:Type}{self:Cb}(hN:NamesOK P)(hC:CallOK P B w0 G self)(hR:RoundOK P B w0 G self)(h:Rep P B w0 G μ H w){ρ:Env}{c:CAct}{o:Oper}(hρ:∀x∈o.op.operands,∀v,ρ x=some v→VR μ v (c.eval x)){k:AV→AH→Option β}{r:β}
  (hk:stepE P self ρ o H k=some r) {ro:Option Nat} {K:CAct→World→Prop} {Q:Exit→CAct→World→Prop}
  (hK:∀v H' μ' x w',k v H'=some r→Ext H μ H' μ'→VR μ' v x→Rep P B w0 G μ' H' w'→K (c.put o.dst x) w'):o.wpIn (Fz ro) 0 P c w K Q:=by
 unfold stepE at hk
 split at hk
 ·rename_i f args at' hop
  have hd:∀q,o.op ≠ .defer q:=by intro q;rw [hop];simp
  have hsem:o.semAt (Fz ro).round c.eval=execOp c.eval o:=Oper.semAt_eq _ _ _ hd
  split at hk
  ·rename_i g fs cs xs hf hxs
   split at hk
   ·rename_i v H' hcall
    simp only [ok,AV.force_eq]at hk
    obtain⟨⟨fn,hfn,hbody⟩,hcalls⟩:=hC.2 _ _ _ _ _ hcall
    obtain⟨us,vs,hev,hus,hvs⟩:=hρ f (by rw [hop];simp [Op.operands,Call.operands]) _ hf
    have hargs:LR μ xs (args.map c.eval).toList:=by
     have:=allOf_LR (ρc:=c.eval) (fun x hx v hv=>hρ x (by rw [hop];simp [Op.operands,Call.operands];exact .inr (by simpa using hx)) v hv) hxs
     rw [Array.toList_map];exact this
    have hall:LR μ (fs.app (xs.app cs)) ((us ++ args.map c.eval) ++ vs).toList:=by
     rw [Array.append_assoc]
     exact allOf_app hus (allOf_app hargs hvs)
    have hrun:(execOp c.eval o).run P w = .ok (.enter g ((us ++ args.map c.eval) ++ vs)) w:=by
     have hbn:fn.body≠none:=by intro q;rw [q]at hbody;simp at hbody
     unfold execOp
     rw [hop]
     simp only [resolve,hev,Deferred.ofValue,Sem.run_bind,Sem.run_pure,Result.andThen_ok,invoke,callFunc,run_program,hfn,hN g fn hfn hbody,Bool.false_eq_true,if_false]
     have:fn.body.isNone=false:=by cases hq:fn.body <;> simp_all
     rw [this];rfl
    refine⟨fun f _=>Fz_fn ro f,?_⟩
    rw [hsem,hrun]
    exact⟨Fz_depth ro,Fz_calls ((hcalls μ w _ h hall).mono (fun e w' q=>by obtain⟨x,μ',he,g1,g2,g3⟩:=q;subst he;exact hK v H' μ' x w' hk g1 g2 g3))⟩
   ·cases hk
  ·rename_i l xs hf hxs
   split at hk
   ·rename_i v H' hround
    simp only [ok,AV.force_eq]at hk
    obtain⟨b,N,hm,hev⟩:=hρ f (by rw [hop];simp [Op.operands,Call.operands]) _ hf
    have hargs:LR μ xs (args.map c.eval).toList:=by
     have:=allOf_LR (ρc:=c.eval) (fun x hx v hv=>hρ x (by rw [hop];simp [Op.operands,Call.operands];exact .inr (by simpa using hx)) v hv) hxs
     rw [Array.toList_map];exact this
    obtain⟨L,hL,hsz,hrd⟩:=hR _ _ _ _ _ hround μ w b N (args.map c.eval) h hm hargs
    have hrun:(execOp c.eval o).run P w = .ok (.round b L.fn ((L.params.zip (args.map c.eval)).foldl (fun tmps (t,a)=>tmps.setIfInBounds t a) L.tmps) L.assign L.body) w:=by
     unfold execOp
     rw [hop]
     have hget:(Instr.getLoop b).run P w = .ok L w:=by simp [Instr.getLoop,getObj,Sem.run,hL]
     simp only [resolve,hev,Deferred.ofValue,Sem.run_bind,Sem.run_pure,Result.andThen_ok,invoke,Instr.yield,hget]
     have:¬((#[]:Array Value) ++ args.map c.eval).size≠L.params.size:=by simpa using hsz
     rw [if_neg this]
     simp
    refine⟨fun f _=>Fz_fn ro f,?_⟩
    rw [hsem,hrun]
    exact⟨Fz_depth ro,Fz_rounds (hrd.mono (fun e w' q=>by obtain⟨x,μ',he,g1,g2,g3⟩:=q;subst he;exact hK v H' μ' x w' hk g1 g2 g3))⟩
   ·cases hk
  ·cases hk
 ·exact opOf_wp h hρ hk hK
theorem wanted_rel{a:Act}{c:CAct}(ha:TR μ a.nt a.T c.tmps){ops:Array Oper}{o:Oper}{b:Bool}(hw:wantedA ops a o=some b):Region.wanted o (yielded ops c.tmps)=b:=by
 unfold wantedA at hw
 unfold Region.wanted
 split at hw
 ·rename_i hg;simp at hw;subst hw;rw [hg]
 ·rename_i j want hg
  rw [hg]
  simp only [yielded]
  split at hw
  ·rename_i hd;simp at hw;subst hw;rw [hd];simp
  ·rename_i d hd
   rw [hd]
   simp only [Option.bind_some]
   split at hw
   ·rename_i q hq
    simp at hw;subst hw
    have hv:c.tmps.getD d undef = .bool q:=ha.2 d _ hq
    have hlt:c.tmps[d]? = some (.bool q):=by
     rw [Array.getD_eq_getD_getElem?]at hv
     cases hcd:c.tmps[d]? with
     | none=>rw [hcd]at hv;simp [undef]at hv
     | some x=>rw [hcd]at hv;simpa using hv
    rw [hlt]
    simp [beqB_iff]
   ·rename_i hq
    simp at hw;subst hw
    have hv:c.tmps.getD d undef = .tuple #[]:=ha.2 d _ hq
    rw [Array.getD_eq_getD_getElem?]at hv
    cases hcd:c.tmps[d]? with
    | none=>simp
    | some x=>rw [hcd]at hv;simp at hv;subst hv;simp
   ·cases hw
theorem defers_sound{self:Cb}(hN:NamesOK P)(hS:StillOK P self){ρ:Env}{c:CAct}{o:Oper}(hρ:∀x∈o.op.operands,∀v,ρ x=some v→VR μ v (c.eval x))(h:defers self ρ o.op=true) :
  ∃d,(∀w,(execOp c.eval o).run P w = .ok (.defer d) w)∧StillD P d:=by
 unfold defers at h
 split at h
 ·rename_i f args at' hop
  split at h
  ·rename_i g fs cs hf
   simp only [Bool.and_eq_true]at h
   obtain⟨⟨fn,hfn,hbody⟩,hst⟩:=hS g h.2
   obtain⟨us,vs,hev,hus,hvs⟩:=hρ f (by rw [hop];simp [Op.operands,Call.operands]) _ hf
   refine⟨{target:=.fn (.func g) vs,args:=us ++ args.map c.eval},?_,g,vs,rfl,?_,fun w=>hst _ w⟩
   ·intro w
    unfold execOp
    rw [hop]
    simp only [resolve,hev,Deferred.ofValue,Sem.run_bind,Sem.run_pure,Result.andThen_ok]
   ·intro w
    have:fn.body.isNone=false:=by cases hq:fn.body <;> simp_all
    simp only [invoke,callFunc,Sem.run_bind,run_program,Result.andThen_ok,hfn,hN g fn hfn hbody,Bool.false_eq_true,if_false,this]
    rfl
  ·cases h
 ·cases h
theorem runOps_wp{self:Cb}(hN:NamesOK P)(hC:CallOK P B w0 G self)(hR:RoundOK P B w0 G self){ops:Array Oper}{top:Bool}{ro:Option Nat}(htop:top=true→ro=none){Q:Exit→CAct→World→Prop}:∀(l:List Nat) (a:Act) (H:AH) (c:CAct) (μ:Mu) (w:World) (a':Act) (H':AH),
  runOps P G self top ops l a H=some (a',H')→Rep P B w0 G μ H w→ActRel P μ a c→(∀c' μ' w',Ext H μ H' μ'→ActRel P μ' a' c'→Rep P B w0 G μ' H' w'→Q .normal c' w')→wpOpsIn (Fz ro) 0 P ops Q l c w
 | [],a,H,c,μ,w,a',H',hr,h,ha,hQ=>by
  simp [runOps]at hr
  obtain⟨rfl,rfl⟩:=hr
  exact hQ c μ w (.refl _ μ) ha h
 | i :: r,a,H,c,μ,w,a',H',hr,h,ha,hQ=>by
  simp only [runOps]at hr
  simp only [wpOpsIn]
  split at hr
  ·cases hr
  ·rename_i o ho
   rw [ho]
   simp only
   split at hr
   ·rename_i hw
    rw [wanted_rel ha.1 hw]
    simp only [if_true]
    cases hdf:top && defers self (a.env G) o.op with
    | true=>
     rw [hdf]at hr
     simp only [cond_true]at hr
     simp only [Bool.and_eq_true]at hdf
     have hro:=htop hdf.1
     subst hro
     obtain⟨d,hd1,hd2⟩:=defers_sound hN hC.1 (fun x _ v hv=>env_rel h ha.1 hv) hdf.2
     refine⟨fun f _=>Fz_fn none f,?_⟩
     rw [show Oper.semAt (Fz none).round c.eval o=execOp c.eval o from rfl,hd1 w,Oper.uponIn_defer]
     obtain⟨a1,g5,g6,_,_⟩:=put_some hr ha (x:=undef) rfl
     refine runOps_wp hN hC hR htop r _ H _ μ w a' H' g5 h ?_ hQ
     have e:({c with defers:=d :: c.defers}:CAct).put o.dst undef={c.put o.dst undef with defers:=d :: (c.put o.dst undef).defers}:=by
      cases o.dst <;> rfl
     rw [e]
     exact⟨g6.1,d,_,rfl,hd2,g6.2⟩
    | false=>
    rw [hdf]at hr
    simp only [cond_false]at hr
    refine stepE_wp hN hC hR h (fun x _ v hv=>env_rel h ha.1 hv) hr ?_
    intro v H1 μ1 x w1 g1 g2 g3 g4
    obtain⟨a1,g5,g6,_,_⟩:=put_some g1 (ha.mono g2.1) g3
    exact runOps_wp hN hC hR htop r a1 H1 _ μ1 w1 a' H' g5 g4 g6 (fun c' μ' w' q1 q2 q3=>hQ c' μ' w' (g2.trans q1) q2 q3)
   ·rename_i hw
    rw [wanted_rel ha.1 hw]
    simp only [Bool.false_eq_true,if_false]
    refine⟨fun f _=>Fz_fn ro f,?_⟩
    obtain⟨a1,g5,g6,_,_⟩:=put_some hr ha (x:=undef) rfl
    exact runOps_wp hN hC hR htop r a1 H _ μ w a' H' g5 h g6 hQ
   ·cases hr
end
theorem maskL_spec(bs:List Nat):∀(l:List Edge) (j:Nat),(maskL bs l).testBit j=true→∃e∈l,Region.binds .any e=true∧(j=e.on∨(bsAt bs e.on).testBit j=true)
 | [],j,h=>by simp [maskL]at h
 | e :: r,j,h=>by
  simp only [maskL]at h
  cases hb:Region.binds .any e with
  | false=>
   rw [hb]at h
   obtain⟨e',h1,h2⟩:=maskL_spec bs r j h
   exact⟨e',by simp [h1],h2⟩
  | true=>
   rw [hb]at h
   simp only [cond_true,Nat.testBit_or,Bool.or_eq_true]at h
   rcases h with (h|h)|h
   ·rw [Nat.testBit_two_pow]at h
    exact⟨e,by simp,hb,.inl (of_decide_eq_true h).symm⟩
   ·exact⟨e,by simp,hb,.inr h⟩
   ·obtain⟨e',h1,h2⟩:=maskL_spec bs r j h
    exact⟨e',by simp [h1],h2⟩
structure PlanOK(ops:Array Oper)(p:Plan):Prop where
 mask:∀i o,ops[i]? = some o→∀j,(bsAt p.bs i).testBit j=true→∃e∈o.after.toList,Region.binds .any e=true∧(j=e.on∨(bsAt p.bs e.on).testBit j=true)
 lower:∀i o,ops[i]? = some o→∀e∈o.after.toList,Region.binds .any e=true→e.on<i
 guard:∀i o j want,ops[i]? = some o→o.guard=some (j,want)→(bsAt p.bs i).testBit j=true
 dsts:∀(i j:Nat) (o q:Oper) (d:Tmp),ops[i]? = some o→ops[j]? = some q→o.dst=some d→q.dst=some d→i=j
 reads:∀(i j:Nat) (o q:Oper) (d:Tmp),ops[i]? = some o→ops[j]? = some q→q.dst=some d→d∈tmpsOf o→i=j∨(bsAt p.bs i).testBit j=true∨(bsAt p.bs j).testBit i=true
 bars:p.bars=barsOf ops
 chain:chained p.bs p.bars=true
theorem plan_ok{ops:Array Oper}{p:Plan}(h:planOf ops=some p):PlanOK ops p:=by
 unfold planOf at h
 simp only at h
 cases hc:((List.range ops.size).all (fun i=>maskOk ops (masks ops.toList []) i && guardOk ops (masks ops.toList []) i && (List.range ops.size).all fun j=>apartAt ops (masks ops.toList []) i j) && chained (masks ops.toList []) (barsOf ops))with
 | false=>rw [hc]at h;cases h
 | true=>
  rw [hc]at h
  simp only [cond_true,Option.some.injEq]at h
  subst h
  simp only [Bool.and_eq_true,List.all_eq_true,List.mem_range]at hc
  obtain⟨hall,hchain⟩:=hc
  have lt:∀{i:Nat} {o:Oper},ops[i]? = some o→i<ops.size:=fun q=>(Array.getElem?_eq_some_iff.1 q).1
  have mk:∀i o,ops[i]? = some o→bsAt (masks ops.toList []) i=maskL (masks ops.toList []) o.after.toList∧∀e∈o.after.toList,Region.binds .any e=true→e.on<i:=by
   intro i o ho
   have:=(hall i (lt ho)).1.1
   simp only [maskOk,ho,Bool.and_eq_true,List.all_eq_true,Bool.or_eq_true,Bool.not_eq_true']at this
   refine⟨(beq_iff _ _).1 this.1,fun e he hb => ?_⟩
   rcases this.2 e he with q|q
   ·rw [hb]at q;cases q
   ·exact(blt_iff _ _).1 q
  refine⟨?_,fun i o ho=>(mk i o ho).2,?_,?_,?_,rfl,hchain⟩
  ·intro i o ho j hj
   simp only at hj
   rw [(mk i o ho).1]at hj
   exact maskL_spec _ _ _ hj
  ·intro i o j want ho hg
   have:=(hall i (lt ho)).1.2
   simpa [guardOk,ho,hg]using this
  ·intro i j o q d ho hq hd hd'
   have:=(hall i (lt ho)).2 j (lt hq)
   simp only [apartAt,ho,hq,hd',hd,Bool.or_eq_true,Bool.and_eq_true,Bool.not_eq_true']at this
   rcases this with q|⟨q,_⟩
   ·exact(beq_iff _ _).1 q
   ·rw [(beq_iff d d).2 rfl]at q;cases q
  ·intro i j o q d ho hq hd' hmem
   have:=(hall i (lt ho)).2 j (lt hq)
   simp only [apartAt,ho,hq,hd',Bool.or_eq_true,Bool.and_eq_true,Bool.not_eq_true']at this
   rcases this with q|⟨_,(q|q)|q⟩
   ·exact .inl ((beq_iff _ _).1 q)
   ·have:(tmpsOf o).contains d=true:=by simpa using hmem
    rw [this]at q;cases q
   ·exact .inr (.inl q)
   ·exact .inr (.inr q)
theorem getV_cons_ne{j i:Nat}{x:AV × Option Nat}{r:Vals}(h:j≠i):getV ((j,x) :: r) i=getV r i:=by
 simp only [getV]
 rw [(beq_false j i).2 h];rfl
theorem getV_cons_eq{i:Nat}{x:AV × Option Nat}{r:Vals}:getV ((i,x) :: r) i=some x:=by
 simp only [getV]
 rw [(beq_iff i i).2 rfl];rfl
theorem writerOf_some{ops:Array Oper}{m:Nat}{t j:Nat}(h:writerOf ops m t=some j):j<ops.size∧m.testBit j=true∧∃o,ops[j]? = some o∧o.dst=some t:=by
 unfold writerOf at h
 have h1:=List.find?_some h
 have h2:=List.mem_of_find?_eq_some h
 simp only [Bool.and_eq_true]at h1
 refine⟨by simpa using h2,h1.1,?_⟩
 have h3:=h1.2
 split at h3
 ·rename_i d hd
  have hdt:=(beq_iff _ _).1 h3
  subst hdt
  rw [Option.bind_eq_some_iff]at hd
  obtain⟨o,ho,hod⟩:=hd
  exact⟨o,ho,hod⟩
 ·cases h3
theorem writerOf_none{ops:Array Oper}{m t:Nat}(h:writerOf ops m t=none){j:Nat}{o:Oper}(ho:ops[j]? = some o)(hd:o.dst=some t):m.testBit j=false:=by
 unfold writerOf at h
 rw [List.find?_eq_none]at h
 have hj:j<ops.size:=(Array.getElem?_eq_some_iff.1 ho).1
 have:=h j (by simpa using hj)
 rw [ho]at this
 simp only [Option.bind_some,hd]at this
 rw [(beq_iff t t).2 rfl]at this
 simpa using this
section
variable {P:Program} {B:Nat} {w0:World} {G:Sett} {self:Cb} {ops:Array Oper} {p:Plan} {T:Tr AV}
abbrev Did(listed:Array Bool)(i:Nat):Prop:=listed.getD i false=true
structure Inv(P:Program)(B:Nat)(w0:World)(G:Sett)(sf:Cb)(ops:Array Oper)(p:Plan)(T:Tr AV)(nt:Nat)(ds:List Mark)(H0:AH)(μ0:Mu)(valsF:Vals)(HF:AH)
  (es:List Nat) (prev:Option Nat) (stage:Nat) (vals:Vals) (H:AH) (listed:Array Bool) (c:CAct) (w:World) (μ:Mu):Prop where
 rep:Rep P B w0 G μ H w
 ext:Ext H0 μ0 H μ
 defers:DR P μ ds c.defers
 size:c.tmps.size=nt
 lsize:listed.size=ops.size
 closed:∀i j,Did listed i→(bsAt p.bs i).testBit j=true→Did listed j
 tmpsW:∀j o d,Did listed j→ops[j]? = some o→o.dst=some d→∃v id,getV vals j=some (v,id)∧VR μ v (c.tmps.getD d undef)
 tmps0:∀t,(∀j o,Did listed j→ops[j]? = some o→o.dst≠some t)→∀v,T.get t=some v→VR μ v (c.tmps.getD t undef)
 split:∃done,p.bars=done ++ es∧done.length=stage∧∀e∈done,Did listed e
 left:∀e∈es,¬Did listed e
 prevL:∀e,prev=some e→Did listed e
 ids:∀j v id,getV vals j=some (v,some id)→H0.next≤id∧id<H.next∧(¬Did listed j→μ id=none)
 inj:∀i j v v' id,getV vals i=some (v,some id)→getV vals j=some (v',some id)→i=j
 check:checkStage P G ops p T vals H stage prev=true
 run:runBars P G sf ops p T es stage vals H=some (valsF,HF)
theorem did_set{listed:Array Bool}{i j:Nat}:Did (listed.setIfInBounds i true) j→(j=i∨Did listed j):=by
 intro h
 by_cases hij:j=i
 ·exact .inl hij
 ·right
  unfold Did at *
  simpa [Array.getD_eq_getD_getElem?,Array.getElem?_setIfInBounds,Ne.symm hij]using h
theorem did_set_old{listed:Array Bool}{i j:Nat}(h:Did listed j):Did (listed.setIfInBounds i true) j:=by
 unfold Did at *
 rw [Array.getD_eq_getD_getElem?,Array.getElem?_setIfInBounds]
 split
 ·rename_i hij
  subst hij
  have hlt:i<listed.size:=by
   refine Decidable.byContradiction fun q => ?_
   rw [Array.getD_eq_getD_getElem?,Array.getElem?_eq_none (by omega)]at h
   simp at h
  simp [hlt]
 ·rw [Array.getD_eq_getD_getElem?]at h;exact h
theorem did_set_new{listed:Array Bool}{i:Nat}(h:i<listed.size):Did (listed.setIfInBounds i true) i:=by
 simp [Did,h]
structure Added(μ:Mu)(vals:Vals)(H:AH)(vals':Vals)(H':AH):Prop where
 old:∀j x,getV vals j=some x→getV vals' j=some x
 new:∀j v id,getV vals' j=some (v,some id)→getV vals j=some (v,some id)∨(H.next≤id∧id<H'.next)
 inj:(∀j v id,getV vals j=some (v,some id)→id<H.next)→(∀i j v v' id,getV vals i=some (v,some id)→getV vals j=some (v',some id)→i=j) →
  ∀i j v v' id,getV vals' i=some (v,some id)→getV vals' j=some (v',some id)→i=j
 next:H.next≤H'.next
 rep:∀w,Rep P B w0 G μ H w→Rep P B w0 G μ H' w
theorem Added.refl(μ:Mu)(vals:Vals)(H:AH):Added (P:=P) (B:=B) (w0:=w0) (G:=G) μ vals H vals H:=
 ⟨fun _ _ h=>h,fun _ _ _ h => .inl h,fun _ h=>h,Nat.le_refl _,fun _ h=>h⟩
theorem Added.trans{μ:Mu}{v1 v2 v3:Vals}{H1 H2 H3:AH}(h:Added (P:=P) (B:=B) (w0:=w0) (G:=G) μ v1 H1 v2 H2)(k:Added (P:=P) (B:=B) (w0:=w0) (G:=G) μ v2 H2 v3 H3):Added (P:=P) (B:=B) (w0:=w0) (G:=G) μ v1 H1 v3 H3 where
 old:=fun j x q=>k.old j x (h.old j x q)
 new:=by
  intro j v id q
  rcases k.new j v id q with q|q
  ·rcases h.new j v id q with q|q
   ·exact .inl q
   ·exact .inr ⟨q.1,Nat.lt_of_lt_of_le q.2 k.next⟩
  ·exact .inr ⟨Nat.le_trans h.next q.1,q.2⟩
 inj:=by
  intro hid hinj
  refine k.inj ?_ (h.inj hid hinj)
  intro j v id q
  rcases h.new j v id q with q|q
  ·exact Nat.lt_of_lt_of_le (hid j v id q) h.next
  ·exact q.2
 next:=Nat.le_trans h.next k.next
 rep:=fun w q=>k.rep w (h.rep w q)
theorem added_plain(μ:Mu){vals:Vals}{H:AH}{i:Nat}{v:AV}(hi:getV vals i=none):Added (P:=P) (B:=B) (w0:=w0) (G:=G) μ vals H ((i,v,none) :: vals) H where
 old:=by
  intro j x q
  by_cases hij:i=j
  ·subst hij;rw [hi]at q;cases q
  ·rw [getV_cons_ne hij];exact q
 new:=by
  intro j u id q
  by_cases hij:i=j
  ·subst hij;rw [getV_cons_eq]at q;cases q
  ·rw [getV_cons_ne hij]at q;exact .inl q
 inj:=by
  intro _ hinj a b u u' id q1 q2
  by_cases h1:i=a
  ·subst h1;rw [getV_cons_eq]at q1;cases q1
  ·by_cases h2:i=b
   ·subst h2;rw [getV_cons_eq]at q2;cases q2
   ·rw [getV_cons_ne h1]at q1;rw [getV_cons_ne h2]at q2;exact hinj a b u u' id q1 q2
 next:=Nat.le_refl _
 rep:=fun _ h=>h
theorem added_made(μ:Mu){vals:Vals}{H:AH}{i:Nat}{v:AV}(m:Mk)(hi:getV vals i=none):Added (P:=P) (B:=B) (w0:=w0) (G:=G) μ vals H ((i,v,some H.next) :: vals) (H.made m) where
 old:=by
  intro j x q
  by_cases hij:i=j
  ·subst hij;rw [hi]at q;cases q
  ·rw [getV_cons_ne hij];exact q
 new:=by
  intro j u id q
  by_cases hij:i=j
  ·subst hij;rw [getV_cons_eq]at q;cases q;exact .inr ⟨Nat.le_refl _,by rw [made_next];exact Nat.lt_succ_self _⟩
  ·rw [getV_cons_ne hij]at q;exact .inl q
 inj:=by
  intro hid hinj a b u u' id q1 q2
  by_cases h1:i=a <;> by_cases h2:i=b
  ·omega
  ·subst h1;rw [getV_cons_eq]at q1;cases q1
   rw [getV_cons_ne h2]at q2;have:=hid b _ _ q2;omega
  ·subst h2;rw [getV_cons_eq]at q2;cases q2
   rw [getV_cons_ne h1]at q1;have:=hid a _ _ q1;omega
  ·rw [getV_cons_ne h1]at q1;rw [getV_cons_ne h2]at q2;exact hinj a b u u' id q1 q2
 next:=by rw [made_next];exact Nat.le_succ _
 rep:=fun w h=>by
  cases m with
  | cells e cs=>exact h.layCells e cs
  | map kt=>exact h.layObj _ (by simp)
theorem runStage_added(μ:Mu){stage:Nat}:∀(l:List Nat) (vals:Vals) (H:AH) (vals':Vals) (H':AH),runStage P G ops p T stage l vals H=some (vals',H')→Added (P:=P) (B:=B) (w0:=w0) (G:=G) μ vals H vals' H'
 | [],vals,H,vals',H',h=>by simp [runStage]at h;obtain⟨rfl,rfl⟩:=h;exact .refl μ vals H
 | i :: r,vals,H,vals',H',h=>by
  simp only [runStage]at h
  split at h
  ·cases h
  ·rename_i o ho
   cases hb:(isBar o.op || !Nat.beq (stageOf p i) stage)with
   | true=>rw [hb]at h;exact runStage_added μ r _ _ _ _ h
   | false=>
    rw [hb]at h
    simp only [cond_false]at h
    cases hs:(getV vals i).isSome with
    | true=>rw [hs]at h;cases h
    | false=>
     rw [hs]at h
     have hn:getV vals i=none:=by cases hq:getV vals i <;> simp_all
     simp only [cond_false]at h
     split at h
     ·split at h
      ·split at h
       ·rename_i e cs f hm
        cases hbad:H.res.contains e with
        | true=>rw [hbad]at h;cases h
        | false=>
        rw [hbad]at h
        simp only [cond_false,AV.force_eq,newCells_eq]at h
        exact(added_made μ (.cells e cs) hn).trans (runStage_added μ r _ _ _ _ h)
       ·rename_i kt f hm
        simp only [newObj_eq]at h
        exact(added_made μ (.map kt) hn).trans (runStage_added μ r _ _ _ _ h)
       ·cases h
      ·split at h
       ·rename_i v hv
        simp only [AV.force_eq]at h
        exact(added_plain μ hn).trans (runStage_added μ r _ _ _ _ h)
       ·cases h
     ·exact(added_plain μ hn).trans (runStage_added μ r _ _ _ _ h)
     ·cases h
theorem endStage_some{stage:Nat}{prev:Option Nat}{vals vals':Vals}{H H':AH}(h:endStage P G ops p T stage prev vals H=some (vals',H'))(μ:Mu) :
  Added (P:=P) (B:=B) (w0:=w0) (G:=G) μ vals H vals' H'∧checkStage P G ops p T vals' H' stage prev=true:=by
 unfold endStage at h
 split at h
 ·rename_i v1 H1 hr
  cases hc:checkStage P G ops p T v1 H1 stage prev with
  | false=>rw [hc]at h;cases h
  | true=>
   rw [hc]at h
   simp at h
   obtain⟨rfl,rfl⟩:=h
   exact⟨runStage_added μ _ _ _ _ _ hr,hc⟩
 ·cases h
end
end Go.Eng
