/-
  A call of a function, on the abstract machine and in the model. A round of a range over a function, on the abstract machine and in the model
  Conditions: see each statement.
-/
import Derived.Test.YtepakfjilnpodaaGreatDoorPAAF
namespace Go.Eng
open Go.RowKit

section
variable {P : Program} {B : Nat} {w0 : World} {G : Sett} {self : Cb}

/-- What a run does once the calls of a loop over a function are over: the exit it left pending, if any. -/
def afterLoop (self : Cb) (fn : FuncId) (pend : Option Code) (a : Act) (H : AH) : Option (AX × Act × AH) :=
  match pend with
  | none => some (.normal, a, H)
  | some c => self.code none fn c a H

theorem codeF_ok (hm : P.follows .mixedOrders = true) (hN : NamesOK P) (hC : CallOK P B w0 G self) (hR : RoundOK P B w0 G self) (hK : CodeOK P B w0 G self) {ro : Option Nat} {fn : FuncId} {cd : Code} {a a' : Act} {H H' : AH} {x : AX}
    (h : codeF P G self ro fn cd a H = some (x, a', H')) {μ : Mu} {w : World} {c : CAct} {ro' : Option Nat} (hro : RoRel μ ro ro') (hrep : Rep P B w0 G μ H w) (ha : ActRel P μ a c) : cd.wpIn (Fz ro') 0 P (PostC P B w0 G μ H x a' H') c w := by
  unfold codeF at h
  split at h
  · simp at h; obtain ⟨rfl, rfl, rfl⟩ := h
    exact wpIn_skip ⟨trivial, μ, .refl H μ, ha, hrep⟩
  · simp at h; obtain ⟨rfl, rfl, rfl⟩ := h
    exact wpIn_label ⟨trivial, μ, .refl H μ, ha, hrep⟩
  · simp at h; obtain ⟨rfl, rfl, rfl⟩ := h
    exact wpIn_exit ⟨rfl, μ, .refl H μ, ha, hrep⟩
  · simp at h; obtain ⟨rfl, rfl, rfl⟩ := h
    exact wpIn_goto ⟨rfl, μ, .refl H μ, ha, hrep⟩
  · simp at h; obtain ⟨rfl, rfl, rfl⟩ := h
    exact wpIn_ret ⟨trivial, μ, .refl H μ, ha, hrep⟩
  · rename_i id ops draw
    cases draw with
    | true =>
      simp only [cond_true] at h
      split at h
      · rename_i p hp
        split at h
        · rename_i a1 H1 hr
          simp at h; obtain ⟨rfl, rfl, rfl⟩ := h
          exact draw_wp hm hN hC hR hp hr hrep ha (fun c' μ' w' q1 q2 q3 => ⟨trivial, μ', q1, q2, q3⟩)
        · cases h
      · cases h
    | false =>
      simp only [cond_false] at h
      split at h
      · rename_i a1 H1 hr
        simp at h; obtain ⟨rfl, rfl, rfl⟩ := h
        exact wpIn_region (runOps_wp hN hC hR (fun q => by cases ro with | none => exact hro | some _ => cases q) _ _ _ _ _ _ _ _ hr hrep ha (fun c' μ' w' q1 q2 q3 => ⟨trivial, μ', q1, q2, q3⟩))
      · cases h
  · rename_i cx cy
    split at h
    · rename_i a1 H1 h1
      refine wpIn_seq (wpIn_mono (hK _ _ _ _ _ _ _ _ h1 μ w c ro' hro hrep ha) ?_)
      rintro e c1 w1 ⟨hx, μ1, g1, g2, g3⟩
      cases e <;> first | exact hx.elim | skip
      exact wpIn_mono (hK _ _ _ _ _ _ _ _ h μ1 w1 c1 ro' (hro.mono g1.1) g3 g2) (fun e c' w' q => q.trans g1)
    · rename_i hne
      refine wpIn_seq (wpIn_mono (hK _ _ _ _ _ _ _ _ h μ w c ro' hro hrep ha) ?_)
      rintro e c1 w1 q
      have q' := q
      obtain ⟨hx, μ1, g1, g2, g3⟩ := q
      cases e <;> cases x <;> first | exact hx.elim | exact q' | exact absurd h (hne _ _)
  · rename_i cc cx cy
    split at h
    · rename_i hc
      exact wpIn_cond_true (env_rel hrep ha.1 hc) (hK _ _ _ _ _ _ _ _ h μ w c ro' hro hrep ha)
    · rename_i hc
      exact wpIn_cond_false (env_rel hrep ha.1 hc) (hK _ _ _ _ _ _ _ _ h μ w c ro' hro hrep ha)
    · cases h
  · rename_i id body
    split at h
    · rename_i id' a1 H1 h1
      refine wpIn_block (wpIn_mono (hK _ _ _ _ _ _ _ _ h1 μ w c ro' hro hrep ha) ?_)
      rintro e c1 w1 ⟨hx, hrest⟩
      cases e <;> first | exact hx.elim | skip
      rename_i j
      have hij : id' = j := hx
      subst hij
      cases hb : Nat.beq id' id with
      | true =>
        rw [hb] at h
        simp at h; obtain ⟨rfl, rfl, rfl⟩ := h
        simp only [Exit.inBlock, if_pos ((beq_iff _ _).1 hb)]
        exact ⟨trivial, hrest⟩
      | false =>
        rw [hb] at h
        simp at h; obtain ⟨rfl, rfl, rfl⟩ := h
        simp only [Exit.inBlock, if_neg ((beq_false _ _).1 hb)]
        exact ⟨rfl, hrest⟩
    · rename_i hne
      refine wpIn_block (wpIn_mono (hK _ _ _ _ _ _ _ _ h μ w c ro' hro hrep ha) ?_)
      rintro e c1 w1 q
      have q' := q
      obtain ⟨hx, μ1, g1, g2, g3⟩ := q
      cases e <;> cases x <;> first | exact hx.elim | exact q' | exact absurd h (hne _ _ _)
  · rename_i body
    exact wpIn_loop_rounds 1000000 (loopN_wp (ro := ro) (fun a H x a' H' hq μ w c q1 q2 q3 => hK _ _ _ _ _ _ _ _ hq μ w c ro' q1 q2 q3) _ _ _ _ _ _ h μ w c hro hrep ha _ (fun _ _ _ q => q))
  · rename_i body
    split at h
    · cases h
    · rename_i hne
      refine wpIn_scope (wpIn_mono (hK _ _ _ _ _ _ _ _ h μ w c ro' hro hrep ha) ?_)
      rintro e c1 w1 q
      have q' := q
      obtain ⟨hx, μ1, g1, g2, g3⟩ := q
      cases e <;> cases x <;> first | exact hx.elim | exact q' | exact absurd h (hne _ _ _)
  · rename_i g ps assign body
    split at h
    · rename_i f fs cs hg
      have hro0 : ro' = none := hro
      subst hro0
      simp only [newObj_eq] at h
      split at h
      · rename_i v H3 hcall
        obtain ⟨⟨fnr, hfn, hbody⟩, hcalls⟩ := hC.2 _ _ _ _ _ hcall
        obtain ⟨us, vs, hev, hus, hvs⟩ := env_rel hrep ha.1 hg
        refine wpIn_rangeFunc (F := Fence.wide) ?_
        intro fn' _
        have hun0 := hrep.notYet (i := H.next) (Nat.le_refl _)
        -- the block for deferred calls
        have hrep1 : Rep P B w0 G (μ.add H.next w.heap.size 0) (H.withNew (.defd true)) (w.alloc (.deferred (some []))) := by
          refine (hrep.layObj (.defd true) (by simp)).bind (oi := .defd true) (N := 0) (Nat.lt_succ_self _) ?_ hun0 ⟨(by intro _ he; cases he), (by intro _ _ _ he; cases he), (by intro _ _ _ _ he; cases he), (by intro _ _ he; cases he), (by intro _ _ _ _ _ _ _ _ _ he; cases he), (by intro op he; cases he; rfl)⟩
          intro o ho
          rcases Tr.get_set deep H.objs H.next (some (.defd true)) H.next o ho with ⟨_, q⟩ | ⟨q, _⟩
          · exact (Option.some.inj q).symm
          · exact absurd rfl q
        have hun1 := hrep1.notYet (i := H.next + 1) (Nat.le_refl _)
        have hsz1 : (w.alloc (.deferred (some []))).heap.size = w.heap.size + 1 := World.size_alloc _ _
        let L : Loop := { state := .ready, pending := none, fn := fn', tmps := c.tmps, params := ps, assign, body, defers := w.heap.size }
        have hrep2 : Rep P B w0 G ((μ.add H.next w.heap.size 0).add (H.next + 1) (w.heap.size + 1) 0) ((H.withNew (.defd true)).withNew (.loop .ready none fn a.nt a.T ps.toList assign body H.next)) ((w.alloc (.deferred (some []))).alloc (.loop L)) := by
          rw [← hsz1]
          refine (hrep1.layObj (.loop .ready none fn a.nt a.T ps.toList assign body H.next) (by simp)).bind (oi := .loop .ready none fn a.nt a.T ps.toList assign body H.next) (N := 0) (Nat.lt_succ_self _) ?_ hun1 ⟨(by intro _ he; cases he), (by intro _ _ _ he; cases he), (by intro _ _ _ _ he; cases he), (by intro _ _ he; cases he), ?_, (by intro op he; cases he)⟩
          · intro o ho
            rcases Tr.get_set deep (H.withNew (.defd true)).objs (H.next + 1) (some (.loop .ready none fn a.nt a.T ps.toList assign body H.next)) (H.next + 1) o ho with ⟨_, q⟩ | ⟨q, _⟩
            · exact (Option.some.inj q).symm
            · exact absurd rfl q
          · intro st pend f' nt' T' ps' as' bd' dd' he
            cases he
            exact ⟨L, w.heap.size, 0, rfl, rfl, rfl, ha.1.mono (Mu.le_add hun0), rfl, rfl, rfl, if_pos rfl, rfl⟩
        have hle02 : μ.le ((μ.add H.next w.heap.size 0).add (H.next + 1) (w.heap.size + 1) 0) := (Mu.le_add hun0).trans (Mu.le_add hun1)
        have hargs : LR ((μ.add H.next w.heap.size 0).add (H.next + 1) (w.heap.size + 1) 0) (fs.app (.cons (.yield (H.next + 1)) cs)) ((us ++ #[Value.func (.yield (w.heap.size + 1)) #[] #[]]) ++ vs).toList := by
          rw [Array.append_assoc]
          refine allOf_app (LR.mono hle02 hus) ?_
          rw [Array.toList_append]
          exact LR.cons ⟨_, 0, if_pos rfl, rfl⟩ (LR.mono hle02 hvs)
        have hbn : fnr.body.isNone = false := by cases hq : fnr.body <;> simp_all
        refine ⟨w.heap.size + 1, [{ target := .collected w.heap.size, args := #[] }], (w.alloc (.deferred (some []))).alloc (.loop L), { target := .fn (.func f) vs, args := us ++ #[Value.func (.yield (w.heap.size + 1)) #[] #[]] }, (w.alloc (.deferred (some []))).alloc (.loop L), f, (us ++ #[Value.func (.yield (w.heap.size + 1)) #[] #[]]) ++ vs, (w.alloc (.deferred (some []))).alloc (.loop L),
          ?_, ?_, fun _ _ => trivial, ?_, (fun q => by cases q), ((hcalls _ _ _ hrep2 hargs).mono ?_)⟩
        · simp [Instr.enterLoop, Fence.wide, L]
        · simp only [resolve, hev, Deferred.ofValue, Sem.run_pure, List.map_toArray, List.map_cons, List.map_nil]; rfl
        · simp only [invoke, callFunc, Sem.run_bind, run_program, Result.andThen_ok, hfn, hN f fnr hfn hbody, hbn, Bool.false_eq_true, if_false]
          rfl
        · rintro e w3 ⟨y, μ3, rfl, hext3, hy, hrep3⟩
          split at h
          · rename_i st pend fn2 nt2 tm2 ps2 as2 bd2 dd2 hget
            have hml : μ3 (H.next + 1) = some (w.heap.size + 1, 0) := hext3.1 _ _ (if_pos rfl)
            obtain ⟨hB, L3, d3, M3, hw3, e1, e2, e3, e4, e5, e6, e7, e8⟩ := hrep3.loop _ _ _ _ _ _ _ _ _ _ _ _ hget hml
            have hend : st ≠ .busy → (Instr.endLoop (w.heap.size + 1)).run P w3 = .ok pend (withObjAt w3 (w.heap.size + 1) (.loop { L3 with state := .exhausted })) := by
              intro hst
              have hne : ¬ L3.state = LoopState.busy := by rw [e1]; exact hst
              simp [Instr.endLoop, Instr.getLoop, getObj, setObj, Sem.run, hw3, hne, withObjAt, e2]
            have hset := hrep3.setObj (oj := .loop .exhausted pend fn2 nt2 tm2 ps2 as2 bd2 dd2) (o := .loop { L3 with state := .exhausted }) hget hml hB (by simp) (by simp) (by simp)
              ⟨(by intro _ he; cases he), (by intro _ _ _ he; cases he), (by intro _ _ _ _ he; cases he), (by intro _ _ he; cases he), (by intro _ _ _ _ _ _ _ _ _ he; cases he; exact ⟨_, d3, M3, rfl, rfl, e2, e3, e4, e5, e6, e7, e8⟩), (by intro op he; cases he)⟩
            have hext : Ext H μ (H3.set (H.next + 1) (.loop .exhausted pend fn2 nt2 tm2 ps2 as2 bd2 dd2)) μ3 := by
              refine ⟨hle02.trans hext3.1, ?_, ?_⟩
              · have h1 := hext3.2.1
                have h2 : H.next + 1 + 1 ≤ H3.next := h1
                show H.next ≤ H3.next
                omega
              · intro i hi hi0
                refine hext3.2.2 i (show i < H.next + 1 + 1 by omega) ?_
                simp only [Mu.add]
                rw [if_neg (by omega), if_neg (by omega)]; exact hi0
            have hact : ActRel P μ3 { T := a.T, nt := a.nt, ds := .loop H.next :: a.ds } { c with defers := [{ target := .collected w.heap.size, args := #[] }] ++ c.defers } :=
              ⟨ha.1.mono hext.1, w.heap.size, 0, c.defers, rfl, hext3.1 _ _ (by simp only [Mu.add]; rw [if_neg (by omega)]; exact if_pos trivial), ha.2.mono hext.1⟩
            have fin : st ≠ .busy → (afterLoop self fn pend { T := a.T, nt := a.nt, ds := .loop H.next :: a.ds } (H3.set (H.next + 1) (.loop .exhausted pend fn2 nt2 tm2 ps2 as2 bd2 dd2)) = some (x, a', H')) →
                rangePost Fence.wide 0 P (w.heap.size + 1) (PostC P B w0 G μ H x a' H') { c with defers := [{ target := .collected w.heap.size, args := #[] }] ++ c.defers } (.returned y) w3 := by
              intro hst hh
              refine ⟨pend, _, hend hst, ?_⟩
              cases pend with
              | none =>
                simp [afterLoop] at hh; obtain ⟨rfl, rfl, rfl⟩ := hh
                exact ⟨trivial, μ3, hext, hact, hset⟩
              | some cc =>
                exact wpIn_mono (hK _ _ _ _ _ _ _ _ hh μ3 _ _ none rfl hset hact) (fun e c' w' q => q.trans hext)
            cases st with
            | busy => cases h
            | ready => exact fin (by simp) (by simp only [withObj_eq] at h; exact h)
            | done => exact fin (by simp) (by simp only [withObj_eq] at h; exact h)
            | exhausted => exact fin (by simp) (by simp only [withObj_eq] at h; exact h)
          · cases h
      · cases h
    · cases h
  · cases h

end

section
variable {P : Program} {B : Nat} {w0 : World} {G : Sett} {self : Cb}

theorem callF_ok (hK : CodeOK P B w0 G self) {f : FuncId} {args : AV} {H : AH} {v : AV} {H' : AH} (h : callF P self f args H = some (v, H')) :
    (∃ fn : Func, P.funcs[f]? = some fn ∧ fn.body.isSome = true) ∧ ∀ μ w (xs : Array Value), Rep P B w0 G μ H w → LR μ args xs.toList → CallsIn Fence.wide 0 P f xs w (After P B w0 G μ H v H') := by
  unfold callF at h
  split at h
  · rename_i fn hfn
    split at h
    · rename_i body hbody
      refine ⟨⟨fn, hfn, by rw [hbody]; rfl⟩, ?_⟩
      intro μ w xs hrep hxs
      cases hle : Nat.ble args.len fn.ntmps with
      | false => rw [hle] at h; cases h
      | true =>
        rw [hle] at h
        have hle := Nat.le_of_ble_eq_true hle
        simp only [cond_true, List.range_eq_range'] at h
        obtain ⟨T, h1, h2⟩ := setAll_range _ _ _ _ _ h
        have hlen := hxs.len
        rw [Array.length_toList] at hlen
        refine callsIn_of_wp_marks hfn hbody trivial ?_
        have hT : TR μ fn.ntmps T (xs ++ Array.replicate (fn.ntmps - xs.size) undef) := by
          refine ⟨by simp; omega, ?_⟩
          intro t u q
          rcases h2 t u q with ⟨i, rfl, hi⟩ | q
          · obtain ⟨y, hy, hyv⟩ := hxs.nth hi
            have hy' : xs[i]? = some y := by simpa using hy
            have hlt : i < xs.size := (Array.getElem?_eq_some_iff.1 hy').1
            rw [Nat.zero_add, Array.getD_eq_getD_getElem?, Array.getElem?_append_left hlt, hy']
            exact hyv
          · simp [Tr.get] at q
        split at h1
        · rename_i x a1 H1 hcode
          have hc := hK _ _ _ _ _ _ _ _ hcode μ w { tmps := xs ++ Array.replicate (fn.ntmps - xs.size) undef, defers := [] } none rfl hrep ⟨hT, rfl⟩
          refine wpIn_mono (F := Fence.wide) hc ?_
          rintro e c1 w1 ⟨hx, μ1, hext, hact, hrep1⟩
          have fin : endsOk H1 a1.ds (fun H => match resultsOf P H a1 fn.results.toList with
              | some (.cons v .nil) => some (v, H)
              | some vs => some (.tup vs, H)
              | none => none) = some (v, H') → LeavesInM Fence.wide 0 P fn c1.tmps (After P B w0 G μ H v H') c1.defers .returning w1 := by
            intro hends
            refine ends_leave a1.ds H1 _ _ hends μ1 w1 c1.defers hrep1 hact.2 ?_
            intro H2 w2 hn hrep2 hk
            split at hk
            · rename_i u hres
              simp at hk; obtain ⟨rfl, rfl⟩ := hk
              obtain ⟨ys, g1, g2⟩ := results_run hrep2 hact.1 hres
              obtain ⟨y, r, rfl, g3, g4⟩ := g2
              have g4' : r = [] := g4
              subst g4'
              refine ⟨y, ?_, y, μ1, rfl, hext.trans (.same μ1 hn), g3, hrep2⟩
              rw [results_eq]
              simp [Array.mapM_eq_mapM_toList, g1]
            · rename_i vs hne hres
              simp at hk; obtain ⟨rfl, rfl⟩ := hk
              obtain ⟨ys, g1, g2⟩ := results_run hrep2 hact.1 hres
              refine ⟨.tuple ys.toArray, ?_, .tuple ys.toArray, μ1, rfl, hext.trans (.same μ1 hn), ⟨ys.toArray, rfl, g2⟩, hrep2⟩
              have hsz : ¬ ys.length = 1 := by
                intro q
                cases vs with
                | cons u t =>
                  obtain ⟨y, r, rfl, g3, g4⟩ := g2
                  have hr : r = [] := by apply List.length_eq_zero_iff.1; simpa using q
                  subst hr
                  cases t with
                  | nil => exact hne u rfl
                  | cons u' t' => obtain ⟨_, _, q', _⟩ := g4; cases q'
                  | _ => exact g4.elim
                | nil => have : ys = [] := g2; subst this; simp at q
                | _ => exact g2.elim
              rw [results_eq]
              simp [Array.mapM_eq_mapM_toList, g1, hsz]
            · cases hk
          cases x with
          | normal => cases e <;> first | exact hx.elim | exact fin h1
          | ret => cases e <;> first | exact hx.elim | exact fin h1
          | exit id => cases h1
          | goto l => cases h1
        · cases h1
    · cases h
  · cases h

end

section
variable {P : Program} {B : Nat} {w0 : World} {G : Sett} {self : Cb}

theorem roundF_ok (hK : CodeOK P B w0 G self) {l : Nat} {xs : AV} {H : AH} {v : AV} {H' : AH} (h : roundF self l xs H = some (v, H')) {μ : Mu} {w : World} {b N : Nat} {ys : Array Value} (hrep : Rep P B w0 G μ H w) (hm : μ l = some (b, N)) (hys : LR μ xs ys.toList) :
    ∃ L : Loop, w.heap[b]? = some (.loop L) ∧ ys.size = L.params.size ∧
      RoundIn Fence.wide 0 P b L.fn ((L.params.zip ys).foldl (fun tmps (t, a) => tmps.setIfInBounds t a) L.tmps) L.assign L.body w (After P B w0 G μ H v H') := by
  unfold roundF at h
  split at h
  · rename_i st pend fn nt tm ps as bd dd ho
    obtain ⟨hB, L, d, M, hw, e1, e2, e3, e4, e5, e6, e7, e8⟩ := hrep.loop _ _ _ _ _ _ _ _ _ _ _ _ ho hm
    obtain ⟨hlen, T, h1, hT⟩ := setAll_TR _ _ _ _ _ _ _ h hys e3
    refine ⟨L, hw, ?_, ?_⟩
    · rw [← Array.length_toList, ← hlen, ← e4, Array.length_toList]
    · have hfold : ((L.params.zip ys).foldl (fun tmps (q : Tmp × Value) => tmps.setIfInBounds q.1 q.2) L.tmps) = ((ps.zip ys.toList).foldl (fun tmps (q : Tmp × Value) => tmps.setIfInBounds q.1 q.2) L.tmps) := by
        rw [← Array.foldl_toList, Array.toList_zip, e4]
      refine roundIn_of_wpIn trivial ?_
      split at h1
      · rename_i a1 H1 hassign
        have hA := hK _ _ _ _ _ _ _ _ hassign μ w { tmps := (L.params.zip ys).foldl (fun tmps (q : Tmp × Value) => tmps.setIfInBounds q.1 q.2) L.tmps, defers := [] } (some b) ⟨b, N, hm, rfl⟩ hrep ⟨by rw [hfold]; exact hT, rfl⟩
        rw [← e5] at hA
        refine wpIn_mono (F := Fence.wide.inRound b) hA ?_
        rintro e c1 w1 ⟨hx, μ1, hext1, hact1, hrep1⟩
        cases e <;> first | exact hx.elim | skip
        have hm1 := hext1.1 _ _ hm
        split at h1
        · rename_i pend1 fn1 nt1 tm1 ps1 as1 bd1 dd1 ho1
          obtain ⟨hB1, L1, d1, M1, hw1, p1, p2, p3, p4, p5, p6, p7, p8⟩ := hrep1.loop _ _ _ _ _ _ _ _ _ _ _ _ ho1 hm1
          rw [withObj_eq] at h1
          have hrep2 := hrep1.setObj (oj := .loop .busy pend1 fn1 nt1 tm1 ps1 as1 bd1 dd1) (o := .loop { L1 with state := .busy }) ho1 hm1 hB1 (by simp) (by simp) (by simp)
            ⟨(by intro _ he; cases he), (by intro _ _ _ he; cases he), (by intro _ _ _ _ he; cases he), (by intro _ _ he; cases he), (by intro _ _ _ _ _ _ _ _ _ he; cases he; exact ⟨_, d1, M1, rfl, rfl, p2, p3, p4, p5, p6, p7, p8⟩), (by intro op he; cases he)⟩
          refine ⟨withObjAt w1 b (.loop { L1 with state := .busy }), ?_, ?_⟩
          · simp [Instr.beginRound, Instr.getLoop, getObj, setObj, Sem.run, hw1, p1, withObjAt]
          · split at h1
            · rename_i x a2 H2 hbody
              have hB2 := hK _ _ _ _ _ _ _ _ hbody μ1 _ c1 (some b) ⟨b, N, hm1, rfl⟩ hrep2 hact1
              rw [← e6] at hB2
              refine wpIn_mono (F := Fence.wide.inRound b) hB2 ?_
              rintro e c2 w2 ⟨hx2, μ2, hext2, hact2, hrep3⟩
              have hm2 := hext2.1 _ _ hm1
              split at h1
              · rename_i st3 pend3 fn3 nt3 tm3 ps3 as3 bd3 dd3 ho3
                obtain ⟨hB3, L3, d3, M3, hw3, r1, r2, r3, r4, r5, r6, r7, r8⟩ := hrep3.loop _ _ _ _ _ _ _ _ _ _ _ _ ho3 hm2
                have fin : ∀ (jump : Option Code) (bb : Bool), jump.isNone = bb → v = .sc (.bool bb) → H' = H2.set l (.loop (bif bb then .ready else .done) jump fn3 nt3 tm3 ps3 as3 bd3 dd3) →
                    ∃ v' w', (Instr.endRound b jump).run P w2 = .ok v' w' ∧ After P B w0 G μ H v H' (.returned v') w' := by
                  rintro jump bb hj rfl rfl
                  have hset := hrep3.setObj (oj := .loop (bif bb then .ready else .done) jump fn3 nt3 tm3 ps3 as3 bd3 dd3) (o := .loop { L3 with state := if jump.isNone then .ready else .done, pending := jump }) ho3 hm2 hB3 (by simp) (by simp) (by simp)
                    ⟨(by intro _ he; cases he), (by intro _ _ _ he; cases he), (by intro _ _ _ _ he; cases he), (by intro _ _ he; cases he), (by intro _ _ _ _ _ _ _ _ _ he; cases he; exact ⟨_, d3, M3, rfl, by rw [hj]; cases bb <;> rfl, rfl, r3, r4, r5, r6, r7, r8⟩), (by intro op he; cases he)⟩
                  refine ⟨.bool bb, withObjAt w2 b (.loop { L3 with state := if jump.isNone then .ready else .done, pending := jump }), ?_, .bool bb, μ2, rfl, ?_, rfl, hset⟩
                  · simp [Instr.endRound, Instr.getLoop, getObj, setObj, Sem.run, hw3, withObjAt, hj]
                  · exact hext1.trans ((Ext.same μ1 rfl).trans (hext2.trans (Ext.same μ2 rfl)))
                cases x with
                | normal =>
                  cases e <;> first | exact hx2.elim | skip
                  simp only [withObj_eq] at h1
                  simp at h1
                  exact fin none true rfl h1.1.symm h1.2.symm
                | ret =>
                  cases e <;> first | exact hx2.elim | skip
                  simp only [withObj_eq] at h1
                  simp at h1
                  exact fin (some .ret) false rfl h1.1.symm h1.2.symm
                | exit id =>
                  cases e <;> first | exact hx2.elim | skip
                  have hij : id = _ := hx2
                  subst hij
                  simp only [withObj_eq] at h1
                  simp at h1
                  exact fin (some (.exit id)) false rfl h1.1.symm h1.2.symm
                | goto t => cases h1
              · cases h1
            · cases h1
        · cases h1
      · cases h1
  · cases h

end

section
variable {P : Program} {B : Nat} {w0 : World} {G : Sett}

/-- A function that leaves everything alone when it is a deferred call and nothing panics. -/
def StillFn (P : Program) (g : FuncId) : Prop := (∃ fn : Func, P.funcs[g]? = some fn ∧ fn.body.isSome = true) ∧
    ∀ args w, CallsDIn Fence.wide 0 P g args .returning w fun e u w' => (∃ v, e = .returned v) ∧ u = .returning ∧ w'.heap = w.heap ∧ Below w.heap.size w w'

theorem cb_ok (hm : P.follows .mixedOrders = true) (hN : NamesOK P) {O : FuncId → AV → AH → Option (AV × AH)} (hO : CallsOK P B w0 G O) {D : List FuncId} (hD : ∀ g ∈ D, StillFn P g) :
    ∀ n, CallOK P B w0 G (cb P G O D n) ∧ RoundOK P B w0 G (cb P G O D n) ∧ CodeOK P B w0 G (cb P G O D n)
  | 0 => ⟨⟨fun g h => hD g (by simpa [cb] using h), fun _ _ _ _ _ h => (by cases h)⟩, fun _ _ _ _ _ h => (by cases h), fun _ _ _ _ _ _ _ _ h => (by cases h)⟩
  | n + 1 => by
    obtain ⟨hC, hR, hK⟩ := cb_ok hm hN hO hD n
    refine ⟨⟨fun g h => hD g (by simpa [cb] using h), ?_⟩, ?_, ?_⟩
    · intro f args H v H' h
      simp only [cb] at h
      split at h
      · rename_i r ho
        cases h
        exact hO _ _ _ _ _ ho
      · exact callF_ok hK h
    · intro l xs H v H' h μ w b N ys hrep hmu hys
      exact roundF_ok hK h hrep hmu hys
    · intro ro fn cd a H x a' H' h μ w c ro' hro hrep ha
      exact codeF_ok hm hN hC hR hK h hro hrep ha

theorem noTold_ok : CallsOK P B w0 G noTold := fun _ _ _ _ _ h => by cases h

/-- A call that the abstract machine has run: the model's call from any world that the machine's heap describes. -/
theorem calls_of_run (hm : P.follows .mixedOrders = true) (hN : NamesOK P) {O : FuncId → AV → AH → Option (AV × AH)} (hO : CallsOK P B w0 G O) {D : List FuncId} (hD : ∀ g ∈ D, StillFn P g) {n : Nat} {f : FuncId} {args : AV} {H : AH} {v : AV} {H' : AH}
    (h : (cb P G O D n).call f args H = some (v, H')) {μ : Mu} {w : World} {xs : Array Value} (hrep : Rep P B w0 G μ H w) (hxs : LR μ args xs.toList) : Calls P f xs w (After P B w0 G μ H v H') :=
  callsIn_wide.1 (((cb_ok hm hN hO hD n).1.2 _ _ _ _ _ h).2 μ w xs hrep hxs)

end

def ofInts (k : IntKind) : List Int → AV
  | [] => .nil
  | n :: t => .cons (.sc (.int k n)) (ofInts k t)
theorem ofInts_LR (μ : Mu) (k : IntKind) : ∀ zs : List Int, LR μ (ofInts k zs) (zs.map (Value.int k))
  | [] => rfl
  | _ :: t => LR.cons rfl (ofInts_LR μ k t)
theorem ofInts_len (k : IntKind) : ∀ zs : List Int, (ofInts k zs).len = zs.length
  | [] => rfl
  | _ :: t => by simp [ofInts, AV.len, ofInts_len k t]

section
variable {P : Program} {B : Nat} {w0 : World} {G : Sett}

/-- What a call left alone is still described. -/
theorem Rep.onto {μ : Mu} {H : AH} {w w' : World} (h : Rep P B w0 G μ H w) (hb : Below w.heap.size w w') : Rep P B w0 G μ H w' where
  resd := h.resd
  hdom := h.hdom
  fact := fun i t ho => let ⟨v, h1, h2⟩ := h.fact i t ho; ⟨v, h1, G.stable _ _ _ _ (Kept.of_below hb) h2⟩
  free := fun i b N e hB cs te fz q => h.free i b N e hB cs te fz (by rw [← hb.block b (h.dom i b N e).2]; exact q)
  below := h.below.trans (hb.mono h.baseNow)
  base := h.base
  dom := fun i b N e => ⟨(h.dom i b N e).1, Nat.lt_of_lt_of_le (h.dom i b N e).2 hb.size⟩
  glob := h.glob
  own := h.own
  sep := h.sep
  vtop := h.vtop
  tip := h.tip
  write := h.write
  cells := fun i fam ver e cs tip lw b N h1 h2 h3 h4 => by
    rw [hb.block b (h.dom i b N h4).2]; exact h.cells i fam ver e cs tip lw b N h1 h2 h3 h4
  map := fun i kt es b N h1 h2 => by
    rw [hb.block b (h.dom i b N h2).2]; exact h.map i kt es b N h1 h2
  loop := fun i st pend fn nt T ps as bd dd b N h1 h2 => by
    rw [hb.block b (h.dom i b N h2).2]; exact h.loop i st pend fn nt T ps as bd dd b N h1 h2
  defd := fun i op b N h1 h2 => by
    rw [hb.block b (h.dom i b N h2).2]; exact h.defd i op b N h1 h2

/-- The empty heap describes every world. -/
def bare (res : List TypeId) : AH where
  res := res
  next := 10
  objs := .nil
  fams := .nil
/-- Nothing is known, and nothing is opaque. -/
def noSett : Sett := ⟨[], [], fun _ _ _ => False, fun _ _ _ _ _ h => h⟩
theorem bare_rep {G : Sett} (hids : G.ids = []) (w : World) : Rep P w.heap.size w G ⟨fun _ => none, fun _ => none⟩ (bare G.res) w := by
  refine { resd := rfl, hdom := ?_, fact := ?_, free := ?_, below := Below.refl _ _, base := Nat.le_refl _, dom := ?_, glob := ?_, own := ?_, sep := ?_, vtop := ?_, tip := ?_, write := ?_, cells := ?_, map := ?_, loop := ?_, defd := ?_ }
  all_goals intros
  all_goals simp_all [bare, Tr.get]

/-- An opaque value is put into a heap. -/
def AH.hold (H : AH) (t : Tg) : AH := H.withNew (.opq t)
def Mu.hold (μ : Mu) (i : Nat) (v : Value) : Mu := ⟨μ.blk, fun j => if j = i then some v else μ.hd j⟩
theorem Rep.hold {μ : Mu} {H : AH} {w : World} (h : Rep P B w0 G μ H w) {t : Tg} {v : Value} (hi : G.I t v w) : Rep P B w0 G (μ.hold H.next v) (H.hold t) w ∧ Ext H μ (H.hold t) (μ.hold H.next v) ∧ (μ.hold H.next v).hd H.next = some v := by
  have hle : μ.le (μ.hold H.next v) := ⟨fun _ _ q => q, fun i x q => by
    have := h.hdom i x q
    simp only [Mu.hold]
    rw [if_neg (by omega)]; exact q⟩
  have get : ∀ {j o}, (H.hold t).objs.get j = some o → (j = H.next ∧ o = .opq t) ∨ (j < H.next ∧ H.objs.get j = some o) := by
    intro j o q
    rcases Tr.get_set deep H.objs H.next (some (.opq t)) j o q with ⟨h1, h2⟩ | ⟨_, h2⟩
    · exact .inl ⟨h1, (Option.some.inj h2).symm⟩
    · exact .inr ⟨(h.own _ _ h2).1, h2⟩
  have old : ∀ {j o}, (H.hold t).objs.get j = some o → (∀ t, o ≠ .opq t) → H.objs.get j = some o := by
    intro j o q hn
    rcases get q with ⟨_, h1⟩ | ⟨_, h1⟩
    · exact absurd h1 (hn t)
    · exact h1
  have cls : ∀ {j o}, (H.hold t).objs.get j = some o → (j = H.next ∧ o.cls j = H.next) ∨ (H.objs.get j = some o) := by
    intro j o q
    rcases get q with ⟨rfl, rfl⟩ | ⟨_, h1⟩
    · exact .inl ⟨rfl, rfl⟩
    · exact .inr h1
  have hun := h.notYet (i := H.next) (Nat.le_refl _)
  refine ⟨⟨h.resd, ?_, ?_, h.free, h.below, h.base, fun i b N e => ⟨Nat.lt_succ_of_lt (h.dom i b N e).1, (h.dom i b N e).2⟩, h.glob, ?_, ?_, ?_, ?_, ?_, ?_, ?_, ?_, ?_⟩, ⟨hle, Nat.le_succ _, fun _ _ q => q⟩, if_pos rfl⟩
  · intro i x q
    simp only [Mu.hold] at q
    split at q
    · rename_i e; subst e; exact Nat.lt_succ_self _
    · exact Nat.lt_succ_of_lt (h.hdom i x q)
  · intro i t' q
    rcases get q with ⟨rfl, h1⟩ | ⟨hlt, h1⟩
    · cases h1; exact ⟨v, if_pos rfl, hi⟩
    · obtain ⟨x, h2, h3⟩ := h.fact _ _ h1
      exact ⟨x, hle.hd _ _ h2, h3⟩
  · intro i o q
    rcases get q with ⟨rfl, rfl⟩ | ⟨hlt, h1⟩
    · exact ⟨Nat.lt_succ_self _, Nat.lt_succ_self _⟩
    · exact ⟨Nat.lt_succ_of_lt hlt, Nat.lt_succ_of_lt (h.own _ _ h1).2⟩
  · intro i j oi oj b N M h1 h2 h3 h4
    rcases cls h1 with ⟨rfl, _⟩ | k1
    · have : μ H.next = some (b, N) := h3
      rw [hun] at this; cases this
    · rcases cls h2 with ⟨rfl, _⟩ | k2
      · have : μ H.next = some (b, M) := h4
        rw [hun] at this; cases this
      · exact h.sep i j oi oj b N M k1 k2 h3 h4
  · exact fun i j fam vi ei ci vj ej cj lw h1 h2 h3 hne => h.vtop _ _ _ _ _ _ _ _ _ _ (old h1 (by simp)) (old h2 (by simp)) h3 hne
  · exact fun i j fam vi ei ci vj ej cj lw b N M h1 h2 h3 h4 h5 h6 => h.tip _ _ _ _ _ _ _ _ _ _ _ _ _ (old h1 (by simp)) (old h2 (by simp)) h3 h4 h5 h6
  · exact fun i fam ver e cs lw b N h1 h2 h3 => h.write _ _ _ _ _ _ _ _ (old h1 (by simp)) h2 h3
  · intro i fam ver e cs tip lw b N h1 h2 h3 h4
    obtain ⟨arr, te, fz, g1, g2, g3, g4, g5⟩ := h.cells _ _ _ _ _ _ _ _ _ (old h1 (by simp)) h2 h3 h4
    exact ⟨arr, te, fz, g1, g2, g3, g4.mono hle, g5⟩
  · intro i kt es b N h1 h2
    obtain ⟨g1, en, cl, g2, g3⟩ := h.map _ _ _ _ _ (old h1 (by simp)) h2
    exact ⟨g1, en, cl, g2, g3.mono hle⟩
  · intro i st pend fn nt T ps as bd dd b N h1 h2
    obtain ⟨g1, L, d, M, g2, g3, g4, g5, g6, g7, g8, g9, g10⟩ := h.loop _ _ _ _ _ _ _ _ _ _ _ _ (old h1 (by simp)) h2
    exact ⟨g1, L, d, M, g2, g3, g4, g5.mono hle, g6, g7, g8, g9, g10⟩
  · exact fun i op b N h1 h2 => h.defd _ _ _ _ (old h1 (by simp)) h2

/-- A function that is told: its answer is a value, and it leaves what was there alone. -/
theorem told_ok {O : FuncId → AV → AH → Option (AV × AH)} (h : ∀ f args H v H', O f args H = some (v, H') → (∃ fn : Func, P.funcs[f]? = some fn ∧ fn.body.isSome = true) ∧ H' = H ∧
    ∀ μ w (xs : Array Value), Rep P B w0 G μ H w → LR μ args xs.toList → Calls P f xs w fun e w' => ∃ x, e = .returned x ∧ VR μ v x ∧ Below w.heap.size w w') : CallsOK P B w0 G O := by
  intro f args H v H' ho
  obtain ⟨h1, rfl, h2⟩ := h _ _ _ _ _ ho
  refine ⟨h1, fun μ w xs hrep hxs => callsIn_wide.2 ((h2 μ w xs hrep hxs).mono ?_)⟩
  rintro e w' ⟨x, rfl, hv, hb⟩
  exact ⟨x, μ, rfl, Ext.refl _ _, hv, hrep.onto hb⟩

theorem namesOK_of (h : (P.funcs.all fun fn => !(fn.body.isSome && fn.name == "runtime.NumGoroutine")) = true) : NamesOK P := by
  intro f fn hf hb
  obtain ⟨hlt, rfl⟩ := Array.getElem?_eq_some_iff.1 hf
  have := (Array.all_eq_true.1 h) f hlt
  rw [hb] at this
  simpa using this

end

/-- How an opaque value is laid: one cell, a string, a struct of so many cells. -/
inductive Sh where
  | one
  | str
  | agg (n : Nat)

def hcs (i : Nat) : Nat → Nat → AV
  | _, 0 => .nil
  | k, n + 1 => .cons (.hc i k) (hcs i (k + 1) n)
def wh (s : Sh) (i : Nat) : AV :=
  match s with
  | .one => .hc i 0
  | .str => .hs i
  | .agg n => .agg (hcs i 0 n)
def ShOK (s : Sh) (v : Value) : Prop :=
  match s with
  | .one => v.oneCell' = true
  | .str => ∃ s, v = .string s
  | .agg n => ∃ xs : Array Value, v = .agg xs ∧ xs.size = n ∧ ∀ x ∈ xs.toList, x.oneCell' = true

theorem hcs_LR {μ : Mu} {i : Nat} {xs : List Value} (hm : ∃ v, μ.hd i = some v ∧ v.cells.toList = xs) (h1 : ∀ x ∈ xs, x.oneCell' = true) : ∀ (n k : Nat), k + n = xs.length → LR μ (hcs i k n) (xs.drop k)
  | 0, k, h => by rw [List.drop_eq_nil_of_le (by omega)]; rfl
  | n + 1, k, h => by
    have hk : k < xs.length := by omega
    rw [List.drop_eq_getElem_cons hk]
    obtain ⟨v, hv, hc⟩ := hm
    refine LR.cons ⟨v, hv, ?_, h1 _ (List.getElem_mem hk)⟩ (hcs_LR ⟨v, hv, hc⟩ h1 n (k + 1) (by omega))
    rw [← Array.getElem?_toList, hc, List.getElem?_eq_getElem hk]
theorem wh_VR {μ : Mu} {i : Nat} {s : Sh} {v : Value} (hm : μ.hd i = some v) (h : ShOK s v) : VR μ (wh s i) v := by
  cases s with
  | one =>
    have e : v.cells = #[v] := by cases v <;> first | rfl | simp [ShOK, Value.oneCell'] at h
    exact ⟨v, hm, by rw [e]; rfl, h⟩
  | str => obtain ⟨s, rfl⟩ := h; exact ⟨s, hm, rfl⟩
  | agg n =>
    obtain ⟨xs, rfl, hn, h1⟩ := h
    refine ⟨xs, rfl, ?_⟩
    have := hcs_LR (μ := μ) (i := i) (xs := xs.toList) ⟨_, hm, rfl⟩ h1 n 0 (by simpa using hn.symm)
    rw [List.drop_zero] at this
    exact this
theorem hcs_det {μ : Mu} {i : Nat} {v : Value} (hm : μ.hd i = some v) : ∀ (n k : Nat) (ys : List Value), k + n = v.cells.size → LR μ (hcs i k n) ys → ys = v.cells.toList.drop k
  | 0, k, ys, h, hy => by
    have : ys = [] := hy
    rw [this, List.drop_eq_nil_of_le (by simp; omega)]
  | n + 1, k, ys, h, hy => by
    obtain ⟨y, r, rfl, h1, h2⟩ := hy
    have hk : k < v.cells.toList.length := by simp; omega
    rw [List.drop_eq_getElem_cons hk, hcs_det hm n (k + 1) r (by omega) h2]
    obtain ⟨v', h3, h4, h5⟩ := h1
    rw [hm] at h3; cases h3
    congr 1
    have : v.cells.toList[k]? = some y := by simpa using h4
    rw [List.getElem?_eq_getElem hk] at this
    exact (Option.some.inj this).symm
theorem wh_det {μ : Mu} {i : Nat} {s : Sh} {v x : Value} (hm : μ.hd i = some v) (h : ShOK s v) (hx : VR μ (wh s i) x) : x = v := by
  cases s with
  | one =>
    have e : v.cells = #[v] := by cases v <;> first | rfl | simp [ShOK, Value.oneCell'] at h
    obtain ⟨v', h1, h2, h3⟩ := hx
    rw [hm] at h1; cases h1
    rw [e] at h2
    exact (Option.some.inj h2).symm
  | str =>
    obtain ⟨s, h1, rfl⟩ := hx
    rw [hm] at h1; cases h1; rfl
  | agg n =>
    obtain ⟨xs, rfl, hn, h1⟩ := h
    obtain ⟨ys, rfl, h2⟩ := hx
    have := hcs_det hm n 0 ys.toList (by rw [Nat.zero_add, ← hn]; rfl) h2
    rw [List.drop_zero] at this
    have : ys = xs := Array.toList_inj.1 this
    rw [this]

/-- Pieces of what is handed on: an opaque value, a value without addresses, a struct of such cells; and lists of pieces. -/
inductive AT where
  | tag (t : Tg)
  | val (v : AV)
  | agg (cs : AT)
  | fn (f : FuncId) (fs cs : AT)
  | nil
  | cons (h t : AT)

def handleOf : AV → Option Nat
  | .hc i _ => some i
  | .hs i => some i
  | .agg (.cons (.hc i _) _) => some i
  | _ => none
def tagOf (cls : Tg → Sh) (H : AH) (a : AV) : Option Tg :=
  match handleOf a with
  | some i => match H.objs.get i with
    | some (.opq t) => bif a.beq (wh (cls t) i) then some t else none
    | _ => none
  | none => none
def atOne (cls : Tg → Sh) (H : AH) (a : AV) : Option AT :=
  match tagOf cls H a with
  | some t => some (.tag t)
  | none => match a.closed with
    | some _ => some (.val a)
    | none => none
/-- A value's piece; a list's pieces. -/
def atOf (cls : Tg → Sh) (H : AH) : AV → Option AT × Option AT
  | .nil => (none, some .nil)
  | .cons a r => (none, match (atOf cls H a).1, (atOf cls H r).2 with
    | some t, some ts => some (.cons t ts)
    | _, _ => none)
  | .agg cs => (match tagOf cls H (.agg cs) with
    | some t => some (.tag t)
    | none => match (AV.agg cs).closed with
      | some _ => some (.val (.agg cs))
      | none => match (atOf cls H cs).2 with
        | some ts => some (.agg ts)
        | none => none, none)
  | .fn f fs cs => (match (atOf cls H fs).2, (atOf cls H cs).2 with
    | some t, some ts => some (.fn f t ts)
    | _, _ => none, none)
  | a => (atOne cls H a, none)
theorem Tg.eq_of_beq {a : Tg} : ∀ {b : Tg}, a.beq b = true → a = b := by
  induction a with
  | leaf n => intro b h; cases b <;> simp [Tg.beq] at h; rw [h]
  | un k a ih => intro b h; cases b <;> simp [Tg.beq] at h; rw [h.1, ih h.2]
  | bin k a b ih1 ih2 => intro c h; cases c <;> simp [Tg.beq] at h; rw [h.1.1, ih1 h.1.2, ih2 h.2]
/-- An opaque value that is there already. -/
def isTag (H : AH) (t : Tg) (i : Nat) : Bool :=
  match H.objs.get i with
  | some (.opq t') => t'.beq t
  | _ => false
theorem isTag_get {H : AH} {t : Tg} {i : Nat} (h : isTag H t i = true) : H.objs.get i = some (.opq t) := by
  unfold isTag at h
  split at h
  · rename_i t' e
    rw [Tg.eq_of_beq h] at e
    exact e
  · cases h
def findTag (H : AH) (t : Tg) : Nat → Option Nat
  | 0 => none
  | n + 1 => bif isTag H t n then some n else findTag H t n
theorem findTag_get {H : AH} {t : Tg} {i : Nat} : ∀ {n : Nat}, findTag H t n = some i → H.objs.get i = some (.opq t)
  | 0, h => by cases h
  | n + 1, h => by
    unfold findTag at h
    cases e : isTag H t n with
    | true =>
      rw [e] at h
      cases h
      exact isTag_get e
    | false =>
      rw [e] at h
      exact findTag_get h
/-- A string that is there already is not laid anew. -/
def knownTag (cls : Tg → Sh) (H : AH) (t : Tg) : Option Nat :=
  match cls t with
  | .str => findTag H t H.next
  | _ => none
def layAT {β : Type} (cls : Tg → Sh) : AT → AH → (AV → AH → β) → β
  | .tag t, H, k => match knownTag cls H t with
    | some i => k (wh (cls t) i) H
    | none => H.newObj (.opq t) fun i H => k (wh (cls t) i) H
  | .val v, H, k => k v H
  | .agg cs, H, k => layAT cls cs H fun vs H => k (.agg vs) H
  | .fn f fs cs, H, k => layAT cls fs H fun us H => layAT cls cs H fun vs H => k (.fn f us vs) H
  | .nil, H, k => k .nil H
  | .cons a r, H, k => layAT cls a H fun v H => layAT cls r H fun vs H => k (.cons v vs) H
def packAV : AV → AV
  | .cons v .nil => v
  | vs => .tup vs
def oracle (cls : Tg → Sh) (T : FuncId → AT → Option AT) (f : FuncId) (args : AV) (H : AH) : Option (AV × AH) :=
  match (atOf cls H args).2 with
  | some ts => match T f ts with
    | some rs => layAT cls rs H fun vs H => some (packAV vs, H)
    | none => none
  | none => none

section
variable {P : Program} {B : Nat} {w0 : World} {G : Sett}

/-- What pieces say of a value; of a list of values. -/
def PC (G : Sett) (w : World) : AT → (Value → Prop) × (List Value → Prop)
  | .tag t => (fun x => G.I t x w, fun _ => False)
  | .val v => (fun x => v.closed = some x, fun _ => False)
  | .agg cs => (fun x => ∃ xs : Array Value, x = .agg xs ∧ (PC G w cs).2 xs.toList, fun _ => False)
  | .fn f fs cs => (fun x => ∃ xs ys : Array Value, x = .func (.func f) xs ys ∧ (PC G w fs).2 xs.toList ∧ (PC G w cs).2 ys.toList, fun _ => False)
  | .nil => (fun _ => False, fun xs => xs = [])
  | .cons h t => (fun _ => False, fun xs => ∃ x r, xs = x :: r ∧ (PC G w h).1 x ∧ (PC G w t).2 r)
def PieceOK (G : Sett) (t : AT) (x : Value) (w : World) : Prop := (PC G w t).1 x
def PiecesOK (G : Sett) (t : AT) (xs : List Value) (w : World) : Prop := (PC G w t).2 xs
def PackOK (G : Sett) (ts : AT) (x : Value) (w : World) : Prop :=
  match ts with
  | .cons t .nil => PieceOK G t x w
  | ts => ∃ xs : Array Value, x = .tuple xs ∧ PiecesOK G ts xs.toList w

structure Shaped (G : Sett) (cls : Tg → Sh) : Prop where
  ok : ∀ t v w, G.I t v w → ShOK (cls t) v
  det : ∀ t, cls t = .str → ∀ v v' w, G.I t v w → G.I t v' w → v = v'

theorem scCells_LR (μ : Mu) : ∀ {v : AV} {l : List Value}, scCells v = some l → LR μ v l
  | .nil, l, h => by simp [scCells] at h; subst h; rfl
  | .cons (.sc s) t, l, h => by
    simp only [scCells, Option.map_eq_some_iff] at h
    obtain ⟨r, h1, rfl⟩ := h
    exact LR.cons rfl (scCells_LR μ h1)
theorem closed_VR (μ : Mu) {v : AV} {x : Value} (h : v.closed = some x) : VR μ v x := by
  unfold AV.closed at h
  split at h
  · cases h; rfl
  · simp only [Option.map_eq_some_iff] at h
    obtain ⟨l, h1, rfl⟩ := h
    exact ⟨l.toArray, rfl, scCells_LR μ h1⟩
  · cases h
theorem closed_det {μ : Mu} {v : AV} {x y : Value} (h : v.closed = some x) (hy : VR μ v y) : y = x := by
  unfold AV.closed at h
  split at h
  · cases h; exact hy
  · simp only [Option.map_eq_some_iff] at h
    obtain ⟨l, h1, rfl⟩ := h
    obtain ⟨ys, rfl, h2⟩ := hy
    have := LR.det h1 h2
    congr 1
    exact Array.toList_inj.1 (by simpa using this)
  · cases h

theorem tagOf_sound {cls : Tg → Sh} (hs : Shaped G cls) {μ : Mu} {H : AH} {w : World} (h : Rep P B w0 G μ H w) {a : AV} {t : Tg} (ht : tagOf cls H a = some t) {x : Value} (hx : VR μ a x) : G.I t x w := by
  unfold tagOf at ht
  split at ht
  · rename_i i hi
    split at ht
    · rename_i t' ho
      cases hb : a.beq (wh (cls t') i) with
      | false => rw [hb] at ht; cases ht
      | true =>
        rw [hb] at ht
        cases ht
        have := AV.beq_eq hb
        subst this
        obtain ⟨v, h1, h2⟩ := h.fact _ _ ho
        rw [wh_det h1 (hs.ok _ _ _ h2) hx]
        exact h2
    · cases ht
  · cases ht
theorem atOf_sound {cls : Tg → Sh} (hs : Shaped G cls) {μ : Mu} {H : AH} {w : World} (h : Rep P B w0 G μ H w) (a : AV) : (∀ t, (atOf cls H a).1 = some t → ∀ x, VR μ a x → PieceOK G t x w) ∧ (∀ t, (atOf cls H a).2 = some t → ∀ xs, LR μ a xs → PiecesOK G t xs w) := by
  have one : ∀ {a : AV} {t : AT}, atOne cls H a = some t → ∀ x, VR μ a x → PieceOK G t x w := by
    intro a t ht x hx
    unfold atOne at ht
    split at ht
    · rename_i t' h1
      cases ht
      exact tagOf_sound hs h h1 hx
    · split at ht
      · rename_i c hc
        cases ht
        rw [closed_det hc hx]
        exact hc
      · cases ht
  induction a with
  | nil => exact ⟨fun t q => (by cases q), fun t q xs hx => (by cases q; exact hx)⟩
  | cons a r ih1 ih2 =>
    refine ⟨fun t q => (by cases q), fun t q xs hx => ?_⟩
    simp only [atOf] at q
    split at q
    · rename_i t' ts' h1 h2
      cases q
      obtain ⟨x, r', rfl, h3, h4⟩ := hx
      exact ⟨x, r', rfl, ih1.1 _ h1 _ h3, ih2.2 _ h2 _ h4⟩
    · cases q
  | agg cs ih =>
    refine ⟨fun t q x hx => ?_, fun t q => (by cases q)⟩
    simp only [atOf] at q
    split at q
    · rename_i t' h1
      cases q
      exact tagOf_sound hs h h1 hx
    · split at q
      · rename_i c hc
        cases q
        rw [closed_det hc hx]
        exact hc
      · split at q
        · rename_i ts hts
          cases q
          obtain ⟨xs, rfl, h2⟩ := hx
          exact ⟨xs, rfl, ih.2 _ hts _ h2⟩
        · cases q
  | fn f fs cs ih1 ih2 =>
    refine ⟨fun t q x hx => ?_, fun t q => (by cases q)⟩
    simp only [atOf] at q
    split at q
    · rename_i t' ts' h1 h2
      cases q
      obtain ⟨xs, ys, rfl, h3, h4⟩ := hx
      exact ⟨xs, ys, rfl, ih1.2 _ h1 _ h3, ih2.2 _ h2 _ h4⟩
    · cases q
  | _ => exact ⟨fun t q x hx => (by simp only [atOf] at q; exact one q x hx), fun t q => (by simp only [atOf] at q; cases q)⟩

/-- Pieces are laid: the machine has them as the model has. -/
theorem lay_rep {cls : Tg → Sh} (hs : Shaped G cls) {β : Type} {w : World} (ts : AT) : ∀ (μ : Mu) (H : AH) (k : AV → AH → Option β) (r : β), Rep P B w0 G μ H w → layAT cls ts H k = some r →
    (∀ x, PieceOK G ts x w → ∃ v μ' H', k v H' = some r ∧ Rep P B w0 G μ' H' w ∧ Ext H μ H' μ' ∧ VR μ' v x) ∧ (∀ xs, PiecesOK G ts xs w → ∃ vs μ' H', k vs H' = some r ∧ Rep P B w0 G μ' H' w ∧ Ext H μ H' μ' ∧ LR μ' vs xs) := by
  induction ts with
  | tag t =>
    intro μ H k r h hl
    refine ⟨fun x hp => ?_, fun xs hp => hp.elim⟩
    simp only [layAT, newObj_eq] at hl
    split at hl
    · rename_i i hkn
      have hc : cls t = .str ∧ findTag H t H.next = some i := by
        unfold knownTag at hkn
        split at hkn
        · rename_i e; exact ⟨e, hkn⟩
        · cases hkn
      obtain ⟨v, h1, h2⟩ := h.fact _ _ (findTag_get hc.2)
      have : v = x := hs.det t hc.1 _ _ _ h2 hp
      subst this
      exact ⟨_, μ, H, hl, h, .refl H μ, wh_VR h1 (hs.ok _ _ _ hp)⟩
    · obtain ⟨g1, g2, g3⟩ := h.hold (t := t) (v := x) hp
      exact ⟨_, _, _, hl, g1, g2, wh_VR g3 (hs.ok _ _ _ hp)⟩
  | val v =>
    intro μ H k r h hl
    exact ⟨fun x hp => ⟨v, μ, H, hl, h, .refl H μ, closed_VR _ hp⟩, fun xs hp => hp.elim⟩
  | agg cs ih =>
    intro μ H k r h hl
    refine ⟨fun x hp => ?_, fun xs hp => hp.elim⟩
    obtain ⟨xs, rfl, hp⟩ := hp
    simp only [layAT] at hl
    obtain ⟨vs, μ', H', k1, k2, k3, k4⟩ := (ih μ H _ r h hl).2 _ hp
    exact ⟨_, μ', H', k1, k2, k3, xs, rfl, k4⟩
  | fn f fs cs ih1 ih2 =>
    intro μ H k r h hl
    refine ⟨fun x hp => ?_, fun xs hp => hp.elim⟩
    obtain ⟨xs, ys, rfl, h1, h2⟩ := hp
    simp only [layAT] at hl
    obtain ⟨us, μ1, H1, k1, k2, k3, k4⟩ := (ih1 μ H _ r h hl).2 _ h1
    obtain ⟨vs, μ2, H2, l1, l2, l3, l4⟩ := (ih2 μ1 H1 _ r k2 k1).2 _ h2
    exact ⟨_, μ2, H2, l1, l2, k3.trans l3, xs, ys, rfl, k4.mono l3.1, l4⟩
  | nil =>
    intro μ H k r h hl
    exact ⟨fun x hp => hp.elim, fun xs hp => ⟨.nil, μ, H, hl, h, .refl H μ, hp⟩⟩
  | cons a b ih1 ih2 =>
    intro μ H k r h hl
    refine ⟨fun x hp => hp.elim, fun xs hp => ?_⟩
    obtain ⟨x, r', rfl, h1, h2⟩ := hp
    simp only [layAT] at hl
    obtain ⟨v, μ1, H1, k1, k2, k3, k4⟩ := (ih1 μ H _ r h hl).1 _ h1
    obtain ⟨vs, μ2, H2, l1, l2, l3, l4⟩ := (ih2 μ1 H1 _ r k2 k1).2 _ h2
    exact ⟨_, μ2, H2, l1, l2, k3.trans l3, LR.cons (k4.mono l3.1) l4⟩

/-- What is told of calls is true. -/
def ToldT (P : Program) (G : Sett) (T : FuncId → AT → Option AT) : Prop :=
  ∀ f ts rs, T f ts = some rs → (∃ fn : Func, P.funcs[f]? = some fn ∧ fn.body.isSome = true) ∧
    ∀ w (xs : Array Value), PiecesOK G ts xs.toList w → Calls P f xs w fun e w' => ∃ x, e = .returned x ∧ PackOK G rs x w' ∧ Below w.heap.size w w'

/-- The same for the worlds behind one. -/
def ToldIn (P : Program) (B : Nat) (w0 : World) (G : Sett) (T : FuncId → AT → Option AT) : Prop :=
  ∀ f ts rs, T f ts = some rs → (∃ fn : Func, P.funcs[f]? = some fn ∧ fn.body.isSome = true) ∧
    ∀ w (xs : Array Value), Below B w0 w → PiecesOK G ts xs.toList w → Calls P f xs w fun e w' => ∃ x, e = .returned x ∧ PackOK G rs x w' ∧ Below w.heap.size w w'
theorem ToldT.inn {T : FuncId → AT → Option AT} (h : ToldT P G T) : ToldIn P B w0 G T := fun f ts rs q => ⟨(h f ts rs q).1, fun w xs _ hx => (h f ts rs q).2 w xs hx⟩

theorem pieces_len {w : World} {ts : AT} : ∀ {xs ys : List Value}, PiecesOK G ts xs w → PiecesOK G ts ys w → xs.length = ys.length := by
  induction ts with
  | nil => intro xs ys h1 h2; have h1 : xs = [] := h1; have h2 : ys = [] := h2; rw [h1, h2]
  | cons a b _ ih =>
    rintro xs ys ⟨x, r, rfl, _, h1⟩ ⟨y, s, rfl, _, h2⟩
    simp [ih h1 h2]
  | _ => intro xs ys h; exact h.elim

theorem pack_VR {cls : Tg → Sh} (hs : Shaped G cls) {β : Type} {w : World} {rs : AT} {x : Value} {μ : Mu} {H : AH} {k : AV → AH → Option β} {r : β} (h : Rep P B w0 G μ H w) (hp : PackOK G rs x w) (hl : layAT cls rs H (fun vs H => k (packAV vs) H) = some r) :
    ∃ v μ' H', k v H' = some r ∧ Rep P B w0 G μ' H' w ∧ Ext H μ H' μ' ∧ VR μ' v x := by
  have many : (∃ xs : Array Value, x = .tuple xs ∧ PiecesOK G rs xs.toList w) → (∀ t, rs ≠ .cons t .nil) → ∃ v μ' H', k v H' = some r ∧ Rep P B w0 G μ' H' w ∧ Ext H μ H' μ' ∧ VR μ' v x := by
    rintro ⟨xs, rfl, hpp⟩ hn
    clear hp
    obtain ⟨vs, μ', H', k1, k2, k3, k4⟩ := (lay_rep hs rs μ H _ r h hl).2 xs.toList hpp
    refine ⟨_, μ', H', k1, k2, k3, ?_⟩
    have : packAV vs = .tup vs := by
      unfold packAV
      split
      · rename_i v
        obtain ⟨x, r', e, _, h2⟩ := k4
        have h2 : r' = [] := h2
        subst h2
        cases rs with
        | cons a b =>
          obtain ⟨y, s, e2, _, h3⟩ := hpp
          rw [e] at e2
          cases e2
          cases b with
          | nil => exact absurd rfl (hn a)
          | cons _ _ => obtain ⟨_, _, q, _⟩ := h3; cases q
          | _ => exact h3.elim
        | nil => have : xs.toList = [] := hpp; rw [this] at e; cases e
        | _ => exact hpp.elim
      · rfl
    rw [this]
    exact ⟨xs, rfl, k4⟩
  unfold PackOK at hp
  split at hp
  · rename_i t
    obtain ⟨vs, μ', H', k1, k2, k3, k4⟩ := (lay_rep hs (.cons t .nil) μ H _ r h hl).2 [x] ⟨x, [], rfl, hp, rfl⟩
    obtain ⟨y, r', e, h1, h2⟩ : ∃ y r', vs = .cons y r' ∧ VR μ' y x ∧ LR μ' r' [] := by
      cases vs with
      | cons y r' => obtain ⟨x', r2, e, h1, h2⟩ := k4; cases e; exact ⟨y, r', rfl, h1, h2⟩
      | nil => have : [x] = [] := k4; cases this
      | _ => exact k4.elim
    have hr : r' = .nil := by
      cases r' with
      | nil => rfl
      | cons a b => obtain ⟨_, _, e2, _⟩ := h2; cases e2
      | _ => exact h2.elim
    subst e; subst hr
    exact ⟨y, μ', H', k1, k2, k3, h1⟩
  · rename_i hne
    exact many hp (fun t e => hne t e)

theorem oracle_ok {cls : Tg → Sh} (hs : Shaped G cls) {T : FuncId → AT → Option AT} (hT : ToldIn P B w0 G T) : CallsOK P B w0 G (oracle cls T) := by
  intro f args H v H' ho
  unfold oracle at ho
  split at ho
  · rename_i ts hts
    split at ho
    · rename_i rs hrs
      obtain ⟨h1, h2⟩ := hT _ _ _ hrs
      refine ⟨h1, fun μ w xs hrep hxs => callsIn_wide.2 ((h2 w xs hrep.below ((atOf_sound hs hrep args).2 _ hts _ hxs)).mono ?_)⟩
      rintro e w' ⟨x, rfl, hp, hb⟩
      obtain ⟨v', μ', H2, k1, k2, k3, k4⟩ := pack_VR hs (k := fun v H => some (v, H)) (hrep.onto hb) hp ho
      cases k1
      exact ⟨x, μ', rfl, k3, k4, k2⟩
    · cases ho
  · cases ho

/-- A function is run on pieces. -/
def runF (P : Program) (cls : Tg → Sh) (T : FuncId → AT → Option AT) (res : List TypeId) (D : List FuncId) (n : Nat) (f : FuncId) (ts : AT) : Option AT :=
  layAT cls ts (bare res) fun args H => match (cb P [] (oracle cls T) D n).call f args H with
    | some (.tup vs, H') => (match (atOf cls H' vs).2 with | some (.cons _ .nil) => none | r => r)
    | some (v, H') => (atOf cls H' (.cons v .nil)).2
    | none => none

theorem run_soundW (hm : P.follows .mixedOrders = true) (hN : NamesOK P) {cls : Tg → Sh} (hs : Shaped G cls) (hids : G.ids = []) {T : FuncId → AT → Option AT} {w : World} (hT : ToldIn P w.heap.size w G T) {D : List FuncId} (hD : ∀ g ∈ D, StillFn P g) {n : Nat} {f : FuncId} {ts rs : AT}
    (h : runF P cls T G.res D n f ts = some rs) {xs : Array Value} (hx : PiecesOK G ts xs.toList w) :
    Calls P f xs w fun e w' => ∃ x, e = .returned x ∧ PackOK G rs x w' ∧ Below w.heap.size w w' := by
  unfold runF at h
  obtain ⟨vs, μ', H', k1, k2, k3, k4⟩ := (lay_rep hs ts _ _ _ _ (bare_rep hids w) h).2 _ hx
  split at k1
  · rename_i us H2 hcall
    refine (calls_of_run (G := G) hm hN (oracle_ok hs hT) hD (by rw [hids]; exact hcall) k2 k4).mono ?_
    rintro e w' ⟨x, μ2, rfl, _, hv, hrep⟩
    obtain ⟨ys, rfl, hy⟩ := hv
    refine ⟨_, rfl, ?_, hrep.below⟩
    split at k1
    · cases k1
    · rename_i hne
      have hp := (atOf_sound hs hrep us).2 _ k1 _ hy
      unfold PackOK
      split
      · rename_i t
        exact absurd k1 (hne t)
      · exact ⟨ys, rfl, hp⟩
  · rename_i u H2 hne hcall
    refine (calls_of_run (G := G) hm hN (oracle_ok hs hT) hD (by rw [hids]; exact hcall) k2 k4).mono ?_
    rintro e w' ⟨x, μ2, rfl, _, hv, hrep⟩
    have hp := (atOf_sound hs hrep (.cons u .nil)).2 _ k1 _ (LR.cons hv LR.nil)
    refine ⟨_, rfl, ?_, hrep.below⟩
    cases rs with
    | cons a b =>
      obtain ⟨y, s, e2, h1, h3⟩ := hp
      cases e2
      cases b with
      | nil => exact h1
      | cons _ _ => obtain ⟨_, _, q, _⟩ := h3; cases q
      | _ => exact h3.elim
    | nil => cases hp
    | _ => exact hp.elim
  · cases k1
theorem run_sound (hm : P.follows .mixedOrders = true) (hN : NamesOK P) {cls : Tg → Sh} (hs : Shaped G cls) (hids : G.ids = []) {T : FuncId → AT → Option AT} (hT : ToldT P G T) {D : List FuncId} (hD : ∀ g ∈ D, StillFn P g) {n : Nat} {f : FuncId} {ts rs : AT}
    (h : runF P cls T G.res D n f ts = some rs) {w : World} {xs : Array Value} (hx : PiecesOK G ts xs.toList w) :
    Calls P f xs w fun e w' => ∃ x, e = .returned x ∧ PackOK G rs x w' ∧ Below w.heap.size w w' :=
  run_soundW hm hN hs hids hT.inn hD h hx

end
end Go.Eng
