/-
  A whole run of the abstract machine is a run of the model's.
  Conditions: the program follows the row on mixed orders; no function with a body bears the one name that the model treats apart.
-/
import Derived.Test.YtjcmalmcijpnnaaDoorEngP
namespace Go.Eng
open Go.RowKit

section
variable {P : Program} {B : Nat} {w0 : World} {G : List Nat} {self : Cb}

/-- What a run does once the calls of a loop over a function are over: the exit it left pending, if any. -/
def afterLoop (self : Cb) (fn : FuncId) (pend : Option Code) (a : Act) (H : AH) : Option (AX × Act × AH) :=
  match pend with
  | none => some (.normal, a, H)
  | some c => self.code none fn c a H

theorem codeF_ok (hm : P.follows .mixedOrders = true) (hN : NamesOK P) (hC : CallOK P B w0 G self) (hR : RoundOK P B w0 G self) (hK : CodeOK P B w0 G self) {ro : Option Nat} {fn : FuncId} {cd : Code} {a a' : Act} {H H' : AH} {x : AX}
    (h : codeF P G self ro fn cd a H = some (x, a', H')) {μ : Mu} {w : World} {c : CAct} {ro' : Option Nat} (hro : RoRel μ ro ro') (hrep : Rep P B w0 G μ H w) (ha : ActRel μ a c) : cd.wpIn (Fz ro') 0 P (PostC P B w0 G μ H x a' H') c w := by
  unfold codeF at h
  split at h
  · simp at h; obtain ⟨rfl, rfl, rfl⟩ := h
    exact wpIn_skip ⟨trivial, μ, .refl H μ, ha, hrep⟩
  · simp at h; obtain ⟨rfl, rfl, rfl⟩ := h
    exact wpIn_label ⟨trivial, μ, .refl H μ, ha, hrep⟩
  · simp at h; obtain ⟨rfl, rfl, rfl⟩ := h
    exact wpIn_exit ⟨rfl, μ, .refl H μ, ha, hrep⟩
  · simp at h; obtain ⟨rfl, rfl, rfl⟩ := h
    exact wpIn_goto ⟨rfl, μ, .refl H μ, ha, hrep⟩
  · simp at h; obtain ⟨rfl, rfl, rfl⟩ := h
    exact wpIn_ret ⟨trivial, μ, .refl H μ, ha, hrep⟩
  · rename_i id ops draw
    cases draw with
    | true =>
      simp only [cond_true] at h
      split at h
      · rename_i p hp
        split at h
        · rename_i a1 H1 hr
          simp at h; obtain ⟨rfl, rfl, rfl⟩ := h
          exact draw_wp hm hN hC hR hp hr hrep ha (fun c' μ' w' q1 q2 q3 => ⟨trivial, μ', q1, q2, q3⟩)
        · cases h
      · cases h
    | false =>
      simp only [cond_false] at h
      split at h
      · rename_i a1 H1 hr
        simp at h; obtain ⟨rfl, rfl, rfl⟩ := h
        exact wpIn_region (runOps_wp hN hC hR _ _ _ _ _ _ _ _ hr hrep ha (fun c' μ' w' q1 q2 q3 => ⟨trivial, μ', q1, q2, q3⟩))
      · cases h
  · rename_i cx cy
    split at h
    · rename_i a1 H1 h1
      refine wpIn_seq (wpIn_mono (hK _ _ _ _ _ _ _ _ h1 μ w c ro' hro hrep ha) ?_)
      rintro e c1 w1 ⟨hx, μ1, g1, g2, g3⟩
      cases e <;> first | exact hx.elim | skip
      exact wpIn_mono (hK _ _ _ _ _ _ _ _ h μ1 w1 c1 ro' (hro.mono g1.1) g3 g2) (fun e c' w' q => q.trans g1)
    · rename_i hne
      refine wpIn_seq (wpIn_mono (hK _ _ _ _ _ _ _ _ h μ w c ro' hro hrep ha) ?_)
      rintro e c1 w1 q
      have q' := q
      obtain ⟨hx, μ1, g1, g2, g3⟩ := q
      cases e <;> cases x <;> first | exact hx.elim | exact q' | exact absurd h (hne _ _)
  · rename_i cc cx cy
    split at h
    · rename_i hc
      exact wpIn_cond_true (env_rel hrep ha.1 hc) (hK _ _ _ _ _ _ _ _ h μ w c ro' hro hrep ha)
    · rename_i hc
      exact wpIn_cond_false (env_rel hrep ha.1 hc) (hK _ _ _ _ _ _ _ _ h μ w c ro' hro hrep ha)
    · cases h
  · rename_i id body
    split at h
    · rename_i id' a1 H1 h1
      refine wpIn_block (wpIn_mono (hK _ _ _ _ _ _ _ _ h1 μ w c ro' hro hrep ha) ?_)
      rintro e c1 w1 ⟨hx, hrest⟩
      cases e <;> first | exact hx.elim | skip
      rename_i j
      have hij : id' = j := hx
      subst hij
      cases hb : Nat.beq id' id with
      | true =>
        rw [hb] at h
        simp at h; obtain ⟨rfl, rfl, rfl⟩ := h
        simp only [Exit.inBlock, if_pos ((beq_iff _ _).1 hb)]
        exact ⟨trivial, hrest⟩
      | false =>
        rw [hb] at h
        simp at h; obtain ⟨rfl, rfl, rfl⟩ := h
        simp only [Exit.inBlock, if_neg ((beq_false _ _).1 hb)]
        exact ⟨rfl, hrest⟩
    · rename_i hne
      refine wpIn_block (wpIn_mono (hK _ _ _ _ _ _ _ _ h μ w c ro' hro hrep ha) ?_)
      rintro e c1 w1 q
      have q' := q
      obtain ⟨hx, μ1, g1, g2, g3⟩ := q
      cases e <;> cases x <;> first | exact hx.elim | exact q' | exact absurd h (hne _ _ _)
  · rename_i body
    exact wpIn_loop_rounds 1000000 (loopN_wp (ro := ro) (fun a H x a' H' hq μ w c q1 q2 q3 => hK _ _ _ _ _ _ _ _ hq μ w c ro' q1 q2 q3) _ _ _ _ _ _ h μ w c hro hrep ha _ (fun _ _ _ q => q))
  · rename_i body
    split at h
    · cases h
    · rename_i hne
      refine wpIn_scope (wpIn_mono (hK _ _ _ _ _ _ _ _ h μ w c ro' hro hrep ha) ?_)
      rintro e c1 w1 q
      have q' := q
      obtain ⟨hx, μ1, g1, g2, g3⟩ := q
      cases e <;> cases x <;> first | exact hx.elim | exact q' | exact absurd h (hne _ _ _)
  · rename_i g ps assign body
    split at h
    · rename_i f fs cs hg
      have hro0 : ro' = none := hro
      subst hro0
      simp only [newObj_eq] at h
      split at h
      · rename_i v H3 hcall
        obtain ⟨⟨fnr, hfn, hbody⟩, hcalls⟩ := hC _ _ _ _ _ hcall
        obtain ⟨us, vs, hev, hus, hvs⟩ := env_rel hrep ha.1 hg
        refine wpIn_rangeFunc (F := Fence.wide) ?_
        intro fn' _
        have hun0 := hrep.notYet (i := H.next) (Nat.le_refl _)
        -- the block for deferred calls
        have hrep1 : Rep P B w0 G (μ.add H.next w.heap.size 0) (H.withNew (.defd true)) (w.alloc (.deferred (some []))) := by
          refine (hrep.layObj (.defd true) (by simp)).bind (oi := .defd true) (N := 0) (Nat.lt_succ_self _) ?_ hun0 ⟨(by intro _ _ _ _ he; cases he), (by intro _ _ he; cases he), (by intro _ _ _ _ _ _ _ _ _ he; cases he), (by intro op he; cases he; rfl)⟩
          intro o ho
          rcases Tr.get_set deep H.objs H.next (some (.defd true)) H.next o ho with ⟨_, q⟩ | ⟨q, _⟩
          · exact (Option.some.inj q).symm
          · exact absurd rfl q
        have hun1 := hrep1.notYet (i := H.next + 1) (Nat.le_refl _)
        have hsz1 : (w.alloc (.deferred (some []))).heap.size = w.heap.size + 1 := World.size_alloc _ _
        let L : Loop := { state := .ready, pending := none, fn := fn', tmps := c.tmps, params := ps, assign, body, defers := w.heap.size }
        have hrep2 : Rep P B w0 G ((μ.add H.next w.heap.size 0).add (H.next + 1) (w.heap.size + 1) 0) ((H.withNew (.defd true)).withNew (.loop .ready none fn a.nt a.T ps.toList assign body H.next)) ((w.alloc (.deferred (some []))).alloc (.loop L)) := by
          rw [← hsz1]
          refine (hrep1.layObj (.loop .ready none fn a.nt a.T ps.toList assign body H.next) (by simp)).bind (oi := .loop .ready none fn a.nt a.T ps.toList assign body H.next) (N := 0) (Nat.lt_succ_self _) ?_ hun1 ⟨(by intro _ _ _ _ he; cases he), (by intro _ _ he; cases he), ?_, (by intro op he; cases he)⟩
          · intro o ho
            rcases Tr.get_set deep (H.withNew (.defd true)).objs (H.next + 1) (some (.loop .ready none fn a.nt a.T ps.toList assign body H.next)) (H.next + 1) o ho with ⟨_, q⟩ | ⟨q, _⟩
            · exact (Option.some.inj q).symm
            · exact absurd rfl q
          · intro st pend f' nt' T' ps' as' bd' dd' he
            cases he
            exact ⟨L, w.heap.size, 0, rfl, rfl, rfl, ha.1.mono (Mu.le_add hun0), rfl, rfl, rfl, if_pos rfl, rfl⟩
        have hle02 : μ.le ((μ.add H.next w.heap.size 0).add (H.next + 1) (w.heap.size + 1) 0) := (Mu.le_add hun0).trans (Mu.le_add hun1)
        have hargs : LR ((μ.add H.next w.heap.size 0).add (H.next + 1) (w.heap.size + 1) 0) (fs.app (.cons (.yield (H.next + 1)) cs)) ((us ++ #[Value.func (.yield (w.heap.size + 1)) #[] #[]]) ++ vs).toList := by
          rw [Array.append_assoc]
          refine allOf_app (LR.mono hle02 hus) ?_
          rw [Array.toList_append]
          exact LR.cons ⟨_, 0, if_pos rfl, rfl⟩ (LR.mono hle02 hvs)
        have hbn : fnr.body.isNone = false := by cases hq : fnr.body <;> simp_all
        refine ⟨w.heap.size + 1, [{ target := .collected w.heap.size, args := #[] }], (w.alloc (.deferred (some []))).alloc (.loop L), { target := .fn (.func f) vs, args := us ++ #[Value.func (.yield (w.heap.size + 1)) #[] #[]] }, (w.alloc (.deferred (some []))).alloc (.loop L), f, (us ++ #[Value.func (.yield (w.heap.size + 1)) #[] #[]]) ++ vs, (w.alloc (.deferred (some []))).alloc (.loop L),
          ?_, ?_, fun _ _ => trivial, ?_, (fun q => by cases q), ((hcalls _ _ _ hrep2 hargs).mono ?_)⟩
        · simp [Instr.enterLoop, Fence.wide, L]
        · simp only [resolve, hev, Deferred.ofValue, Sem.run_pure, List.map_toArray, List.map_cons, List.map_nil]; rfl
        · simp only [invoke, callFunc, Sem.run_bind, run_program, Result.andThen_ok, hfn, hN f fnr hfn hbody, hbn, Bool.false_eq_true, if_false]
          rfl
        · rintro e w3 ⟨y, μ3, rfl, hext3, hy, hrep3⟩
          split at h
          · rename_i st pend fn2 nt2 tm2 ps2 as2 bd2 dd2 hget
            have hml : μ3 (H.next + 1) = some (w.heap.size + 1, 0) := hext3.1 _ _ (if_pos rfl)
            obtain ⟨hB, L3, d3, M3, hw3, e1, e2, e3, e4, e5, e6, e7, e8⟩ := hrep3.loop _ _ _ _ _ _ _ _ _ _ _ _ hget hml
            have hend : st ≠ .busy → (Instr.endLoop (w.heap.size + 1)).run P w3 = .ok pend (withObjAt w3 (w.heap.size + 1) (.loop { L3 with state := .exhausted })) := by
              intro hst
              have hne : ¬ L3.state = LoopState.busy := by rw [e1]; exact hst
              simp [Instr.endLoop, Instr.getLoop, getObj, setObj, Sem.run, hw3, hne, withObjAt, e2]
            have hset := hrep3.setObj (oj := .loop .exhausted pend fn2 nt2 tm2 ps2 as2 bd2 dd2) (o := .loop { L3 with state := .exhausted }) hget hml hB (by simp) (by simp)
              ⟨(by intro _ _ _ _ he; cases he), (by intro _ _ he; cases he), (by intro _ _ _ _ _ _ _ _ _ he; cases he; exact ⟨_, d3, M3, rfl, rfl, e2, e3, e4, e5, e6, e7, e8⟩), (by intro op he; cases he)⟩
            have hext : Ext H μ (H3.set (H.next + 1) (.loop .exhausted pend fn2 nt2 tm2 ps2 as2 bd2 dd2)) μ3 := by
              refine ⟨hle02.trans hext3.1, ?_, ?_⟩
              · have h1 := hext3.2.1
                have h2 : H.next + 1 + 1 ≤ H3.next := h1
                show H.next ≤ H3.next
                omega
              · intro i hi hi0
                refine hext3.2.2 i (show i < H.next + 1 + 1 by omega) ?_
                unfold Mu.add
                rw [if_neg (by omega), if_neg (by omega)]; exact hi0
            have hact : ActRel μ3 { T := a.T, nt := a.nt, ds := H.next :: a.ds } { c with defers := [{ target := .collected w.heap.size, args := #[] }] ++ c.defers } :=
              ⟨ha.1.mono hext.1, w.heap.size, 0, c.defers, rfl, hext3.1 _ _ (by unfold Mu.add; rw [if_neg (by omega), if_pos rfl]), ha.2.mono hext.1⟩
            have fin : st ≠ .busy → (afterLoop self fn pend { T := a.T, nt := a.nt, ds := H.next :: a.ds } (H3.set (H.next + 1) (.loop .exhausted pend fn2 nt2 tm2 ps2 as2 bd2 dd2)) = some (x, a', H')) →
                rangePost Fence.wide 0 P (w.heap.size + 1) (PostC P B w0 G μ H x a' H') { c with defers := [{ target := .collected w.heap.size, args := #[] }] ++ c.defers } (.returned y) w3 := by
              intro hst hh
              refine ⟨pend, _, hend hst, ?_⟩
              cases pend with
              | none =>
                simp [afterLoop] at hh; obtain ⟨rfl, rfl, rfl⟩ := hh
                exact ⟨trivial, μ3, hext, hact, hset⟩
              | some cc =>
                exact wpIn_mono (hK _ _ _ _ _ _ _ _ hh μ3 _ _ none rfl hset hact) (fun e c' w' q => q.trans hext)
            cases st with
            | busy => cases h
            | ready => exact fin (by simp) (by simp only [withObj_eq] at h; exact h)
            | done => exact fin (by simp) (by simp only [withObj_eq] at h; exact h)
            | exhausted => exact fin (by simp) (by simp only [withObj_eq] at h; exact h)
          · cases h
      · cases h
    · cases h
  · cases h

end
end Go.Eng
