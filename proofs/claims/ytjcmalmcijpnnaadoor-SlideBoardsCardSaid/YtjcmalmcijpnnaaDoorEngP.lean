/-
  Code, calls and rounds of the abstract machine, against the model's walk; a whole run.
  Conditions: the program follows the row on mixed orders; no function with a body bears the one name that the model treats apart.
-/
import Derived.Test.YtjcmalmcijpnnaaDoorEngO
namespace Go.Eng
open Go.RowKit

def XRel : AX → Exit → Prop
  | .normal, .normal => True
  | .exit i, .exit j => i = j
  | .goto i, .goto j => i = j
  | .ret, .ret => True
  | _, _ => False

def RoRel (μ : Mu) : Option Nat → Option Nat → Prop
  | none, r => r = none
  | some l, r => ∃ b N, μ l = some (b, N) ∧ r = some b
theorem RoRel.mono {μ ν : Mu} (h : μ.le ν) : ∀ {a b : Option Nat}, RoRel μ a b → RoRel ν a b
  | none, _, h' => h'
  | some _, _, ⟨b, N, hm, e⟩ => ⟨b, N, h _ _ hm, e⟩

def PostC (P : Program) (B : Nat) (w0 : World) (G : List Nat) (μ : Mu) (H : AH) (x : AX) (a' : Act) (H' : AH) : Exit → CAct → World → Prop :=
  fun e c' w' => XRel x e ∧ ∃ μ', Ext H μ H' μ' ∧ ActRel μ' a' c' ∧ Rep P B w0 G μ' H' w'

def CodeOK (P : Program) (B : Nat) (w0 : World) (G : List Nat) (sf : Cb) : Prop :=
  ∀ ro fn cd a H x a' H', sf.code ro fn cd a H = some (x, a', H') → ∀ μ w c ro', RoRel μ ro ro' → Rep P B w0 G μ H w → ActRel μ a c → cd.wpIn (Fz ro') 0 P (PostC P B w0 G μ H x a' H') c w

section
variable {P : Program} {B : Nat} {w0 : World} {G : List Nat} {self : Cb}

theorem stepR_scope' {b : Frame} {a : CAct} {k : List Item} {cs : List Frame} {w : World} {c : Code} : step P (lone (b.atR a (.code (.scope c) :: k)) cs w) = .next (lone (b.atR a (.code c :: .inScope c :: k)) cs w) :=
  step_lone_go (by simp [stepG, stepG.exec, Frame.atR])
theorem stepR_inScope' {b : Frame} {a : CAct} {k : List Item} {cs : List Frame} {w : World} {c : Code} : step P (lone (b.atR a (.inScope c :: k)) cs w) = .next (lone (b.atR a k) cs w) :=
  step_lone_go (by simp [stepG, stepG.exec, Frame.atR])

def noGoto (Q : Exit → CAct → World → Prop) : Exit → CAct → World → Prop
  | .goto _, _, _ => False
  | e, a, w => Q e a w

theorem wpIn_scope {F : Fence} {n : Nat} {c : Code} {Q : Exit → CAct → World → Prop} {a : CAct} {w : World} (h : c.wpIn F n P (noGoto Q) a w) : (Code.scope c).wpIn F n P Q a w := by
  intro b k cs hro hb hr
  have h0 : (lone (b.atR a (.code (.scope c) :: k)) cs w).fenced P F := fenced_calm hb hr rfl
  obtain ⟨e, a₁, w₁, hq, harr⟩ := h b (.inScope c :: k) cs hro hb hr
  cases e with
  | normal => exact ⟨.normal, a₁, w₁, hq, .head h0 stepR_scope' (StepsIn.trans harr (.one (fenced_calm hb hr rfl) stepR_inScope'))⟩
  | exit id =>
    have hx : exitTo id (.inScope c :: k) = exitTo id k := by simp [exitTo]
    exact ⟨_, a₁, w₁, hq, fun k' hk => .head h0 stepR_scope' (harr.1 k' (by rw [hx]; exact hk)),
      fun hr' hk => let ⟨k₁, h1, h2⟩ := harr.2 hr' (by rw [hx]; exact hk); ⟨k₁, h1, .head h0 stepR_scope' h2⟩⟩
  | goto l => exact hq.elim
  | ret => exact ⟨_, a₁, w₁, hq, .of_steps (.one h0 stepR_scope') harr⟩
  | panic ch => exact ⟨_, a₁, w₁, hq, .of_steps (.one h0 stepR_scope') harr⟩
  | outgrown => exact ⟨_, a₁, w₁, hq, .of_steps (.one h0 stepR_scope') harr⟩

theorem PostC.trans {μ μ1 : Mu} {H H1 H' : AH} {x : AX} {a' : Act} (h1 : Ext H μ H1 μ1) {e : Exit} {c : CAct} {w : World} (h : PostC P B w0 G μ1 H1 x a' H' e c w) : PostC P B w0 G μ H x a' H' e c w := by
  obtain ⟨hx, μ', h2, h3⟩ := h
  exact ⟨hx, μ', h1.trans h2, h3⟩

theorem loopN_wp {cd : Code} {f : Act → AH → Option (AX × Act × AH)} {ro ro' : Option Nat} (hf : ∀ a H x a' H', f a H = some (x, a', H') → ∀ μ w c, RoRel μ ro ro' → Rep P B w0 G μ H w → ActRel μ a c → cd.wpIn (Fz ro') 0 P (PostC P B w0 G μ H x a' H') c w) :
    ∀ (m : Nat) (a : Act) (H : AH) (x : AX) (a' : Act) (H' : AH), loopN f m a H = some (x, a', H') → ∀ μ w c, RoRel μ ro ro' → Rep P B w0 G μ H w → ActRel μ a c →
      ∀ Q : Exit → CAct → World → Prop, (∀ e c' w', PostC P B w0 G μ H x a' H' e c' w' → Q e c' w') → Code.roundsIn (Fz ro') 0 P cd Q m c w
  | 0, a, H, x, a', H', h, _, _, _, _, _, _, _, _ => by simp [loopN] at h
  | m + 1, a, H, x, a', H', h, μ, w, c, hro, hrep, ha, Q, hQ => by
    simp only [loopN] at h
    show cd.wpIn (Fz ro') 0 P (Exit.then (Code.roundsIn (Fz ro') 0 P cd Q m) Q) c w
    split at h
    · rename_i a1 H1 h1
      refine wpIn_mono (hf _ _ _ _ _ h1 μ w c hro hrep ha) ?_
      rintro e c1 w1 ⟨hx, μ1, g1, g2, g3⟩
      cases e <;> first | exact hx.elim | skip
      exact loopN_wp hf m a1 H1 x a' H' h μ1 w1 c1 (hro.mono g1.1) g3 g2 Q (fun e c' w' q => hQ e c' w' (q.trans g1))
    · rename_i hne
      refine wpIn_mono (hf _ _ _ _ _ h μ w c hro hrep ha) ?_
      rintro e c1 w1 q
      have q' := q
      obtain ⟨hx, μ1, g1, g2, g3⟩ := q
      cases e <;> cases x <;> first | exact hx.elim | exact hQ _ _ _ q' | exact absurd h (hne _ _)

/-- What the frame's marks give at its end. -/
theorem ends_leave {fn : Func} {tmps : Array Value} {R : Ending → World → Prop} : ∀ (ds : List Nat) (H : AH) (k : AH → Option (AV × AH)) (r : AV × AH), endsOk H ds k = some r → ∀ μ w (l : List Deferred), Rep P B w0 G μ H w → DR μ ds l →
    (∀ H' w', H'.next = H.next → Rep P B w0 G μ H' w' → k H' = some r → ∃ v, (results fn tmps).run P w' = .ok v w' ∧ R (.returned v) w') → LeavesInM Fence.wide 0 P fn tmps R l .returning w
  | [], H, k, r, h, μ, w, l, hrep, hl, hK => by
    have hl' : l = [] := hl
    subst hl'
    exact hK H w rfl hrep h
  | i :: ds, H, k, r, h, μ, w, l, hrep, hl, hK => by
    obtain ⟨b, N, t, rfl, hm, ht⟩ := hl
    simp only [endsOk] at h
    split at h
    · rename_i ho
      rw [withObj_eq] at h
      obtain ⟨hB, hw⟩ := hrep.defd _ _ _ _ ho hm
      rw [if_pos rfl] at hw
      refine ⟨by simp, .inl ⟨b, withObjAt w b (.deferred none), rfl, by simp [Instr.takeDeferred, getObj, setObj, Sem.run, hw, withObjAt], ?_⟩⟩
      refine ends_leave ds (H.set i (.defd false)) k r h μ _ t (hrep.setObj ho hm hB (by simp) (by simp) ?_) ht (fun H' w' q1 q2 q3 => hK H' w' q1 q2 q3)
      exact ⟨(by intro _ _ _ _ he; cases he), (by intro _ _ he; cases he), (by intro _ _ _ _ _ _ _ _ _ he; cases he), (by intro op he; cases he; rfl)⟩
    · cases h

def resF (tmps : Array Value) : ResultVar → Sem Value
  | .tmp t => pure (tmps.getD t undef)
  | .cell a t => do loadVar t (← asAddr (tmps.getD a undef))

theorem results_eq (fn : Func) (tmps : Array Value) : results fn tmps = (do
    let vs ← fn.results.mapM (resF tmps)
    pure (if h : vs.size = 1 then vs[0] else .tuple vs)) := by
  have : (fun (q : ResultVar) => match q with
      | .tmp t => (pure (tmps.getD t undef) : Sem Value)
      | .cell a t => do loadVar t (← asAddr (tmps.getD a undef))) = resF tmps := by
    funext q; cases q <;> rfl
  unfold results
  rw [← this]
  rfl

theorem results_run {μ : Mu} {H : AH} {w : World} (h : Rep P B w0 G μ H w) {a : Act} {c : CAct} (ha : TR μ a.nt a.T c.tmps) : ∀ {rs : List ResultVar} {vs : AV}, resultsOf P H a rs = some vs →
    ∃ xs : List Value, (rs.mapM (resF c.tmps)).run P w = .ok xs w ∧ LR μ vs xs
  | [], vs, hr => by simp [resultsOf] at hr; subst hr; exact ⟨[], rfl, rfl⟩
  | .tmp t :: rs, vs, hr => by
    simp only [resultsOf] at hr
    split at hr
    · rename_i v us hv hus
      simp at hr; subst hr
      obtain ⟨xs, h1, h2⟩ := results_run h ha hus
      have h0 : (resF c.tmps (.tmp t)).run P w = .ok (c.tmps.getD t undef) w := rfl
      exact ⟨c.tmps.getD t undef :: xs, by simp only [List.mapM_cons, Sem.run_bind, h0, h1, Result.andThen_ok, Sem.run_pure], LR.cons (ha.2 t v hv) h2⟩
    · cases hr
  | .cell t ty :: rs, vs, hr => by
    simp only [resultsOf] at hr
    split at hr
    · rename_i i off hv
      have hp := ha.2 t _ hv
      have fin : ∀ {y : Value} {v us : AV}, (Instr.loadAt ty (c.tmps.getD t undef)).run P w = .ok y w → VR μ v y → resultsOf P H a rs = some us → ∃ xs : List Value, ((ResultVar.cell t ty :: rs).mapM (resF c.tmps)).run P w = .ok xs w ∧ LR μ (.cons v us) xs := by
        intro y v us h3 h4 hus
        obtain ⟨xs, h1, h2⟩ := results_run h ha hus
        obtain ⟨b, N, hm, hx⟩ := hp
        rw [hx] at h3
        have h3' : (loadVar ty ⟨b, off, none⟩).run P w = .ok y w := by simpa [Instr.loadAt, Instr.sureAddr] using h3
        have h0 : (resF c.tmps (.cell t ty)).run P w = .ok y w := by
          simp only [resF, hx, asAddr, Sem.run_bind, Sem.run_pure, Result.andThen_ok, h3']
        exact ⟨y :: xs, by simp only [List.mapM_cons, Sem.run_bind, h0, h1, Result.andThen_ok, Sem.run_pure], LR.cons h4 h2⟩
      split at hr
      · rename_i n hg hs
        split at hr
        · rename_i cs us hc hus
          simp at hr; subst hr
          obtain ⟨y, h3, h4⟩ := load_agg h hg hs hp hc
          exact fin h3 h4 hus
        · cases hr
      · rename_i n hg hs
        split at hr
        · rename_i v r us hc hus
          simp at hr; subst hr
          obtain ⟨y, h3, h4⟩ := load_one h hg hp hc
          exact fin h3 h4 hus
        · cases hr
      · cases hr
    · cases hr

theorem setAll_range {nt : Nat} : ∀ (vs : AV) (s : Nat) (T : Tr AV) (k : Tr AV → Option (AV × AH)) (r : AV × AH), setAll nt T (List.range' s vs.len) vs k = some r →
    ∃ T', k T' = some r ∧ ∀ t v, T'.get t = some v → (∃ i, t = s + i ∧ vs.nth i = some v) ∨ T.get t = some v
  | .cons v vs, s, T, k, r, h => by
    simp only [AV.len, List.range'_succ, setAll] at h
    cases hb : Nat.blt s nt with
    | false => rw [hb] at h; cases h
    | true =>
      rw [hb] at h
      simp only [cond_true, Tr.setK_eq] at h
      obtain ⟨T', h1, h2⟩ := setAll_range vs (s + 1) _ k r h
      refine ⟨T', h1, ?_⟩
      intro t u q
      rcases h2 t u q with ⟨i, rfl, hi⟩ | q
      · exact .inl ⟨i + 1, by omega, hi⟩
      · rcases Tr.get_set deep T s (some v) t u q with ⟨rfl, q'⟩ | ⟨_, q'⟩
        · cases q'; exact .inl ⟨0, by omega, rfl⟩
        · exact .inr q'
  | .nil, s, T, k, r, h => by
    simp only [AV.len, List.range'_zero, setAll] at h
    exact ⟨T, h, fun t v q => .inr q⟩
  | .sc _, _, _, _, _, h | .ptr .., _, _, _, _, h | .slc .., _, _, _, _, h | .map _, _, _, _, _, h | .yield _, _, _, _, _, h | .fn .., _, _, _, _, h | .iface .., _, _, _, _, h | .agg _, _, _, _, _, h | .tup _, _, _, _, _, h => by
    simp [AV.len, setAll] at h

theorem setAll_TR {μ : Mu} {nt : Nat} : ∀ (ts : List Tmp) (vs : AV) (ys : List Value) (T : Tr AV) (tmps : Array Value) (k : Tr AV → Option (AV × AH)) (r : AV × AH), setAll nt T ts vs k = some r → LR μ vs ys → TR μ nt T tmps →
    ts.length = ys.length ∧ ∃ T', k T' = some r ∧ TR μ nt T' ((ts.zip ys).foldl (fun tmps (q : Tmp × Value) => tmps.setIfInBounds q.1 q.2) tmps)
  | [], .nil, ys, T, tmps, k, r, h, hl, ht => by
    have hl' : ys = [] := hl
    subst hl'
    exact ⟨rfl, T, h, ht⟩
  | t :: ts, .cons v vs, ys, T, tmps, k, r, h, hl, ht => by
    obtain ⟨y, ys', rfl, h1, h2⟩ := hl
    simp only [setAll] at h
    cases hb : Nat.blt t nt with
    | false => rw [hb] at h; cases h
    | true =>
      rw [hb] at h
      simp only [cond_true, Tr.setK_eq] at h
      obtain ⟨g1, T', g2, g3⟩ := setAll_TR ts vs ys' _ (tmps.setIfInBounds t y) k r h h2 (ht.put ((blt_iff _ _).1 hb) h1)
      exact ⟨by simp [g1], T', g2, by simpa using g3⟩
  | [], .cons .., _, _, _, _, _, h, _, _ | [], .sc _, _, _, _, _, _, h, _, _ | [], .ptr .., _, _, _, _, _, h, _, _ | [], .slc .., _, _, _, _, _, h, _, _ | [], .map _, _, _, _, _, _, h, _, _ | [], .yield _, _, _, _, _, _, h, _, _ | [], .fn .., _, _, _, _, _, h, _, _ | [], .iface .., _, _, _, _, _, h, _, _ | [], .agg _, _, _, _, _, _, h, _, _ | [], .tup _, _, _, _, _, _, h, _, _ => by simp [setAll] at h
  | _ :: _, .nil, _, _, _, _, _, h, _, _ | _ :: _, .sc _, _, _, _, _, _, h, _, _ | _ :: _, .ptr .., _, _, _, _, _, h, _, _ | _ :: _, .slc .., _, _, _, _, _, h, _, _ | _ :: _, .map _, _, _, _, _, _, h, _, _ | _ :: _, .yield _, _, _, _, _, _, h, _, _ | _ :: _, .fn .., _, _, _, _, _, h, _, _ | _ :: _, .iface .., _, _, _, _, _, h, _, _ | _ :: _, .agg _, _, _, _, _, _, h, _, _ | _ :: _, .tup _, _, _, _, _, _, h, _, _ => by simp [setAll] at h

end
end Go.Eng
