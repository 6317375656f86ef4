/-
  One operation of the abstract machine, calls too; a list of operations in their order: against the model's walk.
  Conditions: what is called does what the abstract machine says (CallOK, RoundOK), and no function with a body bears the one name that the model treats apart (NamesOK).
-/
import Derived.Test.YtjcmalmcijpnnaaDoorEngK
namespace Go.Eng
open Go.RowKit

section
variable {P : Program} {B : Nat} {w0 : World} {G : List Nat} {μ : Mu} {H : AH} {w : World}

theorem allOf_app {a b : AV} {xs ys : Array Value} (h1 : LR μ a xs.toList) (h2 : LR μ b ys.toList) : LR μ (a.app b) (xs ++ ys).toList := by
  rw [Array.toList_append]; exact LR.app h2 h1

/-- An operation that runs to a value, or to nothing. -/
theorem wpIn_of_run {o : Oper} {c : CAct} {ro : Option Nat} {K : CAct → World → Prop} {Q : Exit → CAct → World → Prop} {res : Next} {x : Value} {w' : World} (hd : ∀ q, o.op ≠ .defer q) (hr : (execOp c.eval o).run P w = .ok res w')
    (hx : res = .value x ∨ (res = .skip ∧ x = undef)) (hK : K (c.put o.dst x) w') : o.wpIn (Fz ro) 0 P c w K Q := by
  refine ⟨fun f _ => Fz_fn ro f, ?_⟩
  rw [Oper.semAt_eq _ _ _ hd, hr]
  rcases hx with rfl | ⟨rfl, rfl⟩
  · exact hK
  · exact hK

theorem quiet_noDefer {ρ : Env} {op : Op} {v : AV} (h : quietOf P ρ op H = some v) (q : Call) : op ≠ .defer q := by
  rintro rfl; simp [quietOf] at h
theorem alloc_noDefer {ρ : Env} {op : Op} {v : Mk × (Nat → AV)} (h : allocOf P ρ op = some v) (q : Call) : op ≠ .defer q := by
  rintro rfl; simp [allocOf] at h
theorem bar_noDefer {β : Type} {ρ : Env} {op : Op} {k : AV → AH → Option β} {r : β} (h : barOf P ρ op H k = some r) (q : Call) : op ≠ .defer q := by
  rintro rfl; simp [barOf] at h

theorem lay_mk (h : Rep P B w0 G μ H w) (m : Mk) : Rep P B w0 G μ (match m with | .cells e cs => H.withCells e cs | .map kt => H.withNew (.map kt .nil)) w := by
  cases m with
  | cells e cs => exact h.layCells e cs
  | map kt => exact h.layObj _ (by simp)

def AH.made (H : AH) : Mk → AH
  | .cells e cs => H.withCells e cs
  | .map kt => H.withNew (.map kt .nil)

theorem made_get {m : Mk} {o : AObj} (h : (H.made m).objs.get H.next = some o) : o = m.obj H.next := by
  cases m with
  | cells e cs =>
    rcases Tr.get_set deep H.objs H.next (some (.cells H.next 0 e cs)) H.next o h with ⟨_, q⟩ | ⟨q, _⟩
    · exact (Option.some.inj q).symm
    · exact absurd rfl q
  | map kt =>
    rcases Tr.get_set deep H.objs H.next (some (.map kt .nil)) H.next o h with ⟨_, q⟩ | ⟨q, _⟩
    · exact (Option.some.inj q).symm
    · exact absurd rfl q
theorem made_next (m : Mk) : (H.made m).next = H.next + 1 := by cases m <;> rfl

/-- An object made on both sides. -/
theorem Rep.make (h : Rep P B w0 G μ H w) {m : Mk} {obj : Obj} {N : Nat} (hfit : Fits P μ (m.obj H.next) obj N) : Rep P B w0 G (μ.add H.next w.heap.size N) (H.made m) (w.alloc obj) := by
  have h' : Rep P B w0 G μ (H.made m) w := by
    cases m with
    | cells e cs => exact h.layCells e cs
    | map kt => exact h.layObj _ (by simp)
  exact h'.bind (by rw [made_next]; exact Nat.lt_succ_self _) (fun o ho => made_get ho) (h.notYet (Nat.le_refl _)) hfit

theorem opOf_wp {β : Type} (h : Rep P B w0 G μ H w) {ρ : Env} {c : CAct} {o : Oper} (hρ : ∀ x ∈ o.op.operands, ∀ v, ρ x = some v → VR μ v (c.eval x)) {k : AV → AH → Option β} {r : β} (hk : opOf P ρ o H k = some r) {ro : Option Nat} {K : CAct → World → Prop} {Q : Exit → CAct → World → Prop}
    (hK : ∀ v H' μ' x w', k v H' = some r → Ext H μ H' μ' → VR μ' v x → Rep P B w0 G μ' H' w' → K (c.put o.dst x) w') : o.wpIn (Fz ro) 0 P c w K Q := by
  unfold opOf at hk
  cases hb : isBar o.op with
  | true =>
    rw [hb] at hk
    simp only [cond_true] at hk
    obtain ⟨v, H', w', μ', x, res, g1, g2, g3, g4, g5, g6⟩ := bar_sound h hρ hk
    exact wpIn_of_run (bar_noDefer hk) g2 g3 (hK v H' μ' x w' g1 g4 g5 g6)
  | false =>
    rw [hb] at hk
    simp only [cond_false] at hk
    cases hal : isAlloc o.op with
    | true =>
      rw [hal] at hk
      simp only [cond_true] at hk
      split at hk
      · rename_i e cs f hmk
        obtain ⟨obj, N, x, g1, g2, g3⟩ := alloc_sound hρ hmk w
        rw [newCells_eq] at hk
        exact wpIn_of_run (alloc_noDefer hmk) g1 (.inl rfl) (hK _ _ _ x _ hk (.add (h.notYet (Nat.le_refl _)) (Nat.le_succ _)) (g3 _ _ (if_pos rfl)) (h.make (m := .cells e cs) (g2 _)))
      · rename_i kt f hmk
        obtain ⟨obj, N, x, g1, g2, g3⟩ := alloc_sound hρ hmk w
        rw [newObj_eq] at hk
        exact wpIn_of_run (alloc_noDefer hmk) g1 (.inl rfl) (hK _ _ _ x _ hk (.add (h.notYet (Nat.le_refl _)) (Nat.le_succ _)) (g3 _ _ (if_pos rfl)) (h.make (m := .map kt) (g2 _)))
      · cases hk
    | false =>
      rw [hal] at hk
      simp only [cond_false] at hk
      split at hk
      · rename_i v hq
        obtain ⟨x, g1, g2⟩ := quiet_sound h hρ hq
        have hk' : k v H = some r := by
          cases hp : plainOp o.op with
          | true => rw [hp] at hk; exact hk
          | false => rw [hp] at hk; simpa [ok] using hk
        exact wpIn_of_run (quiet_noDefer hq) g1 (.inl rfl) (hK v H μ x w hk' (.refl H μ) g2 h)
      · cases hk

theorem stepE_wp {β : Type} {self : Cb} (hN : NamesOK P) (hC : CallOK P B w0 G self) (hR : RoundOK P B w0 G self) (h : Rep P B w0 G μ H w) {ρ : Env} {c : CAct} {o : Oper} (hρ : ∀ x ∈ o.op.operands, ∀ v, ρ x = some v → VR μ v (c.eval x)) {k : AV → AH → Option β} {r : β}
    (hk : stepE P self ρ o H k = some r) {ro : Option Nat} {K : CAct → World → Prop} {Q : Exit → CAct → World → Prop}
    (hK : ∀ v H' μ' x w', k v H' = some r → Ext H μ H' μ' → VR μ' v x → Rep P B w0 G μ' H' w' → K (c.put o.dst x) w') : o.wpIn (Fz ro) 0 P c w K Q := by
  unfold stepE at hk
  split at hk
  · rename_i f args at' hop
    have hd : ∀ q, o.op ≠ .defer q := by intro q; rw [hop]; simp
    have hsem : o.semAt (Fz ro).round c.eval = execOp c.eval o := Oper.semAt_eq _ _ _ hd
    split at hk
    · rename_i g fs cs xs hf hxs
      split at hk
      · rename_i v H' hcall
        simp only [ok, AV.force_eq] at hk
        obtain ⟨⟨fn, hfn, hbody⟩, hcalls⟩ := hC _ _ _ _ _ hcall
        obtain ⟨us, vs, hev, hus, hvs⟩ := hρ f (by rw [hop]; simp [Op.operands, Call.operands]) _ hf
        have hargs : LR μ xs (args.map c.eval).toList := by
          have := allOf_LR (ρc := c.eval) (fun x hx v hv => hρ x (by rw [hop]; simp [Op.operands, Call.operands]; exact .inr (by simpa using hx)) v hv) hxs
          rw [Array.toList_map]; exact this
        have hall : LR μ (fs.app (xs.app cs)) ((us ++ args.map c.eval) ++ vs).toList := by
          rw [Array.append_assoc]
          exact allOf_app hus (allOf_app hargs hvs)
        have hrun : (execOp c.eval o).run P w = .ok (.enter g ((us ++ args.map c.eval) ++ vs)) w := by
          have hbn : fn.body ≠ none := by intro q; rw [q] at hbody; simp at hbody
          unfold execOp
          rw [hop]
          simp only [resolve, hev, Deferred.ofValue, Sem.run_bind, Sem.run_pure, Result.andThen_ok, invoke, callFunc, run_program, hfn, hN g fn hfn hbody, Bool.false_eq_true, if_false]
          have : fn.body.isNone = false := by cases hq : fn.body <;> simp_all
          rw [this]; rfl
        refine ⟨fun f _ => Fz_fn ro f, ?_⟩
        rw [hsem, hrun]
        exact ⟨Fz_depth ro, Fz_calls ((hcalls μ w _ h hall).mono (fun e w' q => by obtain ⟨x, μ', he, g1, g2, g3⟩ := q; subst he; exact hK v H' μ' x w' hk g1 g2 g3))⟩
      · cases hk
    · rename_i l xs hf hxs
      split at hk
      · rename_i v H' hround
        simp only [ok, AV.force_eq] at hk
        obtain ⟨b, N, hm, hev⟩ := hρ f (by rw [hop]; simp [Op.operands, Call.operands]) _ hf
        have hargs : LR μ xs (args.map c.eval).toList := by
          have := allOf_LR (ρc := c.eval) (fun x hx v hv => hρ x (by rw [hop]; simp [Op.operands, Call.operands]; exact .inr (by simpa using hx)) v hv) hxs
          rw [Array.toList_map]; exact this
        obtain ⟨L, hL, hsz, hrd⟩ := hR _ _ _ _ _ hround μ w b N (args.map c.eval) h hm hargs
        have hrun : (execOp c.eval o).run P w = .ok (.round b L.fn ((L.params.zip (args.map c.eval)).foldl (fun tmps (t, a) => tmps.setIfInBounds t a) L.tmps) L.assign L.body) w := by
          unfold execOp
          rw [hop]
          have hget : (Instr.getLoop b).run P w = .ok L w := by simp [Instr.getLoop, getObj, Sem.run, hL]
          simp only [resolve, hev, Deferred.ofValue, Sem.run_bind, Sem.run_pure, Result.andThen_ok, invoke, Instr.yield, hget]
          have : ¬ ((#[] : Array Value) ++ args.map c.eval).size ≠ L.params.size := by simpa using hsz
          rw [if_neg this]
          simp
        refine ⟨fun f _ => Fz_fn ro f, ?_⟩
        rw [hsem, hrun]
        exact ⟨Fz_depth ro, Fz_rounds (hrd.mono (fun e w' q => by obtain ⟨x, μ', he, g1, g2, g3⟩ := q; subst he; exact hK v H' μ' x w' hk g1 g2 g3))⟩
      · cases hk
    · cases hk
  · exact opOf_wp h hρ hk hK

/-- Whether an operation is wanted. -/
theorem wanted_rel {a : Act} {c : CAct} (ha : TR μ a.nt a.T c.tmps) {ops : Array Oper} {o : Oper} {b : Bool} (hw : wantedA ops a o = some b) : Region.wanted o (yielded ops c.tmps) = b := by
  unfold wantedA at hw
  unfold Region.wanted
  split at hw
  · rename_i hg; simp at hw; subst hw; rw [hg]
  · rename_i j want hg
    rw [hg]
    simp only [yielded]
    split at hw
    · rename_i hd; simp at hw; subst hw; rw [hd]; simp
    · rename_i d hd
      rw [hd]
      simp only [Option.bind_some]
      split at hw
      · rename_i q hq
        simp at hw; subst hw
        have hv : c.tmps.getD d undef = .bool q := ha.2 d _ hq
        have hlt : c.tmps[d]? = some (.bool q) := by
          rw [Array.getD_eq_getD_getElem?] at hv
          cases hcd : c.tmps[d]? with
          | none => rw [hcd] at hv; simp [undef] at hv
          | some x => rw [hcd] at hv; simpa using hv
        rw [hlt]
        simp [beqB_iff]
      · rename_i hq
        simp at hw; subst hw
        have hv : c.tmps.getD d undef = .tuple #[] := ha.2 d _ hq
        rw [Array.getD_eq_getD_getElem?] at hv
        cases hcd : c.tmps[d]? with
        | none => simp
        | some x => rw [hcd] at hv; simp at hv; subst hv; simp
      · cases hw

theorem runOps_wp {self : Cb} (hN : NamesOK P) (hC : CallOK P B w0 G self) (hR : RoundOK P B w0 G self) {ops : Array Oper} {ro : Option Nat} {Q : Exit → CAct → World → Prop} : ∀ (l : List Nat) (a : Act) (H : AH) (c : CAct) (μ : Mu) (w : World) (a' : Act) (H' : AH),
    runOps P G self ops l a H = some (a', H') → Rep P B w0 G μ H w → ActRel μ a c → (∀ c' μ' w', Ext H μ H' μ' → ActRel μ' a' c' → Rep P B w0 G μ' H' w' → Q .normal c' w') → wpOpsIn (Fz ro) 0 P ops Q l c w
  | [], a, H, c, μ, w, a', H', hr, h, ha, hQ => by
    simp [runOps] at hr
    obtain ⟨rfl, rfl⟩ := hr
    exact hQ c μ w (.refl _ μ) ha h
  | i :: r, a, H, c, μ, w, a', H', hr, h, ha, hQ => by
    simp only [runOps] at hr
    simp only [wpOpsIn]
    split at hr
    · cases hr
    · rename_i o ho
      rw [ho]
      simp only
      split at hr
      · rename_i hw
        rw [wanted_rel ha.1 hw]
        simp only [if_true]
        refine stepE_wp hN hC hR h (fun x _ v hv => env_rel h ha.1 hv) hr ?_
        intro v H1 μ1 x w1 g1 g2 g3 g4
        obtain ⟨a1, g5, g6, _, _⟩ := put_some g1 (ha.mono g2.1) g3
        exact runOps_wp hN hC hR r a1 H1 _ μ1 w1 a' H' g5 g4 g6 (fun c' μ' w' q1 q2 q3 => hQ c' μ' w' (g2.trans q1) q2 q3)
      · rename_i hw
        rw [wanted_rel ha.1 hw]
        simp only [Bool.false_eq_true, if_false]
        refine ⟨fun f _ => Fz_fn ro f, ?_⟩
        obtain ⟨a1, g5, g6, _, _⟩ := put_some hr ha (x := undef) rfl
        exact runOps_wp hN hC hR r a1 H _ μ w a' H' g5 h g6 hQ
      · cases hr

end
end Go.Eng
