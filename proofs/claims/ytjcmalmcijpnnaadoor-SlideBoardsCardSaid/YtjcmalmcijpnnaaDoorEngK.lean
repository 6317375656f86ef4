/-
  One operation of the abstract machine, calls too, and a list of operations in their order: against the model's walk.
  Conditions: what is called does what the abstract machine says (CallOK, RoundOK), and no function with a body bears the one name that the model treats apart.
-/
import Derived.Test.YtjcmalmcijpnnaaDoorEngJ
namespace Go.Eng
open Go.RowKit

abbrev CAct := _root_.Go.Act

/-- The deferred marks of a frame. -/
def DR (μ : Mu) : List Nat → List Deferred → Prop
  | [], l => l = []
  | i :: r, l => ∃ b N t, l = { target := .collected b, args := #[] } :: t ∧ μ i = some (b, N) ∧ DR μ r t

theorem DR.mono {μ ν : Mu} (h : μ.le ν) : ∀ {ds : List Nat} {l : List Deferred}, DR μ ds l → DR ν ds l
  | [], _, h' => h'
  | _ :: _, _, ⟨b, N, t, e, hm, ht⟩ => ⟨b, N, t, e, h _ _ hm, DR.mono h ht⟩

def ActRel (μ : Mu) (a : Act) (c : CAct) : Prop := TR μ a.nt a.T c.tmps ∧ DR μ a.ds c.defers
theorem ActRel.mono {μ ν : Mu} (h : μ.le ν) {a : Act} {c : CAct} (ha : ActRel μ a c) : ActRel ν a c := ⟨ha.1.mono h, ha.2.mono h⟩

/-- What is asked behind a call. -/
def After (P : Program) (B : Nat) (w0 : World) (G : List Nat) (μ : Mu) (H : AH) (v : AV) (H' : AH) : Ending → World → Prop :=
  fun e w' => ∃ x μ', e = .returned x ∧ Ext H μ H' μ' ∧ VR μ' v x ∧ Rep P B w0 G μ' H' w'

def CallOK (P : Program) (B : Nat) (w0 : World) (G : List Nat) (self : Cb) : Prop :=
  ∀ f args H v H', self.call f args H = some (v, H') → (∃ fn : Func, P.funcs[f]? = some fn ∧ fn.body.isSome = true) ∧
    ∀ μ w (xs : Array Value), Rep P B w0 G μ H w → LR μ args xs.toList → CallsIn Fence.wide 0 P f xs w (After P B w0 G μ H v H')

def RoundOK (P : Program) (B : Nat) (w0 : World) (G : List Nat) (self : Cb) : Prop :=
  ∀ l xs H v H', self.round l xs H = some (v, H') → ∀ μ w b N (ys : Array Value), Rep P B w0 G μ H w → μ l = some (b, N) → LR μ xs ys.toList →
    ∃ L : Loop, w.heap[b]? = some (.loop L) ∧ ys.size = L.params.size ∧
      RoundIn Fence.wide 0 P b L.fn ((L.params.zip ys).foldl (fun tmps (t, a) => tmps.setIfInBounds t a) L.tmps) L.assign L.body w (After P B w0 G μ H v H')

def NamesOK (P : Program) : Prop := ∀ (f : FuncId) (fn : Func), P.funcs[f]? = some fn → fn.body.isSome = true → (fn.name == "runtime.NumGoroutine") = false

/-- The fence: wide; in a round of a loop, that round's. -/
def Fz : Option Nat → Fence
  | none => Fence.wide
  | some l => Fence.wide.inRound l

theorem Fz_fn (ro : Option Nat) (f : FuncId) : (Fz ro).fn f := by cases ro <;> exact trivial
theorem Fz_round (ro : Option Nat) : (Fz ro).round = ro := by cases ro <;> rfl
theorem Fz_depth (ro : Option Nat) : (Fz ro).depth.isSome = true → 1 ≤ 0 := by cases ro <;> (intro h; cases h)
theorem Fz_calls {ro : Option Nat} {n : Nat} {P : Program} {f : FuncId} {args : Array Value} {w : World} {R : Ending → World → Prop} (h : CallsIn Fence.wide n P f args w R) : CallsIn (Fz ro) n P f args w R := by
  cases ro <;> exact h
theorem Fz_rounds {ro : Option Nat} {n : Nat} {P : Program} {l : Nat} {f : FuncId} {t : Array Value} {as bd : Code} {w : World} {R : Ending → World → Prop} (h : RoundIn Fence.wide n P l f t as bd w R) : RoundIn (Fz ro) n P l f t as bd w R := by
  cases ro <;> exact h

section
variable {P : Program} {B : Nat} {w0 : World} {G : List Nat} {μ : Mu} {H : AH} {w : World}

theorem env_rel (h : Rep P B w0 G μ H w) {a : Act} {c : CAct} (ha : TR μ a.nt a.T c.tmps) {x : Operand} {v : AV} (hx : a.env G x = some v) : VR μ v (c.eval x) := by
  cases x with
  | tmp t => exact ha.2 t v hx
  | const u => exact ofVal_VR μ hx
  | global g =>
    simp only [Act.env] at hx
    cases hc : G.contains g with
    | false => rw [hc] at hx; cases hx
    | true =>
      rw [hc] at hx
      simp at hx; subst hx
      obtain ⟨N, hN⟩ := h.glob g (by simpa using hc)
      exact ⟨g, N, hN, rfl⟩
  | func f =>
    simp [Act.env] at hx; subst hx
    exact ⟨#[], #[], rfl, rfl, rfl⟩

theorem TR.put {nt : Nat} {T : Tr AV} {tmps : Array Value} (h : TR μ nt T tmps) {d : Nat} {v : AV} {x : Value} (hd : d < nt) (hv : VR μ v x) : TR μ nt (Tr.set deep T d (some v)) (tmps.setIfInBounds d x) := by
  refine ⟨by simp [h.1], ?_⟩
  intro t u ht
  rcases Tr.get_set deep T d (some v) t u ht with ⟨rfl, q⟩ | ⟨hne, q⟩
  · cases q
    have : t < tmps.size := by rw [h.1]; exact hd
    simpa [this] using hv
  · have := h.2 t u q
    simpa [Array.getD_eq_getD_getElem?, Array.getElem?_setIfInBounds, Ne.symm hne] using this

theorem put_some {β : Type} {a : Act} {dst : Option Tmp} {v : AV} {k : Act → Option β} {r : β} (h : a.put dst v k = some r) {c : CAct} (ha : ActRel μ a c) {x : Value} (hv : VR μ v x) :
    ∃ a', k a' = some r ∧ ActRel μ a' (c.put dst x) ∧ a'.nt = a.nt ∧ a'.ds = a.ds := by
  cases dst with
  | none => exact ⟨a, h, ha, rfl, rfl⟩
  | some d =>
    simp only [Act.put] at h
    cases hd : Nat.blt d a.nt with
    | false => rw [hd] at h; cases h
    | true =>
      rw [hd] at h
      simp only [cond_true, Tr.setK_eq] at h
      exact ⟨_, h, ⟨ha.1.put ((blt_iff _ _).1 hd) hv, ha.2⟩, rfl, rfl⟩

/-- A barrier that is no call of a Go function. -/
theorem bar_sound {β : Type} (h : Rep P B w0 G μ H w) {ρ : Env} {ρc : Operand → Value} {o : Oper} (hρ : ∀ x ∈ o.op.operands, ∀ v, ρ x = some v → VR μ v (ρc x)) {k : AV → AH → Option β} {r : β} (hk : barOf P ρ o.op H k = some r) :
    ∃ v H' w' μ' x res, k v H' = some r ∧ (execOp ρc o).run P w = .ok res w' ∧ (res = .value x ∨ (res = .skip ∧ x = undef)) ∧ Ext H μ H' μ' ∧ VR μ' v x ∧ Rep P B w0 G μ' H' w' := by
  obtain ⟨dst, op, type, pos, after, guard⟩ := o
  simp only at hρ hk
  have upd : ∀ {t m x v}, (op = .mapUpdate t m x v ∨ op = .insert t m x v) → (match ρ m, ρ x, ρ v, P.underlying t with
      | some (.map i), some key, some v, some (.map kt _) => bif keyFits P kt key then
          match H.objs.get i with
          | some (.map kt' es) => bif Nat.beq kt kt' then (updE key v es).force fun es => H.withObj i (.map kt es) fun H => k (.sc .undef) H else none
          | _ => none
        else none
      | _, _, _, _ => none) = some r → ∃ v' H' w' μ' y res, k v' H' = some r ∧ ((do Instr.mapUpdate t (ρc m) (ρc x) (ρc v); pure Next.skip) : Sem Next).run P w = .ok res w' ∧ (res = .value y ∨ (res = .skip ∧ y = undef)) ∧ Ext H μ H' μ' ∧ VR μ' v' y ∧ Rep P B w0 G μ' H' w' := by
    intro t m x v hop hk
    have hmem : ∀ y, y = m ∨ y = x ∨ y = v → y ∈ op.operands := by
      intro y hy; rcases hop with rfl | rfl <;> simpa [Op.operands] using hy
    split at hk
    · rename_i i key u kt et hm hx hv hu
      cases hf : keyFits P kt key with
      | false => rw [hf] at hk; cases hk
      | true =>
        rw [hf] at hk
        simp only [cond_true] at hk
        split at hk
        · rename_i kt' es ho
          cases hkk : Nat.beq kt kt' with
          | false => rw [hkk] at hk; cases hk
          | true =>
            rw [hkk] at hk
            have := (beq_iff _ _).1 hkk
            subst this
            simp only [cond_true, AV.force_eq, withObj_eq] at hk
            obtain ⟨H', w', g1, g2, g3, g4⟩ := mapUpdate_sound (k := fun H => k (.sc .undef) H) h hu hf ho (hρ m (hmem m (by simp)) _ hm) (hρ x (hmem x (by simp)) _ hx) (hρ v (hmem v (by simp)) _ hv) hk
            exact ⟨_, H', w', μ, undef, .skip, g1, by simp [g2], .inr ⟨rfl, rfl⟩, .same μ g4, rfl, g3⟩
        · cases hk
    · cases hk
  cases op with
  | store t a x =>
    simp only [barOf] at hk
    split at hk
    · rename_i i off v n ha hx hs
      cases hn : Nat.beq v.cells.len n with
      | false => rw [hn] at hk; cases hk
      | true =>
        rw [hn] at hk
        simp only [cond_true] at hk
        obtain ⟨H', w', g1, g2, g3, g4⟩ := store_sound h hs ((beq_iff _ _).1 hn) (hρ a (by simp [Op.operands]) _ ha) (hρ x (by simp [Op.operands]) _ hx) hk
        exact ⟨_, H', w', μ, undef, .skip, g1, by simp [execOp, g2], .inr ⟨rfl, rfl⟩, .same μ g4, rfl, g3⟩
    · cases hk
  | mapUpdate t m x v =>
    obtain ⟨v', H', w', μ', y, res, g1, g2, g3⟩ := upd (.inl rfl) hk
    exact ⟨v', H', w', μ', y, res, g1, g2, g3⟩
  | insert t m x v =>
    obtain ⟨v', H', w', μ', y, res, g1, g2, g3⟩ := upd (.inr rfl) hk
    exact ⟨v', H', w', μ', y, res, g1, g2, g3⟩
  | call c =>
    obtain ⟨callee, args, argTypes⟩ := c
    cases callee with
    | builtin b =>
      cases b with
      | append =>
        simp only [barOf] at hk
        split at hk
        · rename_i s x hargs
          split at hk
          · rename_i sv xv hs hx
            have ha : args = #[s, x] := by apply Array.toList_inj.1; simpa using hargs
            subst ha
            obtain ⟨v, H', w', μ', y, g1, g2, g3, g4, g5⟩ := append_sound (ty := type) h (hρ s (by simp [Op.operands, Call.operands]) _ hs) (hρ x (by simp [Op.operands, Call.operands]) _ hx) hk
            exact ⟨v, H', w', μ', y, .value y, g1, by simp [execOp, resolve, invoke, builtin, g2], .inl rfl, g3, g4, g5⟩
          · cases hk
        · cases hk
      | _ => simp [barOf] at hk
    | _ => simp [barOf] at hk
  | _ => simp [barOf] at hk

end
end Go.Eng
