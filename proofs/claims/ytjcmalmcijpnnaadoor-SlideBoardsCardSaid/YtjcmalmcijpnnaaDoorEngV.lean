/-
  Where a run of the abstract machine begins: two tables that are read alone; and a machine that is told the answers of some functions.
  Conditions: the world holds the two tables, as the first two globals.
-/
import Derived.Test.YtjcmalmcijpnnaaDoorEngU
namespace Go.Eng
open Go.RowKit

def ofInts (k : IntKind) : List Int → AV
  | [] => .nil
  | n :: t => .cons (.sc (.int k n)) (ofInts k t)
theorem ofInts_LR (μ : Mu) (k : IntKind) : ∀ zs : List Int, LR μ (ofInts k zs) (zs.map (Value.int k))
  | [] => rfl
  | _ :: t => LR.cons rfl (ofInts_LR μ k t)
theorem ofInts_len (k : IntKind) : ∀ zs : List Int, (ofInts k zs).len = zs.length
  | [] => rfl
  | _ :: t => by simp [ofInts, AV.len, ofInts_len k t]

/-- The heap of two tables. -/
def tabs (z0 z1 : List Int) : AH where
  next := 10
  objs := Tr.set deep (Tr.set deep .nil 0 (some (.cells 0 0 0 (ofInts .u8 z0)))) 1 (some (.cells 1 0 0 (ofInts .u8 z1)))
  fams := Tr.set deep (Tr.set deep .nil 0 (some (1000000, 0))) 1 (some (1000000, 0))

def tabsMu (z0 z1 : List Int) : Mu := fun i => if i = 0 then some (0, z0.length) else if i = 1 then some (1, z1.length) else none

theorem tabs_objs {z0 z1 : List Int} {i : Nat} {o : AObj} (h : (tabs z0 z1).objs.get i = some o) : (i = 0 ∧ o = .cells 0 0 0 (ofInts .u8 z0)) ∨ (i = 1 ∧ o = .cells 1 0 0 (ofInts .u8 z1)) := by
  rcases Tr.get_set deep _ _ _ _ _ h with ⟨rfl, q⟩ | ⟨_, h⟩
  · exact .inr ⟨rfl, (Option.some.inj q).symm⟩
  · rcases Tr.get_set deep _ _ _ _ _ h with ⟨rfl, q⟩ | ⟨_, h⟩
    · exact .inl ⟨rfl, (Option.some.inj q).symm⟩
    · simp [Tr.get] at h
theorem tabs_fams {z0 z1 : List Int} {i : Nat} {o : Nat × Nat} (h : (tabs z0 z1).fams.get i = some o) : o = (1000000, 0) := by
  rcases Tr.get_set deep _ _ _ _ _ h with ⟨rfl, q⟩ | ⟨_, h⟩
  · exact (Option.some.inj q).symm
  · rcases Tr.get_set deep _ _ _ _ _ h with ⟨rfl, q⟩ | ⟨_, h⟩
    · exact (Option.some.inj q).symm
    · simp [Tr.get] at h

theorem tabs_rep {P : Program} {w : World} {z0 z1 : List Int} {t0 t1 : TypeId} {f0 f1 : Nat × Nat} (h0 : w.heap[0]? = some (.cells (z0.map (Value.int .u8)).toArray t0 f0)) (h1 : w.heap[1]? = some (.cells (z1.map (Value.int .u8)).toArray t1 f1)) :
    Rep P w.heap.size w [0, 1] (tabsMu z0 z1) (tabs z0 z1) w := by
  have hs0 : 0 < w.heap.size := (Array.getElem?_eq_some_iff.1 h0).1
  have hs1 : 1 < w.heap.size := (Array.getElem?_eq_some_iff.1 h1).1
  have hmu : ∀ i b N, tabsMu z0 z1 i = some (b, N) → (i = 0 ∧ b = 0 ∧ N = z0.length) ∨ (i = 1 ∧ b = 1 ∧ N = z1.length) := by
    intro i b N h
    unfold tabsMu at h
    split at h
    · simp at h; exact .inl ⟨by assumption, h.1.symm, h.2.symm⟩
    · split at h
      · simp at h; exact .inr ⟨by assumption, h.1.symm, h.2.symm⟩
      · cases h
  have hfar : ∀ {o}, (tabs z0 z1).objs.get 1000000 = some o → False := by
    intro o h
    rcases tabs_objs h with ⟨q, _⟩ | ⟨q, _⟩ <;> omega
  refine { below := Below.refl _ _, base := Nat.le_refl _, dom := ?_, glob := ?_, own := ?_, sep := ?_, vtop := ?_, tip := ?_, write := ?_, cells := ?_, map := ?_, loop := ?_, defd := ?_ }
  · intro i b N h
    show i < 10 ∧ _
    rcases hmu i b N h with ⟨rfl, rfl, rfl⟩ | ⟨rfl, rfl, rfl⟩ <;> exact ⟨by omega, by assumption⟩
  · intro g hg
    simp at hg
    rcases hg with rfl | rfl
    · exact ⟨_, rfl⟩
    · exact ⟨_, rfl⟩
  · intro i o h
    show i < 10 ∧ _ < 10
    rcases tabs_objs h with ⟨rfl, rfl⟩ | ⟨rfl, rfl⟩ <;> simp [AObj.cls]
  · intro i j oi oj b N M h1 h2 h3 h4
    rcases hmu i b N h3 with ⟨rfl, rfl, rfl⟩ | ⟨rfl, rfl, rfl⟩ <;> rcases hmu j _ _ h4 with ⟨rfl, q, _⟩ | ⟨rfl, q, _⟩ <;> first | omega | (rw [h1] at h2; cases h2; rfl)
  · intro i j fam vi ei ci vj ej cj lw _ h2 h3
    have := tabs_fams h3
    cases this
    exact (hfar h2).elim
  · intro i j fam vi ei ci vj ej cj lw b N M _ h2 h3
    have := tabs_fams h3
    cases this
    exact (hfar h2).elim
  · intro i fam ver e cs lw b N h1 h2
    have := tabs_fams h2
    cases this
    exact (hfar h1).elim
  · intro i fam ver e cs tip lw b N h hf _ hm
    rcases tabs_objs h with ⟨rfl, q⟩ | ⟨rfl, q⟩
    · cases q
      rcases hmu 0 b N hm with ⟨_, rfl, rfl⟩ | ⟨q, _, _⟩
      · refine ⟨_, t0, f0, h0, by simp, Nat.le_of_eq (ofInts_len .u8 z0), ?_, fun q => by omega⟩
        rw [ofInts_len]
        have := ofInts_LR (tabsMu z0 z1) .u8 z0
        simpa [List.take_of_length_le] using this
      · omega
    · cases q
      rcases hmu 1 b N hm with ⟨q, _, _⟩ | ⟨_, rfl, rfl⟩
      · omega
      · refine ⟨_, t1, f1, h1, by simp, Nat.le_of_eq (ofInts_len .u8 z1), ?_, fun q => by omega⟩
        rw [ofInts_len]
        have := ofInts_LR (tabsMu z0 z1) .u8 z1
        simpa [List.take_of_length_le] using this
  · intro i kt es b N h
    rcases tabs_objs h with ⟨_, q⟩ | ⟨_, q⟩ <;> cases q
  · intro i st pend fn nt T ps as bd dd b N h
    rcases tabs_objs h with ⟨_, q⟩ | ⟨_, q⟩ <;> cases q
  · intro i op b N h
    rcases tabs_objs h with ⟨_, q⟩ | ⟨_, q⟩ <;> cases q

section
variable {P : Program} {B : Nat} {w0 : World} {G : List Nat}

/-- What a call left alone is still described. -/
theorem Rep.onto {μ : Mu} {H : AH} {w w' : World} (h : Rep P B w0 G μ H w) (hb : Below w.heap.size w w') : Rep P B w0 G μ H w' where
  below := h.below.trans (hb.mono h.baseNow)
  base := h.base
  dom := fun i b N e => ⟨(h.dom i b N e).1, Nat.lt_of_lt_of_le (h.dom i b N e).2 hb.size⟩
  glob := h.glob
  own := h.own
  sep := h.sep
  vtop := h.vtop
  tip := h.tip
  write := h.write
  cells := fun i fam ver e cs tip lw b N h1 h2 h3 h4 => by
    rw [hb.block b (h.dom i b N h4).2]; exact h.cells i fam ver e cs tip lw b N h1 h2 h3 h4
  map := fun i kt es b N h1 h2 => by
    rw [hb.block b (h.dom i b N h2).2]; exact h.map i kt es b N h1 h2
  loop := fun i st pend fn nt T ps as bd dd b N h1 h2 => by
    rw [hb.block b (h.dom i b N h2).2]; exact h.loop i st pend fn nt T ps as bd dd b N h1 h2
  defd := fun i op b N h1 h2 => by
    rw [hb.block b (h.dom i b N h2).2]; exact h.defd i op b N h1 h2

/-- The abstract machine, told the answers of some calls. -/
def cbO (P : Program) (G : List Nat) (O : FuncId → AV → Option AV) : Nat → Cb
  | 0 => ⟨fun _ _ _ _ _ => none, fun _ _ _ => none, fun _ _ _ => none⟩
  | n + 1 => ⟨codeF P G (cbO P G O n), fun f args H => match O f args with | some v => some (v, H) | none => callF P (cbO P G O n) f args H, roundF (cbO P G O n)⟩

def ToldOK (P : Program) (B : Nat) (w0 : World) (G : List Nat) (O : FuncId → AV → Option AV) : Prop :=
  ∀ f args v, O f args = some v → (∃ fn : Func, P.funcs[f]? = some fn ∧ fn.body.isSome = true) ∧
    ∀ μ H w (xs : Array Value), Rep P B w0 G μ H w → LR μ args xs.toList → Calls P f xs w fun e w' => ∃ x, e = .returned x ∧ VR μ v x ∧ Below w.heap.size w w'

theorem cbO_ok (hm : P.follows .mixedOrders = true) (hN : NamesOK P) {O : FuncId → AV → Option AV} (hO : ToldOK P B w0 G O) : ∀ n, CallOK P B w0 G (cbO P G O n) ∧ RoundOK P B w0 G (cbO P G O n) ∧ CodeOK P B w0 G (cbO P G O n)
  | 0 => ⟨fun _ _ _ _ _ h => (by cases h), fun _ _ _ _ _ h => (by cases h), fun _ _ _ _ _ _ _ _ h => (by cases h)⟩
  | n + 1 => by
    obtain ⟨hC, hR, hK⟩ := cbO_ok hm hN hO n
    refine ⟨?_, ?_, ?_⟩
    · intro f args H v H' h
      simp only [cbO] at h
      split at h
      · rename_i v' ho
        simp at h
        obtain ⟨rfl, rfl⟩ := h
        obtain ⟨h1, h2⟩ := hO _ _ _ ho
        refine ⟨h1, fun μ w xs hrep hxs => callsIn_wide.2 ((h2 μ H w xs hrep hxs).mono ?_)⟩
        rintro e w' ⟨x, rfl, hv, hb⟩
        exact ⟨x, μ, rfl, Ext.refl _ _, hv, hrep.onto hb⟩
      · exact callF_ok hK h
    · intro l xs H v H' h μ w b N ys hrep hmu hys
      exact roundF_ok hK h hrep hmu hys
    · intro ro fn cd a H x a' H' h μ w c ro' hro hrep ha
      exact codeF_ok hm hN hC hR hK h hro hrep ha

theorem calls_of_told (hm : P.follows .mixedOrders = true) (hN : NamesOK P) {O : FuncId → AV → Option AV} (hO : ToldOK P B w0 G O) {n : Nat} {f : FuncId} {args : AV} {H : AH} {v : AV} {H' : AH} (h : (cbO P G O n).call f args H = some (v, H')) {μ : Mu} {w : World} {xs : Array Value} (hrep : Rep P B w0 G μ H w) (hxs : LR μ args xs.toList) : Calls P f xs w (After P B w0 G μ H v H') :=
  callsIn_wide.1 (((cbO_ok hm hN hO n).1 _ _ _ _ _ h).2 μ w xs hrep hxs)

theorem namesOK_of (h : (P.funcs.all fun fn => !(fn.body.isSome && fn.name == "runtime.NumGoroutine")) = true) : NamesOK P := by
  intro f fn hf hb
  obtain ⟨hlt, rfl⟩ := Array.getElem?_eq_some_iff.1 hf
  have := (Array.all_eq_true.1 h) f hlt
  rw [hb] at this
  simpa using this

end
end Go.Eng
