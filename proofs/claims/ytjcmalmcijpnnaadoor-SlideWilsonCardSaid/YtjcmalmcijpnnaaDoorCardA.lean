/-
  What the cards of the slide laws share.
  Conditions: none.
-/
import Derived.Test.YtjcmalmcijpnnaaDoorChkR
import Derived.Test.YtjcmalmcijpnnaaDoorCards
import Derived.Test.YtjcmalmcijpnnaaDoorTie
import Derived.WalkKit
import Derived.ProofKit
import Derived.OpenShut
import Derived.Deep.DeepHandedRow
import Derived.Lib.LaidTab
import Derived.Stop.LaidErr
namespace Go.Eng
open Go.ChangeShapes Go.WideShapes Go.ChangeAt Go.RowKit Go.Proofs Go.Proofs.YtjcmalmcijpnnaaDoor

section
variable {H : Type} {enc : TypeId × Value → H} {P : Program}
/-- What a call that answers by scalars, and leaves what was there alone, gives of its row. -/
theorem post_of_below {f : Func} {s : ChangeSpec} {apart fresh handsOn again : Bool} {W W' : World} {args : Array Value} {v : Value} {ds gs : List (DataW H)} {before pa pv : List MemPlace}
    (hW : DataW.Whole enc P f.params.toList s.vars apart W args.toList ds gs before)
    (hres : ∀ (b : Nat) (sp : Nat → Bool) (hd : Bool), DataW.TrodAll enc P W' b sp hd f.resultTypes.toList (v.resultList f.resultTypes.size) (s.fn H (ds ++ gs)).results [])
    (hargs : ∀ sp : Nat → Bool, (∀ p ∈ before, sp p.block = true) → DataW.TrodAll enc P W' 0 sp true f.params.toList args.toList (s.fn H (ds ++ gs)).args pa)
    (hvars : ∀ sp : Nat → Bool, (∀ p ∈ before, sp p.block = true) → DataW.TrodVars enc P W' sp s.vars (s.fn H (ds ++ gs)).vars pv)
    (hps : before = pa ++ pv) (hb : Below W.heap.size W W')
    (hok : ∀ (j : Nat) (t : TypeId) (r : Value), f.resultTypes[j]? = some t → (v.resultList f.resultTypes.size)[j]? = some r → Value.okWide P W' .any 0 t r) :
    s.post enc P f apart fresh handsOn again W args v W' := by
  have hold : ∀ p ∈ before, (fun b => decide (b < W.heap.size)) p.block = true := fun p hp => by simpa using hW.lt p hp
  have hlt := hW.lt
  refine ⟨ds, gs, before, [], pa, pv, hW, hres _ _ _, hargs _ hold, hvars _ hold, World.keptBut_mono (fun p hp => ⟨hp, ?_⟩) (hb.frame (· ∈ before)), fun _ => ?_⟩
  · rw [hps, List.mem_append] at hp
    exact Or.inr hp
  · obtain ⟨_, _, _, _, _, hz, hn⟩ := hW
    refine ⟨hok, _, _, ([] ++ pa) ++ pv, ⟨[] ++ pa, pv, trodAll_append (hargs _ (fun _ _ => rfl)) (hres _ _ _), hvars _ (fun _ _ => rfl), rfl, ?_, ?_⟩, ?_⟩
    · intro b off hp
      have hp' : MemPlace.cell b off ∈ before := by rw [hps]; simpa using hp
      rw [hb.frozen (hlt _ hp')]
      exact hz b off hp'
    · intro ha
      have := hn ha
      rw [hps] at this
      simpa using this
    · intro p hp _
      rw [hps]
      simpa using hp
end

theorem own : ownKnob Tryd.prog.godebug = none := by kernel_rfl
theorem gTab0 : Tryd.prog.globalNamed "math/bits.deBruijn32tab" = some 0 := by kernel_rfl
theorem gTab1 : Tryd.prog.globalNamed "math/bits.deBruijn64tab" = some 1 := by kernel_rfl
theorem gType0 : (Tryd.prog.globals[0]?).map (·.type) = some 124 := by kernel_rfl
theorem gType1 : (Tryd.prog.globals[1]?).map (·.type) = some 125 := by kernel_rfl
theorem u124 : Tryd.prog.underlying 124 = some (.array 32 5) := by kernel_rfl
theorem u125 : Tryd.prog.underlying 125 = some (.array 64 5) := by kernel_rfl
theorem u5 : Tryd.prog.underlying 5 = some (.int .u8) := by kernel_rfl
theorem cells5 : Tryd.prog.cellsOf 5 = 1 := by kernel_rfl
theorem cells124 : Tryd.prog.cellsOf 124 = 32 := by kernel_rfl
theorem cells125 : Tryd.prog.cellsOf 125 = 64 := by kernel_rfl

theorem cells_of {P : Program} {W : World} {name : String} {g : Nat} {cs : Array Value} (hg : P.globalNamed name = some g) (h : W.var? P name = some cs) : ∃ t f, W.heap[g]? = some (.cells cs t f) := by
  unfold World.var? at h
  rw [hg] at h
  simp only [Option.bind_some] at h
  split at h
  · rename_i h'
    cases h
    exact ⟨_, _, h'⟩
  · cases h

/-- The list, as two tables. -/
noncomputable def tabList : List (String × DataW Unit) := [("math/bits.deBruijn32tab", Lib.tabData .u8 db32), ("math/bits.deBruijn64tab", Lib.tabData .u8 db64)]
theorem laid_list {l : List (String × DataW Unit)} {W : World} (e : l = tabList) (h : laidMetH Tryd.prog l W) : laidMet Tryd.prog tabList W := by
  rw [e] at h
  unfold laidMetH at h
  have e2 : (tabList.filter fun x => x.2.handleName?.isSome) = [] := by kernel_rfl
  rw [e2] at h
  exact h

/-- What the list gives: the tables' cells. -/
theorem tables {l : List (String × DataW Unit)} {W : World} (e : l = tabList) (h : laidMetH Tryd.prog l W) : TabsIn W := by
  have h' := laid_list e h
  unfold tabList at h'
  have t0 := Lib.tabIs_of_head gTab0 gType0 u124 u5 cells5 cells124 h'
  have t1 := Lib.tabIs_of_head gTab1 gType1 u125 u5 cells5 cells125 h'.tail
  obtain ⟨a, b, q0⟩ := cells_of gTab0 t0
  obtain ⟨c, d, q1⟩ := cells_of gTab1 t1
  exact ⟨a, c, b, d, q0, q1⟩

/-- Arguments read as they did. -/
theorem args_stay {H : Type} {enc : TypeId × Value → H} {W W' : World} {sp : Nat → Bool} (hl : laidOutB Tryd.prog = true) : ∀ {ts : List TypeId} {vs : List Value} {ds : List (DataW H)} {ps : List MemPlace},
    (∀ t ∈ ts, Tryd.prog.readableRec t = true ∧ t < Tryd.prog.types.size) → DataW.TrodAll enc Tryd.prog W 0 (fun _ => true) true ts vs ds ps → (∀ p ∈ ps, W.sameAt W' p) → (∀ p ∈ ps, sp p.block = true) → DataW.TrodAll enc Tryd.prog W' 0 sp true ts vs ds ps
  | [], vs, ds, ps, _, h, _, _ => by
    obtain ⟨rfl, rfl, rfl⟩ := trodAll_nil h
    exact trodAll_mk0
  | t :: ts, vs, ds, ps, hr, h, h1, h2 => by
    obtain ⟨v, vs', d, ds', p, q, rfl, rfl, rfl, hd, hrest⟩ := trodAll_cons h
    exact ⟨p, q, WideElems.Trod_stays hl (hr t (by simp)).1 (hr t (by simp)).2 hd (fun x hx => h1 x (by simp [hx])) (fun x hx => h2 x (by simp [hx])),
      args_stay hl (fun t' ht' => hr t' (by simp [ht'])) hrest (fun x hx => h1 x (by simp [hx])) (fun x hx => h2 x (by simp [hx])), rfl⟩

/-- A world for the witness: the settled one, the tables holding what their initialisers lay. -/
noncomputable def layCells (cs : Array Value) : Obj → Obj
  | .cells _ t frozen => .cells cs t frozen
  | o => o
noncomputable def laidWorld (os : Os) : World :=
  { World.holding Tryd.prog os ⟨#[], #[], []⟩ with heap := ((World.holding Tryd.prog os ⟨#[], #[], []⟩).heap.modify 0 (layCells (db32.map (Value.int .u8)).toArray)).modify 1 (layCells (db64.map (Value.int .u8)).toArray) }
end Go.Eng
