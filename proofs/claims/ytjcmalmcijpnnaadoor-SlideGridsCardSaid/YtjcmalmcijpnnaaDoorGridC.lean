/-
  The law SlideGrids on small grids: by the abstract machine, which is told what 'awake' answers.
  Conditions: the two tables of math/bits hold what they are laid with.
-/
import Derived.Test.YtjcmalmcijpnnaaDoorGridA
namespace Go.Eng
open Go.RowKit Go.Proofs Go.Proofs.YtjcmalmcijpnnaaDoor
set_option maxRecDepth 100000

/-- 'awake' answers true. -/
def told (f : FuncId) (args : AV) : Option AV := match args with | .nil => bif Nat.beq f 16 then some (.sc (.bool true)) else none | _ => none

theorem told_ok {w : World} (hw : TabsIn w) : ToldOK Tryd.prog w.heap.size w [0, 1] told := by
  intro f args v h
  unfold told at h
  split at h
  · cases hb : Nat.beq f 16 with
    | false => rw [hb] at h; cases h
    | true =>
      rw [hb] at h
      simp at h
      subst h
      have hf : f = 16 := Nat.eq_of_beq_eq_true hb
      subst hf
      refine ⟨⟨_, Tryd.func16, rfl⟩, ?_⟩
      intro μ H w1 xs hrep hxs
      have hx : xs = #[] := by
        have : xs.toList = [] := hxs
        simpa using this
      subst hx
      refine (awake_calls (hw.below hrep.below)).mono ?_
      rintro e w' ⟨rfl, hb⟩
      exact ⟨_, rfl, rfl, hb⟩
  · cases h

/-- The body of a loop, and what stands behind it. -/
def loopOf : Option Code → Code
  | some (.seq _ (.seq (.seq _ (.block _ (.loop b))) _)) => b
  | _ => .skip
def endOf : Option Code → Code
  | some (.seq _ (.seq _ e)) => e
  | _ => .skip
noncomputable def body3 : Code := loopOf Tryd.f3.body
noncomputable def end3 : Code := endOf Tryd.f3.body

def slots3 (r c : Int) : Tr AV := Tr.set deep (Tr.set deep (Tr.set deep (Tr.set deep .nil 0 (some (.sc (.int .i64 r)))) 1 (some (.sc (.int .i64 c)))) 4 (some (.sc (.bool false)))) 5 (some (.sc (.int .i64 1)))

noncomputable def mach : Cb := cbO Tryd.prog [0, 1] told 200
def isTrueAt (a : Act) : Bool := match a.T.get 4 with | some (.sc (.bool true)) => a.ds.isEmpty | _ => false
noncomputable def tailRun (r c : Int) : Bool :=
  match loopN (mach.code none 3 body3) 1000000 { T := slots3 r c, nt := 84, ds := [] } (tabs db32 db64) with
  | some (.exit i, a, H) => (match mach.code none 3 end3 a H with
    | some (.ret, a', _) => Nat.beq i 0 && isTrueAt a'
    | _ => false)
  | _ => false

theorem tailRuns : ([(1, 1), (1, 2), (1, 3), (1, 4), (2, 1), (2, 2), (2, 3), (2, 4), (3, 1), (3, 2), (3, 3), (3, 4), (4, 1), (4, 2), (4, 3), (4, 4)].all fun q => tailRun q.1 q.2) = true := by kernel_rfl

noncomputable def gridRun (r c : Int) : Bool := AwakeRun (mach.call 3 (.cons (.sc (.int .i64 r)) (.cons (.sc (.int .i64 c)) .nil)) (tabs db32 db64))
theorem gridRuns : ([(1, 2), (1, 3), (1, 4), (1, 5), (1, 6), (1, 7), (1, 8), (1, 9), (2, 1), (2, 2), (2, 3), (2, 4), (3, 1), (3, 2), (3, 3), (4, 1), (4, 2), (5, 1), (6, 1), (7, 1), (8, 1), (9, 1)].all fun q => gridRun q.1 q.2) = true := by kernel_rfl

theorem grid_some {w : World} (hw : TabsIn w) {r c : Int} (h : gridRun r c = true) : CallsIn Fence.wide 0 Tryd.prog 3 #[.int .i64 r, .int .i64 c] w fun e w' => e = .returned (.bool true) ∧ Below w.heap.size w w' := by
  obtain ⟨t0, t1, f0, f1, h0, h1⟩ := id hw
  obtain ⟨H', hr⟩ := awakeRun_eq h
  refine callsIn_wide.2 ((calls_of_told follows namesOK (told_ok hw) hr (tabs_rep h0 h1) (LR.cons rfl (LR.cons rfl rfl))).mono ?_)
  rintro e w' ⟨x, μ', rfl, _, hx, hrep⟩
  have hx' : x = .bool true := hx
  exact ⟨by rw [hx'], hrep.below⟩

end Go.Eng
