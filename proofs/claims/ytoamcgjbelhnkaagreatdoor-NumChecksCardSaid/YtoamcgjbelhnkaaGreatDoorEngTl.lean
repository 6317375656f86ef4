/-
  The rest of a function's code, run by the machine: from a frame of which some slots are known.
  Conditions: what is told is true.
-/
import Derived.Test.YtoamcgjbelhnkaaGreatDoorEngW
import Derived.Test.YtoamcgjbelhnkaaGreatDoorStrY
namespace Go.Eng
open Go.RowKit

def runTail (P : Program) (cls : Tg → Sh) (T : TTab) (res : List TypeId) (D : List FuncId) (n : Nat) (fn : FuncId) (cd : Code) (nt : Nat) (slots : List Tmp) (ts : AT) (t : Tmp) : Bool :=
  match (layAT cls ts (bare res) fun args H => setAll nt .nil slots args fun Tr =>
    match (cb P [] (oracle cls T) D n).code none fn cd { T := Tr, nt := nt, ds := [] } H with
    | some (.ret, a', H') => (match a'.ds with
      | [] => (match a'.T.get t with
        | some (.sc (.bool true)) => some (AV.nil, H')
        | _ => none)
      | _ => none)
    | _ => none : Option (AV × AH)) with
  | some _ => true
  | none => false

theorem fold_self (A : Array Value) : ∀ (slots : List Tmp), ((slots.zip (slots.map fun j => A.getD j undef)).foldl (fun tmps (q : Tmp × Value) => tmps.setIfInBounds q.1 q.2) A) = A
  | [] => rfl
  | j :: r => by
    have e : A.setIfInBounds j (A.getD j undef) = A := by
      apply Array.ext
      · simp
      · intro i h1 h2
        by_cases hij : j = i
        · subst hij
          rw [Array.getElem_setIfInBounds_self]
          rw [Array.getD_eq_getD_getElem?, Array.getElem?_eq_getElem h2]
          rfl
        · rw [Array.getElem_setIfInBounds_ne _ hij]
    show (List.foldl _ (A.setIfInBounds j (A.getD j undef)) _) = A
    rw [e]
    exact fold_self A r

section
variable {P : Program}
/-- **The rest of a function's code answers true.** -/
theorem tail_script {res : List TypeId} {env : List (Leaf res)} {S : List Sh} {L : List Entry} {w : World} (hm : P.follows .mixedOrders = true) (hN : NamesOK P) (hS : env.map (·.sh) = S) (hT : ToldIn P w.heap.size w (Gs env) (lookT L))
    {n : Nat} {fid : FuncId} {fn : Func} {cd : Code} {A : Array Value} {slots : List Tmp} {ts : AT} {t : Tmp} {R : Ending → World → Prop} (hres : fn.results = #[.tmp t]) (hx : PiecesOK (Gs env) ts (slots.map fun j => A.getD j undef) w)
    (h : runTail P (clsL S) (lookT L) res [] n fid cd A.size slots ts t = true) (hR : ∀ w', Below w.heap.size w w' → R (.returned (.bool true)) w') :
    cd.wpIn Fence.wide 0 P (bodyPost P fn R) { tmps := A, defers := [] } w := by
  unfold runTail at h
  split at h
  · rename_i r hr
    obtain ⟨vs, μ', H', k1, k2, _, k4⟩ := (lay_rep (P := P) (B := w.heap.size) (w0 := w) (shapedS hS) ts _ _ _ _ (bare_rep (G := Gs env) rfl w) hr).2 _ hx
    obtain ⟨_, T', k5, k6⟩ := setAll_TR slots vs _ .nil A _ _ k1 k4 ⟨rfl, fun t v q => by simp [Tr.get] at q⟩
    rw [fold_self] at k6
    have hK := (cb_ok (P := P) (B := w.heap.size) (w0 := w) (G := Gs env) hm hN (oracle_ok (shapedS hS) hT) (D := []) (by simp) n).2.2
    split at k5
    · rename_i a' H2 hcode
      have hc := hK none fid cd _ H' .ret a' H2 hcode μ' w { tmps := A, defers := [] } none rfl k2 ⟨k6, rfl⟩
      refine wpIn_mono (F := Fence.wide) hc ?_
      rintro e c1 w1 ⟨hxr, μ1, _, hact, hrep1⟩
      split at k5
      · rename_i hds
        split at k5
        · rename_i hget
          cases e with
          | ret =>
            have hd : c1.defers = [] := by
              have := hact.2
              rw [hds] at this
              exact this
            have hv : c1.tmps.getD t undef = .bool true := hact.1.2 t _ hget
            exact Go.Num.ret_tmp hres hd hv (hR w1 hrep1.below)
          | _ => exact hxr.elim
        · cases k5
      · cases k5
    · cases k5
  · cases h

/-- A piece of code whose end is one. -/
theorem seq_to {F : Fence} {n : Nat} {x y : Code} {Q : Exit → CAct → World → Prop} {a : CAct} {w : World} {A : CAct} {W : World} (hx : x.wpIn F n P (fun e a' w' => e = .normal ∧ a' = A ∧ w' = W) a w) (hy : y.wpIn F n P Q A W) : (x.seq y).wpIn F n P Q a w := by
  refine wpIn_seq (wpIn_mono hx ?_)
  rintro e a' w' ⟨rfl, rfl, rfl⟩
  exact hy
end
end Go.Eng
