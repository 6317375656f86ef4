/-
  A call of a function, on the abstract machine and in the model.
  Conditions: those of EngQ.
-/
import Derived.Test.YtjcmalmcijpnnaaDoorEngQ
namespace Go.Eng
open Go.RowKit

section
variable {P : Program} {B : Nat} {w0 : World} {G : List Nat} {self : Cb}

theorem callF_ok (hK : CodeOK P B w0 G self) {f : FuncId} {args : AV} {H : AH} {v : AV} {H' : AH} (h : callF P self f args H = some (v, H')) :
    (∃ fn : Func, P.funcs[f]? = some fn ∧ fn.body.isSome = true) ∧ ∀ μ w (xs : Array Value), Rep P B w0 G μ H w → LR μ args xs.toList → CallsIn Fence.wide 0 P f xs w (After P B w0 G μ H v H') := by
  unfold callF at h
  split at h
  · rename_i fn hfn
    split at h
    · rename_i body hbody
      refine ⟨⟨fn, hfn, by rw [hbody]; rfl⟩, ?_⟩
      intro μ w xs hrep hxs
      cases hle : Nat.ble args.len fn.ntmps with
      | false => rw [hle] at h; cases h
      | true =>
        rw [hle] at h
        have hle := Nat.le_of_ble_eq_true hle
        simp only [cond_true, List.range_eq_range'] at h
        obtain ⟨T, h1, h2⟩ := setAll_range _ _ _ _ _ h
        have hlen := hxs.len
        rw [Array.length_toList] at hlen
        refine callsIn_of_wp_marks hfn hbody trivial ?_
        have hT : TR μ fn.ntmps T (xs ++ Array.replicate (fn.ntmps - xs.size) undef) := by
          refine ⟨by simp; omega, ?_⟩
          intro t u q
          rcases h2 t u q with ⟨i, rfl, hi⟩ | q
          · obtain ⟨y, hy, hyv⟩ := hxs.nth hi
            have hy' : xs[i]? = some y := by simpa using hy
            have hlt : i < xs.size := (Array.getElem?_eq_some_iff.1 hy').1
            rw [Nat.zero_add, Array.getD_eq_getD_getElem?, Array.getElem?_append_left hlt, hy']
            exact hyv
          · simp [Tr.get] at q
        split at h1
        · rename_i x a1 H1 hcode
          have hc := hK _ _ _ _ _ _ _ _ hcode μ w { tmps := xs ++ Array.replicate (fn.ntmps - xs.size) undef, defers := [] } none rfl hrep ⟨hT, rfl⟩
          refine wpIn_mono (F := Fence.wide) hc ?_
          rintro e c1 w1 ⟨hx, μ1, hext, hact, hrep1⟩
          have fin : endsOk H1 a1.ds (fun H => match resultsOf P H a1 fn.results.toList with
              | some (.cons v .nil) => some (v, H)
              | some vs => some (.tup vs, H)
              | none => none) = some (v, H') → LeavesInM Fence.wide 0 P fn c1.tmps (After P B w0 G μ H v H') c1.defers .returning w1 := by
            intro hends
            refine ends_leave a1.ds H1 _ _ hends μ1 w1 c1.defers hrep1 hact.2 ?_
            intro H2 w2 hn hrep2 hk
            split at hk
            · rename_i u hres
              simp at hk; obtain ⟨rfl, rfl⟩ := hk
              obtain ⟨ys, g1, g2⟩ := results_run hrep2 hact.1 hres
              obtain ⟨y, r, rfl, g3, g4⟩ := g2
              have g4' : r = [] := g4
              subst g4'
              refine ⟨y, ?_, y, μ1, rfl, hext.trans (.same μ1 hn), g3, hrep2⟩
              rw [results_eq]
              simp [Array.mapM_eq_mapM_toList, g1]
            · rename_i vs hne hres
              simp at hk; obtain ⟨rfl, rfl⟩ := hk
              obtain ⟨ys, g1, g2⟩ := results_run hrep2 hact.1 hres
              refine ⟨.tuple ys.toArray, ?_, .tuple ys.toArray, μ1, rfl, hext.trans (.same μ1 hn), ⟨ys.toArray, rfl, g2⟩, hrep2⟩
              have hsz : ¬ ys.length = 1 := by
                intro q
                cases vs with
                | cons u t =>
                  obtain ⟨y, r, rfl, g3, g4⟩ := g2
                  have hr : r = [] := by apply List.length_eq_zero_iff.1; simpa using q
                  subst hr
                  cases t with
                  | nil => exact hne u rfl
                  | cons u' t' => obtain ⟨_, _, q', _⟩ := g4; cases q'
                  | _ => exact g4.elim
                | nil => have : ys = [] := g2; subst this; simp at q
                | _ => exact g2.elim
              rw [results_eq]
              simp [Array.mapM_eq_mapM_toList, g1, hsz]
            · cases hk
          cases x with
          | normal => cases e <;> first | exact hx.elim | exact fin h1
          | ret => cases e <;> first | exact hx.elim | exact fin h1
          | exit id => cases h1
          | goto l => cases h1
        · cases h1
    · cases h
  · cases h

end
end Go.Eng
