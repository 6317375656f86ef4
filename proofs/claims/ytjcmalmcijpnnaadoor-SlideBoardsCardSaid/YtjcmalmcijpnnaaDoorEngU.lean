/-
  The abstract machine, of any fuel, is right of the model; a whole call of it is a call of the model's.
  Conditions: the program follows the row on mixed orders; no function with a body bears the one name that the model treats apart.
-/
import Derived.Test.YtjcmalmcijpnnaaDoorEngS
namespace Go.Eng
open Go.RowKit

section
variable {P : Program} {B : Nat} {w0 : World} {G : List Nat}

theorem cb_ok (hm : P.follows .mixedOrders = true) (hN : NamesOK P) : ∀ n, CallOK P B w0 G (cb P G n) ∧ RoundOK P B w0 G (cb P G n) ∧ CodeOK P B w0 G (cb P G n)
  | 0 => ⟨fun _ _ _ _ _ h => (by cases h), fun _ _ _ _ _ h => (by cases h), fun _ _ _ _ _ _ _ _ h => (by cases h)⟩
  | n + 1 => by
    obtain ⟨hC, hR, hK⟩ := cb_ok hm hN n
    refine ⟨?_, ?_, ?_⟩
    · intro f args H v H' h
      exact callF_ok hK h
    · intro l xs H v H' h μ w b N ys hrep hmu hys
      exact roundF_ok hK h hrep hmu hys
    · intro ro fn cd a H x a' H' h μ w c ro' hro hrep ha
      exact codeF_ok hm hN hC hR hK h hro hrep ha

/-- A call that the abstract machine has run: the model's call from any world that the machine's heap describes. -/
theorem calls_of_run (hm : P.follows .mixedOrders = true) (hN : NamesOK P) {n : Nat} {f : FuncId} {args : AV} {H : AH} {v : AV} {H' : AH} (h : (cb P G n).call f args H = some (v, H')) {μ : Mu} {w : World} {xs : Array Value} (hrep : Rep P B w0 G μ H w) (hxs : LR μ args xs.toList) : Calls P f xs w (After P B w0 G μ H v H') :=
  callsIn_wide.1 (((cb_ok hm hN n).1 _ _ _ _ _ h).2 μ w xs hrep hxs)

end
end Go.Eng
