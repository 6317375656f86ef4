/-
  The law SlideChecks' contract.
  Conditions: the two tables of math/bits hold what they are laid with; the arguments' cells are known.
-/
import Derived.Test.YtjcmalmcijpnnaaDoorChkS
namespace Go.Eng
open Go.RowKit Go.Proofs Go.Proofs.YtjcmalmcijpnnaaDoor

/-- From a world on, a call answers a value and leaves what was there alone. -/
def Ser (w : World) (f : FuncId) (args : Array Value) (v : Value) : Prop :=
  ∀ w', Below w.heap.size w w' → CallsIn Fence.wide 0 Tryd.prog f args w' fun e w'' => e = .returned v ∧ Below w'.heap.size w' w''

theorem Ser.of {w : World} {f : FuncId} {args : Array Value} {v : Value} (h : ∀ w', Below w.heap.size w w' → CallsIn Fence.wide 0 Tryd.prog f args w' fun e w'' => e = .returned v ∧ Below w'.heap.size w' w'') : Ser w f args v := h
theorem Ser.below {w w1 : World} {f : FuncId} {args : Array Value} {v : Value} (h : Ser w f args v) (hb : Below w.heap.size w w1) : Ser w1 f args v := fun w' h' => h w' (hb.trans (h'.mono hb.size))

theorem BoardErr.exists (n : Int) (ps : List (Int × Int)) : ∃ c, BoardErr n ps c := by
  by_cases h : 2 ≤ n ∧ n ≤ 9
  · by_cases h2 : IsBoard n.toNat ps
    · exact ⟨0, .inr (.inr ⟨h, h2, rfl⟩)⟩
    · exact ⟨100, .inr (.inl ⟨h, h2, rfl⟩)⟩
  · exact ⟨1, .inl ⟨h, rfl⟩⟩

section
variable {w : World} {n : Int} {x p : Value} {ps : List (Int × Int)} {zs : List Int} {c : Int}
theorem ser44 (hx : PairsAt w x ps) (hl : ps.length ≤ 1000) (he : BoardErr n ps c) : Ser w 44 #[.int .i64 n, x] (.int .i64 c) := fun w' hb =>
  (check_calls w' n x ps (hx.below hb) hl).mono fun _ _ ⟨⟨_, h, e⟩, hB⟩ => ⟨by rw [e, h.unique he], hB⟩
theorem ser45 (hx : PairsAt w x ps) (hl : ps.length ≤ 1000) (he : BoardErr n ps c) : Ser w 45 #[.int .i64 n, x] (.int .i64 c) := fun w' hb =>
  (slideCheck_calls w' n x ps (hx.below hb) hl).mono fun _ _ ⟨⟨_, h, e⟩, hB⟩ => ⟨by rw [e, h.unique he], hB⟩
theorem ser46 (hp : IntsAt w p zs) (h : IsPos n zs) : Ser w 46 #[.int .i64 n, p] (.int .i64 0) := fun w' hb => checkPosition_ok w' n p zs (hp.below hb) h
theorem ser46n (hp : IntsAt w p zs) (h : ¬ IsPos n zs) : Ser w 46 #[.int .i64 n, p] (.int .i64 1) := fun w' hb => checkPosition_no w' n p zs (hp.below hb) h
theorem ser47 (hp : IntsAt w p zs) (h : IsPos n zs) : Ser w 47 #[.int .i64 n, p] (.bool true) := fun w' hb =>
  (position_calls w' n p zs (hp.below hb)).mono fun _ _ ⟨⟨b, q, e⟩, hB⟩ => ⟨by rw [e, q.2 h], hB⟩
theorem ser47n (hp : IntsAt w p zs) (h : ¬ IsPos n zs) : Ser w 47 #[.int .i64 n, p] (.bool false) := fun w' hb =>
  (position_calls w' n p zs (hp.below hb)).mono fun _ _ ⟨⟨b, q, e⟩, hB⟩ => ⟨by
    have : b = false := by cases b with | false => rfl | true => exact absurd (q.1 rfl) h
    rw [e, this], hB⟩
theorem ser34 (hp : IntsAt w p zs) (h : IsPos n zs) : ∃ s, Ser w 34 #[.int .i64 n, p, p] (.tuple #[.int .i64 s, .int .i64 0]) :=
  ⟨_, fun w' hb => (sign_calls w' n p p zs zs (hp.below hb) (hp.below hb)).mono fun _ _ ⟨hB, h'⟩ => ⟨by
    rcases h' with ⟨q, _⟩ | ⟨_, _, e⟩
    · exact absurd ⟨h, h⟩ q
    · exact e, hB⟩⟩
theorem ser34n (hp : IntsAt w p zs) (h : ¬ IsPos n zs) : Ser w 34 #[.int .i64 n, p, p] (.tuple #[.int .i64 0, .int .i64 1]) := fun w' hb => sign_err w' n p p zs zs (hp.below hb) (hp.below hb) fun q => h q.1
theorem ser35 (hx : PairsAt w x ps) (hl : ps.length ≤ 1000) (hc : c ≠ 0) (he : BoardErr n ps c) : Ser w 35 #[.int .i64 n, x] (.tuple #[.bool false, .int .i64 c]) := fun w' hb => isWhole_err w' n x ps (hx.below hb) hl c hc he
theorem ser36 (hx : PairsAt w x ps) (hl : ps.length ≤ 1000) (hc : c ≠ 0) (he : BoardErr n ps c) : Ser w 36 #[.int .i64 n, x] (.tuple #[.int .i64 0, .bool false, .int .i64 c]) := fun w' hb => sides_err w' n x ps (hx.below hb) hl c hc he
theorem ser18 (hx : PairsAt w x ps) (hl : ps.length ≤ 1000) (hc : c ≠ 0) (he : BoardErr n ps c) : Ser w 18 #[.int .i64 n, x] (.tuple #[.int .i64 0, .int .i64 c]) := fun w' hb => size_err w' n x ps (hx.below hb) hl c hc he
theorem ser33 (hx : PairsAt w x ps) (hl : ps.length ≤ 1000) (hp : IntsAt w p zs) (hc : c ≠ 0) (he : AllErr n ps 1 (fun _ => zs) c) : Ser w 33 #[.int .i64 n, x, p, .slice none 0 0] (.tuple #[.slice none 0 0, .int .i64 0, .int .i64 c]) := fun w' hb => apply_err w' n x ps (hx.below hb) hl p zs (hp.below hb) _ c hc he
theorem ser23 (hx : PairsAt w x ps) (hl : ps.length ≤ 1000) (hp : IntsAt w p zs) (hc : c ≠ 0) (he : AllErr n ps 1 (fun _ => zs) c) : Ser w 23 #[.int .i64 n, x, p] (.tuple #[.int .i64 0, .int .i64 c]) := fun w' hb => count_err w' n x ps (hx.below hb) hl p zs (hp.below hb) c hc he
theorem ser27 (hx : PairsAt w x ps) (hl : ps.length ≤ 1000) (hp : IntsAt w p zs) (hc : c ≠ 0) (he : AllErr n ps 1 (fun _ => zs) c) : Ser w 27 #[.int .i64 n, x, p] (.tuple #[.int .i64 0, .int .i64 0, .int .i64 c]) := fun w' hb => farthest_err w' n x ps (hx.below hb) hl p zs (hp.below hb) c hc he
theorem ser22 (hx : PairsAt w x ps) (hl : ps.length ≤ 1000) (hp : IntsAt w p zs) (hc : c ≠ 0) (he : AllErr n ps 2 (fun i => if i = 0 then zs else zs) c) : Ser w 22 #[.int .i64 n, x, p, p] (.tuple #[.slice none 0 0, .bool false, .int .i64 c]) := fun w' hb => solve_err w' n x ps (hx.below hb) hl p zs (hp.below hb) p zs (hp.below hb) c hc he
theorem ser28 (hx : PairsAt w x ps) (hl : ps.length ≤ 1000) (hp : IntsAt w p zs) (hc : c ≠ 0) (he : AllErr n ps 2 (fun i => if i = 0 then zs else zs) c) : Ser w 28 #[.int .i64 n, x, p, p] (.tuple #[.bool false, .int .i64 c]) := fun w' hb => reaches_err w' n x ps (hx.below hb) hl p zs (hp.below hb) p zs (hp.below hb) c hc he
theorem ser16 (h : TabsIn w) : Ser w 16 #[] (.bool true) := fun w' hb => (callsIn_wide (n := 0)).2 (awake_calls (h.below hb))
theorem allErr_same {m : Nat} (h : BoardErr n ps 0) (hm : 0 < m) (hp : ¬ IsPos n zs) : AllErr n ps m (fun i => if i = 0 then zs else zs) 1 := .inr (.inl ⟨h, ⟨0, hm, by simpa using hp⟩, rfl⟩)
end

/-- The four cases: the board right or not, the position right or not. -/
theorem cases4 {w : World} {n : Int} {x p : Value} {ps : List (Int × Int)} {zs : List Int} (hx : PairsAt w x ps) (hl : ps.length ≤ 1000) (hp : IntsAt w p zs) (hw : TabsIn w) :
    (∃ s : Int, Hid (Ser w 44 #[.int .i64 n, x] (.int .i64 0)) ∧ Hid (Ser w 45 #[.int .i64 n, x] (.int .i64 0)) ∧ Hid (Ser w 46 #[.int .i64 n, p] (.int .i64 0)) ∧ Hid (Ser w 47 #[.int .i64 n, p] (.bool true)) ∧ Hid (Ser w 34 #[.int .i64 n, p, p] (.tuple #[.int .i64 s, .int .i64 0])) ∧ Hid (Ser w 16 #[] (.bool true))) ∨
    (Hid (Ser w 44 #[.int .i64 n, x] (.int .i64 0)) ∧ Hid (Ser w 45 #[.int .i64 n, x] (.int .i64 0)) ∧ Hid (Ser w 46 #[.int .i64 n, p] (.int .i64 1)) ∧ Hid (Ser w 47 #[.int .i64 n, p] (.bool false)) ∧ Hid (Ser w 34 #[.int .i64 n, p, p] (.tuple #[.int .i64 0, .int .i64 1])) ∧ Hid (Ser w 16 #[] (.bool true)) ∧ Hid (Ser w 33 #[.int .i64 n, x, p, .slice none 0 0] (.tuple #[.slice none 0 0, .int .i64 0, .int .i64 1])) ∧ Hid (Ser w 28 #[.int .i64 n, x, p, p] (.tuple #[.bool false, .int .i64 1])) ∧ Hid (Ser w 22 #[.int .i64 n, x, p, p] (.tuple #[.slice none 0 0, .bool false, .int .i64 1])) ∧ Hid (Ser w 23 #[.int .i64 n, x, p] (.tuple #[.int .i64 0, .int .i64 1])) ∧ Hid (Ser w 27 #[.int .i64 n, x, p] (.tuple #[.int .i64 0, .int .i64 0, .int .i64 1]))) ∨
    (∃ c s : Int, c ≠ 0 ∧ Hid (Ser w 44 #[.int .i64 n, x] (.int .i64 c)) ∧ Hid (Ser w 45 #[.int .i64 n, x] (.int .i64 c)) ∧ Hid (Ser w 46 #[.int .i64 n, p] (.int .i64 0)) ∧ Hid (Ser w 47 #[.int .i64 n, p] (.bool true)) ∧ Hid (Ser w 34 #[.int .i64 n, p, p] (.tuple #[.int .i64 s, .int .i64 0])) ∧ Hid (Ser w 35 #[.int .i64 n, x] (.tuple #[.bool false, .int .i64 c])) ∧ Hid (Ser w 36 #[.int .i64 n, x] (.tuple #[.int .i64 0, .bool false, .int .i64 c])) ∧ Hid (Ser w 18 #[.int .i64 n, x] (.tuple #[.int .i64 0, .int .i64 c])) ∧ Hid (Ser w 33 #[.int .i64 n, x, p, .slice none 0 0] (.tuple #[.slice none 0 0, .int .i64 0, .int .i64 c])) ∧ Hid (Ser w 28 #[.int .i64 n, x, p, p] (.tuple #[.bool false, .int .i64 c])) ∧ Hid (Ser w 22 #[.int .i64 n, x, p, p] (.tuple #[.slice none 0 0, .bool false, .int .i64 c])) ∧ Hid (Ser w 23 #[.int .i64 n, x, p] (.tuple #[.int .i64 0, .int .i64 c])) ∧ Hid (Ser w 27 #[.int .i64 n, x, p] (.tuple #[.int .i64 0, .int .i64 0, .int .i64 c])) ∧ Hid (Ser w 16 #[] (.bool true))) ∨
    (∃ c : Int, c ≠ 0 ∧ Hid (Ser w 44 #[.int .i64 n, x] (.int .i64 c)) ∧ Hid (Ser w 45 #[.int .i64 n, x] (.int .i64 c)) ∧ Hid (Ser w 46 #[.int .i64 n, p] (.int .i64 1)) ∧ Hid (Ser w 47 #[.int .i64 n, p] (.bool false)) ∧ Hid (Ser w 34 #[.int .i64 n, p, p] (.tuple #[.int .i64 0, .int .i64 1])) ∧ Hid (Ser w 35 #[.int .i64 n, x] (.tuple #[.bool false, .int .i64 c])) ∧ Hid (Ser w 36 #[.int .i64 n, x] (.tuple #[.int .i64 0, .bool false, .int .i64 c])) ∧ Hid (Ser w 18 #[.int .i64 n, x] (.tuple #[.int .i64 0, .int .i64 c])) ∧ Hid (Ser w 33 #[.int .i64 n, x, p, .slice none 0 0] (.tuple #[.slice none 0 0, .int .i64 0, .int .i64 c])) ∧ Hid (Ser w 28 #[.int .i64 n, x, p, p] (.tuple #[.bool false, .int .i64 c])) ∧ Hid (Ser w 22 #[.int .i64 n, x, p, p] (.tuple #[.slice none 0 0, .bool false, .int .i64 c])) ∧ Hid (Ser w 23 #[.int .i64 n, x, p] (.tuple #[.int .i64 0, .int .i64 c])) ∧ Hid (Ser w 27 #[.int .i64 n, x, p] (.tuple #[.int .i64 0, .int .i64 0, .int .i64 c])) ∧ Hid (Ser w 16 #[] (.bool true))) := by
  obtain ⟨c, he⟩ := BoardErr.exists n ps
  by_cases hc : c = 0
  · subst hc
    by_cases h : IsPos n zs
    · obtain ⟨s, hs⟩ := ser34 hp h
      exact .inl ⟨s, ser44 hx hl he, ser45 hx hl he, ser46 hp h, ser47 hp h, hs, ser16 hw⟩
    · exact .inr (.inl ⟨ser44 hx hl he, ser45 hx hl he, ser46n hp h, ser47n hp h, ser34n hp h, ser16 hw, ser33 hx hl hp (by decide) (.inr (.inl ⟨he, ⟨0, by omega, h⟩, rfl⟩)), ser28 hx hl hp (by decide) (allErr_same he (by omega) h), ser22 hx hl hp (by decide) (allErr_same he (by omega) h), ser23 hx hl hp (by decide) (.inr (.inl ⟨he, ⟨0, by omega, h⟩, rfl⟩)), ser27 hx hl hp (by decide) (.inr (.inl ⟨he, ⟨0, by omega, h⟩, rfl⟩))⟩)
  · by_cases h : IsPos n zs
    · obtain ⟨s, hs⟩ := ser34 hp h
      exact .inr (.inr (.inl ⟨c, s, hc, ser44 hx hl he, ser45 hx hl he, ser46 hp h, ser47 hp h, hs, ser35 hx hl hc he, ser36 hx hl hc he, ser18 hx hl hc he, ser33 hx hl hp hc (.inl ⟨hc, he⟩), ser28 hx hl hp hc (.inl ⟨hc, he⟩), ser22 hx hl hp hc (.inl ⟨hc, he⟩), ser23 hx hl hp hc (.inl ⟨hc, he⟩), ser27 hx hl hp hc (.inl ⟨hc, he⟩), ser16 hw⟩))
    · exact .inr (.inr (.inr ⟨c, hc, ser44 hx hl he, ser45 hx hl he, ser46n hp h, ser47n hp h, ser34n hp h, ser35 hx hl hc he, ser36 hx hl hc he, ser18 hx hl hc he, ser33 hx hl hp hc (.inl ⟨hc, he⟩), ser28 hx hl hp hc (.inl ⟨hc, he⟩), ser22 hx hl hp hc (.inl ⟨hc, he⟩), ser23 hx hl hp hc (.inl ⟨hc, he⟩), ser27 hx hl hp hc (.inl ⟨hc, he⟩), ser16 hw⟩))

set_option maxRecDepth 100000 in
set_option maxHeartbeats 32000000 in
/-- **The law SlideChecks.** -/
theorem checks_calls {w : World} (hw : TabsIn w) (n : Int) (v u : Value) (ps : List (Int × Int)) (zs : List Int) (hv : PairsAt w v ps) (hu : IntsAt w u zs) :
    CallsIn Fence.wide 0 Tryd.prog 11 #[.int .i64 n, v, u] w fun e w' => e = .returned (.bool true) ∧ Below w.heap.size w w' := by
  have HW := Hid.intro hw
  have HV := Hid.intro hv
  have HU := Hid.intro hu
  clear hw hv hu
  refine callsIn_of_wp Tryd.func11 rfl trivial ?_ rfl
  simp only [Tryd.ntmps11, List.size_toArray, List.length_cons, List.length_nil, Nat.reduceAdd, Nat.reduceSub, Array.replicate_succ, Array.replicate_zero, List.push_toArray, List.append_toArray, List.nil_append, List.cons_append]
  gi_wp2_with (first
    | (gi_at_call 43; refine (own_calls _ v ps HV.out).mono ?_; rintro e wa ⟨x, rfl, hx, hB⟩; have HX := Hid.intro hx; have HBa := Hid.intro hB; clear hx hB)
    | (gi_at_call 32; refine (list_calls _ u zs 12 (by omega) (HU.out.below HBa.out)).mono ?_; rintro e wb ⟨p, rfl, hp, hB⟩; have HBb := Hid.intro (HBa.out.trans (hB.mono HBa.out.size)); have HBk := Hid.intro (Below.refl wb.heap.size wb); have hcs := cases4 (n := n) (HX.out.below hB) (by have := List.length_take_le 40 ps; omega) hp (HW.out.below HBb.out); clear hp hB; rcases hcs with ⟨s, H44, H45, H46, H47, H34, H16⟩ | ⟨H44, H45, H46, H47, H34, H16, H33, H28, H22, H23, H27⟩ | ⟨c, s, hc, H44, H45, H46, H47, H34, H35, H36, H18, H33, H28, H22, H23, H27, H16⟩ | ⟨c, hc, H44, H45, H46, H47, H34, H35, H36, H18, H33, H28, H22, H23, H27, H16⟩)
    | (gi_at_call 44; refine (H44.out _ HBk.out).mono ?_; rintro e w1 ⟨rfl, hB⟩; have HBk := Hid.intro (HBk.out.trans (hB.mono HBk.out.size)); clear hB) | (gi_at_call 45; refine (H45.out _ HBk.out).mono ?_; rintro e w1 ⟨rfl, hB⟩; have HBk := Hid.intro (HBk.out.trans (hB.mono HBk.out.size)); clear hB) | (gi_at_call 46; refine (H46.out _ HBk.out).mono ?_; rintro e w1 ⟨rfl, hB⟩; have HBk := Hid.intro (HBk.out.trans (hB.mono HBk.out.size)); clear hB) | (gi_at_call 47; refine (H47.out _ HBk.out).mono ?_; rintro e w1 ⟨rfl, hB⟩; have HBk := Hid.intro (HBk.out.trans (hB.mono HBk.out.size)); clear hB) | (gi_at_call 34; refine (H34.out _ HBk.out).mono ?_; rintro e w1 ⟨rfl, hB⟩; have HBk := Hid.intro (HBk.out.trans (hB.mono HBk.out.size)); clear hB) | (gi_at_call 35; refine (H35.out _ HBk.out).mono ?_; rintro e w1 ⟨rfl, hB⟩; have HBk := Hid.intro (HBk.out.trans (hB.mono HBk.out.size)); clear hB) | (gi_at_call 36; refine (H36.out _ HBk.out).mono ?_; rintro e w1 ⟨rfl, hB⟩; have HBk := Hid.intro (HBk.out.trans (hB.mono HBk.out.size)); clear hB) | (gi_at_call 18; refine (H18.out _ HBk.out).mono ?_; rintro e w1 ⟨rfl, hB⟩; have HBk := Hid.intro (HBk.out.trans (hB.mono HBk.out.size)); clear hB) | (gi_at_call 33; refine (H33.out _ HBk.out).mono ?_; rintro e w1 ⟨rfl, hB⟩; have HBk := Hid.intro (HBk.out.trans (hB.mono HBk.out.size)); clear hB) | (gi_at_call 28; refine (H28.out _ HBk.out).mono ?_; rintro e w1 ⟨rfl, hB⟩; have HBk := Hid.intro (HBk.out.trans (hB.mono HBk.out.size)); clear hB) | (gi_at_call 22; refine (H22.out _ HBk.out).mono ?_; rintro e w1 ⟨rfl, hB⟩; have HBk := Hid.intro (HBk.out.trans (hB.mono HBk.out.size)); clear hB) | (gi_at_call 23; refine (H23.out _ HBk.out).mono ?_; rintro e w1 ⟨rfl, hB⟩; have HBk := Hid.intro (HBk.out.trans (hB.mono HBk.out.size)); clear hB) | (gi_at_call 27; refine (H27.out _ HBk.out).mono ?_; rintro e w1 ⟨rfl, hB⟩; have HBk := Hid.intro (HBk.out.trans (hB.mono HBk.out.size)); clear hB) | (gi_at_call 16; refine (H16.out _ HBk.out).mono ?_; rintro e w1 ⟨rfl, hB⟩; have HBk := Hid.intro (HBk.out.trans (hB.mono HBk.out.size)); clear hB))
  all_goals (first | go_returns | go_ret | go_end0)
  all_goals exact ⟨rfl, HBb.out.trans (HBk.out.mono HBb.out.size)⟩
end Go.Eng
