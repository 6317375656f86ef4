/-
  Walks, distances, positions and how many are reached; the reference's search in plain words.
  Conditions: none.
-/
import Derived.Test.YtjcmalmcijpnnaaDoorAplX
import Derived.Test.YtjcmalmcijpnnaaDoorChkX

namespace Go.Eng

section
variable {S : Type}

/-- A walk of so many steps. -/
inductive Wlk (E : S → S → Prop) (s : S) : Nat → S → Prop
  | zero : Wlk E s 0 s
  | step {n : Nat} {t u : S} : Wlk E s n t → E t u → Wlk E s (n + 1) u

/-- The least number of steps. -/
def DistE (E : S → S → Prop) (s : S) (d : Nat) (t : S) : Prop := Wlk E s d t ∧ ∀ k, k < d → ¬ Wlk E s k t

variable {E : S → S → Prop} {s : S}

theorem DistE.unique {d d' : Nat} {t : S} (h : DistE E s d t) (h' : DistE E s d' t) : d = d' := by
  rcases Nat.lt_trichotomy d d' with l | l | l
  · exact absurd h.1 (h'.2 d l)
  · exact l
  · exact absurd h'.1 (h.2 d' l)

theorem Wlk.dist {n : Nat} {t : S} (h : Wlk E s n t) : ∃ d, d ≤ n ∧ DistE E s d t := by
  induction n using Nat.strongRecOn with
  | ind n ih =>
    by_cases hk : ∃ k, k < n ∧ Wlk E s k t
    · obtain ⟨k, hk, hw⟩ := hk
      obtain ⟨d, hd, hD⟩ := ih k hk hw
      exact ⟨d, by omega, hD⟩
    · exact ⟨n, Nat.le_refl _, h, fun k hlt hw => hk ⟨k, hlt, hw⟩⟩

theorem DistE.zero : DistE E s 0 s := ⟨.zero, fun k hk => absurd hk (by omega)⟩
theorem DistE.of_zero {t : S} (h : DistE E s 0 t) : t = s := by
  cases h.1; rfl

theorem DistE.pred {d : Nat} {u : S} (h : DistE E s (d + 1) u) : ∃ t, DistE E s d t ∧ E t u := by
  obtain ⟨hw, hm⟩ := h
  cases hw with
  | step hw he =>
    rename_i t
    refine ⟨t, ⟨hw, fun k hk hw' => hm (k + 1) (by omega) (.step hw' he)⟩, he⟩

theorem DistE.next {d : Nat} {t u : S} (h : DistE E s d t) (he : E t u) : ∃ k, k ≤ d + 1 ∧ DistE E s k u := Wlk.dist (.step h.1 he)

theorem DistE.below {d : Nat} : ∀ {t : S}, DistE E s d t → ∀ k, k ≤ d → ∃ t', DistE E s k t' := by
  induction d with
  | zero => intro t h k hk; exact ⟨t, by have : k = 0 := (by omega); subst this; exact h⟩
  | succ d ih =>
    intro t h k hk
    by_cases e : k = d + 1
    · subst e; exact ⟨t, h⟩
    · obtain ⟨t', h', _⟩ := h.pred
      exact ih h' k (by omega)

theorem Wlk.add {n m : Nat} {t u : S} (h : Wlk E s n t) (h' : Wlk E t m u) : Wlk E s (n + m) u := by
  induction h' with
  | zero => exact h
  | step _ he ih => exact .step ih he

theorem Wlk.head {a b : S} {n : Nat} {t : S} (he : E a b) (h : Wlk E b n t) : Wlk E a (n + 1) t := by
  have := Wlk.add (Wlk.step (.zero : Wlk E a 0 a) he) h
  rwa [Nat.add_comm 1 n] at this

theorem Wlk.symm (hs : ∀ a b, E a b → E b a) {n : Nat} {t : S} (h : Wlk E s n t) : Wlk E t n s := by
  induction h with
  | zero => exact .zero
  | step _ he ih => exact ih.head (hs _ _ he)

theorem DistE.symm (hs : ∀ a b, E a b → E b a) {d : Nat} {t : S} (h : DistE E s d t) : DistE E t d s :=
  ⟨h.1.symm hs, fun k hk hw => h.2 k hk (hw.symm hs)⟩

/-- A walk has a place at each number of steps. -/
theorem Wlk.split {n : Nat} {t : S} (h : Wlk E s n t) (k : Nat) (hk : k ≤ n) : ∃ u, Wlk E s k u ∧ Wlk E u (n - k) t := by
  induction h with
  | zero => have e : k = 0 := (by omega); subst e; exact ⟨s, .zero, .zero⟩
  | step hw he ih =>
    rename_i n t u
    by_cases e : k = n + 1
    · subst e; exact ⟨u, .step hw he, by rw [Nat.sub_self]; exact .zero⟩
    · obtain ⟨v, h1, h2⟩ := ih (by omega)
      refine ⟨v, h1, ?_⟩
      have e2 : n + 1 - k = (n - k) + 1 := by omega
      rw [e2]
      exact .step h2 he

/-- All that is reached, as a list. -/
def AllOf (E : S → S → Prop) (s : S) (L : List S) : Prop := L.Nodup ∧ ∀ t, t ∈ L ↔ ∃ d, DistE E s d t
/-- What is reached in so many steps and not in fewer, as a list. -/
def LevOf (E : S → S → Prop) (s : S) (d : Nat) (L : List S) : Prop := L.Nodup ∧ ∀ t, t ∈ L ↔ DistE E s d t

theorem nodup_len {L M : List S} (h : L.Nodup) (hs : ∀ x ∈ L, x ∈ M) : L.length ≤ M.length := by
  classical
  induction L generalizing M with
  | nil => simp
  | cons a L ih =>
    have ha : a ∈ M := hs a (by simp)
    obtain ⟨M1, M2, rfl⟩ := List.append_of_mem ha
    have h2 := List.nodup_cons.1 h
    have := ih (M := M1 ++ M2) h2.2 (fun x hx => by
      have h3 := hs x (List.mem_cons_of_mem _ hx)
      have hne : x ≠ a := fun e => h2.1 (e ▸ hx)
      simp [hne] at h3
      simpa using h3)
    simp at this ⊢
    omega

theorem nodup_same {L M : List S} (h : L.Nodup) (h' : M.Nodup) (hs : ∀ x, x ∈ L ↔ x ∈ M) : L.length = M.length :=
  Nat.le_antisymm (nodup_len h fun x hx => (hs x).1 hx) (nodup_len h' fun x hx => (hs x).2 hx)

/-- What a search from s has to answer: how many are reached, how far the farthest are, how many these are. -/
structure Bfs (E : S → S → Prop) (s : S) (cnt most last : Nat) : Prop where
  all : ∃ L, AllOf E s L ∧ L.length = cnt
  far : ∃ L, LevOf E s most L ∧ L.length = last ∧ L ≠ []
  top : ∀ d t, DistE E s d t → d ≤ most

theorem Bfs.unique {a b c a' b' c' : Nat} (h : Bfs E s a b c) (h' : Bfs E s a' b' c') : a = a' ∧ b = b' ∧ c = c' := by
  obtain ⟨L, hL, rfl⟩ := h.all
  obtain ⟨L', hL', rfl⟩ := h'.all
  obtain ⟨M, hM, rfl, hne⟩ := h.far
  obtain ⟨M', hM', rfl, hne'⟩ := h'.far
  have e : b = b' := by
    obtain ⟨x, hx⟩ := List.exists_mem_of_ne_nil _ hne
    obtain ⟨x', hx'⟩ := List.exists_mem_of_ne_nil _ hne'
    exact Nat.le_antisymm (h'.top _ _ ((hM.2 x).1 hx)) (h.top _ _ ((hM'.2 x').1 hx'))
  subst e
  exact ⟨nodup_same hL.1 hL'.1 fun x => by rw [hL.2, hL'.2], rfl, nodup_same hM.1 hM'.1 fun x => by rw [hM.2, hM'.2]⟩

/-- A search by waves stands behind D steps: K is known, L was reached last. -/
structure Wave (E : S → S → Prop) (s : S) (D : Nat) (K L : List S) : Prop where
  kn : K.Nodup
  km : ∀ t, t ∈ K ↔ ∃ d, d ≤ D ∧ DistE E s d t
  ln : L.Nodup
  lm : ∀ t, t ∈ L ↔ DistE E s D t

theorem Wave.start (E : S → S → Prop) (s : S) : Wave E s 0 [s] [s] := by
  refine ⟨by simp, fun t => ⟨fun h => ?_, ?_⟩, by simp, fun t => ⟨fun h => ?_, fun h => by simp [h.of_zero]⟩⟩
  · simp at h; subst h; exact ⟨0, Nat.le_refl _, .zero⟩
  · rintro ⟨d, hd, h⟩
    have : d = 0 := by omega
    subst this
    simp [h.of_zero]
  · simp at h; subst h; exact .zero

/-- The next wave is under way: M is what is new; all that one step leads to from what holds of P is known. -/
structure Growing (E : S → S → Prop) (s : S) (D : Nat) (K M : List S) (P : S → S → Prop) : Prop where
  mn : M.Nodup
  mf : ∀ t ∈ M, t ∉ K
  md : ∀ t ∈ M, DistE E s (D + 1) t
  done : ∀ p q, P p q → E p q → q ∈ K ∨ q ∈ M

theorem Growing.start (E : S → S → Prop) (s : S) (D : Nat) (K : List S) : Growing E s D K [] fun _ _ => False :=
  ⟨by simp, by simp, by simp, fun _ _ h => h.elim⟩

theorem Growing.mono {D : Nat} {K M : List S} {P Q : S → S → Prop} (h : Growing E s D K M P) (hq : ∀ p q, Q p q → E p q → P p q) : Growing E s D K M Q :=
  ⟨h.mn, h.mf, h.md, fun p q hp he => h.done p q (hq p q hp he) he⟩

theorem Growing.old {D : Nat} {K M : List S} {P Q : S → S → Prop} (h : Growing E s D K M P) {q : S} (hk : q ∈ K ∨ q ∈ M) (hq : ∀ p' q', Q p' q' → E p' q' → P p' q' ∨ q' = q) : Growing E s D K M Q :=
  ⟨h.mn, h.mf, h.md, fun p' q' hp he => (hq p' q' hp he).elim (fun h1 => h.done _ _ h1 he) (fun e => e ▸ hk)⟩

theorem Growing.new {D : Nat} {K L M : List S} {P Q : S → S → Prop} (hW : Wave E s D K L) (h : Growing E s D K M P) {p q : S} (hp : p ∈ L) (he : E p q) (hk : q ∉ K) (hm : q ∉ M) (hq : ∀ p' q', Q p' q' → E p' q' → P p' q' ∨ q' = q) : Growing E s D K (M ++ [q]) Q := by
  have hd : DistE E s (D + 1) q := by
    obtain ⟨k, hk1, hk2⟩ := ((hW.lm p).1 hp).next he
    by_cases e : k = D + 1
    · exact e ▸ hk2
    · exact absurd ((hW.km q).2 ⟨k, by omega, hk2⟩) hk
  refine ⟨?_, ?_, ?_, ?_⟩
  · rw [List.nodup_append]
    refine ⟨h.mn, by simp, fun a ha b hb e => ?_⟩
    simp at hb
    subst hb; subst e
    exact hm ha
  · intro t ht
    rcases List.mem_append.1 ht with ht | ht
    · exact h.mf t ht
    · simp at ht; subst ht; exact hk
  · intro t ht
    rcases List.mem_append.1 ht with ht | ht
    · exact h.md t ht
    · simp at ht; subst ht; exact hd
  · intro p' q' h1 h2
    rcases hq p' q' h1 h2 with h3 | rfl
    · rcases h.done _ _ h3 h2 with h4 | h4
      · exact .inl h4
      · exact .inr (List.mem_append.2 (.inl h4))
    · exact .inr (List.mem_append.2 (.inr (by simp)))

theorem Growing.finish {D : Nat} {K L M : List S} (hW : Wave E s D K L) (h : Growing E s D K M fun p _ => p ∈ L) : Wave E s (D + 1) (K ++ M) M := by
  have hl : ∀ t, t ∈ M ↔ DistE E s (D + 1) t := by
    intro t
    refine ⟨h.md t, fun hd => ?_⟩
    obtain ⟨p, hp, he⟩ := hd.pred
    rcases h.done p t ((hW.lm p).2 hp) he with h1 | h1
    · obtain ⟨d, h2, h3⟩ := (hW.km t).1 h1
      have := h3.unique hd
      omega
    · exact h1
  refine ⟨?_, fun t => ?_, h.mn, hl⟩
  · rw [List.nodup_append]
    exact ⟨hW.kn, h.mn, fun a ha b hb e => h.mf b hb (e ▸ ha)⟩
  · rw [List.mem_append, hW.km, hl]
    constructor
    · rintro (⟨d, h1, h2⟩ | h1)
      · exact ⟨d, by omega, h2⟩
      · exact ⟨D + 1, Nat.le_refl _, h1⟩
    · rintro ⟨d, h1, h2⟩
      by_cases e : d = D + 1
      · exact .inr (e ▸ h2)
      · exact .inl ⟨d, by omega, h2⟩

/-- Nothing further is reached: all is known. -/
theorem Wave.ended {D : Nat} {K : List S} (h : Wave E s (D + 1) K []) : ∀ d t, DistE E s d t → d ≤ D := by
  intro d t hd
  by_cases hle : d ≤ D
  · exact hle
  · obtain ⟨t', h'⟩ := hd.below (D + 1) (by omega)
    have := (h.lm t').2 h'
    simp at this

theorem Wave.bfs {D : Nat} {K L : List S} (h : Wave E s D K L) (hne : L ≠ []) (htop : ∀ d t, DistE E s d t → d ≤ D) : Bfs E s K.length D L.length :=
  ⟨⟨K, ⟨h.kn, fun t => by rw [h.km]; exact ⟨fun ⟨d, _, h⟩ => ⟨d, h⟩, fun ⟨d, h⟩ => ⟨d, htop d t h, h⟩⟩⟩, rfl⟩, ⟨L, ⟨h.ln, h.lm⟩, rfl, hne⟩, htop⟩

/-- A search by a queue: l is the queue, the first i of it are done, δ says how far each is. -/
structure Queue (E : S → S → Prop) (s : S) (δ : S → Nat) (l : List S) (i : Nat) (P : S → S → Prop) : Prop where
  nd : l.Nodup
  st : s ∈ l
  z : δ s = 0
  wk : ∀ t ∈ l, Wlk E s (δ t) t
  up : l.Pairwise fun a b => δ a ≤ δ b
  near : ∀ a ∈ l, ∀ b, l[i]? = some b → δ a ≤ δ b + 1
  done : ∀ k, k < i → ∀ a, l[k]? = some a → ∀ b, E a b → b ∈ l ∧ δ b ≤ δ a + 1
  part : ∀ a, l[i]? = some a → ∀ b, P a b → E a b → b ∈ l ∧ δ b ≤ δ a + 1

theorem Queue.ended {δ : S → Nat} {l : List S} {P : S → S → Prop} (h : Queue E s δ l l.length P) : ∀ t, (t ∈ l ↔ ∃ d, DistE E s d t) ∧ (t ∈ l → DistE E s (δ t) t) := by
  have key : ∀ n t, Wlk E s n t → t ∈ l ∧ δ t ≤ n := by
    intro n t hw
    induction hw with
    | zero => exact ⟨h.st, by rw [h.z]; exact Nat.le_refl _⟩
    | step hw he ih =>
      obtain ⟨i, hi, e⟩ := List.getElem_of_mem ih.1
      have := h.done i hi _ (by rw [List.getElem?_eq_getElem hi, e]) _ he
      exact ⟨this.1, by omega⟩
  intro t
  have h2 : t ∈ l → DistE E s (δ t) t := fun ht => ⟨h.wk t ht, fun k hk hw => by have := (key k t hw).2; omega⟩
  exact ⟨⟨fun ht => ⟨_, h2 ht⟩, fun ⟨d, hd⟩ => (key d t hd.1).1⟩, h2⟩

theorem Queue.start (E : S → S → Prop) (s : S) (δ : S → Nat) (hz : δ s = 0) : Queue E s δ [s] 0 fun _ _ => False := by
  refine ⟨by simp, by simp, hz, fun t ht => ?_, by simp, fun a ha b hb => ?_, fun k hk => absurd hk (by omega), fun _ _ _ h => h.elim⟩
  · simp at ht; subst ht; rw [hz]; exact .zero
  · simp at ha hb; subst ha; subst hb; omega

theorem Queue.old {δ : S → Nat} {l : List S} {i : Nat} {P Q : S → S → Prop} (h : Queue E s δ l i P) {p q : S} (hp : l[i]? = some p) (hq : q ∈ l) (hQ : ∀ b, Q p b → E p b → P p b ∨ b = q) : Queue E s δ l i Q :=
  ⟨h.nd, h.st, h.z, h.wk, h.up, h.near, h.done, fun a ha b hb he => by
    rw [hp] at ha
    cases ha
    rcases hQ b hb he with h1 | rfl
    · exact h.part p hp b h1 he
    · exact ⟨hq, h.near _ hq p hp⟩⟩

theorem Queue.new {δ : S → Nat} {l : List S} {i : Nat} {P Q : S → S → Prop} (h : Queue E s δ l i P) {p q : S} (hp : l[i]? = some p) (he : E p q) (hq : q ∉ l) {δ' : S → Nat} (hδ : ∀ t, t ∈ l → δ' t = δ t) (hδq : δ' q = δ p + 1) (hQ : ∀ b, Q p b → E p b → P p b ∨ b = q) : Queue E s δ' (l ++ [q]) i Q := by
  have hi : i < l.length := (List.getElem?_eq_some_iff.1 hp).1
  have hpl : p ∈ l := List.mem_of_getElem? hp
  have hg : ∀ k, k < l.length → (l ++ [q])[k]? = l[k]? := fun k hk => List.getElem?_append_left hk
  refine ⟨?_, by simp [h.st], by rw [hδ s h.st, h.z], ?_, ?_, ?_, ?_, ?_⟩
  · rw [List.nodup_append]
    exact ⟨h.nd, by simp, fun a ha b hb e => by simp at hb; subst hb; subst e; exact hq ha⟩
  · intro t ht
    rcases List.mem_append.1 ht with ht | ht
    · rw [hδ t ht]; exact h.wk t ht
    · simp at ht; subst ht; rw [hδq]; exact .step (h.wk p hpl) he
  · rw [List.pairwise_append]
    refine ⟨h.up.imp_of_mem (fun {a b} ha hb hab => by rw [hδ a ha, hδ b hb]; exact hab), by simp, fun a ha b hb => ?_⟩
    simp at hb; subst hb
    rw [hδ a ha, hδq]
    exact h.near a ha p hp
  · intro a ha b hb
    rw [hg i hi, hp] at hb
    cases hb
    rw [hδ p hpl]
    rcases List.mem_append.1 ha with ha | ha
    · rw [hδ a ha]; exact h.near a ha p hp
    · simp at ha; subst ha; omega
  · intro k hk a ha b hab
    rw [hg k (by omega)] at ha
    obtain ⟨h1, h2⟩ := h.done k hk a ha b hab
    rw [hδ a (List.mem_of_getElem? ha), hδ b h1]
    exact ⟨by simp [h1], h2⟩
  · intro a ha b hb hab
    rw [hg i hi, hp] at ha
    cases ha
    rw [hδ p hpl]
    rcases hQ b hb hab with h1 | rfl
    · obtain ⟨h2, h3⟩ := h.part p hp b h1 hab
      rw [hδ b h2]
      exact ⟨by simp [h2], h3⟩
    · exact ⟨by simp, by omega⟩

theorem Queue.next {δ : S → Nat} {l : List S} {i : Nat} {P : S → S → Prop} (h : Queue E s δ l i P) {p : S} (hp : l[i]? = some p) (hP : ∀ b, E p b → P p b) : Queue E s δ l (i + 1) fun _ _ => False := by
  refine ⟨h.nd, h.st, h.z, h.wk, h.up, fun a ha b hb => ?_, fun k hk a ha b hab => ?_, fun _ _ _ h => h.elim⟩
  · have h1 := h.near a ha p hp
    obtain ⟨hi, e1⟩ := List.getElem?_eq_some_iff.1 hp
    obtain ⟨hj, e2⟩ := List.getElem?_eq_some_iff.1 hb
    have h2 := List.pairwise_iff_getElem.1 h.up i (i + 1) hi hj (by omega)
    rw [e1, e2] at h2
    omega
  · by_cases e : k = i
    · subst e
      rw [hp] at ha
      cases ha
      exact h.part p hp b (hP b hab) hab
    · exact h.done k (by omega) a ha b hab
end
end Go.Eng

namespace Go.Eng

/-- A position of N places: zero beyond them, its numbers each once. -/
structure Pos (N : Nat) (z : Nat → Int) : Prop where
  out : ∀ i, N ≤ i → z i = 0
  lo : ∀ i, 0 ≤ z i
  hi : ∀ i, i < N → z i < N
  inj : ∀ i j, i < N → j < N → z i = z j → i = j

theorem Pos.ext {N : Nat} {z z' : Nat → Int} (h : Pos N z) (h' : Pos N z') (e : ∀ i, i < N → z i = z' i) : z = z' := by
  funext i
  by_cases hi : i < N
  · exact e i hi
  · rw [h.out i (by omega), h'.out i (by omega)]

theorem Pos.mem {N : Nat} {z : Nat → Int} (h : Pos N z) : ((List.range N).map z).Nodup ∧ ∀ v : Int, 0 ≤ v → v < N → ∃ i, i < N ∧ z i = v := by
  have hn : ((List.range N).map z).Nodup := by
    rw [List.nodup_iff_pairwise_ne, List.pairwise_map]
    refine List.Pairwise.imp_of_mem ?_ (List.pairwise_lt_range)
    intro a b ha hb hab e
    have := h.inj a b (List.mem_range.1 ha) (List.mem_range.1 hb) e
    omega
  refine ⟨hn, fun v h0 h1 => ?_⟩
  apply Classical.byContradiction
  intro hno
  have hv : v ∉ (List.range N).map z := fun hm => by
    obtain ⟨i, hi, e⟩ := List.mem_map.1 hm
    exact hno ⟨i, List.mem_range.1 hi, e⟩
  have := nodup_len (L := v :: (List.range N).map z) (M := (List.range N).map fun i : Nat => (i : Int)) (List.nodup_cons.2 ⟨hv, hn⟩) (fun x hx => by
    rcases List.mem_cons.1 hx with rfl | hx
    · exact List.mem_map.2 ⟨x.toNat, List.mem_range.2 (by omega), by omega⟩
    · obtain ⟨i, hi, e⟩ := List.mem_map.1 hx
      have h2 := h.lo i
      have h3 := h.hi i (List.mem_range.1 hi)
      exact List.mem_map.2 ⟨x.toNat, List.mem_range.2 (by omega), by omega⟩)
  simp at this
  omega

theorem Pos.ex_hole {N : Nat} {z : Nat → Int} (h : Pos N z) (hN : 0 < N) (h100 : N ≤ 100) : ∃ h0, PosZ z N h0 := by
  obtain ⟨i, hi, e⟩ := h.mem.2 0 (by omega) (by omega)
  refine ⟨i, hi, e, fun j hj hne hz => hne (h.inj j i hj hi (hz.trans e.symm)), fun j => ⟨h.lo j, ?_⟩⟩
  by_cases hj : j < N
  · have := h.hi j hj; omega
  · rw [h.out j (by omega)]; decide

theorem PosZ.unique {N : Nat} {z : Nat → Int} {a b : Nat} (h : PosZ z N a) (h' : PosZ z N b) : a = b := by
  apply Classical.byContradiction
  intro hne
  exact h.only b h'.lt (fun e => hne e.symm) h'.zero

theorem swapAt_self (z : Nat → Int) (a : Nat) : swapAt z a a = z := by
  funext i
  unfold swapAt
  by_cases e : i = a
  · simp [e]
  · simp [e]
theorem swapAt_swap (z : Nat → Int) (a b : Nat) : swapAt (swapAt z a b) b a = z := by
  funext i
  unfold swapAt
  by_cases e : i = a
  · subst e
    by_cases e2 : i = b
    · simp [e2]
    · simp
  · by_cases e2 : i = b
    · subst e2
      rw [if_neg e, if_pos rfl]
      by_cases e3 : a = i
      · simp [e3]
      · simp [e3]
    · simp [e, e2]
theorem Pos.swap {N : Nat} {z : Nat → Int} (h : Pos N z) {a b : Nat} (ha : a < N) (hb : b < N) : Pos N (swapAt z a b) := by
  refine ⟨fun i hi => ?_, fun i => ?_, fun i hi => ?_, fun i j hi hj e => ?_⟩
  · unfold swapAt
    rw [if_neg (by omega), if_neg (by omega)]
    exact h.out i hi
  · unfold swapAt
    repeat' split
    all_goals exact h.lo _
  · unfold swapAt
    repeat' split
    all_goals exact h.hi _ (by assumption)
  · have s : ∀ i, swapAt z a b i = z (if i = b then a else if i = a then b else i) := fun i => by
      unfold swapAt
      by_cases e1 : i = b
      · simp [e1]
      · by_cases e2 : i = a
        · rw [if_neg e1, if_pos e2, if_neg e1, if_pos e2]
        · rw [if_neg e1, if_neg e2, if_neg e1, if_neg e2]
    rw [s, s] at e
    have := h.inj _ _ (by split <;> (try split) <;> assumption) (by split <;> (try split) <;> assumption) e
    split at this <;> split at this <;> (try split at this) <;> (try split at this) <;> omega

theorem nearB_comm (qs : List (Nat × Nat)) (a b : Nat) : nearB qs a (b : Int) = nearB qs b (a : Int) := by
  unfold nearB
  rw [Int.min_comm, Int.max_comm]

/-- A move. -/
def Mov (qs : List (Nat × Nat)) (N : Nat) (z z' : Nat → Int) : Prop := Pos N z ∧ ∃ h t, PosZ z N h ∧ t < N ∧ nearB qs h (t : Int) = true ∧ z' = swapAt z h t

theorem Mov.pos {qs : List (Nat × Nat)} {N : Nat} {z z' : Nat → Int} (h : Mov qs N z z') : Pos N z' := by
  obtain ⟨h0, a, t, h1, h2, _, rfl⟩ := h
  exact h0.swap h1.lt h2
theorem Mov.symm {qs : List (Nat × Nat)} {N : Nat} {z z' : Nat → Int} (h : Mov qs N z z') : Mov qs N z' z := by
  have hp := h.pos
  obtain ⟨h0, a, t, h1, h2, h3, rfl⟩ := h
  exact ⟨hp, t, a, h1.move h2, h1.lt, by rw [nearB_comm]; exact h3, (swapAt_swap z a t).symm⟩
theorem Wlk.pos {qs : List (Nat × Nat)} {N : Nat} {s t : Nat → Int} {n : Nat} (hs : Pos N s) (h : Wlk (Mov qs N) s n t) : Pos N t := by
  induction h with
  | zero => exact hs
  | step _ he _ => exact he.pos

/-! ### The rank of a position -/
/-- How many of the later ones are less. -/
def lessF (z : Nat → Int) (N i : Nat) : Nat := ((List.range' (i + 1) (N - (i + 1))).filter fun k => decide (z k < z i)).length
def rankF (z : Nat → Int) (N : Nat) : Nat → Nat
  | 0 => 0
  | i + 1 => rankF z N i * (N - i) + lessF z N i
def prodF (N : Nat) : Nat → Nat
  | 0 => 1
  | i + 1 => prodF N i * (N - i)

theorem lessF_lt {z : Nat → Int} {N i : Nat} (hi : i < N) : lessF z N i < N - i := by
  unfold lessF
  have := List.length_filter_le (fun k => decide (z k < z i)) (List.range' (i + 1) (N - (i + 1)))
  simp at this
  omega
theorem rankF_lt {z : Nat → Int} {N : Nat} : ∀ {i : Nat}, i ≤ N → rankF z N i < prodF N i
  | 0, _ => by simp [rankF, prodF]
  | i + 1, hi => by
    have h1 := rankF_lt (z := z) (N := N) (i := i) (by omega)
    have h2 := lessF_lt (z := z) (N := N) (i := i) (by omega)
    simp only [rankF, prodF]
    calc rankF z N i * (N - i) + lessF z N i < rankF z N i * (N - i) + (N - i) := by omega
      _ = (rankF z N i + 1) * (N - i) := by rw [Nat.add_mul, Nat.one_mul]
      _ ≤ prodF N i * (N - i) := Nat.mul_le_mul_right _ h1
theorem rankF_inj {z z' : Nat → Int} {N : Nat} : ∀ {i : Nat}, i ≤ N → rankF z N i = rankF z' N i → ∀ j, j < i → lessF z N j = lessF z' N j
  | 0, _, _, j, hj => by omega
  | i + 1, hi, h, j, hj => by
    have a1 := lessF_lt (z := z) (N := N) (i := i) (by omega)
    have a2 := lessF_lt (z := z') (N := N) (i := i) (by omega)
    simp only [rankF] at h
    have e1 : lessF z N i = lessF z' N i := by
      have := congrArg (· % (N - i)) h
      simp only [Nat.mul_add_mod', Nat.mod_eq_of_lt a1, Nat.mod_eq_of_lt a2] at this
      exact this
    have e2 : rankF z N i = rankF z' N i := by
      rw [e1] at h
      exact Nat.eq_of_mul_eq_mul_right (show 0 < N - i by omega) (by omega)
    by_cases e : j = i
    · subst e; exact e1
    · exact rankF_inj (by omega) e2 j (by omega)

/-- The later ones that are less, by their values. -/
theorem lessF_vals {N : Nat} {z : Nat → Int} (h : Pos N z) {i : Nat} (hi : i < N) : lessF z N i = ((List.range N).filter fun v : Nat => decide ((v : Int) < z i ∧ ∀ j, j < i → z j ≠ (v : Int))).length := by
  unfold lessF
  have e : ((List.range' (i + 1) (N - (i + 1))).filter fun k => decide (z k < z i)).length = (((List.range' (i + 1) (N - (i + 1))).filter fun k => decide (z k < z i)).map fun k => (z k).toNat).length := by simp
  rw [e]
  refine nodup_same ?_ (List.Pairwise.filter _ List.nodup_range) fun v => ?_
  · rw [List.nodup_iff_pairwise_ne, List.pairwise_map]
    refine List.Pairwise.imp_of_mem ?_ (List.Pairwise.filter _ (List.pairwise_lt_range' ))
    intro a b ha hb hab e
    have ha2 := List.mem_range'_1.1 (List.mem_filter.1 ha).1
    have hb2 := List.mem_range'_1.1 (List.mem_filter.1 hb).1
    have h1 := h.lo a
    have h2 := h.lo b
    have := h.inj a b (by omega) (by omega) (by omega)
    omega
  · simp only [List.mem_map, List.mem_filter, List.mem_range, List.mem_range'_1, decide_eq_true_eq]
    constructor
    · rintro ⟨k, ⟨⟨h1, h2⟩, h3⟩, rfl⟩
      have h4 := h.lo k
      have h5 := h.hi k (by omega)
      refine ⟨by omega, by omega, fun j hj e => ?_⟩
      have := h.inj j k (by omega) (by omega) (by omega)
      omega
    · rintro ⟨h1, h2, h3⟩
      obtain ⟨k, hk, e⟩ := h.mem.2 v (by omega) (by omega)
      refine ⟨k, ⟨⟨?_, by omega⟩, by omega⟩, by omega⟩
      by_cases hlt : k < i
      · exact absurd e (h3 k hlt)
      · by_cases hki : k = i
        · subst hki; omega
        · omega

theorem rank_inj {N : Nat} {z z' : Nat → Int} (h : Pos N z) (h' : Pos N z') (e : rankF z N N = rankF z' N N) : z = z' := by
  have hl := rankF_inj (Nat.le_refl N) e
  refine h.ext h' fun i hi => ?_
  induction i using Nat.strongRecOn with
  | ind i ih =>
    have e1 := hl i hi
    rw [lessF_vals h hi, lessF_vals h' hi] at e1
    have key : ∀ (y y' : Nat → Int), Pos N y → Pos N y' → (∀ j, j < i → y j = y' j) → y i < y' i →
        ((List.range N).filter fun v : Nat => decide ((v : Int) < y i ∧ ∀ j, j < i → y j ≠ (v : Int))).length < ((List.range N).filter fun v : Nat => decide ((v : Int) < y' i ∧ ∀ j, j < i → y' j ≠ (v : Int))).length := by
      intro y y' hy hy' hyy hlt
      have h0 := hy.lo i
      have h1 := hy.hi i hi
      have := nodup_len (L := (y i).toNat :: ((List.range N).filter fun v : Nat => decide ((v : Int) < y i ∧ ∀ j, j < i → y j ≠ (v : Int)))) (M := (List.range N).filter fun v : Nat => decide ((v : Int) < y' i ∧ ∀ j, j < i → y' j ≠ (v : Int))) (by
          refine List.nodup_cons.2 ⟨?_, List.Pairwise.filter _ List.nodup_range⟩
          simp only [List.mem_filter, decide_eq_true_eq]
          rintro ⟨_, h2, _⟩
          omega) (fun x hx => by
          simp only [List.mem_cons, List.mem_filter, List.mem_range, decide_eq_true_eq] at hx ⊢
          rcases hx with rfl | ⟨a, b, c⟩
          · refine ⟨by omega, by omega, fun j hj e => ?_⟩
            rw [← hyy j hj] at e
            have := hy.inj j i (by omega) hi (by omega)
            omega
          · exact ⟨a, by omega, fun j hj => by rw [← hyy j hj]; exact c j hj⟩)
      rw [List.length_cons] at this
      exact this
    have hyy : ∀ j, j < i → z j = z' j := fun j hj => ih j hj (by omega)
    rcases Int.lt_trichotomy (z i) (z' i) with l | l | l
    · have := key z z' h h' hyy l; omega
    · exact l
    · have := key z' z h' h (fun j hj => (hyy j hj).symm) l; omega

/-- No more positions than ranks. -/
theorem pos_count {N : Nat} {L : List (Nat → Int)} (hn : L.Nodup) (hL : ∀ z ∈ L, Pos N z) : L.length ≤ prodF N N := by
  have := nodup_len (L := L.map fun z => rankF z N N) (M := List.range (prodF N N)) (by
    rw [List.nodup_iff_pairwise_ne, List.pairwise_map]
    refine List.Pairwise.imp_of_mem ?_ (List.nodup_iff_pairwise_ne.1 hn)
    intro a b ha hb hab e
    exact hab (rank_inj (hL a ha) (hL b hb) e)) (fun x hx => by
    obtain ⟨z, _, rfl⟩ := List.mem_map.1 hx
    exact List.mem_range.2 (rankF_lt (Nat.le_refl N)))
  simpa using this
theorem prodF_le {N : Nat} (h : N ≤ 9) : prodF N N ≤ 362880 := by
  have : N = 0 ∨ N = 1 ∨ N = 2 ∨ N = 3 ∨ N = 4 ∨ N = 5 ∨ N = 6 ∨ N = 7 ∨ N = 8 ∨ N = 9 := by omega
  rcases this with rfl | rfl | rfl | rfl | rfl | rfl | rfl | rfl | rfl | rfl <;> decide
end Go.Eng

namespace Go.Eng
open Go.RowKit Go.Proofs Go.Proofs.YtjcmalmcijpnnaaDoor

def factN : Nat → Nat
  | 0 => 1
  | n + 1 => factN n * (n + 1)
theorem fact_prod {N : Nat} (h : N ≤ 9) : factN N = prodF N N := by
  have : N = 0 ∨ N = 1 ∨ N = 2 ∨ N = 3 ∨ N = 4 ∨ N = 5 ∨ N = 6 ∨ N = 7 ∨ N = 8 ∨ N = 9 := by omega
  rcases this with rfl | rfl | rfl | rfl | rfl | rfl | rfl | rfl | rfl | rfl <;> decide
theorem fact_le {N : Nat} (h : N ≤ 9) : factN N ≤ 362880 := fact_prod h ▸ prodF_le h
theorem prodF_mono {N : Nat} : ∀ {d i : Nat}, i + d ≤ N → prodF N i ≤ prodF N (i + d)
  | 0, _, _ => Nat.le_refl _
  | d + 1, i, h => by
    have h1 := prodF_mono (N := N) (d := d) (i := i) (by omega)
    show prodF N i ≤ prodF N (i + d) * (N - (i + d))
    exact Nat.le_trans h1 (Nat.le_mul_of_pos_right _ (by omega))
theorem prodF_le' {N i : Nat} (hN : N ≤ 9) (hi : i ≤ N) : prodF N i ≤ 362880 := by
  have := prodF_mono (N := N) (d := N - i) (i := i) (by omega)
  rw [show i + (N - i) = N by omega] at this
  exact Nat.le_trans this (prodF_le hN)

set_option maxRecDepth 100000 in
set_option maxHeartbeats 4000000 in
/-- **'Factorial' of the reference.** -/
theorem factorial_calls (w : World) (N : Nat) (hN : 2 ≤ N ∧ N ≤ 9) :
    CallsIn Fence.wide 0 Tryd.prog 42 #[.int .i64 (N : Int)] w fun e w' => e = .returned (.int .i64 ((prodF N N : Nat) : Int)) ∧ w = w' := by
  refine callsIn_of_wp Tryd.func42 rfl trivial ?_ rfl
  simp only [Tryd.ntmps42, List.size_toArray, List.length_cons, List.length_nil, Nat.reduceAdd, Nat.reduceSub, Array.replicate_succ, Array.replicate_zero, List.push_toArray, List.append_toArray, List.nil_append, List.cons_append]
  gi_wp2
  gi_loop [3, 4] (fun o i => ∃ k : Nat, k ≤ N ∧ 1 ≤ k ∧ o = .int .i64 ((factN k : Nat) : Int) ∧ i = .int .i64 ((k : Int) + 1)) (fun _ i => N + 1 - (intOf i).toNat)
  case atStart => exact ⟨1, by omega, by omega, rfl, rfl⟩
  case round =>
    obtain ⟨k, hk, h1, rfl, rfl⟩ := hrel
    by_cases hlt : k < N
    · have hM : ((factN k : Nat) : Int) * ((k : Int) + 1) = ((factN (k + 1) : Nat) : Int) := by
        show _ = ((factN k * (k + 1) : Nat) : Int)
        rw [Int.natCast_mul]; rfl
      have hb := fact_le (N := k + 1) (by omega)
      obtain ⟨F, hF⟩ : ∃ F, factN k = F := ⟨_, rfl⟩
      obtain ⟨G, hG⟩ : ∃ G, factN (k + 1) = G := ⟨_, rfl⟩
      have HG := Hid.intro hG
      rw [hF, hG] at hM
      rw [hG] at hb
      rw [hF]
      clear hF hG
      gi_wp2
      exact ⟨⟨k + 1, by omega, by omega, by rw [HG.out], by go_num⟩, by simp [intOf]; omega⟩
    · have e : k = N := by omega
      subst e
      have hFF := fact_prod hN.2
      rw [hFF]
      gi_wp2
      all_goals (first | go_returns | go_ret | go_end0)
      exact ⟨rfl, rfl⟩
end Go.Eng

namespace Go.Eng

/-- Just so many have the property. -/
def CountOf {S : Type} (P : S → Prop) (n : Nat) : Prop := ∃ L : List S, L.Nodup ∧ (∀ x, x ∈ L ↔ P x) ∧ L.length = n

theorem CountOf.unique {S : Type} {P : S → Prop} {n m : Nat} (h : CountOf P n) (h' : CountOf P m) : n = m := by
  obtain ⟨L, h1, h2, rfl⟩ := h
  obtain ⟨M, h3, h4, rfl⟩ := h'
  exact nodup_same h1 h3 fun x => by rw [h2, h4]
theorem CountOf.congr {S : Type} {P Q : S → Prop} {n : Nat} (h : CountOf P n) (e : ∀ x, P x ↔ Q x) : CountOf Q n := by
  obtain ⟨L, h1, h2, h3⟩ := h
  exact ⟨L, h1, fun x => (h2 x).trans (e x), h3⟩
theorem CountOf.none {S : Type} {P : S → Prop} (h : ∀ x, ¬ P x) : CountOf P 0 := ⟨[], by simp, fun x => by simp [h x], rfl⟩
theorem CountOf.one {S : Type} {P : S → Prop} {a : S} (h : ∀ x, P x ↔ x = a) : CountOf P 1 := ⟨[a], by simp, fun x => by simp [h x], rfl⟩
theorem CountOf.map {S T : Type} {P : S → Prop} {Q : T → Prop} {n : Nat} (f : S → T) (g : T → S) (h : CountOf P n) (hf : ∀ x, P x → Q (f x) ∧ g (f x) = x) (hg : ∀ y, Q y → P (g y) ∧ f (g y) = y) : CountOf Q n := by
  obtain ⟨L, h1, h2, h3⟩ := h
  refine ⟨L.map f, ?_, fun y => ?_, by simp [h3]⟩
  · rw [List.nodup_iff_pairwise_ne, List.pairwise_map]
    refine List.Pairwise.imp_of_mem ?_ (List.nodup_iff_pairwise_ne.1 h1)
    intro a b ha hb hab e
    have h5 := (hf a ((h2 a).1 ha)).2
    have h6 := (hf b ((h2 b).1 hb)).2
    rw [e, h6] at h5
    exact hab h5.symm
  · rw [List.mem_map]
    constructor
    · rintro ⟨x, hx, rfl⟩; exact (hf x ((h2 x).1 hx)).1
    · intro hy; exact ⟨g y, (h2 _).2 (hg y hy).1, (hg y hy).2⟩
theorem CountOf.add {S : Type} {P Q R : S → Prop} {n m : Nat} (h : CountOf P n) (h' : CountOf Q m) (hd : ∀ x, P x → Q x → False) (e : ∀ x, R x ↔ P x ∨ Q x) : CountOf R (n + m) := by
  obtain ⟨L, h1, h2, rfl⟩ := h
  obtain ⟨M, h3, h4, rfl⟩ := h'
  refine ⟨L ++ M, ?_, fun x => by rw [List.mem_append, h2, h4, e], by simp⟩
  rw [List.nodup_append]
  exact ⟨h1, h3, fun a ha b hb q => hd a ((h2 a).1 ha) (q ▸ (h4 b).1 hb)⟩

/-- The sum of the first. -/
def sumTo (f : Nat → Nat) : Nat → Nat
  | 0 => 0
  | n + 1 => sumTo f n + f n
theorem CountOf.sum {S : Type} {f : Nat → Nat} {Pk : Nat → S → Prop} : ∀ {n : Nat}, (∀ k, k < n → CountOf (Pk k) (f k)) → (∀ x j k, j < n → k < n → Pk j x → Pk k x → j = k) → CountOf (fun x => ∃ k, k < n ∧ Pk k x) (sumTo f n)
  | 0, _, _ => CountOf.none fun x ⟨k, hk, _⟩ => by omega
  | n + 1, h, hd => by
    refine CountOf.add (CountOf.sum (n := n) (fun k hk => h k (by omega)) fun x j k hj hk => hd x j k (by omega) (by omega)) (h n (by omega)) (fun x ⟨k, hk, h1⟩ h2 => ?_) fun x => ?_
    · have := hd x k n (by omega) (by omega) h1 h2; omega
    · constructor
      · rintro ⟨k, hk, h1⟩
        by_cases e : k = n
        · subst e; exact .inr h1
        · exact .inl ⟨k, by omega, h1⟩
      · rintro (⟨k, hk, h1⟩ | h1)
        · exact ⟨k, by omega, h1⟩
        · exact ⟨n, by omega, h1⟩
theorem sumTo_const {f : Nat → Nat} {c : Nat} : ∀ {n : Nat}, (∀ k, k < n → f k = c) → sumTo f n = n * c
  | 0, _ => by simp [sumTo]
  | n + 1, h => by
    rw [sumTo, sumTo_const (n := n) fun k hk => h k (by omega), h n (by omega), Nat.succ_mul]

/-- 'sized' of the reference: what is still to choose, from which place on. -/
def sizedF (N : Nat) (st : Nat → Int) : Nat → (Nat → Int) → Nat
  | 0, z => if 0 ≤ st (rankF z N N) then 1 else 0
  | m + 1, z => sumTo (fun i => sizedF N st m (swapAt z (N - (m + 1)) (N - (m + 1) + i))) (m + 1)

theorem sumTo_le {f : Nat → Nat} {c : Nat} : ∀ {n : Nat}, (∀ k, k < n → f k ≤ c) → sumTo f n ≤ n * c
  | 0, _ => by simp [sumTo]
  | n + 1, h => by
    have h1 := sumTo_le (n := n) fun k hk => h k (by omega)
    have h2 := h n (by omega)
    rw [sumTo, Nat.succ_mul]; omega
theorem sumTo_mono {f : Nat → Nat} : ∀ {n m : Nat}, n ≤ m → sumTo f n ≤ sumTo f m
  | n, 0, h => by have : n = 0 := (by omega); subst this; exact Nat.le_refl _
  | n, m + 1, h => by
    by_cases e : n = m + 1
    · subst e; exact Nat.le_refl _
    · have := sumTo_mono (f := f) (n := n) (m := m) (by omega)
      rw [sumTo]; omega
/-- The products that bound it. -/
def facM : Nat → Nat
  | 0 => 1
  | m + 1 => (m + 1) * facM m
theorem sizedF_le {N : Nat} {st : Nat → Int} : ∀ {m : Nat} {z : Nat → Int}, sizedF N st m z ≤ facM m
  | 0, z => by unfold sizedF facM; split <;> omega
  | m + 1, z => sumTo_le (c := facM m) fun k _ => sizedF_le
theorem facM_le {m : Nat} (h : m ≤ 9) : facM m ≤ 362880 := by
  have : m = 0 ∨ m = 1 ∨ m = 2 ∨ m = 3 ∨ m = 4 ∨ m = 5 ∨ m = 6 ∨ m = 7 ∨ m = 8 ∨ m = 9 := by omega
  rcases this with rfl | rfl | rfl | rfl | rfl | rfl | rfl | rfl | rfl | rfl <;> decide

def Reached (qs : List (Nat × Nat)) (N : Nat) (s q : Nat → Int) : Prop := ∃ d, DistE (Mov qs N) s d q
theorem Reached.pos {qs : List (Nat × Nat)} {N : Nat} {s q : Nat → Int} (hs : Pos N s) (h : Reached qs N s q) : Pos N q := by
  obtain ⟨d, h⟩ := h
  exact h.1.pos hs
theorem Reached.move {qs : List (Nat × Nat)} {N : Nat} {s q q' : Nat → Int} (h : Reached qs N s q) (hm : Mov qs N q q') : Reached qs N s q' := by
  obtain ⟨d, h⟩ := h
  obtain ⟨k, _, hk⟩ := h.next hm
  exact ⟨k, hk⟩

theorem swapAt_lo {z : Nat → Int} {a k j : Nat} (hj : j < a) (hk : a ≤ k) : swapAt z a k j = z j := by
  unfold swapAt
  rw [if_neg (by omega), if_neg (by omega)]
theorem swapAt_at {z : Nat → Int} {a k : Nat} : swapAt z a k a = z k := by
  unfold swapAt
  split
  · rename_i h; rw [h]
  · rw [if_pos rfl]

/-- As many are reached with the hole at one place as at a place beside it. -/
theorem count_beside {qs : List (Nat × Nat)} {N : Nat} {s : Nat → Int} {a b c : Nat} (hs : Pos N s) (ha : a < N) (hb : b < N) (hab : nearB qs a (b : Int) = true) (h : CountOf (fun q => Reached qs N s q ∧ PosZ q N a) c) : CountOf (fun q => Reached qs N s q ∧ PosZ q N b) c := by
  refine CountOf.map (fun q => swapAt q a b) (fun q => swapAt q b a) h (fun q ⟨h1, h2⟩ => ⟨⟨h1.move ⟨h1.pos hs, a, b, h2, hb, hab, rfl⟩, h2.move hb⟩, swapAt_swap q a b⟩) fun q ⟨h1, h2⟩ => ⟨⟨h1.move ⟨h1.pos hs, b, a, h2, ha, by rw [nearB_comm]; exact hab, rfl⟩, h2.move ha⟩, swapAt_swap q b a⟩

theorem count_any {ps : List (Int × Int)} {N : Nat} {s : Nat → Int} {c : Nat} (hs : Pos N s) (hb : IsBoard N ps) (h : CountOf (fun q => Reached (nats ps) N s q ∧ PosZ q N 0) c) {i : Nat} (hi : i < N) : CountOf (fun q => Reached (nats ps) N s q ∧ PosZ q N i) c := by
  have hm := nats_mem hb.1
  have hL := hb.2 i hi (by omega)
  have hf : firstOf (-1) = 0 := rfl
  rw [hf] at hL
  have hlt : ∀ a b, Adj (nats ps) a b → a < N ∧ b < N := by
    rintro a b (h | h)
    · have := hm _ h; simp at this; omega
    · have := hm _ h; simp at this; omega
  clear hi
  induction hL with
  | start => exact h
  | step _ e ih =>
    have h2 := hlt _ _ e.1
    exact count_beside hs h2.1 h2.2 (nearB_adj (fun q hq => (hm q hq).1) e.1) ih

/-- All that are reached are so many times those with the hole at the first place. -/
theorem count_all {ps : List (Int × Int)} {N : Nat} {s : Nat → Int} {c : Nat} (hN : 2 ≤ N ∧ N ≤ 9) (hs : Pos N s) (hb : IsBoard N ps) (h : CountOf (fun q => Reached (nats ps) N s q ∧ PosZ q N 0) c) : CountOf (Reached (nats ps) N s) (N * c) := by
  have := CountOf.sum (f := fun _ => c) (Pk := fun i q => Reached (nats ps) N s q ∧ PosZ q N i) (n := N) (fun i hi => count_any hs hb h hi) (fun q i j _ _ h1 h2 => h1.2.unique h2.2)
  rw [sumTo_const (c := c) fun _ _ => rfl] at this
  refine this.congr fun q => ⟨fun ⟨i, _, h1, _⟩ => h1, fun h1 => ?_⟩
  obtain ⟨i, hi⟩ := (h1.pos hs).ex_hole (by omega) (by omega)
  exact ⟨i, hi.lt, h1, hi⟩

/-- The first position: 0, 1, 2, .. -/
def idF (N : Nat) : Nat → Int := fun i => if i < N then (i : Int) else 0
theorem idF_pos (N : Nat) : Pos N (idF N) := by
  refine ⟨fun i hi => ?_, fun i => ?_, fun i hi => ?_, fun i j hi hj e => ?_⟩
  · unfold idF; rw [if_neg (by omega)]
  · unfold idF; split <;> omega
  · unfold idF; rw [if_pos hi]; omega
  · unfold idF at e; rw [if_pos hi, if_pos hj] at e; omega
end Go.Eng
