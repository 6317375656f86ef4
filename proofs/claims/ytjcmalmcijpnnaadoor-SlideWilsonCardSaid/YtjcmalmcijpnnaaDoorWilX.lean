/-
  Turns of three places, and where all of them can be made.
  Conditions: none.
-/
import Derived.Test.YtjcmalmcijpnnaaDoorBckX
import Derived.Test.YtjcmalmcijpnnaaDoorBrdB

namespace Go.Eng

theorem swapAt_trn (z : Nat → Int) (a b i : Nat) : swapAt z a b i = z (trn a b i) := by
  unfold swapAt trn
  by_cases h1 : i = b
  · rw [if_pos h1, if_pos h1]
  · by_cases h2 : i = a
    · rw [if_neg h1, if_pos h2, if_neg h1, if_pos h2]
    · rw [if_neg h1, if_neg h2, if_neg h1, if_neg h2]
theorem trn_comm (a b i : Nat) : trn a b i = trn b a i := by
  unfold trn
  by_cases h1 : i = b
  · subst h1
    by_cases h2 : i = a
    · subst h2; simp
    · simp [h2]
  · by_cases h2 : i = a
    · subst h2; simp [h1]
    · simp [h1, h2]
theorem trn_trn (a b i : Nat) : trn a b (trn a b i) = i := by
  unfold trn
  by_cases h1 : i = b
  · subst h1; simp
  · by_cases h2 : i = a
    · subst h2; simp [h1]
    · simp [h1, h2]
theorem trn_inj {a b i j : Nat} (h : trn a b i = trn a b j) : i = j := by
  have := congrArg (trn a b) h
  rwa [trn_trn, trn_trn] at this

/-- Three places turned round. -/
def cyc (a b c : Nat) : Nat → Nat := fun i => if i = a then b else if i = b then c else if i = c then a else i
def rot (z : Nat → Int) (a b c : Nat) : Nat → Int := fun i => z (cyc a b c i)
theorem rot_swaps {z : Nat → Int} {a b c : Nat} (hab : a ≠ b) (hbc : b ≠ c) (hac : a ≠ c) : rot z a b c = swapAt (swapAt z a b) b c := by
  funext i
  unfold rot cyc swapAt
  by_cases h1 : i = a
  · subst h1; simp [hac, hab]
  · by_cases h2 : i = b
    · subst h2; simp [h1, hbc, Ne.symm hbc, Ne.symm hac, hac]
    · by_cases h3 : i = c
      · subst h3; simp [h1, h2]
      · simp [h1, h2, h3]
theorem rot_turn (z : Nat → Int) {a b c : Nat} (hab : a ≠ b) (hbc : b ≠ c) (hac : a ≠ c) : rot z b c a = rot z a b c := by
  funext i
  unfold rot cyc
  by_cases h1 : i = a
  · subst h1; simp [hac, hab]
  · by_cases h2 : i = b
    · subst h2; simp [h1]
    · by_cases h3 : i = c
      · subst h3; simp [h1, h2]
      · simp [h1, h2, h3]

section
variable {qs : List (Nat × Nat)} {N : Nat}
theorem rot_pos {z : Nat → Int} {a b c : Nat} (hz : Pos N z) (ha : a < N) (hb : b < N) (hc : c < N) (hab : a ≠ b) (hbc : b ≠ c) (hac : a ≠ c) : Pos N (rot z a b c) := by
  rw [rot_swaps hab hbc hac]
  exact (hz.swap ha hb).swap hb hc
theorem posZ_of {z : Nat → Int} {h : Nat} (hN : N ≤ 100) (hz : Pos N z) (hh : h < N) (h0 : z h = 0) : PosZ z N h := by
  refine ⟨hh, h0, fun i hi hne e => hne (hz.inj i h hi hh (e.trans h0.symm)), fun i => ⟨hz.lo i, ?_⟩⟩
  by_cases hi : i < N
  · have := hz.hi i hi; omega
  · rw [hz.out i (by omega)]; decide
/-- With the hole at h the contents of three places can be turned round. -/
def Tri (qs : List (Nat × Nat)) (N h a b c : Nat) : Prop := ∀ z, Pos N z → z h = 0 → Reached qs N z (rot z a b c)
/-- All of a set's threes can be turned round. -/
structure AltOn (qs : List (Nat × Nat)) (N h : Nat) (A : Nat → Prop) : Prop where
  sub : ∀ x, A x → x < N ∧ x ≠ h
  tri : ∀ a b c, A a → A b → A c → a ≠ b → b ≠ c → a ≠ c → Tri qs N h a b c
theorem AltOn.mono {h : Nat} {A B : Nat → Prop} (k : AltOn qs N h A) (hs : ∀ x, B x → A x) : AltOn qs N h B := ⟨fun x hx => k.sub x (hs x hx), fun a b c ha hb hc => k.tri a b c (hs _ ha) (hs _ hb) (hs _ hc)⟩
theorem rot_hole {z : Nat → Int} {h a b c : Nat} (ha : a ≠ h) (hb : b ≠ h) (hc : c ≠ h) : rot z a b c h = z h := by
  unfold rot cyc
  simp [Ne.symm ha, Ne.symm hb, Ne.symm hc]
/-- The hole goes one step. -/
theorem AltOn.move {h t : Nat} {A : Nat → Prop} (hN : N ≤ 100) (hq : ∀ q ∈ qs, q.1 < q.2 ∧ q.2 < N) (k : AltOn qs N h A) (e : Adj qs h t) : AltOn qs N t (fun x => A (trn h t x)) := by
  have hn := nearB_adj (fun q hm => (hq q hm).1) e
  have hht : h < N ∧ t < N ∧ h ≠ t := by
    rcases e with e | e
    · have := hq _ e; simp at this; omega
    · have := hq _ e; simp at this; omega
  refine ⟨fun x hx => ?_, fun a b c ha hb hc hab hbc hac z hz h0 => ?_⟩
  · have := k.sub _ hx
    unfold trn at this
    by_cases h1 : x = t
    · subst h1; simp at this
    · by_cases h2 : x = h
      · subst h2; exact ⟨hht.1, hht.2.2⟩
      · simp [h1, h2] at this; omega
  · have na : trn h t a ≠ trn h t b := fun q => hab (trn_inj q)
    have nb : trn h t b ≠ trn h t c := fun q => hbc (trn_inj q)
    have nc : trn h t a ≠ trn h t c := fun q => hac (trn_inj q)
    have sa := k.sub _ ha
    have sb := k.sub _ hb
    have sc := k.sub _ hc
    have m1 : Mov qs N z (swapAt z t h) := ⟨hz, t, h, posZ_of hN hz hht.2.1 h0, hht.1, by rw [nearB_comm]; exact hn, rfl⟩
    have z1h : swapAt z t h h = 0 := by unfold swapAt; rw [if_pos rfl]; exact h0
    have r2 := k.tri _ _ _ ha hb hc na nb nc _ m1.pos z1h
    have p2 := rot_pos m1.pos sa.1 sb.1 sc.1 na nb nc
    have h2 : rot (swapAt z t h) (trn h t a) (trn h t b) (trn h t c) h = 0 := by rw [rot_hole sa.2 sb.2 sc.2]; exact z1h
    have m3 : Mov qs N (rot (swapAt z t h) (trn h t a) (trn h t b) (trn h t c)) (swapAt (rot (swapAt z t h) (trn h t a) (trn h t b) (trn h t c)) h t) := ⟨p2, h, t, posZ_of hN p2 hht.1 h2, hht.2.1, hn, rfl⟩
    have e3 : swapAt (rot (swapAt z t h) (trn h t a) (trn h t b) (trn h t c)) h t = rot z a b c := by
      funext i
      have e4 : cyc (trn h t a) (trn h t b) (trn h t c) (trn h t i) = trn h t (cyc a b c i) := by
        unfold cyc
        by_cases g1 : i = a
        · subst g1; simp
        · have k1 : trn h t i ≠ trn h t a := fun q => g1 (trn_inj q)
          by_cases g2 : i = b
          · subst g2; simp [g1, k1]
          · have k2 : trn h t i ≠ trn h t b := fun q => g2 (trn_inj q)
            by_cases g3 : i = c
            · subst g3; simp [g1, g2, k1, k2]
            · have k3 : trn h t i ≠ trn h t c := fun q => g3 (trn_inj q)
              simp [g1, g2, g3, k1, k2, k3]
      rw [swapAt_trn]
      show swapAt z t h (cyc (trn h t a) (trn h t b) (trn h t c) (trn h t i)) = z (cyc a b c i)
      rw [e4, swapAt_trn, trn_comm t h, trn_trn]
    rw [← e3]
    exact (Reached.wlk (.step .zero m1)).trans (r2.trans (.wlk (.step .zero m3)))

theorem Tri.turn {h a b c : Nat} (k : Tri qs N h a b c) (hab : a ≠ b) (hbc : b ≠ c) (hac : a ≠ c) : Tri qs N h b c a := fun z hz h0 => by
  rw [rot_turn z hab hbc hac]; exact k z hz h0
/-- One turn after another one. -/
theorem Tri.after {h a b c d e f x y w : Nat} (k : Tri qs N h a b c) (k' : Tri qs N h d e f) (hp : ∀ z, Pos N z → Pos N (rot z a b c)) (hh : a ≠ h ∧ b ≠ h ∧ c ≠ h) (e0 : ∀ i, cyc a b c (cyc d e f i) = cyc x y w i) : Tri qs N h x y w := fun z hz h0 => by
  have r1 := k z hz h0
  have r2 := k' _ (hp z hz) (by rw [rot_hole hh.1 hh.2.1 hh.2.2]; exact h0)
  have e1 : rot (rot z a b c) d e f = rot z x y w := by
    funext i
    show z (cyc a b c (cyc d e f i)) = z (cyc x y w i)
    rw [e0]
  rw [e1] at r2
  exact r1.trans r2
theorem cyc_three {x y i j : Nat} (h1 : x ≠ y) (h2 : x ≠ i) (h3 : x ≠ j) (h4 : y ≠ i) (h5 : y ≠ j) (h6 : i ≠ j) (k : Nat) : cyc x y j (cyc y x i k) = cyc x i j k := by
  unfold cyc
  by_cases a1 : k = x
  · subst a1; simp [h1, Ne.symm h1, h2, h3, Ne.symm h2, Ne.symm h4, h4, h6, Ne.symm h6]
  · by_cases a2 : k = y
    · subst a2; simp [h1, Ne.symm h1, h2, h4, h5, a1]
    · by_cases a3 : k = i
      · subst a3; simp [a1, a2, h1, Ne.symm h1, h6]
      · by_cases a4 : k = j
        · subst a4; simp [a1, a2, a3]
        · simp [a1, a2, a3, a4]
theorem cyc_back {x y i : Nat} (h1 : x ≠ y) (h2 : x ≠ i) (h4 : y ≠ i) (k : Nat) : cyc x y i (cyc x y i k) = cyc y x i k := by
  unfold cyc
  by_cases a1 : k = x
  · subst a1; simp [h1, Ne.symm h1, h2, h4]
  · by_cases a2 : k = y
    · subst a2; simp [a1, Ne.symm h2, Ne.symm h4]
    · by_cases a3 : k = i
      · subst a3; simp [a1, a2, h1]
      · simp [a1, a2, a3]

/-- The turns with two places fixed make all turns. -/
theorem AltOn.of_two {h x y : Nat} {C : Nat → Prop} (hs : ∀ i, C i → i < N ∧ i ≠ h) (hx : C x) (hy : C y) (hxy : x ≠ y) (k : ∀ i, C i → i ≠ x → i ≠ y → Tri qs N h x y i) : AltOn qs N h C := by
  have hp : ∀ {a b c}, C a → C b → C c → a ≠ b → b ≠ c → a ≠ c → ∀ z, Pos N z → Pos N (rot z a b c) := fun ha hb hc n1 n2 n3 z hz => rot_pos hz (hs _ ha).1 (hs _ hb).1 (hs _ hc).1 n1 n2 n3
  have hh : ∀ {a b c}, C a → C b → C c → a ≠ h ∧ b ≠ h ∧ c ≠ h := fun ha hb hc => ⟨(hs _ ha).2, (hs _ hb).2, (hs _ hc).2⟩
  have k1 : ∀ i, C i → i ≠ x → i ≠ y → Tri qs N h y x i := fun i hi n1 n2 =>
    (k i hi n1 n2).after (k i hi n1 n2) (hp hx hy hi hxy (Ne.symm n2) (Ne.symm n1)) (hh hx hy hi) (cyc_back hxy (Ne.symm n1) (Ne.symm n2))
  have gen : ∀ {u v}, C u → C v → u ≠ v → (∀ i, C i → i ≠ u → i ≠ v → Tri qs N h u v i) → (∀ i, C i → i ≠ u → i ≠ v → Tri qs N h v u i) → ∀ i j, C i → C j → i ≠ u → i ≠ v → j ≠ u → j ≠ v → i ≠ j → Tri qs N h u i j :=
    fun {u v} hu hv huv g1 g2 i j hi hj n1 n2 n3 n4 n5 =>
      (g1 j hj n3 n4).after (g2 i hi n1 n2) (hp hu hv hj huv (Ne.symm n4) (Ne.symm n3)) (hh hu hv hj) (cyc_three huv (Ne.symm n1) (Ne.symm n3) (Ne.symm n2) (Ne.symm n4) n5)
  have k2 := gen hx hy hxy k k1
  have k2' := gen hy hx (Ne.symm hxy) (fun i hi n1 n2 => k1 i hi n2 n1) (fun i hi n1 n2 => k i hi n2 n1)
  have k3 : ∀ a b c, C a → C b → C c → a ≠ x → a ≠ y → b ≠ x → b ≠ y → c ≠ x → c ≠ y → a ≠ b → b ≠ c → a ≠ c → Tri qs N h a b c := fun a b c ha hb hc a1 a2 b1 b2 c1 c2 n1 n2 n3 => by
    have t1 : Tri qs N h a x c := ((k2 c a hc ha c1 c2 a1 a2 (Ne.symm n3)).turn (Ne.symm c1) (Ne.symm n3) (Ne.symm a1)).turn (Ne.symm n3) a1 c1
    have t2 : Tri qs N h x a b := k2 a b ha hb a1 a2 b1 b2 n1
    exact t1.after t2 (hp ha hx hc a1 (Ne.symm c1) n3) (hh ha hx hc) (cyc_three a1 n1 n3 (Ne.symm b1) (Ne.symm c1) n2)
  refine ⟨hs, fun a b c ha hb hc n1 n2 n3 => ?_⟩
  by_cases a1 : a = x
  · subst a1
    by_cases b2 : b = y
    · subst b2; exact k c hc (Ne.symm n3) (Ne.symm n2)
    · by_cases c2 : c = y
      · subst c2
        exact (k1 b hb (Ne.symm n1) b2).turn n3.symm n1 (Ne.symm n2)
      · exact k2 b c hb hc (Ne.symm n1) b2 (Ne.symm n3) c2 n2
  · by_cases a2 : a = y
    · subst a2
      by_cases b1 : b = x
      · subst b1; exact k1 c hc (Ne.symm n2) (Ne.symm n3)
      · by_cases c1 : c = x
        · subst c1
          exact (k b hb b1 (Ne.symm n1)).turn n3.symm n1 (Ne.symm n2)
        · exact k2' b c hb hc (Ne.symm n1) b1 (Ne.symm n3) c1 n2
    · by_cases b1 : b = x
      · subst b1
        by_cases c2 : c = y
        · subst c2
          exact ((k a ha a1 a2).turn n2 (Ne.symm a2) (Ne.symm a1)).turn (Ne.symm a2) a1 (Ne.symm n2)
        · exact ((k2 c a hc ha (Ne.symm n2) c2 a1 a2 (Ne.symm n3)).turn n2 (Ne.symm n3) (Ne.symm n1)).turn (Ne.symm n3) n1 (Ne.symm n2)
      · by_cases b2 : b = y
        · subst b2
          by_cases c1 : c = x
          · subst c1
            exact ((k1 a ha a1 a2).turn n2 (Ne.symm a1) (Ne.symm a2)).turn (Ne.symm a1) a2 (Ne.symm n2)
          · exact ((k2' c a hc ha (Ne.symm n2) c1 a2 a1 (Ne.symm n3)).turn n2 (Ne.symm n3) (Ne.symm n1)).turn (Ne.symm n3) n1 (Ne.symm n2)
        · by_cases c1 : c = x
          · subst c1
            exact (k2 a b ha hb a1 a2 b1 b2 n1).turn (Ne.symm n3) n1 (Ne.symm n2)
          · by_cases c2 : c = y
            · subst c2
              exact (k2' a b ha hb a2 a1 b2 b1 n1).turn (Ne.symm n3) n1 (Ne.symm n2)
            · exact k3 a b c ha hb hc a1 a2 b1 b2 c1 c2 n1 n2 n3

/-- Two sets with two places in common are one. -/
theorem AltOn.union {h x y : Nat} {A B : Nat → Prop} (k : AltOn qs N h A) (k' : AltOn qs N h B) (hxa : A x) (hxb : B x) (hya : A y) (hyb : B y) (hxy : x ≠ y) : AltOn qs N h (fun i => A i ∨ B i) :=
  .of_two (fun i hi => hi.elim (k.sub i) (k'.sub i)) (.inl hxa) (.inl hya) hxy fun i hi n1 n2 => by
    rcases hi with hi | hi
    · exact k.tri x y i hxa hya hi hxy (Ne.symm n2) (Ne.symm n1)
    · exact k'.tri x y i hxb hyb hi hxy (Ne.symm n2) (Ne.symm n1)

theorem inv_rot {z : Nat → Int} {a b c : Nat} (hN : N ≤ 9) (hz : Pos N z) (ha : a < N) (hb : b < N) (hc : c < N) (hab : a ≠ b) (hbc : b ≠ c) (hac : a ≠ c) : inv (natF (rot z a b c)) N % 2 = inv (natF z) N % 2 := by
  rw [rot_swaps hab hbc hac]
  have h1 := inv_swap hN hz ha hb hab
  have h2 := inv_swap hN (hz.swap ha hb) hb hc hbc
  omega
/-- Where two positions differ. -/
def diff (p q : Nat → Int) (N : Nat) : Nat := (List.range N).countP fun i => decide (p i ≠ q i)
theorem diff_lt {p p' q : Nat → Int} {a : Nat} (ha : a < N) (h1 : p a ≠ q a) (h2 : p' a = q a) (h3 : ∀ i, i < N → p i = q i → p' i = q i) : diff p' q N < diff p q N := by
  unfold diff
  have e1 := cnt_lt (S := fun i => decide (p' i ≠ q i)) (T := fun i => decide (p i ≠ q i) || decide (N ≤ i)) (n := N)
  have : ∀ n, n ≤ N → a < n → (List.range n).countP (fun i => decide (p' i ≠ q i)) < (List.range n).countP (fun i => decide (p i ≠ q i)) := by
    intro n
    induction n with
    | zero => intro _ h; omega
    | succ n ih =>
      intro hn han
      rw [List.range_succ, List.countP_append, List.countP_append]
      have hs : ∀ m, m ≤ N → (List.range m).countP (fun i => decide (p' i ≠ q i)) ≤ (List.range m).countP (fun i => decide (p i ≠ q i)) := by
        intro m hm
        refine List.countP_mono_left fun i hi hd => ?_
        have hi := List.mem_range.1 hi
        rw [decide_eq_true_eq] at hd ⊢
        exact fun e => hd (h3 i (by omega) e)
      by_cases e : a = n
      · subst e
        have k1 := hs a (by omega)
        have k2 : ([a] : List Nat).countP (fun i => decide (p' i ≠ q i)) = 0 := by simp [h2]
        have k3 : ([a] : List Nat).countP (fun i => decide (p i ≠ q i)) = 1 := by simp [h1]
        omega
      · have k1 := ih (by omega) (by omega)
        have k2 : ([n] : List Nat).countP (fun i => decide (p' i ≠ q i)) ≤ ([n] : List Nat).countP (fun i => decide (p i ≠ q i)) := by
          refine List.countP_mono_left fun i hi hd => ?_
          rw [List.mem_singleton] at hi
          subst hi
          rw [decide_eq_true_eq] at hd ⊢
          exact fun e => hd (h3 _ (by omega) e)
        omega
  exact this N (Nat.le_refl _) ha

/-- **All turns make all even changes.** -/
theorem AltOn.even {h : Nat} (hN : N ≤ 9) (k : AltOn qs N h (fun x => x < N ∧ x ≠ h)) (hh : h < N) : ∀ (n : Nat) {p q : Nat → Int}, diff p q N = n → Pos N p → Pos N q → p h = 0 → q h = 0 → inv (natF p) N % 2 = inv (natF q) N % 2 → Reached qs N p q := by
  intro n
  induction n using Nat.strongRecOn with
  | ind n ih =>
    intro p q hd hp hq p0 q0 hi
    by_cases hex : ∃ a, a < N ∧ p a ≠ q a
    · obtain ⟨a, ha, hne⟩ := hex
      have hah : a ≠ h := fun e => hne (by rw [e, p0, q0])
      obtain ⟨b, hb, hpb⟩ := hp.mem.2 (q a) (hq.lo a) (hq.hi a ha)
      have hab : a ≠ b := fun e => hne (by rw [← hpb, ← e])
      have hbh : b ≠ h := fun e => hah (hq.inj a h ha hh (by rw [← hpb, e, p0, q0]))
      have hbd : p b ≠ q b := fun e => hab (hq.inj a b ha hb (by rw [← hpb, e]))
      by_cases hc : ∃ c, c < N ∧ c ≠ a ∧ c ≠ b ∧ p c ≠ q c
      · obtain ⟨c, hcN, hca, hcb, hcd⟩ := hc
        have hch : c ≠ h := fun e => hcd (by rw [e, p0, q0])
        have hr := k.tri a b c ⟨ha, hah⟩ ⟨hb, hbh⟩ ⟨hcN, hch⟩ hab (Ne.symm hcb) (Ne.symm hca) p hp p0
        have hp' := rot_pos hp ha hb hcN hab (Ne.symm hcb) (Ne.symm hca)
        have ra : rot p a b c a = q a := by unfold rot cyc; rw [if_pos rfl]; exact hpb
        have hlt : diff (rot p a b c) q N < diff p q N := diff_lt ha hne ra fun i hiN e => by
          have n1 : i ≠ a := fun x => hne (by rw [← x]; exact e)
          have n2 : i ≠ b := fun x => hbd (by rw [← x]; exact e)
          have n3 : i ≠ c := fun x => hcd (by rw [← x]; exact e)
          unfold rot cyc
          rw [if_neg n1, if_neg n2, if_neg n3]
          exact e
        refine hr.trans (ih _ (by omega) rfl hp' hq ?_ q0 ?_)
        · rw [rot_hole hah hbh hch]; exact p0
        · rw [inv_rot hN hp ha hb hcN hab (Ne.symm hcb) (Ne.symm hca)]; exact hi
      · exfalso
        have hno : ∀ c, c < N → c ≠ a → c ≠ b → p c = q c := fun c h1 h2 h3 => Classical.byContradiction fun e => hc ⟨c, h1, h2, h3, e⟩
        have e : q = swapAt p a b := by
          refine hq.ext (hp.swap ha hb) fun i hi => ?_
          unfold swapAt
          by_cases h1 : i = b
          · subst h1
            rw [if_pos rfl]
            obtain ⟨j, hj, hpj⟩ := hp.mem.2 (q i) (hq.lo i) (hq.hi i hb)
            have hjb : j ≠ i := fun e => hbd (by rw [e] at hpj; exact hpj)
            by_cases hja : j = a
            · rw [← hja]; exact hpj.symm
            · have := hno j hj hja hjb
              exact absurd (hq.inj j i hj hb (by rw [← this, hpj])) hjb
          · rw [if_neg h1]
            by_cases h2 : i = a
            · subst h2; rw [if_pos rfl]; exact hpb.symm
            · rw [if_neg h2]; exact (hno i hi h2 h1).symm
        have := inv_swap hN hp ha hb hab
        rw [← e] at this
        omega
    · have e : p = q := hp.ext hq fun i hi => Classical.byContradiction fun e => hex ⟨i, hi, e⟩
      rw [e]
      exact .refl
end
end Go.Eng

namespace Go.Eng
def thetaTab : List (Nat × List Nat) :=
  [(9, [0x1650]),
   (10, [0x1283842318, 0x1463050708]),
   (11, [0x4a0e5211b18, 0x51b1836308d8c1b18, 0x51b18283948]),
   (12, [0x128397108eb18, 0x12839710e5c423ac60eb18, 0x14758c1d6305072e21cb88, 0x14758c141cb88]),
   (13, [0x4a0e5dc847eb18, 0x128397721cbb908fd6307eb18, 0x147eb183f58c1fac611fac60fd6307eb18, 0x147eb183f58c141cbb90e5dc8, 0x51fac60a0e5dc8]),
   (17, [0x14c8, 0x14c885a060]),
   (18, [0x14c8, 0x532252d0360, 0x533602d0948]),
   (19, [0x14c8, 0x14c8971681d60, 0x53225c44b8b40eb01d60, 0x14ceb01684b88]),
   (20, [0x14c8, 0x53225dcb40fd60, 0x53225dc89772d03f580fd60, 0x533f580fd602d0977225dc8, 0x533f580b425dc8]),
   (25, [0x1a6340d09c342708, 0x698d0a6340c68531a068, 0x5384531a068]),
   (26, [0x1b884e109c3a831a1718d03a8, 0x1b8c681d418d031a1718d03a8, 0x14e11718d03a8, 0x14e1d418d0b88]),
   (27, [0x1bb909c21387ea0c685dcc681fa8, 0x1bb98d03f506340c685dcc681fa8, 0x53845dcc681fa8, 0x14e117722ee6340fd41fa8, 0x5387ea0c685dc8]),
   (33, [0x138272909ca46363431b1a070, 0x1c6c681b1a18d8d0363431b1a070, 0x1c6c681c139484e5231b1a070, 0x14e5231b1a070]),
   (34, [0x1dc84e521394fc0d8d0dcd8d03f0, 0x7736340d8d03f036340d8d0dcd8d03f0, 0x1dcd8d03f04e5213948dcd8d03f0, 0x53948dcd8d03f0, 0x5394fc0d8d0dc8]),
   (41, [0x13c272e2139711ceb1a1ceb1a078, 0x1e758d03ac681d63439d6340eb1a1ceb1a078, 0x1e758d03ac6873ac681d6340eb1a1ceb1a078, 0x1e758d03c272e2139711ceb1a078, 0x539711ceb1a078]),
   (65, [0x1650]),
   (66, [0x1443850318, 0x1463088708]),
   (67, [0x510e5281b18, 0x51b1836308d8c1b18, 0x51b18443948]),
   (68, [0x144397140eb18, 0x14439710e5c503ac60eb18, 0x14758c1d6308872e21cb88, 0x14758c221cb88]),
   (69, [0x510e5dca07eb18, 0x144397721cbb940fd6307eb18, 0x147eb183f58c1fac611fac60fd6307eb18, 0x147eb183f58c221cbb90e5dc8, 0x51fac6110e5dc8]),
   (72, [0x1650]),
   (73, [0x1650, 0x1850]),
   (74, [0x1650, 0x59425283360, 0x59b022c4a58]),
   (75, [0x1650, 0x1650971419d60, 0x1650971425c50675819d60, 0x1675811625c58]),
   (76, [0x1650, 0x59425dca0cfd60, 0x1650977284bb9419fac0cfd60, 0x167eb023f5811625dcb12ee58, 0x59fac08b12ee58]),
   (80, [0x1443850318, 0x1463088708]),
   (81, [0x6941c285318, 0x698c2343868, 0x1a50]),
   (83, [0x1bb98c2318bb98c5dcc6118c5dcc62ee50, 0x1bb98c5dcc6118c5dcc62ee6308c62ee50, 0x5c3f508c611fa846308fd4387ea118c2318, 0x170fd423f50e1fa847ea1c3f508fd43850, 0x170fd423f50e141c3f50e1fa870a0e1fa8]),
   (88, [0x510e5281b18, 0x51b1836308d8c1b18, 0x51b18443948]),
   (89, [0x1c50729431b18, 0x1c5072941ca50c6c631b18, 0x1c6c611c1ca70, 0x1c50]),
   (90, [0x7736308fc11b1847e08d8c6e6c611f823f0, 0x1dcd8c23631b9b1846c63736308d8c6e50, 0x1dcd8c23631b94373631b9b18dca1b9b18, 0x1729f823f0729f8394fc11f8394fc1ca50, 0x1729f8394fc11f8394fc1ca7e08fc1ca50]),
   (96, [0x144397140eb18, 0x14439710e5c503ac60eb18, 0x14758c1d6308872e21cb88, 0x14758c221cb88]),
   (97, [0x7941cb8a1ceb18, 0x1e5072e283971439d631ceb18, 0x1e758c23ac611e1cb8f0e5c78, 0x79d6308f0e5c78, 0x1e50]),
   (104, [0x510e5dca07eb18, 0x144397721cbb940fd6307eb18, 0x147eb183f58c1fac611fac60fd6307eb18, 0x147eb183f58c221cbb90e5dc8, 0x51fac6110e5dc8]),
   (129, [0x14c8, 0x14c885a060]),
   (130, [0x14c8, 0x532252d0360, 0x533602d0948]),
   (131, [0x14c8, 0x14c8971681d60, 0x53225c44b8b40eb01d60, 0x14ceb01684b88]),
   (132, [0x14c8, 0x53225dcb40fd60, 0x53225dc89772d03f580fd60, 0x533f580fd602d0977225dc8, 0x533f580b425dc8]),
   (136, [0x14c8, 0x14cc05a108]),
   (137, [0x61a216843442d0, 0x533442d0868, 0x533052d0a60]),
   (139, [0x14cfd442d087ea216843f510b421fa8, 0x187ea133f50998133f5099fa84cc099fa8, 0x14cfd4267ea1330267ea133f510fd42660, 0x187ea216843f5099fa885a10fd442d0, 0x14cc099fa887ea133f50998133f5099fa8]),
   (144, [0x14c8, 0x532252d0360, 0x533602d0948]),
   (146, [0x194fc253f094b4253f094fc252d0, 0x533604cfc13360dcb437360dcb4253f0, 0x533f094b437360dcb4373604cfc13360, 0x533f04cd8133f094b4253f094b437360, 0x53360dcb4253f094b4253f04cd8133f0]),
   (152, [0x14c8, 0x14c8971681d60, 0x533ac07580b425c44b88, 0x14ceb01684b88]),
   (153, [0x14ceb072d0e758396873ac1cb439d60, 0x14ceb026758133c26758133ac1ceb02678, 0x1e758396873ac099d60e5a1ceb072d0, 0x14cf099d60e758133ac099e133ac099d60, 0x1e758133ac099e133ac099d604cf099d60]),
   (160, [0x14c8, 0x53225dcb40fd60, 0x53225dc89772d03f580fd60, 0x533f580fd602d0977225dc8, 0x533f580b425dc8]),
   (193, [0x1a6340d09c342708, 0x698d0a6340c68531a068, 0x5384531a068]),
   (194, [0x1b8c6818d03a831a1718d03a8, 0x1b8c681d427084e11718d03a8, 0x14e11718d03a8, 0x14e1d418d0b88]),
   (195, [0x1bb98d031a07ea0c685dcc681fa8, 0x1bb98d03f509c213845dcc681fa8, 0x53845dcc681fa8, 0x14e117722ee6340fd41fa8, 0x5387ea0c685dc8]),
   (200, [0x1a6342909c342708, 0x698d0a6340c68531a148, 0x5386831a148]),
   (201, [0x698d0c684e1c13868c68, 0x1a634298d0a70a634318d0a70, 0x14e1c298d0a70, 0x14e1a318d0c68]),
   (202, [0x1dcc686e63437346e634298d0dcc686e68, 0x1dcd09c34270fc298d0a6343731a14fc298d0, 0x69f853f04e1f8270d1b9a13868dcd09c3f0, 0x14e1f8270d09c3f04e1a1387e14fc13868, 0x1a63429f8531a14fc298d0dcc6853f0]),
   (208, [0x1b8c6818d03a831a1718d03a8, 0x1b8c681d427084e11718d03a8, 0x14e11718d03a8, 0x14e1d418d0b88]),
   (209, [0x1b8c685c6342e3c5c634398d0b8c685c78, 0x1b8f09c3c270ea398d0e6342e31a1cea398d0, 0x14e1d4270f09c3a84e1e138751cea13878, 0x1e63439d4731a1cea398d0b8c6873a8, 0x6e3c5c784e1d4270f171e13878b8f09c3a8]),
   (216, [0x1bb98d031a07ea0c685dcc681fa8, 0x1bb98d03f509c213845dcc681fa8, 0x53845dcc681fa8, 0x14e1fa83f506342ee45dc8, 0x5387ea0c685dc8]),
   (257, [0x138272909ca46363431b1a070, 0x1c6c681b1a18d8d0363431b1a070, 0x1c6c681c139484e5231b1a070, 0x14e5231b1a070]),
   (258, [0x1dc84e521394fc0d8d0dcd8d03f0, 0x7736340d8d03f036340d8d0dcd8d03f0, 0x1dcd8d03f04e5213948dcd8d03f0, 0x53948dcd8d03f0, 0x5394fc0d8d0dc8]),
   (264, [0x1c4272909ca70363431b1a188, 0x1c6c681b1a18d8d0363431b1a188, 0x1c6c6862139484e5381b1a188, 0x14e5381b1a188]),
   (265, [0x1c784e53c2729e31b1a1cd8d0e70, 0x71b1a1cd8d0e6c686363431b1a1cd8d0e70, 0x1c6c687382729c1394e1cd8d0e70, 0x5394f18d8d0c78, 0x5394e1cd8d0e70]),
   (272, [0x1dc84e521394fc0d8d0dcd8d03f0, 0x7736340d8d03f036340d8d0dcd8d03f0, 0x1dcd8d03f04e5213948dcd8d03f0, 0x53948dcd8d03f0, 0x5394fc0d8d0dc8]),
   (321, [0x13c272e2139711ceb1a1ceb1a078, 0x1e758d03ac681d63439d6340eb1a1ceb1a078, 0x1e758d03ac6873ac681d6340eb1a1ceb1a078, 0x1e758d03c272e2139711ceb1a078, 0x539711ceb1a078]),
   (328, [0x1e4272e213971e0eb1a1ceb1a1c8, 0x1e758d03ac681d63439d6340eb1a1ceb1a1c8, 0x1e758d03ac6873ac681d6340eb1a1ceb1a1c8, 0x1e758d0e4272e213971e0eb1a1c8, 0x53971e0eb1a1c8])]
def chordTab : List (Nat × List Nat) :=
  [(5249, [0x1443850318, 0x1463088708, 0x1445c503a8, 0x1475088b88]),
   (5252, [0x170a0e0, 0x1850, 0x6142e2843a8, 0x61d42305c60]),
   (5254, [0x7141c286318, 0x718c2383870, 0x1b8a170, 0x1c50]),
   (5259, [0x1650, 0x1463283850, 0x5942e2833a8, 0x59d422c5c58]),
   (5261, [0x6941c285318, 0x698c2343868, 0x1a50, 0x1475285c50]),
   (5267, [0x146309c298, 0x5c298, 0x170a1714e141c3a8, 0x5c3a846342e298]),
   (5268, [0x51883850, 0x14620e1518, 0x170a0e217141c3a8, 0x5c3a8462171518]),
   (5269, [0x1b8a0e157142e318, 0x5c2838750ae318, 0x14750ae2a8, 0x6e2a8]),
   (5270, [0x1b8a1720e142e318, 0x5c2b50e142e318, 0x51c85c50, 0x14721715a8]),
   (5277, [0x5c2838750ee318, 0x170ea1dc50, 0x6e285c6315c3a8, 0x1b8c62b850]),
   (5278, [0x518c5c63d42318, 0x178a0f18c2398, 0x518f50e1d423a8, 0x170a0e1cc2318]),
   (5285, [0x51d631718c2318, 0x1b8a1719423a8, 0x5197194232e328, 0x170a161d42318]),
   (5286, [0x1b8cd43850, 0x170ea1c285d18, 0x170e8c5c50, 0x1b8c62e2839a8]),
   (8833, [0x14c8, 0x14cc05a108, 0x5322e2d03a8, 0x533a82d0b88]),
   (8835, [0x16604c42d0, 0x14c42d0, 0x5310b1716843a8, 0x61d426604c5c60]),
   (8838, [0x533a8c60b843a8, 0x533842d0870, 0x53305c5a18c170, 0x533062d0c60]),
   (8842, [0x185a302650, 0x1850, 0x6142e2843a8, 0x61d42305c60]),
   (8845, [0x533a8875305c68, 0x533442d0868, 0x533052d0a60, 0x533a9829685c60]),
   (8852, [0x62660, 0x150b422660, 0x533026621716843a8, 0x6267510b505c60]),
   (8853, [0x18750ae302660, 0x533a85716842d0, 0x185ab8b421d42660, 0x14cea15c5a1716a8]),
   (8854, [0x1b933a8, 0x53305c99d42660, 0x562d0b93390, 0x562d0b933a8]),
   (8860, [0x14cc0998d0, 0x616842e0, 0x18d085a1716843a8, 0x14e0b8c1716843a8]),
   (8861, [0x533a84ee2d0, 0x5330267509dc60, 0x6b3056842d0, 0x6e3056842e8]),
   (8862, [0x187509982e660, 0x185a1717a8, 0x14ce685c5a1717a8, 0x185ea13305c60]),
   (8869, [0x14cea25c60, 0x14cea21d616843a8, 0x53305c5a12e305c60, 0x14ccb8c171685c60]),
   (8870, [0x14cc1719a8, 0x14cea21684d443a8, 0x14cc171685c60ba0, 0x1ba04cc171685c60]),
   (9281, [0x14c8, 0x532252d0360, 0x533602d0948, 0x14ce05a188]),
   (9283, [0x16704c62d0, 0x5318b129686360, 0x71b026704c4a70, 0x14c62d0]),
   (9285, [0x53360a70946360, 0x53384a5a14e128, 0x533852d0a70, 0x533462d0c68]),
   (9290, [0x1c5a382650, 0x71425286360, 0x71b02384a70, 0x1c50]),
   (9292, [0x53360c6c384a60, 0x533842d0870, 0x53361c21684a70, 0x533062d0c60]),
   (9300, [0x1c6c0a5382670, 0x1c5a94b431b02670, 0x14cd814a5a1296a0, 0x533605296862d0]),
   (9301, [0x1953360, 0x552d0953350, 0x552d0953360, 0x5335338266a670]),
   (9302, [0x72670, 0x53360c5a129c25390, 0x7266c18b584a70, 0x158b432670]),
   (9308, [0x533604e52d0, 0x633634252e0, 0x653846862e0, 0x5338266c09ca70]),
   (9309, [0x1c6c099c25670, 0x14cd684a5a129760, 0x194e12b431760, 0x1c5a129760]),
   (9310, [0x14ce099cd0, 0x1cd0c5a129686360, 0x14f094e129686360, 0x716862f0]),
   (9318, [0x14cd834a70, 0x53384a5a131b06360, 0x14ce94e129684a70, 0x14cd831b31686360]),
   (9326, [0x14ce129d60, 0x14ce129684a70970, 0x19704ce129684a70, 0x14cd831686b06360])]
def tailTab : List (Nat × List Nat) :=
  [(5249, [0x7941c287318, 0x798c23c3878, 0x7942e2873a8, 0x79d423c5c78, 0x1e50]),
   (5250, [0x7a318e8c6118c74630b8, 0x170ae1c2874630b8, 0x7a3185c5c50e8ea1c2b8, 0x1b8ae2e2874750b8, 0x7a3185c3850]),
   (5251, [0x170a1dc283e118f8, 0x1ee141f08c63b850, 0x518c770ea3b850b8c7c5c50, 0x6e31f1718c770ea3b850, 0x1ee143b8507c2318]),
   (5252, [0x7c6118c78c2318, 0x518c78c2318f18, 0x170a0e717141c3a8738, 0x5c2878750e708c62e338, 0x5ce118c78c2338]),
   (5253, [0x51d47b8c63dc5070ebc3850, 0x5c3af0e1d47b8c63dc50, 0x1b8a1ee285e11d78, 0x1f7142f08ea3dc50, 0x1f7143dc50bc23a8]),
   (5254, [0x1b8a0e142ee2e318bb8, 0x5c3a8f8a0e142e318fa8, 0x7ea11d47d423a8, 0x51d47d423a8fa8, 0x6ee11d47d423b8]),
   (5258, [0x5731847a0e1e83850, 0x5c28387a0e15cc617318, 0x573a847a171e85c50, 0x6e285c7a0e15cc6173a8, 0x5c2b98c23d0]),
   (5259, [0x518f98c231f318, 0x17ca0f98c23d8, 0x170a171ee141c3dc3a8, 0x1463e750e142e3dc283e50, 0x170a0e1ec2318]),
   (5260, [0x170f8c233941ce50, 0x147c6119ca0e7283850, 0x5ce750e1f18b8f8c5c50, 0x6e3e317141ce750e1f18, 0x5c28387c611f18]),
   (5261, [0x1b8a0e1f7142e3ee318, 0x146317141c3ee285c7dc50, 0x51d79d423af3a8, 0x1bca179d423e8, 0x1b8a171f423a8]),
   (5262, [0x6ee63171fa870fd43850, 0x5c3f50e142ee63171fa8, 0x1b8fd423b942ee50, 0x147ea11dca177285c50, 0x6e285c7ea11fa8]),
   (5267, [0x1463e838507d0, 0x576118c2ec2318, 0x1463e85c57611d43850, 0x170ea118fa1715d8, 0x1463e83850]),
   (5268, [0x5ce839d18c2f18, 0x5785070af18, 0x146742e2bc611d43850, 0x170ea119d0b8af18, 0x170af18]),
   (5269, [0x1475e83857a118c5c50, 0x1b8c611d7a0e15e8, 0x1475e85c50bd0, 0x57a11d42f423a8, 0x1475e85c50]),
   (5270, [0x147741c2bea118c5c50, 0x1b8c611dd070afa8, 0x6ee85dd1d42fa8, 0x57c50b8afa8, 0x1b8afa8]),
   (5276, [0x17e141cec231f850, 0x173b08c7e141f850, 0x519d8463f0ea1c3a846762e318, 0x170ea118c231f85073b1719d8, 0x1463f0a0fc2839d8]),
   (5277, [0x147508c62f70a0fdc50, 0x147508ebd8463f423a8, 0x146308ea1fb8a17b850, 0x146308c7e8475ec2318, 0x518c23a87ee283850]),
   (5278, [0x147508c62eee141fc50, 0x147508eec231fd423a8, 0x146308c7f508eec2318, 0x17f142eee1d42318, 0x6e31fd43850]),
   (5285, [0x147508ebe308cf423a8, 0x1be141cf718c23a8, 0x146308ea1cf7142f850, 0x146308cf423af8c2318, 0x5c3af8c5c50]),
   (5286, [0x147508ef18467d423a8, 0x1bbc2839f18c23a8, 0x146308cfa84778c2318, 0x173e285de1d42318, 0x5c285de1d42318]),
   (5294, [0x51de8475f8c62e318477a1c3a8, 0x1b8c611d423afc50bbd0e1de8, 0x1bf142ef423afc50, 0x1bbd08ebf142fc50, 0x1475f8a17e285de8]),
   (8833, [0x61e216843c42d0, 0x533c42d0878, 0x14cc1716843c43a8878, 0x14cc1cea21e21685c78, 0x533072d0e60]),
   (8834, [0x15c42d0e9983a660, 0x1e9981710b5c42d0, 0x616b8b8b421d474cc0b8, 0x533074cea216842d71716b8, 0x7a6604cc1d3302660]),
   (8835, [0x7b3076842f8, 0x533027c26604f8, 0x1ed085a1da1716843a8, 0x7b42e2f8b8b43b3a8, 0x7b3076842d0]),
   (8836, [0x14cc1e1684e13338, 0x670999c26604cce13338, 0x185a17168785a1e1d44e13338, 0x185a1e1d4266709982e338, 0x533384cc0999c2660]),
   (8837, [0x14cebc43a8f7183dc60, 0x616843a8f71687b8c099d78, 0x6f10ea13307b8b43dc60, 0x14cea13307b8c1784cea21d78, 0x61d42660f71687b8c178]),
   (8838, [0x14cea3e307d443b8, 0x14cea21687d443a8fa8, 0x14cc171685dc5c60bb8, 0x14cc177171685dc5c60, 0x14cc1f1685dc5c60fa8]),
   (8842, [0x61e998133d0, 0x533d330267a660, 0x185ae5a1716b96843a8, 0x6e2d7302e5a171e843a8, 0x616b98172d0]),
   (8843, [0x14cc09f30267b421ed0, 0x187b4217cc099ed0, 0x533da171ed085a10ea13e60, 0x53e604cea21ed0b8f6842d0, 0x616843da10b421ed0]),
   (8844, [0x14cf8133396843e0, 0x61684e5a10f8133e0, 0x187510f813305c7c1716843e0, 0x187c099f05c60b8b4273a8, 0x5330267c0998133e0]),
   (8845, [0x14cea21f7182e3e8, 0x14cebcea216843af3a8, 0x14cc171f71685c7dc60, 0x14cfb8c171f71685c60, 0x14cebcc171f71685e60]),
   (8846, [0x14cc177305c7ea21fa8, 0x61685dcb42e3f5099fa8, 0x61fa84cc17182ee5a171fa8, 0x14cc1772d0b8c099fa88772d0, 0x61685c7ea133f509982ee60]),
   (8851, [0x617d085aecc0bb302660, 0x185aecc09f4217d0, 0x185a1717d085aecea17660, 0x61d42ecc09f42e2d7660, 0x617d085a10be842d0]),
   (8852, [0x61684e842d09d0, 0x15e16bc0999d0, 0x5785af02660b8ce843a8, 0x674cea21684e85c60, 0x5785af02660]),
   (8853, [0x1b8c0bd10ebd33a8, 0x1875e842d7a13305c60, 0x14cebd085af7182e2d0, 0x14cebd0b8b5ee2d0bd0, 0x61d443a85ee305c60]),
   (8854, [0x533a84cc1774216be2d0, 0x18774216bea13305c60, 0x533ba10b5f182e2d0, 0x61685dd33a85f1817c60, 0x187509982e2d7c60]),
   (8860, [0x19da10bf027e0, 0x53f02667684ed0, 0x53f02667685c676843a8, 0x1875099813f05c67660, 0x185a10bf027e0]),
   (8861, [0x1b8c09fa21d7b3a8, 0x1b8c17b3027ee305c60, 0x6e2d085fb8c17b3a8, 0x1b8c17b4217e8, 0x53305ecc1716843a8]),
   (8862, [0x1bbb4217f18133a8, 0x1b8c1776604fe305c60, 0x53f8b42eed0b8bfa8, 0x6e305dda10bfa8, 0x1b8b4217f18133a8]),
   (8869, [0x5333dc67a21d7c3a8, 0x187509982f85a13dc60, 0x53305f026604ccf42660, 0x53305c60be1685c60be0, 0x1875099d7c171685c60]),
   (8870, [0x533a89f510ef05de0, 0x187509982ef0b427c60, 0x53305de1685de1d44fa8, 0x53302677813302667c60, 0x53302667c5a10b421de0]),
   (8878, [0x533bd10ef443a8877a21de8, 0x61685c5a17e305de8877a133a8, 0x1877a133afc60bf1685c60, 0x53305c5a17e305de84cef442d0, 0x1875099d7e305f8b42fc60]),
   (9281, [0x71e316863c62d0, 0x14ce1296863c6360c78, 0x14cd831e31684a70e70, 0x533c62d0c78, 0x533872d0e70]),
   (9282, [0x15c62d0e99c3a670, 0x716b894b431b074ce0b8, 0x533874cd8316862d71296b8, 0x1e99c1718b5c62d0, 0x7a6704ce1d3382670]),
   (9283, [0x7b3876862f8, 0x1ed0c5a1da129686360, 0x7b4252f894b43b360, 0x533827c26704f8, 0x7b3876862d0]),
   (9284, [0x14cd9c6360f29c3ca70, 0x6718d81338794b43ca70, 0x14cd81338794e1384cd831b38, 0x71686360f2968794e099b38, 0x71b02670f2968794e138]),
   (9285, [0x14cd83d387b06378, 0x14ce129684bc4a70978, 0x14ce12f129684bc4a70, 0x14cd831687b06360f60, 0x14ce1e9684bc4a70f60]),
   (9286, [0x14ce1f1686e133b8, 0x1c5a129687c5a1f1b06e133b8, 0x1c5a1f1b02677099c253b8, 0x77099dc26704cee133b8, 0x533b84ce099dc2670]),
   (9290, [0x71e99c133d0, 0x1c5ae5a1296b9686360, 0x652d7382e5a129e86360, 0x533d338267a670, 0x716b9c172d0]),
   (9291, [0x14ce09f38267b431ed0, 0x533da129ed0c5a18d813e70, 0x53e704cd831ed094f6862d0, 0x1c7b4317ce099ed0, 0x716863da18b431ed0]),
   (9292, [0x14cd831f29c253e0, 0x14ce129f29684a7ca70, 0x14cf94e129f29684a70, 0x14cd9cd831686367360, 0x14cd9ce129f29684e70]),
   (9293, [0x14ce12f384a7d831f60, 0x65e5a129f60c5a18fb02670, 0x14cd831f60c6f2d094e129f60, 0x71684bcb4253ec099f60, 0x652d0c5a129f604ce099f60]),
   (9294, [0x14cfc133b96863f0, 0x1c6c18fc13384a7e1296863f0, 0x1c7e099f84a7094b437360, 0x71686e5a18fc133f0, 0x5338267e099c133f0]),
   (9299, [0x717d0c5aece0bb382670, 0x1c5a1297d0c5aecd817670, 0x71b02ece09f4252d7670, 0x1c5aece09f4317d0, 0x717d0c5a18be862d0]),
   (9300, [0x194e0bc18d9d3360, 0x14cd9d0c5af29c252d0, 0x14cd9d094b5e52d09d0, 0x1c6ce862d7813384a70, 0x65384a705e5384a70]),
   (9301, [0x533604ce12f4316bd2d0, 0x5337a18b5e9c252d0, 0x652d094b431bd3382f60, 0x197a18b425e99b02f60, 0x1c6c099c252d7a70]),
   (9302, [0x71686e862d0dd0, 0x57c5af8267094ee86360, 0x774cd831686e84a70, 0x15f16be099dd0, 0x57c5af82670]),
   (9308, [0x194e09f831b3b360, 0x652d094bf06367670, 0x194e13b4317e0, 0x194e13b3827e5384a70, 0x53384ece129686360]),
   (9309, [0x197b4252fd813f60, 0x53f4b425ed094bf60, 0x65384bda18bf60, 0x194e12f6704fd384a70, 0x194b4252fd813f60]),
   (9310, [0x1dda18bf827f0, 0x53f82677684a77686360, 0x1c6c099c13f84a77670, 0x53f82677686ed0, 0x1c5a18bf827f0]),
   (9317, [0x5337c18df06360c6f831be0, 0x1c6f813367a709e9684a70, 0x5337c099b3d384a704cdf06360, 0x652d094e099be04cd9e9c27a70, 0x1c6c099b3d384f4b427a70]),
   (9318, [0x533bca77831b3e360, 0x53384f826704cef02670, 0x53367c6c1bca5a1bca70, 0x1c6c099c27c5a1bca70, 0x1c6c099b3e129684a70]),
   (9326, [0x53360dec18df84bf0, 0x53384bf1684bf1b06f60, 0x5337e12fc6c18b437a70, 0x1c6c099c25f8b437a70, 0x53382677a5a18b431bf0])]
end Go.Eng

namespace Go.Eng

/-- One way of k places from p to e; the places are s, s + 1, .. -/
def leg (p s : Nat) : Nat → Nat → List (Nat × Nat)
  | 0, e => [(p, e)]
  | k + 1, e => (p, s) :: leg s (s + 1) k e
def thetaE (a b c : Nat) : List (Nat × Nat) := leg 0 2 a 1 ++ leg 0 (2 + a) b 1 ++ leg 0 (2 + a + b) c 1

def trnB (a b i : Nat) : Nat := bif Nat.beq i b then a else bif Nat.beq i a then b else i
theorem trnB_eq (a b i : Nat) : trnB a b i = trn a b i := by
  unfold trnB trn
  by_cases h1 : i = b
  · subst h1; simp
  · have e1 : Nat.beq i b = false := by cases h : Nat.beq i b with | false => rfl | true => exact absurd (Nat.eq_of_beq_eq_true h) h1
    rw [e1, if_neg h1]
    by_cases h2 : i = a
    · subst h2; simp
    · have e2 : Nat.beq i a = false := by cases h : Nat.beq i a with | false => rfl | true => exact absurd (Nat.eq_of_beq_eq_true h) h2
      rw [e2, if_neg h2]; rfl
/-- Where the contents come from, after moves. -/
def wordP : Nat → List Nat → Nat → Nat
  | _, [], i => i
  | h, t :: w, i => trnB h t (wordP t w i)
def adjC (E : List (Nat × Nat)) (a b : Nat) : Bool := E.any fun q => (Nat.beq q.1 a && Nat.beq q.2 b) || (Nat.beq q.1 b && Nat.beq q.2 a)
/-- The moves follow edges and end at the place 0. -/
def wordOK (E : List (Nat × Nat)) (m : Nat) : Nat → List Nat → Bool
  | h, [] => Nat.beq h 0
  | h, t :: w => Nat.blt t m && adjC E h t && wordOK E m t w
def digs : Nat → Nat → List Nat → List Nat
  | 0, _, l => l
  | f + 1, n, l => bif Nat.ble n 1 then l else digs f (n / 8) (n % 8 :: l)
def cycB (a b c i : Nat) : Nat := bif Nat.beq i a then b else bif Nat.beq i b then c else bif Nat.beq i c then a else i
theorem beq_no {a b : Nat} (h : a ≠ b) : Nat.beq a b = false := by cases h' : Nat.beq a b with | false => rfl | true => exact absurd (Nat.eq_of_beq_eq_true h') h
theorem cycB_eq (a b c i : Nat) : cycB a b c i = cyc a b c i := by
  unfold cycB cyc
  by_cases h1 : i = a
  · subst h1; simp
  · rw [beq_no h1, if_neg h1]
    by_cases h2 : i = b
    · subst h2; simp
    · rw [beq_no h2, if_neg h2]
      by_cases h3 : i = c
      · subst h3; simp
      · rw [beq_no h3, if_neg h3]; rfl
def turnOK (E : List (Nat × Nat)) (m i : Nat) (w : List Nat) : Bool := wordOK E m 0 w && (List.range m).all fun x => Nat.beq (wordP 0 w x) (cycB 1 2 i x)
def wordsOK (E : List (Nat × Nat)) (m : Nat) : Nat → List Nat → Bool
  | i, [] => Nat.beq i m
  | i, n :: r => turnOK E m i (digs 100 n []) && wordsOK E m (i + 1) r
def findT : List (Nat × List Nat) → Nat → List Nat
  | [], _ => []
  | (k, l) :: r, n => bif Nat.beq k n then l else findT r n
def inTab : List (Nat × List Nat) → Nat → Bool
  | [], _ => false
  | (k, _) :: r, n => Nat.beq k n || inTab r n

def zeros (a b c : Nat) : Nat := (bif Nat.beq a 0 then 1 else 0) + (bif Nat.beq b 0 then 1 else 0) + (bif Nat.beq c 0 then 1 else 0)
/-- The one small board on which not all turns can be made. -/
def is122 (a b c : Nat) : Bool := (Nat.beq a 1 && Nat.beq b 2 && Nat.beq c 2) || (Nat.beq a 2 && Nat.beq b 1 && Nat.beq c 2) || (Nat.beq a 2 && Nat.beq b 2 && Nat.beq c 1)
def thetaAll : Bool := (List.range 7).all fun a => (List.range 7).all fun b => (List.range 7).all fun c =>
  Nat.ble 2 (zeros a b c) || Nat.blt 6 (a + b + c) || is122 a b c || wordsOK (thetaE a b c) (a + b + c + 2) 3 (findT thetaTab (a * 64 + b * 8 + c))
theorem thetaAll_ok : thetaAll = true := by kernel_rfl
def chordAll : Bool := [(1, 2, 2), (2, 1, 2), (2, 2, 1)].all fun (t : Nat × Nat × Nat) => (List.range 7).all fun x => (List.range 7).all fun y =>
  Nat.ble y x || adjC (thetaE t.1 t.2.1 t.2.2) x y || wordsOK (thetaE t.1 t.2.1 t.2.2 ++ [(x, y)]) 7 3 (findT chordTab ((t.1 * 64 + t.2.1 * 8 + t.2.2) * 64 + x * 8 + y))
theorem chordAll_ok : chordAll = true := by kernel_rfl
def tailAll : Bool := [(1, 2, 2), (2, 1, 2), (2, 2, 1)].all fun (t : Nat × Nat × Nat) => (List.range 7).all fun x => (List.range 7).all fun y =>
  Nat.ble y x || wordsOK (thetaE t.1 t.2.1 t.2.2 ++ [(7, x), (7, y)]) 8 3 (findT tailTab ((t.1 * 64 + t.2.1 * 8 + t.2.2) * 64 + x * 8 + y))
theorem tailAll_ok : tailAll = true := by kernel_rfl

/-- A small board lies in a board. -/
structure Emb (qs : List (Nat × Nat)) (N : Nat) (E : List (Nat × Nat)) (m : Nat) (f : Nat → Nat) : Prop where
  lt : ∀ i, i < m → f i < N
  inj : ∀ i j, i < m → j < m → f i = f j → i = j
  adj : ∀ q ∈ E, Adj qs (f q.1) (f q.2)
theorem adj_symm {qs : List (Nat × Nat)} {a b : Nat} (h : Adj qs a b) : Adj qs b a := Or.symm h
theorem Emb.near {qs : List (Nat × Nat)} {N m : Nat} {E : List (Nat × Nat)} {f : Nat → Nat} (k : Emb qs N E m f) {a b : Nat} (h : adjC E a b = true) : Adj qs (f a) (f b) := by
  obtain ⟨q, hq, h1⟩ := List.any_eq_true.1 h
  rw [Bool.or_eq_true, Bool.and_eq_true, Bool.and_eq_true] at h1
  rcases h1 with ⟨e1, e2⟩ | ⟨e1, e2⟩
  · rw [← Nat.eq_of_beq_eq_true e1, ← Nat.eq_of_beq_eq_true e2]; exact k.adj q hq
  · rw [← Nat.eq_of_beq_eq_true e1, ← Nat.eq_of_beq_eq_true e2]; exact adj_symm (k.adj q hq)

section
variable {qs : List (Nat × Nat)} {N m : Nat} {E : List (Nat × Nat)} {f : Nat → Nat}
theorem wordP_map (k : Emb qs N E m f) : ∀ (w : List Nat) {h x : Nat}, h < m → wordOK E m h w = true → x < m → wordP h w x < m ∧ wordP (f h) (w.map f) (f x) = f (wordP h w x)
  | [], h, x, _, _, hx => ⟨hx, rfl⟩
  | t :: w, h, x, hh, ho, hx => by
    unfold wordOK at ho
    rw [Bool.and_eq_true, Bool.and_eq_true, Nat.blt_eq] at ho
    obtain ⟨i1, i2⟩ := wordP_map k w ho.1.1 ho.2 hx
    show trnB h t (wordP t w x) < m ∧ trnB (f h) (f t) (wordP (f t) (w.map f) (f x)) = f (trnB h t (wordP t w x))
    rw [i2, trnB_eq, trnB_eq]
    unfold trn
    by_cases h1 : wordP t w x = t
    · rw [if_pos h1, if_pos (by rw [h1])]; exact ⟨hh, rfl⟩
    · rw [if_neg h1, if_neg (fun e => h1 (k.inj _ _ i1 ho.1.1 e))]
      by_cases h2 : wordP t w x = h
      · rw [if_pos h2, if_pos (by rw [h2])]; exact ⟨ho.1.1, rfl⟩
      · rw [if_neg h2, if_neg (fun e => h2 (k.inj _ _ i1 hh e))]; exact ⟨i1, rfl⟩
theorem wordP_out (k : Emb qs N E m f) {y : Nat} (hy : ∀ x, x < m → f x ≠ y) : ∀ (w : List Nat) {h : Nat}, h < m → wordOK E m h w = true → wordP (f h) (w.map f) y = y
  | [], _, _, _ => rfl
  | t :: w, h, hh, ho => by
    unfold wordOK at ho
    rw [Bool.and_eq_true, Bool.and_eq_true, Nat.blt_eq] at ho
    show trnB (f h) (f t) (wordP (f t) (w.map f) y) = y
    rw [wordP_out k hy w ho.1.1 ho.2, trnB_eq]
    unfold trn
    rw [if_neg (fun e => hy t ho.1.1 e.symm), if_neg (fun e => hy h hh e.symm)]
theorem word_reached (hN : N ≤ 100) (hq : ∀ q ∈ qs, q.1 < q.2 ∧ q.2 < N) (k : Emb qs N E m f) : ∀ (w : List Nat) {h : Nat} {z : Nat → Int}, h < m → wordOK E m h w = true → Pos N z → z (f h) = 0 → Reached qs N z (fun i => z (wordP (f h) (w.map f) i))
  | [], h, z, _, _, _, _ => .refl
  | t :: w, h, z, hh, ho, hz, h0 => by
    unfold wordOK at ho
    rw [Bool.and_eq_true, Bool.and_eq_true, Nat.blt_eq] at ho
    have hn := nearB_adj (fun q hm => (hq q hm).1) (k.near ho.1.2)
    have m1 : Mov qs N z (swapAt z (f h) (f t)) := ⟨hz, f h, f t, posZ_of hN hz (k.lt h hh) h0, k.lt t ho.1.1, hn, rfl⟩
    have ht0 : swapAt z (f h) (f t) (f t) = 0 := by unfold swapAt; rw [if_pos rfl]; exact h0
    have ih := word_reached hN hq k w ho.1.1 ho.2 m1.pos ht0
    have e : (fun i => swapAt z (f h) (f t) (wordP (f t) (w.map f) i)) = fun i => z (wordP (f h) ((t :: w).map f) i) := by
      funext i
      rw [swapAt_trn, ← trnB_eq]
      rfl
    rw [e] at ih
    exact (Reached.wlk (.step .zero m1)).trans ih
theorem turn_tri (hN : N ≤ 100) (hq : ∀ q ∈ qs, q.1 < q.2 ∧ q.2 < N) (k : Emb qs N E m f) {i : Nat} {w : List Nat} (hm : 3 < m) (hi : i < m) (h : turnOK E m i w = true) : Tri qs N (f 0) (f 1) (f 2) (f i) := fun z hz h0 => by
  unfold turnOK at h
  rw [Bool.and_eq_true, List.all_eq_true] at h
  have hr := word_reached hN hq k w (by omega : 0 < m) h.1 hz h0
  have e : (fun y => z (wordP (f 0) (w.map f) y)) = rot z (f 1) (f 2) (f i) := by
    funext y
    unfold rot
    refine congrArg z ?_
    by_cases hy : ∃ x, x < m ∧ f x = y
    · obtain ⟨x, hx, rfl⟩ := hy
      obtain ⟨i1, i2⟩ := wordP_map k w (by omega : 0 < m) h.1 hx
      have := Nat.eq_of_beq_eq_true (h.2 x (List.mem_range.2 hx))
      rw [i2, this, cycB_eq]
      unfold cyc
      by_cases h1 : x = 1
      · rw [if_pos h1, if_pos (by rw [h1])]
      · rw [if_neg h1, if_neg (fun e => h1 (k.inj _ _ hx (by omega) e))]
        by_cases h2 : x = 2
        · rw [if_pos h2, if_pos (by rw [h2])]
        · rw [if_neg h2, if_neg (fun e => h2 (k.inj _ _ hx (by omega) e))]
          by_cases h3 : x = i
          · rw [if_pos h3, if_pos (by rw [h3])]
          · rw [if_neg h3, if_neg (fun e => h3 (k.inj _ _ hx hi e))]
    · have hy' : ∀ x, x < m → f x ≠ y := fun x hx e => hy ⟨x, hx, e⟩
      rw [wordP_out k hy' w (by omega : 0 < m) h.1]
      unfold cyc
      rw [if_neg (fun e => hy' 1 (by omega) e.symm), if_neg (fun e => hy' 2 (by omega) e.symm), if_neg (fun e => hy' i hi e.symm)]
  rw [← e]
  exact hr
theorem words_tri (hN : N ≤ 100) (hq : ∀ q ∈ qs, q.1 < q.2 ∧ q.2 < N) (k : Emb qs N E m f) (hm : 3 < m) : ∀ (l : List Nat) {i0 : Nat}, wordsOK E m i0 l = true → ∀ i, i0 ≤ i → i < m → Tri qs N (f 0) (f 1) (f 2) (f i)
  | [], i0, h, i, h1, h2 => by
    have : i0 = m := Nat.eq_of_beq_eq_true h
    omega
  | n :: r, i0, h, i, h1, h2 => by
    unfold wordsOK at h
    rw [Bool.and_eq_true] at h
    by_cases e : i = i0
    · subst e; exact turn_tri hN hq k hm h2 h.1
    · exact words_tri hN hq k hm r h.2 i (by omega) h2
/-- **On a board that holds a small board with right words, all turns can be made there.** -/
theorem words_alt (hN : N ≤ 100) (hq : ∀ q ∈ qs, q.1 < q.2 ∧ q.2 < N) (k : Emb qs N E m f) (hm : 3 < m) {l : List Nat} (h : wordsOK E m 3 l = true) : AltOn qs N (f 0) (fun y => ∃ x, 1 ≤ x ∧ x < m ∧ f x = y) := by
  refine .of_two (x := f 1) (y := f 2) ?_ ⟨1, by omega, by omega, rfl⟩ ⟨2, by omega, by omega, rfl⟩ (fun e => by have := k.inj _ _ (by omega) (by omega) e; omega) ?_
  · rintro y ⟨x, h1, h2, rfl⟩
    exact ⟨k.lt x h2, fun e => by have := k.inj _ _ h2 (by omega) e; omega⟩
  · rintro y ⟨x, h1, h2, rfl⟩ n1 n2
    have a1 : x ≠ 1 := fun e => n1 (by rw [e])
    have a2 : x ≠ 2 := fun e => n2 (by rw [e])
    exact words_tri hN hq k hm l h x (by omega) h2
end
end Go.Eng

namespace Go.Eng

theorem Rch.tr {A : Nat → Nat → Prop} {a b c : Nat} (h : Rch A a b) (k : Rch A b c) : Rch A a c := by
  induction k with
  | start => exact h
  | step _ e ih => exact .step ih e
theorem Rch.sy {A : Nat → Nat → Prop} (hs : ∀ a b, A a b → A b a) {a b : Nat} (h : Rch A a b) : Rch A b a := by
  induction h with
  | start => exact .start
  | step _ e ih => exact (Rch.step .start (hs _ _ e)).tr ih

section
variable {qs : List (Nat × Nat)} {N : Nat}
def AltS (qs : List (Nat × Nat)) (N : Nat) (S : Nat → Bool) : Prop := ∀ h, S h = true → AltOn qs N h (fun x => S x = true ∧ x ≠ h)
def InS (qs : List (Nat × Nat)) (S : Nat → Bool) (a b : Nat) : Prop := Adj qs a b ∧ S a = true ∧ S b = true
def ConnS (qs : List (Nat × Nat)) (S : Nat → Bool) (h0 : Nat) : Prop := ∀ h, S h = true → Rch (InS qs S) h0 h
theorem inS_symm {S : Nat → Bool} (a b : Nat) (h : InS qs S a b) : InS qs S b a := ⟨adj_symm h.1, h.2.2, h.2.1⟩
theorem ConnS.from {S : Nat → Bool} {h0 u : Nat} (k : ConnS qs S h0) (hu : S u = true) : ConnS qs S u := fun h hh => ((k u hu).sy inS_symm).tr (k h hh)

theorem adj_ne (hq : ∀ q ∈ qs, q.1 < q.2 ∧ q.2 < N) {a b : Nat} (h : Adj qs a b) : a < N ∧ b < N ∧ a ≠ b := by
  rcases h with h | h
  · have := hq _ h; simp at this; omega
  · have := hq _ h; simp at this; omega
theorem AltOn.step {S : Nat → Bool} {a b : Nat} (hN : N ≤ 100) (hq : ∀ q ∈ qs, q.1 < q.2 ∧ q.2 < N) (k : AltOn qs N a (fun x => S x = true ∧ x ≠ a)) (e : Adj qs a b) (hb : S b = true) : AltOn qs N b (fun x => S x = true ∧ x ≠ b) := by
  refine (k.move hN hq e).mono fun x hx => ?_
  have hne := (adj_ne hq e).2.2
  unfold trn
  rw [if_neg hx.2]
  by_cases h : x = a
  · rw [if_pos h]; exact ⟨hb, Ne.symm hne⟩
  · rw [if_neg h]; exact ⟨hx.1, h⟩
theorem altS_of {S : Nat → Bool} {h0 : Nat} (hN : N ≤ 100) (hq : ∀ q ∈ qs, q.1 < q.2 ∧ q.2 < N) (k : AltOn qs N h0 (fun x => S x = true ∧ x ≠ h0)) (c : ConnS qs S h0) : AltS qs N S := fun h hh => by
  have hr := c h hh
  clear hh
  induction hr with
  | start => exact k
  | step _ e ih => exact ih.step hN hq e.1 e.2.2

/-- Two of four places are none of two others. -/
theorem two_of_four {P : Nat → Prop} {a b c d u w : Nat} (ha : P a) (hb : P b) (hc : P c) (hd : P d) (n1 : a ≠ b) (n2 : a ≠ c) (n3 : a ≠ d) (n4 : b ≠ c) (n5 : b ≠ d) (n6 : c ≠ d) : ∃ x y, P x ∧ P y ∧ x ≠ y ∧ x ≠ u ∧ x ≠ w ∧ y ≠ u ∧ y ≠ w := by
  by_cases e1 : a = u ∨ a = w
  · by_cases e2 : b = u ∨ b = w
    · exact ⟨c, d, hc, hd, n6, by omega, by omega, by omega, by omega⟩
    · by_cases e3 : c = u ∨ c = w
      · exact ⟨b, d, hb, hd, n5, by omega, by omega, by omega, by omega⟩
      · exact ⟨b, c, hb, hc, n4, by omega, by omega, by omega, by omega⟩
  · by_cases e2 : b = u ∨ b = w
    · by_cases e3 : c = u ∨ c = w
      · exact ⟨a, d, ha, hd, n3, by omega, by omega, by omega, by omega⟩
      · exact ⟨a, c, ha, hc, n2, by omega, by omega, by omega, by omega⟩
    · exact ⟨a, b, ha, hb, n1, by omega, by omega, by omega, by omega⟩
def Four (S : Nat → Bool) : Prop := ∃ a b c d, S a = true ∧ S b = true ∧ S c = true ∧ S d = true ∧ a ≠ b ∧ a ≠ c ∧ a ≠ d ∧ b ≠ c ∧ b ≠ d ∧ c ≠ d
theorem Four.two {S : Nat → Bool} (h : Four S) (u w : Nat) : ∃ x y, S x = true ∧ S y = true ∧ x ≠ y ∧ x ≠ u ∧ x ≠ w ∧ y ≠ u ∧ y ≠ w := by
  obtain ⟨a, b, c, d, ha, hb, hc, hd, n1, n2, n3, n4, n5, n6⟩ := h
  exact two_of_four (P := fun x => S x = true) ha hb hc hd n1 n2 n3 n4 n5 n6
theorem Four.more {S : Nat → Bool} (h : Four S) (j : Nat) : Four (more S j) := by
  obtain ⟨a, b, c, d, ha, hb, hc, hd, r⟩ := h
  exact ⟨a, b, c, d, by simp [Go.Eng.more, ha], by simp [Go.Eng.more, hb], by simp [Go.Eng.more, hc], by simp [Go.Eng.more, hd], r⟩

/-- One place more. -/
theorem AltS.one_more {S : Nat → Bool} {u x : Nat} (hN : N ≤ 100) (hq : ∀ q ∈ qs, q.1 < q.2 ∧ q.2 < N) (k : AltS qs N S) (h4 : Four S) (hS : ∀ i, S i = true → i < N) (hu : S u = true) (hx : S x = false) (e : Adj qs u x)
    (hw : ∀ i, i < N → i ≠ u → Rch (AdjBut qs (u : Int)) (firstOf (u : Int)) i) : AltOn qs N u (fun y => more S x y = true ∧ y ≠ u) := by
  have hxu : x ≠ u := fun q => by rw [q, hu] at hx; cases hx
  obtain ⟨w0, _, hw0, _, _, hw0u, _, _, _⟩ := h4.two u u
  have hsym : ∀ a b, AdjBut qs (u : Int) a b → AdjBut qs (u : Int) b a := fun a b h => ⟨adj_symm h.1, h.2.2, h.2.1⟩
  have hr : Rch (AdjBut qs (u : Int)) w0 x := ((hw w0 (hS w0 hw0) hw0u).sy hsym).tr (hw x (adj_ne hq e).2.1 hxu)
  have hP : S x = true ∨ ∃ w, S w = true ∧ w ≠ u ∧ AltOn qs N x (fun y => S y = true ∧ y ≠ w) := by
    refine (hr.closed (S := fun v => (v ≠ u ∧ S v = true) ∨ ∃ w, S w = true ∧ w ≠ u ∧ S v = false ∧ AltOn qs N v (fun y => S y = true ∧ y ≠ w)) (.inl ⟨hw0u, hw0⟩) ?_).elim (fun h => .inl h.2) (fun ⟨w, h1, h2, _, h3⟩ => .inr ⟨w, h1, h2, h3⟩)
    rintro a b ⟨hab, ha, hb⟩ hv
    have hbu : b ≠ u := by omega
    cases hSb : S b with
    | true => exact .inl ⟨hbu, rfl⟩
    | false =>
      right
      rcases hv with ⟨hau, hSa⟩ | ⟨w, h1, h2, hSa, h3⟩
      · refine ⟨a, hSa, hau, rfl, ((k a hSa).move hN hq hab).mono fun y hy => ?_⟩
        have n1 : y ≠ b := fun q => by rw [q, hSb] at hy; cases hy.1
        unfold trn
        rw [if_neg n1, if_neg hy.2]
        exact hy
      · refine ⟨w, h1, h2, rfl, (h3.move hN hq hab).mono fun y hy => ?_⟩
        have n1 : y ≠ b := fun q => by rw [q, hSb] at hy; cases hy.1
        have n2 : y ≠ a := fun q => by rw [q, hSa] at hy; cases hy.1
        unfold trn
        rw [if_neg n1, if_neg n2]
        exact hy
  rcases hP with h | ⟨w, h1, h2, h3⟩
  · rw [h] at hx; cases hx
  have k1 := k u hu
  have k2 := h3.move hN hq (adj_symm e)
  obtain ⟨p, q, hp, hq', hpq, hpu, hpw, hqu, hqw⟩ := h4.two u w
  have hin : ∀ y, S y = true → y ≠ u → y ≠ w → S (trn x u y) = true ∧ trn x u y ≠ w := fun y hy n1 n2 => by
    have n3 : y ≠ x := fun q => by rw [q, hx] at hy; cases hy
    unfold trn
    rw [if_neg n1, if_neg n3]
    exact ⟨hy, n2⟩
  refine (k1.union k2 ⟨hp, hpu⟩ (hin p hp hpu hpw) ⟨hq', hqu⟩ (hin q hq' hqu hqw) hpq).mono fun y hy => ?_
  obtain ⟨hy, hyu⟩ := hy
  by_cases hyx : y = x
  · right
    subst hyx
    unfold trn
    rw [if_neg hyu, if_pos rfl]
    exact ⟨hu, Ne.symm h2⟩
  · left
    refine ⟨?_, hyu⟩
    unfold more at hy
    simpa [hyx] using hy

/-- **From some places to all.** -/
theorem AltS.all {ps : List (Int × Int)} {N : Nat} (hN : N ≤ 100) (hb : IsBoard N ps) (hw : ∀ i : Nat, i < N → Linked N ps i) : ∀ (n : Nat) {S : Nat → Bool} {h0 : Nat}, N - cnt S N = n → (∀ i, S i = true → i < N) → AltS (nats ps) N S → S h0 = true → ConnS (nats ps) S h0 → Four S → AltS (nats ps) N (fun i => decide (i < N)) := by
  have hq := nats_mem hb.1
  intro n
  induction n using Nat.strongRecOn with
  | ind n ih =>
    intro S h0 hn hS k h0S hc h4
    by_cases hex : ∃ o, o < N ∧ S o = false
    · obtain ⟨o, ho, hSo⟩ := hex
      have hsym : ∀ a b, AdjBut (nats ps) (-1) a b → AdjBut (nats ps) (-1) b a := fun a b h => ⟨adj_symm h.1, h.2.2, h.2.1⟩
      have hr : Rch (AdjBut (nats ps) (-1)) h0 o := ((hb.2 h0 (hS h0 h0S) (by omega)).sy hsym).tr (hb.2 o ho (by omega))
      have hcr : ∃ u x, S u = true ∧ S x = false ∧ Adj (nats ps) u x := by
        apply Classical.byContradiction
        intro hno
        have := hr.closed (S := fun v => S v = true) h0S fun a b e ha => by
          cases hSb : S b with
          | true => rfl
          | false => exact absurd ⟨a, b, ha, hSb, e.1⟩ hno
        rw [hSo] at this; cases this
      obtain ⟨u, x, hu, hx, e⟩ := hcr
      have hxN := (adj_ne hq e).2.1
      have k1 := k.one_more hN hq h4 hS hu hx e (fun i hi hne => hw u (hS u hu) i hi (by omega))
      have hlt := more_cnt (In := S) hxN hx
      have hle := cnt_le (more S x) N
      have c1 : ConnS (nats ps) (more S x) u := fun h hh => by
        unfold more at hh
        by_cases hhx : h = x
        · subst hhx
          exact .step .start ⟨e, by simp [more, hu], by simp [more]⟩
        · have hh : S h = true := by simpa [hhx] using hh
          exact (hc.from hu h hh).mono fun a b hab => ⟨hab.1, by simp [more, hab.2.1], by simp [more, hab.2.2]⟩
      have a1 := altS_of hN hq k1 c1
      refine ih (N - cnt (more S x) N) (by omega) rfl (fun i hi => ?_) a1 (h0 := u) (by simp [more, hu]) c1 (h4.more x)
      unfold more at hi
      by_cases hix : i = x
      · rw [hix]; exact hxN
      · exact hS i (by simpa [hix] using hi)
    · have e : S = fun i => decide (i < N) := by
        funext i
        by_cases hi : i < N
        · rw [decide_eq_true hi]
          cases h : S i with
          | true => rfl
          | false => exact absurd ⟨i, hi, h⟩ hex
        · rw [decide_eq_false hi]
          cases h : S i with
          | true => exact absurd (hS i h) hi
          | false => rfl
      rw [← e]
      exact k

/-! ### The places of a small board in a board -/
def imgS (m : Nat) (f : Nat → Nat) : Nat → Bool := fun y => (List.range m).any fun x => Nat.beq (f x) y
theorem imgS_iff {m : Nat} {f : Nat → Nat} {y : Nat} : imgS m f y = true ↔ ∃ x, x < m ∧ f x = y := by
  unfold imgS
  rw [List.any_eq_true]
  constructor
  · rintro ⟨x, h1, h2⟩; exact ⟨x, List.mem_range.1 h1, Nat.eq_of_beq_eq_true h2⟩
  · rintro ⟨x, h1, rfl⟩; exact ⟨x, List.mem_range.2 h1, by simp⟩
def connB (E : List (Nat × Nat)) (m : Nat) : Bool := (E.all fun q => Nat.blt q.1 m && Nat.blt q.2 m) && (List.range m).all fun i => rounds E (-1) (fun j => Nat.beq j 0) m i
theorem emb_conn {m : Nat} {E : List (Nat × Nat)} {f : Nat → Nat} (k : Emb qs N E m f) (h : connB E m = true) : ConnS qs (imgS m f) (f 0) := fun y hy => by
  unfold connB at h
  rw [Bool.and_eq_true, List.all_eq_true, List.all_eq_true] at h
  obtain ⟨x, hx, rfl⟩ := imgS_iff.1 hy
  have hr := rounds_sound (qs := E) (but := -1) (s := 0) (S := fun j => Nat.beq j 0) (fun i hi => by rw [Nat.eq_of_beq_eq_true hi]; exact .start) m x (h.2 x (List.mem_range.2 hx))
  have hl : ∀ q ∈ E, q.1 < m ∧ q.2 < m := fun q hq => by
    have := h.1 q hq
    rw [Bool.and_eq_true, Nat.blt_eq, Nat.blt_eq] at this
    exact this
  clear hx hy
  induction hr with
  | start => exact .start
  | step _ e ih =>
    refine .step ih ?_
    rcases e.1 with e | e
    · exact ⟨k.adj _ e, imgS_iff.2 ⟨_, (hl _ e).1, rfl⟩, imgS_iff.2 ⟨_, (hl _ e).2, rfl⟩⟩
    · exact ⟨adj_symm (k.adj _ e), imgS_iff.2 ⟨_, (hl _ e).2, rfl⟩, imgS_iff.2 ⟨_, (hl _ e).1, rfl⟩⟩
/-- **A board that is whole and holds a small board with right words: all turns can be made everywhere.** -/
theorem emb_all {ps : List (Int × Int)} {m : Nat} {E : List (Nat × Nat)} {f : Nat → Nat} (hN : N ≤ 100) (hb : IsBoard N ps) (hw : ∀ i : Nat, i < N → Linked N ps i) (k : Emb (nats ps) N E m f) (hm : 3 < m) {l : List Nat} (h : wordsOK E m 3 l = true) (hc : connB E m = true) : AltS (nats ps) N (fun i => decide (i < N)) := by
  have hq := nats_mem hb.1
  have c := emb_conn k hc
  have a := words_alt hN hq k hm h
  have a0 : AltOn (nats ps) N (f 0) (fun x => imgS m f x = true ∧ x ≠ f 0) := a.mono fun y hy => by
    obtain ⟨⟨x, hx, rfl⟩, hne⟩ := And.imp_left imgS_iff.1 hy
    exact ⟨x, by apply Classical.byContradiction; intro h0; exact hne (by rw [show x = 0 by omega]), hx, rfl⟩
  have hin : ∀ x, x < m → imgS m f (f x) = true := fun x hx => imgS_iff.2 ⟨x, hx, rfl⟩
  have hne : ∀ x y, x < m → y < m → x ≠ y → f x ≠ f y := fun x y hx hy n e => n (k.inj x y hx hy e)
  refine AltS.all hN hb hw _ rfl (fun i hi => ?_) (altS_of hN hq a0 c) (hin 0 (by omega)) c ⟨f 0, f 1, f 2, f 3, hin _ (by omega), hin _ (by omega), hin _ (by omega), hin _ (by omega), hne _ _ (by omega) (by omega) (by omega), hne _ _ (by omega) (by omega) (by omega), hne _ _ (by omega) (by omega) (by omega), hne _ _ (by omega) (by omega) (by omega), hne _ _ (by omega) (by omega) (by omega), hne _ _ (by omega) (by omega) (by omega)⟩
  obtain ⟨x, hx, rfl⟩ := imgS_iff.1 hi
  exact k.lt x hx
def connAll : Bool := (List.range 7).all fun a => (List.range 7).all fun b => (List.range 7).all fun c => Nat.blt 6 (a + b + c) || connB (thetaE a b c) (a + b + c + 2)
theorem connAll_ok : connAll = true := by kernel_rfl
def connCh : Bool := [(1, 2, 2), (2, 1, 2), (2, 2, 1)].all fun (t : Nat × Nat × Nat) => (List.range 7).all fun x => (List.range 7).all fun y =>
  connB (thetaE t.1 t.2.1 t.2.2 ++ [(x, y)]) 7 && connB (thetaE t.1 t.2.1 t.2.2 ++ [(7, x), (7, y)]) 8
theorem connCh_ok : connCh = true := by kernel_rfl
end
end Go.Eng

namespace Go.Eng

def chn (A : Nat → Nat → Prop) : Nat → List Nat → Prop
  | _, [] => True
  | a, x :: l => A a x ∧ chn A x l
def lastOf : Nat → List Nat → Nat
  | a, [] => a
  | _, x :: l => lastOf x l
/-- A way over some places. -/
def Leg (A : Nat → Nat → Prop) : Nat → List Nat → Nat → Prop
  | a, [], b => A a b
  | a, x :: l, b => A a x ∧ Leg A x l b
section
variable {A : Nat → Nat → Prop}
theorem chn_split : ∀ {l r : List Nat} {a b : Nat}, chn A a (l ++ b :: r) → Leg A a l b ∧ chn A b r
  | [], _, _, _, h => h
  | x :: l, r, a, b, h => by
    have := chn_split (l := l) h.2
    exact ⟨⟨h.1, this.1⟩, this.2⟩
theorem chn_snoc : ∀ {l : List Nat} {a c : Nat}, chn A a l → A (lastOf a l) c → chn A a (l ++ [c])
  | [], _, _, _, e => ⟨e, trivial⟩
  | _ :: _, _, _, h, e => ⟨h.1, chn_snoc h.2 e⟩
theorem chn_left : ∀ {l r : List Nat} {a : Nat}, chn A a (l ++ r) → chn A a l
  | [], _, _, _ => trivial
  | _ :: _, _, _, h => ⟨h.1, chn_left h.2⟩
theorem lastOf_app : ∀ {l r : List Nat} {a : Nat}, lastOf a (l ++ r) = lastOf (lastOf a l) r
  | [], _, _ => rfl
  | _ :: l, _, _ => lastOf_app (l := l)
theorem lastOf_mem : ∀ {l : List Nat} {a : Nat}, lastOf a l ∈ a :: l
  | [], _ => by simp [lastOf]
  | x :: l, _ => List.mem_cons_of_mem _ (lastOf_mem (l := l) (a := x))
theorem way_to : ∀ {l : List Nat} {a c : Nat}, c ∈ a :: l → ∃ l1 l2, l = l1 ++ l2 ∧ lastOf a l1 = c
  | [], a, c, h => by simp at h; subst h; exact ⟨[], [], rfl, rfl⟩
  | x :: l, a, c, h => by
    by_cases e : c = a
    · subst e; exact ⟨[], x :: l, rfl, rfl⟩
    · obtain ⟨l1, l2, e1, e2⟩   := way_to (l := l) (a := x) (c := c) (by simpa [e] using h)
      exact ⟨x :: l1, l2, by rw [e1]; rfl, e2⟩
/-- A way without repeats. -/
theorem Rch.way {a b : Nat} (h : Rch A a b) : ∃ l, chn A a l ∧ lastOf a l = b ∧ (a :: l).Nodup := by
  induction h with
  | start => exact ⟨[], trivial, rfl, by simp⟩
  | step _ e ih =>
    rename_i b c _
    obtain ⟨l, h1, h2, h3⟩ := ih
    by_cases hc : c ∈ a :: l
    · obtain ⟨l1, l2, e1, e2⟩ := way_to hc
      subst e1
      refine ⟨l1, chn_left h1, e2, ?_⟩
      rw [← List.cons_append] at h3
      exact (List.nodup_append.1 h3).1
    · refine ⟨l ++ [c], chn_snoc h1 (by rw [h2]; exact e), by rw [lastOf_app]; rfl, ?_⟩
      rw [← List.cons_append, List.nodup_append]
      exact ⟨h3, by simp, fun x hx y hy e => hc (by simp at hy; rw [← hy, ← e]; exact hx)⟩
theorem Leg.snoc : ∀ {l : List Nat} {a b c : Nat}, Leg A a l b → A b c → Leg A a (l ++ [b]) c
  | [], _, _, _, h, e => ⟨h, e⟩
  | _ :: _, _, _, _, h, e => ⟨h.1, Leg.snoc h.2 e⟩
theorem Leg.rev (hs : ∀ a b, A a b → A b a) : ∀ {l : List Nat} {a b : Nat}, Leg A a l b → Leg A b l.reverse a
  | [], _, _, h => hs _ _ h
  | x :: l, a, b, h => by
    rw [List.reverse_cons]
    exact (Leg.rev hs h.2).snoc (hs _ _ h.1)
theorem Leg.mono {B : Nat → Nat → Prop} (h : ∀ a b, A a b → B a b) : ∀ {l : List Nat} {a b : Nat}, Leg A a l b → Leg B a l b
  | [], _, _, k => h _ _ k
  | _ :: _, _, _, k => ⟨h _ _ k.1, Leg.mono h k.2⟩
theorem chn_mono {B : Nat → Nat → Prop} (h : ∀ a b, A a b → B a b) : ∀ {l : List Nat} {a : Nat}, chn A a l → chn B a l
  | [], _, _ => trivial
  | _ :: _, _, k => ⟨h _ _ k.1, chn_mono h k.2⟩
theorem chn_all {P : Nat → Prop} (h : ∀ a b, A a b → P b) : ∀ {l : List Nat} {a : Nat}, chn A a l → ∀ x ∈ l, P x
  | _ :: _, _, k, x, hx => by
    rcases List.mem_cons.1 hx with rfl | hx
    · exact h _ _ k.1
    · exact chn_all h k.2 x hx
end
/-- The first of a list that lies in another one. -/
theorem first_in : ∀ {l p : List Nat}, (∃ x, x ∈ l ∧ x ∈ p) → ∃ l1 w l2, l = l1 ++ w :: l2 ∧ w ∈ p ∧ ∀ x ∈ l1, x ∉ p
  | [], p, h => by obtain ⟨x, h, _⟩ := h; cases h
  | y :: l, p, h => by
    by_cases hy : y ∈ p
    · exact ⟨[], y, l, rfl, hy, by simp⟩
    · obtain ⟨l1, w, l2, e, h1, h2⟩ := first_in (l := l) (p := p) (by
        obtain ⟨x, hx, hp⟩ := h
        rcases List.mem_cons.1 hx with rfl | hx
        · exact absurd hp hy
        · exact ⟨x, hx, hp⟩)
      refine ⟨y :: l1, w, l2, by rw [e]; rfl, h1, fun x hx => ?_⟩
      rcases List.mem_cons.1 hx with rfl | hx
      · exact hy
      · exact h2 x hx

theorem nodup_rev {l : List Nat} (h : l.Nodup) : l.reverse.Nodup := by
  rw [List.nodup_iff_pairwise_ne, List.pairwise_reverse]
  exact (List.nodup_iff_pairwise_ne.1 h).imp fun h => Ne.symm h

/-- Two places joined by three ways. -/
structure Theta (qs : List (Nat × Nat)) (N u w : Nat) (l1 l2 l3 : List Nat) : Prop where
  leg1 : Leg (Adj qs) u l1 w
  leg2 : Leg (Adj qs) u l2 w
  leg3 : Leg (Adj qs) u l3 w
  nodup : (u :: w :: (l1 ++ l2 ++ l3)).Nodup
  lt : ∀ x ∈ u :: w :: (l1 ++ l2 ++ l3), x < N
  few : zeros l1.length l2.length l3.length ≤ 1

theorem theta_ex {ps : List (Int × Int)} {N u a b c : Nat} (hb : IsBoard N ps) (hw : ∀ i : Nat, i < N → Linked N ps i) (ea : Adj (nats ps) u a) (eb : Adj (nats ps) u b) (ec : Adj (nats ps) u c) (hab : a ≠ b) (hac : a ≠ c) (hbc : b ≠ c) : ∃ w l1 l2 l3, Theta (nats ps) N u w l1 l2 l3 := by
  have hq := nats_mem hb.1
  have na := adj_ne hq ea
  have nb := adj_ne hq eb
  have nc := adj_ne hq ec
  have hsym : ∀ a b, AdjBut (nats ps) (u : Int) a b → AdjBut (nats ps) (u : Int) b a := fun a b h => ⟨adj_symm h.1, h.2.2, h.2.1⟩
  have hr : ∀ x y, x < N → y < N → x ≠ u → y ≠ u → Rch (AdjBut (nats ps) (u : Int)) x y := fun x y hx hy n1 n2 => ((hw u na.1 x hx (by omega)).sy hsym).tr (hw u na.1 y hy (by omega))
  obtain ⟨P, hP1, hP2, hP3⟩ := (hr a b na.2.1 nb.2.1 (Ne.symm na.2.2) (Ne.symm nb.2.2)).way
  obtain ⟨Q, hQ1, hQ2, hQ3⟩ := (hr c b nc.2.1 nb.2.1 (Ne.symm nc.2.2) (Ne.symm nb.2.2)).way
  have hin : ∃ x, x ∈ c :: Q ∧ x ∈ a :: P := ⟨b, hQ2 ▸ lastOf_mem, hP2 ▸ lastOf_mem⟩
  obtain ⟨Q1, w, R, eQ, hwP, hdis⟩ := first_in hin
  obtain ⟨P1, P2, eP⟩ := List.append_of_mem hwP
  have hpu : ∀ x ∈ a :: P, x ≠ u ∧ x < N := fun x hx => by
    rcases List.mem_cons.1 hx with rfl | hx
    · exact ⟨Ne.symm na.2.2, na.2.1⟩
    · exact chn_all (P := fun x => x ≠ u ∧ x < N) (fun a b h => ⟨by have := h.2.2; omega, (adj_ne hq h.1).2.1⟩) hP1 x hx
  have hqu : ∀ x ∈ c :: Q, x ≠ u ∧ x < N := fun x hx => by
    rcases List.mem_cons.1 hx with rfl | hx
    · exact ⟨Ne.symm nc.2.2, nc.2.1⟩
    · exact chn_all (P := fun x => x ≠ u ∧ x < N) (fun a b h => ⟨by have := h.2.2; omega, (adj_ne hq h.1).2.1⟩) hQ1 x hx
  have cP : chn (Adj (nats ps)) u (a :: P) := ⟨ea, chn_mono (fun _ _ h => h.1) hP1⟩
  have cQ : chn (Adj (nats ps)) u (c :: Q) := ⟨ec, chn_mono (fun _ _ h => h.1) hQ1⟩
  have hlast : lastOf u (a :: P) = b := hP2
  rw [eP] at cP hP3 hpu hdis hlast
  rw [eQ] at cQ hQ3 hqu
  have s1 := chn_split cP
  have s3 := chn_split cQ
  have hl2 : lastOf w P2 = b := by
    rw [lastOf_app] at hlast
    exact hlast
  have s2 : Leg (Adj (nats ps)) w P2 u := (chn_split (chn_snoc s1.2 (by rw [hl2]; exact adj_symm eb))).1
  have nP := List.nodup_append.1 hP3
  have nP2 := List.nodup_cons.1 nP.2.1
  have nQ := List.nodup_append.1 hQ3
  have mw : ∀ x ∈ P1, x ≠ w := fun x hx e => nP.2.2 x hx w (by simp) e
  refine ⟨w, P1, P2.reverse, Q1, s1.1, s2.rev (fun _ _ h => adj_symm h), s3.1, ?_, ?_, ?_⟩
  · refine List.nodup_cons.2 ⟨fun hm => ?_, List.nodup_cons.2 ⟨fun hm => ?_, ?_⟩⟩
    · rcases List.mem_cons.1 hm with e | hm
      · exact (hpu w (by simp)).1 e.symm
      · rcases List.mem_append.1 hm with hm | hm
        · rcases List.mem_append.1 hm with hm | hm
          · exact (hpu u (by simp [hm])).1 rfl
          · exact (hpu u (by simp [List.mem_reverse.1 hm])).1 rfl
        · exact (hqu u (by simp [hm])).1 rfl
    · rcases List.mem_append.1 hm with hm | hm
      · rcases List.mem_append.1 hm with hm | hm
        · exact mw w hm rfl
        · exact nP2.1 (List.mem_reverse.1 hm)
      · exact hdis w hm (by simp)
    · rw [List.nodup_append, List.nodup_append]
      refine ⟨⟨nP.1, nodup_rev nP2.2, fun x hx y hy e => ?_⟩, nQ.1, fun x hx y hy e => ?_⟩
      · exact nP.2.2 x hx y (List.mem_cons_of_mem _ (List.mem_reverse.1 hy)) e
      · subst e
        rcases List.mem_append.1 hx with hx | hx
        · exact hdis x hy (by simp [hx])
        · exact hdis x hy (by simp [List.mem_reverse.1 hx])
  · intro x hx
    rcases List.mem_cons.1 hx with rfl | hx
    · exact na.1
    · rcases List.mem_cons.1 hx with rfl | hx
      · exact (hpu x (by simp)).2
      · rcases List.mem_append.1 hx with hx | hx
        · rcases List.mem_append.1 hx with hx | hx
          · exact (hpu x (by simp [hx])).2
          · exact (hpu x (by simp [List.mem_reverse.1 hx])).2
        · exact (hqu x (by simp [hx])).2
  · have z : ∀ n, (bif Nat.beq n 0 then 1 else 0 : Nat) = if n = 0 then 1 else 0 := fun n => by
      cases n with
      | zero => rfl
      | succ n => rfl
    have k12 : ¬ (P1.length = 0 ∧ P2.length = 0) := fun ⟨h1, h2⟩ => by
      have e1 := List.length_eq_zero_iff.1 h1
      have e2 := List.length_eq_zero_iff.1 h2
      subst e1; subst e2
      injection eP with e3 e4
      subst e4
      exact hab hP2
    have k13 : ¬ (P1.length = 0 ∧ Q1.length = 0) := fun ⟨h1, h2⟩ => by
      have e1 := List.length_eq_zero_iff.1 h1
      have e2 := List.length_eq_zero_iff.1 h2
      subst e1; subst e2
      injection eP with e3 e4
      injection eQ with e5 e6
      exact hac (e3.trans e5.symm)
    have k23 : ¬ (P2.length = 0 ∧ Q1.length = 0) := fun ⟨h1, h2⟩ => by
      have e1 := List.length_eq_zero_iff.1 h1
      have e2 := List.length_eq_zero_iff.1 h2
      subst e1; subst e2
      injection eQ with e5 e6
      exact hbc (hl2.symm.trans e5.symm)
    unfold zeros
    rw [z, z, z, List.length_reverse]
    split <;> split <;> split <;> omega

/-- The places of two ends and three ways, as a small board's. -/
def thetaF (u w : Nat) (l1 l2 l3 : List Nat) : Nat → Nat := fun i => (u :: w :: (l1 ++ l2 ++ l3)).getD i 0
theorem leg_adj {E : Nat → Nat → Prop} {f : Nat → Nat} : ∀ {l : List Nat} {p s e : Nat}, Leg E (f p) l (f e) → (∀ j, j < l.length → f (s + j) = l.getD j 0) → ∀ q ∈ leg p s l.length e, E (f q.1) (f q.2)
  | [], p, s, e, h, _, q, hq => by
    simp [leg] at hq
    subst hq
    exact h
  | x :: l, p, s, e, h, hf, q, hq => by
    have e0 : f s = x := hf 0 (by simp)
    simp only [leg, List.length_cons, List.mem_cons] at hq
    rcases hq with rfl | hq
    · show E (f p) (f s)
      rw [e0]; exact h.1
    · refine leg_adj (l := l) (p := s) (s := s + 1) (e := e) (by rw [e0]; exact h.2) (fun j hj => ?_) q hq
      have := hf (j + 1) (by simp; omega)
      rw [show s + 1 + j = s + (j + 1) by omega, this]
      rfl
theorem nodup_getD {l : List Nat} (h : l.Nodup) {i j : Nat} (hi : i < l.length) (hj : j < l.length) (e : l.getD i 0 = l.getD j 0) : i = j := by
  rw [List.getD_eq_getElem?_getD, List.getD_eq_getElem?_getD, List.getElem?_eq_getElem hi, List.getElem?_eq_getElem hj] at e
  exact (List.getElem_inj h).1 e
theorem getD_mem {l : List Nat} {i : Nat} (hi : i < l.length) : l.getD i 0 ∈ l := by
  rw [List.getD_eq_getElem?_getD, List.getElem?_eq_getElem hi]
  exact List.getElem_mem hi
theorem Theta.emb {qs : List (Nat × Nat)} {N u w : Nat} {l1 l2 l3 : List Nat} (k : Theta qs N u w l1 l2 l3) : Emb qs N (thetaE l1.length l2.length l3.length) (l1.length + l2.length + l3.length + 2) (thetaF u w l1 l2 l3) := by
  have hl : (u :: w :: (l1 ++ l2 ++ l3)).length = l1.length + l2.length + l3.length + 2 := by simp; omega
  refine ⟨fun i hi => k.lt _ (getD_mem (by omega)), fun i j hi hj e => nodup_getD k.nodup (by omega) (by omega) e, fun q hq => ?_⟩
  have f2 : ∀ j, thetaF u w l1 l2 l3 (2 + j) = (l1 ++ l2 ++ l3).getD j 0 := fun j => by
    unfold thetaF
    rw [show 2 + j = (j + 1) + 1 by omega]
    rfl
  have g : ∀ (l r : List Nat) (j : Nat), j < l.length → (l ++ r).getD j 0 = l.getD j 0 := fun l r j hj => by
    rw [List.getD_eq_getElem?_getD, List.getD_eq_getElem?_getD, List.getElem?_append_left hj]
  have g2 : ∀ (l r : List Nat) (j : Nat), (l ++ r).getD (l.length + j) 0 = r.getD j 0 := fun l r j => by
    rw [List.getD_eq_getElem?_getD, List.getD_eq_getElem?_getD, List.getElem?_append_right (by omega), show l.length + j - l.length = j by omega]
  unfold thetaE at hq
  rcases List.mem_append.1 hq with hq | hq
  · rcases List.mem_append.1 hq with hq | hq
    · exact leg_adj (f := thetaF u w l1 l2 l3) (p := 0) (s := 2) (e := 1) k.leg1 (fun j hj => by rw [f2, g (l1 ++ l2) l3 j (by simp; omega), g l1 l2 j hj]) q hq
    · exact leg_adj (f := thetaF u w l1 l2 l3) (p := 0) (s := 2 + l1.length) (e := 1) k.leg2 (fun j hj => by rw [Nat.add_assoc, f2, g (l1 ++ l2) l3 _ (by simp; omega), g2 l1 l2]) q hq
  · exact leg_adj (f := thetaF u w l1 l2 l3) (p := 0) (s := 2 + l1.length + l2.length) (e := 1) k.leg3 (fun j hj => by
      rw [show 2 + l1.length + l2.length + j = 2 + ((l1 ++ l2).length + j) by simp; omega, f2, g2 (l1 ++ l2) l3]) q hq
theorem Theta.small {qs : List (Nat × Nat)} {N u w : Nat} {l1 l2 l3 : List Nat} (k : Theta qs N u w l1 l2 l3) : l1.length + l2.length + l3.length + 2 ≤ N := by
  have hl : (u :: w :: (l1 ++ l2 ++ l3)).length = l1.length + l2.length + l3.length + 2 := by simp; omega
  rw [← hl]
  have := nodup_len (M := List.range N) k.nodup fun x hx => List.mem_range.2 (k.lt x hx)
  simpa using this
end Go.Eng

namespace Go.Eng

/-- The neighbours of a place, in the order of the edges. -/
def nbL (qs : List (Nat × Nat)) (v : Nat) : List Nat := qs.filterMap fun q => if q.1 = v then some q.2 else if q.2 = v then some q.1 else none
section
variable {qs : List (Nat × Nat)} {N : Nat}
theorem nbL_cons (q : Nat × Nat) (v : Nat) : nbL (q :: qs) v = (if q.1 = v then [q.2] else if q.2 = v then [q.1] else []) ++ nbL qs v := by
  unfold nbL
  rw [List.filterMap_cons]
  by_cases h1 : q.1 = v
  · simp [h1]
  · by_cases h2 : q.2 = v
    · simp [h1, h2]
    · simp [h1, h2]
theorem nbL_mem (hq : ∀ q ∈ qs, q.1 < q.2 ∧ q.2 < N) {v x : Nat} : x ∈ nbL qs v ↔ Adj qs v x := by
  unfold nbL
  rw [List.mem_filterMap]
  constructor
  · rintro ⟨q, hm, h⟩
    by_cases h1 : q.1 = v
    · rw [if_pos h1] at h
      injection h with h
      exact .inl (by rw [← h1, ← h]; exact hm)
    · rw [if_neg h1] at h
      by_cases h2 : q.2 = v
      · rw [if_pos h2] at h
        injection h with h
        exact .inr (by rw [← h2, ← h]; exact hm)
      · rw [if_neg h2] at h; cases h
  · rintro (h | h)
    · exact ⟨_, h, by simp⟩
    · have := hq _ h
      simp at this
      exact ⟨_, h, by rw [if_neg (show ¬ x = v by omega), if_pos rfl]⟩
theorem nbL_nodup : ∀ {qs : List (Nat × Nat)}, qs.Nodup → (∀ q ∈ qs, q.1 < q.2 ∧ q.2 < N) → ∀ v, (nbL qs v).Nodup
  | [], _, _, v => by simp [nbL]
  | q :: r, hn, hq, v => by
    have h2 := List.nodup_cons.1 hn
    have hq' : ∀ q ∈ r, q.1 < q.2 ∧ q.2 < N := fun x hx => hq x (List.mem_cons_of_mem _ hx)
    have ih := nbL_nodup h2.2 hq' v
    have hlt := hq q (by simp)
    rw [nbL_cons]
    by_cases h1 : q.1 = v
    · rw [if_pos h1]
      refine List.nodup_cons.2 ⟨fun hm => ?_, ih⟩
      rcases (nbL_mem hq').1 hm with e | e
      · exact h2.1 (by rw [← h1] at e; exact e)
      · have := hq' _ e
        simp at this
        omega
    · rw [if_neg h1]
      by_cases h3 : q.2 = v
      · rw [if_pos h3]
        refine List.nodup_cons.2 ⟨fun hm => ?_, ih⟩
        rcases (nbL_mem hq').1 hm with e | e
        · have := hq' _ e
          simp at this
          omega
        · exact h2.1 (by rw [← h3] at e; exact e)
      · rw [if_neg h3]; exact ih
/-- The edges of a board are all different. -/
theorem edges_nodup {ps : List (Int × Int)} (h : EdgesTo N ps ps.length) : (nats ps).Nodup := by
  have hm := nats_mem h
  have hl : (nats ps).length = ps.length := nats_len ps
  have e0 : ints (nats ps) = ps := ints_nats h
  have st : ∀ i, i + 1 < (nats ps).length → Lex ((nats ps).getD i (0, 0)) ((nats ps).getD (i + 1) (0, 0)) := fun i hi => by
    have := (h (i + 1) (by omega)).2 (by omega)
    rw [show i + 1 - 1 = i by omega, ← e0, ints_fst, ints_snd, ints_fst, ints_snd] at this
    unfold Lex
    omega
  have lt : ∀ d i, i + d + 1 < (nats ps).length → Lex ((nats ps).getD i (0, 0)) ((nats ps).getD (i + d + 1) (0, 0)) := fun d => by
    induction d with
    | zero => exact fun i hi => st i hi
    | succ d ih =>
      intro i hi
      have a := ih i (by omega)
      have b := st (i + d + 1) (by omega)
      rw [show i + (d + 1) + 1 = i + d + 1 + 1 by omega]
      unfold Lex at *
      omega
  rw [List.nodup_iff_pairwise_ne, List.pairwise_iff_getElem]
  intro i j hi hj hij e
  have := lt (j - i - 1) i (by omega)
  rw [show i + (j - i - 1) + 1 = j by omega] at this
  rw [List.getD_eq_getElem?_getD, List.getD_eq_getElem?_getD, List.getElem?_eq_getElem hi, List.getElem?_eq_getElem hj] at this
  have this : Lex (nats ps)[i] (nats ps)[j] := this
  rw [e] at this
  unfold Lex at this
  omega
theorem rch_step {A : Nat → Nat → Prop} {a b : Nat} (h : Rch A a b) (hne : a ≠ b) : ∃ s, A a s := by
  induction h with
  | start => exact absurd rfl hne
  | step _ e ih =>
    rename_i b c _
    by_cases hb : a = b
    · rw [hb]; exact ⟨_, e⟩
    · exact ih hb
/-- On a whole board each place has two neighbours. -/
theorem two_near {ps : List (Int × Int)} (hb : IsBoard N ps) (hw : WholeP N ps) {v : Nat} (hv : v < N) : ∃ a b, Adj (nats ps) v a ∧ Adj (nats ps) v b ∧ a ≠ b := by
  have hq := nats_mem hb.1
  have h3 := hw.1
  have hsym : ∀ k : Int, ∀ a b, AdjBut (nats ps) k a b → AdjBut (nats ps) k b a := fun k a b h => ⟨adj_symm h.1, h.2.2, h.2.1⟩
  have hex : ∀ s, ∃ i, i < N ∧ i ≠ v ∧ i ≠ s := fun s => by
    by_cases h0 : v = 0 ∨ s = 0
    · by_cases h1 : v = 1 ∨ s = 1
      · exact ⟨2, by omega, by omega, by omega⟩
      · exact ⟨1, by omega, by omega, by omega⟩
    · exact ⟨0, by omega, by omega, by omega⟩
  obtain ⟨i, hi, hiv, _⟩ := hex v
  obtain ⟨a, ha⟩ := rch_step (((hb.2 v hv (by omega)).sy (hsym _)).tr (hb.2 i hi (by omega))) (Ne.symm hiv)
  have na := adj_ne hq ha.1
  obtain ⟨j, hj, hjv, hja⟩ := hex a
  obtain ⟨b, hb'⟩ := rch_step (((hw.2 a na.2.1 v hv (by omega)).sy (hsym _)).tr (hw.2 a na.2.1 j hj (by omega))) (Ne.symm hjv)
  exact ⟨a, b, ha.1, hb'.1, by have := hb'.2.2; omega⟩
theorem three_near {ps : List (Int × Int)} (hb : IsBoard N ps) {v : Nat} (h : 3 ≤ (nbL (nats ps) v).length) : ∃ a b c, Adj (nats ps) v a ∧ Adj (nats ps) v b ∧ Adj (nats ps) v c ∧ a ≠ b ∧ a ≠ c ∧ b ≠ c := by
  have hq := nats_mem hb.1
  have hn := nbL_nodup (edges_nodup hb.1) hq v
  have hm : ∀ i, i < 3 → Adj (nats ps) v ((nbL (nats ps) v).getD i 0) := fun i hi => (nbL_mem hq).1 (getD_mem (by omega))
  have hne : ∀ i j, i < 3 → j < 3 → i ≠ j → (nbL (nats ps) v).getD i 0 ≠ (nbL (nats ps) v).getD j 0 := fun i j hi hj n e => n (nodup_getD hn (by omega) (by omega) e)
  exact ⟨_, _, _, hm 0 (by omega), hm 1 (by omega), hm 2 (by omega), hne 0 1 (by omega) (by omega) (by omega), hne 0 2 (by omega) (by omega) (by omega), hne 1 2 (by omega) (by omega) (by omega)⟩
theorem two_le {ps : List (Int × Int)} (hb : IsBoard N ps) (hw : WholeP N ps) {v : Nat} (hv : v < N) : 2 ≤ (nbL (nats ps) v).length := by
  have hq := nats_mem hb.1
  obtain ⟨a, b, ha, hb', hne⟩ := two_near hb hw hv
  have := nodup_len (L := [a, b]) (M := nbL (nats ps) v) (by simp [hne]) fun x hx => by
    simp at hx
    rcases hx with rfl | rfl
    · exact (nbL_mem hq).2 ha
    · exact (nbL_mem hq).2 hb'
  simpa using this

/-- A board that is a small board, but for the names of the places. -/
structure Exact (qs : List (Nat × Nat)) (N : Nat) (E : List (Nat × Nat)) (f : Nat → Nat) : Prop where
  emb : Emb qs N E N f
  all : ∀ x y, x < N → y < N → Adj qs (f x) (f y) → adjC E x y = true
def degC (E : List (Nat × Nat)) (m x : Nat) : Nat := ((List.range m).filter (adjC E x)).length
theorem imgs {m : Nat} {E : List (Nat × Nat)} {f : Nat → Nat} (k : Emb qs N E m f) {P : Nat → Bool} : (((List.range m).filter P).map f).Nodup := by
  rw [List.nodup_iff_pairwise_ne, List.pairwise_map]
  have h : ((List.range m).filter P).Pairwise (· < ·) := (List.pairwise_lt_range (n := m)).filter _
  refine List.Pairwise.imp_of_mem ?_ h
  intro a b ha hb hab e
  have := k.inj a b (List.mem_range.1 (List.mem_filter.1 ha).1) (List.mem_range.1 (List.mem_filter.1 hb).1) e
  omega
theorem near_img {m : Nat} {E : List (Nat × Nat)} {f : Nat → Nat} (hn : qs.Nodup) (hq : ∀ q ∈ qs, q.1 < q.2 ∧ q.2 < N) (k : Emb qs N E m f) {x : Nat} (h : (nbL qs (f x)).length ≤ degC E m x) {y : Nat} (hy : Adj qs (f x) y) : ∃ z, z < m ∧ adjC E x z = true ∧ f z = y := by
  have hm : ∀ u ∈ ((List.range m).filter (adjC E x)).map f, u ∈ nbL qs (f x) := fun u hu => by
    obtain ⟨z, hz, rfl⟩ := List.mem_map.1 hu
    exact (nbL_mem hq).2 (k.near (List.mem_filter.1 hz).2)
  by_cases hin : y ∈ ((List.range m).filter (adjC E x)).map f
  · obtain ⟨z, hz, rfl⟩ := List.mem_map.1 hin
    exact ⟨z, List.mem_range.1 (List.mem_filter.1 hz).1, (List.mem_filter.1 hz).2, rfl⟩
  · have := nodup_len (L := y :: ((List.range m).filter (adjC E x)).map f) (M := nbL qs (f x)) (List.nodup_cons.2 ⟨hin, imgs k⟩) fun u hu => by
      rcases List.mem_cons.1 hu with rfl | hu
      · exact (nbL_mem hq).2 hy
      · exact hm u hu
    unfold degC at h
    simp at this
    omega
theorem exact_of {ps : List (Int × Int)} {m : Nat} {E : List (Nat × Nat)} {f : Nat → Nat} (hb : IsBoard N ps) (k : Emb (nats ps) N E m f) (hm : 0 < m) (h : ∀ x, x < m → (nbL (nats ps) (f x)).length ≤ degC E m x) : N = m ∧ Exact (nats ps) N E f := by
  have hq := nats_mem hb.1
  have hn := edges_nodup hb.1
  have hsym : ∀ a b, AdjBut (nats ps) (-1) a b → AdjBut (nats ps) (-1) b a := fun a b h => ⟨adj_symm h.1, h.2.2, h.2.1⟩
  have hall : ∀ i, i < N → ∃ x, x < m ∧ f x = i := fun i hi => by
    have hr : Rch (AdjBut (nats ps) (-1)) (f 0) i := ((hb.2 (f 0) (k.lt 0 hm) (by omega)).sy hsym).tr (hb.2 i hi (by omega))
    refine hr.closed (S := fun i => ∃ x, x < m ∧ f x = i) ⟨0, hm, rfl⟩ fun a b e ⟨x, hx, hxa⟩ => ?_
    subst hxa
    obtain ⟨z, h1, _, h3⟩ := near_img hn hq k (h x hx) e.1
    exact ⟨z, h1, h3⟩
  have e1 : N ≤ m := by
    have := nodup_len (L := List.range N) (M := (List.range m).map f) List.nodup_range fun i hi => by
      obtain ⟨x, hx, e⟩ := hall i (List.mem_range.1 hi)
      exact List.mem_map.2 ⟨x, List.mem_range.2 hx, e⟩
    simpa using this
  have e2 : m ≤ N := by
    have hnd : ((List.range m).map f).Nodup := by
      have := imgs k (P := fun _ => true)
      rwa [List.filter_eq_self.2 (by simp)] at this
    have := nodup_len (M := List.range N) hnd fun i hi => by
      obtain ⟨x, hx, rfl⟩ := List.mem_map.1 hi
      exact List.mem_range.2 (k.lt x (List.mem_range.1 hx))
    simpa using this
  have e : N = m := Nat.le_antisymm e1 e2
  refine ⟨e, ⟨by rw [← e] at k; exact k, fun x y hx hy hxy => ?_⟩⟩
  obtain ⟨z, h1, h2, h3⟩ := near_img hn hq k (h x (by omega)) hxy
  rw [← k.inj z y h1 (by omega) h3]
  exact h2
theorem Exact.deg {E : List (Nat × Nat)} {f : Nat → Nat} (hn : qs.Nodup) (hq : ∀ q ∈ qs, q.1 < q.2 ∧ q.2 < N) (k : Exact qs N E f) (hon : ∀ i, i < N → ∃ x, x < N ∧ f x = i) {x : Nat} (hx : x < N) : (nbL qs (f x)).length = degC E N x := by
  have := nodup_same (L := nbL qs (f x)) (M := ((List.range N).filter (adjC E x)).map f) (nbL_nodup hn hq _) (imgs k.emb) fun y => by
    rw [nbL_mem hq]
    constructor
    · intro hy
      obtain ⟨z, hz, rfl⟩ := hon y (adj_ne hq hy).2.1
      exact List.mem_map.2 ⟨z, List.mem_filter.2 ⟨List.mem_range.2 hz, k.all x z hx hz hy⟩, rfl⟩
    · intro hy
      obtain ⟨z, hz, rfl⟩ := List.mem_map.1 hy
      exact k.emb.near (List.mem_filter.1 hz).2
  rw [this]
  simp [degC]
theorem Exact.onto {E : List (Nat × Nat)} {f : Nat → Nat} (k : Exact qs N E f) : Bij f N := ⟨k.emb.lt, k.emb.inj⟩

/-! ### Two ends and three ways -/
def thetaPair (P : Nat → Nat → Nat → Bool) : Bool := (List.range 7).all fun a => (List.range 7).all fun b => (List.range 7).all fun c => Nat.ble 2 (zeros a b c) || Nat.blt 6 (a + b + c) || P a b c
theorem thetaPair_get {P : Nat → Nat → Nat → Bool} (h : thetaPair P = true) {a b c : Nat} (hz : zeros a b c ≤ 1) (hs : a + b + c ≤ 6) : P a b c = true := by
  have h1 := List.all_eq_true.1 (List.all_eq_true.1 (List.all_eq_true.1 h a (List.mem_range.2 (by omega))) b (List.mem_range.2 (by omega))) c (List.mem_range.2 (by omega))
  rw [Bool.or_eq_true, Bool.or_eq_true, Nat.ble_eq, Nat.blt_eq] at h1
  rcases h1 with (h1 | h1) | h1
  · omega
  · omega
  · exact h1
theorem adjC_symm {E : List (Nat × Nat)} (a b : Nat) : adjC E a b = adjC E b a := by
  unfold adjC
  congr 1
  funext q
  rw [Bool.or_comm]
theorem adjC_app {E : List (Nat × Nat)} {x y a b : Nat} (h : adjC E a b = true) : adjC (E ++ [(x, y)]) a b = true := by
  unfold adjC at *
  rw [List.any_append, h]
  rfl
theorem is122_cases {a b c : Nat} (h : is122 a b c = true) : (a, b, c) ∈ [(1, 2, 2), (2, 1, 2), (2, 2, 1)] := by
  unfold is122 at h
  simp only [Bool.or_eq_true, Bool.and_eq_true] at h
  rcases h with (⟨⟨h1, h2⟩, h3⟩ | ⟨⟨h1, h2⟩, h3⟩) | ⟨⟨h1, h2⟩, h3⟩
  all_goals
    rw [Nat.eq_of_beq_eq_true h1, Nat.eq_of_beq_eq_true h2, Nat.eq_of_beq_eq_true h3]
    simp
theorem conn_get {a b c : Nat} (hs : a + b + c ≤ 6) : connB (thetaE a b c) (a + b + c + 2) = true := by
  have h1 := List.all_eq_true.1 (List.all_eq_true.1 (List.all_eq_true.1 connAll_ok a (List.mem_range.2 (by omega))) b (List.mem_range.2 (by omega))) c (List.mem_range.2 (by omega))
  rw [Bool.or_eq_true, Nat.blt_eq] at h1
  rcases h1 with h1 | h1
  · omega
  · exact h1
theorem chord_get {a b c x y : Nat} (h : is122 a b c = true) (hx : x < y) (hy : y < 7) (hn : adjC (thetaE a b c) x y = false) : wordsOK (thetaE a b c ++ [(x, y)]) 7 3 (findT chordTab ((a * 64 + b * 8 + c) * 64 + x * 8 + y)) = true := by
  have h1 := List.all_eq_true.1 (List.all_eq_true.1 (List.all_eq_true.1 chordAll_ok _ (is122_cases h)) x (List.mem_range.2 (by omega))) y (List.mem_range.2 (by omega))
  rw [Bool.or_eq_true, Bool.or_eq_true, Nat.ble_eq] at h1
  rcases h1 with (h1 | h1) | h1
  · omega
  · rw [hn] at h1; cases h1
  · exact h1
theorem tail_get {a b c x y : Nat} (h : is122 a b c = true) (hx : x < y) (hy : y < 7) : wordsOK (thetaE a b c ++ [(7, x), (7, y)]) 8 3 (findT tailTab ((a * 64 + b * 8 + c) * 64 + x * 8 + y)) = true := by
  have h1 := List.all_eq_true.1 (List.all_eq_true.1 (List.all_eq_true.1 tailAll_ok _ (is122_cases h)) x (List.mem_range.2 (by omega))) y (List.mem_range.2 (by omega))
  rw [Bool.or_eq_true, Nat.ble_eq] at h1
  rcases h1 with h1 | h1
  · omega
  · exact h1
theorem connCh_get {a b c x y : Nat} (h : is122 a b c = true) (hx : x < 7) (hy : y < 7) : connB (thetaE a b c ++ [(x, y)]) 7 = true ∧ connB (thetaE a b c ++ [(7, x), (7, y)]) 8 = true := by
  have h1 := List.all_eq_true.1 (List.all_eq_true.1 (List.all_eq_true.1 connCh_ok _ (is122_cases h)) x (List.mem_range.2 (by omega))) y (List.mem_range.2 (by omega))
  rw [Bool.and_eq_true] at h1
  exact h1

/-- **With a place of three neighbours: all turns, or the one board of seven places.** -/
theorem turns_or_seven {ps : List (Int × Int)} (hN : N ≤ 8) (hb : IsBoard N ps) (hw : WholeP N ps) {u : Nat} (h3 : 3 ≤ (nbL (nats ps) u).length) :
    AltS (nats ps) N (fun i => decide (i < N)) ∨ ∃ a b c f, is122 a b c = true ∧ N = 7 ∧ Exact (nats ps) N (thetaE a b c) f := by
  have hq := nats_mem hb.1
  obtain ⟨a, b, c, ea, eb, ec, nab, nac, nbc⟩ := three_near hb h3
  obtain ⟨w, l1, l2, l3, ht⟩ := theta_ex hb hw.2 ea eb ec nab nac nbc
  have hk := ht.emb
  have hsm := ht.small
  have hfew := ht.few
  obtain ⟨a, ha⟩ : ∃ a, l1.length = a := ⟨_, rfl⟩
  obtain ⟨b, hb'⟩ : ∃ b, l2.length = b := ⟨_, rfl⟩
  obtain ⟨c, hc⟩ : ∃ c, l3.length = c := ⟨_, rfl⟩
  obtain ⟨f, hf⟩ : ∃ f, thetaF u w l1 l2 l3 = f := ⟨_, rfl⟩
  rw [ha, hb', hc] at hk hsm hfew
  rw [hf] at hk
  clear hf ha hb' hc ht
  have hpos : 2 ≤ a + b + c := by
    have z : ∀ n, (bif Nat.beq n 0 then 1 else 0 : Nat) = if n = 0 then 1 else 0 := fun n => by cases n <;> rfl
    unfold zeros at hfew
    rw [z, z, z] at hfew
    split at hfew <;> split at hfew <;> split at hfew <;> omega
  cases h122 : is122 a b c with
  | false =>
    left
    have h1 := List.all_eq_true.1 (List.all_eq_true.1 (List.all_eq_true.1 thetaAll_ok a (List.mem_range.2 (by omega))) b (List.mem_range.2 (by omega))) c (List.mem_range.2 (by omega))
    rw [Bool.or_eq_true, Bool.or_eq_true, Bool.or_eq_true, Nat.ble_eq, Nat.blt_eq, h122] at h1
    rcases h1 with ((h1 | h1) | h1) | h1
    · omega
    · omega
    · cases h1
    · exact emb_all (by omega) hb hw.2 hk (by omega) h1 (conn_get (by omega))
  | true =>
    have h5 : a + b + c = 5 := by
      have := is122_cases h122
      simp at this
      omega
    rw [show a + b + c + 2 = 7 by omega] at hk
    by_cases hch : ∃ x y, x < y ∧ y < 7 ∧ adjC (thetaE a b c) x y = false ∧ Adj (nats ps) (f x) (f y)
    · left
      obtain ⟨x, y, hxy, hy, hno, hadj⟩ := hch
      refine emb_all (by omega) hb hw.2 (E := thetaE a b c ++ [(x, y)]) (f := f) ⟨hk.lt, hk.inj, fun q hm => ?_⟩ (by omega) (chord_get h122 hxy hy hno) (connCh_get h122 (by omega) hy).1
      rcases List.mem_append.1 hm with hm | hm
      · exact hk.adj q hm
      · simp at hm; subst hm; exact hadj
    · have hex : ∀ x y, x < 7 → y < 7 → Adj (nats ps) (f x) (f y) → adjC (thetaE a b c) x y = true := fun x y hx hy hadj => by
        cases hc : adjC (thetaE a b c) x y with
        | true => rfl
        | false =>
          exfalso
          rcases Nat.lt_trichotomy x y with h | h | h
          · exact hch ⟨x, y, h, hy, hc, hadj⟩
          · subst h; exact (adj_ne hq hadj).2.2 rfl
          · exact hch ⟨y, x, h, hx, by rw [adjC_symm]; exact hc, adj_symm hadj⟩
      by_cases h7 : N = 7
      · right
        subst h7
        exact ⟨a, b, c, f, h122, rfl, hk, hex⟩
      · left
        have h8 : N = 8 := by omega
        subst h8
        have hout : ∃ v, v < 8 ∧ ∀ x, x < 7 → f x ≠ v := by
          apply Classical.byContradiction
          intro hno
          have := nodup_len (L := List.range 8) (M := (List.range 7).map f) List.nodup_range fun i hi => by
            apply Classical.byContradiction
            intro hni
            exact hno ⟨i, List.mem_range.1 hi, fun x hx e => hni (List.mem_map.2 ⟨x, List.mem_range.2 hx, e⟩)⟩
          simp at this
        obtain ⟨v, hv, hvf⟩ := hout
        have hin : ∀ y, y < 8 → y ≠ v → ∃ x, x < 7 ∧ f x = y := fun y hy hne => by
          apply Classical.byContradiction
          intro hno
          have hnd : ((List.range 7).map f).Nodup := by
            have := imgs hk (P := fun _ => true)
            rwa [List.filter_eq_self.2 (by simp)] at this
          have := nodup_len (L := v :: y :: (List.range 7).map f) (M := List.range 8) (List.nodup_cons.2 ⟨fun hm => by
              rcases List.mem_cons.1 hm with e | hm
              · exact hne e.symm
              · obtain ⟨x, hx, e⟩ := List.mem_map.1 hm
                exact hvf x (List.mem_range.1 hx) e, List.nodup_cons.2 ⟨fun hm => by
              obtain ⟨x, hx, e⟩ := List.mem_map.1 hm
              exact hno ⟨x, List.mem_range.1 hx, e⟩, hnd⟩⟩) fun i hi => by
            rcases List.mem_cons.1 hi with rfl | hi
            · exact List.mem_range.2 hv
            · rcases List.mem_cons.1 hi with rfl | hi
              · exact List.mem_range.2 hy
              · obtain ⟨x, hx, rfl⟩ := List.mem_map.1 hi
                exact List.mem_range.2 (hk.lt x (List.mem_range.1 hx))
          simp at this
        obtain ⟨p, q, hp, hq', hpq⟩ := two_near hb hw hv
        have np := adj_ne hq hp
        have nq := adj_ne hq hq'
        obtain ⟨x, hx, rfl⟩ := hin p np.2.1 (Ne.symm np.2.2)
        obtain ⟨y, hy, rfl⟩ := hin q nq.2.1 (Ne.symm nq.2.2)
        have go : ∀ x y, x < y → y < 7 → Adj (nats ps) v (f x) → Adj (nats ps) v (f y) → AltS (nats ps) 8 (fun i => decide (i < 8)) := fun x y hxy hy e1 e2 => by
          have f7 : ∀ i, i < 7 → (if i = 7 then v else f i) = f i := fun i hi => if_neg (by omega)
          have hE : ∀ q ∈ thetaE a b c, q.1 < 7 ∧ q.2 < 7 := by
            have := conn_get (a := a) (b := b) (c := c) (by omega)
            unfold connB at this
            rw [Bool.and_eq_true, List.all_eq_true] at this
            intro q hm
            have := this.1 q hm
            rw [Bool.and_eq_true, Nat.blt_eq, Nat.blt_eq] at this
            omega
          refine emb_all (by omega) hb hw.2 (E := thetaE a b c ++ [(7, x), (7, y)]) (m := 8) (f := fun i => if i = 7 then v else f i) ⟨fun i hi => ?_, fun i j hi hj e => ?_, fun q hm => ?_⟩ (by omega) (tail_get h122 hxy hy) (connCh_get h122 (by omega) hy).2
          · by_cases h : i = 7
            · simp [h, hv]
            · simp [h]; exact hk.lt i (by omega)
          · by_cases h1 : i = 7
            · by_cases h2 : j = 7
              · omega
              · simp [h1, h2] at e; exact absurd e.symm (hvf j (by omega))
            · by_cases h2 : j = 7
              · simp [h1, h2] at e; exact absurd e (hvf i (by omega))
              · simp [h1, h2] at e; exact hk.inj i j (by omega) (by omega) e
          · rcases List.mem_append.1 hm with hm | hm
            · have := hE q hm
              simp only [f7 _ this.1, f7 _ this.2]
              exact hk.adj q hm
            · simp at hm
              rcases hm with rfl | rfl
              · simp only [f7 x (by omega)]; exact e1
              · simp only [f7 y hy]; exact e2
        rcases Nat.lt_trichotomy x y with h | h | h
        · exact go x y h hy hp hq'
        · subst h; exact absurd rfl hpq
        · exact go y x h hx hq' hp
end
end Go.Eng

namespace Go.Eng

section
variable {N : Nat} {ps : List (Int × Int)}
theorem near_adj {qs : List (Nat × Nat)} {a b : Nat} (h : nearB qs a (b : Int) = true) : Adj qs a b := by
  unfold nearB at h
  obtain ⟨q, hq, h1⟩ := List.any_eq_true.1 h
  unfold nearQ at h1
  simp only [Bool.and_eq_true, decide_eq_true_eq] at h1
  rcases Nat.le_total a b with hab | hab
  · have e1 : q.1 = a := by omega
    have e2 : q.2 = b := by omega
    exact .inl (by rw [← e1, ← e2]; exact hq)
  · have e1 : q.1 = b := by omega
    have e2 : q.2 = a := by omega
    exact .inr (by rw [← e1, ← e2]; exact hq)
theorem Mov.par {qs : List (Nat × Nat)} {z z' : Nat → Int} (hN : N ≤ 9) (hq : ∀ q ∈ qs, q.1 < q.2 ∧ q.2 < N) (h : Mov qs N z z') : ∃ a b, PosZ z N a ∧ PosZ z' N b ∧ Adj qs a b ∧ inv (natF z') N % 2 = (inv (natF z) N + 1) % 2 := by
  obtain ⟨hz, a, t, h1, h2, h3, rfl⟩ := h
  have e := near_adj h3
  exact ⟨a, t, h1, h1.move h2, e, inv_swap hN hz h1.lt h2 (adj_ne hq e).2.2⟩
/-- The hole goes along a way. -/
theorem hole_go {qs : List (Nat × Nat)} (hN : N ≤ 9) (hq : ∀ q ∈ qs, q.1 < q.2 ∧ q.2 < N) {i j : Nat} (h : Rch (Adj qs) i j) {q : Nat → Int} (hp : Pos N q) (hz : PosZ q N i) : ∃ q', Reached qs N q q' ∧ PosZ q' N j := by
  induction h with
  | start => exact ⟨q, .refl, hz⟩
  | step _ e ih =>
    rename_i a b _
    obtain ⟨q', h1, h2⟩ := ih
    have hn := nearB_adj (fun q hm => (hq q hm).1) e
    exact ⟨_, h1.move ⟨h1.pos hp, a, b, h2, (adj_ne hq e).2.1, hn, rfl⟩, h2.move (adj_ne hq e).2.1⟩
theorem hole_walk {qs : List (Nat × Nat)} (hN : N ≤ 9) (hq : ∀ q ∈ qs, q.1 < q.2 ∧ q.2 < N) : ∀ {k i : Nat}, Wk (Adj qs) k i → ∀ {q : Nat → Int}, Pos N q → PosZ q N 0 → ∃ q', Reached qs N q q' ∧ PosZ q' N i ∧ inv (natF q') N % 2 = (inv (natF q) N + k) % 2
  | 0, i, h, q, hp, hz => by
    have h : i = 0 := h
    subst h
    exact ⟨q, .refl, hz, rfl⟩
  | k + 1, i, ⟨a, h, e⟩, q, hp, hz => by
    obtain ⟨q', h1, h2, h3⟩ := hole_walk hN hq h hp hz
    have hn := nearB_adj (fun q hm => (hq q hm).1) e
    have ne := adj_ne hq e
    refine ⟨_, h1.move ⟨h1.pos hp, a, i, h2, ne.2.1, hn, rfl⟩, h2.move ne.2.1, ?_⟩
    have := inv_swap hN (h1.pos hp) h2.lt ne.2.1 ne.2.2
    omega
theorem adj_conn (hb : IsBoard N ps) {i j : Nat} (hi : i < N) (hj : j < N) : Rch (Adj (nats ps)) i j := by
  have a := (hb.2 i hi (by omega)).mono fun _ _ h => h.1
  have b := (hb.2 j hj (by omega)).mono fun _ _ h => h.1
  exact (a.sy fun _ _ h => adj_symm h).tr b
/-- All even changes, with the hole where it was. -/
theorem AltS.same {qs : List (Nat × Nat)} (hN : N ≤ 9) (k : AltS qs N (fun i => decide (i < N))) {p q : Nat → Int} {h : Nat} (hp : Pos N p) (hq : Pos N q) (zp : PosZ p N h) (zq : PosZ q N h) (e : inv (natF p) N % 2 = inv (natF q) N % 2) : Reached qs N p q :=
  ((k h (by simp [zp.lt])).mono fun x hx => ⟨by simp [hx.1], hx.2⟩).even hN zp.lt _ rfl hp hq zp.zero zq.zero e

/-- **One side only: all positions are reached.** -/
theorem one_side (hN : 2 ≤ N ∧ N ≤ 9) (hb : IsBoard N ps) (k : AltS (nats ps) N (fun i => decide (i < N))) (ho : Odd2 (Adj (nats ps))) {p q : Nat → Int} (hp : Pos N p) (hq : Pos N q) : Reached (nats ps) N p q := by
  have hm := nats_mem hb.1
  obtain ⟨i, m, l, hm2, hl2, wm, wl⟩ := ho
  obtain ⟨h, zp⟩ := hp.ex_hole (by omega) (by omega)
  obtain ⟨g, zq⟩ := hq.ex_hole (by omega) (by omega)
  obtain ⟨p0, r0, z0⟩ := hole_go hN.2 hm (adj_conn hb zp.lt (show 0 < N by omega)) hp zp
  obtain ⟨p1, r1, z1, e1⟩ := hole_walk hN.2 hm wm (r0.pos hp) z0
  obtain ⟨p2, r2, z2, e2⟩ := hole_walk hN.2 hm wl (r0.pos hp) z0
  obtain ⟨q1, s1, y1⟩ := hole_go hN.2 hm (adj_conn hb zq.lt z1.lt) hq zq
  by_cases e : inv (natF p1) N % 2 = inv (natF q1) N % 2
  · exact (r0.trans (r1.trans (k.same hN.2 (r1.pos (r0.pos hp)) (s1.pos hq) z1 y1 e))).trans s1.symm
  · exact (r0.trans (r2.trans (k.same hN.2 (r2.pos (r0.pos hp)) (s1.pos hq) z2 y1 (by omega)))).trans s1.symm

/-- The side of a place, as a number. -/
def sideN (l i : Nat) : Nat := if l.testBit i = true then 1 else 0
theorem side_flip (hb : IsBoard N ps) {l : Nat} (hs : SidesIs (Adj (nats ps)) l true) {a b : Nat} (e : Adj (nats ps) a b) : sideN l b = 1 - sideN l a := by
  have hm := nats_mem hb.1
  have hs' : ¬ Odd2 (Adj (nats ps)) ∧ ∀ i, l.testBit i = true ↔ ∃ k, k % 2 = 0 ∧ Wk (Adj (nats ps)) k i := by
    rcases hs with ⟨_, hno, hl⟩ | ⟨h, _⟩
    · exact ⟨hno, hl⟩
    · cases h
  obtain ⟨hno, hl⟩ := hs'
  unfold sideN
  by_cases ha : l.testBit a = true
  · rw [if_pos ha]
    obtain ⟨k, hk, w⟩ := (hl a).1 ha
    rw [if_neg]
    intro hb'
    obtain ⟨k', hk', w'⟩ := (hl b).1 hb'
    exact hno ⟨b, k', k + 1, hk', by omega, w', a, w, e⟩
  · rw [if_neg ha, if_pos]
    have hr := adj_conn hb (show 0 < N by have := (adj_ne hm e).1; omega) (adj_ne hm e).1
    have hw : ∃ k, Wk (Adj (nats ps)) k a := by
      clear ha e
      induction hr with
      | start => exact ⟨0, rfl⟩
      | step _ e ih =>
        obtain ⟨k, h⟩ := ih
        exact ⟨k + 1, _, h, e⟩
    obtain ⟨k, w⟩ := hw
    refine (hl b).2 ⟨k + 1, ?_, a, w, e⟩
    apply Classical.byContradiction
    intro h
    exact ha ((hl a).2 ⟨k, by omega, w⟩)
/-- **Two sides: just the positions with the right sign are reached.** -/
theorem two_sides (hN : 2 ≤ N ∧ N ≤ 9) (hb : IsBoard N ps) (k : AltS (nats ps) N (fun i => decide (i < N))) {l : Nat} (hs : SidesIs (Adj (nats ps)) l true) {p q : Nat → Int} {h g : Nat} (hp : Pos N p) (hq : Pos N q) (zp : PosZ p N h) (zq : PosZ q N g) :
    Reached (nats ps) N p q ↔ (inv (natF p) N + sideN l h) % 2 = (inv (natF q) N + sideN l g) % 2 := by
  have hm := nats_mem hb.1
  have key : ∀ {q : Nat → Int}, Reached (nats ps) N p q → ∀ {g}, PosZ q N g → (inv (natF p) N + sideN l h) % 2 = (inv (natF q) N + sideN l g) % 2 := by
    rintro q ⟨d, hd⟩
    have hw := hd.1
    clear hd
    induction hw with
    | zero => intro g hg; rw [hg.unique zp]
    | step _ e ih =>
      intro g hg
      obtain ⟨a, b, h1, h2, h3, h4⟩ := e.par hN.2 hm
      have i1 := ih h1
      have i2 := side_flip hb hs h3
      rw [hg.unique h2]
      have : sideN l a ≤ 1 := by unfold sideN; split <;> omega
      omega
  refine ⟨fun r => key r zq, fun e => ?_⟩
  obtain ⟨p1, r1, z1⟩ := hole_go hN.2 hm (adj_conn hb zp.lt zq.lt) hp zp
  have := key r1 z1
  exact r1.trans (k.same hN.2 (r1.pos hp) hq z1 zq (by omega))

/-- All positions that begin alike. -/
theorem pos_all : ∀ {m : Nat} {z : Nat → Int}, m ≤ N → Pos N z → CountOf (fun q => Pos N q ∧ ∀ j, j < N - m → q j = z j) (facM m)
  | 0, z, _, hz => CountOf.one fun q => ⟨fun ⟨h1, h2⟩ => h1.ext hz fun i hi => h2 i (by omega), by rintro rfl; exact ⟨hz, fun _ _ => rfl⟩⟩
  | m + 1, z, hm, hz => by
    obtain ⟨at_, hat⟩ : ∃ a, N - (m + 1) = a := ⟨_, rfl⟩
    have hNm : N - m = at_ + 1 := by omega
    have := CountOf.sum (f := fun _ => facM m) (n := m + 1) (Pk := fun i q => Pos N q ∧ ∀ j, j < N - m → q j = swapAt z at_ (at_ + i) j) (fun i hi => pos_all (by omega) (hz.swap (by omega) (by omega))) fun q i k hi hk h1 h2 => by
      have e1 := h1.2 at_ (by omega)
      have e2 := h2.2 at_ (by omega)
      rw [swapAt_at] at e1 e2
      have := hz.inj (at_ + i) (at_ + k) (by omega) (by omega) (e1.symm.trans e2)
      omega
    rw [sumTo_const (c := facM m) fun _ _ => rfl] at this
    refine this.congr fun q => ?_
    rw [hat]
    constructor
    · rintro ⟨i, hi, h1, h2⟩
      refine ⟨h1, fun j hj => ?_⟩
      rw [h2 j (by omega), swapAt_lo (by omega) (by omega)]
    · rintro ⟨hp, h2⟩
      obtain ⟨k, hk, e⟩ := hz.mem.2 (q at_) (hp.lo _) (hp.hi _ (by omega))
      have hka : at_ ≤ k := by
        apply Classical.byContradiction
        intro hlt
        have := hp.inj k at_ (by omega) (by omega) ((h2 k (by omega)).trans e)
        omega
      refine ⟨k - at_, by omega, hp, fun j hj => ?_⟩
      rw [show at_ + (k - at_) = k by omega]
      by_cases hj2 : j = at_
      · subst hj2; rw [swapAt_at]; exact e.symm
      · rw [swapAt_lo (by omega) hka]; exact h2 j (by omega)
theorem id_zero (hN : 0 < N) : idF N 0 = 0 := by unfold idF; rw [if_pos hN]; rfl
theorem pos_home (hN : 2 ≤ N ∧ N ≤ 9) : CountOf (fun q => Pos N q ∧ PosZ q N 0) (facM (N - 1)) :=
  (pos_all (m := N - 1) (by omega) (idF_pos N)).congr fun q => ⟨fun ⟨h1, h2⟩ => ⟨h1, posZ_of (by omega) h1 (by omega) (by rw [h2 0 (by omega), id_zero (by omega)])⟩, fun ⟨h1, h2⟩ => ⟨h1, fun j hj => by
    have : j = 0 := by omega
    subst this
    rw [h2.zero, id_zero (by omega)]⟩⟩
/-- How many are reached, by those with the hole at the first place. -/
theorem size_home (hN : 2 ≤ N ∧ N ≤ 9) (hb : IsBoard N ps) {a b c n : Nat} (h : Bfs (Mov (nats ps) N) (idF N) a b c) (k : CountOf (fun q => Reached (nats ps) N (idF N) q ∧ PosZ q N 0) n) : a / N = n := by
  obtain ⟨L, hL, rfl⟩ := h.all
  rw [← (count_all hN (idF_pos N) hb k).unique ⟨L, hL.1, hL.2, rfl⟩, Nat.mul_div_cancel_left _ (by omega)]
theorem size_one (hN : 2 ≤ N ∧ N ≤ 9) (hb : IsBoard N ps) (k : AltS (nats ps) N (fun i => decide (i < N))) (ho : Odd2 (Adj (nats ps))) {a b c : Nat} (h : Bfs (Mov (nats ps) N) (idF N) a b c) : a / N = facM (N - 1) :=
  size_home hN hb h ((pos_home hN).congr fun q => ⟨fun ⟨h1, h2⟩ => ⟨one_side hN hb k ho (idF_pos N) h1, h2⟩, fun ⟨h1, h2⟩ => ⟨h1.pos (idF_pos N), h2⟩⟩)
theorem size_two (hN : 3 ≤ N ∧ N ≤ 9) (hb : IsBoard N ps) (k : AltS (nats ps) N (fun i => decide (i < N))) {l : Nat} (hs : SidesIs (Adj (nats ps)) l true) {a b c : Nat} (h : Bfs (Mov (nats ps) N) (idF N) a b c) : 2 * (a / N) = facM (N - 1) := by
  classical
  have hN2 : 2 ≤ N ∧ N ≤ 9 := by omega
  have hi0 : PosZ (idF N) N 0 := posZ_of (by omega) (idF_pos N) (by omega) (id_zero (by omega))
  obtain ⟨L, hn, hL, hlen⟩ := pos_home hN2
  have c1 : CountOf (fun q => (Pos N q ∧ PosZ q N 0) ∧ inv (natF q) N % 2 = inv (natF (idF N)) N % 2) (L.filter fun q => decide (inv (natF q) N % 2 = inv (natF (idF N)) N % 2)).length :=
    ⟨_, hn.filter _, fun q => by rw [List.mem_filter, hL, decide_eq_true_eq], rfl⟩
  have sw : ∀ {q : Nat → Int}, Pos N q → PosZ q N 0 → Pos N (swapAt q 1 2) ∧ PosZ (swapAt q 1 2) N 0 ∧ inv (natF (swapAt q 1 2)) N % 2 = (inv (natF q) N + 1) % 2 := fun {q} h1 h2 => by
    have hp := h1.swap (show 1 < N by omega) (show 2 < N by omega)
    refine ⟨hp, posZ_of (by omega) hp (by omega) ?_, inv_swap (by omega) h1 (by omega) (by omega) (by omega)⟩
    unfold swapAt
    rw [if_neg (by omega), if_neg (by omega)]
    exact h2.zero
  have c2 : CountOf (fun q => (Pos N q ∧ PosZ q N 0) ∧ ¬ inv (natF q) N % 2 = inv (natF (idF N)) N % 2) (L.filter fun q => decide (inv (natF q) N % 2 = inv (natF (idF N)) N % 2)).length := by
    have s12 : ∀ q : Nat → Int, swapAt (swapAt q 1 2) 1 2 = q := fun q => by
      funext i
      rw [swapAt_trn, swapAt_trn, trn_trn]
    exact CountOf.map (fun q => swapAt q 1 2) (fun q => swapAt q 1 2) c1 (fun q ⟨⟨h1, h2⟩, h3⟩ => ⟨⟨⟨(sw h1 h2).1, (sw h1 h2).2.1⟩, by have := (sw h1 h2).2.2; omega⟩, s12 q⟩) fun q ⟨⟨h1, h2⟩, h3⟩ => ⟨⟨⟨(sw h1 h2).1, (sw h1 h2).2.1⟩, by have := (sw h1 h2).2.2; omega⟩, s12 q⟩
  have c3 := (c1.add c2 (fun q h1 h2 => h2.2 h1.2) (R := fun q => Pos N q ∧ PosZ q N 0) fun q => ⟨fun h => by
    by_cases e : inv (natF q) N % 2 = inv (natF (idF N)) N % 2
    · exact .inl ⟨h, e⟩
    · exact .inr ⟨h, e⟩, fun h => by rcases h with h | h; exact h.1; exact h.1⟩).unique (pos_home hN2)
  have := size_home hN2 hb h (c1.congr fun q => ⟨fun ⟨⟨h1, h2⟩, h3⟩ => ⟨(two_sides hN2 hb k hs (idF_pos N) h1 hi0 h2).2 (by omega), h2⟩, fun ⟨h1, h2⟩ => ⟨⟨h1.pos (idF_pos N), h2⟩, by have := (two_sides hN2 hb k hs (idF_pos N) (h1.pos (idF_pos N)) hi0 h2).1 h1; omega⟩⟩)
  rw [this]
  omega
end
end Go.Eng
