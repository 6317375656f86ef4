/-
  The quiet operations, the operations that make an object, and the barriers that call no Go function: each gives what the model's gives.
  Conditions: none; lemmas for the soundness proof.
-/
import Derived.Test.YtjcmalmcijpnnaaDoorEngG
import Derived.Laws.Tables
namespace Go.Eng
open Go.RowKit

section
variable {P : Program} {B : Nat} {w0 : World} {G : List Nat} {μ : Mu} {H : AH} {w : World}

theorem allOf_LR {ρ : Env} {ρc : Operand → Value} : ∀ {l : List Operand} {v : AV}, (∀ x ∈ l, ∀ v, ρ x = some v → VR μ v (ρc x)) → allOf ρ l = some v → LR μ v (l.map ρc)
  | [], v, _, h => by simp [allOf] at h; subst h; rfl
  | x :: r, v, hρ, h => by
    simp only [allOf] at h
    split at h
    · rename_i u t hu ht
      simp at h; subst h
      exact LR.cons (hρ x (by simp) u hu) (allOf_LR (fun y hy => hρ y (by simp [hy])) ht)
    · simp at h

theorem lookup_sound (h : Rep P B w0 G μ H w) {t kt et : TypeId} {m key z v : AV} {x y : Value} {okk : Bool} {es : AV} (hu : P.underlying t = some (.map kt et)) (hk : keyFits P kt key = true) (he : entriesOf H kt m = some es) (hz : zeroOf P et = some z)
    (hx : VR μ m x) (hy : VR μ key y)
    (hv : (match findE key es with
      | some v => bif okk then some (.tup (.cons v (.cons (.sc (.bool true)) .nil))) else some v
      | none => bif okk then some (.tup (.cons z (.cons (.sc (.bool false)) .nil))) else some z) = some v) : ∃ u, (Instr.lookup t x y okk).run P w = .ok u w ∧ VR μ v u := by
  obtain ⟨zi, zx, hz1, hz2, hz3, hz4⟩ := zero_of μ hz
  have hent : (x = .map none ∧ es = .nil) ∨ ∃ (b : Nat) (en : Array MapEntry) (cl : Nat), x = .map (some b) ∧ w.heap[b]? = some (.map en cl) ∧ ER P μ kt es en.toList := by
    unfold entriesOf at he
    split at he
    · simp at he; subst he
      exact .inl ⟨hx, rfl⟩
    · rename_i i
      obtain ⟨b, N, hm, rfl⟩ := hx
      split at he
      · rename_i kt' es' ho
        cases hb : Nat.beq kt kt' with
        | false => rw [hb] at he; simp at he
        | true =>
          rw [hb] at he
          simp at he; subst he
          have := (beq_iff _ _).1 hb
          subst this
          obtain ⟨_, en, cl, h2, h3⟩ := h.map _ _ _ _ _ ho hm
          exact .inr ⟨b, en, cl, rfl, h2, h3⟩
      · simp at he
    · simp at he
  rcases hent with ⟨rfl, rfl⟩ | ⟨b, en, cl, rfl, h2, h3⟩
  · obtain ⟨res, hf, hfound⟩ := findKey_run hk hy w (aes := .nil) (es := []) rfl
    have hck := checkKey_run hk hy true w
    rcases hfound with ⟨g1, rfl, _⟩ | ⟨u, j, e, g1, rfl, g3, g4, _⟩
    · rw [g1] at hv
      cases okk with
      | true => simp at hv; subst hv; exact ⟨.tuple #[zx, .bool false], by simp [Instr.lookup, run_underlying hu, hck, hf, hz4], _, rfl, LR.cons hz3 (LR.cons rfl rfl)⟩
      | false => simp at hv; subst hv; exact ⟨zx, by simp [Instr.lookup, run_underlying hu, hck, hf, hz4], hz3⟩
    · rw [g1] at hv
      cases okk with
      | true => simp at hv; subst hv; exact ⟨.tuple #[e.val, .bool true], by simp [Instr.lookup, run_underlying hu, hck, hf], _, rfl, LR.cons g4 (LR.cons rfl rfl)⟩
      | false => simp at hv; subst hv; exact ⟨e.val, by simp [Instr.lookup, run_underlying hu, hck, hf], g4⟩
  · have hg : (getObj b).run P w = .ok (.map en cl) w := by simp [getObj, Sem.run, h2]
    obtain ⟨res, hf, hfound⟩ := findKey_run hk hy w h3
    have hck := checkKey_run hk hy en.isEmpty w
    rcases hfound with ⟨g1, rfl, _⟩ | ⟨u, j, e, g1, rfl, g3, g4, _⟩
    · rw [g1] at hv
      cases okk with
      | true => simp at hv; subst hv; exact ⟨.tuple #[zx, .bool false], by simp [Instr.lookup, run_underlying hu, hg, hck, hf, hz4], _, rfl, LR.cons hz3 (LR.cons rfl rfl)⟩
      | false => simp at hv; subst hv; exact ⟨zx, by simp [Instr.lookup, run_underlying hu, hg, hck, hf, hz4], hz3⟩
    · rw [g1] at hv
      cases okk with
      | true => simp at hv; subst hv; exact ⟨.tuple #[e.val, .bool true], by simp [Instr.lookup, run_underlying hu, hg, hck, hf], _, rfl, LR.cons g4 (LR.cons rfl rfl)⟩
      | false => simp at hv; subst hv; exact ⟨e.val, by simp [Instr.lookup, run_underlying hu, hg, hck, hf], g4⟩

theorem len_sound (h : Rep P B w0 G μ H w) {t ty : TypeId} {v u : AV} {x : Value} (hl : lenV P H t v = some u) (hx : VR μ v x) : ∃ y, (Builtin.len_ #[t] ty #[x]).run P w = .ok y w ∧ VR μ u y := by
  unfold lenV at hl
  split at hl
  · rename_i e i o len cm ex esz hu
    obtain ⟨b, N, c, hm, rfl, _⟩ := hx
    simp at hl; subst hl
    exact ⟨goInt len, by simp [Builtin.len_, run_underlying hu], rfl⟩
  · rename_i e hu
    have hx' : x = .slice none 0 0 := hx
    subst hx'
    simp at hl; subst hl
    exact ⟨goInt 0, by simp [Builtin.len_, run_underlying hu], rfl⟩
  · rename_i s hu
    have hx' : x = .string s := hx
    subst hx'
    simp at hl; subst hl
    exact ⟨goInt s.size, by simp [Builtin.len_, run_underlying hu], rfl⟩
  · rename_i n e hu
    simp at hl; subst hl
    exact ⟨goInt n, by simp [Builtin.len_, run_underlying hu], rfl⟩
  · rename_i a e hu
    have hx' : x = .map none := hx
    subst hx'
    simp at hl; subst hl
    exact ⟨goInt 0, by simp [Builtin.len_, run_underlying hu], rfl⟩
  · rename_i a e i hu
    obtain ⟨b, N, hm, rfl⟩ := hx
    split at hl
    · rename_i kt es ho
      simp at hl; subst hl
      obtain ⟨_, en, cl, h2, h3⟩ := h.map _ _ _ _ _ ho hm
      have hlen : ∀ {aes : AV} {l : List MapEntry}, ER P μ kt aes l → l.length = aes.len := by
        intro aes
        induction aes with
        | nil => intro l q; have q' : l = [] := q; subst q'; rfl
        | cons p t _ ih =>
          intro l q
          cases p with
          | cons k v => obtain ⟨e, r, rfl, _, _, _, q'⟩ := q; simp [AV.len, ih q']
          | _ => exact q.elim
        | _ => intro l q; exact q.elim
      have := hlen h3
      exact ⟨goInt en.size, by simp [Builtin.len_, run_underlying hu, getObj, Sem.run, h2], by show goInt en.size = _; simp [goInt, Sc.val, ← this]⟩
    · simp at hl
  · simp at hl

theorem quiet_sound (h : Rep P B w0 G μ H w) {ρ : Env} {ρc : Operand → Value} {o : Oper} (hρ : ∀ x ∈ o.op.operands, ∀ v, ρ x = some v → VR μ v (ρc x)) {v : AV} (hq : quietOf P ρ o.op H = some v) :
    ∃ x, (execOp ρc o).run P w = .ok (.value x) w ∧ VR μ v x := by
  obtain ⟨dst, op, type, pos, after, guard⟩ := o
  simp only at hρ hq
  have val : ∀ {s : Sem Value} {y : Value}, s.run P w = .ok y w → (do pure (Next.value (← s)) : Sem Next).run P w = .ok (.value y) w := run_val
  cases op with
  | move x =>
    exact ⟨ρc x, rfl, hρ x (by simp [Op.operands]) v hq⟩
  | assign x => exact ⟨ρc x, rfl, hρ x (by simp [Op.operands]) v hq⟩
  | pick c a b =>
    simp only [quietOf] at hq
    split at hq
    · rename_i hc
      have h1 : ρc c = .bool true := hρ c (by simp [Op.operands]) _ hc
      exact ⟨ρc a, by simp [execOp, h1, asBool], hρ a (by simp [Op.operands]) v hq⟩
    · rename_i hc
      have h1 : ρc c = .bool false := hρ c (by simp [Op.operands]) _ hc
      exact ⟨ρc b, by simp [execOp, h1, asBool], hρ b (by simp [Op.operands]) v hq⟩
    · simp at hq
  | load t a =>
    simp only [quietOf] at hq
    split at hq
    · rename_i i off n ha hg hs
      simp only [Option.map_eq_some_iff] at hq
      obtain ⟨cs, hc, rfl⟩ := hq
      obtain ⟨y, h1, h2⟩ := load_agg h hg hs (hρ a (by simp [Op.operands]) _ ha) hc
      exact ⟨y, val h1, h2⟩
    · rename_i i off n ha hg hs
      split at hq
      · rename_i u r hc
        simp at hq; subst hq
        obtain ⟨y, h1, h2⟩ := load_one h hg (hρ a (by simp [Op.operands]) _ ha) hc
        exact ⟨y, val h1, h2⟩
      · simp at hq
    · simp at hq
  | nilCheck x =>
    simp only [quietOf] at hq
    split at hq
    · rename_i i off hx
      simp at hq; subst hq
      have h1 := hρ x (by simp [Op.operands]) _ hx
      obtain ⟨b, N, hm, hc⟩ := h1
      exact ⟨ρc x, by simp [execOp, hc], b, N, hm, hc⟩
    · rename_i f a b hx
      simp at hq; subst hq
      have h1 := hρ x (by simp [Op.operands]) _ hx
      obtain ⟨xs, ys, hc, hm⟩ := h1
      exact ⟨ρc x, by simp [execOp, hc], xs, ys, hc, hm⟩
    · simp at hq
  | binOp op t x y yt =>
    simp only [quietOf] at hq
    split at hq
    · rename_i a b ha hb
      obtain ⟨z, h1, h2⟩ := bin_sound (ox := x) (oy := y) hq (hρ x (by simp [Op.operands]) _ ha) (hρ y (by simp [Op.operands]) _ hb) w
      exact ⟨z, val h1, h2⟩
    · simp at hq
  | unOp op t x =>
    simp only [quietOf] at hq
    split at hq
    · rename_i s hx
      have h1 : ρc x = s.val := hρ x (by simp [Op.operands]) _ hx
      obtain ⟨z, h2, h3⟩ := scalar_run (w := w) μ hq
      exact ⟨z, val (by rw [h1]; exact h2), h3⟩
    · simp at hq
  | convert s d x =>
    simp only [quietOf] at hq
    split at hq
    · rename_i j n hx
      have h1 : ρc x = .int j n := hρ x (by simp [Op.operands]) _ hx
      obtain ⟨z, h2, h3⟩ := scalar_run (w := w) μ hq
      exact ⟨z, val (by rw [h1]; exact h2), h3⟩
    · simp at hq
  | makeInterface t x =>
    simp only [quietOf] at hq
    split at hq
    · simp at hq
    · rename_i u d hni hx hu
      simp at hq; subst hq
      refine ⟨.iface t (ρc x), val ?_, _, rfl, hρ x (by simp [Op.operands]) _ hx⟩
      simp only [Instr.makeInterface, Sem.run_bind, run_underlying hu, Result.andThen_ok]
      cases d <;> first | rfl | exact (hni _ rfl).elim
    · simp at hq
  | makeFunc fn fs cs =>
    cases fn with
    | func f =>
      simp only [quietOf] at hq
      split at hq
      · rename_i a b ha hb
        simp at hq; subst hq
        refine ⟨.func (.func f) (fs.map ρc) (cs.map ρc), by simp [execOp, Instr.makeFunc], _, _, rfl, ?_, ?_⟩
        · have := allOf_LR (fun x hx => hρ x (by simp [Op.operands]; exact .inl (by simpa using hx))) ha
          simpa [LR] using this
        · have := allOf_LR (fun x hx => hρ x (by simp [Op.operands]; exact .inr (by simpa using hx))) hb
          simpa [LR] using this
      · simp at hq
    | _ => simp [quietOf] at hq
  | build t parts =>
    have hp : ∀ p ∈ parts.toList, ∀ v, ρ p.2 = some v → VR μ v (ρc p.2) := by
      intro p hp
      exact hρ p.2 (by simp only [Op.operands, List.mem_toArray, List.mem_map]; exact ⟨p, hp, rfl⟩)
    have hmap : (parts.map fun (i, x) => (i, ρc x)).toList = parts.toList.map fun (p : Nat × Operand) => (p.1, ρc p.2) := by simp
    simp only [quietOf] at hq
    split at hq
    · rename_i z fields hz hu
      split at hq
      · rename_i places hpl
        simp only [Option.map_eq_some_iff] at hq
        obtain ⟨out, hfill, rfl⟩ := hq
        obtain ⟨zi, zx, hz1, hz2, hz3, hz4⟩ := zero_of μ hz
        obtain ⟨zs, rfl, hzs⟩ := hz3
        obtain ⟨cells', h1, h2⟩ := fill_sound parts.toList z out zs hp hzs hfill
        refine ⟨.agg cells', val (run_build w t _ cells' ?_), _, rfl, h2⟩
        simp only [Program.built, hz1, hu, hz2, hpl, Value.cells, hmap]
        exact h1
      · simp at hq
    · rename_i z n e hz hu
      split at hq
      · rename_i sz hs
        simp only [Option.map_eq_some_iff] at hq
        obtain ⟨out, hfill, rfl⟩ := hq
        obtain ⟨zi, zx, hz1, hz2, hz3, hz4⟩ := zero_of μ hz
        obtain ⟨zs, rfl, hzs⟩ := hz3
        obtain ⟨cells', h1, h2⟩ := fill_sound parts.toList z out zs hp hzs hfill
        refine ⟨.agg cells', val ?_, _, rfl, h2⟩
        simp only [Instr.build, Sem.run_bind, hz4, run_underlying hu, Result.andThen_ok, run_size hs, Value.cells, hmap, h1, Sem.run_pure]
      · simp at hq
    · simp at hq
  | slice t x lo hi mx =>
    simp only [quietOf] at hq
    split at hq
    · rename_i u hx
      have mem : ∀ {oo : Option Operand} (hsub : ∀ y, oo = some y → y ∈ (Op.slice t x lo hi mx).operands), (∀ v, oo.map ρ = some (some v) → ∃ z, oo.map ρc = some z ∧ VR μ v z) ∧ (oo.map ρ = none → oo.map ρc = none) := by
        intro oo hsub
        cases oo with
        | none => exact ⟨by simp, by simp⟩
        | some y => exact ⟨fun v hv => ⟨ρc y, rfl, hρ y (hsub y rfl) v (by simpa using hv)⟩, by simp⟩
      have m1 := mem (oo := lo) (by intro y hy; simp [Op.operands, hy])
      have m2 := mem (oo := hi) (by intro y hy; simp [Op.operands, hy])
      have m3 := mem (oo := mx) (by intro y hy; simp [Op.operands, hy])
      obtain ⟨y, h1, h2⟩ := slice_sound h hq (hρ x (by simp [Op.operands]) _ hx) m1.1 m1.2 m2.1 m2.2 m3.1 m3.2
      exact ⟨y, val h1, h2⟩
    · simp at hq
  | fieldAddr s x f =>
    simp only [quietOf] at hq
    split at hq
    · rename_i i off fields hx hu
      split at hq
      · rename_i fd hf
        split at hq
        · rename_i n hs
          cases hb : Nat.beq n 0 with
          | true => rw [hb] at hq; simp at hq
          | false =>
            rw [hb] at hq
            have hb := (beq_false _ _).1 hb
            simp at hq; subst hq
            obtain ⟨b, N, hm, hc⟩ := hρ x (by simp [Op.operands]) _ hx
            exact ⟨.pointer (some ⟨b, off + fd.offset, none⟩), val (by simp [hc, Instr.fieldAt, run_underlying hu, hf, Instr.sureAddr, fieldPlace, run_size hs, hb, add_off]), b, N, hm, rfl⟩
        · simp at hq
      · simp at hq
    · simp at hq
  | field s x f =>
    simp only [quietOf] at hq
    split at hq
    · rename_i cs fields hx hu
      split at hq
      · rename_i fd hf
        obtain ⟨xs, hc, hL⟩ := hρ x (by simp [Op.operands]) _ hx
        obtain ⟨y, h1, h2⟩ := part_run hq hL w
        exact ⟨y, val (by simp [hc, Instr.field, run_underlying hu, hf, asAgg, h1]), h2⟩
      · simp at hq
    · simp at hq
  | indexAddr t x ix =>
    simp only [quietOf] at hq
    split at hq
    · rename_i i off ixv n e hx hix hu
      split at hq
      · rename_i j sz hj hs
        cases hb : Nat.blt j n with
        | false => rw [hb] at hq; simp at hq
        | true =>
          rw [hb] at hq
          have hb := (blt_iff _ _).1 hb
          simp at hq; subst hq
          obtain ⟨b, N, hm, hc⟩ := hρ x (by simp [Op.operands]) _ hx
          obtain ⟨k, hk⟩ := nat_val hj (hρ ix (by simp [Op.operands]) _ hix)
          exact ⟨.pointer (some ⟨b, off + j * sz, none⟩), val (by simp [hc, hk, Instr.indexAt, asIntOf, run_underlying hu, Instr.sureAddr, hb, run_size hs, add_off]), b, N, hm, rfl⟩
      · simp at hq
    · rename_i i off len cm ex esz ixv e hx hix hu
      split at hq
      · rename_i j sz hj hs
        cases hb : (Nat.blt j len && Nat.beq sz esz) with
        | false => rw [hb] at hq; simp at hq
        | true =>
          rw [hb] at hq
          simp only [Bool.and_eq_true] at hb
          have hb1 := (blt_iff _ _).1 hb.1
          simp at hq; subst hq
          obtain ⟨b, N, c, hm, hc, _⟩ := hρ x (by simp [Op.operands]) _ hx
          obtain ⟨k, hk⟩ := nat_val hj (hρ ix (by simp [Op.operands]) _ hix)
          exact ⟨.pointer (some ⟨b, off + j * sz, none⟩), val (by simp [hc, hk, Instr.indexAt, asIntOf, run_underlying hu, hb1, run_size hs, add_off]), b, N, hm, rfl⟩
      · simp at hq
    · simp at hq
  | index t x ix =>
    simp only [quietOf] at hq
    split at hq
    · rename_i cs ixv n e hx hix hu
      split at hq
      · rename_i j sz hj hs
        cases hb : Nat.blt j n with
        | false => rw [hb] at hq; simp at hq
        | true =>
          rw [hb] at hq
          have hb := (blt_iff _ _).1 hb
          simp only [cond_true] at hq
          obtain ⟨xs, hc, hL⟩ := hρ x (by simp [Op.operands]) _ hx
          obtain ⟨k, hk⟩ := nat_val hj (hρ ix (by simp [Op.operands]) _ hix)
          obtain ⟨y, h1, h2⟩ := part_run hq hL w
          exact ⟨y, val (by simp [hc, hk, Instr.index, asIntOf, run_underlying hu, hb, run_size hs, h1]), h2⟩
      · simp at hq
    · simp at hq
  | lookup t m x okk =>
    simp only [quietOf] at hq
    split at hq
    · rename_i mv key kt et hm hx hu
      cases hb : keyFits P kt key with
      | false => rw [hb] at hq; simp at hq
      | true =>
        rw [hb] at hq
        simp only [cond_true] at hq
        split at hq
        · rename_i es z he hz
          obtain ⟨y, h1, h2⟩ := lookup_sound h hu hb he hz (hρ m (by simp [Op.operands]) _ hm) (hρ x (by simp [Op.operands]) _ hx) hq
          exact ⟨y, val h1, h2⟩
        · simp at hq
    · simp at hq
  | extract x ix =>
    simp only [quietOf] at hq
    split at hq
    · rename_i cs hx
      obtain ⟨xs, hc, hL⟩ := hρ x (by simp [Op.operands]) _ hx
      obtain ⟨y, h1, h2⟩ := LR.nth (show LR μ cs xs.toList from hL) hq
      have h1' : xs[ix]? = some y := by simpa using h1
      exact ⟨y, val (by simp [hc, Instr.extract, h1']), h2⟩
    · simp at hq
  | call c =>
    obtain ⟨callee, args, argTypes⟩ := c
    cases callee with
    | builtin b =>
      simp only [quietOf] at hq
      split at hq
      · rename_i x hargs
        split at hq
        · rename_i t u htypes hx
          have ha : args = #[x] := by apply Array.toList_inj.1; simpa using hargs
          have ht : argTypes = #[t] := by apply Array.toList_inj.1; simpa using htypes
          subst ha ht
          obtain ⟨y, h1, h2⟩ := len_sound h (ty := type) hq (hρ x (by simp [Op.operands, Call.operands]) _ hx)
          exact ⟨y, by simp [execOp, resolve, invoke, builtin, h1], h2⟩
        · simp at hq
      · rename_i x y hargs
        split at hq
        · rename_i j a l b hx hy
          have ha : args = #[x, y] := by apply Array.toList_inj.1; simpa using hargs
          subst ha
          have e1 : ρc x = .int j a := hρ x (by simp [Op.operands, Call.operands]) _ hx
          have e2 : ρc y = .int l b := hρ y (by simp [Op.operands, Call.operands]) _ hy
          obtain ⟨z, h2, h3⟩ := scalar_run (w := w) μ hq
          exact ⟨z, by simp [execOp, resolve, invoke, builtin, Builtin.min_, e1, e2, h2], h3⟩
        · simp at hq
      · rename_i x y hargs
        split at hq
        · rename_i j a l b hx hy
          have ha : args = #[x, y] := by apply Array.toList_inj.1; simpa using hargs
          subst ha
          have e1 : ρc x = .int j a := hρ x (by simp [Op.operands, Call.operands]) _ hx
          have e2 : ρc y = .int l b := hρ y (by simp [Op.operands, Call.operands]) _ hy
          obtain ⟨z, h2, h3⟩ := scalar_run (w := w) μ hq
          exact ⟨z, by simp [execOp, resolve, invoke, builtin, Builtin.max_, e1, e2, h2], h3⟩
        · simp at hq
      · simp at hq
    | _ => simp [quietOf] at hq
  | _ => simp [quietOf] at hq

end
end Go.Eng
