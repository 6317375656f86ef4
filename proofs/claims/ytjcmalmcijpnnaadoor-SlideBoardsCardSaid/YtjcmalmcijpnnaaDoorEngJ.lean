/-
  The barriers that call no Go function: stores, stores into maps, append: each does to the world what the abstract machine does to its heap.
  Conditions: none; lemmas for the soundness proof.
-/
import Derived.Test.YtjcmalmcijpnnaaDoorEngI
import Derived.Laws.AppendOwn
namespace Go.Eng
open Go.RowKit

section
variable {P : Program} {B : Nat} {w0 : World} {G : List Nat} {μ : Mu} {H : AH} {w : World}

theorem store_sound {β : Type} (h : Rep P B w0 G μ H w) {t : TypeId} {i off n : Nat} {v : AV} {x y : Value} {k : AH → Option β} {r : β} (hs : sizeT P t = some n) (hn : v.cells.len = n)
    (hx : VR μ (.ptr i off) x) (hy : VR μ v y) (hk : H.storeCells i off v.cells k = some r) :
    ∃ H' w', k H' = some r ∧ (Instr.storeAt t x y).run P w = .ok () w' ∧ Rep P B w0 G μ H' w' ∧ H'.next = H.next := by
  obtain ⟨fam, ver, e, cs, lw, cs', ho, hf, hl, hone, hp, hk'⟩ := storeCells_some hk
  obtain ⟨b, N, hm, rfl⟩ := hx
  have hc := hy.cells
  obtain ⟨arr, te, hw, hfit, hrep⟩ := h.store ho hf hl hm hc hp
  have hst := run_storeCells_at P b off te y.cells.toList 0 arr w hw (by simpa using hfit) (hc.allOne hone)
  simp only [Nat.add_zero] at hst
  have hsz : y.cells.size = n := by rw [← Array.length_toList, hc.len, hn]
  refine ⟨_, _, hk', ?_, hrep, rfl⟩
  simp only [Instr.storeAt, Instr.sureAddr, Sem.run_bind, Sem.run_pure, Result.andThen_ok, storeVar, run_size hs, ne_eq, hsz, not_true_eq_false, if_false]
  exact hst

theorem mapUpdate_sound {β : Type} (h : Rep P B w0 G μ H w) {t kt et : TypeId} {i : Nat} {key v es : AV} {x y z : Value} {k : AH → Option β} {r : β} (hu : P.underlying t = some (.map kt et)) (hkf : keyFits P kt key = true)
    (ho : H.objs.get i = some (.map kt es)) (hx : VR μ (.map i) x) (hy : VR μ key y) (hz : VR μ v z) (hk : k (H.set i (.map kt (updE key v es))) = some r) :
    ∃ H' w', k H' = some r ∧ (Instr.mapUpdate t x y z).run P w = .ok () w' ∧ Rep P B w0 G μ H' w' ∧ H'.next = H.next := by
  obtain ⟨b, N, hm, rfl⟩ := hx
  obtain ⟨hB, en, cl, hw, hER⟩ := h.map _ _ _ _ _ ho hm
  obtain ⟨res, hf, hfound⟩ := findKey_run hkf hy w hER
  have hck := checkKey_run hkf hy false w
  have hset : ∀ o, (setObj b o).run P w = .ok () (withObjAt w b o) := fun o => by simp [setObj, Sem.run, hw, withObjAt]
  have hget : (getObj b).run P w = .ok (.map en cl) w := by simp [getObj, Sem.run, hw]
  have fits : ∀ (en' : Array MapEntry) cl', ER P μ kt (updE key v es) en'.toList → Fits P μ (.map kt (updE key v es)) (.map en' cl') N := by
    intro en' cl' hE
    exact ⟨(by intro _ _ _ _ he; cases he), (by intro kt' es' he; cases he; exact ⟨en', cl', rfl, hE⟩), (by intro _ _ _ _ _ _ _ _ _ he; cases he), (by intro _ he; cases he)⟩
  rcases hfound with ⟨g1, rfl, g2⟩ | ⟨u, j, e, g1, rfl, g3, g4, g5, g6⟩
  · refine ⟨_, withObjAt w b (.map (en.push { key := y, val := z, born := cl }) (cl + 1)), hk, ?_, h.setObj ho hm hB (by simp) (by simp) (fits _ _ (by simpa using g2 v z cl hz)), rfl⟩
    simp only [Instr.mapUpdate, Sem.run_bind, run_underlying hu, Result.andThen_ok, hget, hck, hf, hset]
  · have hkey : ((en[0 + j]?).map (·.key)).getD y = y := by
      have : en[j]? = some e := by simpa using g3
      simp [this, g5]
    have hstay : (Instr.keyThatStays y y).run P w = .ok y w := by simp [Instr.keyThatStays, sameBits_self hkf hy]
    refine ⟨_, withObjAt w b (.map (en.modify (0 + j) fun e => { e with key := y, val := z }) cl), hk, ?_, h.setObj ho hm hB (by simp) (by simp) (fits _ _ ?_), rfl⟩
    · simp only [Instr.mapUpdate, Sem.run_bind, run_underlying hu, Result.andThen_ok, hget, hck, hf, hset, hkey, hstay]
    · have := g6 v z hz
      rw [Nat.zero_add, Array.toList_modify]
      exact this

/-! ### append -/
theorem src_sound (h : Rep P B w0 G μ H w) {x : AV} {y : Value} {esz n : Nat} {xs : AV} (hx : VR μ x y)
    (hs : srcOf H esz x = some (n, xs)) :
    ∃ a c news, y = .slice a n c ∧ news.length = n * esz ∧ LR μ xs news ∧ (∀ w', w'.heap = w.heap → (Builtin.firstCells esz n y).run P w' = .ok news.toArray w') := by
  unfold srcOf at hs
  cases x with
  | sc q =>
    cases q with
    | nilSlice =>
      simp at hs
      obtain ⟨rfl, rfl⟩ := hs
      have hy : y = .slice none 0 0 := hx
      exact ⟨none, 0, [], hy, by simp, rfl, fun w' _ => by subst hy; simp [Builtin.firstCells]⟩
    | _ => simp at hs
  | slc i o len cm ex es =>
    simp only at hs
    split at hs
    · rename_i cs hc
      simp at hs
      obtain ⟨rfl, rfl⟩ := hs
      obtain ⟨b, N, c, hm, rfl, _⟩ := hx
      obtain ⟨news, h1, h2, h3⟩ := h.load hc hm
      refine ⟨_, c, news, rfl, h1, h2, fun w' hw' => ?_⟩
      have := run_firstCells_some (P := P) w' esz len ⟨b, o, none⟩ len c news h1 (fun j v q => by
        have := h3 j v q
        simpa [World.cell?, hw'] using this)
      exact this
    · simp at hs
  | _ => simp at hs

theorem Rep.loadAll (h : Rep P B w0 G μ H w) {i fam ver lw b N tip : Nat} {e : TypeId} {cs : AV} (ho : H.objs.get i = some (.cells fam ver e cs)) (hf : H.fams.get fam = some (tip, lw)) (hl : lw ≤ ver) (hm : μ i = some (b, N)) :
    ∃ xs : List Value, xs.length = cs.len ∧ LR μ cs xs ∧ ∀ j v, xs[j]? = some v → w.cell? ⟨b, j, none⟩ = some v := by
  obtain ⟨arr, te, fz, hw, hN, hcN, hLR, _⟩ := h.cells _ _ _ _ _ _ _ _ _ ho hf hl hm
  refine ⟨_, hLR.len, hLR, ?_⟩
  intro j v hj
  rw [List.getElem?_take] at hj
  split at hj
  · rw [cell?_of hw]; simpa using hj
  · simp at hj

theorem append_room_run {t u ty e e' : TypeId} {inf : TypeInfo} (hut : P.underlying t = some (.slice e)) (huu : P.underlying u = some (.slice e')) (hi : P.info? e = some inf) {b o sLen sCap n c : Nat} {a : Option Addr} {news : List Value} {arr : Array Value} {te : TypeId}
    (hfirst : ∀ w', w'.heap = w.heap → (Builtin.firstCells inf.size n (.slice a n c)).run P w' = .ok news.toArray w') (hw : w.heap[b]? = some (.cells arr te (0, 0))) (hroom : sLen + n ≤ sCap)
    (hfit : o + sLen * inf.size + news.length ≤ arr.size) (hone : ∀ v ∈ news, v.oneCell' = true) :
    (Builtin.append_ #[t, u] ty #[.slice (some ⟨b, o, none⟩) sLen sCap, .slice a n c]).run P w =
      .ok (.slice (some ⟨b, o, none⟩) (sLen + n) sCap) (w.setRow b (arr.toList.take (o + sLen * inf.size) ++ news ++ arr.toList.drop (o + sLen * inf.size + news.length)).toArray) := by
  have hf := hfirst w rfl
  have hst := run_storeCells_at P b (o + sLen * inf.size) te news 0 arr w hw (by simpa using hfit) hone
  simp only [Nat.add_zero] at hst
  simp [Builtin.append_, run_underlying hut, run_underlying huu, sizeOf, typeInfo, hi, Builtin.lenOf, hroom, hf, add_off, hst]

theorem append_grow_run {t u ty e e' : TypeId} {inf : TypeInfo} {z : Value} (hut : P.underlying t = some (.slice e)) (huu : P.underlying u = some (.slice e')) (hi : P.info? e = some inf) (hz : inf.zero = some z) {sLen sCap n c : Nat} {a base : Option Addr} {olds news : List Value}
    (hfirst : ∀ w', w'.heap = w.heap → (Builtin.firstCells inf.size n (.slice a n c)).run P w' = .ok news.toArray w') (hold : ∀ w', w'.heap = w.heap → (Builtin.firstCells inf.size sLen (.slice base sLen sCap)).run P w' = .ok olds.toArray w')
    (hg : sCap < sLen + n) (hfit : 4 * (sLen + n + 1) * (inf.bytes + 1) ≤ 1000000000) :
    ∃ C, sLen + n ≤ C ∧ (Builtin.append_ #[t, u] ty #[.slice base sLen sCap, .slice a n c]).run P w =
      .ok (.slice (some ⟨w.heap.size, 0, none⟩) (sLen + n) C) (({ w with drawn := w.drawn + 1 } : World).alloc (.cells (olds.toArray ++ news.toArray ++ Builtin.zeroCells z.cells (C - (sLen + n))) e)) := by
  refine ⟨grownCap w (sLen + n) sCap e, Nat.le_add_right _ _, ?_⟩
  have hn : ¬ (sLen + n ≤ sCap) := by omega
  have hbig : 4 * (sLen + n + 1) ≤ 4 * (sLen + n + 1) * (inf.bytes + 1) := Nat.le_mul_of_pos_right _ (by omega)
  have h63' : ¬ (9223372036854775807 < ((sLen : Int) + (n : Int))) := by omega
  have h1 : Builtin.nextslicecap (sLen + n) sCap ≤ 2 * (sLen + n) := nextslicecap_le hg
  have h2 : Builtin.nextslicecap (sLen + n) sCap * inf.bytes ≤ 4 * (sLen + n + 1) * (inf.bytes + 1) := Nat.mul_le_mul (by omega) (by omega)
  have h48' : ¬ (281474976710656 < Builtin.nextslicecap (sLen + n) sCap * inf.bytes) := by omega
  have hf := hfirst w.drew rfl
  have hfo := hold w.drew rfl
  simp [Builtin.append_, run_underlying hut, run_underlying huu, sizeOf, typeInfo, zeroValue, hi, hz, Builtin.lenOf, hn, h63', h48', Question.forced, hf, hfo, newRow, grownCap]
  congr 2
  apply Array.ext'
  simp [List.append_assoc]

theorem append_sound {β : Type} (h : Rep P B w0 G μ H w) {ts : Array TypeId} {ty : TypeId} {s x : AV} {sv xv : Value} {k : AV → AH → Option β} {r : β} (hs : VR μ s sv) (hx : VR μ x xv) (hk : opAppend P ts s x H k = some r) :
    ∃ v H' w' μ' y, k v H' = some r ∧ (Builtin.append_ ts ty #[sv, xv]).run P w = .ok y w' ∧ Ext H μ H' μ' ∧ VR μ' v y ∧ Rep P B w0 G μ' H' w' := by
  unfold opAppend at hk
  split at hk
  · rename_i t u hts
    have ht : ts = #[t, u] := by apply Array.toList_inj.1; simpa using hts
    subst ht
    split at hk
    · rename_i e e' hut huu
      split at hk
      · rename_i inf za hi hza
        obtain ⟨zi, z, hz1, hz2, hz3, _⟩ := zero_of μ hza
        rw [hi] at hz1; cases hz1
        cases hcond : (Nat.beq inf.size 0 || !Nat.beq za.cells.len inf.size) with
        | true => simp only [hcond, cond_true] at hk; cases hk
        | false =>
          simp only [hcond, cond_false] at hk
          simp only [Bool.or_eq_false_iff, Bool.not_eq_false'] at hcond
          have hesz := (beq_false _ _).1 hcond.1
          have hzl := (beq_iff _ _).1 hcond.2
          have hzs : z.cells.size = inf.size := by rw [← Array.length_toList, hz3.cells.len, hzl]
          have hdrawn : Rep P B w0 G μ H { w with drawn := w.drawn + 1 } := h.drewN _
          -- a new block of its own
          have fresh : ∀ (cs : AV) (olds news : List Value) (C need : Nat) (k' : Nat → AH → Option β), LR μ cs (olds ++ news) → (olds ++ news).length = need * inf.size → need ≤ C → H.newCells e cs k' = some r →
              ∃ H', k' H.next H' = some r ∧ VR (μ.add H.next w.heap.size ((olds.toArray ++ news.toArray ++ Builtin.zeroCells z.cells (C - need)).size)) (.slc H.next 0 need need false inf.size) (.slice (some ⟨w.heap.size, 0, none⟩) need C) ∧
                Ext H μ H' (μ.add H.next w.heap.size ((olds.toArray ++ news.toArray ++ Builtin.zeroCells z.cells (C - need)).size)) ∧
                Rep P B w0 G (μ.add H.next w.heap.size ((olds.toArray ++ news.toArray ++ Builtin.zeroCells z.cells (C - need)).size)) H' (({ w with drawn := w.drawn + 1 } : World).alloc (.cells (olds.toArray ++ news.toArray ++ Builtin.zeroCells z.cells (C - need)) e)) := by
            intro cs olds news C need k' hL hlen hC hkk
            rw [newCells_eq] at hkk
            have hun := h.notYet (i := H.next) (Nat.le_refl _)
            have hl := hL.len
            have hsz : (olds.toArray ++ news.toArray ++ Builtin.zeroCells z.cells (C - need)).size = C * inf.size := by
              simp only [Array.size_append, List.size_toArray, Builtin.zeroCells, Array.size_map, Array.size_range, hzs]
              rw [← List.length_append, hlen, ← Nat.add_mul]; congr 1; omega
            refine ⟨_, hkk, ⟨w.heap.size, _, C, if_pos rfl, rfl, hC, (fun q => by cases q), by rw [hsz]; omega, Nat.le_refl _⟩, .add hun (Nat.le_succ _), ?_⟩
            have hob : ∀ o, (H.withCells e cs).objs.get H.next = some o → o = .cells H.next 0 e cs := by
              intro o ho
              rcases Tr.get_set deep H.objs H.next (some (.cells H.next 0 e cs)) H.next o ho with ⟨_, q⟩ | ⟨q, _⟩
              · exact (Option.some.inj q).symm
              · exact absurd rfl q
            refine (hdrawn.layCells e cs).bind (Nat.lt_succ_self _) hob hun ?_
            refine ⟨?_, (by intro _ _ he; cases he), (by intro _ _ _ _ _ _ _ _ _ he; cases he), (by intro _ he; cases he)⟩
            intro fam ver e2 cs2 he
            cases he
            refine ⟨_, _, rfl, rfl, by rw [← hl, hlen, hsz]; exact Nat.mul_le_mul_right _ hC, ?_⟩
            have : ((olds.toArray ++ news.toArray ++ Builtin.zeroCells z.cells (C - need)).toList).take cs.len = olds ++ news := by
              simp only [Array.toList_append]
              rw [List.take_append_of_le_length (by simp at hl ⊢; omega), List.take_of_length_le (by simp at hl ⊢; omega)]
            rw [this]; exact hL
          split at hk
          · cases hk
          · rename_i n xs hsrc
            obtain ⟨a, c, news, rfl, hnl, hnL, hfirst⟩ := src_sound h hx hsrc
            split at hk
            · have hsv : sv = .slice none 0 0 := hs
              subst hsv
              cases hn0 : Nat.beq n 0 with
              | true =>
                simp only [hn0, cond_true] at hk
                have hn0 := (beq_iff _ _).1 hn0
                subst hn0
                simp [ok] at hk
                refine ⟨_, H, w, μ, .slice none 0 0, hk, ?_, .refl H μ, hs, h⟩
                have hf := hfirst w rfl
                have hnil : news = [] := by apply List.length_eq_zero_iff.1; simpa using hnl
                subst hnil
                simp [Builtin.append_, run_underlying hut, run_underlying huu, sizeOf, typeInfo, hi, Builtin.lenOf, hf]
              | false =>
                simp only [hn0, cond_false] at hk
                have hn0 := (beq_false _ _).1 hn0
                cases hroom : Nat.ble (4 * (n + 1) * (inf.bytes + 1)) 1000000000 with
                | false => rw [hroom] at hk; cases hk
                | true =>
                  rw [hroom] at hk
                  have hroom := Nat.le_of_ble_eq_true hroom
                  simp only [cond_true] at hk
                  obtain ⟨C, hC, hrun⟩ := append_grow_run (w := w) (ty := ty) (sLen := 0) (sCap := 0) (base := none) (olds := []) hut huu hi hz2 hfirst (fun w' _ => by simp [Builtin.firstCells]) (by omega) (by simpa using hroom)
                  obtain ⟨H', g1, g2, g3, g4⟩ := fresh xs [] news C n _ hnL hnl (by omega) hk
                  simp only [Nat.zero_add] at hrun
                  simp only [ok, AV.force_eq] at g1
                  exact ⟨_, H', _, _, _, g1, hrun, g3, g2, g4⟩
            · rename_i i o len cm ex esz'
              obtain ⟨b, N, cp, hm, rfl, hcp1, hcp2, hcp3, hcp4⟩ := hs
              cases hee : Nat.beq inf.size esz' with
              | false => rw [hee] at hk; cases hk
              | true =>
                rw [hee] at hk
                have hee := (beq_iff _ _).1 hee
                subst hee
                simp only [cond_true] at hk
                cases hn0 : Nat.beq n 0 with
                | true =>
                  rw [hn0] at hk
                  have hn0 := (beq_iff _ _).1 hn0
                  subst hn0
                  simp [ok] at hk
                  refine ⟨_, H, w, μ, .slice (some ⟨b, o, none⟩) len cp, hk, ?_, .refl H μ, ⟨b, N, cp, hm, rfl, hcp1, hcp2, hcp3, hcp4⟩, h⟩
                  have hf := hfirst w rfl
                  have hnil : news = [] := by apply List.length_eq_zero_iff.1; simpa using hnl
                  subst hnil
                  have hle : len ≤ cp := by omega
                  simp [Builtin.append_, run_underlying hut, run_underlying huu, sizeOf, typeInfo, hi, Builtin.lenOf, hf, hle, storeCells]
                | false =>
                  rw [hn0] at hk
                  have hn0 := (beq_false _ _).1 hn0
                  simp only [cond_false] at hk
                  cases hcm : Nat.ble (len + n) cm with
                  | true =>
                    rw [hcm] at hk
                    have hcm := Nat.le_of_ble_eq_true hcm
                    simp only [cond_true] at hk
                    obtain ⟨fam, ver, te, cs, lw, cs', ho, hf, hl, hone, hp, hk'⟩ := storeCells_some hk
                    obtain ⟨arr, te', hw, hfit, hrep⟩ := h.store ho hf hl hm hnL hp
                    have hrun := append_room_run (ty := ty) (sCap := cp) (o := o) hut huu hi hfirst hw (show len + n ≤ cp by omega) hfit (hnL.allOne hone)
                    simp only [ok, AV.force_eq] at hk'
                    exact ⟨_, _, _, μ, _, hk', hrun, .same μ rfl, ⟨b, N, cp, hm, rfl, hcp1, hcp2, hcp3, hcm⟩, hrep⟩
                  | false =>
                    rw [hcm] at hk
                    have hcm : cm < len + n := by
                      refine Decidable.byContradiction fun q => ?_
                      rw [Nat.ble_eq_true_of_le (by omega)] at hcm; cases hcm
                    simp only [cond_false] at hk
                    cases hroom : Nat.ble (4 * (len + n + 1) * (inf.bytes + 1)) 1000000000 with
                    | false => rw [hroom] at hk; cases hk
                    | true =>
                      rw [hroom] at hk
                      have hroom := Nat.le_of_ble_eq_true hroom
                      simp only [cond_true] at hk
                      cases ex with
                      | true =>
                        simp only [cond_true] at hk
                        have hcc := hcp2 rfl
                        subst hcc
                        split at hk
                        · rename_i old hold
                          obtain ⟨olds, hol, hoL, hoc⟩ := h.load hold hm
                          have hof : ∀ w' : World, w'.heap = w.heap → (Builtin.firstCells inf.size len (.slice (some ⟨b, o, none⟩) len cp)).run P w' = .ok olds.toArray w' := fun w' hw' =>
                            run_firstCells_some (P := P) w' inf.size len ⟨b, o, none⟩ len cp olds hol (fun j v q => by
                              have := hoc j v q
                              simpa [World.cell?, hw'] using this)
                          obtain ⟨C, hC, hrun⟩ := append_grow_run (w := w) (ty := ty) hut huu hi hz2 hfirst hof hcm hroom
                          obtain ⟨H', g1, g2, g3, g4⟩ := fresh (old.app xs) olds news C (len + n) _ (LR.app hnL hoL) (by rw [List.length_append, hol, hnl, Nat.add_mul]) hC hk
                          simp only [ok, AV.force_eq] at g1
                          exact ⟨_, H', _, _, _, g1, hrun, g3, g2, g4⟩
                        · cases hk
                      | false =>
                        simp only [cond_false] at hk
                        split at hk
                        · rename_i f1 f2 f3 cs1 hlive
                          cases hbb : (Nat.beq (o + len * inf.size) cs1.len && Nat.beq o 0) with
                          | false => rw [hbb] at hk; cases hk
                          | true =>
                            rw [hbb] at hk
                            simp only [Bool.and_eq_true] at hbb
                            have hb1 := (beq_iff _ _).1 hbb.1
                            have hb2 := (beq_iff _ _).1 hbb.2
                            subst hb2
                            simp only [cond_true] at hk
                            obtain ⟨fam, ver, te, cs, lw, ho, hf, hl, hone, hk'⟩ := version_some hk
                            obtain ⟨ho', _⟩ := live_some hlive
                            have hcs : cs1 = cs := by rw [ho] at ho'; cases ho'; rfl
                            rw [hcs] at hb1
                            have hun := h.notYet (i := H.next) (Nat.le_refl _)
                            simp only [ok, AV.force_eq] at hk'
                            by_cases hroomy : len + n ≤ cp
                            · have hNfit : cs.len + news.length ≤ N := by
                                rw [hnl, ← hb1, Nat.zero_add, ← Nat.add_mul]
                                have := Nat.mul_le_mul_right inf.size hroomy
                                omega
                              obtain ⟨arr, te', hw, hsz, hrep⟩ := h.versionHere ho hf hl hm hnL hNfit
                              have hrun := append_room_run (ty := ty) (sCap := cp) (o := 0) hut huu hi hfirst hw hroomy (by rw [hb1, hsz]; exact hNfit) (hnL.allOne hone)
                              rw [hb1] at hrun
                              exact ⟨_, _, _, _, _, hk', hrun, .add hun (Nat.le_succ _), ⟨b, N, cp, if_pos rfl, rfl, hroomy, (fun q => by cases q), hcp3, Nat.le_refl _⟩, hrep⟩
                            · obtain ⟨olds, hol, hoL, hoc⟩ := h.loadAll ho hf hl hm
                              have hol' : olds.length = len * inf.size := by rw [hol, ← hb1]; omega
                              have hof : ∀ w' : World, w'.heap = w.heap → (Builtin.firstCells inf.size len (.slice (some ⟨b, 0, none⟩) len cp)).run P w' = .ok olds.toArray w' := fun w' hw' =>
                                run_firstCells_some (P := P) w' inf.size len ⟨b, 0, none⟩ len cp olds hol' (fun j v q => by
                                  have := hoc j v q
                                  rw [add_off, Nat.zero_add]
                                  simpa [World.cell?, hw'] using this)
                              obtain ⟨C, hC, hrun⟩ := append_grow_run (w := w) (ty := ty) hut huu hi hz2 hfirst hof (by omega) hroom
                              have hL2 : LR μ (cs.app xs) (olds ++ news) := LR.app hnL hoL
                              have hlen2 : (olds ++ news).length = (len + n) * inf.size := by rw [List.length_append, hol', hnl, Nat.add_mul]
                              have hsz : (olds.toArray ++ news.toArray ++ Builtin.zeroCells z.cells (C - (len + n))).size = C * inf.size := by
                                simp only [Array.size_append, List.size_toArray, Builtin.zeroCells, Array.size_map, Array.size_range, hzs]
                                rw [← List.length_append, hlen2, ← Nat.add_mul]; congr 1; omega
                              have hl2 := hL2.len
                              have hob : ∀ q, (H.versioned fam ver lw te (cs.app xs)).objs.get H.next = some q → q = .cells fam (ver + 1) te (cs.app xs) := by
                                intro q hq
                                rcases Tr.get_set deep H.objs H.next (some (.cells fam (ver + 1) te (cs.app xs))) H.next q hq with ⟨_, q'⟩ | ⟨q', _⟩
                                · exact (Option.some.inj q').symm
                                · exact absurd rfl q'
                              refine ⟨_, _, _, μ.add H.next w.heap.size (olds.toArray ++ news.toArray ++ Builtin.zeroCells z.cells (C - (len + n))).size, _, hk', hrun, .add hun (Nat.le_succ _), ⟨w.heap.size, _, C, if_pos rfl, rfl, hC, (fun q => by cases q), by rw [hsz]; omega, Nat.le_refl _⟩,
                                (hdrawn.layVersion ho hf (cs.app xs)).bind (Nat.lt_succ_self _) hob hun ⟨?_, (by intro _ _ he; cases he), (by intro _ _ _ _ _ _ _ _ _ he; cases he), (by intro _ he; cases he)⟩⟩
                              intro fam2 ver2 e2 cs2 he
                              cases he
                              refine ⟨_, _, rfl, rfl, by rw [← hl2, hlen2, hsz]; exact Nat.mul_le_mul_right _ hC, ?_⟩
                              have : ((olds.toArray ++ news.toArray ++ Builtin.zeroCells z.cells (C - (len + n))).toList).take (cs.app xs).len = olds ++ news := by
                                simp only [Array.toList_append]
                                rw [List.take_append_of_le_length (by simp at hl2 ⊢; omega), List.take_of_length_le (by simp at hl2 ⊢; omega)]
                              rw [this]; exact hL2
                        · cases hk
            · cases hk
      · cases hk
    · cases hk
  · cases hk

end
end Go.Eng
