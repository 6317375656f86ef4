/-
  A round of a range over a function, on the abstract machine and in the model.
  Conditions: those of EngQ.
-/
import Derived.Test.YtjcmalmcijpnnaaDoorEngR
namespace Go.Eng
open Go.RowKit

section
variable {P : Program} {B : Nat} {w0 : World} {G : List Nat} {self : Cb}

theorem roundF_ok (hK : CodeOK P B w0 G self) {l : Nat} {xs : AV} {H : AH} {v : AV} {H' : AH} (h : roundF self l xs H = some (v, H')) {μ : Mu} {w : World} {b N : Nat} {ys : Array Value} (hrep : Rep P B w0 G μ H w) (hm : μ l = some (b, N)) (hys : LR μ xs ys.toList) :
    ∃ L : Loop, w.heap[b]? = some (.loop L) ∧ ys.size = L.params.size ∧
      RoundIn Fence.wide 0 P b L.fn ((L.params.zip ys).foldl (fun tmps (t, a) => tmps.setIfInBounds t a) L.tmps) L.assign L.body w (After P B w0 G μ H v H') := by
  unfold roundF at h
  split at h
  · rename_i st pend fn nt tm ps as bd dd ho
    obtain ⟨hB, L, d, M, hw, e1, e2, e3, e4, e5, e6, e7, e8⟩ := hrep.loop _ _ _ _ _ _ _ _ _ _ _ _ ho hm
    obtain ⟨hlen, T, h1, hT⟩ := setAll_TR _ _ _ _ _ _ _ h hys e3
    refine ⟨L, hw, ?_, ?_⟩
    · rw [← Array.length_toList, ← hlen, ← e4, Array.length_toList]
    · have hfold : ((L.params.zip ys).foldl (fun tmps (q : Tmp × Value) => tmps.setIfInBounds q.1 q.2) L.tmps) = ((ps.zip ys.toList).foldl (fun tmps (q : Tmp × Value) => tmps.setIfInBounds q.1 q.2) L.tmps) := by
        rw [← Array.foldl_toList, Array.toList_zip, e4]
      refine roundIn_of_wpIn trivial ?_
      split at h1
      · rename_i a1 H1 hassign
        have hA := hK _ _ _ _ _ _ _ _ hassign μ w { tmps := (L.params.zip ys).foldl (fun tmps (q : Tmp × Value) => tmps.setIfInBounds q.1 q.2) L.tmps, defers := [] } (some b) ⟨b, N, hm, rfl⟩ hrep ⟨by rw [hfold]; exact hT, rfl⟩
        rw [← e5] at hA
        refine wpIn_mono (F := Fence.wide.inRound b) hA ?_
        rintro e c1 w1 ⟨hx, μ1, hext1, hact1, hrep1⟩
        cases e <;> first | exact hx.elim | skip
        have hm1 := hext1.1 _ _ hm
        split at h1
        · rename_i pend1 fn1 nt1 tm1 ps1 as1 bd1 dd1 ho1
          obtain ⟨hB1, L1, d1, M1, hw1, p1, p2, p3, p4, p5, p6, p7, p8⟩ := hrep1.loop _ _ _ _ _ _ _ _ _ _ _ _ ho1 hm1
          rw [withObj_eq] at h1
          have hrep2 := hrep1.setObj (oj := .loop .busy pend1 fn1 nt1 tm1 ps1 as1 bd1 dd1) (o := .loop { L1 with state := .busy }) ho1 hm1 hB1 (by simp) (by simp)
            ⟨(by intro _ _ _ _ he; cases he), (by intro _ _ he; cases he), (by intro _ _ _ _ _ _ _ _ _ he; cases he; exact ⟨_, d1, M1, rfl, rfl, p2, p3, p4, p5, p6, p7, p8⟩), (by intro op he; cases he)⟩
          refine ⟨withObjAt w1 b (.loop { L1 with state := .busy }), ?_, ?_⟩
          · simp [Instr.beginRound, Instr.getLoop, getObj, setObj, Sem.run, hw1, p1, withObjAt]
          · split at h1
            · rename_i x a2 H2 hbody
              have hB2 := hK _ _ _ _ _ _ _ _ hbody μ1 _ c1 (some b) ⟨b, N, hm1, rfl⟩ hrep2 hact1
              rw [← e6] at hB2
              refine wpIn_mono (F := Fence.wide.inRound b) hB2 ?_
              rintro e c2 w2 ⟨hx2, μ2, hext2, hact2, hrep3⟩
              have hm2 := hext2.1 _ _ hm1
              split at h1
              · rename_i st3 pend3 fn3 nt3 tm3 ps3 as3 bd3 dd3 ho3
                obtain ⟨hB3, L3, d3, M3, hw3, r1, r2, r3, r4, r5, r6, r7, r8⟩ := hrep3.loop _ _ _ _ _ _ _ _ _ _ _ _ ho3 hm2
                have fin : ∀ (jump : Option Code) (bb : Bool), jump.isNone = bb → v = .sc (.bool bb) → H' = H2.set l (.loop (bif bb then .ready else .done) jump fn3 nt3 tm3 ps3 as3 bd3 dd3) →
                    ∃ v' w', (Instr.endRound b jump).run P w2 = .ok v' w' ∧ After P B w0 G μ H v H' (.returned v') w' := by
                  rintro jump bb hj rfl rfl
                  have hset := hrep3.setObj (oj := .loop (bif bb then .ready else .done) jump fn3 nt3 tm3 ps3 as3 bd3 dd3) (o := .loop { L3 with state := if jump.isNone then .ready else .done, pending := jump }) ho3 hm2 hB3 (by simp) (by simp)
                    ⟨(by intro _ _ _ _ he; cases he), (by intro _ _ he; cases he), (by intro _ _ _ _ _ _ _ _ _ he; cases he; exact ⟨_, d3, M3, rfl, by rw [hj]; cases bb <;> rfl, rfl, r3, r4, r5, r6, r7, r8⟩), (by intro op he; cases he)⟩
                  refine ⟨.bool bb, withObjAt w2 b (.loop { L3 with state := if jump.isNone then .ready else .done, pending := jump }), ?_, .bool bb, μ2, rfl, ?_, rfl, hset⟩
                  · simp [Instr.endRound, Instr.getLoop, getObj, setObj, Sem.run, hw3, withObjAt, hj]
                  · exact hext1.trans ((Ext.same μ1 rfl).trans (hext2.trans (Ext.same μ2 rfl)))
                cases x with
                | normal =>
                  cases e <;> first | exact hx2.elim | skip
                  simp only [withObj_eq] at h1
                  simp at h1
                  exact fin none true rfl h1.1.symm h1.2.symm
                | ret =>
                  cases e <;> first | exact hx2.elim | skip
                  simp only [withObj_eq] at h1
                  simp at h1
                  exact fin (some .ret) false rfl h1.1.symm h1.2.symm
                | exit id =>
                  cases e <;> first | exact hx2.elim | skip
                  have hij : id = _ := hx2
                  subst hij
                  simp only [withObj_eq] at h1
                  simp at h1
                  exact fin (some (.exit id)) false rfl h1.1.symm h1.2.symm
                | goto t => cases h1
              · cases h1
            · cases h1
        · cases h1
      · cases h1
  · cases h

end
end Go.Eng
