/-
  What != says of two pairs of numbers.
  Conditions: none.
-/
import Derived.Test.YtjcmalmcijpnnaaDoorBrdC
namespace Go.Eng
open Go.RowKit Go.Proofs Go.Proofs.YtjcmalmcijpnnaaDoor

theorem wpListIn_bin_run {F : Fence} {n : Nat} {P : Program} (w : World) {ops : Array Oper} {rest : List Oper} {o : Oper} {a : CAct} {Q : Exit → CAct → World → Prop}
    (hg : o.guard = none) (op : BinOp) (t t' : TypeId) (x y : Operand) (hop : o.op = Op.binOp op t x y t')
    {u v : Value} (hx : a.eval x = u) (hy : a.eval y = v) {v' : Value} (hrun : (do eqGuard op t x y u v; binOp op t u v : Sem Value).run P w = .ok v' w)
    (hK : wpListIn F n P ops Q rest (a.put o.dst v') w) :
    wpListIn F n P ops Q (o :: rest) a w := by
  refine wpListIn_plain hg fun K hK' => ?_
  unfold Oper.wpIn
  refine ⟨?_, ?_⟩
  · simp [Oper.about, hop]
  · rw [Oper.semAt_plain F _ _ (by rw [hop]; intro c hc'; cases hc')]
    simp only [execOp, hop, hx, hy]
    rw [Sem.run_bind, hrun]
    simp [Result.andThen]
    exact hK' _ _ hK

theorem key75 (a b : Int) : keyFits Tryd.prog 75 (.agg (.cons (.sc (.int .i64 a)) (.cons (.sc (.int .i64 b)) .nil))) = true := by
  have hu : Tryd.prog.underlying 75 = some (.array 2 3) := by kernel_rfl
  have h3 : Tryd.prog.underlying 3 = some (.int .i64) := by kernel_rfl
  have hi := t3_info
  have hs := t3_size
  simp [keyFits, hu, h3, sizeT, hi, hs, AV.len, allInts, beqK]
theorem guard75 : Tryd.prog.eqGuardType Tryd.prog.depth 75 = false := by kernel_rfl
theorem neq75_run (ox oy : Operand) (a b c d : Int) (w : World) :
    (do eqGuard .neq 75 ox oy (.agg #[.int .i64 a, .int .i64 b]) (.agg #[.int .i64 c, .int .i64 d]); binOp .neq 75 (.agg #[.int .i64 a, .int .i64 b]) (.agg #[.int .i64 c, .int .i64 d]) : Sem Value).run Tryd.prog w = .ok (.bool (!(decide (a = c) && decide (b = d)))) w := by
  have hb : binV Tryd.prog .neq 75 (.agg (.cons (.sc (.int .i64 a)) (.cons (.sc (.int .i64 b)) .nil))) (.agg (.cons (.sc (.int .i64 c)) (.cons (.sc (.int .i64 d)) .nil))) = some (.sc (.bool (!(AV.beq (.cons (.sc (.int .i64 a)) (.cons (.sc (.int .i64 b)) .nil)) (.cons (.sc (.int .i64 c)) (.cons (.sc (.int .i64 d)) .nil)))))) := by
    simp [binV, key75, guard75]
  have hx : ∀ (μ : Mu) (a b : Int), VR μ (.agg (.cons (.sc (.int .i64 a)) (.cons (.sc (.int .i64 b)) .nil))) (.agg #[.int .i64 a, .int .i64 b]) := fun μ a b => ⟨#[.int .i64 a, .int .i64 b], rfl, ⟨_, _, rfl, rfl, ⟨_, _, rfl, rfl, rfl⟩⟩⟩
  obtain ⟨z, h1, h2⟩ := bin_sound (ox := ox) (oy := oy) hb (hx (fun _ => none) a b) (hx (fun _ => none) c d) w
  have hz : z = .bool (!(AV.beq (.cons (.sc (.int .i64 a)) (.cons (.sc (.int .i64 b)) .nil)) (.cons (.sc (.int .i64 c)) (.cons (.sc (.int .i64 d)) .nil)))) := h2
  have hq : ∀ a c : Int, beqI a c = decide (a = c) := fun a c => by rw [beqI_iff]; rfl
  rw [h1, hz]
  simp [AV.beq, Sc.beq, beqK, hq]
end Go.Eng
