/-
  THE LAW ModelKnown, walked.
-/
import Derived.Test.YtlncdkdkoamadaaL4
import Derived.Test.YtlncdkdkoamadaaK1
namespace Go.Proofs.Ytlncdkdkoamadaa
open Go.RowKit

/-- The threads that the example steps, its states. -/
def exT (i : Nat) : Nat := [0, 0, 1, 1, 1].getD i 0
def exS : Nat → G
  | 0 => ex0
  | i + 1 => (exS i).step (exT i)
theorem exS_rdy : ∀ i, i < 5 → (exS i).rdy (exT i) = true := by decide +kernel
theorem exS_move0 : (exS 0).move 0 = (1, 1, false) := by decide +kernel
theorem exS_move1 : (exS 1).move 0 = (0, 2, false) := by decide +kernel
theorem exS_move2 : (exS 2).move 1 = (1, 3, false) := by decide +kernel
theorem exS_move3 : (exS 3).move 1 = (1, 3, true) := by decide +kernel
theorem exS_move4 : (exS 4).move 1 = (1, 1, true) := by decide +kernel
theorem exS5_rdy9 : rdyI (exS 5) 9 = false := by decide +kernel
theorem ex0_readies : ex0.readies = [0] := by decide +kernel
theorem ex0_opens : ex0.opens = [0] := by decide +kernel
theorem ex0_alive : ex0.alive = 0 := by decide +kernel
theorem ex0_mov : ex0.mov = 0 := by decide +kernel
theorem ex0_fin : ex0.fin 0 = false := by decide +kernel
/-- The second example: two nodes, one worker, no choices. -/
def zf : Nat → Int := fun _ => 0
theorem play2 : evCs (G.evTo (G.init 2 (thr 1) zf) 0 zf) 3 = [.int .i64 1, .int .i64 1, .bool false, .int .i64 1, .int .i64 1, .bool true, .int .i64 0, .int .i64 0, .bool true] := by
  have h0 : G.evTo (G.init 2 (thr 1) zf) 0 zf 0 = (1, 1, false) := by decide +kernel
  have h1 : G.evTo (G.init 2 (thr 1) zf) 0 zf 1 = (1, 1, true) := by decide +kernel
  have h2 : G.evTo (G.init 2 (thr 1) zf) 0 zf 2 = (0, 0, true) := by decide +kernel
  rw [evCs_succ, evCs_succ, evCs_succ, h0, h1, h2]
  rfl
theorem good2 : goodTree 2 zf := ⟨by decide, by decide, fun c h1 h2 => by unfold zf; omega⟩
theorem good4 : goodTree 4 exPar := ⟨by decide, by decide, ex_ok⟩
theorem kids4 : 2 ≤ ((G.init 4 (thr 1) exPar).ch 0).length := by decide +kernel
theorem kids2 : ((G.init 2 (thr 2) zf).ch 0).length < 2 := by decide +kernel
def badf : Nat → Int := fun i => if i = 1 then 1 else 0
theorem bad2 : ¬ goodTree 2 badf := fun h => by have := h.2.2 1 (by decide) (by decide); revert this; decide
theorem bad0 (f : Nat → Int) : ¬ goodTree 0 f := fun h => absurd h.1 (by decide)
end Go.Proofs.Ytlncdkdkoamadaa
