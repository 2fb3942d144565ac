/-
  A slice of numbers that came in, as the walks read it.
-/
import Derived.Test.YtlncdkdkoamadaaC1
import Derived.OpenShut
namespace Go.Proofs.Ytlncdkdkoamadaa
open Go.RowKit

theorem rd_of_row {w : World} {a : Option Addr} {len cap : Nat} {zs : List Int}
    (h : (a = none ∧ len = 0 ∧ cap = 0 ∧ zs = []) ∨ ∃ x, a = some x ∧ len ≤ cap ∧ cap ≤ maxLen ∧ zs.length = cap ∧ (∀ i, i < zs.length → w.cell? (x.add i) = some (.int .i64 (zs.getD i 0))) ∧ ∀ n ∈ zs, (Lit.int .i64 n).wf = true) :
    len ≤ maxLen ∧ RdI w a len (fun i => zs.getD i 0) := by
  rcases h with ⟨rfl, rfl, rfl, rfl⟩ | ⟨x, rfl, hl, hm, hz, hc, _⟩
  · exact ⟨Nat.zero_le _, fun h => absurd h (by omega)⟩
  · refine ⟨Nat.le_trans hl hm, fun hn => ?_⟩
    obtain ⟨b, off, rfl, hc'⟩ := ints_at hc (by omega)
    have h0 := hc' 0 (by omega)
    refine ⟨b, off, rfl, World.block_lt_of_cell? w _ h0, fun i hi => ?_⟩
    exact hc' i (by omega)
end Go.Proofs.Ytlncdkdkoamadaa
