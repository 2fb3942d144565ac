/-
  PoolNests: for every input the law returns true, and its arguments read behind the call as they read before; no conditions.
-/
import Derived.Test.YtofohjbcgchhoaaRows
import Derived.WalkKit
import Derived.ProofKit
import Derived.OpenShut
import Derived.ChangeArms
import Derived.Below
import Derived.SizedLaws
import Derived.Deep.Slices
import Derived.Conc.LeavingOf
import Derived.Test.YtofohjbcgchhoaaJC
import Derived.Test.YtofohjbcgchhoaaH6
namespace Go.Proofs.Ytofohjbcgchhoaa.poolNests
open Go.ChangeShapes Go.WideShapes Go.ChangeAt Go.RowKit Go.Conc

theorem own : ownKnob Try.prog.godebug = none := by kernel_rfl
theorem laidOut : laidOutB Try.prog = true := by kernel_rfl

theorem cells3 : Try.prog.cellsOf 3 = 1 := by kernel_rfl
theorem cells22 : Try.prog.cellsOf 22 = 1 := by kernel_rfl
theorem cells24 : Try.prog.cellsOf 24 = 2 := by kernel_rfl

section
variable {H : Type} {enc : TypeId × Value → H} {w : World} {base : Nat} {sp : Nat → Bool} {held : Bool} {fuel : Nat}
/-- A slice of whole numbers that came in. -/
theorem open_ints {cs : List Value} {x : DataW H × List MemPlace} (h : DataW.trod enc Try.prog w base sp held fuel 22 cs = some x) :
    ∃ (A : Option Addr) (n c : Nat) (g : Nat → Int), cs = [.slice A n c] ∧ ∀ i, i < n → ∃ B, A = some B ∧ w.cell? (B.add i) = some (.int .i64 (g i)) := by
  rcases Deep.open_slice Try.underlying22 h with ⟨rfl, _⟩ | ⟨a, len, cap, m, n, D, Pl, rfl, hb, hl, hm, hmm, _, hx⟩
  · exact ⟨none, 0, 0, fun _ => 0, rfl, fun i hi => by omega⟩
  have hlm : len ≤ m := by rw [hmm]; split <;> omega
  have each : ∀ i, i < len → ∃ z : Int, w.cell? (a.add i) = some (.int .i64 z) := by
    intro i hi
    obtain ⟨cs', h1, h2⟩ := hx i (by omega)
    rw [cells3, Nat.mul_one] at h1
    obtain ⟨_, hlen, hcell⟩ := World.cells?_some h1
    obtain ⟨z, rfl, _⟩ := DataW.trod_int Try.underlying3 h2
    have := hcell 0 Nat.zero_lt_one
    refine ⟨z, ?_⟩
    simpa [Addr.add] using this
  refine ⟨some a, len, cap, fun i => if h : i < len then (each i h).choose else 0, rfl, fun i hi => ⟨a, rfl, ?_⟩⟩
  simp only [dif_pos hi]
  exact (each i hi).choose_spec

theorem open_tree {v : Value} {d : DataW H} {p : List MemPlace} {r : Reach} (hval : Value.okWide Try.prog w r base 24 v) (h : DataW.Trod enc Try.prog w 0 sp held 24 v d p) :
    ∃ (A1 A2 : Option Addr) (n1 c1 n2 c2 : Nat) (ps os : Nat → Int), v = .agg #[.slice A1 n1 c1, .slice A2 n2 c2] ∧ (∀ i, i < n1 → ∃ B, A1 = some B ∧ w.cell? (B.add i) = some (.int .i64 (ps i))) ∧ ∀ i, i < n2 → ∃ B, A2 = some B ∧ w.cell? (B.add i) = some (.int .i64 (os i)) := by
  simp only [Value.okWide, Try.underlying24] at hval
  obtain ⟨cs, rfl, _, _⟩ := hval
  obtain ⟨fuel, hf⟩ := h
  obtain ⟨xs, n, _, _, hl, hxl, hx⟩ := DataW.trod_struct Try.underlying24 hf
  rw [cells24] at hl
  obtain ⟨cs⟩ := cs
  match xs, hxl, cs, hl with
  | [y0, y1], _, [v0, v1], _ =>
    have g0 := hx 0 _ rfl
    have g1 := hx 1 _ rfl
    simp [cells22, Value.cells] at g0 g1
    obtain ⟨A1, n1, c1, ps, e0, r0⟩ := open_ints g0
    obtain ⟨A2, n2, c2, os, e1, r1⟩ := open_ints g1
    simp only [List.cons.injEq, and_true] at e0 e1
    subst e0 e1
    exact ⟨A1, A2, n1, c1, n2, c2, ps, os, rfl, r0, r1⟩
end

/-! The row. -/
set_option maxRecDepth 100000 in
theorem lifted (os : Os) (started : os.Started) (H : Type) (enc : TypeId × Value → H) :
    ReturnsInLeavingWide {} Try.checked os 3 .any (Rows.poolNestsSpec.pre6 enc Try.prog Try.f3 Rows.poolNestsRow.domain false) (Rows.poolNestsSpec.post enc Try.prog Try.f3 false true false false) := by
  refine returnsInLeavingWide_of_change_sized (C := Try.checked) own started Try.func3
    (ChangeSpec.witness6 (enc := enc) (C := Try.checked) false ⟨#[], #[.int .i64 0, .agg #[.slice none 0 0, .slice none 0 0]], []⟩ 8 (by kernel_rfl) (by kernel_rfl) (by kernel_rfl) (by kernel_rfl)) ?_
  intro W base args ds gs before hval0 hW _ _ _
  have hval : ∀ (j : Nat) t v, Try.f3.params[j]? = some t → args[j]? = some v → Value.okWide Try.prog W .any base t v := hval0
  have hW' := hW
  obtain ⟨p, q, hA0, hV, rfl, _, _⟩ := hW
  have hA : DataW.TrodAll enc Try.prog W 0 (fun _ => true) true Try.f3.params.toList args.toList ds p := hA0
  rw [Try.params3] at hA hval
  obtain ⟨v0, vs0, d0, ds0, p0, q0, hargs, rfl, rfl, h0, r0⟩ := trodAll_cons hA
  obtain ⟨v1, vs1, d1, ds1, p1, q1, rfl, rfl, rfl, h1, r1⟩ := trodAll_cons r0
  obtain ⟨rfl, rfl, rfl⟩ := trodAll_nil r1
  obtain rfl : args = #[v0, v1] := by cases args; simp_all
  obtain ⟨rfl, rfl⟩ := trodVars_none hV
  obtain ⟨a0, rfl, rfl, rfl, w0⟩ := open_int Try.underlying3 (hval 0 3 v0 rfl rfl) h0
  have k1 := h1
  have lt1 : ∀ x ∈ p1, x.block < W.heap.size := by obtain ⟨m, hm⟩ := k1; exact DataW.trod_lt m _ _ _ hm
  obtain ⟨A1, A2, n1, c1, n2, c2, ps, oz, rfl, hP, hO⟩ := open_tree (hval 1 24 v1 rfl rfl) h1
  clear hA0 hval0
  have hro : ∀ (A : Option Addr) (n : Nat) (g : Nat → Int), (∀ i, i < n → ∃ B, A = some B ∧ W.cell? (B.add i) = some (.int .i64 (g i))) → ∀ i, i < n → ∃ B, A = some B ∧ (lo0 W).ro (B.add i) (.int .i64 (g i)) := fun A n g h i hi => by
    obtain ⟨B, e, hc⟩ := h i hi
    exact ⟨B, e, World.block_lt_of_cell? W _ hc, hc⟩
  obtain ⟨N, hN⟩ := law3
  obtain ⟨M, last, o, w', t', e1, e2, e3, e4⟩ := run_law (f := 3) (args := #[.int .i64 a0, .agg #[.slice A1 n1 c1, .slice A2 n2 c2]]) (W := W) (N := N) (l2 := Calm) (by decide) (fun l' h => ⟨h.md, h.solo⟩) fun E h0 => hN E a0 (lo0 W) A1 A2 n1 c1 n2 c2 ps oz h0 (calm0 W) (hro A1 n1 ps hP) (hro A2 n2 oz hO)
  refine ⟨M, last, o, w', t', e1, e2, e3, e4.mono fun v ⟨hv, bel⟩ => ?_⟩
  subst hv
  exact ⟨_, _, _, [], _, [], hW', trodAll_mk1 (shut_bool Try.underlying4 _), (trodAll_cons_mk (shut_int Try.underlying3 w0) (trodAll_cons_mk (Below.trod laidOut (by kernel_rfl) (of_decide_eq_true (by kernel_rfl)) k1 bel lt1) trodAll_mk0)), rfl, bel.frame _, fun h => by cases h⟩

theorem over : Rows.poolNestsRow.holds Try.pinned (OpenSpec.ofChange Rows.poolNestsSpec) :=
  OpenClaim.holds_of_wide_leaving 3 Try.f3 rfl rfl rfl rfl rfl rfl rfl ⟨rfl, rfl, rfl, rfl, rfl⟩ rfl rfl rfl rfl rfl (by kernel_rfl) Try.func3 (by kernel_rfl)
    (of_decide_eq_true (by kernel_rfl)) (by unfold Func.isWrapper; first | (rw [if_pos (by decide +kernel)]; kernel_rfl) | (rw [if_neg (by decide +kernel)]; exact ⟨rfl, rfl⟩))
    (fun os started H enc _ => lifted os started H enc)

/-- The statement. -/
theorem proved : Rows.PoolNestsSaid := over
end Go.Proofs.Ytofohjbcgchhoaa.poolNests
