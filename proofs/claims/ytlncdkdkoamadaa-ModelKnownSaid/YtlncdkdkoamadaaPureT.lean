/-
  PLAIN LAW: a run to its end by choices, move by move.
-/
import Derived.Test.YtlncdkdkoamadaaRn
import Derived.Test.YtlncdkdkoamadaaPureE
namespace Go.Proofs.Ytlncdkdkoamadaa
namespace G

/-- The place of the thread that is taken: m choices g, L threads ready, k moves made. -/
def pickAt (m : Nat) (g : Nat → Int) (L k : Nat) : Nat := if m = 0 then 0 else ((g (k % m)) % (L : Int)).toNat
theorem pickAt_lt {m : Nat} {g : Nat → Int} {L k : Nat} (hL : 0 < L) : pickAt m g L k < L := by
  unfold pickAt
  split
  · exact hL
  · have h1 := Int.emod_nonneg (g (k % m)) (b := (L : Int)) (by omega)
    have h2 := Int.emod_lt_of_pos (g (k % m)) (b := (L : Int)) (by omega)
    omega
/-- The thread that is taken. -/
def thrAt (s : G) (m : Nat) (g : Nat → Int) (k : Nat) : Nat := s.readies.getD (pickAt m g s.readies.length k) 0
/-- The states. -/
def runTo (s0 : G) (m : Nat) (g : Nat → Int) : Nat → G
  | 0 => s0
  | k + 1 => (runTo s0 m g k).step (thrAt (runTo s0 m g k) m g k)
/-- The moves. -/
def evTo (s0 : G) (m : Nat) (g : Nat → Int) (k : Nat) : Nat × Nat × Bool := (runTo s0 m g k).move (thrAt (runTo s0 m g k) m g k)

theorem thrAt_rdy {s : G} {m : Nat} {g : Nat → Int} {k : Nat} (hL : 0 < s.readies.length) : s.rdy (thrAt s m g k) = true := by
  have hp : pickAt m g s.readies.length k < s.readies.length := pickAt_lt hL
  unfold thrAt
  refine mem_readies (s := s) ?_
  have : s.readies[pickAt m g s.readies.length k]? = some (s.readies.getD (pickAt m g s.readies.length k) 0) := by simp [List.getD, hp]
  exact List.mem_of_getElem? this

/-- Ahead of the end. -/
theorem not_done {s : G} (hI : s.Inv) (h : s.mov + 1 < 2 * s.n) : s.fin 0 = false ∧ 0 < s.readies.length := by
  have h1 := done_iff hI
  have hf : s.fin 0 = false := by
    cases e : s.fin 0 with
    | false => rfl
    | true => exact absurd (h1.1 e) (by omega)
  refine ⟨hf, ?_⟩
  rcases Nat.eq_zero_or_pos s.readies.length with e | e
  · have := (readies_nil hI).1 (List.length_eq_zero_iff.1 e)
    rw [hf] at this; cases this
  · exact e

theorem runTo_fit {s0 : G} {m : Nat} {g : Nat → Int} (h0 : Fit s0) (hm : s0.mov = 0) : ∀ k, k + 1 ≤ 2 * s0.n → Fit (runTo s0 m g k) ∧ (runTo s0 m g k).mov = k ∧ (runTo s0 m g k).n = s0.n := by
  intro k
  induction k with
  | zero => intro _; exact ⟨h0, hm, rfl⟩
  | succ k ih =>
    intro hk
    obtain ⟨h1, h2, h3⟩ := ih (by omega)
    have h4 := (not_done h1.inv (by rw [h2, h3]; omega)).2
    have h5 := thrAt_rdy (m := m) (g := g) (k := k) h4
    exact ⟨h1.step h5, by show (step _ _).mov = _; rw [step_mov, h2], by show (step _ _).n = _; rw [step_n, h3]⟩
end G

/-- An event's cells. -/
def evC (x : Nat × Nat × Bool) : List Value := [.int .i64 (x.1 : Nat), .int .i64 (x.2.1 : Nat), .bool x.2.2]
/-- The first k events' cells. -/
def evCs (f : Nat → Nat × Nat × Bool) (k : Nat) : List Value := (List.range k).flatMap fun i => evC (f i)
theorem evCs_succ (f : Nat → Nat × Nat × Bool) (k : Nat) : evCs f (k + 1) = evCs f k ++ evC (f k) := by
  unfold evCs
  rw [List.range_succ, List.flatMap_append]; simp
theorem evCs_len (f : Nat → Nat × Nat × Bool) (k : Nat) : (evCs f k).length = k * 3 := by
  induction k with
  | zero => rfl
  | succ k ih => rw [evCs_succ, List.length_append, ih]; simp [evC]; omega
theorem evCs_get (f : Nat → Nat × Nat × Bool) (k : Nat) : ∀ i, i < k → (evCs f k)[i * 3]? = some (.int .i64 ((f i).1 : Nat)) ∧ (evCs f k)[i * 3 + 1]? = some (.int .i64 ((f i).2.1 : Nat)) ∧ (evCs f k)[i * 3 + 2]? = some (.bool (f i).2.2) := by
  induction k with
  | zero => intro i hi; omega
  | succ k ih =>
    intro i hi
    rw [evCs_succ]
    have hl := evCs_len f k
    by_cases e : i = k
    · subst e
      refine ⟨?_, ?_, ?_⟩
      · rw [List.getElem?_append_right (by omega), hl, Nat.sub_self]; rfl
      · rw [List.getElem?_append_right (by omega), hl, Nat.add_sub_cancel_left]; rfl
      · rw [List.getElem?_append_right (by omega), hl, Nat.add_sub_cancel_left]; rfl
    · obtain ⟨h1, h2, h3⟩ := ih i (by omega)
      refine ⟨?_, ?_, ?_⟩
      · rw [List.getElem?_append_left (by omega)]; exact h1
      · rw [List.getElem?_append_left (by omega)]; exact h2
      · rw [List.getElem?_append_left (by omega)]; exact h3
end Go.Proofs.Ytlncdkdkoamadaa
