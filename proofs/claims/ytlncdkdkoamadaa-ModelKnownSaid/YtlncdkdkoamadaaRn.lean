/-
  A RUN AND ITS CALLS, at any label: what each call answers and leaves; copies.
-/
import Derived.Test.YtlncdkdkoamadaaCp
namespace Go.Proofs.Ytlncdkdkoamadaa
open Go.RowKit

/-- What holds of every state that is spoken of. -/
structure Fit (s : G) : Prop where
  inv : s.Inv
  n_le : s.n ≤ 256
  T_ge : 2 ≤ s.T
  T_le : s.T ≤ 17
theorem Fit.step {s : G} (h : Fit s) {t : Nat} (hr : s.rdy t = true) : Fit (s.step t) :=
  ⟨G.step_inv h.inv hr, by rw [G.step_n]; exact h.n_le, by rw [G.step_T]; exact h.T_ge, by rw [G.step_T]; exact h.T_le⟩

/-- A run in memory, its own blocks at label k. -/
structure Rn (w : World) (lab : Nat → Nat) (k r : Nat) (s : G) : Prop where
  fit : Fit s
  run : ∃ L, L.r = r ∧ RunAt w lab k L s

section
variable {w w' : World} {lab lab' : Nat → Nat} {k k' r : Nat} {s : G}
theorem RunRaw.rekey {L : Lay} {s : D} (h : RunRaw w lab k L s) (hk : k' ≠ 0) (h1 : ∀ g, lab g = k → lab' g = k') (h2 : ∀ g, lab g = 0 → lab' g = 0) : RunRaw w lab' k' L s :=
  { h with
    k0 := hk
    lr := h1 _ h.lr
    lch := fun g hg => h2 _ (h.lch g hg)
    lnx := fun g hg => h1 _ (h.lnx g hg)
    lou := fun g hg => h1 _ (h.lou g hg)
    lpa := fun g hg => h2 _ (h.lpa g hg)
    lst := fun g hg => h1 _ (h.lst g hg)
    lop := fun g hg => h1 _ (h.lop g hg)
    lcs := fun p hp g hg => h2 _ (h.lcs p hp g hg)
    lss := fun t ht g hg => h1 _ (h.lss t ht g hg) }
theorem Rn.rekey (h : Rn w lab k r s) (hk : k' ≠ 0) (h1 : ∀ g, lab g = k → lab' g = k') (h2 : ∀ g, lab g = 0 → lab' g = 0) : Rn w lab' k' r s := by
  obtain ⟨L, e, hr⟩ := h.run
  exact ⟨h.fit, L, e, RunRaw.rekey hr hk h1 h2⟩
theorem Rn.frame (h : Rn w lab k r s) (hb : ∀ b, b < w.heap.size → (lab b = k ∨ lab b = 0) → w'.heap[b]? = w.heap[b]?) (hl : ∀ b, b < w.heap.size → lab' b = lab b) : Rn w' lab' k r s := by
  obtain ⟨L, e, hr⟩ := h.run
  exact ⟨h.fit, L, e, hr.frame hb hl⟩
theorem Rn.below (h : Rn w lab k r s) (hb : Below w.heap.size w w') (hl : ∀ b, b < w.heap.size → lab' b = lab b) : Rn w' lab' k r s := h.frame (fun b hlt _ => hb.block b hlt) hl
theorem Rn.keep (h : Rn w lab k r s) (hb : Below w.heap.size w w') : Rn w' lab k r s := h.below hb fun _ _ => rfl
theorem Rn.other {j : Nat} (h : Rn w lab j r s) (hk : Keeps lab k w w') (hj : j ≠ k) (h0 : 0 ≠ k) (hl : ∀ b, b < w.heap.size → lab' b = lab b) : Rn w' lab' j r s :=
  h.frame (fun b hb hl => hk.block b hb (by rcases hl with e | e <;> omega)) hl
theorem Rn.setFar (h : Rn w lab k r s) {p : Addr} (h1 : lab p.block ≠ k) (h2 : lab p.block ≠ 0) (u : Value) : Rn (w.setCell p u) lab k r s := by
  obtain ⟨L, e, hr⟩ := h.run
  exact ⟨h.fit, L, e, RunRaw.setFar hr h1 h2 u⟩
theorem Rn.rlt (h : Rn w lab k r s) : r < w.heap.size := by
  obtain ⟨L, rfl, hr⟩ := h.run
  exact hr.rlt

theorem Rn.Ready (h : Rn w lab k r s) : Calls Try.prog 20 #[.pointer (some ⟨r, 0, none⟩)] w fun e w' => ∃ v, e = .returned v ∧ w'.ownsRow w.heap.size 3 1 v s.readies.length (intl s.readies) ∧ Below w.heap.size w w' := by
  obtain ⟨L, rfl, hr⟩ := h.run
  exact Ready_any hr h.fit.inv h.fit.n_le h.fit.T_le
theorem Rn.Open (h : Rn w lab k r s) : Calls Try.prog 24 #[.pointer (some ⟨r, 0, none⟩)] w fun e w' => ∃ v, e = .returned v ∧ w'.ownsRow w.heap.size 3 1 v s.opens.length (intl s.opens) ∧ Below w.heap.size w w' := by
  obtain ⟨L, rfl, hr⟩ := h.run
  exact Open_any hr h.fit.inv h.fit.n_le
theorem Rn.Alive (h : Rn w lab k r s) : Calls Try.prog 23 #[.pointer (some ⟨r, 0, none⟩)] w fun e w' => e = .returned (.int .i64 s.alive) ∧ w = w' := by
  obtain ⟨L, rfl, hr⟩ := h.run
  exact alive_any hr h.fit.inv h.fit.n_le h.fit.T_ge h.fit.T_le
theorem Rn.Moves (h : Rn w lab k r s) : Calls Try.prog 22 #[.pointer (some ⟨r, 0, none⟩)] w fun e w' => e = .returned (.int .i64 s.mov) ∧ w = w' := by
  obtain ⟨L, rfl, hr⟩ := h.run
  exact moves_any hr
theorem Rn.Done (h : Rn w lab k r s) : Calls Try.prog 21 #[.pointer (some ⟨r, 0, none⟩)] w fun e w' => e = .returned (.bool (s.fin 0)) ∧ w = w' := by
  obtain ⟨L, rfl, hr⟩ := h.run
  have := done_any hr h.fit.inv
  have e : (!s.opn 0) = s.fin 0 := by simp [G.opn, h.fit.inv.beg0]
  rwa [e] at this
theorem Rn.StepNo (h : Rn w lab k r s) (t : Int) (hr : rdyI s t = false) : Calls Try.prog 17 #[.pointer (some ⟨r, 0, none⟩), .int .i64 t] w fun e w' => e = .returned (.tuple #[evV 0 0 false, .int .i64 4]) ∧ Below w.heap.size w w' := by
  obtain ⟨L, rfl, hra⟩ := h.run
  exact step_no hra h.fit.inv h.fit.n_le t hr
theorem Rn.Step (h : Rn w lab k r s) (t : Nat) (hr : s.rdy t = true) : Calls Try.prog 17 #[.pointer (some ⟨r, 0, none⟩), .int .i64 t] w fun e w' =>
    e = .returned (.tuple #[evV (s.move t).1 (s.move t).2.1 (s.move t).2.2, .int .i64 0]) ∧ Keeps lab k w w' ∧ ∃ lab', (∀ b, b < w.heap.size → lab' b = lab b) ∧ Rn w' lab' k r (s.step t) := by
  obtain ⟨L, rfl, hra⟩ := h.run
  have post : ∀ w', (∃ lab' L', L'.r = L.r ∧ (∀ b, b < w.heap.size → lab' b = lab b) ∧ RunAt w' lab' k L' (s.step t) ∧ Keeps lab k w w') → Keeps lab k w w' ∧ ∃ lab', (∀ b, b < w.heap.size → lab' b = lab b) ∧ Rn w' lab' k L.r (s.step t) := by
    rintro w' ⟨lab', L', e1, e2, e3, e4⟩
    exact ⟨e4, lab', e2, h.fit.step hr, L', e1, e3⟩
  cases hk : s.kid? (s.top t) with
  | none =>
    have hm : s.move t = (t, s.top t, true) := by unfold G.move; rw [hk]
    rw [hm]
    exact (step_end hra h.fit.inv h.fit.n_le t hr hk).mono fun e w' ⟨he, hp⟩ => ⟨he, post w' hp⟩
  | some c =>
    have hm : s.move t = (s.onto t, c, false) := by unfold G.move; rw [hk]
    rw [hm]
    exact (step_beg hra h.fit.inv h.fit.n_le h.fit.T_le t c hr hk).mono fun e w' ⟨he, hp⟩ => ⟨he, post w' hp⟩
theorem Rn.Copy (h : Rn w lab k r s) (k2 : Nat) (hk2 : k2 ≠ 0) : Calls Try.prog 14 #[.pointer (some ⟨r, 0, none⟩)] w fun e w' => ∃ r', e = .returned (.pointer (some ⟨r', 0, none⟩)) ∧ Rn w' (relab lab w.heap.size k2) k2 r' s ∧ Below w.heap.size w w' := by
  obtain ⟨L, rfl, hr⟩ := h.run
  refine (copy_raw hr h.fit.inv.tree.pos h.fit.n_le h.fit.T_ge h.fit.T_le (fun t ht => Nat.le_trans (G.stk_len h.fit.inv ht) h.fit.n_le) k2 hk2).mono ?_
  rintro e w' ⟨L', rfl, h1, h2⟩
  exact ⟨L'.r, rfl, ⟨h.fit, L', rfl, h1⟩, h2⟩

/-- New: a run at its beginning, or none. -/
theorem new_rn {A : Option Addr} {n c : Nat} {wk : Int} {f : Nat → Int} (lab0 : Nat → Nat) (k : Nat) (hk : k ≠ 0) (h0 : ∀ b, b < w.heap.size → lab0 b ≠ k) (hm : n ≤ maxLen) (ha : RdI w A n f) :
    Calls Try.prog 11 #[.slice A n c, .int .i64 wk] w fun e w' =>
      (goodTree n f ∧ ∃ r lab, e = .returned (.tuple #[.pointer (some ⟨r, 0, none⟩), .int .i64 0]) ∧ Rn w' lab k r (G.init n (thr wk) f) ∧ (∀ b, b < w.heap.size → lab b = lab0 b) ∧ Below w.heap.size w w') ∨
      (¬ goodTree n f ∧ e = .returned (.tuple #[.pointer none, .int .i64 2]) ∧ Below w.heap.size w w') := by
  by_cases hn : 1 ≤ n ∧ n ≤ 256
  · refine (new_any A n c wk f w lab0 k hk h0 hn.1 hn.2 ha).mono ?_
    rintro e w' (⟨h1, lab, L, he, hr, hb, hl, _⟩ | ⟨h1, he, hb⟩)
    · exact .inl ⟨⟨hn.1, hn.2, h1⟩, L.r, lab, he, ⟨⟨G.init_inv hn.1 (by have := thr_ge wk; omega) h1, hn.2, thr_ge wk, thr_le wk⟩, L, rfl, hr⟩, hl, hb⟩
    · exact .inr ⟨fun g => h1 g.2.2, he, hb⟩
  · refine (new_len A n c wk w (by omega) hm).mono ?_
    rintro e w' ⟨rfl, rfl⟩
    exact .inr ⟨fun g => hn ⟨g.1, g.2.1⟩, rfl, Below.refl _ _⟩
end
end Go.Proofs.Ytlncdkdkoamadaa
