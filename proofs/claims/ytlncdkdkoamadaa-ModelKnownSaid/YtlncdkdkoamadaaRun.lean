/-
  A RUN AND ITS CALLS, told at the plain machine: what each call answers and leaves of one run of the call's own. P: blocks that no step writes into.
-/
import Derived.Test.YtlncdkdkoamadaaS2
import Derived.Test.YtlncdkdkoamadaaW3
import Derived.Test.YtlncdkdkoamadaaN1
namespace Go.Proofs.Ytlncdkdkoamadaa
open Go.RowKit

/-- The blocks of P are as they were. -/
structure Kept (P : Nat → Prop) (w w' : World) : Prop where
  os : w'.os = w.os
  tape : w'.tape = w.tape
  output : w'.output = w.output
  size : w.heap.size ≤ w'.heap.size
  block : ∀ b, P b → w'.heap[b]? = w.heap[b]?
theorem Kept.below {P : Nat → Prop} {w w' : World} (h : Kept P w w') {B : Nat} (hB : ∀ b, b < B → P b) : Below B w w' :=
  ⟨h.os, h.tape, h.output, h.size, fun b hb => h.block b (hB b hb)⟩
theorem Kept.cell {P : Nat → Prop} {w w' : World} (h : Kept P w w') {p : Addr} (hp : P p.block) : w'.cell? p = w.cell? p := World.cell?_of_block (h.block _ hp)

/-- A run of the call's own. -/
def RunIn (w : World) (P : Nat → Prop) (r : Nat) (s : G) : Prop :=
  s.Inv ∧ s.n ≤ 256 ∧ 2 ≤ s.T ∧ s.T ≤ 17 ∧ (∀ b, P b → b < w.heap.size) ∧ ∃ lab L, L.r = r ∧ RunAt w lab 1 L s ∧ ∀ b, P b → lab b = 2

section
variable {w w' : World} {P P' : Nat → Prop} {r : Nat} {s : G}
theorem RunIn.inv (h : RunIn w P r s) : s.Inv := h.1
theorem RunIn.n_le (h : RunIn w P r s) : s.n ≤ 256 := h.2.1
theorem RunIn.T_ge (h : RunIn w P r s) : 2 ≤ s.T := h.2.2.1
theorem RunIn.T_le (h : RunIn w P r s) : s.T ≤ 17 := h.2.2.2.1
theorem RunIn.P_lt (h : RunIn w P r s) : ∀ b, P b → b < w.heap.size := h.2.2.2.2.1
theorem RunIn.r_lt (h : RunIn w P r s) : r < w.heap.size := by
  obtain ⟨_, _, _, _, _, lab, L, rfl, hr, _⟩ := h
  exact hr.rlt
/-- Behind what writes into nothing of the run: what it has made is kept from there on, too. -/
theorem RunIn.grown {row : Option Nat} (h : RunIn w P r s) (hg : w.grownBy w' row) (hrow : ∀ b, row = some b → b < w.heap.size → P b) (hP : ∀ b, P' b → P b ∨ (w.heap.size ≤ b ∧ b < w'.heap.size)) : RunIn w' P' r s := by
  obtain ⟨h2, h3, h4, h5, h6, lab, L, e, hr, hl⟩ := h
  refine ⟨h2, h3, h4, h5, fun b hb' => ?_, fun b => if b < w.heap.size then lab b else 2, L, e, hr.frame (fun b hb' hlb => hg.block b hb' (fun e => ?_)) (fun b hb' => by simp [hb']), fun b hb' => ?_⟩
  · rcases hP b hb' with h | h
    · have := h6 b h; have := hg.size; omega
    · exact h.2
  · have := hl b (hrow b e.symm hb')
    rcases hlb with h | h <;> omega
  · simp only
    rcases hP b hb' with h | h
    · rw [if_pos (h6 b h)]; exact hl b h
    · rw [if_neg (by omega)]
theorem RunIn.more (h : RunIn w P r s) (hb : Below w.heap.size w w') (hP : ∀ b, P' b → P b ∨ (w.heap.size ≤ b ∧ b < w'.heap.size)) : RunIn w' P' r s :=
  h.grown (row := none) ⟨hb.os, hb.tape, hb.output, hb.size, fun k hk _ => hb.block k hk⟩ (fun _ e => by cases e) hP
theorem RunIn.setCell (h : RunIn w P r s) {p : Addr} (hp : P p.block) (u : Value) : RunIn (w.setCell p u) P r s :=
  h.grown (row := some p.block) ⟨rfl, rfl, rfl, by simp, fun k hk hne => Below.heap_setCell w p u k (fun e => hne (by rw [e]))⟩ (fun b e _ => by cases e; exact hp) (fun b hb => .inl hb)
theorem RunIn.keep (h : RunIn w P r s) (hb : Below w.heap.size w w') : RunIn w' P r s := h.more hb fun _ hb' => .inl hb'
theorem RunIn.less (h : RunIn w P r s) (hP : ∀ b, P' b → P b) : RunIn w P' r s := h.more (Below.refl _ _) fun b hb' => .inl (hP b hb')
theorem RunIn.drewN (h : RunIn w P r s) (j : Nat) : RunIn (w.drewN j) P r s := h.keep (below_drewN (Below.refl _ _) j)
theorem RunIn.alloc (h : RunIn w P r s) (o : Obj) : RunIn (w.alloc o) (fun b => P b ∨ b = w.heap.size) r s :=
  h.more ((Below.refl _ _).alloc (Nat.le_refl _) o) fun b hb => hb.imp id fun e => by subst e; exact ⟨Nat.le_refl _, by simp⟩

theorem RunIn.Ready (h : RunIn w P r s) : Calls Try.prog 20 #[.pointer (some ⟨r, 0, none⟩)] w fun e w' => ∃ v, e = .returned v ∧ w'.ownsRow w.heap.size 3 1 v s.readies.length (intl s.readies) ∧ Below w.heap.size w w' := by
  obtain ⟨h2, h3, h4, h5, _, lab, L, rfl, hr, hl⟩ := h
  exact Ready_any hr h2 h3 h5
theorem RunIn.Open (h : RunIn w P r s) : Calls Try.prog 24 #[.pointer (some ⟨r, 0, none⟩)] w fun e w' => ∃ v, e = .returned v ∧ w'.ownsRow w.heap.size 3 1 v s.opens.length (intl s.opens) ∧ Below w.heap.size w w' := by
  obtain ⟨h2, h3, h4, h5, _, lab, L, rfl, hr, hl⟩ := h
  exact Open_any hr h2 h3
theorem RunIn.Alive (h : RunIn w P r s) : Calls Try.prog 23 #[.pointer (some ⟨r, 0, none⟩)] w fun e w' => e = .returned (.int .i64 s.alive) ∧ w = w' := by
  obtain ⟨h2, h3, h4, h5, _, lab, L, rfl, hr, hl⟩ := h
  exact alive_any hr h2 h3 h4 h5
theorem RunIn.Moves (h : RunIn w P r s) : Calls Try.prog 22 #[.pointer (some ⟨r, 0, none⟩)] w fun e w' => e = .returned (.int .i64 s.mov) ∧ w = w' := by
  obtain ⟨h2, h3, h4, h5, _, lab, L, rfl, hr, hl⟩ := h
  exact moves_any hr
theorem RunIn.Done (h : RunIn w P r s) : Calls Try.prog 21 #[.pointer (some ⟨r, 0, none⟩)] w fun e w' => e = .returned (.bool (s.fin 0)) ∧ w = w' := by
  obtain ⟨h2, h3, h4, h5, _, lab, L, rfl, hr, hl⟩ := h
  have := done_any hr h2
  have e : (!s.opn 0) = s.fin 0 := by simp [G.opn, h2.beg0]
  rwa [e] at this
theorem RunIn.StepNo (h : RunIn w P r s) (t : Int) (hr : rdyI s t = false) : Calls Try.prog 17 #[.pointer (some ⟨r, 0, none⟩), .int .i64 t] w fun e w' => e = .returned (.tuple #[evV 0 0 false, .int .i64 4]) ∧ Below w.heap.size w w' := by
  obtain ⟨h2, h3, h4, h5, _, lab, L, rfl, hra, hl⟩ := h
  exact step_no hra h2 h3 t hr

theorem RunIn.Step (h : RunIn w P r s) (t : Nat) (hr : s.rdy t = true) : Calls Try.prog 17 #[.pointer (some ⟨r, 0, none⟩), .int .i64 t] w fun e w' =>
    e = .returned (.tuple #[evV (s.move t).1 (s.move t).2.1 (s.move t).2.2, .int .i64 0]) ∧ RunIn w' P r (s.step t) ∧ Kept P w w' := by
  obtain ⟨h2, h3, h4, h5, h6, lab, L, rfl, hra, hl⟩ := h
  have post : ∀ w', (∃ lab' L', L'.r = L.r ∧ (∀ b, b < w.heap.size → lab' b = lab b) ∧ RunAt w' lab' 1 L' (s.step t) ∧ Keeps lab 1 w w') → RunIn w' P L.r (s.step t) ∧ Kept P w w' := by
    rintro w' ⟨lab', L', e1, e2, e3, e4⟩
    refine ⟨⟨G.step_inv h2 hr, by rw [G.step_n]; exact h3, by rw [G.step_T]; exact h4, by rw [G.step_T]; exact h5, fun b hb => Nat.lt_of_lt_of_le (h6 b hb) e4.size, lab', L', e1, e3, fun b hb => ?_⟩, e4.os, e4.tape, e4.output, e4.size, fun b hb => e4.block b (h6 b hb) (by rw [hl b hb]; decide)⟩
    rw [e2 b (h6 b hb)]; exact hl b hb
  cases hk : s.kid? (s.top t) with
  | none =>
    have hm : s.move t = (t, s.top t, true) := by unfold G.move; rw [hk]
    rw [hm]
    exact (step_end hra h2 h3 t hr hk).mono fun e w' ⟨he, hp⟩ => ⟨he, post w' hp⟩
  | some c =>
    have hm : s.move t = (s.onto t, c, false) := by unfold G.move; rw [hk]
    rw [hm]
    exact (step_beg hra h2 h3 h5 t c hr hk).mono fun e w' ⟨he, hp⟩ => ⟨he, post w' hp⟩

/-- New: a run at its beginning, or none. -/
theorem new_in {A : Option Addr} {n c : Nat} {wk : Int} {f : Nat → Int} (hP : ∀ b, P b → b < w.heap.size) (hn1 : 1 ≤ n) (hn2 : n ≤ 256) (ha : RdI w A n f) :
    Calls Try.prog 11 #[.slice A n c, .int .i64 wk] w fun e w' =>
      (treeOk n f ∧ ∃ r, e = .returned (.tuple #[.pointer (some ⟨r, 0, none⟩), .int .i64 0]) ∧ RunIn w' P r (G.init n (thr wk) f) ∧ Below w.heap.size w w') ∨
      (¬ treeOk n f ∧ e = .returned (.tuple #[.pointer none, .int .i64 2]) ∧ Below w.heap.size w w') := by
  refine (new_any A n c wk f w (fun _ => 2) 1 (by decide) (fun _ _ => by show (2 : Nat) ≠ 1; decide) hn1 hn2 ha).mono ?_
  rintro e w' (⟨h1, lab, L, he, hr, hb, hl, _⟩ | ⟨h1, he, hb⟩)
  · refine .inl ⟨h1, L.r, he, ⟨G.init_inv hn1 (by have := thr_ge wk; omega) h1, hn2, thr_ge wk, thr_le wk, fun b hb' => Nat.lt_of_lt_of_le (hP b hb') hb.size, lab, L, rfl, hr, fun b hb' => ?_⟩, hb⟩
    rw [hl b (hP b hb')]
  · exact .inr ⟨h1, he, hb⟩
end
end Go.Proofs.Ytlncdkdkoamadaa
