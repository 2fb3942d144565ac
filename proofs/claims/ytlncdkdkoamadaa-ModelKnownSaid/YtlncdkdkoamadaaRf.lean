/-
  THE REFERENCE'S RUN AND ITS CALLS, at any label: what each call answers and leaves; copies.
-/
import Derived.Test.YtlncdkdkoamadaaR3
import Derived.Test.YtlncdkdkoamadaaR4
import Derived.Test.YtlncdkdkoamadaaR6
namespace Go.Proofs.Ytlncdkdkoamadaa
open Go.RowKit

/-- A reference's run in memory, its own blocks at label k. -/
structure Rf (w : World) (lab : Nat → Nat) (k r : Nat) (s : G) : Prop where
  fit : Fit s
  run : ∃ R, R.r = r ∧ RefRaw w lab k R s

section
variable {w w' : World} {lab lab' : Nat → Nat} {k k' r : Nat} {s : G}
theorem Rf.frame (h : Rf w lab k r s) (hs : w.heap.size ≤ w'.heap.size) (hb : ∀ b, b < w.heap.size → (lab b = k ∨ lab b = 0) → w'.heap[b]? = w.heap[b]?) (hl : ∀ b, b < w.heap.size → lab' b = lab b) : Rf w' lab' k r s := by
  obtain ⟨R, e, hr⟩ := h.run
  refine ⟨h.fit, R, e, ?_⟩
  have h1 := hr.frame hs hb (lab' := lab) (fun _ _ => rfl) (fun _ h => h)
  obtain ⟨b, off, hA, hbl, _⟩ := hr.pa h.fit.inv.tree.pos
  exact { h1 with
    lr := by rw [hl _ hr.rlt]; exact hr.lr
    lpa := fun ad had => by
      rw [hA] at had; cases had
      rw [hl _ hbl]; exact hr.lpa _ hA
    lst := fun g hg => by rw [hl _ (own_lt hr.st hg)]; exact hr.lst g hg
    lbe := fun g hg => by rw [hl _ (own_lt hr.be hg)]; exact hr.lbe g hg
    len := fun g hg => by rw [hl _ (own_lt hr.en hg)]; exact hr.len g hg
    lss := fun t ht g hg => by rw [hl _ (own_lt (hr.ss t ht) hg)]; exact hr.lss t ht g hg }
theorem Rf.below (h : Rf w lab k r s) (hb : Below w.heap.size w w') (hl : ∀ b, b < w.heap.size → lab' b = lab b) : Rf w' lab' k r s := h.frame hb.size (fun b hlt _ => hb.block b hlt) hl
theorem Rf.keep (h : Rf w lab k r s) (hb : Below w.heap.size w w') : Rf w' lab k r s := h.below hb fun _ _ => rfl
theorem Rf.other {j : Nat} (h : Rf w lab j r s) (hk : Keeps lab k w w') (hj : j ≠ k) (h0 : 0 ≠ k) (hl : ∀ b, b < w.heap.size → lab' b = lab b) : Rf w' lab' j r s :=
  h.frame hk.size (fun b hb hl => hk.block b hb (by rcases hl with e | e <;> omega)) hl
theorem Rf.rlt (h : Rf w lab k r s) : r < w.heap.size := by
  obtain ⟨R, rfl, hr⟩ := h.run
  exact hr.rlt

theorem Rf.All (h : Rf w lab k r s) : Calls Try.prog 30 #[.pointer (some ⟨r, 0, none⟩)] w fun e w' => ∃ v, e = .returned v ∧ w'.ownsRow w.heap.size 3 1 v s.readies.length (intl s.readies) ∧ Below w.heap.size w w' := by
  obtain ⟨R, rfl, hr⟩ := h.run
  exact refAll_any hr h.fit.inv h.fit.n_le h.fit.T_le
theorem Rf.Open (h : Rf w lab k r s) : Calls Try.prog 36 #[.pointer (some ⟨r, 0, none⟩)] w fun e w' => ∃ v, e = .returned v ∧ w'.ownsRow w.heap.size 3 1 v s.opens.length (intl s.opens) ∧ Below w.heap.size w w' := by
  obtain ⟨R, rfl, hr⟩ := h.run
  exact refOpen_any hr h.fit.inv h.fit.n_le
theorem Rf.Alive (h : Rf w lab k r s) : Calls Try.prog 37 #[.pointer (some ⟨r, 0, none⟩)] w fun e w' => e = .returned (.int .i64 s.alive) ∧ w = w' := by
  obtain ⟨R, rfl, hr⟩ := h.run
  exact refAlive_any hr h.fit.inv h.fit.T_ge h.fit.T_le
theorem Rf.Ready (h : Rf w lab k r s) (t : Int) : Calls Try.prog 18 #[.pointer (some ⟨r, 0, none⟩), .int .i64 t] w fun e w' => e = .returned (.bool (rdyI s t)) ∧ ∃ j, w.drewN j = w' := by
  obtain ⟨R, rfl, hr⟩ := h.run
  exact refReady_any hr h.fit.inv h.fit.n_le t
theorem Rf.Step (h : Rf w lab k r s) (t : Nat) (hr : s.rdy t = true) : Calls Try.prog 19 #[.pointer (some ⟨r, 0, none⟩), .int .i64 (t : Nat)] w fun e w' =>
    e = .returned (.tuple #[.int .i64 ((s.move t).1 : Nat), .int .i64 ((s.move t).2.1 : Nat), .bool (s.move t).2.2]) ∧ Keeps lab k w w' ∧ ∃ lab', (∀ b, b < w.heap.size → lab' b = lab b) ∧ Rf w' lab' k r (s.step t) := by
  obtain ⟨R, rfl, hra⟩ := h.run
  refine (refStep_any hra h.fit.inv h.fit.n_le t hr).mono ?_
  rintro e w' ⟨he, lab', R', e1, hM⟩
  exact ⟨he, hM.keep, lab', hM.la, h.fit.step hr, R', e1, hM.run⟩
theorem Rf.Copy (h : Rf w lab k r s) (k2 : Nat) (hk2 : k2 ≠ 0) : Calls Try.prog 16 #[.pointer (some ⟨r, 0, none⟩)] w fun e w' => ∃ r', e = .returned (.pointer (some ⟨r', 0, none⟩)) ∧ Rf w' (relab lab w.heap.size k2) k2 r' s ∧ Below w.heap.size w w' := by
  obtain ⟨R, rfl, hr⟩ := h.run
  refine (refCopy_any hr h.fit.inv h.fit.n_le h.fit.T_le k2 hk2).mono ?_
  rintro e w' ⟨R', rfl, h1, h2⟩
  exact ⟨R'.r, rfl, ⟨h.fit, R', rfl, h1⟩, h2⟩
/-- The fields that the laws read. -/
theorem Rf.moves (h : Rf w lab k r s) : w.cell? ⟨r, 4, none⟩ = some (.int .i64 s.mov) := by
  obtain ⟨R, rfl, hr⟩ := h.run
  exact hr.fields.2.2.2.2
theorem Rf.ended (h : Rf w lab k r s) : ∃ g c, w.cell? ⟨r, 3, none⟩ = some (.slice (some ⟨g, 0, none⟩) s.n c) ∧ w.cell? ⟨g, 0, none⟩ = some (.bool (s.fin 0)) ∧ s.n ≤ c ∧ c ≤ maxLen := by
  obtain ⟨R, rfl, hr⟩ := h.run
  obtain ⟨g, c, hv, h1, h2, _, hc, _⟩ := hr.fins h.fit.inv.tree.pos
  exact ⟨g, c, by rw [hr.fields.2.2.2.1, hv], hc 0 h.fit.inv.tree.pos, h1, h2⟩
theorem new_rf {A : Option Addr} {n c : Nat} {wk : Int} {f : Nat → Int} (k : Nat) (hk : k ≠ 0) (hA : ∀ ad, A = some ad → lab ad.block = 0) (hg : goodTree n f) (ha : RdI w A n f) :
    Calls Try.prog 13 #[.slice A n c, .int .i64 wk] w fun e w' => ∃ r, e = .returned (.pointer (some ⟨r, 0, none⟩)) ∧ Rf w' (relab lab w.heap.size k) k r (G.init n (thr wk) f) ∧ Below w.heap.size w w' := by
  refine (refNew_any A n c wk f lab k hk hA hg.1 hg.2.1 ha).mono ?_
  rintro e w' ⟨R, rfl, h1, h2⟩
  exact ⟨R.r, rfl, ⟨⟨G.init_inv hg.1 (by have := thr_ge wk; omega) hg.2.2, hg.2.1, thr_ge wk, thr_le wk⟩, R, rfl, h1⟩, h2⟩
end
end Go.Proofs.Ytlncdkdkoamadaa
