/-
  MEMORY: the runs and the reference's runs of the law ModelPlays, and its two lists of them.
-/
import Derived.Test.YtlncdkdkoamadaaT1
namespace Go.Proofs.Ytlncdkdkoamadaa
open Go.RowKit

/-- A function, turned at one place. -/
def upd {α : Type} (f : Nat → α) (j : Nat) (x : α) : Nat → α := fun i => if i = j then x else f i
theorem upd_same {α : Type} (f : Nat → α) (j : Nat) (x : α) : upd f j x j = x := by simp [upd]
theorem upd_ne {α : Type} (f : Nat → α) {j i : Nat} (x : α) (h : i ≠ j) : upd f j x i = f i := by simp [upd, h]

def ptrs (f : Nat → Nat) (n : Nat) : List Value := (List.range n).map fun j => .pointer (some ⟨f j, 0, none⟩)
theorem ptrs_get {f : Nat → Nat} {n j : Nat} (h : j < n) : (ptrs f n)[j]? = some (.pointer (some ⟨f j, 0, none⟩)) := by simp [ptrs, h]
theorem ptrs_push (f : Nat → Nat) (n z : Nat) : ptrs (upd f n z) (n + 1) = ptrs f n ++ [.pointer (some ⟨z, 0, none⟩)] := by
  unfold ptrs
  rw [List.range_succ, List.map_append]
  congr 1
  · apply List.map_congr_left
    intro j hj
    rw [upd_ne f z (by have := List.mem_range.1 hj; omega)]
  · simp [upd]

/-- Runs bear the labels 1, 3, 5 .., the reference's 2, 4, 6 ..; the two lists 100; what was there before 0. -/
structure PlInv (w wr : World) (lab : Nat → Nat) (Lr Lf : Nat) (vr vf : Value) (rs ys : Nat → Nat) (ss tt : Nat → G) : Prop where
  bel : Below w.heap.size w wr
  lr9 : Lr ≤ 9
  lf9 : Lf ≤ 9
  old : ∀ b, b < w.heap.size → lab b = 0
  run : ∀ j, j < Lr → Rn wr lab (2 * j + 1) (rs j) (ss j)
  ref : ∀ j, j < Lf → Rf wr lab (2 * j + 2) (ys j) (tt j)
  ovr : wr.ownsRow w.heap.size 26 1 vr Lr (ptrs rs Lr)
  ovf : wr.ownsRow w.heap.size 32 1 vf Lf (ptrs ys Lf)
  lvr : ∀ g, vr.ownBlock = some g → lab g = 100
  lvf : ∀ g, vf.ownBlock = some g → lab g = 100

section
variable {w wr w' W' : World} {lab lab' : Nat → Nat} {Lr Lf : Nat} {vr vf vr' vf' : Value} {rs ys : Nat → Nat} {ss tt : Nat → G} {s' : G} {j z : Nat}
theorem PlInv.below (h : PlInv w wr lab Lr Lf vr vf rs ys ss tt) (hb : Below wr.heap.size wr w') (hl : ∀ b, b < wr.heap.size → lab' b = lab b) : PlInv w w' lab' Lr Lf vr vf rs ys ss tt where
  bel := h.bel.trans (hb.mono h.bel.size)
  lr9 := h.lr9
  lf9 := h.lf9
  old := fun b hb' => by rw [hl b (Nat.lt_of_lt_of_le hb' h.bel.size)]; exact h.old b hb'
  run := fun j hj => (h.run j hj).below hb hl
  ref := fun j hj => (h.ref j hj).below hb hl
  ovr := own_below h.ovr hb
  ovf := own_below h.ovf hb
  lvr := fun g hg => by rw [hl g (own_lt h.ovr hg)]; exact h.lvr g hg
  lvf := fun g hg => by rw [hl g (own_lt h.ovf hg)]; exact h.lvf g hg
theorem PlInv.keep (h : PlInv w wr lab Lr Lf vr vf rs ys ss tt) (hb : Below wr.heap.size wr w') : PlInv w w' lab Lr Lf vr vf rs ys ss tt := h.below hb fun _ _ => rfl
theorem PlInv.stepRun (h : PlInv w wr lab Lr Lf vr vf rs ys ss tt) (hj : j < Lr) (hk : Keeps lab (2 * j + 1) wr w') (hl : ∀ b, b < wr.heap.size → lab' b = lab b) (hr : Rn w' lab' (2 * j + 1) (rs j) s') : PlInv w w' lab' Lr Lf vr vf rs ys (upd ss j s') tt where
  bel := h.bel.trans (hk.below h.bel.size (fun b hb => by rw [h.old b hb]; omega))
  lr9 := h.lr9
  lf9 := h.lf9
  old := fun b hb' => by rw [hl b (Nat.lt_of_lt_of_le hb' h.bel.size)]; exact h.old b hb'
  run := fun i hi => by
    by_cases e : i = j
    · subst e; rw [upd_same]; exact hr
    · rw [upd_ne ss s' e]; exact (h.run i hi).other hk (by omega) (by omega) hl
  ref := fun i hi => (h.ref i hi).other hk (by omega) (by omega) hl
  ovr := own_congr h.ovr fun g hg => hk.block g (own_lt h.ovr hg) (by rw [h.lvr g hg]; have := h.lr9; omega)
  ovf := own_congr h.ovf fun g hg => hk.block g (own_lt h.ovf hg) (by rw [h.lvf g hg]; have := h.lr9; omega)
  lvr := fun g hg => by rw [hl g (own_lt h.ovr hg)]; exact h.lvr g hg
  lvf := fun g hg => by rw [hl g (own_lt h.ovf hg)]; exact h.lvf g hg
theorem PlInv.stepRef (h : PlInv w wr lab Lr Lf vr vf rs ys ss tt) (hj : j < Lf) (hk : Keeps lab (2 * j + 2) wr w') (hl : ∀ b, b < wr.heap.size → lab' b = lab b) (hr : Rf w' lab' (2 * j + 2) (ys j) s') : PlInv w w' lab' Lr Lf vr vf rs ys ss (upd tt j s') where
  bel := h.bel.trans (hk.below h.bel.size (fun b hb => by rw [h.old b hb]; omega))
  lr9 := h.lr9
  lf9 := h.lf9
  old := fun b hb' => by rw [hl b (Nat.lt_of_lt_of_le hb' h.bel.size)]; exact h.old b hb'
  ref := fun i hi => by
    by_cases e : i = j
    · subst e; rw [upd_same]; exact hr
    · rw [upd_ne tt s' e]; exact (h.ref i hi).other hk (by omega) (by omega) hl
  run := fun i hi => (h.run i hi).other hk (by omega) (by omega) hl
  ovr := own_congr h.ovr fun g hg => hk.block g (own_lt h.ovr hg) (by rw [h.lvr g hg]; have := h.lf9; omega)
  ovf := own_congr h.ovf fun g hg => hk.block g (own_lt h.ovf hg) (by rw [h.lvf g hg]; have := h.lf9; omega)
  lvr := fun g hg => by rw [hl g (own_lt h.ovr hg)]; exact h.lvr g hg
  lvf := fun g hg => by rw [hl g (own_lt h.ovf hg)]; exact h.lvf g hg

/-- A run more. -/
theorem PlInv.pushRun (h : PlInv w wr lab Lr Lf vr vf rs ys ss tt) (hz : Rn wr lab (2 * Lr + 1) z s') (h9 : Lr + 1 ≤ 9) (hg : wr.grownBy W' vr.ownBlock) (ho : W'.ownsRow w.heap.size 26 1 vr' (Lr + 1) (ptrs rs Lr ++ [.pointer (some ⟨z, 0, none⟩)]))
    (hat : vr'.ownBlock = vr.ownBlock ∨ vr'.ownBlock = some wr.heap.size) : PlInv w W' (fun b => if b < wr.heap.size then lab b else 100) (Lr + 1) Lf vr' vf (upd rs Lr z) ys (upd ss Lr s') tt := by
  have hl : ∀ b, b < wr.heap.size → (fun b => if b < wr.heap.size then lab b else 100) b = lab b := fun b hb => by simp [hb]
  have hbs := h.bel.size
  have hF : ∀ k, k < 100 → ∀ b, b < wr.heap.size → (lab b = k ∨ lab b = 0) → W'.heap[b]? = wr.heap[b]? := fun k hk b hb hkb => hg.block b hb (fun e => by have := h.lvr b e.symm; omega)
  refine ⟨h.bel.grown hg hbs (fun b hb => (h.ovr.lt b hb).1), h9, h.lf9, fun b hb => ?_, fun i hi => ?_, fun i hi => ?_, ?_, ?_, fun g hg' => ?_, fun g hg' => ?_⟩
  · rw [if_pos (Nat.lt_of_lt_of_le hb hbs)]; exact h.old b hb
  · by_cases e : i = Lr
    · subst e
      rw [upd_same, upd_same]
      exact hz.frame (hF _ (by omega)) hl
    · rw [upd_ne _ _ e, upd_ne _ _ e]
      exact (h.run i (by omega)).frame (hF _ (by omega)) hl
  · have := h.lf9
    exact (h.ref i hi).frame hg.size (hF _ (by omega)) hl
  · rw [ptrs_push]; exact ho
  · exact own_congr h.ovf fun g hg' => hg.block g (own_lt h.ovf hg') (fun e => own_ne h.ovr h.ovf (by decide) e.symm hg')
  · rcases hat with e | e
    · rw [e] at hg'
      show (if g < wr.heap.size then lab g else 100) = 100
      rw [if_pos (own_lt h.ovr hg')]; exact h.lvr g hg'
    · rw [hg'] at e; cases e
      show (if wr.heap.size < wr.heap.size then lab wr.heap.size else 100) = 100
      rw [if_neg (Nat.lt_irrefl _)]
  · show (if g < wr.heap.size then lab g else 100) = 100
    rw [if_pos (own_lt h.ovf hg')]; exact h.lvf g hg'
theorem PlInv.pushRef (h : PlInv w wr lab Lr Lf vr vf rs ys ss tt) (hz : Rf wr lab (2 * Lf + 2) z s') (h9 : Lf + 1 ≤ 9) (hg : wr.grownBy W' vf.ownBlock) (ho : W'.ownsRow w.heap.size 32 1 vf' (Lf + 1) (ptrs ys Lf ++ [.pointer (some ⟨z, 0, none⟩)]))
    (hat : vf'.ownBlock = vf.ownBlock ∨ vf'.ownBlock = some wr.heap.size) : PlInv w W' (fun b => if b < wr.heap.size then lab b else 100) Lr (Lf + 1) vr vf' rs (upd ys Lf z) ss (upd tt Lf s') := by
  have hl : ∀ b, b < wr.heap.size → (fun b => if b < wr.heap.size then lab b else 100) b = lab b := fun b hb => by simp [hb]
  have hbs := h.bel.size
  have hF : ∀ k, k < 100 → ∀ b, b < wr.heap.size → (lab b = k ∨ lab b = 0) → W'.heap[b]? = wr.heap[b]? := fun k hk b hb hkb => hg.block b hb (fun e => by have := h.lvf b e.symm; omega)
  refine ⟨h.bel.grown hg hbs (fun b hb => (h.ovf.lt b hb).1), h.lr9, h9, fun b hb => ?_, fun i hi => ?_, fun i hi => ?_, ?_, ?_, fun g hg' => ?_, fun g hg' => ?_⟩
  · rw [if_pos (Nat.lt_of_lt_of_le hb hbs)]; exact h.old b hb
  · have := h.lr9
    exact (h.run i hi).frame (hF _ (by omega)) hl
  · by_cases e : i = Lf
    · subst e
      rw [upd_same, upd_same]
      exact hz.frame hg.size (hF _ (by omega)) hl
    · rw [upd_ne _ _ e, upd_ne _ _ e]
      exact (h.ref i (by omega)).frame hg.size (hF _ (by omega)) hl
  · exact own_congr h.ovr fun g hg' => hg.block g (own_lt h.ovr hg') (fun e => own_ne h.ovf h.ovr (by decide) e.symm hg')
  · rw [ptrs_push]; exact ho
  · show (if g < wr.heap.size then lab g else 100) = 100
    rw [if_pos (own_lt h.ovr hg')]; exact h.lvr g hg'
  · rcases hat with e | e
    · rw [e] at hg'
      show (if g < wr.heap.size then lab g else 100) = 100
      rw [if_pos (own_lt h.ovf hg')]; exact h.lvf g hg'
    · rw [hg'] at e; cases e
      show (if wr.heap.size < wr.heap.size then lab wr.heap.size else 100) = 100
      rw [if_neg (Nat.lt_irrefl _)]

theorem own_one (w : World) (e : TypeId) (u : Value) : (w.alloc (.cells #[u] e)).ownsRow w.heap.size e 1 (.slice (some ⟨w.heap.size, 0, none⟩) 1 1) 1 [u] :=
  World.ownsRow_lit (base := w.heap.size) (e := e) (size := 1) w #[u] 1 (Nat.le_refl _) (by unfold maxLen; omega) rfl
theorem pl_start {w wr W2 : World} {lab : Nat → Nat} {r y : Nat} {s : G} (hb0 : Below w.heap.size w wr) (hlab : ∀ b, b < w.heap.size → lab b = 0) (hr : Rn wr lab 1 r s)
    (hf : Rf W2 (relab (fun b => if b < wr.heap.size then lab b else 100) (wr.alloc (.cells #[.pointer (some ⟨r, 0, none⟩)] 26)).heap.size 2) 2 y s) (hb : Below (wr.alloc (.cells #[.pointer (some ⟨r, 0, none⟩)] 26)).heap.size (wr.alloc (.cells #[.pointer (some ⟨r, 0, none⟩)] 26)) W2) :
    ∃ lab', PlInv w (W2.alloc (.cells #[.pointer (some ⟨y, 0, none⟩)] 32)) lab' 1 1 (.slice (some ⟨wr.heap.size, 0, none⟩) 1 1) (.slice (some ⟨W2.heap.size, 0, none⟩) 1 1) (fun _ => r) (fun _ => y) (fun _ => s) (fun _ => s) := by
  have hsz : (wr.alloc (.cells #[.pointer (some ⟨r, 0, none⟩)] 26)).heap.size = wr.heap.size + 1 := by simp
  have hbs := hb0.size
  have hb1 : Below wr.heap.size wr (wr.alloc (.cells #[.pointer (some ⟨r, 0, none⟩)] 26)) := (Below.refl _ _).alloc (Nat.le_refl _) _
  have hb2 := hb1.trans (hb.mono hb1.size)
  have hb3 : Below W2.heap.size W2 (W2.alloc (.cells #[.pointer (some ⟨y, 0, none⟩)] 32)) := (Below.refl _ _).alloc (Nat.le_refl _) _
  have hs2 := hb.size
  rw [hsz] at hs2
  have hL : ∀ b, b < wr.heap.size → relab (fun b => if b < wr.heap.size then lab b else 100) (wr.alloc (.cells #[.pointer (some ⟨r, 0, none⟩)] 26)).heap.size 2 b = lab b := fun b h => by
    rw [relab_lt (by omega)]; simp [h]
  have hL1 : relab (fun b => if b < wr.heap.size then lab b else 100) (wr.alloc (.cells #[.pointer (some ⟨r, 0, none⟩)] 26)).heap.size 2 wr.heap.size = 100 := by
    rw [relab_lt (by omega)]; simp
  have h1 := own_below (own_below (own_one wr 26 (.pointer (some ⟨r, 0, none⟩))) hb) hb3
  have h2 := own_one W2 32 (.pointer (some ⟨y, 0, none⟩))
  refine ⟨fun b => if b < W2.heap.size then relab (fun b => if b < wr.heap.size then lab b else 100) (wr.alloc (.cells #[.pointer (some ⟨r, 0, none⟩)] 26)).heap.size 2 b else 100, (hb0.trans (hb2.mono hbs)).trans (hb3.mono (by omega)), by omega, by omega, fun b hb' => ?_, fun j hj => ?_, fun j hj => ?_, own_base h1 hbs, own_base h2 (by omega), fun g hg => ?_, fun g hg => ?_⟩
  · rw [if_pos (by omega), hL b (by omega)]; exact hlab b hb'
  · have e : j = 0 := by omega
    subst e
    exact (hr.below hb2 hL).below hb3 (fun b hb' => by simp [hb'])
  · have e : j = 0 := by omega
    subst e
    exact hf.below hb3 (fun b hb' => by simp [hb'])
  · have e : wr.heap.size = g := Option.some.inj hg
    subst e
    rw [if_pos (by omega)]; exact hL1
  · have e : W2.heap.size = g := Option.some.inj hg
    subst e
    rw [if_neg (Nat.lt_irrefl _)]
end
end Go.Proofs.Ytlncdkdkoamadaa
