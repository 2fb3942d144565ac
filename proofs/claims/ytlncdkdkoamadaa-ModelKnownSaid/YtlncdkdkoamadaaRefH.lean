/-
  MEMORY: what the reference's run looks like in memory; what stores and new blocks leave of it.
-/
import Derived.Test.YtlncdkdkoamadaaRn
namespace Go.Proofs.Ytlncdkdkoamadaa
open Go.RowKit

/-- Where a reference's run lies. -/
structure RLay where
  r : Nat
  A : Option Addr
  c : Nat
  vst : Value
  vbe : Value
  ven : Value
  vs : Nat → Value

/-- The reference's run in memory. Its own blocks bear the label k; the parents, which nobody writes into, 0. -/
structure RefRaw (w : World) (lab : Nat → Nat) (k : Nat) (R : RLay) (s : G) : Prop where
  k0 : k ≠ 0
  blk : w.heap[R.r]? = some (.cells #[.slice R.A s.n R.c, R.vst, R.vbe, R.ven, .int .i64 s.mov] 63 (0, 0))
  pa : RdI w R.A s.n s.par
  st : w.ownsRow 0 22 1 R.vst s.T ((List.range s.T).map R.vs)
  be : w.ownsRow 0 4 1 R.vbe s.n (bools s.beg s.n)
  en : w.ownsRow 0 4 1 R.ven s.n (bools s.fin s.n)
  ss : ∀ t, t < s.T → w.ownsRow 0 3 1 (R.vs t) (s.stk t).length (intl (s.stk t))
  lr : lab R.r = k
  lpa : ∀ ad, R.A = some ad → lab ad.block = 0
  lst : ∀ g, R.vst.ownBlock = some g → lab g = k
  lbe : ∀ g, R.vbe.ownBlock = some g → lab g = k
  len : ∀ g, R.ven.ownBlock = some g → lab g = k
  lss : ∀ t, t < s.T → ∀ g, (R.vs t).ownBlock = some g → lab g = k
  d1 : Apart R.vbe R.ven
  d3 : ∀ t u, t < s.T → u < s.T → t ≠ u → Apart (R.vs t) (R.vs u)

section
variable {w w' : World} {lab lab' : Nat → Nat} {k : Nat} {R : RLay} {s : G}
theorem RdI.frame {A : Option Addr} {n : Nat} {f : Nat → Int} (h : RdI w A n f) (hs : w.heap.size ≤ w'.heap.size) (hb : ∀ ad, A = some ad → ad.block < w.heap.size → w'.heap[ad.block]? = w.heap[ad.block]?) : RdI w' A n f := fun hn => by
  obtain ⟨b, off, rfl, hl, hc⟩ := h hn
  exact ⟨b, off, rfl, Nat.lt_of_lt_of_le hl hs, fun i hi => (World.cell?_of_block (a := ⟨b, off + i, none⟩) (hb ⟨b, off, none⟩ rfl hl)).trans (hc i hi)⟩
theorem RefRaw.rlt (h : RefRaw w lab k R s) : R.r < w.heap.size := (Array.getElem?_eq_some_iff.1 h.blk).1
theorem RefRaw.frame (h : RefRaw w lab k R s) (hs : w.heap.size ≤ w'.heap.size) (hb : ∀ b, b < w.heap.size → (lab b = k ∨ lab b = 0) → w'.heap[b]? = w.heap[b]?) (hl : ∀ b, b < w.heap.size → lab' b = lab b) (h0 : ∀ b, lab b = 0 → lab' b = 0) : RefRaw w' lab' k R s where
  k0 := h.k0
  blk := by rw [hb _ h.rlt (.inl h.lr)]; exact h.blk
  pa := h.pa.frame hs fun ad had hlt => hb _ hlt (.inr (h.lpa ad had))
  st := own_congr h.st fun g hg => hb g (own_lt h.st hg) (.inl (h.lst g hg))
  be := own_congr h.be fun g hg => hb g (own_lt h.be hg) (.inl (h.lbe g hg))
  en := own_congr h.en fun g hg => hb g (own_lt h.en hg) (.inl (h.len g hg))
  ss := fun t ht => own_congr (h.ss t ht) fun g hg => hb g (own_lt (h.ss t ht) hg) (.inl (h.lss t ht g hg))
  lr := by rw [hl _ h.rlt]; exact h.lr
  lpa := fun ad had => h0 _ (h.lpa ad had)
  lst := fun g hg => by rw [hl _ (own_lt h.st hg)]; exact h.lst g hg
  lbe := fun g hg => by rw [hl _ (own_lt h.be hg)]; exact h.lbe g hg
  len := fun g hg => by rw [hl _ (own_lt h.en hg)]; exact h.len g hg
  lss := fun t ht g hg => by rw [hl _ (own_lt (h.ss t ht) hg)]; exact h.lss t ht g hg
  d1 := h.d1
  d3 := h.d3
theorem RefRaw.below (h : RefRaw w lab k R s) (hb : Below w.heap.size w w') : RefRaw w' lab k R s :=
  h.frame hb.size (fun b hlt _ => hb.block b hlt) (fun _ _ => rfl) (fun _ h => h)

theorem RefRaw.setMov (h : RefRaw w lab k R s) (m : Nat) (x : Int) (hx : x = m) : RefRaw (w.setCell ⟨R.r, 4, none⟩ (.int .i64 x)) lab k R { s with mov := m } where
  k0 := h.k0
  blk := by subst hx; rw [blk_set h.blk]; rfl
  pa := h.pa.frame (by simp) fun ad had hlt => set_blk _ (fun e => h.k0 (by rw [← h.lr, ← e]; exact h.lpa ad had))
  st := set_own h.st _ (own_blk_ne h.st h.blk (by decide))
  be := set_own h.be _ (own_blk_ne h.be h.blk (by decide))
  en := set_own h.en _ (own_blk_ne h.en h.blk (by decide))
  ss := fun t ht => set_own (h.ss t ht) _ (own_blk_ne (h.ss t ht) h.blk (by decide))
  lr := h.lr
  lpa := h.lpa
  lst := h.lst
  lbe := h.lbe
  len := h.len
  lss := h.lss
  d1 := h.d1
  d3 := h.d3
theorem RefRaw.setBeg (h : RefRaw w lab k R s) {g c i : Nat} (hv : R.vbe = .slice (some ⟨g, 0, none⟩) s.n c) (b : Bool) (f : Nat → Bool) (hf : f i = b) (hf' : ∀ j, j ≠ i → f j = s.beg j) :
    RefRaw (w.setCell ⟨g, i, none⟩ (.bool b)) lab k R { s with beg := f } :=
  have hb : R.vbe.ownBlock = some g := by rw [hv]; rfl
  { k0 := h.k0
    blk := by rw [set_blk _ (fun e => own_blk_ne h.be h.blk (by decide) (by rw [hb]; exact congrArg some e.symm))]; exact h.blk
    pa := h.pa.frame (by simp) fun ad had hlt => set_blk _ (fun e => h.k0 (by rw [← h.lbe g hb, ← e]; exact h.lpa ad had))
    st := set_own h.st _ (fun e => own_ne h.st h.be (by decide) e hb)
    be := by
      have h1 := h.be
      rw [hv] at h1 ⊢
      have h2 := (h1.stored i (.bool b)).1
      rw [bools_set (f' := f) hf.symm hf'] at h2
      exact h2
    en := set_own h.en _ (h.d1 g hb)
    ss := fun t ht => set_own (h.ss t ht) _ (fun e => own_ne (h.ss t ht) h.be (by decide) e hb)
    lr := h.lr
    lpa := h.lpa
    lst := h.lst
    lbe := h.lbe
    len := h.len
    lss := h.lss
    d1 := h.d1
    d3 := h.d3 }
theorem RefRaw.setFin (h : RefRaw w lab k R s) {g c i : Nat} (hv : R.ven = .slice (some ⟨g, 0, none⟩) s.n c) (b : Bool) (f : Nat → Bool) (hf : f i = b) (hf' : ∀ j, j ≠ i → f j = s.fin j) :
    RefRaw (w.setCell ⟨g, i, none⟩ (.bool b)) lab k R { s with fin := f } :=
  have hb : R.ven.ownBlock = some g := by rw [hv]; rfl
  { k0 := h.k0
    blk := by rw [set_blk _ (fun e => own_blk_ne h.en h.blk (by decide) (by rw [hb]; exact congrArg some e.symm))]; exact h.blk
    pa := h.pa.frame (by simp) fun ad had hlt => set_blk _ (fun e => h.k0 (by rw [← h.len g hb, ← e]; exact h.lpa ad had))
    st := set_own h.st _ (fun e => own_ne h.st h.en (by decide) e hb)
    en := by
      have h1 := h.en
      rw [hv] at h1 ⊢
      have h2 := (h1.stored i (.bool b)).1
      rw [bools_set (f' := f) hf.symm hf'] at h2
      exact h2
    be := set_own h.be _ (fun e => h.d1 g e hb)
    ss := fun t ht => set_own (h.ss t ht) _ (fun e => own_ne (h.ss t ht) h.en (by decide) e hb)
    lr := h.lr
    lpa := h.lpa
    lst := h.lst
    lbe := h.lbe
    len := h.len
    lss := h.lss
    d1 := h.d1
    d3 := h.d3 }
theorem RefRaw.setStk (h : RefRaw w lab k R s) {g c t : Nat} (hv : R.vst = .slice (some ⟨g, 0, none⟩) s.T c) (v : Value) (l : List Nat) (vs : Nat → Value) (stk : Nat → List Nat)
    (e1 : vs t = v) (e2 : ∀ u, u ≠ t → vs u = R.vs u) (e3 : stk t = l) (e4 : ∀ u, u ≠ t → stk u = s.stk u)
    (ho : w.ownsRow 0 3 1 v l.length (intl l)) (hl : ∀ b, v.ownBlock = some b → lab b = k ∧ ∀ u, u < s.T → u ≠ t → (R.vs u).ownBlock ≠ some b) :
    RefRaw (w.setCell ⟨g, t, none⟩ v) lab k { R with vs := vs } { s with stk := stk } :=
  have hb : R.vst.ownBlock = some g := by rw [hv]; rfl
  { k0 := h.k0
    blk := by rw [set_blk _ (fun e => own_blk_ne h.st h.blk (by decide) (by rw [hb]; exact congrArg some e.symm))]; exact h.blk
    pa := h.pa.frame (by simp) fun ad had hlt => set_blk _ (fun e => h.k0 (by rw [← h.lst g hb, ← e]; exact h.lpa ad had))
    st := by
      have h1 := h.st
      show (w.setCell ⟨g, t, none⟩ v).ownsRow 0 22 1 R.vst s.T ((List.range s.T).map vs)
      rw [hv] at h1 ⊢
      have h2 := (h1.stored t v).1
      rw [vals_set] at h2
      have e : (List.range s.T).map vs = (List.range s.T).map fun j => if j = t then v else R.vs j := by
        apply List.map_congr_left
        intro j _
        by_cases ej : j = t
        · subst ej; simp [e1]
        · simp [ej, e2 j ej]
      rw [e]; exact h2
    be := set_own h.be _ (fun e => own_ne h.be h.st (by decide) e hb)
    en := set_own h.en _ (fun e => own_ne h.en h.st (by decide) e hb)
    ss := fun u hu => by
      show (w.setCell ⟨g, t, none⟩ v).ownsRow 0 3 1 (vs u) (stk u).length (intl (stk u))
      by_cases e : u = t
      · subst e
        rw [e1, e3]
        exact set_own ho _ (fun e => own_ne ho h.st (by decide) e hb)
      · rw [e2 u e, e4 u e]
        exact set_own (h.ss u hu) _ (fun e => own_ne (h.ss u hu) h.st (by decide) e hb)
    lr := h.lr
    lpa := h.lpa
    lst := h.lst
    lbe := h.lbe
    len := h.len
    lss := fun u hu b hb' => by
      change (vs u).ownBlock = some b at hb'
      by_cases e : u = t
      · subst e; rw [e1] at hb'; exact (hl b hb').1
      · rw [e2 u e] at hb'; exact h.lss u hu b hb'
    d1 := h.d1
    d3 := fun u x hu hx hux b hb' => by
      change (vs u).ownBlock = some b at hb'
      show (vs x).ownBlock ≠ some b
      by_cases e : u = t
      · subst e
        rw [e1] at hb'
        rw [e2 x (fun e => hux e.symm)]
        exact (hl b hb').2 x hx (fun e => hux e.symm)
      · rw [e2 u e] at hb'
        by_cases e' : x = t
        · subst e'
          rw [e1]
          intro hv'
          exact (hl b hv').2 u hu e hb'
        · rw [e2 x e']
          exact h.d3 u x hu hx hux b hb' }

theorem RefRaw.cell (h : RefRaw w lab k R s) (i : Nat) : w.cell? ⟨R.r, i, none⟩ = #[.slice R.A s.n R.c, R.vst, R.vbe, R.ven, .int .i64 s.mov][i]? := cell_of_row w R.r i _ 63 (0, 0) h.blk
theorem RefRaw.free (h : RefRaw w lab k R s) (i : Nat) : w.frozen? ⟨R.r, i, none⟩ = false := frozen_of_row w R.r i _ 63 h.blk
theorem RefRaw.fields (h : RefRaw w lab k R s) : w.cell? ⟨R.r, 0, none⟩ = some (.slice R.A s.n R.c) ∧ w.cell? ⟨R.r, 1, none⟩ = some R.vst ∧ w.cell? ⟨R.r, 2, none⟩ = some R.vbe ∧ w.cell? ⟨R.r, 3, none⟩ = some R.ven ∧ w.cell? ⟨R.r, 4, none⟩ = some (.int .i64 s.mov) :=
  ⟨h.cell 0, h.cell 1, h.cell 2, h.cell 3, h.cell 4⟩
theorem RefRaw.stacks (h : RefRaw w lab k R s) (hT : 1 ≤ s.T) : ∃ gs cs, R.vst = .slice (some ⟨gs, 0, none⟩) s.T cs ∧ s.T ≤ cs ∧ cs ≤ maxLen ∧ gs < w.heap.size ∧ (∀ t, t < s.T → w.cell? ⟨gs, t, none⟩ = some (R.vs t)) ∧ ∀ t, w.frozen? ⟨gs, t, none⟩ = false := by
  obtain ⟨g, cap, hv, _, hl, h1, h2, hc, hf⟩ := own_some h.st (by omega)
  exact ⟨g, cap, hv, h1, h2, hl, fun t ht => hc t _ (vals_get ht), hf⟩
theorem RefRaw.begs (h : RefRaw w lab k R s) (hn : 1 ≤ s.n) : ∃ gs cs, R.vbe = .slice (some ⟨gs, 0, none⟩) s.n cs ∧ s.n ≤ cs ∧ cs ≤ maxLen ∧ gs < w.heap.size ∧ (∀ t, t < s.n → w.cell? ⟨gs, t, none⟩ = some (.bool (s.beg t))) ∧ ∀ t, w.frozen? ⟨gs, t, none⟩ = false := by
  obtain ⟨g, cap, hv, _, hl, h1, h2, hc, hf⟩ := own_some h.be (by omega)
  exact ⟨g, cap, hv, h1, h2, hl, fun t ht => hc t _ (bools_get ht), hf⟩
theorem RefRaw.fins (h : RefRaw w lab k R s) (hn : 1 ≤ s.n) : ∃ gs cs, R.ven = .slice (some ⟨gs, 0, none⟩) s.n cs ∧ s.n ≤ cs ∧ cs ≤ maxLen ∧ gs < w.heap.size ∧ (∀ t, t < s.n → w.cell? ⟨gs, t, none⟩ = some (.bool (s.fin t))) ∧ ∀ t, w.frozen? ⟨gs, t, none⟩ = false := by
  obtain ⟨g, cap, hv, _, hl, h1, h2, hc, hf⟩ := own_some h.en (by omega)
  exact ⟨g, cap, hv, h1, h2, hl, fun t ht => hc t _ (bools_get ht), hf⟩
theorem RefRaw.pars (h : RefRaw w lab k R s) (hn : 1 ≤ s.n) : ∃ b off, R.A = some ⟨b, off, none⟩ ∧ b < w.heap.size ∧ ∀ i, i < s.n → w.cell? ⟨b, off + i, none⟩ = some (.int .i64 (s.par i)) := h.pa hn
theorem RefRaw.stack (h : RefRaw w lab k R s) {t : Nat} (ht : t < s.T) : ∃ A c, R.vs t = .slice A (s.stk t).length c := by
  obtain ⟨A, c, hv, _⟩ := own_any (h.ss t ht)
  exact ⟨A, c, hv⟩
theorem RefRaw.stackTop (h : RefRaw w lab k R s) {t : Nat} (ht : t < s.T) (hne : (s.stk t).isEmpty = false) : ∃ g c, R.vs t = .slice (some ⟨g, 0, none⟩) (s.stk t).length c ∧ (s.stk t).length ≤ c ∧ c ≤ maxLen ∧ g < w.heap.size ∧ (R.vs t).ownBlock = some g ∧
    w.cell? ⟨g, (s.stk t).length - 1, none⟩ = some (.int .i64 (s.top t)) := by
  have hpos : 0 < (s.stk t).length := by
    cases e : s.stk t with
    | nil => rw [e] at hne; cases hne
    | cons => simp
  obtain ⟨g, cap, hv, hob, hl, h1, h2, hc, hf⟩ := own_some (h.ss t ht) hpos
  refine ⟨g, cap, hv, h1, h2, hl, hob, hc _ _ (intl_get ?_)⟩
  unfold G.top
  rw [List.getLastD_eq_getLast?, ← List.getLast?_eq_getElem?]
  cases e : s.stk t with
  | nil => rw [e] at hne; cases hne
  | cons x l => simp [List.getLast?_cons]
end
end Go.Proofs.Ytlncdkdkoamadaa
