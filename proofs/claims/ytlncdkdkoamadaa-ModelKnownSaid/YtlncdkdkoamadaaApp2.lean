/-
  MEMORY: a stack grows by append, then its slice is written anew.
-/
import Derived.Test.YtlncdkdkoamadaaHeap
import Derived.Test.YtlncdkdkoamadaaApp
namespace Go.Proofs.Ytlncdkdkoamadaa
open Go.RowKit
section
variable {w w' : World} {lab lab' : Nat → Nat} {k : Nat} {L : Lay} {s : D}

theorem far_grown {base size n : Nat} {e : TypeId} {v : Value} {xs : List Value} (h : w.ownsRow base e size v n xs) {row : Option Nat} (hg : w.grownBy w' row) (hne : ∀ g, v.ownBlock = some g → row ≠ some g) : w'.ownsRow base e size v n xs :=
  own_congr h fun g hv => hg.block g (own_lt h hv) (fun e => hne g hv e.symm)

/-- What of a run is as it was in a world in which one of its stacks' rows was written, and new blocks were made. -/
theorem RunRaw.grownStk (h : RunRaw w lab k L s) {t : Nat} (ht : t < s.T) (hg : w.grownBy w' (L.vs t).ownBlock) :
    w'.heap[L.r]? = some (.cells #[L.vch, L.vnx, L.vou, L.vpa, L.vst, L.vop, .int .i64 s.mov] 67 (0, 0)) ∧ w'.ownsRow 0 22 1 L.vst s.T ((List.range s.T).map L.vs) := by
  refine ⟨?_, far_grown h.st hg (fun g hv e => own_ne (h.ss t ht) h.st (by decide) e hv)⟩
  rw [hg.block _ h.rlt (fun e => own_blk_ne (h.ss t ht) h.blk (by decide) e.symm)]
  exact h.blk

theorem RunRaw.app (h : RunRaw w lab k L s) {t : Nat} (ht : t < s.T) (hg : w.grownBy w' (L.vs t).ownBlock) {g c : Nat} (hv : L.vst = .slice (some ⟨g, 0, none⟩) s.T c) (v : Value) (l : List Nat) (vs : Nat → Value) (stk : Nat → List Nat)
    (e1 : vs t = v) (e2 : ∀ u, u ≠ t → vs u = L.vs u) (e3 : stk t = l) (e4 : ∀ u, u ≠ t → stk u = s.stk u)
    (ho : w'.ownsRow 0 3 1 v l.length (intl l)) (hat : v.ownBlock = (L.vs t).ownBlock ∨ ∃ b, v.ownBlock = some b ∧ w.heap.size ≤ b ∧ lab' b = k)
    (hl : ∀ b, b < w.heap.size → lab' b = lab b) :
    RunRaw (w'.setCell ⟨g, t, none⟩ v) lab' k { L with vs := vs } { s with stk := stk } := by
  have hb : L.vst.ownBlock = some g := by rw [hv]; rfl
  obtain ⟨hblk, hst⟩ := h.grownStk ht hg
  have hch := far_grown h.ch hg (fun g hv e => own_ne (h.ss t ht) h.ch (by decide) e hv)
  have hnx := far_grown h.nx hg (fun g hv e => (h.d2 t ht g e).1 hv)
  have hou := far_grown h.ou hg (fun g hv e => (h.d2 t ht g e).2 hv)
  have hpa := far_grown h.pa hg (fun g hv e => h.k0 ((h.lss t ht g e).symm.trans (h.lpa g hv)))
  have hop := far_grown h.op hg (fun g hv e => own_ne (h.ss t ht) h.op (by decide) e hv)
  have hcs := fun p hp => far_grown (h.cs p hp) hg (fun g hv e => h.k0 ((h.lss t ht g e).symm.trans (h.lcs p hp g hv)))
  have hss := fun u hu (hut : u ≠ t) => far_grown (h.ss u hu) hg (fun g hv e => h.d3 t u ht hu (fun e => hut e.symm) g e hv)
  -- what the new value owns is none of the others'
  have hfar : ∀ b, v.ownBlock = some b → lab' b = k ∧ L.vnx.ownBlock ≠ some b ∧ L.vou.ownBlock ≠ some b ∧ ∀ u, u < s.T → u ≠ t → (L.vs u).ownBlock ≠ some b := by
    intro b hbv
    rcases hat with e | ⟨b', e, hge, hlb⟩
    · rw [hbv] at e
      have e := e.symm
      refine ⟨by rw [hl b (own_lt (h.ss t ht) e)]; exact h.lss t ht b e, (h.d2 t ht b e).1, (h.d2 t ht b e).2, fun u hu hut => h.d3 t u ht hu (fun e => hut e.symm) b e⟩
    · rw [hbv] at e
      cases e
      refine ⟨hlb, fun e => ?_, fun e => ?_, fun u hu hut e => ?_⟩
      · have := own_lt h.nx e; omega
      · have := own_lt h.ou e; omega
      · have := own_lt (h.ss u hu) e; omega
  exact {
    k0 := h.k0
    blk := by rw [set_blk _ (fun e => own_blk_ne hst hblk (by decide) (by rw [hb]; exact congrArg some e.symm))]; exact hblk
    ch := set_own hch _ (lab_ne h.lst h.lch h.k0 hb)
    nx := set_own hnx _ (fun e => own_ne hnx hst (by decide) e hb)
    ou := set_own hou _ (fun e => own_ne hou hst (by decide) e hb)
    pa := set_own hpa _ (fun e => own_ne hpa hst (by decide) e hb)
    st := by
      show (w'.setCell ⟨g, t, none⟩ v).ownsRow 0 22 1 L.vst s.T ((List.range s.T).map vs)
      rw [hv] at hst ⊢
      have h2 := (hst.stored t v).1
      rw [vals_set] at h2
      have e : (List.range s.T).map vs = (List.range s.T).map fun j => if j = t then v else L.vs j := by
        apply List.map_congr_left
        intro j _
        by_cases ej : j = t
        · subst ej; simp [e1]
        · simp [ej, e2 j ej]
      rw [e]; exact h2
    op := set_own hop _ (fun e => own_ne hop hst (by decide) e hb)
    cs := fun p hp => set_own (hcs p hp) _ (fun e => own_ne (hcs p hp) hst (by decide) e hb)
    ss := fun u hu => by
      show (w'.setCell ⟨g, t, none⟩ v).ownsRow 0 3 1 (vs u) (stk u).length (intl (stk u))
      by_cases e : u = t
      · subst e
        rw [e1, e3]
        exact set_own ho _ (fun e => own_ne ho hst (by decide) e hb)
      · rw [e2 u e, e4 u e]
        exact set_own (hss u hu e) _ (fun e' => own_ne (hss u hu e) hst (by decide) e' hb)
    lr := by rw [hl _ h.rlt]; exact h.lr
    lch := fun g hg => by rw [hl _ (own_lt h.ch hg)]; exact h.lch g hg
    lnx := fun g hg => by rw [hl _ (own_lt h.nx hg)]; exact h.lnx g hg
    lou := fun g hg => by rw [hl _ (own_lt h.ou hg)]; exact h.lou g hg
    lpa := fun g hg => by rw [hl _ (own_lt h.pa hg)]; exact h.lpa g hg
    lst := fun g hg => by rw [hl _ (own_lt h.st hg)]; exact h.lst g hg
    lop := fun g hg => by rw [hl _ (own_lt h.op hg)]; exact h.lop g hg
    lcs := fun p hp g hg => by rw [hl _ (own_lt (h.cs p hp) hg)]; exact h.lcs p hp g hg
    lss := fun u hu b hb' => by
      change (vs u).ownBlock = some b at hb'
      by_cases e : u = t
      · subst e; rw [e1] at hb'; exact (hfar b hb').1
      · rw [e2 u e] at hb'; rw [hl _ (own_lt (h.ss u hu) hb')]; exact h.lss u hu b hb'
    d1 := h.d1
    d2 := fun u hu b hb' => by
      change (vs u).ownBlock = some b at hb'
      by_cases e : u = t
      · subst e; rw [e1] at hb'; exact ⟨(hfar b hb').2.1, (hfar b hb').2.2.1⟩
      · rw [e2 u e] at hb'; exact h.d2 u hu b hb'
    d3 := fun u x hu hx hux b hb' => by
      change (vs u).ownBlock = some b at hb'
      show (vs x).ownBlock ≠ some b
      by_cases e : u = t
      · subst e
        rw [e1] at hb'
        rw [e2 x (fun e => hux e.symm)]
        exact (hfar b hb').2.2.2 x hx (fun e => hux e.symm)
      · rw [e2 u e] at hb'
        by_cases e' : x = t
        · subst e'
          rw [e1]
          intro hv'
          exact (hfar b hv').2.2.2 u hu e hb'
        · rw [e2 x e']
          exact h.d3 u x hu hx hux b hb' }
end
end Go.Proofs.Ytlncdkdkoamadaa
