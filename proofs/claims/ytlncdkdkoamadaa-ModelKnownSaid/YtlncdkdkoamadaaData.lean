/-
  A STEP, FIELD BY FIELD: what the counts that the program keeps are behind a move of the plain machine.
-/
import Derived.Test.YtlncdkdkoamadaaHeap
namespace Go.Proofs.Ytlncdkdkoamadaa
namespace G

theorem ou_fin {s s' : G} {p q : Nat} (hn : s'.n = s.n) (hp : s'.par = s.par) (ho : s.opn p = true) (hb : p < s.n) (he : ∀ i, s'.opn i = if i = p then false else s.opn i) :
    s'.ou q = if s.kid q p = true then s.ou q - 1 else s.ou q := by
  have hch : s'.ch q = s.ch q := by unfold ch; rw [hn]; congr 1; funext c; unfold kid; rw [hp]
  have hopn : s'.opn = fun i => if i = p then false else s.opn i := funext he
  unfold ou
  rw [hch, hopn]
  by_cases hk : s.kid q p = true
  · rw [if_pos hk]
    have := filter_unset (p := s.opn) (s.ch_nodup q) (mem_ch.2 ⟨hb, hk⟩) ho
    omega
  · rw [if_neg hk]
    have hm : p ∉ s.ch q := fun h => hk (mem_ch.1 h).2
    rw [filter_same (p := fun i => if i = p then false else s.opn i) (q := s.opn) hm (fun i hi => by simp [hi])]

theorem data_end {s : G} (hI : s.Inv) {t : Nat} (hr : s.rdy t = true) (hk : s.kid? (s.top t) = none) :
    (s.step t).data = { s.data with
      ou := fun q => if s.kid q (s.top t) = true then s.ou q - 1 else s.ou q
      opn := fun i => if i = s.top t then false else s.opn i
      stk := fun u => if u = t then (s.stk t).dropLast else s.stk u
      mov := s.mov + 1 } := by
  obtain ⟨ht, hne, _⟩ := rdy_spec hr
  have htop := top_mem hne
  have hopn := hI.stkO t ht _ htop
  have hlt := top_lt hI ht hne
  have hst : s.step t = { s with fin := fun i => if i = s.top t then true else s.fin i, stk := fun u => if u = t then (s.stk t).dropLast else s.stk u, mov := s.mov + 1 } := by
    unfold step; rw [hk]
  have ho : ∀ i, (s.step t).opn i = if i = s.top t then false else s.opn i := by
    intro i
    rw [hst]
    by_cases e : i = s.top t <;> simp [opn, e]
  have h1 : (s.step t).ou = fun q => if s.kid q (s.top t) = true then s.ou q - 1 else s.ou q :=
    funext fun q => ou_fin (step_n s t) (step_par s t) hopn hlt ho
  have h2 : (s.step t).opn = fun i => if i = s.top t then false else s.opn i := funext ho
  unfold data
  rw [h1, h2, hst]
  rfl

theorem filter_in {p' p : Nat → Bool} {l : List Nat} {c : Nat} (hl : l.Nodup) (hc : c ∈ l) (h0 : p c = false) (h1 : p' c = true) (h : ∀ i, i ≠ c → p' i = p i) :
    (l.filter p').length = (l.filter p).length + 1 := by
  have e : p' = fun i => if i = c then true else p i := by
    funext i
    by_cases hi : i = c
    · subst hi; simp [h1]
    · simp [hi, h i hi]
  rw [e]
  exact filter_set hl hc h0

theorem data_beg {s : G} (hI : s.Inv) {t c : Nat} (hk : s.kid? (s.top t) = some c) :
    (s.step t).data = { s.data with
      nx := fun q => if q = s.top t then s.nx q + 1 else s.nx q
      ou := fun q => if q = s.top t then s.ou q + 1 else s.ou q
      opn := fun i => if i = c then true else s.opn i
      stk := fun u => if u = s.onto t then s.stk u ++ [c] else s.stk u
      mov := s.mov + 1 } := by
  obtain ⟨hcn, hkc, hcb, _⟩ := kid?_some hk
  have hcf : s.fin c = false := by
    cases h : s.fin c with
    | false => rfl
    | true => have := hI.finB c h; rw [hcb] at this; cases this
  have hco : s.opn c = false := by simp [opn, hcb]
  have hst : s.step t = { s with beg := fun i => if i = c then true else s.beg i, stk := fun u => if u = s.onto t then s.stk u ++ [c] else s.stk u, mov := s.mov + 1 } := by
    unfold step; rw [hk]
  have hch : ∀ q, (s.step t).ch q = s.ch q := fun q => by rw [hst]; rfl
  have ho : ∀ i, (s.step t).opn i = if i = c then true else s.opn i := by
    intro i
    rw [hst]
    by_cases e : i = c
    · subst e; simp [opn, hcf]
    · simp [opn, e]
  have hb : ∀ i, (s.step t).beg i = if i = c then true else s.beg i := fun i => by rw [hst]
  have hm : ∀ q, q ≠ s.top t → c ∉ s.ch q := fun q hq h => hq (kid_uniq (mem_ch.1 h).2 hkc)
  have h1 : (s.step t).ou = fun q => if q = s.top t then s.ou q + 1 else s.ou q := by
    funext q
    unfold ou
    rw [hch]
    by_cases e : q = s.top t
    · subst e
      rw [if_pos rfl]
      exact filter_in (s.ch_nodup _) (mem_ch.2 ⟨hcn, hkc⟩) hco (by rw [ho]; simp) (fun i hi => by rw [ho]; simp [hi])
    · rw [if_neg e]
      rw [filter_same (p := (s.step t).opn) (q := s.opn) (hm q e) (fun i hi => by rw [ho]; simp [hi])]
  have h3 : (s.step t).nx = fun q => if q = s.top t then s.nx q + 1 else s.nx q := by
    funext q
    unfold nx
    rw [hch]
    by_cases e : q = s.top t
    · subst e
      rw [if_pos rfl]
      exact filter_in (s.ch_nodup _) (mem_ch.2 ⟨hcn, hkc⟩) hcb (by rw [hb]; simp) (fun i hi => by rw [hb]; simp [hi])
    · rw [if_neg e]
      rw [filter_same (p := (s.step t).beg) (q := s.beg) (hm q e) (fun i hi => by rw [hb]; simp [hi])]
  have h2 : (s.step t).opn = fun i => if i = c then true else s.opn i := funext ho
  have h4 : (s.step t).ch = s.ch := funext hch
  unfold data
  rw [h1, h2, h3, h4, hst]

end G
end Go.Proofs.Ytlncdkdkoamadaa
