/-
  PLAIN LAW: what a move tells of the nodes, for the law ModelEnds.
-/
import Derived.Test.YtlncdkdkoamadaaPure
namespace Go.Proofs.Ytlncdkdkoamadaa
namespace G

theorem mem_readies {s : G} {t : Nat} (h : t ∈ s.readies) : s.rdy t = true := (List.mem_filter.1 h).2

/-- A node that ends. -/
theorem end_facts {s : G} (hI : s.Inv) {t : Nat} (hr : s.rdy t = true) (hk : s.kid? (s.top t) = none) :
    s.move t = (t, s.top t, true) ∧ s.top t < s.n ∧ t < s.T ∧ s.beg (s.top t) = true ∧ s.fin (s.top t) = false ∧ s.top t ∈ s.stk t ∧ (∀ c, 0 < c → c < s.n → s.par c = (s.top t : Nat) → s.fin c = true) ∧
    (s.step t).beg = s.beg ∧ (s.step t).fin = (fun i => if i = s.top t then true else s.fin i) ∧ (s.step t).stk = fun u => if u = t then (s.stk t).dropLast else s.stk u := by
  obtain ⟨ht, hne, hdo⟩ := rdy_spec hr
  have htop := top_mem hne
  have hopn := hI.stkO t ht _ htop
  have hob : s.beg (s.top t) = true ∧ s.fin (s.top t) = false := by simpa [opn] using hopn
  have hou : s.ou (s.top t) = 0 := by
    rcases hdo with h | h
    · rw [hk] at h; cases h
    · exact h
  refine ⟨by unfold move; rw [hk], top_lt hI ht hne, ht, hob.1, hob.2, htop, ?_, ?_, ?_, ?_⟩
  · intro c h0 hc hp
    have hkc : s.kid (s.top t) c = true := by simp [kid, h0, hp]
    have h1 := kid?_none hk c hc hkc
    have h2 := ou_zero.1 hou c hc hkc
    simpa [opn, h1] using h2
  · unfold step; rw [hk]
  · unfold step; rw [hk]
  · unfold step; rw [hk]

/-- A node that begins. -/
theorem beg_facts {s : G} (hI : s.Inv) {t c : Nat} (hr : s.rdy t = true) (hk : s.kid? (s.top t) = some c) :
    s.move t = (s.onto t, c, false) ∧ c < s.n ∧ 0 < c ∧ s.onto t < s.T ∧ s.beg c = false ∧ s.par c = (s.top t : Nat) ∧ s.top t < c ∧ s.beg (s.top t) = true ∧ s.fin (s.top t) = false ∧ (∀ d, 0 < d → d < c → s.par d = s.par c → s.beg d = true) ∧
    (s.step t).beg = (fun i => if i = c then true else s.beg i) ∧ (s.step t).fin = s.fin ∧ (s.step t).stk = fun u => if u = s.onto t then s.stk u ++ [c] else s.stk u := by
  obtain ⟨ht, hne, hdo⟩ := rdy_spec hr
  have htop := top_mem hne
  have hopn := hI.stkO t ht _ htop
  have hob : s.beg (s.top t) = true ∧ s.fin (s.top t) = false := by simpa [opn] using hopn
  obtain ⟨hcn, hkc, hcb, hcl⟩ := kid?_some hk
  refine ⟨by unfold move; rw [hk], hcn, kid_pos hkc, onto_lt ht, hcb, kid_par hkc, kid_lt hI.tree hcn hkc, hob.1, hob.2, ?_, ?_, ?_, ?_⟩
  · intro d h0 hd hp
    refine hcl d ?_ hd
    rw [kid_par hkc] at hp
    simp [kid, h0, hp]
  · unfold step; rw [hk]
  · unfold step; rw [hk]
  · unfold step; rw [hk]

/-- When it is done. -/
theorem done_alive {s : G} (hI : s.Inv) (h : s.fin 0 = true) : s.alive = 0 := by
  unfold alive
  rw [List.length_eq_zero_iff, List.filter_eq_nil_iff]
  intro t ht
  rw [done_stk hI h t (List.mem_range.1 ht)]; simp
theorem done_opens {s : G} (hI : s.Inv) (h : s.fin 0 = true) : s.opens = [] := by
  unfold opens
  rw [List.filter_eq_nil_iff]
  intro i hi
  simp [opn, all_fin hI h i (List.mem_range.1 hi)]

/-- Who runs what: the law's own note of the thread on which a node began. -/
def Ran (s : G) (q : Nat → Nat) : Prop := ∀ t, t < s.T → ∀ i, i ∈ s.stk t → q i = t
theorem ran_init (n T : Nat) (par : Nat → Int) : Ran (init n T par) (fun _ => 0) := by
  intro t ht i hi
  simp [init] at hi
  by_cases e : t = 0
  · exact e.symm
  · simp [e] at hi
theorem ran_end {s : G} {q : Nat → Nat} {t : Nat} (h : Ran s q) (hs : (s.step t).stk = fun u => if u = t then (s.stk t).dropLast else s.stk u) : Ran (s.step t) q := by
  intro u hu i hi
  rw [step_T] at hu
  rw [hs] at hi
  simp only at hi
  by_cases e : u = t
  · rw [if_pos e] at hi
    subst e
    exact h u hu i ((List.dropLast_sublist _).subset hi)
  · rw [if_neg e] at hi; exact h u hu i hi
theorem ran_beg {s : G} (hI : s.Inv) {q : Nat → Nat} {t c : Nat} (h : Ran s q) (hcb : s.beg c = false) (hs : (s.step t).stk = fun u => if u = s.onto t then s.stk u ++ [c] else s.stk u) : Ran (s.step t) (fun i => if i = c then s.onto t else q i) := by
  intro u hu i hi
  rw [step_T] at hu
  rw [hs] at hi
  have hcs : ∀ u, u < s.T → c ∉ s.stk u := by
    intro u hu h
    have := hI.stkO u hu c h
    simp [opn, hcb] at this
  simp only at hi ⊢
  by_cases e : u = s.onto t
  · rw [if_pos e] at hi
    rcases List.mem_append.1 hi with h1 | h1
    · have hic : i ≠ c := fun e' => hcs u hu (e' ▸ h1)
      rw [if_neg hic]; exact h u hu i h1
    · have : i = c := by simpa using h1
      rw [if_pos this]; exact e.symm
  · rw [if_neg e] at hi
    have hic : i ≠ c := fun e' => hcs u hu (e' ▸ hi)
    rw [if_neg hic]; exact h u hu i hi
end G
end Go.Proofs.Ytlncdkdkoamadaa
