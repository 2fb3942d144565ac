/-
  PLAIN LAW: two moves of the caller have two children of the root open.
-/
import Derived.Test.YtlncdkdkoamadaaData
import Derived.Test.YtlncdkdkoamadaaNewH
namespace Go.Proofs.Ytlncdkdkoamadaa
namespace G

/-- The first two children of the root. -/
structure Two (s : G) (f : Nat → Int) (n c1 c2 u : Nat) : Prop where
  r0 : s.rdy 0 = true
  m0 : s.move 0 = (1, c1, false)
  r1 : (s.step 0).rdy 0 = true
  m1 : (s.step 0).move 0 = (u, c2, false)
  p1 : 0 < c1 ∧ c1 < n ∧ f c1 = 0
  p2 : 0 < c2 ∧ c2 < n ∧ f c2 = 0
  ne : c1 ≠ c2
  len : ((s.step 0).step 0).opens.length = 3
  mem1 : c1 ∈ ((s.step 0).step 0).opens
  mem2 : c2 ∈ ((s.step 0).step 0).opens

theorem two {n T : Nat} {f : Nat → Int} (hn : 1 ≤ n) (hT : 2 ≤ T) (ht : treeOk n f) (hk : 2 ≤ ((init n T f).ch 0).length) : ∃ c1 c2 u, Two (init n T f) f n c1 c2 u := by
  have hI0 : (init n T f).Inv := init_inv hn (by omega) ht
  have hd := init_data n T f
  have hstk0 : (init n T f).stk = fun t => if t = 0 then [0] else [] := rfl
  have htop0 : (init n T f).top 0 = 0 := rfl
  have hnx0 : (init n T f).nx 0 = 0 := by
    exact congrArg (fun d => D.nx d 0) hd
  obtain ⟨c1, hc1⟩ := Option.isSome_iff_exists.1 ((nx_lt (s := init n T f) (p := 0)).1 (by rw [hnx0]; omega))
  have hfr0 : (init n T f).free? = some 1 := by
    unfold free?
    rw [List.find?_range_eq_some]
    refine ⟨by rw [hstk0]; simp, by simp [init]; omega, fun j hj => ?_⟩
    have : j = 0 := by omega
    subst this; simp
  have hon0 : (init n T f).onto 0 = 1 := by unfold onto; rw [hfr0]; rfl
  have r0 : (init n T f).rdy 0 = true := by
    unfold rdy
    have h1 : (init n T f).nx ((init n T f).top 0) < ((init n T f).ch ((init n T f).top 0)).length := by rw [htop0, hnx0]; omega
    have h2 : 0 < (init n T f).T := by show 0 < T; omega
    have h3 : ((init n T f).stk 0).isEmpty = false := by rw [hstk0]; rfl
    simp [h1, h2, h3]
  have m0 : (init n T f).move 0 = (1, c1, false) := by unfold move; rw [htop0, hc1, hon0]
  have hd1 := data_beg hI0 (t := 0) (by rw [htop0]; exact hc1)
  have hI1 := step_inv hI0 r0
  have hstk1 : ((init n T f).step 0).stk = fun u => if u = 1 then [c1] else if u = 0 then [0] else [] := by
    have h2 : ((init n T f).step 0).stk = fun u => if u = (init n T f).onto 0 then (init n T f).stk u ++ [c1] else (init n T f).stk u := congrArg D.stk hd1
    rw [h2, hon0]
    funext u
    by_cases e : u = 1
    · subst e; simp [hstk0]
    · simp [e, hstk0]
  have htop1 : ((init n T f).step 0).top 0 = 0 := by unfold top; rw [hstk1]; rfl
  have hnx1 : ((init n T f).step 0).nx 0 = 1 := by
    have h2 : ((init n T f).step 0).nx 0 = if 0 = (init n T f).top 0 then (init n T f).nx 0 + 1 else (init n T f).nx 0 := congrArg (fun d => D.nx d 0) hd1
    rw [h2, htop0, hnx0]; rfl
  have hch1 : ((init n T f).step 0).ch 0 = (init n T f).ch 0 := by
    have h2 : ((init n T f).step 0).ch = (init n T f).ch := congrArg D.ch hd1
    rw [h2]
  obtain ⟨c2, hc2⟩ := Option.isSome_iff_exists.1 ((nx_lt (s := (init n T f).step 0) (p := 0)).1 (by rw [hnx1, hch1]; omega))
  have r1 : ((init n T f).step 0).rdy 0 = true := by
    unfold rdy
    have h1 : ((init n T f).step 0).nx (((init n T f).step 0).top 0) < (((init n T f).step 0).ch (((init n T f).step 0).top 0)).length := by rw [htop1, hnx1, hch1]; omega
    have h2 : 0 < ((init n T f).step 0).T := by rw [step_T]; show 0 < T; omega
    have h3 : (((init n T f).step 0).stk 0).isEmpty = false := by rw [hstk1]; rfl
    simp [h1, h2, h3]
  have m1 : ((init n T f).step 0).move 0 = (((init n T f).step 0).onto 0, c2, false) := by unfold move; rw [htop1, hc2]
  have hd2 := data_beg hI1 (t := 0) (by rw [htop1]; exact hc2)
  obtain ⟨a1, a2, a3, _⟩ := kid?_some hc1
  obtain ⟨b1, b2, b3, _⟩ := kid?_some hc2
  have hb1 : ((init n T f).step 0).beg c1 = true := by unfold step; rw [htop0, hc1]; simp
  have hne : c1 ≠ c2 := fun e => by rw [e, b3] at hb1; cases hb1
  have hp1 : f c1 = 0 := by have := kid_par a2; exact this
  have hp2 : f c2 = 0 := by
    have := kid_par b2
    rw [step_par] at this; exact this
  have hn1 : ((init n T f).step 0).n = n := step_n _ _
  have hn2 : (((init n T f).step 0).step 0).n = n := by rw [step_n, step_n]; rfl
  have ho0 : (init n T f).opn = fun i => decide (i = 0) := by
    exact congrArg D.opn hd
  have ho1 : ((init n T f).step 0).opn = fun i => if i = c1 then true else (init n T f).opn i := by
    exact congrArg D.opn hd1
  have ho2 : (((init n T f).step 0).step 0).opn = fun i => if i = c2 then true else ((init n T f).step 0).opn i := by
    exact congrArg D.opn hd2
  refine ⟨c1, c2, ((init n T f).step 0).onto 0, r0, m0, r1, m1, ⟨kid_pos a2, a1, hp1⟩, ⟨kid_pos b2, by rw [hn1] at b1; exact b1, hp2⟩, hne, ?_, ?_, ?_⟩
  · unfold opens
    rw [hn2, ho2]
    have hc1n : c1 ∈ List.range n := List.mem_range.2 a1
    have hc2n : c2 ∈ List.range n := List.mem_range.2 (by rw [hn1] at b1; exact b1)
    rw [filter_set List.nodup_range hc2n (by rw [ho1, ho0]; have h1 := kid_pos b2; have h2 : ¬ c2 = c1 := fun e => hne e.symm; simp [h2]; omega), ho1, filter_set List.nodup_range hc1n (by rw [ho0]; have := kid_pos a2; simp; omega), ho0, filter_length_one (by omega)]
  · unfold opens
    rw [List.mem_filter, hn2, ho2, ho1]
    exact ⟨List.mem_range.2 a1, by simp⟩
  · unfold opens
    rw [List.mem_filter, hn2, ho2]
    exact ⟨by rw [hn1] at b1; simpa using b1, by simp⟩
end G
end Go.Proofs.Ytlncdkdkoamadaa
