/-
  WALKS: Alive, Ready, Open of the program's run.
-/
import Derived.Test.YtlncdkdkoamadaaW2
import Derived.Test.YtlncdkdkoamadaaApp
import Derived.Test.YtlncdkdkoamadaaC1
namespace Go.Proofs.Ytlncdkdkoamadaa
open Go.RowKit


section
variable {w : World} {lab : Nat → Nat} {k : Nat} {L : Lay} {s : G}

/-- How many of the first j threads from 1 on are alive. -/
def aliveTo (s : G) (j : Nat) : Nat := ((List.range j).filter fun t => decide (0 < t) && !(s.stk t).isEmpty).length
theorem aliveTo_le (s : G) (j : Nat) : aliveTo s j ≤ j := by
  have := List.length_filter_le (fun t => decide (0 < t) && !(s.stk t).isEmpty) (List.range j)
  simpa [aliveTo] using this
theorem aliveTo_succ (s : G) (j : Nat) : aliveTo s (j + 1) = aliveTo s j + if 0 < j ∧ (s.stk j).isEmpty = false then 1 else 0 := by
  unfold aliveTo
  rw [List.range_succ, List.filter_append]
  by_cases h : 0 < j ∧ (s.stk j).isEmpty = false
  · simp [h]
  · rw [if_neg h]
    by_cases h0 : 0 < j
    · have : (s.stk j).isEmpty = true := by
        cases e : (s.stk j).isEmpty with
        | true => rfl
        | false => exact absurd ⟨h0, e⟩ h
      simp [this]
    · simp [h0]

set_option maxHeartbeats 800000 in
theorem alive_any (h : RunAt w lab k L s) (hI : s.Inv) (_hn : s.n ≤ 256) (hT : 2 ≤ s.T) (hT2 : s.T ≤ 17) :
    Calls Try.prog 23 #[.pointer (some ⟨L.r, 0, none⟩)] w fun e w' => e = .returned (.int .i64 s.alive) ∧ w = w' := by
  obtain ⟨gs, cs, hv, h1, h2, hl, hc, hf⟩ := h.stacks hI.thr
  have hs := h.fields.2.2.2.2.1
  rw [hv] at hs
  have HC := Lib.hid hc
  have hne : ¬ cs = 1 := by omega
  unfold maxLen at h2
  clear hf hc hv
  go_enter Try.func23, Try.ntmps23
  go_wp2
  go_loop [3, 14] (fun m i => ∃ j : Nat, j ≤ s.T - 1 ∧ i = .int .i64 j ∧ m = .int .i64 (aliveTo s (j + 1))) (fun _ i => s.T - 1 - (intOf i).toNat)
  case atStart => exact ⟨0, Nat.zero_le _, rfl, by simp [aliveTo, List.range_succ]⟩
  case round =>
    obtain ⟨j, hj, rfl, rfl⟩ := hrel
    have ha := aliveTo_le s (j + 1)
    by_cases hlt : j < s.T - 1
    · have hct : w.cell? ⟨gs, 1 + j, none⟩ = some (L.vs (j + 1)) := by rw [Nat.add_comm 1 j]; exact HC.out (j + 1) (by omega)
      obtain ⟨A, c, hA⟩ := h.stack (t := j + 1) (by omega)
      rw [hA] at hct
      have hstk := G.stk_len hI (t := j + 1) (by omega)
      cases hemp : (s.stk (j + 1)).isEmpty with
      | true =>
        have hlen : (s.stk (j + 1)).length = 0 := by simpa using hemp
        have HR := Lib.hid (show aliveTo s (j + 1 + 1) = aliveTo s (j + 1) by rw [aliveTo_succ]; simp [hemp])
        rw [hlen] at hct
        clear hemp hlen hA
        go_wp2
        go_round
        case rel => exact ⟨j + 1, by omega, by go_num, by rw [HR.out]⟩
        case measure => simp [intOf]; omega
      | false =>
        have hlen : 0 < (s.stk (j + 1)).length := by
          cases e : s.stk (j + 1) with
          | nil => rw [e] at hemp; cases hemp
          | cons => simp
        have HR := Lib.hid (show aliveTo s (j + 1 + 1) = aliveTo s (j + 1) + 1 by rw [aliveTo_succ]; simp [hemp])
        generalize (s.stk (j + 1)).length = n at *
        clear hemp hA
        go_wp2
        go_round
        case rel => exact ⟨j + 1, by omega, by go_num, by rw [HR.out]; go_num⟩
        case measure => simp [intOf]; omega
    · have HR : Hid (aliveTo s (j + 1) = s.alive) := by rw [show j + 1 = s.T by omega]; rfl
      go_wp2
      go_ret
      rw [HR.out]
      exact ⟨rfl, rfl⟩
theorem alive_nil (w : World) :
    Calls Try.prog 23 #[.pointer none] w fun e w' => e = .returned (.int .i64 0) ∧ w = w' := by
  go_enter Try.func23, Try.ntmps23
  go_wp2
  go_ret
  exact ⟨rfl, rfl⟩

/-- The first j threads that are ready; the first j nodes that are open. -/
def readyTo (s : G) (j : Nat) : List Nat := (List.range j).filter s.rdy
def openTo (s : G) (j : Nat) : List Nat := (List.range j).filter s.opn
theorem filter_range_len (p : Nat → Bool) (j : Nat) : ((List.range j).filter p).length ≤ j := by
  have := List.length_filter_le p (List.range j); simpa using this
theorem filter_range_succ (p : Nat → Bool) (j : Nat) : (List.range (j + 1)).filter p = (List.range j).filter p ++ if p j then [j] else [] := by
  rw [List.range_succ, List.filter_append]
  cases h : p j <;> simp [h]
theorem intl_append (l m : List Nat) : intl (l ++ m) = intl l ++ intl m := by simp [intl]
theorem intl_length (l : List Nat) : (intl l).length = l.length := by simp [intl]

set_option maxHeartbeats 1600000 in
theorem Ready_any (h : RunAt w lab k L s) (hI : s.Inv) (hn : s.n ≤ 256) (hT2 : s.T ≤ 17) :
    Calls Try.prog 20 #[.pointer (some ⟨L.r, 0, none⟩)] w fun e w' => ∃ v, e = .returned v ∧ w'.ownsRow w.heap.size 3 1 v s.readies.length (intl s.readies) ∧ Below w.heap.size w w' := by
  obtain ⟨gs, cs, hv, h1, h2, hl, hc, hf⟩ := h.stacks hI.thr
  have hs := h.fields.2.2.2.2.1
  rw [hv] at hs
  have hrl := h.rlt
  obtain ⟨i0, hi, hz0, hz1, hz2⟩ := info_parts info3
  clear hf hc hv
  go_enter Try.func20, Try.ntmps20
  go_wp2
  go_loopw [3, 12] (fun v i wr => ∃ j : Nat, j ≤ s.T ∧ i = .int .i64 j ∧ wr.ownsRow w.heap.size 3 1 v (readyTo s j).length (intl (readyTo s j)) ∧ Below w.heap.size w wr) (fun _ i _ => s.T - (intOf i).toNat)
  case atStart => exact ⟨0, Nat.zero_le _, rfl, World.ownsRow_nil _ _ _ _, Below.refl _ _⟩
  case round =>
    obtain ⟨j, hj, rfl, hown, hbel⟩ := hrel
    have hRr := h.below hbel
    have hlen := filter_range_len s.rdy j
    by_cases hlt : j < s.T
    · have hrd := ready_any hRr hI hn j
      have hsz := hbel.size
      have e0 : rdyI s j = s.rdy j := by simp [rdyI]
      rw [e0] at hrd
      cases hb : s.rdy j with
      | true =>
        rw [hb] at hrd
        have HR := Lib.hid (show readyTo s (j + 1) = readyTo s j ++ [j] by unfold readyTo; rw [filter_range_succ]; simp [hb])
        have HT := Lib.hid hrd
        have HB := Lib.hid hb
        clear hrd hb e0
        go_wp2_with fail
        refine HT.out.mono ?_
        rintro e w' ⟨rfl, q, rfl⟩
        go_wp2_with (at_builtin; refine wpList_app1 rfl _ _ 22 rfl w.heap.size 3 i0 (.int .i64 0) 8 Try.underlying22 hi hz0 hz1 hz2 rfl (by decide) _ _ _ rfl (hown.alloc _) ⟨wr.heap.size, 0, none⟩ (.int .i64 j) rfl ?_ rfl ?_ ?_ ?_)
        all_goals first | exact cell_new1 _ _ _ | (simp; done) | (unfold readyTo; omega) | (simp; omega) | skip
        intro v1 w1 hown1 hg1 hat
        have hb1 : Below w.heap.size w w1 := ((below_drewN hbel q).alloc hsz _).grown hg1 (by simp; omega) (fun b hb => (hown.lt b hb).1)
        go_wp2
        go_roundw
        case rel => exact ⟨j + 1, by omega, by go_num, by rw [HR.out, List.length_append, intl_append]; exact hown1, hb1⟩
        case measure => simp [intOf]; omega
      | false =>
        rw [hb] at hrd
        have HR := Lib.hid (show readyTo s (j + 1) = readyTo s j by unfold readyTo; rw [filter_range_succ]; simp [hb])
        have HT := Lib.hid hrd
        have HB := Lib.hid hb
        clear hrd hb e0
        go_wp2_with fail
        refine HT.out.mono ?_
        rintro e w' ⟨rfl, q, rfl⟩
        go_wp2
        go_roundw
        case rel => exact ⟨j + 1, by omega, by go_num, by rw [HR.out]; exact hown, below_drewN hbel q⟩
        case measure => simp [intOf]; omega
    · have HR := Lib.hid (show readyTo s j = s.readies by rw [show j = s.T by omega]; rfl)
      go_wp2
      go_ret
      refine ⟨_, rfl, ?_, hbel⟩
      rw [← HR.out]; exact hown

theorem Ready_nil (w : World) :
    Calls Try.prog 20 #[.pointer none] w fun e w' => e = .returned (.slice none 0 0) ∧ w = w' := by
  go_enter Try.func20, Try.ntmps20
  go_wp2
  go_ret
  exact ⟨rfl, rfl⟩

set_option maxHeartbeats 1600000 in
theorem Open_any (h : RunAt w lab k L s) (hI : s.Inv) (hn : s.n ≤ 256) :
    Calls Try.prog 24 #[.pointer (some ⟨L.r, 0, none⟩)] w fun e w' => ∃ v, e = .returned v ∧ w'.ownsRow w.heap.size 3 1 v s.opens.length (intl s.opens) ∧ Below w.heap.size w w' := by
  obtain ⟨gs, cs, hv, h1, h2, hl, hc, hf⟩ := h.ops hI.tree.pos
  have hs := h.fields.2.2.2.2.2.1
  rw [hv] at hs
  have hrl := h.rlt
  obtain ⟨i0, hi, hz0, hz1, hz2⟩ := info_parts info3
  have HC := Lib.hid hc
  clear hf hc hv
  go_enter Try.func24, Try.ntmps24
  go_wp2
  go_loopw [3, 13] (fun v i wr => ∃ j : Nat, j ≤ s.n ∧ i = .int .i64 j ∧ wr.ownsRow w.heap.size 3 1 v (openTo s j).length (intl (openTo s j)) ∧ Below w.heap.size w wr) (fun _ i _ => s.n - (intOf i).toNat)
  case atStart => exact ⟨0, Nat.zero_le _, rfl, World.ownsRow_nil _ _ _ _, Below.refl _ _⟩
  case round =>
    obtain ⟨j, hj, rfl, hown, hbel⟩ := hrel
    have hlen := filter_range_len s.opn j
    by_cases hlt : j < s.n
    · have hsz := hbel.size
      have hct := (hbel.cell (p := ⟨gs, j, none⟩) hl).trans (HC.out j hlt)
      cases hb : s.opn j with
      | true =>
        rw [hb] at hct
        have HR := Lib.hid (show openTo s (j + 1) = openTo s j ++ [j] by unfold openTo; rw [filter_range_succ]; simp [hb])
        have HB := Lib.hid hb
        clear hb
        go_wp2_with (at_builtin; refine wpList_app1 rfl _ _ 22 rfl w.heap.size 3 i0 (.int .i64 0) 8 Try.underlying22 hi hz0 hz1 hz2 rfl (by decide) _ _ _ rfl (hown.alloc _) ⟨wr.heap.size, 0, none⟩ (.int .i64 j) rfl ?_ rfl ?_ ?_ ?_)
        all_goals first | exact cell_new1 _ _ _ | (simp; done) | (unfold openTo; omega) | (simp; omega) | skip
        intro v1 w1 hown1 hg1 hat
        have hb1 : Below w.heap.size w w1 := (hbel.alloc hsz _).grown hg1 (by simp; omega) (fun b hb => (hown.lt b hb).1)
        go_wp2
        go_roundw
        case rel => exact ⟨j + 1, by omega, by go_num, by rw [HR.out, List.length_append, intl_append]; exact hown1, hb1⟩
        case measure => simp [intOf]; omega
      | false =>
        rw [hb] at hct
        have HR := Lib.hid (show openTo s (j + 1) = openTo s j by unfold openTo; rw [filter_range_succ]; simp [hb])
        have HB := Lib.hid hb
        clear hb
        go_wp2
        go_roundw
        case rel => exact ⟨j + 1, by omega, by go_num, by rw [HR.out]; exact hown, hbel⟩
        case measure => simp [intOf]; omega
    · have HR := Lib.hid (show openTo s j = s.opens by rw [show j = s.n by omega]; rfl)
      go_wp2
      go_ret
      refine ⟨_, rfl, ?_, hbel⟩
      rw [← HR.out]; exact hown
theorem Open_nil (w : World) :
    Calls Try.prog 24 #[.pointer none] w fun e w' => e = .returned (.slice none 0 0) ∧ w = w' := by
  go_enter Try.func24, Try.ntmps24
  go_wp2
  go_ret
  exact ⟨rfl, rfl⟩
end
end Go.Proofs.Ytlncdkdkoamadaa
