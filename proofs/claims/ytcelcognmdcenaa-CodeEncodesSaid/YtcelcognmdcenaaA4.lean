/-
  WALKS: may an instruction, a program be? In the reference's words.
-/
import Derived.Test.YtcelcognmdcenaaA3
namespace Go.Proofs.Ytcelcognmdcenaa
open Go.RowKit

def May68 (op to a b c regs : Int) (w : World) (r : Bool) : Prop := Calls Try.prog 68 #[.agg #[.int .i64 op, .int .i64 to, .int .i64 a, .int .i64 b, .int .i64 c], .int .i64 regs] w fun e w' => e = .returned (.bool r) ∧ Below w.heap.size w w'

set_option maxRecDepth 100000 in
set_option maxHeartbeats 2000000 in
theorem may68_head (op to a b c regs : Int) (w : World) (h : ¬ (1 ≤ op ∧ op ≤ 8 ∧ 0 ≤ to ∧ to < regs ∧ 0 ≤ a ∧ a < regs)) : May68 op to a b c regs w false := by
  unfold May68
  have H := Lib.hid h
  clear h
  by_cases c0 : 1 ≤ op
  case neg =>
    go_enter Try.func68, Try.ntmps68
    go_wp2_with fail
    go_ret
    exact ⟨rfl, below_a _ _⟩
  by_cases c1 : op ≤ 8
  case neg =>
    go_enter Try.func68, Try.ntmps68
    go_wp2_with fail
    go_ret
    exact ⟨rfl, below_a _ _⟩
  by_cases c2 : 0 ≤ to
  case neg =>
    go_enter Try.func68, Try.ntmps68
    go_wp2_with fail
    go_ret
    exact ⟨rfl, below_a _ _⟩
  by_cases c3 : to < regs
  case neg =>
    go_enter Try.func68, Try.ntmps68
    go_wp2_with fail
    go_ret
    exact ⟨rfl, below_a _ _⟩
  by_cases c4 : 0 ≤ a
  case neg =>
    go_enter Try.func68, Try.ntmps68
    go_wp2_with fail
    go_ret
    exact ⟨rfl, below_a _ _⟩
  have c5 : ¬ a < regs := fun c5 => H.out ⟨c0, c1, c2, c3, c4, c5⟩
  go_enter Try.func68, Try.ntmps68
  go_wp2_with fail
  go_ret
  exact ⟨rfl, below_a _ _⟩

set_option maxRecDepth 100000 in
set_option maxHeartbeats 2000000 in
theorem may68_two3 (to a b c regs : Int) (w : World) (c2 : 0 ≤ to) (c3 : to < regs) (c4 : 0 ≤ a) (c5 : a < regs) : May68 3 to a b c regs w (decide (0 ≤ b ∧ b < regs ∧ c = 0)) := by
  unfold May68
  go_enter Try.func68, Try.ntmps68
  go_wp2_with fail
  all_goals
    go_ret
    exact ⟨ret_bool (biff (by first | (simp; done) | (simp; omega))), below_a _ _⟩

set_option maxRecDepth 100000 in
set_option maxHeartbeats 2000000 in
theorem may68_two4 (to a b c regs : Int) (w : World) (c2 : 0 ≤ to) (c3 : to < regs) (c4 : 0 ≤ a) (c5 : a < regs) : May68 4 to a b c regs w (decide (0 ≤ b ∧ b < regs ∧ c = 0)) := by
  unfold May68
  go_enter Try.func68, Try.ntmps68
  go_wp2_with fail
  all_goals
    go_ret
    exact ⟨ret_bool (biff (by first | (simp; done) | (simp; omega))), below_a _ _⟩

set_option maxRecDepth 100000 in
set_option maxHeartbeats 2000000 in
theorem may68_mul5a (to a regs : Int) (w : World) (c2 : 0 ≤ to) (c3 : to < regs) (c4 : 0 ≤ a) (c5 : a < regs) : May68 5 to a 0 0 regs w (decide ((0 : Int) ≠ 0 ∧ -512 ≤ (0 : Int) ∧ (0 : Int) ≤ 512)) := by
  unfold May68
  go_enter Try.func68, Try.ntmps68
  go_wp2_with fail
  all_goals
    go_ret
    exact ⟨ret_bool (biff (by first | (simp; done) | (simp; omega))), below_a _ _⟩

set_option maxRecDepth 100000 in
set_option maxHeartbeats 2000000 in
theorem may68_mul5 (to a c regs : Int) (w : World) (c2 : 0 ≤ to) (c3 : to < regs) (c4 : 0 ≤ a) (c5 : a < regs) (h0 : c ≠ 0) : May68 5 to a 0 c regs w (decide (c ≠ 0 ∧ -512 ≤ c ∧ c ≤ 512)) := by
  unfold May68
  have e0 : (c == 0) = false := by simpa using h0
  have e1 : (c != 0) = true := by simpa using h0
  go_enter Try.func68, Try.ntmps68
  go_wp2_with fail
  all_goals
    go_ret
    exact ⟨ret_bool (biff (by first | (simp; done) | (simp; omega))), below_a _ _⟩

set_option maxRecDepth 100000 in
set_option maxHeartbeats 2000000 in
theorem may68_mul6a (to a regs : Int) (w : World) (c2 : 0 ≤ to) (c3 : to < regs) (c4 : 0 ≤ a) (c5 : a < regs) : May68 6 to a 0 0 regs w (decide ((0 : Int) ≠ 0 ∧ -512 ≤ (0 : Int) ∧ (0 : Int) ≤ 512)) := by
  unfold May68
  go_enter Try.func68, Try.ntmps68
  go_wp2_with fail
  all_goals
    go_ret
    exact ⟨ret_bool (biff (by first | (simp; done) | (simp; omega))), below_a _ _⟩

set_option maxRecDepth 100000 in
set_option maxHeartbeats 2000000 in
theorem may68_mul6 (to a c regs : Int) (w : World) (c2 : 0 ≤ to) (c3 : to < regs) (c4 : 0 ≤ a) (c5 : a < regs) (h0 : c ≠ 0) : May68 6 to a 0 c regs w (decide (c ≠ 0 ∧ -512 ≤ c ∧ c ≤ 512)) := by
  unfold May68
  have e0 : (c == 0) = false := by simpa using h0
  have e1 : (c != 0) = true := by simpa using h0
  go_enter Try.func68, Try.ntmps68
  go_wp2_with fail
  all_goals
    go_ret
    exact ⟨ret_bool (biff (by first | (simp; done) | (simp; omega))), below_a _ _⟩

set_option maxRecDepth 100000 in
set_option maxHeartbeats 2000000 in
theorem may68_sh7 (to a c regs : Int) (w : World) (c2 : 0 ≤ to) (c3 : to < regs) (c4 : 0 ≤ a) (c5 : a < regs) : May68 7 to a 0 c regs w (decide (1 ≤ c ∧ c ≤ 64)) := by
  unfold May68
  go_enter Try.func68, Try.ntmps68
  go_wp2_with fail
  all_goals
    go_ret
    exact ⟨ret_bool (biff (by first | (simp; done) | (simp; omega))), below_a _ _⟩

set_option maxRecDepth 100000 in
set_option maxHeartbeats 2000000 in
theorem may68_sh8 (to a c regs : Int) (w : World) (c2 : 0 ≤ to) (c3 : to < regs) (c4 : 0 ≤ a) (c5 : a < regs) : May68 8 to a 0 c regs w (decide (1 ≤ c ∧ c ≤ 64)) := by
  unfold May68
  go_enter Try.func68, Try.ntmps68
  go_wp2_with fail
  all_goals
    go_ret
    exact ⟨ret_bool (biff (by first | (simp; done) | (simp; omega))), below_a _ _⟩

set_option maxRecDepth 100000 in
set_option maxHeartbeats 2000000 in
theorem may68_no1 (to a c regs : Int) (w : World) (c2 : 0 ≤ to) (c3 : to < regs) (c4 : 0 ≤ a) (c5 : a < regs) : May68 1 to a 0 c regs w (decide (c = 0)) := by
  unfold May68
  go_enter Try.func68, Try.ntmps68
  go_wp2_with fail
  all_goals
    go_ret
    exact ⟨ret_bool (biff (by first | (simp; done) | (simp; omega))), below_a _ _⟩

set_option maxRecDepth 100000 in
set_option maxHeartbeats 2000000 in
theorem may68_no2 (to a c regs : Int) (w : World) (c2 : 0 ≤ to) (c3 : to < regs) (c4 : 0 ≤ a) (c5 : a < regs) : May68 2 to a 0 c regs w (decide (c = 0)) := by
  unfold May68
  go_enter Try.func68, Try.ntmps68
  go_wp2_with fail
  all_goals
    go_ret
    exact ⟨ret_bool (biff (by first | (simp; done) | (simp; omega))), below_a _ _⟩

set_option maxRecDepth 100000 in
set_option maxHeartbeats 2000000 in
theorem may68_b (op to a b c regs : Int) (w : World) (c0 : 1 ≤ op) (c1 : op ≤ 8) (c2 : 0 ≤ to) (c3 : to < regs) (c4 : 0 ≤ a) (c5 : a < regs) (h2 : ¬ (op = 3 ∨ op = 4)) (h0 : b ≠ 0) : May68 op to a b c regs w false := by
  unfold May68
  have e3 : (op == 3) = false := by simp; omega
  have e4 : (op == 4) = false := by simp; omega
  have h0' : (b != 0) = true := by simpa using h0
  clear h2 h0
  go_enter Try.func68, Try.ntmps68
  go_wp2_with fail
  go_ret
  exact ⟨rfl, below_a _ _⟩

theorem may68 (i : Ins) (regs : Int) (w : World) : Calls Try.prog 68 #[.agg #[.int .i64 i.op, .int .i64 i.to, .int .i64 i.a, .int .i64 i.b, .int .i64 i.c], .int .i64 regs] w fun e w' => e = .returned (.bool (i.ok regs)) ∧ Below w.heap.size w w' := by
  obtain ⟨op, to, a, b, c⟩ := i
  show May68 op to a b c regs w _
  by_cases h1 : 1 ≤ op ∧ op ≤ 8 ∧ 0 ≤ to ∧ to < regs ∧ 0 ≤ a ∧ a < regs
  · have hok : (Ins.mk op to a b c).ok regs = if op = 3 ∨ op = 4 then decide (0 ≤ b ∧ b < regs ∧ c = 0) else decide (b = 0) && constOk op c := by
      unfold Ins.ok
      simp only
      rw [decide_eq_true h1, Bool.true_and]
    rw [hok]
    obtain ⟨c0, c1, c2, c3, c4, c5⟩ := h1
    have hop : op = 1 ∨ op = 2 ∨ op = 3 ∨ op = 4 ∨ op = 5 ∨ op = 6 ∨ op = 7 ∨ op = 8 := by omega
    by_cases h2 : op = 3 ∨ op = 4
    · rw [if_pos h2]
      rcases h2 with rfl | rfl
      · exact may68_two3 to a b c regs w c2 c3 c4 c5
      · exact may68_two4 to a b c regs w c2 c3 c4 c5
    · rw [if_neg h2]
      by_cases h0 : b = 0
      · subst h0
        rw [decide_eq_true rfl, Bool.true_and]
        clear hok
        rcases hop with rfl | rfl | rfl | rfl | rfl | rfl | rfl | rfl
        · exact may68_no1 to a c regs w c2 c3 c4 c5
        · exact may68_no2 to a c regs w c2 c3 c4 c5
        · exact absurd (by simp) h2
        · exact absurd (by simp) h2
        · by_cases hc : c = 0
          · subst hc; exact may68_mul5a to a regs w c2 c3 c4 c5
          · exact may68_mul5 to a c regs w c2 c3 c4 c5 hc
        · by_cases hc : c = 0
          · subst hc; exact may68_mul6a to a regs w c2 c3 c4 c5
          · exact may68_mul6 to a c regs w c2 c3 c4 c5 hc
        · exact may68_sh7 to a c regs w c2 c3 c4 c5
        · exact may68_sh8 to a c regs w c2 c3 c4 c5
      · rw [decide_eq_false h0, Bool.false_and]
        exact may68_b op to a b c regs w c0 c1 c2 c3 c4 c5 h2 h0
  · have e : (Ins.mk op to a b c).ok regs = false := by
      unfold Ins.ok
      simp only
      rw [decide_eq_false h1, Bool.false_and]
    rw [e]
    exact may68_head op to a b c regs w h1
end Go.Proofs.Ytcelcognmdcenaa
