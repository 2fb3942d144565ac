/-
  WALKS: points, instructions: may they be?
-/
import Derived.Test.YtcelcognmdcenaaMem
import Derived.WalkSpells
import Derived.WalkLawsBesides
import Derived.Deep.QuietTactic
import Derived.BigQuiet
import Derived.Deep.DeepFit
import Derived.Lib.Hide
import Derived.OpenShut
namespace Go.Proofs.Ytcelcognmdcenaa
open Go.RowKit

theorem ret_bool {a b : Bool} (h : a = b) : Ending.returned (.bool a) = .returned (.bool b) := by rw [h]
theorem ret_int {k : IntKind} {a b : Int} (h : a = b) : Ending.returned (.int k a) = .returned (.int k b) := by rw [h]

theorem biff {a b : Bool} (h : a = true ↔ b = true) : a = b := Bool.eq_iff_iff.2 h

def inR (n : Int) : Bool := decide (-16 ≤ n ∧ n ≤ 16)
theorem inR_t {n : Int} (h : -16 ≤ n ∧ n ≤ 16) : inR n = true := decide_eq_true h
theorem inR_f {n : Int} (h : ¬ (-16 ≤ n ∧ n ≤ 16)) : inR n = false := decide_eq_false h
theorem inP_eq (x : Int × Int) : inP x = (inR x.1 && inR x.2) := by
  unfold inP inR
  rw [← Bool.decide_and]
  congr 1
  simp [and_assoc]

theorem within57 (n : Int) (w : World) : Calls Try.prog 57 #[.int .i64 n] w fun e w' => e = .returned (.bool (inR n)) ∧ w = w' := by
  by_cases h1 : -16 ≤ n
  · by_cases h2 : n ≤ 16
    · rw [inR_t ⟨h1, h2⟩]
      go_enter Try.func57, Try.ntmps57
      go_wp2
      go_ret
      exact ⟨rfl, rfl⟩
    · rw [inR_f (by omega)]
      go_enter Try.func57, Try.ntmps57
      go_wp2
      go_ret
      exact ⟨rfl, rfl⟩
  · rw [inR_f (by omega)]
    go_enter Try.func57, Try.ntmps57
    go_wp2
    go_ret
    exact ⟨rfl, rfl⟩

theorem in38 (a b : Int) (w : World) : Calls Try.prog 38 #[.agg #[.int .i64 a, .int .i64 b]] w fun e w' => e = .returned (.bool (inP (a, b))) ∧ Below w.heap.size w w' := by
  rw [inP_eq]
  simp only
  cases ha : inR a with
  | false =>
    go_enter Try.func38, Try.ntmps38
    go_wp2_with fail
    refine (within57 a _).mono ?_
    rintro e w' ⟨rfl, rfl⟩
    go_wp2_with fail
    go_ret
    exact ⟨rfl, (Below.refl _ _).alloc (Nat.le_refl _) _⟩
  | true =>
    go_enter Try.func38, Try.ntmps38
    go_wp2_with fail
    refine (within57 a _).mono ?_
    rintro e w' ⟨rfl, rfl⟩
    go_wp2_with fail
    refine (within57 b _).mono ?_
    rintro e w' ⟨rfl, rfl⟩
    go_wp2_with fail
    go_ret
    exact ⟨rfl, (Below.refl _ _).alloc (Nat.le_refl _) _⟩

theorem in40 (a b : Int) (w : World) : Calls Try.prog 40 #[.agg #[.int .i64 a, .int .i64 b]] w fun e w' => e = .returned (.bool (inP (a, b))) ∧ Below w.heap.size w w' := by
  by_cases h1 : -16 ≤ a
  · by_cases h2 : a ≤ 16
    · by_cases h3 : -16 ≤ b
      · by_cases h4 : b ≤ 16
        · rw [show inP (a, b) = true from decide_eq_true ⟨h1, h2, h3, h4⟩]
          go_enter Try.func40, Try.ntmps40
          go_wp2
          go_ret
          exact ⟨rfl, (Below.refl _ _).alloc (Nat.le_refl _) _⟩
        · rw [show inP (a, b) = false from decide_eq_false (fun h => h4 h.2.2.2)]
          go_enter Try.func40, Try.ntmps40
          go_wp2
          go_ret
          exact ⟨rfl, (Below.refl _ _).alloc (Nat.le_refl _) _⟩
      · rw [show inP (a, b) = false from decide_eq_false (fun h => h3 h.2.2.1)]
        go_enter Try.func40, Try.ntmps40
        go_wp2
        go_ret
        exact ⟨rfl, (Below.refl _ _).alloc (Nat.le_refl _) _⟩
    · rw [show inP (a, b) = false from decide_eq_false (fun h => h2 h.2.1)]
      go_enter Try.func40, Try.ntmps40
      go_wp2
      go_ret
      exact ⟨rfl, (Below.refl _ _).alloc (Nat.le_refl _) _⟩
  · rw [show inP (a, b) = false from decide_eq_false (fun h => h1 h.1)]
    go_enter Try.func40, Try.ntmps40
    go_wp2
    go_ret
    exact ⟨rfl, (Below.refl _ _).alloc (Nat.le_refl _) _⟩

/-! An instruction's constant, in the program's words. -/
theorem constOk_mul {op c : Int} (h : op = 5 ∨ op = 6) : constOk op c = decide (c ≠ 0 ∧ -512 ≤ c ∧ c ≤ 512) := by unfold constOk; rw [if_pos h]
theorem constOk_sh {op c : Int} (h : op = 7 ∨ op = 8) : constOk op c = decide (1 ≤ c ∧ c ≤ 64) := by unfold constOk; rw [if_neg (by omega), if_pos h]
theorem constOk_no {op c : Int} (h1 : ¬ (op = 5 ∨ op = 6)) (h2 : ¬ (op = 7 ∨ op = 8)) : constOk op c = decide (c = 0) := by unfold constOk; rw [if_neg h1, if_neg h2]

theorem two65 (op : Int) (w : World) : Calls Try.prog 65 #[.int .i64 op] w fun e w' => e = .returned (.bool (decide (op = 3 ∨ op = 4))) ∧ w = w' := by
  by_cases h1 : op = 3
  · subst h1
    go_enter Try.func65, Try.ntmps65
    go_wp2
    go_ret
    exact ⟨rfl, rfl⟩
  · by_cases h2 : op = 4
    · subst h2
      go_enter Try.func65, Try.ntmps65
      go_wp2
      go_ret
      exact ⟨rfl, rfl⟩
    · have e1 : (op == 3) = false := by simpa using h1
      have e2 : (op == 4) = false := by simpa using h2
      rw [show decide (op = 3 ∨ op = 4) = false from decide_eq_false (by omega)]
      go_enter Try.func65, Try.ntmps65
      go_wp2
      go_ret
      exact ⟨rfl, rfl⟩

set_option maxHeartbeats 1000000 in
theorem const66 (i : Ins) (w : World) : Calls Try.prog 66 #[.agg #[.int .i64 i.op, .int .i64 i.to, .int .i64 i.a, .int .i64 i.b, .int .i64 i.c]] w fun e w' => e = .returned (.bool (constOk i.op i.c)) ∧ Below w.heap.size w w' := by
  obtain ⟨op, to, a, b, c⟩ := i
  simp only
  by_cases h1 : op = 5 ∨ op = 6
  · rw [constOk_mul h1]
    by_cases h0 : c = 0
    · rw [decide_eq_false (by omega)]
      subst h0
      rcases h1 with rfl | rfl
      · go_enter Try.func66, Try.ntmps66
        go_wp2
        go_ret
        exact ⟨rfl, (Below.refl _ _).alloc (Nat.le_refl _) _⟩
      · go_enter Try.func66, Try.ntmps66
        go_wp2
        go_ret
        exact ⟨rfl, (Below.refl _ _).alloc (Nat.le_refl _) _⟩
    · have e0 : (c == 0) = false := by simpa using h0
      have e0' : (c != 0) = true := by simpa using h0
      rcases h1 with rfl | rfl
      · go_enter Try.func66, Try.ntmps66
        go_wp2
        all_goals
          go_ret
          exact ⟨ret_bool (biff (by simp only [Bool.and_eq_true, decide_eq_true_eq, Bool.false_eq_true, false_iff]; omega)), (Below.refl _ _).alloc (Nat.le_refl _) _⟩
      · go_enter Try.func66, Try.ntmps66
        go_wp2
        all_goals
          go_ret
          exact ⟨ret_bool (biff (by simp only [Bool.and_eq_true, decide_eq_true_eq, Bool.false_eq_true, false_iff]; omega)), (Below.refl _ _).alloc (Nat.le_refl _) _⟩
  · by_cases h2 : op = 7 ∨ op = 8
    · rw [constOk_sh h2]
      rcases h2 with rfl | rfl
      · go_enter Try.func66, Try.ntmps66
        go_wp2
        all_goals
          go_ret
          exact ⟨ret_bool (biff (by simp only [Bool.and_eq_true, decide_eq_true_eq, Bool.false_eq_true, false_iff]; omega)), (Below.refl _ _).alloc (Nat.le_refl _) _⟩
      · go_enter Try.func66, Try.ntmps66
        go_wp2
        all_goals
          go_ret
          exact ⟨ret_bool (biff (by simp only [Bool.and_eq_true, decide_eq_true_eq, Bool.false_eq_true, false_iff]; omega)), (Below.refl _ _).alloc (Nat.le_refl _) _⟩
    · rw [constOk_no h1 h2]
      have e5 : (op == 5) = false := by simp; omega
      have e6 : (op == 6) = false := by simp; omega
      have e7 : (op == 7) = false := by simp; omega
      have e8 : (op == 8) = false := by simp; omega
      clear h1 h2
      go_enter Try.func66, Try.ntmps66
      go_wp2
      go_ret
      exact ⟨ret_bool (by rfl), (Below.refl _ _).alloc (Nat.le_refl _) _⟩

/-- What an instruction asks. -/
def asks (i : Ins) : List Int := if i.op = 3 ∨ i.op = 4 then [i.a, i.b] else [i.a]
set_option maxHeartbeats 1000000 in
theorem asks67 (i : Ins) (w : World) (h1 : 1 ≤ i.op) (h8 : i.op ≤ 8) : Calls Try.prog 67 #[.agg #[.int .i64 i.op, .int .i64 i.to, .int .i64 i.a, .int .i64 i.b, .int .i64 i.c]] w fun e w' =>
    ∃ v, e = .returned v ∧ w'.ownsRow w.heap.size 3 1 v (asks i).length (vI (asks i)) ∧ Below w.heap.size w w' := by
  obtain ⟨op, to, a, b, c⟩ := i
  simp only at h1 h8 ⊢
  have hop : op = 1 ∨ op = 2 ∨ op = 3 ∨ op = 4 ∨ op = 5 ∨ op = 6 ∨ op = 7 ∨ op = 8 := by omega
  clear h1 h8
  rcases hop with rfl | rfl | rfl | rfl | rfl | rfl | rfl | rfl
  all_goals
    go_enter Try.func67, Try.ntmps67
    go_wp2
    go_ret
    refine ⟨_, rfl, ?_, ((Below.refl _ _).alloc (Nat.le_refl _) _).alloc (by simp) _⟩
    first
    | simpa [asks, vI] using World.ownsRow_lit (base := w.heap.size) (e := 3) (size := 1) (w.alloc (.cells _ 63)) #[.int .i64 a] 1 (by simp) (by unfold maxLen; omega) rfl
    | simpa [asks, vI] using World.ownsRow_lit (base := w.heap.size) (e := 3) (size := 1) (w.alloc (.cells _ 63)) #[.int .i64 a, .int .i64 b] 2 (by simp) (by unfold maxLen; omega) rfl
end Go.Proofs.Ytcelcognmdcenaa
