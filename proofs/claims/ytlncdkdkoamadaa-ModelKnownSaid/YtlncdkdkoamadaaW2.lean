/-
  WALKS: free, Moves, Done, Alive of the program's run.
-/
import Derived.Test.YtlncdkdkoamadaaW1
namespace Go.Proofs.Ytlncdkdkoamadaa
open Go.RowKit

section
variable {w : World} {lab : Nat → Nat} {k : Nat} {L : Lay} {s : G}

/-- What 'free' answers. -/
def freeO (T : Nat) (stk : Nat → List Nat) : Option Nat := (List.range T).find? fun t => decide (0 < t) && (stk t).isEmpty
theorem freeO_eq (s : G) : freeO s.T s.stk = s.free? := rfl

theorem free_none {T : Nat} {stk : Nat → List Nat} (h : ∀ u, u < T → 0 < u → (stk u).isEmpty = false) : freeO T stk = none := by
  unfold freeO
  rw [List.find?_eq_none]
  intro u hu
  have hu := List.mem_range.1 hu
  simp only [Bool.and_eq_true, decide_eq_true_eq, not_and, Bool.not_eq_true]
  exact fun h0 => h u hu h0
theorem free_some {T : Nat} {stk : Nat → List Nat} {u : Nat} (hu : u < T) (h0 : 0 < u) (he : (stk u).isEmpty = true) (h : ∀ x, x < u → 0 < x → (stk x).isEmpty = false) : freeO T stk = some u := by
  unfold freeO
  rw [List.find?_range_eq_some]
  refine ⟨?_, by simpa using hu, ?_⟩
  · simp [h0, he]
  · intro j hj
    by_cases e : 0 < j
    · simp [e, h j hj e]
    · simp [e]

set_option maxHeartbeats 800000 in
theorem free_any {s : D} (h : RunRaw w lab k L s) (hT : 1 ≤ s.T) (hT2 : s.T ≤ 17) (hL : ∀ t, t < s.T → (s.stk t).length ≤ 256) :
    Calls Try.prog 40 #[.pointer (some ⟨L.r, 0, none⟩)] w fun e w' => e = .returned (.tuple #[.int .i64 ((freeO s.T s.stk).getD 0), .bool (freeO s.T s.stk).isSome]) ∧ w = w' := by
  obtain ⟨gs, cs, hv, h1, h2, hl, hc, hf⟩ := h.stacks hT
  have hs := h.fields.2.2.2.2.1
  rw [hv] at hs
  have HC := Lib.hid hc
  clear hf hc hv
  go_enter Try.func40, Try.ntmps40
  go_wp2
  go_loop [11] (fun i => ∃ j : Nat, j ≤ s.T ∧ i = .int .i64 j ∧ Hid (∀ u, u < j → 0 < u → (s.stk u).isEmpty = false)) (fun i => s.T - (intOf i).toNat)
  case atStart => exact ⟨0, Nat.zero_le _, rfl, fun u hu => absurd hu (by omega)⟩
  case round =>
    obtain ⟨j, hj, rfl, hall⟩ := hrel
    by_cases hlt : j < s.T
    · have hct := HC.out j hlt
      obtain ⟨A, c, hA⟩ := h.stack hlt
      rw [hA] at hct
      by_cases h0 : 0 < j
      · cases hemp : (s.stk j).isEmpty with
        | true =>
          have hlen : (s.stk j).length = 0 := by simpa using hemp
          have hfr := free_some hlt h0 hemp hall.out
          have HR : Hid ((freeO s.T s.stk).getD 0 = j ∧ (freeO s.T s.stk).isSome = true) := by rw [hfr]; exact ⟨rfl, rfl⟩
          rw [hlen] at hct
          clear hfr hemp hlen hA
          go_wp2
          go_ret2
          rw [HR.out.1, HR.out.2]
          exact ⟨rfl, rfl⟩
        | false =>
          have hlen : 0 < (s.stk j).length := by
            cases e : s.stk j with
            | nil => rw [e] at hemp; cases hemp
            | cons => simp
          have hstk := hL j hlt
          have hall' : Hid (∀ u, u < j + 1 → 0 < u → (s.stk u).isEmpty = false) := fun u hu hu0 => by
            by_cases e : u = j
            · subst e; exact hemp
            · exact hall.out u (by omega) hu0
          generalize (s.stk j).length = n at *
          have d3 : ((n : Int) == 0) = false := by simp; omega
          clear hemp hA
          go_wp2
          go_round
          case rel => exact ⟨j + 1, by omega, by go_num, hall'⟩
          case measure => simp [intOf]; omega
      · have hall' : Hid (∀ u, u < j + 1 → 0 < u → (s.stk u).isEmpty = false) := fun u hu hu0 => absurd hu0 (by omega)
        clear hA
        go_wp2
        go_round
        case rel => exact ⟨j + 1, by omega, by go_num, hall'⟩
        case measure => simp [intOf]; omega
    · have hfr := free_none (T := s.T) (stk := s.stk) (fun u hu h0 => hall.out u (by omega) h0)
      have HR : Hid ((freeO s.T s.stk).getD 0 = 0 ∧ (freeO s.T s.stk).isSome = false) := by rw [hfr]; exact ⟨rfl, rfl⟩
      clear hfr
      go_wp2
      go_ret2
      rw [HR.out.1, HR.out.2]
      exact ⟨rfl, rfl⟩

set_option maxHeartbeats 400000 in
theorem moves_any (h : RunAt w lab k L s) :
    Calls Try.prog 22 #[.pointer (some ⟨L.r, 0, none⟩)] w fun e w' => e = .returned (.int .i64 s.mov) ∧ w = w' := by
  have hs := h.fields.2.2.2.2.2.2
  go_enter Try.func22, Try.ntmps22
  go_wp2
  go_ret
  exact ⟨rfl, rfl⟩
theorem moves_nil (w : World) :
    Calls Try.prog 22 #[.pointer none] w fun e w' => e = .returned (.int .i64 0) ∧ w = w' := by
  go_enter Try.func22, Try.ntmps22
  go_wp2
  go_ret
  exact ⟨rfl, rfl⟩

set_option maxHeartbeats 400000 in
theorem done_any (h : RunAt w lab k L s) (hI : s.Inv) :
    Calls Try.prog 21 #[.pointer (some ⟨L.r, 0, none⟩)] w fun e w' => e = .returned (.bool (!s.opn 0)) ∧ w = w' := by
  obtain ⟨go, co, hvo, o1, o2, o3, o4, _⟩ := h.ops hI.tree.pos
  have hs := h.fields.2.2.2.2.2.1
  rw [hvo] at hs
  have hpos := hI.tree.pos
  have o5 := o4 0 hpos
  clear o4 hvo
  go_enter Try.func21, Try.ntmps21
  go_wp2
  go_ret
  exact ⟨rfl, rfl⟩
theorem done_nil (w : World) :
    Calls Try.prog 21 #[.pointer none] w fun e w' => e = .returned (.bool false) ∧ w = w' := by
  go_enter Try.func21, Try.ntmps21
  go_wp2
  go_ret
  exact ⟨rfl, rfl⟩
end
end Go.Proofs.Ytlncdkdkoamadaa
