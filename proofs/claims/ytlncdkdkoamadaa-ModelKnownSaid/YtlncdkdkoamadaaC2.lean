/-
  WALKS: slices.Index, slices.Contains at []int and []bool.
-/
import Derived.Test.YtlncdkdkoamadaaC1
namespace Go.Proofs.Ytlncdkdkoamadaa
open Go.RowKit

def RdB (w : World) (A : Option Addr) (n : Nat) (f : Nat → Bool) : Prop := 0 < n → ∃ b off, A = some ⟨b, off, none⟩ ∧ b < w.heap.size ∧ ∀ i, i < n → w.cell? ⟨b, off + i, none⟩ = some (.bool (f i))

/-- The first place at which it stands; -1: nowhere. -/
def idxI (n : Nat) (f : Nat → Int) (x : Int) : Int := match (List.range n).find? (fun i => f i == x) with | some i => (i : Int) | none => -1
def hasI (n : Nat) (f : Nat → Int) (x : Int) : Bool := (List.range n).any fun i => f i == x
theorem idxI_ge (n : Nat) (f : Nat → Int) (x : Int) : decide (0 ≤ idxI n f x) = hasI n f x := by
  unfold idxI hasI
  cases h : (List.range n).find? (fun i => f i == x) with
  | some i =>
    have h1 := List.mem_of_find?_eq_some h
    have h2 := List.find?_some h
    have : (List.range n).any (fun i => f i == x) = true := List.any_eq_true.2 ⟨i, h1, h2⟩
    rw [this]; simp
  | none =>
    have : (List.range n).any (fun i => f i == x) = false := by
      rw [List.find?_eq_none] at h
      rw [List.any_eq_false]
      exact h
    rw [this]; simp

set_option maxHeartbeats 800000 in
theorem index_I (A : Option Addr) (n c : Nat) (f : Nat → Int) (x : Int) (w : World) (ha : RdI w A n f) (hn : n ≤ 4294967296) :
    Calls Try.prog 43 #[.slice A n c, .int .i64 x] w fun e w' => e = .returned (.int .i64 (idxI n f x)) ∧ w = w' := by
  have HA := Lib.hid ha
  clear ha
  go_enter Try.func43, Try.ntmps43
  go_wp2
  go_loop [8] (fun i => ∃ j : Nat, j ≤ n ∧ i = .int .i64 j ∧ Hid (∀ i, i < j → (f i == x) = false)) (fun i => n - (intOf i).toNat)
  case atStart => exact ⟨0, Nat.zero_le _, rfl, fun u hu => absurd hu (by omega)⟩
  case round =>
    obtain ⟨j, hj, rfl, hall⟩ := hrel
    by_cases hlt : j < n
    · obtain ⟨b, off, rfl, hbl, hcx⟩ := HA.out (by omega)
      have k1 := hcx j hlt
      clear hcx
      cases hfx : f j == x with
      | true =>
        have HR := Lib.hid (show idxI n f x = j by
          unfold idxI
          have : (List.range n).find? (fun i => f i == x) = some j := by
            rw [List.find?_range_eq_some]
            exact ⟨hfx, by simpa using hlt, fun i hi => by simp [hall.out i hi]⟩
          rw [this])
        have h1 : f j = x := by simpa using hfx
        rw [h1] at k1
        clear hfx h1
        go_wp2
        go_ret
        rw [HR.out]
        exact ⟨rfl, rfl⟩
      | false =>
        have hall' : Hid (∀ i, i < j + 1 → (f i == x) = false) := fun i hi => by
          by_cases e : i = j
          · subst e; exact hfx
          · exact hall.out i (by omega)
        have h1 : (x == f j) = false := by rw [beq_eq_false_iff_ne] at hfx ⊢; exact fun e => hfx e.symm
        clear hfx
        go_wp2
        go_round
        case rel => exact ⟨j + 1, by omega, by go_num, hall'⟩
        case measure => simp [intOf]; omega
    · have HR := Lib.hid (show idxI n f x = -1 by
        unfold idxI
        have : (List.range n).find? (fun i => f i == x) = none := by
          rw [List.find?_eq_none]
          intro i hi
          simp [hall.out i (by have := List.mem_range.1 hi; omega)]
        rw [this])
      go_wp2
      go_ret
      rw [HR.out]
      exact ⟨rfl, rfl⟩

set_option maxHeartbeats 800000 in
theorem contains_I (A : Option Addr) (n c : Nat) (f : Nat → Int) (x : Int) (w : World) (ha : RdI w A n f) (hn : n ≤ 4294967296) :
    Calls Try.prog 28 #[.slice A n c, .int .i64 x] w fun e w' => e = .returned (.bool (hasI n f x)) ∧ w = w' := by
  have hi := index_I A n c f x w ha hn
  have hge := idxI_ge n f x
  have HI := Lib.hid hi
  have HG := Lib.hid hge
  clear hi hge ha
  go_enter Try.func28, Try.ntmps28
  go_wp2_with fail
  refine HI.out.mono ?_
  rintro e w' ⟨rfl, rfl⟩
  go_wp2_with fail
  go_ret
  rw [← HG.out]
  exact ⟨rfl, rfl⟩

/-- The first place at which it stands; -1: nowhere. -/
def idxB (n : Nat) (f : Nat → Bool) (x : Bool) : Int := match (List.range n).find? (fun i => f i == x) with | some i => (i : Int) | none => -1
def hasB (n : Nat) (f : Nat → Bool) (x : Bool) : Bool := (List.range n).any fun i => f i == x
theorem idxB_ge (n : Nat) (f : Nat → Bool) (x : Bool) : decide (0 ≤ idxB n f x) = hasB n f x := by
  unfold idxB hasB
  cases h : (List.range n).find? (fun i => f i == x) with
  | some i =>
    have h1 := List.mem_of_find?_eq_some h
    have h2 := List.find?_some h
    have : (List.range n).any (fun i => f i == x) = true := List.any_eq_true.2 ⟨i, h1, h2⟩
    rw [this]; simp
  | none =>
    have : (List.range n).any (fun i => f i == x) = false := by
      rw [List.find?_eq_none] at h
      rw [List.any_eq_false]
      exact h
    rw [this]; simp

set_option maxHeartbeats 800000 in
theorem index_B (A : Option Addr) (n c : Nat) (f : Nat → Bool) (x : Bool) (w : World) (ha : RdB w A n f) (hn : n ≤ 4294967296) :
    Calls Try.prog 42 #[.slice A n c, .bool x] w fun e w' => e = .returned (.int .i64 (idxB n f x)) ∧ w = w' := by
  have HA := Lib.hid ha
  clear ha
  go_enter Try.func42, Try.ntmps42
  go_wp2
  go_loop [8] (fun i => ∃ j : Nat, j ≤ n ∧ i = .int .i64 j ∧ Hid (∀ i, i < j → (f i == x) = false)) (fun i => n - (intOf i).toNat)
  case atStart => exact ⟨0, Nat.zero_le _, rfl, fun u hu => absurd hu (by omega)⟩
  case round =>
    obtain ⟨j, hj, rfl, hall⟩ := hrel
    by_cases hlt : j < n
    · obtain ⟨b, off, rfl, hbl, hcx⟩ := HA.out (by omega)
      have k1 := hcx j hlt
      clear hcx
      cases hfx : f j == x with
      | true =>
        have HR := Lib.hid (show idxB n f x = j by
          unfold idxB
          have : (List.range n).find? (fun i => f i == x) = some j := by
            rw [List.find?_range_eq_some]
            exact ⟨hfx, by simpa using hlt, fun i hi => by simp [hall.out i hi]⟩
          rw [this])
        have h1 : f j = x := by simpa using hfx
        rw [h1] at k1
        clear hfx h1
        go_wp2
        go_ret
        rw [HR.out]
        exact ⟨rfl, rfl⟩
      | false =>
        have hall' : Hid (∀ i, i < j + 1 → (f i == x) = false) := fun i hi => by
          by_cases e : i = j
          · subst e; exact hfx
          · exact hall.out i (by omega)
        have h1 : (x == f j) = false := by rw [beq_eq_false_iff_ne] at hfx ⊢; exact fun e => hfx e.symm
        clear hfx
        go_wp2
        go_round
        case rel => exact ⟨j + 1, by omega, by go_num, hall'⟩
        case measure => simp [intOf]; omega
    · have HR := Lib.hid (show idxB n f x = -1 by
        unfold idxB
        have : (List.range n).find? (fun i => f i == x) = none := by
          rw [List.find?_eq_none]
          intro i hi
          simp [hall.out i (by have := List.mem_range.1 hi; omega)]
        rw [this])
      go_wp2
      go_ret
      rw [HR.out]
      exact ⟨rfl, rfl⟩

set_option maxHeartbeats 800000 in
theorem contains_B (A : Option Addr) (n c : Nat) (f : Nat → Bool) (x : Bool) (w : World) (ha : RdB w A n f) (hn : n ≤ 4294967296) :
    Calls Try.prog 25 #[.slice A n c, .bool x] w fun e w' => e = .returned (.bool (hasB n f x)) ∧ w = w' := by
  have hi := index_B A n c f x w ha hn
  have hge := idxB_ge n f x
  have HI := Lib.hid hi
  have HG := Lib.hid hge
  clear hi hge ha
  go_enter Try.func25, Try.ntmps25
  go_wp2_with fail
  refine HI.out.mono ?_
  rintro e w' ⟨rfl, rfl⟩
  go_wp2_with fail
  go_ret
  rw [← HG.out]
  exact ⟨rfl, rfl⟩

/-- A slice of numbers that reads as a list. -/
def RdL (w : World) (A : Option Addr) (l : List Nat) : Prop := RdI w A l.length fun i => ((l.getD i 0 : Nat) : Int)
theorem intl_range (l : List Nat) : intl l = (List.range l.length).map fun i => .int .i64 ((l.getD i 0 : Nat) : Int) := by
  apply List.ext_getElem?
  intro i
  by_cases h : i < l.length
  · simp [intl, h, List.getD]
  · simp [intl, h]
theorem RdL.of_own {w : World} {base : Nat} {e : TypeId} {A : Option Addr} {n c : Nat} {l : List Nat} (h : w.ownsRow base e 1 (.slice A n c) n (intl l)) : RdL w A l := by
  have hn : n = l.length := by have := h.1; rw [intl, List.length_map] at this; omega
  subst hn
  rw [intl_range] at h
  exact RdI.of_own h
theorem RdL.below {w w' : World} {A : Option Addr} {l : List Nat} (h : RdL w A l) {B : Nat} (hb : Below B w w') (hB : w.heap.size ≤ B) : RdL w' A l := RdI.below h hb hB
theorem RdL.lit (w : World) (l : List Nat) (t : TypeId) : RdL (w.alloc (.cells (intl l).toArray t)) (some ⟨w.heap.size, 0, none⟩) l := fun _ => by
  refine ⟨w.heap.size, 0, rfl, by simp, fun i hi => ?_⟩
  rw [cell_of_row _ _ _ _ t (0, 0) (heap_alloc_new w _)]
  simp [intl, hi, List.getD]
theorem eqI_list (l m : List Nat) : eqI l.length m.length (fun i => ((l.getD i 0 : Nat) : Int)) (fun i => ((m.getD i 0 : Nat) : Int)) = (l == m) := by
  rw [Bool.eq_iff_iff, beq_iff_eq]
  unfold eqI
  simp only [Bool.and_eq_true, beq_iff_eq, List.all_eq_true]
  constructor
  · rintro ⟨h1, h2⟩
    apply List.ext_getElem h1
    intro i hi hi'
    have := h2 i (by simpa using hi)
    simp [List.getD, hi, hi'] at this
    omega
  · rintro rfl
    exact ⟨rfl, fun _ _ => rfl⟩
theorem equal_lists (A B : Option Addr) (n m c d : Nat) (l k : List Nat) (w : World) (ha : RdL w A l) (hb : RdL w B k) (hn : l.length = n) (hm : k.length = m) (hn' : n ≤ 4294967296) (hm' : m ≤ 4294967296) :
    Calls Try.prog 32 #[.slice A n c, .slice B m d] w fun e w' => e = .returned (.bool (l == k)) ∧ ∃ j, w.drewN j = w' := by
  subst hn hm
  have := equal_ints A B l.length c k.length d _ _ w ha hb hn' hm'
  rw [eqI_list] at this
  exact this

end Go.Proofs.Ytlncdkdkoamadaa
