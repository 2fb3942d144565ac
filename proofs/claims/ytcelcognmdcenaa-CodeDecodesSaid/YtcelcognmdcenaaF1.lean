/-
  WALKS: slices.Equal at bytes, points, instructions, numbers.
-/
import Derived.Test.YtcelcognmdcenaaA2
import Derived.Deep.QuietTactic
import Derived.BigQuiet
namespace Go.Proofs.Ytcelcognmdcenaa
open Go.RowKit

/-- What Equal answers. -/
def EqOut (w : World) (p : Prop) (e : Ending) (w' : World) : Prop := ∃ b : Bool, e = .returned (.bool b) ∧ (b = true ↔ p) ∧ ∃ j, w.drewN j = w'
theorem eq_of_all {α : Type} {l m : List α} {n : Nat} (h1 : l.length = n) (h2 : m.length = n) (h : ∀ i, i < n → l[i]? = m[i]?) : l = m := by
  apply List.ext_getElem?
  intro i
  by_cases hi : i < n
  · exact h i hi
  · rw [List.getElem?_eq_none (by omega), List.getElem?_eq_none (by omega)]

set_option maxHeartbeats 4000000 in
theorem equal50 (A B : Option Addr) (n m c d : Nat) (l1 l2 : List Int) (w : World) (h1 : Reads w 1 (.slice A n c) n (vI l1)) (h2 : Reads w 1 (.slice B m d) m (vI l2)) :
    Calls Try.prog 50 #[.slice A n c, .slice B m d] w (EqOut w (l1 = l2)) := by
  have hn : n ≤ 9223372036854775807 := h1.2.1
  have hm : m ≤ 9223372036854775807 := h2.2.1
  have hl1 := h1.ints.1
  have hl2 := h2.ints.1
  have HA := Lib.hid h1.ints.2
  have HB := Lib.hid h2.ints.2
  by_cases hnm : n = m
  · subst hnm
    have HL1 := Lib.hid hl1
    have HL2 := Lib.hid hl2
    clear h1 h2 hl1 hl2 hm
    go_enter Try.func50, Try.ntmps50
    go_wp2_with fail
    go_loopw [13] (fun i wr => ∃ j : Nat, j ≤ n ∧ i = .int .i64 j ∧ Hid (∀ i, i < j → l1[i]? = l2[i]?) ∧ ∃ q, w.drewN q = wr) (fun i _ => n - (intOf i).toNat)
    case atStart => exact ⟨0, Nat.zero_le _, rfl, fun i hi => absurd hi (by omega), 0, rfl⟩
    case round =>
      obtain ⟨j, hj, rfl, HP, q, rfl⟩ := hrel
      by_cases hlt : j < n
      · obtain ⟨ga, oa, rfl, _, hca⟩ := HA.out (by omega)
        obtain ⟨gb, ob, rfl, _, hcb⟩ := HB.out (by omega)
        obtain ⟨x, hx⟩ : ∃ x, l1[j]? = some x := ⟨l1[j]'(by rw [HL1.out]; exact hlt), List.getElem?_eq_getElem _⟩
        obtain ⟨y, hy⟩ : ∃ y, l2[j]? = some y := ⟨l2[j]'(by rw [HL2.out]; exact hlt), List.getElem?_eq_getElem _⟩
        have a0 := hca j x hx
        have b0 := hcb j y hy
        have HX := Lib.hid hx
        have HY := Lib.hid hy
        clear hca hcb hx hy
        by_cases hxy : x = y
        · subst hxy
          go_wp2_with fail
          go_quiet (fail)
          go_wp2_with fail
          go_roundw
          case rel => exact ⟨j + 1, by omega, by go_num, fun i hi => by
            by_cases e : i = j
            · subst e; rw [HX.out, HY.out]
            · exact HP.out i (by omega), q + nq, by first | rfl | rw [World.drewN_drewN]⟩
          case measure => simp [intOf]; omega
        · have HNE := Lib.hid hxy
          have HEND : Hid (¬ l1 = l2) := fun e => by
            have := HX.out
            rw [e, HY.out] at this
            cases this
            exact HNE.out rfl
          have e0 : ((x : Int) == y) = false := by simp; omega
          have e1 : ((x : Int) != y) = true := by simp; omega
          clear hxy
          go_wp2_with fail
          go_quiet (fail)
          go_wp2_with fail
          go_ret
          exact ⟨false, rfl, ⟨(fun h => by cases h), fun h => absurd h HEND.out⟩, q + nq, by first | rfl | rw [World.drewN_drewN]⟩
      · have hall : l1 = l2 := eq_of_all HL1.out HL2.out fun i hi => HP.out i (by omega)
        have HE := Lib.hid hall
        clear hall
        go_wp2_with fail
        go_ret
        exact ⟨true, rfl, ⟨fun _ => HE.out, fun _ => rfl⟩, q, rfl⟩
  · have HEND : Hid (¬ l1 = l2) := fun e => hnm (by rw [← hl1, ← hl2, e])
    have e0 : ((n : Int) == m) = false := by simp; omega
    have e1 : ((n : Int) != m) = true := by simp; omega
    clear h1 h2 hl1 hl2 hnm
    go_enter Try.func50, Try.ntmps50
    go_wp2_with fail
    go_ret
    exact ⟨false, rfl, ⟨(fun h => by cases h), fun h => absurd h HEND.out⟩, 0, rfl⟩

set_option maxHeartbeats 4000000 in
theorem equal22 (A B : Option Addr) (n m c d : Nat) (l1 l2 : List Nat) (w : World) (h1 : Reads w 1 (.slice A n c) n (vB l1)) (h2 : Reads w 1 (.slice B m d) m (vB l2)) :
    Calls Try.prog 22 #[.slice A n c, .slice B m d] w (EqOut w (l1 = l2)) := by
  have hn : n ≤ 9223372036854775807 := h1.2.1
  have hm : m ≤ 9223372036854775807 := h2.2.1
  have hl1 := h1.bytes.1
  have hl2 := h2.bytes.1
  have HA := Lib.hid h1.bytes.2
  have HB := Lib.hid h2.bytes.2
  by_cases hnm : n = m
  · subst hnm
    have HL1 := Lib.hid hl1
    have HL2 := Lib.hid hl2
    clear h1 h2 hl1 hl2 hm
    go_enter Try.func22, Try.ntmps22
    go_wp2_with fail
    go_loopw [13] (fun i wr => ∃ j : Nat, j ≤ n ∧ i = .int .i64 j ∧ Hid (∀ i, i < j → l1[i]? = l2[i]?) ∧ ∃ q, w.drewN q = wr) (fun i _ => n - (intOf i).toNat)
    case atStart => exact ⟨0, Nat.zero_le _, rfl, fun i hi => absurd hi (by omega), 0, rfl⟩
    case round =>
      obtain ⟨j, hj, rfl, HP, q, rfl⟩ := hrel
      by_cases hlt : j < n
      · obtain ⟨ga, oa, rfl, _, hca⟩ := HA.out (by omega)
        obtain ⟨gb, ob, rfl, _, hcb⟩ := HB.out (by omega)
        obtain ⟨x, hx⟩ : ∃ x, l1[j]? = some x := ⟨l1[j]'(by rw [HL1.out]; exact hlt), List.getElem?_eq_getElem _⟩
        obtain ⟨y, hy⟩ : ∃ y, l2[j]? = some y := ⟨l2[j]'(by rw [HL2.out]; exact hlt), List.getElem?_eq_getElem _⟩
        have a0 := hca j x hx
        have b0 := hcb j y hy
        have HX := Lib.hid hx
        have HY := Lib.hid hy
        clear hca hcb hx hy
        by_cases hxy : x = y
        · subst hxy
          go_wp2_with fail
          go_quiet (fail)
          go_wp2_with fail
          go_roundw
          case rel => exact ⟨j + 1, by omega, by go_num, fun i hi => by
            by_cases e : i = j
            · subst e; rw [HX.out, HY.out]
            · exact HP.out i (by omega), q + nq, by first | rfl | rw [World.drewN_drewN]⟩
          case measure => simp [intOf]; omega
        · have HNE := Lib.hid hxy
          have HEND : Hid (¬ l1 = l2) := fun e => by
            have := HX.out
            rw [e, HY.out] at this
            cases this
            exact HNE.out rfl
          have e0 : ((x : Int) == y) = false := by simp; omega
          have e1 : ((x : Int) != y) = true := by simp; omega
          clear hxy
          go_wp2_with fail
          go_quiet (fail)
          go_wp2_with fail
          go_ret
          exact ⟨false, rfl, ⟨(fun h => by cases h), fun h => absurd h HEND.out⟩, q + nq, by first | rfl | rw [World.drewN_drewN]⟩
      · have hall : l1 = l2 := eq_of_all HL1.out HL2.out fun i hi => HP.out i (by omega)
        have HE := Lib.hid hall
        clear hall
        go_wp2_with fail
        go_ret
        exact ⟨true, rfl, ⟨fun _ => HE.out, fun _ => rfl⟩, q, rfl⟩
  · have HEND : Hid (¬ l1 = l2) := fun e => hnm (by rw [← hl1, ← hl2, e])
    have e0 : ((n : Int) == m) = false := by simp; omega
    have e1 : ((n : Int) != m) = true := by simp; omega
    clear h1 h2 hl1 hl2 hnm
    go_enter Try.func22, Try.ntmps22
    go_wp2_with fail
    go_ret
    exact ⟨false, rfl, ⟨(fun h => by cases h), fun h => absurd h HEND.out⟩, 0, rfl⟩

set_option maxHeartbeats 4000000 in
theorem equal30 (A B : Option Addr) (n m c d : Nat) (l1 l2 : List (Int × Int)) (w : World) (h1 : Reads w 2 (.slice A n c) n (vP l1)) (h2 : Reads w 2 (.slice B m d) m (vP l2)) :
    Calls Try.prog 30 #[.slice A n c, .slice B m d] w (EqOut w (l1 = l2)) := by
  have hn : n ≤ 9223372036854775807 := h1.2.1
  have hm : m ≤ 9223372036854775807 := h2.2.1
  have hl1 := h1.points.1
  have hl2 := h2.points.1
  have HA := Lib.hid h1.points.2
  have HB := Lib.hid h2.points.2
  by_cases hnm : n = m
  · subst hnm
    have HL1 := Lib.hid hl1
    have HL2 := Lib.hid hl2
    clear h1 h2 hl1 hl2 hm
    go_enter Try.func30, Try.ntmps30
    go_wp2_with fail
    go_loopw [13] (fun i wr => ∃ j : Nat, j ≤ n ∧ i = .int .i64 j ∧ Hid (∀ i, i < j → l1[i]? = l2[i]?) ∧ ∃ q, w.drewN q = wr) (fun i _ => n - (intOf i).toNat)
    case atStart => exact ⟨0, Nat.zero_le _, rfl, fun i hi => absurd hi (by omega), 0, rfl⟩
    case round =>
      obtain ⟨j, hj, rfl, HP, q, rfl⟩ := hrel
      by_cases hlt : j < n
      · obtain ⟨ga, oa, rfl, _, hca⟩ := HA.out (by omega)
        obtain ⟨gb, ob, rfl, _, hcb⟩ := HB.out (by omega)
        obtain ⟨x, hx⟩ : ∃ x, l1[j]? = some x := ⟨l1[j]'(by rw [HL1.out]; exact hlt), List.getElem?_eq_getElem _⟩
        obtain ⟨y, hy⟩ : ∃ y, l2[j]? = some y := ⟨l2[j]'(by rw [HL2.out]; exact hlt), List.getElem?_eq_getElem _⟩
        obtain ⟨a0, a1⟩ := hca j x hx
        obtain ⟨b0, b1⟩ := hcb j y hy
        have HX := Lib.hid hx
        have HY := Lib.hid hy
        clear hca hcb hx hy
        by_cases hxy : x = y
        · subst hxy
          go_wp2_with fail
          go_quiet (fail)
          go_wp2_with fail
          go_roundw
          case rel => exact ⟨j + 1, by omega, by go_num, fun i hi => by
            by_cases e : i = j
            · subst e; rw [HX.out, HY.out]
            · exact HP.out i (by omega), q + nq, by first | rfl | rw [World.drewN_drewN]⟩
          case measure => simp [intOf]; omega
        · have HNE := Lib.hid hxy
          have HEND : Hid (¬ l1 = l2) := fun e => by
            have := HX.out
            rw [e, HY.out] at this
            cases this
            exact HNE.out rfl
          obtain ⟨x0, x1⟩ := x
          obtain ⟨y0, y1⟩ := y
          simp only at a0 b0 a1 b1
          have hn1 : ¬ (x0 = y0 ∧ x1 = y1) := fun h => hxy (by obtain ⟨rfl, rfl⟩ := h; rfl)
          have hne : (¬ x0 = y0) ∨ (x0 = y0 ∧ ¬ x1 = y1) := by omega
          clear hxy hn1
          rcases hne with h0 | ⟨rfl, h1⟩
          all_goals
            go_wp2_with fail
            go_quiet (fail)
            go_wp2_with fail
            go_ret
            exact ⟨false, rfl, ⟨(fun h => by cases h), fun h => absurd h HEND.out⟩, q + nq, by first | rfl | rw [World.drewN_drewN]⟩
      · have hall : l1 = l2 := eq_of_all HL1.out HL2.out fun i hi => HP.out i (by omega)
        have HE := Lib.hid hall
        clear hall
        go_wp2_with fail
        go_ret
        exact ⟨true, rfl, ⟨fun _ => HE.out, fun _ => rfl⟩, q, rfl⟩
  · have HEND : Hid (¬ l1 = l2) := fun e => hnm (by rw [← hl1, ← hl2, e])
    have e0 : ((n : Int) == m) = false := by simp; omega
    have e1 : ((n : Int) != m) = true := by simp; omega
    clear h1 h2 hl1 hl2 hnm
    go_enter Try.func30, Try.ntmps30
    go_wp2_with fail
    go_ret
    exact ⟨false, rfl, ⟨(fun h => by cases h), fun h => absurd h HEND.out⟩, 0, rfl⟩

set_option maxHeartbeats 4000000 in
theorem equal49 (A B : Option Addr) (n m c d : Nat) (l1 l2 : List Ins) (w : World) (h1 : Reads w 5 (.slice A n c) n (vC l1)) (h2 : Reads w 5 (.slice B m d) m (vC l2)) :
    Calls Try.prog 49 #[.slice A n c, .slice B m d] w (EqOut w (l1 = l2)) := by
  have hn : n ≤ 9223372036854775807 := h1.2.1
  have hm : m ≤ 9223372036854775807 := h2.2.1
  have hl1 := h1.code.1
  have hl2 := h2.code.1
  have HA := Lib.hid h1.code.2
  have HB := Lib.hid h2.code.2
  by_cases hnm : n = m
  · subst hnm
    have HL1 := Lib.hid hl1
    have HL2 := Lib.hid hl2
    clear h1 h2 hl1 hl2 hm
    go_enter Try.func49, Try.ntmps49
    go_wp2_with fail
    go_loopw [13] (fun i wr => ∃ j : Nat, j ≤ n ∧ i = .int .i64 j ∧ Hid (∀ i, i < j → l1[i]? = l2[i]?) ∧ ∃ q, w.drewN q = wr) (fun i _ => n - (intOf i).toNat)
    case atStart => exact ⟨0, Nat.zero_le _, rfl, fun i hi => absurd hi (by omega), 0, rfl⟩
    case round =>
      obtain ⟨j, hj, rfl, HP, q, rfl⟩ := hrel
      by_cases hlt : j < n
      · obtain ⟨ga, oa, rfl, _, hca⟩ := HA.out (by omega)
        obtain ⟨gb, ob, rfl, _, hcb⟩ := HB.out (by omega)
        obtain ⟨x, hx⟩ : ∃ x, l1[j]? = some x := ⟨l1[j]'(by rw [HL1.out]; exact hlt), List.getElem?_eq_getElem _⟩
        obtain ⟨y, hy⟩ : ∃ y, l2[j]? = some y := ⟨l2[j]'(by rw [HL2.out]; exact hlt), List.getElem?_eq_getElem _⟩
        obtain ⟨a0, a1, a2, a3, a4⟩ := hca j x hx
        obtain ⟨b0, b1, b2, b3, b4⟩ := hcb j y hy
        have HX := Lib.hid hx
        have HY := Lib.hid hy
        clear hca hcb hx hy
        by_cases hxy : x = y
        · subst hxy
          go_wp2_with fail
          go_quiet (fail)
          go_wp2_with fail
          go_roundw
          case rel => exact ⟨j + 1, by omega, by go_num, fun i hi => by
            by_cases e : i = j
            · subst e; rw [HX.out, HY.out]
            · exact HP.out i (by omega), q + nq, by first | rfl | rw [World.drewN_drewN]⟩
          case measure => simp [intOf]; omega
        · have HNE := Lib.hid hxy
          have HEND : Hid (¬ l1 = l2) := fun e => by
            have := HX.out
            rw [e, HY.out] at this
            cases this
            exact HNE.out rfl
          obtain ⟨x0, x1, x2, x3, x4⟩ := x
          obtain ⟨y0, y1, y2, y3, y4⟩ := y
          simp only at a0 b0 a1 b1 a2 b2 a3 b3 a4 b4
          have hn1 : ¬ (x0 = y0 ∧ x1 = y1 ∧ x2 = y2 ∧ x3 = y3 ∧ x4 = y4) := fun h => hxy (by obtain ⟨rfl, rfl, rfl, rfl, rfl⟩ := h; rfl)
          have hne : (¬ x0 = y0) ∨ (x0 = y0 ∧ ¬ x1 = y1) ∨ (x0 = y0 ∧ x1 = y1 ∧ ¬ x2 = y2) ∨ (x0 = y0 ∧ x1 = y1 ∧ x2 = y2 ∧ ¬ x3 = y3) ∨ (x0 = y0 ∧ x1 = y1 ∧ x2 = y2 ∧ x3 = y3 ∧ ¬ x4 = y4) := by omega
          clear hxy hn1
          rcases hne with h0 | ⟨rfl, h1⟩ | ⟨rfl, rfl, h2⟩ | ⟨rfl, rfl, rfl, h3⟩ | ⟨rfl, rfl, rfl, rfl, h4⟩
          all_goals
            go_wp2_with fail
            go_quiet (fail)
            go_wp2_with fail
            go_ret
            exact ⟨false, rfl, ⟨(fun h => by cases h), fun h => absurd h HEND.out⟩, q + nq, by first | rfl | rw [World.drewN_drewN]⟩
      · have hall : l1 = l2 := eq_of_all HL1.out HL2.out fun i hi => HP.out i (by omega)
        have HE := Lib.hid hall
        clear hall
        go_wp2_with fail
        go_ret
        exact ⟨true, rfl, ⟨fun _ => HE.out, fun _ => rfl⟩, q, rfl⟩
  · have HEND : Hid (¬ l1 = l2) := fun e => hnm (by rw [← hl1, ← hl2, e])
    have e0 : ((n : Int) == m) = false := by simp; omega
    have e1 : ((n : Int) != m) = true := by simp; omega
    clear h1 h2 hl1 hl2 hnm
    go_enter Try.func49, Try.ntmps49
    go_wp2_with fail
    go_ret
    exact ⟨false, rfl, ⟨(fun h => by cases h), fun h => absurd h HEND.out⟩, 0, rfl⟩
end Go.Proofs.Ytcelcognmdcenaa
