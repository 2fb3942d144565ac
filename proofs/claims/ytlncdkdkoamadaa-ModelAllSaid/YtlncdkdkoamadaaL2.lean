/-
  THE WALK of the law ModelAll.
-/
import Derived.Test.YtlncdkdkoamadaaA1
import Derived.Test.YtlncdkdkoamadaaK1
namespace Go.Proofs.Ytlncdkdkoamadaa
open Go.RowKit

/-- The run just made, beside the count's own block. -/
theorem all_start {w : World} {lab : Nat → Nat} {r : Nat} {s : G} {x : Int} (h : Rn w lab 1 r s) :
    ∃ lab', Rn (w.alloc (.cells #[.int .i64 x] 3)) lab' 1 r s ∧ lab' w.heap.size = 2 ∧ (∀ b, lab' b ≤ 2) ∧ OneInt (w.alloc (.cells #[.int .i64 x] 3)) w.heap.size := by
  have h1 := h.below (lab' := fun b => if b < w.heap.size then lab b else 2) ((Below.refl _ _).alloc (Nat.le_refl _) (.cells #[.int .i64 x] 3)) (fun b hb => by simp [hb])
  refine ⟨canon 1 (fun b => if b < w.heap.size then lab b else 2), h1.rekey (by decide) (fun g hg => ?_) (fun g hg => ?_), by simp [canon], fun b => ?_, x, heap_alloc_new w _⟩
  · unfold canon; simp only [hg]; decide
  · unfold canon; simp only [hg]; decide
  · unfold canon
    split
    · omega
    · split <;> omega

set_option maxHeartbeats 4000000 in
set_option maxRecDepth 100000 in
theorem all_law (A : Option Addr) (n c : Nat) (wk : Int) (f : Nat → Int) (w : World) (hm : n ≤ maxLen) (ha : RdI w A n f) :
    Calls Try.prog 5 #[.slice A n c, .int .i64 wk] w fun e w' => e = .returned (.bool true) ∧ Below w.heap.size w w' := by
  have HA := Lib.hid ha
  have hm' := hm
  unfold maxLen at hm'
  have HM := Lib.hid hm
  clear ha hm
  go_enter Try.func5, Try.ntmps5
  go_wp2_with fail
  refine (works_any w).mono ?_
  rintro e w1 ⟨rfl, hb1⟩
  have HB1 := Lib.hid hb1
  have HN := Lib.hid (new_rn (c := c) (wk := wk) (fun _ => 2) 1 (by decide) (fun _ _ => by decide) HM.out (HA.out.below hb1 (Nat.le_refl _)))
  clear hb1
  go_wp2_with fail
  · go_ret
    exact ⟨rfl, HB1.out⟩
  · refine HN.out.mono ?_
    rintro e w2 (⟨hg, r, lab, rfl, hr, _, hb2⟩ | ⟨hg, rfl, hb2⟩)
    · have HB2 := Lib.hid (HB1.out.trans (hb2.mono HB1.out.size))
      obtain ⟨lab', q1, q2, q3, q4⟩ := all_start (x := 20000) hr
      have HALL : Hid (∀ W : Int, W + 1 = (thr wk : Nat) → Calls Try.prog 26 #[.pointer (some ⟨r, 0, none⟩), .int .i64 (n : Nat), .int .i64 W, .pointer (some ⟨w2.heap.size, 0, none⟩)] (w2.alloc (.cells #[.int .i64 20000] 3)) (AllOut (w2.alloc (.cells #[.int .i64 20000] 3)) w2.heap.size)) :=
        fun W hW => all_any (2 * n) _ lab' r (G.init n (thr wk) f) w2.heap.size W q1 q2 q3 q4 (by show 2 * n ≤ 0 + 2 * n; omega) hW
      have hsz : w.heap.size ≤ w2.heap.size := HB2.out.size
      clear hg hr hb2 q1 q2 q3 q4 HB1 HN
      go_wp2_with fail
      all_goals
        (with_reducible refine (HALL.out _ (by unfold thr; omega)).mono ?_)
        rintro e w3 ⟨rfl, _, hk⟩
        have HK := Lib.hid hk
        clear hk HALL
        go_wp2_with fail
        go_ret
        refine ⟨rfl, (HB2.out.alloc hsz _).trans (HK.out.below (by simp; omega) (fun x hx => ?_))⟩
        unfold lab1
        rw [if_neg (by omega)]; decide
    · have HB2 := Lib.hid (HB1.out.trans (hb2.mono HB1.out.size))
      clear HB1 hb2 HN
      go_wp2_with fail
      go_ret
      exact ⟨rfl, HB2.out⟩
end Go.Proofs.Ytlncdkdkoamadaa
