/-
  WALKS: the program's reader: a number between two others, a coordinate.
-/
import Derived.Test.YtcelcognmdcenaaB1
import Derived.Test.YtcelcognmdcenaaA2
namespace Go.Proofs.Ytcelcognmdcenaa
open Go.RowKit

theorem drewN_cell (w : World) (q : Nat) (a : Addr) : (w.drewN q).cell? a = w.cell? a := World.cell?_of_block (w := w) rfl

set_option maxHeartbeats 400000 in
theorem asks52 {w : World} {b1 b2 : Nat} {lo hi : Int} (x : Nat) (_hx : x < 256) (h1 : w.cell? ⟨b1, 0, none⟩ = some (.int .i64 lo)) (h2 : w.cell? ⟨b2, 0, none⟩ = some (.int .i64 hi)) :
    Asks1 w 52 #[.pointer (some ⟨b1, 0, none⟩), .pointer (some ⟨b2, 0, none⟩)] x (decide (lo ≤ (x : Int) ∧ (x : Int) ≤ hi)) where
  call := fun _ _ => by kernel_rfl
  con := fun q => by
    show Calls Try.prog 52 #[.int .i64 (x : Nat), .pointer (some ⟨b1, 0, none⟩), .pointer (some ⟨b2, 0, none⟩)] (w.drewN q) _
    have k1 : (w.drewN q).cell? ⟨b1, 0, none⟩ = some (.int .i64 lo) := by rw [drewN_cell]; exact h1
    have k2 : (w.drewN q).cell? ⟨b2, 0, none⟩ = some (.int .i64 hi) := by rw [drewN_cell]; exact h2
    have HW : Hid (∃ j, w.drewN q = w.drewN j) := ⟨q, rfl⟩
    generalize w.drewN q = w1 at *
    clear h1 h2
    by_cases c1 : lo ≤ (x : Int)
    · by_cases c2 : (x : Int) ≤ hi
      · rw [decide_eq_true ⟨c1, c2⟩]
        go_enter Try.func52, Try.ntmps52
        go_wp2_with fail
        go_ret
        exact ⟨rfl, HW.out⟩
      · rw [decide_eq_false (fun h => c2 h.2)]
        go_enter Try.func52, Try.ntmps52
        go_wp2_with fail
        go_ret
        exact ⟨rfl, HW.out⟩
    · rw [decide_eq_false (fun h => c1 h.1)]
      go_enter Try.func52, Try.ntmps52
      go_wp2_with fail
      go_ret
      exact ⟨rfl, HW.out⟩

set_option maxHeartbeats 400000 in
theorem within33 {w : World} {r : Nat} {A : Option Addr} {n c : Nat} {bs : List Nat} {s : Nat × Bool} (h : RdP w r A n c bs s) (lo hi : Int) :
    Calls Try.prog 33 #[.pointer (some ⟨r, 0, none⟩), .int .i64 lo, .int .i64 hi] w (RdOut w r A n c bs s (rNum lo hi) (fun x => x) (fun x => 0 ≤ x ∧ x < 256)) := by
  obtain ⟨p, wr⟩ := s
  have hb1 : Below w.heap.size w ((w.alloc (.cells #[.int .i64 lo] 3)).alloc (.cells #[.int .i64 hi] 3)) := (below_a w _).alloc (by simp) _
  have k1 : ((w.alloc (.cells #[.int .i64 lo] 3)).alloc (.cells #[.int .i64 hi] 3)).cell? ⟨w.heap.size, 0, none⟩ = some (.int .i64 lo) := by rw [World.cell?_alloc_lt _ _ _ (by simp)]; simp
  have k2 : ((w.alloc (.cells #[.int .i64 lo] 3)).alloc (.cells #[.int .i64 hi] 3)).cell? ⟨w.heap.size + 1, 0, none⟩ = some (.int .i64 hi) := by
    have := cell_of_row ((w.alloc (.cells #[.int .i64 lo] 3)).alloc (.cells #[.int .i64 hi] 3)) (w.heap.size + 1) 0 #[.int .i64 hi] 3 (0, 0) (by have := heap_alloc_new (w.alloc (.cells #[.int .i64 lo] 3)) (.cells #[.int .i64 hi] 3); simpa using this)
    exact this
  have HC := Lib.hid (byte51 (h.below hb1) 52 _ (fun x => decide (lo ≤ (x : Int) ∧ (x : Int) ≤ hi)) (fun x hx => asks52 x hx k1 k2))
  have HB := Lib.hid hb1
  clear h hb1 k1 k2
  go_enter Try.func33, Try.ntmps33
  go_wp2_with fail
  (with_reducible refine HC.out.mono ?_)
  rintro e w' ⟨x, s', rfl, hx, hr, hg, ho⟩
  have HR := Lib.hid hr
  have HG := Lib.hid ((World.grownBy.ofBelow HB.out (some r)).trans' hg)
  have HO := Lib.hid (ho.map (fun x : Nat => (x : Int)))
  clear hr hg ho
  go_wp2_with fail
  go_ret
  exact ⟨(x : Int), s', rfl, by omega, HR.out, HG.out, HO.out⟩
end Go.Proofs.Ytcelcognmdcenaa
