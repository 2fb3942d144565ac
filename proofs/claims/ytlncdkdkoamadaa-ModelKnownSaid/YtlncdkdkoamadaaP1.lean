/-
  WALKS: Pair of the program.
-/
import Derived.Test.YtlncdkdkoamadaaRun
import Derived.Test.YtlncdkdkoamadaaC2
import Derived.Test.YtlncdkdkoamadaaPureP
namespace Go.Proofs.Ytlncdkdkoamadaa
open Go.RowKit

/-- Which trees are taken. -/
def goodTree (n : Nat) (f : Nat → Int) : Prop := 1 ≤ n ∧ n ≤ 256 ∧ treeOk n f

/-- What Pair answers. -/
def PairOut (w : World) (n : Nat) (wk : Int) (f : Nat → Int) (e : Ending) (w' : World) : Prop :=
  Below w.heap.size w w' ∧
  ((¬ goodTree n f ∧ e = .returned (.tuple #[.slice none 0 0, .int .i64 2])) ∨
   (goodTree n f ∧ ((G.init n (thr wk) f).ch 0).length < 2 ∧ e = .returned (.tuple #[.slice none 0 0, .int .i64 4])) ∨
   (goodTree n f ∧ 2 ≤ ((G.init n (thr wk) f).ch 0).length ∧ ∃ g, w.heap.size ≤ g ∧ e = .returned (.tuple #[.slice (some ⟨g, 0, none⟩) 2 2, .int .i64 0]) ∧ w'.heap[g]? = some (.cells #[.int .i64 0, .int .i64 0] 3 (0, 0))))

set_option maxHeartbeats 1000000 in
set_option maxRecDepth 100000 in
theorem pair_any (A : Option Addr) (n c : Nat) (wk : Int) (f : Nat → Int) (w : World) (hm : n ≤ maxLen) (ha : RdI w A n f) :
    Calls Try.prog 27 #[.slice A n c, .int .i64 wk] w (PairOut w n wk f) := by
  by_cases hn : 1 ≤ n ∧ n ≤ 256
  · obtain ⟨hn1, hn2⟩ := hn
    have HN := Lib.hid (new_in (P := fun b => b < w.heap.size) (c := c) (wk := wk) (fun b hb => hb) hn1 hn2 ha)
    clear ha
    go_enter Try.func27, Try.ntmps27
    go_wp2_with fail
    refine HN.out.mono ?_
    rintro e w1 (⟨ht, r, rfl, hr1, hb1⟩ | ⟨ht, rfl, hb1⟩)
    · obtain ⟨hI, hn3, hT1, hT2, _, lab, L, rfl, hra, _⟩ := hr1
      obtain ⟨gs, cs, hv, h1, _, hl, hc⟩ := hra.chs hI.tree.pos
      have hs := hra.fields.1
      rw [hv] at hs
      have c0 := hc 0 (show 0 < n by omega)
      obtain ⟨Ak, ck, hA⟩ := hra.kids (show 0 < n by omega)
      rw [hA] at c0
      have hkl := (G.init n (thr wk) f).ch_le 0
      change ((G.init n (thr wk) f).ch 0).length ≤ n at hkl
      change w1.cell? ⟨L.r, 0, none⟩ = some (.slice (some ⟨gs, 0, none⟩) n cs) at hs
      change w1.cell? ⟨gs, 0, none⟩ = some (.slice Ak ((G.init n (thr wk) f).ch 0).length ck) at c0
      have HG : Hid (goodTree n f) := ⟨hn1, hn2, ht⟩
      have HB := Lib.hid hb1
      generalize hm : ((G.init n (thr wk) f).ch 0).length = m at *
      have Hm := Lib.hid hm
      clear hm hv hA hc hra hI hb1 HN
      by_cases hk : m < 2
      · go_wp2_with fail
        go_ret2
        exact ⟨HB.out, .inr (.inl ⟨HG.out, by rw [Hm.out]; exact hk, rfl⟩)⟩
      · go_wp2_with fail
        go_ret2
        exact ⟨HB.out.alloc HB.out.size _, .inr (.inr ⟨HG.out, by rw [Hm.out]; omega, w1.heap.size, HB.out.size, rfl, heap_alloc_new w1 _⟩)⟩
    · have HB := Lib.hid hb1
      clear hb1 HN
      go_wp2_with fail
      go_ret2
      exact ⟨HB.out, .inl ⟨fun h => ht h.2.2, rfl⟩⟩
  · have HN := Lib.hid (new_len A n c wk w (by omega) hm)
    have HG : Hid (¬ goodTree n f) := fun h => hn ⟨h.1, h.2.1⟩
    clear ha hn
    go_enter Try.func27, Try.ntmps27
    go_wp2_with fail
    refine HN.out.mono ?_
    rintro e w1 ⟨rfl, rfl⟩
    go_wp2_with fail
    go_ret2
    exact ⟨Below.refl _ _, .inl ⟨HG.out, rfl⟩⟩
end Go.Proofs.Ytlncdkdkoamadaa
