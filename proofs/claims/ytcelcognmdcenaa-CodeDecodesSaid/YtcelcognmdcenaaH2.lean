/-
  WALKS: a unit in lists of its own.
-/
import Derived.Test.YtcelcognmdcenaaH1
import Derived.Test.YtcelcognmdcenaaF2
import Derived.Test.YtcelcognmdcenaaD2
namespace Go.Proofs.Ytcelcognmdcenaa
open Go.RowKit

/-- Three programs are stored. -/
abbrev set12 (w : World) (b : Nat) (a3 a4 a5 a6 a7 a8 a9 a10 a11 a12 a13 a14 : Value) : World := (((((((((((w.setCell ⟨b, 3, none⟩ a3).setCell ⟨b, 4, none⟩ a4).setCell ⟨b, 5, none⟩ a5).setCell ⟨b, 6, none⟩ a6).setCell ⟨b, 7, none⟩ a7).setCell ⟨b, 8, none⟩ a8).setCell ⟨b, 9, none⟩ a9).setCell ⟨b, 10, none⟩ a10).setCell ⟨b, 11, none⟩ a11).setCell ⟨b, 12, none⟩ a12).setCell ⟨b, 13, none⟩ a13).setCell ⟨b, 14, none⟩ a14
theorem set12_far {w : World} {b g : Nat} {a3 a4 a5 a6 a7 a8 a9 a10 a11 a12 a13 a14 : Value} (h : g ≠ b) : (set12 w b a3 a4 a5 a6 a7 a8 a9 a10 a11 a12 a13 a14).heap[g]? = w.heap[g]? := by
  rw [set_blk _ h, set_blk _ h, set_blk _ h, set_blk _ h, set_blk _ h, set_blk _ h, set_blk _ h, set_blk _ h, set_blk _ h, set_blk _ h, set_blk _ h, set_blk _ h]
theorem set12_size {w : World} {b : Nat} {a3 a4 a5 a6 a7 a8 a9 a10 a11 a12 a13 a14 : Value} : (set12 w b a3 a4 a5 a6 a7 a8 a9 a10 a11 a12 a13 a14).heap.size = w.heap.size := by simp [World.setCell]
theorem set12_blk {w : World} {b : Nat} {T : TypeId} {a3 a4 a5 a6 a7 a8 a9 a10 a11 a12 a13 a14 b0 b1 b2 b3 b4 b5 b6 b7 b8 b9 b10 b11 b12 b13 b14 : Value} (h : w.heap[b]? = some (.cells #[b0, b1, b2, b3, b4, b5, b6, b7, b8, b9, b10, b11, b12, b13, b14] T (0, 0))) : (set12 w b a3 a4 a5 a6 a7 a8 a9 a10 a11 a12 a13 a14).heap[b]? = some (.cells #[b0, b1, b2, a3, a4, a5, a6, a7, a8, a9, a10, a11, a12, a13, a14] T (0, 0)) := by
  have h3 : ((w).setCell ⟨b, 3, none⟩ a3).heap[b]? = some (.cells #[b0, b1, b2, a3, b4, b5, b6, b7, b8, b9, b10, b11, b12, b13, b14] T (0, 0)) := blk_set h 3 a3
  have h4 : (((w).setCell ⟨b, 3, none⟩ a3).setCell ⟨b, 4, none⟩ a4).heap[b]? = some (.cells #[b0, b1, b2, a3, a4, b5, b6, b7, b8, b9, b10, b11, b12, b13, b14] T (0, 0)) := blk_set h3 4 a4
  have h5 : ((((w).setCell ⟨b, 3, none⟩ a3).setCell ⟨b, 4, none⟩ a4).setCell ⟨b, 5, none⟩ a5).heap[b]? = some (.cells #[b0, b1, b2, a3, a4, a5, b6, b7, b8, b9, b10, b11, b12, b13, b14] T (0, 0)) := blk_set h4 5 a5
  have h6 : (((((w).setCell ⟨b, 3, none⟩ a3).setCell ⟨b, 4, none⟩ a4).setCell ⟨b, 5, none⟩ a5).setCell ⟨b, 6, none⟩ a6).heap[b]? = some (.cells #[b0, b1, b2, a3, a4, a5, a6, b7, b8, b9, b10, b11, b12, b13, b14] T (0, 0)) := blk_set h5 6 a6
  have h7 : ((((((w).setCell ⟨b, 3, none⟩ a3).setCell ⟨b, 4, none⟩ a4).setCell ⟨b, 5, none⟩ a5).setCell ⟨b, 6, none⟩ a6).setCell ⟨b, 7, none⟩ a7).heap[b]? = some (.cells #[b0, b1, b2, a3, a4, a5, a6, a7, b8, b9, b10, b11, b12, b13, b14] T (0, 0)) := blk_set h6 7 a7
  have h8 : (((((((w).setCell ⟨b, 3, none⟩ a3).setCell ⟨b, 4, none⟩ a4).setCell ⟨b, 5, none⟩ a5).setCell ⟨b, 6, none⟩ a6).setCell ⟨b, 7, none⟩ a7).setCell ⟨b, 8, none⟩ a8).heap[b]? = some (.cells #[b0, b1, b2, a3, a4, a5, a6, a7, a8, b9, b10, b11, b12, b13, b14] T (0, 0)) := blk_set h7 8 a8
  have h9 : ((((((((w).setCell ⟨b, 3, none⟩ a3).setCell ⟨b, 4, none⟩ a4).setCell ⟨b, 5, none⟩ a5).setCell ⟨b, 6, none⟩ a6).setCell ⟨b, 7, none⟩ a7).setCell ⟨b, 8, none⟩ a8).setCell ⟨b, 9, none⟩ a9).heap[b]? = some (.cells #[b0, b1, b2, a3, a4, a5, a6, a7, a8, a9, b10, b11, b12, b13, b14] T (0, 0)) := blk_set h8 9 a9
  have h10 : (((((((((w).setCell ⟨b, 3, none⟩ a3).setCell ⟨b, 4, none⟩ a4).setCell ⟨b, 5, none⟩ a5).setCell ⟨b, 6, none⟩ a6).setCell ⟨b, 7, none⟩ a7).setCell ⟨b, 8, none⟩ a8).setCell ⟨b, 9, none⟩ a9).setCell ⟨b, 10, none⟩ a10).heap[b]? = some (.cells #[b0, b1, b2, a3, a4, a5, a6, a7, a8, a9, a10, b11, b12, b13, b14] T (0, 0)) := blk_set h9 10 a10
  have h11 : ((((((((((w).setCell ⟨b, 3, none⟩ a3).setCell ⟨b, 4, none⟩ a4).setCell ⟨b, 5, none⟩ a5).setCell ⟨b, 6, none⟩ a6).setCell ⟨b, 7, none⟩ a7).setCell ⟨b, 8, none⟩ a8).setCell ⟨b, 9, none⟩ a9).setCell ⟨b, 10, none⟩ a10).setCell ⟨b, 11, none⟩ a11).heap[b]? = some (.cells #[b0, b1, b2, a3, a4, a5, a6, a7, a8, a9, a10, a11, b12, b13, b14] T (0, 0)) := blk_set h10 11 a11
  have h12 : (((((((((((w).setCell ⟨b, 3, none⟩ a3).setCell ⟨b, 4, none⟩ a4).setCell ⟨b, 5, none⟩ a5).setCell ⟨b, 6, none⟩ a6).setCell ⟨b, 7, none⟩ a7).setCell ⟨b, 8, none⟩ a8).setCell ⟨b, 9, none⟩ a9).setCell ⟨b, 10, none⟩ a10).setCell ⟨b, 11, none⟩ a11).setCell ⟨b, 12, none⟩ a12).heap[b]? = some (.cells #[b0, b1, b2, a3, a4, a5, a6, a7, a8, a9, a10, a11, a12, b13, b14] T (0, 0)) := blk_set h11 12 a12
  have h13 : ((((((((((((w).setCell ⟨b, 3, none⟩ a3).setCell ⟨b, 4, none⟩ a4).setCell ⟨b, 5, none⟩ a5).setCell ⟨b, 6, none⟩ a6).setCell ⟨b, 7, none⟩ a7).setCell ⟨b, 8, none⟩ a8).setCell ⟨b, 9, none⟩ a9).setCell ⟨b, 10, none⟩ a10).setCell ⟨b, 11, none⟩ a11).setCell ⟨b, 12, none⟩ a12).setCell ⟨b, 13, none⟩ a13).heap[b]? = some (.cells #[b0, b1, b2, a3, a4, a5, a6, a7, a8, a9, a10, a11, a12, a13, b14] T (0, 0)) := blk_set h12 13 a13
  have h14 : (((((((((((((w).setCell ⟨b, 3, none⟩ a3).setCell ⟨b, 4, none⟩ a4).setCell ⟨b, 5, none⟩ a5).setCell ⟨b, 6, none⟩ a6).setCell ⟨b, 7, none⟩ a7).setCell ⟨b, 8, none⟩ a8).setCell ⟨b, 9, none⟩ a9).setCell ⟨b, 10, none⟩ a10).setCell ⟨b, 11, none⟩ a11).setCell ⟨b, 12, none⟩ a12).setCell ⟨b, 13, none⟩ a13).setCell ⟨b, 14, none⟩ a14).heap[b]? = some (.cells #[b0, b1, b2, a3, a4, a5, a6, a7, a8, a9, a10, a11, a12, a13, a14] T (0, 0)) := blk_set h13 14 a14
  exact h14
theorem set12_below {B : Nat} {w0 w : World} {b : Nat} {a3 a4 a5 a6 a7 a8 a9 a10 a11 a12 a13 a14 : Value} (h : Below B w0 w) (hb : B ≤ b) : Below B w0 (set12 w b a3 a4 a5 a6 a7 a8 a9 a10 a11 a12 a13 a14) :=
  ((((((((((((h).setCell (p := ⟨b, 3, none⟩) hb a3).setCell (p := ⟨b, 4, none⟩) hb a4).setCell (p := ⟨b, 5, none⟩) hb a5).setCell (p := ⟨b, 6, none⟩) hb a6).setCell (p := ⟨b, 7, none⟩) hb a7).setCell (p := ⟨b, 8, none⟩) hb a8).setCell (p := ⟨b, 9, none⟩) hb a9).setCell (p := ⟨b, 10, none⟩) hb a10).setCell (p := ⟨b, 11, none⟩) hb a11).setCell (p := ⟨b, 12, none⟩) hb a12).setCell (p := ⟨b, 13, none⟩) hb a13).setCell (p := ⟨b, 14, none⟩) hb a14

theorem cpd_pr {B b0 base : Nat} {xa F : World} {L : PrV} {p : Pr} (h : PrOwn B xa L p) (hb : b0 < B) (hB : base ≤ B) (hF : ∀ g, g ≠ b0 → g < xa.heap.size → F.heap[g]? = xa.heap[g]?) : PrOwn base F L p :=
  (h.congr fun g h1 h2 _ => hF g (by omega) h2).base hB
/-- What copied answers. -/
def CpdOut (w : World) (u : Un) (f : Ending) (w' : World) : Prop :=
  ∃ M : UnV, f = .returned (M.val u) ∧ UnOwn w.heap.size w' M u ∧ Below w.heap.size w w'
/-- What the copies' region leaves. -/
def CpdMid (w : World) (u : Un) (wx : World) : Prop :=
  ∃ M : UnV, wx.heap[w.heap.size]? = some (.cells (M.cells u) 28 (0, 0)) ∧ wx.heap[w.heap.size + 1]? = some (.cells #[.int .i64 0, .int .i64 0, .slice none 0 0, .int .i64 0, .int .i64 0, .slice none 0 0, .slice none 0 0, .int .i64 0, .int .i64 0, .slice none 0 0, .slice none 0 0, .int .i64 0, .int .i64 0, .slice none 0 0, .slice none 0 0] 28 (0, 0)) ∧ UnOwn w.heap.size wx M u ∧ Below w.heap.size w wx
/-- Sizes that a copy can bear. -/
def Un.fits (u : Un) : Prop := u.pts.length * 16 ≤ 140737488351232 ∧ (u.left.code.length * 40 ≤ 140737488351232 ∧ u.left.outs.length * 8 ≤ 140737488351232) ∧ (u.right.code.length * 40 ≤ 140737488351232 ∧ u.right.outs.length * 8 ≤ 140737488351232) ∧ (u.back.code.length * 40 ≤ 140737488351232 ∧ u.back.outs.length * 8 ≤ 140737488351232)

set_option maxRecDepth 100000 in
set_option maxHeartbeats 8000000 in
theorem copied19 (u : Un) (L : UnV) (w : World) (hu : UnIn w L u) (hs : u.fits) : Calls Try.prog 19 #[L.val u] w (CpdOut w u) := by
  obtain ⟨fp, ⟨fl1, fl2⟩, ⟨fr1, fr2⟩, fb1, fb2⟩ := hs
  obtain ⟨w1, hw1⟩ : ∃ w1, w1 = (w.alloc (.cells #[.int .i64 u.k1, .int .i64 u.k2, .slice L.P u.pts.length L.c, .int .i64 u.left.ins, .int .i64 u.left.regs, .slice L.l.A u.left.code.length L.l.c, .slice L.l.B u.left.outs.length L.l.d, .int .i64 u.right.ins, .int .i64 u.right.regs, .slice L.r.A u.right.code.length L.r.c, .slice L.r.B u.right.outs.length L.r.d, .int .i64 u.back.ins, .int .i64 u.back.regs, .slice L.b.A u.back.code.length L.b.c, .slice L.b.B u.back.outs.length L.b.d] 28)).alloc (.cells #[.int .i64 0, .int .i64 0, .slice none 0 0, .int .i64 0, .int .i64 0, .slice none 0 0, .slice none 0 0, .int .i64 0, .int .i64 0, .slice none 0 0, .slice none 0 0, .int .i64 0, .int .i64 0, .slice none 0 0, .slice none 0 0] 28) := ⟨_, rfl⟩
  have HU0 := Lib.hid hu
  have HW := Lib.hid hw1
  have HB1 : Hid (Below w.heap.size w w1) := Lib.hid (by rw [hw1]; exact ((Below.refl _ _).alloc (Nat.le_refl _) _).alloc (by simp) _)
  have HS1 : Hid (w1.heap.size = w.heap.size + 2) := Lib.hid (by rw [hw1]; simp)
  have HQ0 : Hid (w1.heap[w.heap.size]? = some (.cells #[.int .i64 u.k1, .int .i64 u.k2, .slice L.P u.pts.length L.c, .int .i64 u.left.ins, .int .i64 u.left.regs, .slice L.l.A u.left.code.length L.l.c, .slice L.l.B u.left.outs.length L.l.d, .int .i64 u.right.ins, .int .i64 u.right.regs, .slice L.r.A u.right.code.length L.r.c, .slice L.r.B u.right.outs.length L.r.d, .int .i64 u.back.ins, .int .i64 u.back.regs, .slice L.b.A u.back.code.length L.b.c, .slice L.b.B u.back.outs.length L.b.d] 28 (0, 0))) := Lib.hid (by rw [hw1, Below.heap_alloc _ _ _ (by simp)]; exact heap_alloc_new w _)
  have HQ1 : Hid (w1.heap[w.heap.size + 1]? = some (.cells #[.int .i64 0, .int .i64 0, .slice none 0 0, .int .i64 0, .int .i64 0, .slice none 0 0, .slice none 0 0, .int .i64 0, .int .i64 0, .slice none 0 0, .slice none 0 0, .int .i64 0, .int .i64 0, .slice none 0 0, .slice none 0 0] 28 (0, 0))) := Lib.hid (by rw [hw1]; have := heap_alloc_new (w.alloc (.cells #[.int .i64 u.k1, .int .i64 u.k2, .slice L.P u.pts.length L.c, .int .i64 u.left.ins, .int .i64 u.left.regs, .slice L.l.A u.left.code.length L.l.c, .slice L.l.B u.left.outs.length L.l.d, .int .i64 u.right.ins, .int .i64 u.right.regs, .slice L.r.A u.right.code.length L.r.c, .slice L.r.B u.right.outs.length L.r.d, .int .i64 u.back.ins, .int .i64 u.back.regs, .slice L.b.A u.back.code.length L.b.c, .slice L.b.B u.back.outs.length L.b.d] 28)) (.cells #[.int .i64 0, .int .i64 0, .slice none 0 0, .int .i64 0, .int .i64 0, .slice none 0 0, .slice none 0 0, .int .i64 0, .int .i64 0, .slice none 0 0, .slice none 0 0, .int .i64 0, .int .i64 0, .slice none 0 0, .slice none 0 0] 28); simpa using this)
  have HU := Lib.hid (hu.below HB1.out)
  have HC0 := Lib.hid (clone36 L.P u.pts.length L.c u.pts w1 (hu.below HB1.out).pts fp)
  rw [hw1] at HC0
  clear hw1 hu fp
  unfold UnV.val UnV.cells
  go_enter Try.func19, Try.ntmps19
  go_wp2_with fail
  (with_reducible refine HC0.out.mono ?_)
  rintro e w2 ⟨v2, rfl, ho2, hb2⟩
  rw [← HW.out] at ho2 hb2
  have hs1 := HS1.out
  have hq0 := (hb2.block w.heap.size (by omega)).trans HQ0.out
  have hq1 := (hb2.block (w.heap.size + 1) (by omega)).trans HQ1.out
  obtain ⟨P2, C2, rfl, _, _⟩ := own_slice ho2
  have f2 := frozen_of_row w2 w.heap.size 2 _ 28 hq0
  have b2 := cell_of_row w2 w.heap.size 2 _ 28 (0, 0) hq0
  have HQ3 : Hid ((w2.setCell ⟨w.heap.size, 2, none⟩ (.slice P2 u.pts.length C2)).heap[w.heap.size]? = some (.cells #[.int .i64 u.k1, .int .i64 u.k2, .slice P2 u.pts.length C2, .int .i64 u.left.ins, .int .i64 u.left.regs, .slice L.l.A u.left.code.length L.l.c, .slice L.l.B u.left.outs.length L.l.d, .int .i64 u.right.ins, .int .i64 u.right.regs, .slice L.r.A u.right.code.length L.r.c, .slice L.r.B u.right.outs.length L.r.d, .int .i64 u.back.ins, .int .i64 u.back.regs, .slice L.b.A u.back.code.length L.b.c, .slice L.b.B u.back.outs.length L.b.d] 28 (0, 0))) := Lib.hid (blk_set hq0 2 _)
  have HQ4 : Hid ((w2.setCell ⟨w.heap.size, 2, none⟩ (.slice P2 u.pts.length C2)).heap[w.heap.size + 1]? = some (.cells #[.int .i64 0, .int .i64 0, .slice none 0 0, .int .i64 0, .int .i64 0, .slice none 0 0, .slice none 0 0, .int .i64 0, .int .i64 0, .slice none 0 0, .slice none 0 0, .int .i64 0, .int .i64 0, .slice none 0 0, .slice none 0 0] 28 (0, 0))) := Lib.hid ((set_blk _ (by omega)).trans hq1)
  have HO4 : Hid ((w2.setCell ⟨w.heap.size, 2, none⟩ (.slice P2 u.pts.length C2)).ownsRow w.heap.size 48 2 (.slice P2 u.pts.length C2) u.pts.length (vP u.pts)) := Lib.hid (set_own (own_base ho2 (by omega)) _ (fun e => own_blk_ne ho2 hq0 (by decide) e))
  have HB4 : Hid (Below w.heap.size w (w2.setCell ⟨w.heap.size, 2, none⟩ (.slice P2 u.pts.length C2))) := Lib.hid ((HB1.out.trans (hb2.mono (by omega))).setCell (p := ⟨w.heap.size, 2, none⟩) (Nat.le_refl _) _)
  have hsz : (w2.setCell ⟨w.heap.size, 2, none⟩ (.slice P2 u.pts.length C2)).heap.size = w2.heap.size := by simp [World.setCell]
  have hlt : w.heap.size + 1 < (w2.setCell ⟨w.heap.size, 2, none⟩ (.slice P2 u.pts.length C2)).heap.size := by have := hb2.size; omega
  have rd0 : ∀ {L' : PrV} {p : Pr}, PrIn w1 L' p → (∀ b o, L'.A = some ⟨b, o, none⟩ → b < w.heap.size) → PrIn w1 L' p := fun h _ => h
  clear rd0 HC0 hsz ho2 hb2 hq0 hq1
  go_upto_region 2 with (fail)
  generalize w2.setCell ⟨w.heap.size, 2, none⟩ (.slice P2 u.pts.length C2) = w3 at *
  have HCA := Lib.hid (copy37 u.left L.l w3.drew (HU0.out.l.below HB4.out.drew) fl1 fl2)
  unfold PrV.val at HCA
  have k3 : w3.cell? ⟨w.heap.size, 3, none⟩ = some (.int .i64 u.left.ins) := cell_of_row _ _ 3 _ 28 (0, 0) HQ3.out
  have k4 : w3.cell? ⟨w.heap.size, 4, none⟩ = some (.int .i64 u.left.regs) := cell_of_row _ _ 4 _ 28 (0, 0) HQ3.out
  have k5 : w3.cell? ⟨w.heap.size, 5, none⟩ = some (.slice L.l.A u.left.code.length L.l.c) := cell_of_row _ _ 5 _ 28 (0, 0) HQ3.out
  have k6 : w3.cell? ⟨w.heap.size, 6, none⟩ = some (.slice L.l.B u.left.outs.length L.l.d) := cell_of_row _ _ 6 _ 28 (0, 0) HQ3.out
  have k7 : w3.cell? ⟨w.heap.size, 7, none⟩ = some (.int .i64 u.right.ins) := cell_of_row _ _ 7 _ 28 (0, 0) HQ3.out
  have k8 : w3.cell? ⟨w.heap.size, 8, none⟩ = some (.int .i64 u.right.regs) := cell_of_row _ _ 8 _ 28 (0, 0) HQ3.out
  have k9 : w3.cell? ⟨w.heap.size, 9, none⟩ = some (.slice L.r.A u.right.code.length L.r.c) := cell_of_row _ _ 9 _ 28 (0, 0) HQ3.out
  have k10 : w3.cell? ⟨w.heap.size, 10, none⟩ = some (.slice L.r.B u.right.outs.length L.r.d) := cell_of_row _ _ 10 _ 28 (0, 0) HQ3.out
  have k11 : w3.cell? ⟨w.heap.size, 11, none⟩ = some (.int .i64 u.back.ins) := cell_of_row _ _ 11 _ 28 (0, 0) HQ3.out
  have k12 : w3.cell? ⟨w.heap.size, 12, none⟩ = some (.int .i64 u.back.regs) := cell_of_row _ _ 12 _ 28 (0, 0) HQ3.out
  have k13 : w3.cell? ⟨w.heap.size, 13, none⟩ = some (.slice L.b.A u.back.code.length L.b.c) := cell_of_row _ _ 13 _ 28 (0, 0) HQ3.out
  have k14 : w3.cell? ⟨w.heap.size, 14, none⟩ = some (.slice L.b.B u.back.outs.length L.b.d) := cell_of_row _ _ 14 _ 28 (0, 0) HQ3.out
  clear b2 f2
  go_cut [] from 7 to 18 (fun wx => Hid (CpdMid w u wx))
  case first =>
    go_region_with
      (first
        | (go_at_call 37; (with_reducible refine HCA.out.mono ?_); rintro e x1 ⟨⟨A1, c1, D1, d1⟩, he, ho, hb⟩; simp only [PrV.val] at he; subst he
           have Hx1 := Lib.hid ((Below.refl w3.heap.size w3).drew.trans hb)
           have Ox1 := Lib.hid ho
           have Qx1 : Hid (x1.heap[w.heap.size]? = some (.cells #[.int .i64 u.k1, .int .i64 u.k2, .slice P2 u.pts.length C2, .int .i64 u.left.ins, .int .i64 u.left.regs, .slice L.l.A u.left.code.length L.l.c, .slice L.l.B u.left.outs.length L.l.d, .int .i64 u.right.ins, .int .i64 u.right.regs, .slice L.r.A u.right.code.length L.r.c, .slice L.r.B u.right.outs.length L.r.d, .int .i64 u.back.ins, .int .i64 u.back.regs, .slice L.b.A u.back.code.length L.b.c, .slice L.b.B u.back.outs.length L.b.d] 28 (0, 0))) := Lib.hid ((Hx1.out.block _ (by omega)).trans HQ3.out)
           have HCB := Lib.hid (copy37 u.right L.r x1 (HU0.out.r.below (HB4.out.trans (Hx1.out.mono (by omega)))) fr1 fr2); unfold PrV.val at HCB
           clear k3 k4 k5 k6 k7 k8 k9 k10 k11 k12 k13 k14 ho hb HCA
           have k3 : x1.cell? ⟨w.heap.size, 3, none⟩ = some (.int .i64 u.left.ins) := cell_of_row _ _ 3 _ 28 (0, 0) Qx1.out
           have k4 : x1.cell? ⟨w.heap.size, 4, none⟩ = some (.int .i64 u.left.regs) := cell_of_row _ _ 4 _ 28 (0, 0) Qx1.out
           have k5 : x1.cell? ⟨w.heap.size, 5, none⟩ = some (.slice L.l.A u.left.code.length L.l.c) := cell_of_row _ _ 5 _ 28 (0, 0) Qx1.out
           have k6 : x1.cell? ⟨w.heap.size, 6, none⟩ = some (.slice L.l.B u.left.outs.length L.l.d) := cell_of_row _ _ 6 _ 28 (0, 0) Qx1.out
           have k7 : x1.cell? ⟨w.heap.size, 7, none⟩ = some (.int .i64 u.right.ins) := cell_of_row _ _ 7 _ 28 (0, 0) Qx1.out
           have k8 : x1.cell? ⟨w.heap.size, 8, none⟩ = some (.int .i64 u.right.regs) := cell_of_row _ _ 8 _ 28 (0, 0) Qx1.out
           have k9 : x1.cell? ⟨w.heap.size, 9, none⟩ = some (.slice L.r.A u.right.code.length L.r.c) := cell_of_row _ _ 9 _ 28 (0, 0) Qx1.out
           have k10 : x1.cell? ⟨w.heap.size, 10, none⟩ = some (.slice L.r.B u.right.outs.length L.r.d) := cell_of_row _ _ 10 _ 28 (0, 0) Qx1.out
           have k11 : x1.cell? ⟨w.heap.size, 11, none⟩ = some (.int .i64 u.back.ins) := cell_of_row _ _ 11 _ 28 (0, 0) Qx1.out
           have k12 : x1.cell? ⟨w.heap.size, 12, none⟩ = some (.int .i64 u.back.regs) := cell_of_row _ _ 12 _ 28 (0, 0) Qx1.out
           have k13 : x1.cell? ⟨w.heap.size, 13, none⟩ = some (.slice L.b.A u.back.code.length L.b.c) := cell_of_row _ _ 13 _ 28 (0, 0) Qx1.out
           have k14 : x1.cell? ⟨w.heap.size, 14, none⟩ = some (.slice L.b.B u.back.outs.length L.b.d) := cell_of_row _ _ 14 _ 28 (0, 0) Qx1.out)
        | (go_at_call 37; (with_reducible refine HCB.out.mono ?_); rintro e x2 ⟨⟨A2, c2, D2, d2⟩, he, ho, hb⟩; simp only [PrV.val] at he; subst he
           have Hx2 := Lib.hid (Hx1.out.trans (hb.mono Hx1.out.size))
           have Ox2 := Lib.hid ho
           have G12 := Lib.hid hb
           have Qx2 : Hid (x2.heap[w.heap.size]? = some (.cells #[.int .i64 u.k1, .int .i64 u.k2, .slice P2 u.pts.length C2, .int .i64 u.left.ins, .int .i64 u.left.regs, .slice L.l.A u.left.code.length L.l.c, .slice L.l.B u.left.outs.length L.l.d, .int .i64 u.right.ins, .int .i64 u.right.regs, .slice L.r.A u.right.code.length L.r.c, .slice L.r.B u.right.outs.length L.r.d, .int .i64 u.back.ins, .int .i64 u.back.regs, .slice L.b.A u.back.code.length L.b.c, .slice L.b.B u.back.outs.length L.b.d] 28 (0, 0))) := Lib.hid ((Hx2.out.block _ (by omega)).trans HQ3.out)
           have HCC := Lib.hid (copy37 u.back L.b x2 (HU0.out.b.below (HB4.out.trans (Hx2.out.mono (by omega)))) fb1 fb2); unfold PrV.val at HCC
           clear k3 k4 k5 k6 k7 k8 k9 k10 k11 k12 k13 k14 ho hb HCB
           have k3 : x2.cell? ⟨w.heap.size, 3, none⟩ = some (.int .i64 u.left.ins) := cell_of_row _ _ 3 _ 28 (0, 0) Qx2.out
           have k4 : x2.cell? ⟨w.heap.size, 4, none⟩ = some (.int .i64 u.left.regs) := cell_of_row _ _ 4 _ 28 (0, 0) Qx2.out
           have k5 : x2.cell? ⟨w.heap.size, 5, none⟩ = some (.slice L.l.A u.left.code.length L.l.c) := cell_of_row _ _ 5 _ 28 (0, 0) Qx2.out
           have k6 : x2.cell? ⟨w.heap.size, 6, none⟩ = some (.slice L.l.B u.left.outs.length L.l.d) := cell_of_row _ _ 6 _ 28 (0, 0) Qx2.out
           have k7 : x2.cell? ⟨w.heap.size, 7, none⟩ = some (.int .i64 u.right.ins) := cell_of_row _ _ 7 _ 28 (0, 0) Qx2.out
           have k8 : x2.cell? ⟨w.heap.size, 8, none⟩ = some (.int .i64 u.right.regs) := cell_of_row _ _ 8 _ 28 (0, 0) Qx2.out
           have k9 : x2.cell? ⟨w.heap.size, 9, none⟩ = some (.slice L.r.A u.right.code.length L.r.c) := cell_of_row _ _ 9 _ 28 (0, 0) Qx2.out
           have k10 : x2.cell? ⟨w.heap.size, 10, none⟩ = some (.slice L.r.B u.right.outs.length L.r.d) := cell_of_row _ _ 10 _ 28 (0, 0) Qx2.out
           have k11 : x2.cell? ⟨w.heap.size, 11, none⟩ = some (.int .i64 u.back.ins) := cell_of_row _ _ 11 _ 28 (0, 0) Qx2.out
           have k12 : x2.cell? ⟨w.heap.size, 12, none⟩ = some (.int .i64 u.back.regs) := cell_of_row _ _ 12 _ 28 (0, 0) Qx2.out
           have k13 : x2.cell? ⟨w.heap.size, 13, none⟩ = some (.slice L.b.A u.back.code.length L.b.c) := cell_of_row _ _ 13 _ 28 (0, 0) Qx2.out
           have k14 : x2.cell? ⟨w.heap.size, 14, none⟩ = some (.slice L.b.B u.back.outs.length L.b.d) := cell_of_row _ _ 14 _ 28 (0, 0) Qx2.out)
        | (go_at_call 37; (with_reducible refine HCC.out.mono ?_); rintro e x3 ⟨⟨A3, c3, D3, d3⟩, he, ho, hb⟩; simp only [PrV.val] at he; subst he
           have Hx3 := Lib.hid (Hx2.out.trans (hb.mono Hx2.out.size))
           have Ox3 := Lib.hid ho
           have G23 := Lib.hid hb
           have Qx3 : Hid (x3.heap[w.heap.size]? = some (.cells #[.int .i64 u.k1, .int .i64 u.k2, .slice P2 u.pts.length C2, .int .i64 u.left.ins, .int .i64 u.left.regs, .slice L.l.A u.left.code.length L.l.c, .slice L.l.B u.left.outs.length L.l.d, .int .i64 u.right.ins, .int .i64 u.right.regs, .slice L.r.A u.right.code.length L.r.c, .slice L.r.B u.right.outs.length L.r.d, .int .i64 u.back.ins, .int .i64 u.back.regs, .slice L.b.A u.back.code.length L.b.c, .slice L.b.B u.back.outs.length L.b.d] 28 (0, 0))) := Lib.hid ((Hx3.out.block _ (by omega)).trans HQ3.out)
           clear k3 k4 k5 k6 k7 k8 k9 k10 k11 k12 k13 k14 ho hb HCC
           have k3 : x3.cell? ⟨w.heap.size, 3, none⟩ = some (.int .i64 u.left.ins) := cell_of_row _ _ 3 _ 28 (0, 0) Qx3.out
           have k4 : x3.cell? ⟨w.heap.size, 4, none⟩ = some (.int .i64 u.left.regs) := cell_of_row _ _ 4 _ 28 (0, 0) Qx3.out
           have k5 : x3.cell? ⟨w.heap.size, 5, none⟩ = some (.slice L.l.A u.left.code.length L.l.c) := cell_of_row _ _ 5 _ 28 (0, 0) Qx3.out
           have k6 : x3.cell? ⟨w.heap.size, 6, none⟩ = some (.slice L.l.B u.left.outs.length L.l.d) := cell_of_row _ _ 6 _ 28 (0, 0) Qx3.out
           have k7 : x3.cell? ⟨w.heap.size, 7, none⟩ = some (.int .i64 u.right.ins) := cell_of_row _ _ 7 _ 28 (0, 0) Qx3.out
           have k8 : x3.cell? ⟨w.heap.size, 8, none⟩ = some (.int .i64 u.right.regs) := cell_of_row _ _ 8 _ 28 (0, 0) Qx3.out
           have k9 : x3.cell? ⟨w.heap.size, 9, none⟩ = some (.slice L.r.A u.right.code.length L.r.c) := cell_of_row _ _ 9 _ 28 (0, 0) Qx3.out
           have k10 : x3.cell? ⟨w.heap.size, 10, none⟩ = some (.slice L.r.B u.right.outs.length L.r.d) := cell_of_row _ _ 10 _ 28 (0, 0) Qx3.out
           have k11 : x3.cell? ⟨w.heap.size, 11, none⟩ = some (.int .i64 u.back.ins) := cell_of_row _ _ 11 _ 28 (0, 0) Qx3.out
           have k12 : x3.cell? ⟨w.heap.size, 12, none⟩ = some (.int .i64 u.back.regs) := cell_of_row _ _ 12 _ 28 (0, 0) Qx3.out
           have k13 : x3.cell? ⟨w.heap.size, 13, none⟩ = some (.slice L.b.A u.back.code.length L.b.c) := cell_of_row _ _ 13 _ 28 (0, 0) Qx3.out
           have k14 : x3.cell? ⟨w.heap.size, 14, none⟩ = some (.slice L.b.B u.back.outs.length L.b.d) := cell_of_row _ _ 14 _ 28 (0, 0) Qx3.out
           have kf : ∀ j, x3.frozen? ⟨w.heap.size, j, none⟩ = false := fun j => frozen_of_row _ _ j _ 28 Qx3.out))
    all_goals
      go_wp2_with fail
      go_meet
      have hfin := set12_blk (T := 28) (a3 := .int .i64 u.left.ins) (a4 := .int .i64 u.left.regs) (a5 := .slice A1 u.left.code.length c1) (a6 := .slice D1 u.left.outs.length d1) (a7 := .int .i64 u.right.ins) (a8 := .int .i64 u.right.regs) (a9 := .slice A2 u.right.code.length c2) (a10 := .slice D2 u.right.outs.length d2) (a11 := .int .i64 u.back.ins) (a12 := .int .i64 u.back.regs) (a13 := .slice A3 u.back.code.length c3) (a14 := .slice D3 u.back.outs.length d3) Qx3.out
      have hfar : ∀ g, g ≠ w.heap.size → (set12 x3 w.heap.size (.int .i64 u.left.ins) (.int .i64 u.left.regs) (.slice A1 u.left.code.length c1) (.slice D1 u.left.outs.length d1) (.int .i64 u.right.ins) (.int .i64 u.right.regs) (.slice A2 u.right.code.length c2) (.slice D2 u.right.outs.length d2) (.int .i64 u.back.ins) (.int .i64 u.back.regs) (.slice A3 u.back.code.length c3) (.slice D3 u.back.outs.length d3)).heap[g]? = x3.heap[g]? := fun g hg => set12_far hg
      have hbel := set12_below (b := w.heap.size) (a3 := .int .i64 u.left.ins) (a4 := .int .i64 u.left.regs) (a5 := .slice A1 u.left.code.length c1) (a6 := .slice D1 u.left.outs.length d1) (a7 := .int .i64 u.right.ins) (a8 := .int .i64 u.right.regs) (a9 := .slice A2 u.right.code.length c2) (a10 := .slice D2 u.right.outs.length d2) (a11 := .int .i64 u.back.ins) (a12 := .int .i64 u.back.regs) (a13 := .slice A3 u.back.code.length c3) (a14 := .slice D3 u.back.outs.length d3) (HB4.out.trans (Hx3.out.mono (by omega))) (Nat.le_refl _)
      exact Lib.hid ⟨⟨P2, C2, ⟨A1, c1, D1, d1⟩, ⟨A2, c2, D2, d2⟩, ⟨A3, c3, D3, d3⟩⟩, hfin, (hfar _ (by omega)).trans ((Hx3.out.block _ hlt).trans HQ4.out), ⟨own_congr HO4.out (fun g hg => (hfar g (fun e => own_blk_ne HO4.out HQ3.out (by decide) (hg.trans (congrArg some e)))).trans (Hx3.out.block g (own_lt HO4.out hg))), cpd_pr Ox1.out (show w.heap.size < w3.heap.size by omega) (show w.heap.size ≤ w3.heap.size by omega) (fun g h1 h2 => (hfar g h1).trans ((G23.out.block g (Nat.lt_of_lt_of_le h2 G12.out.size)).trans (G12.out.block g h2))), cpd_pr Ox2.out (by have := Hx1.out.size; omega) (by have := Hx1.out.size; omega) (fun g h1 h2 => (hfar g h1).trans (G23.out.block g h2)), cpd_pr Ox3.out (by have := Hx2.out.size; omega) (by have := Hx2.out.size; omega) (fun g h1 h2 => hfar g h1)⟩, hbel⟩
  case rest =>
    obtain ⟨⟨Pm, cm, ⟨a1, e1, d1, g1⟩, ⟨a2, e2, d2, g2⟩, ⟨a3, e3, d3, g3⟩⟩, hq5, hq6, hown, hbel⟩ := hcut.out
    have Q5 : Hid (wc.heap[w.heap.size]? = some (.cells #[.int .i64 u.k1, .int .i64 u.k2, .slice Pm u.pts.length cm, .int .i64 u.left.ins, .int .i64 u.left.regs, .slice a1 u.left.code.length e1, .slice d1 u.left.outs.length g1, .int .i64 u.right.ins, .int .i64 u.right.regs, .slice a2 u.right.code.length e2, .slice d2 u.right.outs.length g2, .int .i64 u.back.ins, .int .i64 u.back.regs, .slice a3 u.back.code.length e3, .slice d3 u.back.outs.length g3] 28 (0, 0))) := Lib.hid hq5
    have Q6 := Lib.hid hq6
    have OW := Lib.hid hown
    have BL := Lib.hid hbel
    clear hcut hq5 hq6 hown hbel k3 k4 k5 k6 k7 k8 k9 k10 k11 k12 k13 k14 HCA
    have c0 : wc.cell? ⟨w.heap.size, 0, none⟩ = some (.int .i64 u.k1) := cell_of_row _ _ 0 _ 28 (0, 0) Q5.out
    have c1 : wc.cell? ⟨w.heap.size, 1, none⟩ = some (.int .i64 u.k2) := cell_of_row _ _ 1 _ 28 (0, 0) Q5.out
    have c2 : wc.cell? ⟨w.heap.size, 2, none⟩ = some (.slice Pm u.pts.length cm) := cell_of_row _ _ 2 _ 28 (0, 0) Q5.out
    have c3 : wc.cell? ⟨w.heap.size, 3, none⟩ = some (.int .i64 u.left.ins) := cell_of_row _ _ 3 _ 28 (0, 0) Q5.out
    have c4 : wc.cell? ⟨w.heap.size, 4, none⟩ = some (.int .i64 u.left.regs) := cell_of_row _ _ 4 _ 28 (0, 0) Q5.out
    have c5 : wc.cell? ⟨w.heap.size, 5, none⟩ = some (.slice a1 u.left.code.length e1) := cell_of_row _ _ 5 _ 28 (0, 0) Q5.out
    have c6 : wc.cell? ⟨w.heap.size, 6, none⟩ = some (.slice d1 u.left.outs.length g1) := cell_of_row _ _ 6 _ 28 (0, 0) Q5.out
    have c7 : wc.cell? ⟨w.heap.size, 7, none⟩ = some (.int .i64 u.right.ins) := cell_of_row _ _ 7 _ 28 (0, 0) Q5.out
    have c8 : wc.cell? ⟨w.heap.size, 8, none⟩ = some (.int .i64 u.right.regs) := cell_of_row _ _ 8 _ 28 (0, 0) Q5.out
    have c9 : wc.cell? ⟨w.heap.size, 9, none⟩ = some (.slice a2 u.right.code.length e2) := cell_of_row _ _ 9 _ 28 (0, 0) Q5.out
    have c10 : wc.cell? ⟨w.heap.size, 10, none⟩ = some (.slice d2 u.right.outs.length g2) := cell_of_row _ _ 10 _ 28 (0, 0) Q5.out
    have c11 : wc.cell? ⟨w.heap.size, 11, none⟩ = some (.int .i64 u.back.ins) := cell_of_row _ _ 11 _ 28 (0, 0) Q5.out
    have c12 : wc.cell? ⟨w.heap.size, 12, none⟩ = some (.int .i64 u.back.regs) := cell_of_row _ _ 12 _ 28 (0, 0) Q5.out
    have c13 : wc.cell? ⟨w.heap.size, 13, none⟩ = some (.slice a3 u.back.code.length e3) := cell_of_row _ _ 13 _ 28 (0, 0) Q5.out
    have c14 : wc.cell? ⟨w.heap.size, 14, none⟩ = some (.slice d3 u.back.outs.length g3) := cell_of_row _ _ 14 _ 28 (0, 0) Q5.out
    have z0 : wc.cell? ⟨w.heap.size + 1, 0, none⟩ = some (.int .i64 0) := cell_of_row _ _ 0 _ 28 (0, 0) Q6.out
    have y0 := frozen_of_row wc (w.heap.size + 1) 0 _ 28 Q6.out
    have z1 : wc.cell? ⟨w.heap.size + 1, 1, none⟩ = some (.int .i64 0) := cell_of_row _ _ 1 _ 28 (0, 0) Q6.out
    have y1 := frozen_of_row wc (w.heap.size + 1) 1 _ 28 Q6.out
    have z2 : wc.cell? ⟨w.heap.size + 1, 2, none⟩ = some (.slice none 0 0) := cell_of_row _ _ 2 _ 28 (0, 0) Q6.out
    have y2 := frozen_of_row wc (w.heap.size + 1) 2 _ 28 Q6.out
    have z3 : wc.cell? ⟨w.heap.size + 1, 3, none⟩ = some (.int .i64 0) := cell_of_row _ _ 3 _ 28 (0, 0) Q6.out
    have y3 := frozen_of_row wc (w.heap.size + 1) 3 _ 28 Q6.out
    have z4 : wc.cell? ⟨w.heap.size + 1, 4, none⟩ = some (.int .i64 0) := cell_of_row _ _ 4 _ 28 (0, 0) Q6.out
    have y4 := frozen_of_row wc (w.heap.size + 1) 4 _ 28 Q6.out
    have z5 : wc.cell? ⟨w.heap.size + 1, 5, none⟩ = some (.slice none 0 0) := cell_of_row _ _ 5 _ 28 (0, 0) Q6.out
    have y5 := frozen_of_row wc (w.heap.size + 1) 5 _ 28 Q6.out
    have z6 : wc.cell? ⟨w.heap.size + 1, 6, none⟩ = some (.slice none 0 0) := cell_of_row _ _ 6 _ 28 (0, 0) Q6.out
    have y6 := frozen_of_row wc (w.heap.size + 1) 6 _ 28 Q6.out
    have z7 : wc.cell? ⟨w.heap.size + 1, 7, none⟩ = some (.int .i64 0) := cell_of_row _ _ 7 _ 28 (0, 0) Q6.out
    have y7 := frozen_of_row wc (w.heap.size + 1) 7 _ 28 Q6.out
    have z8 : wc.cell? ⟨w.heap.size + 1, 8, none⟩ = some (.int .i64 0) := cell_of_row _ _ 8 _ 28 (0, 0) Q6.out
    have y8 := frozen_of_row wc (w.heap.size + 1) 8 _ 28 Q6.out
    have z9 : wc.cell? ⟨w.heap.size + 1, 9, none⟩ = some (.slice none 0 0) := cell_of_row _ _ 9 _ 28 (0, 0) Q6.out
    have y9 := frozen_of_row wc (w.heap.size + 1) 9 _ 28 Q6.out
    have z10 : wc.cell? ⟨w.heap.size + 1, 10, none⟩ = some (.slice none 0 0) := cell_of_row _ _ 10 _ 28 (0, 0) Q6.out
    have y10 := frozen_of_row wc (w.heap.size + 1) 10 _ 28 Q6.out
    have z11 : wc.cell? ⟨w.heap.size + 1, 11, none⟩ = some (.int .i64 0) := cell_of_row _ _ 11 _ 28 (0, 0) Q6.out
    have y11 := frozen_of_row wc (w.heap.size + 1) 11 _ 28 Q6.out
    have z12 : wc.cell? ⟨w.heap.size + 1, 12, none⟩ = some (.int .i64 0) := cell_of_row _ _ 12 _ 28 (0, 0) Q6.out
    have y12 := frozen_of_row wc (w.heap.size + 1) 12 _ 28 Q6.out
    have z13 : wc.cell? ⟨w.heap.size + 1, 13, none⟩ = some (.slice none 0 0) := cell_of_row _ _ 13 _ 28 (0, 0) Q6.out
    have y13 := frozen_of_row wc (w.heap.size + 1) 13 _ 28 Q6.out
    have z14 : wc.cell? ⟨w.heap.size + 1, 14, none⟩ = some (.slice none 0 0) := cell_of_row _ _ 14 _ 28 (0, 0) Q6.out
    have y14 := frozen_of_row wc (w.heap.size + 1) 14 _ 28 Q6.out
    go_wp2_with fail
    have hfin := set15_blk (T := 28) (a0 := .int .i64 u.k1) (a1 := .int .i64 u.k2) (a2 := .slice Pm u.pts.length cm) (a3 := .int .i64 u.left.ins) (a4 := .int .i64 u.left.regs) (a5 := .slice a1 u.left.code.length e1) (a6 := .slice d1 u.left.outs.length g1) (a7 := .int .i64 u.right.ins) (a8 := .int .i64 u.right.regs) (a9 := .slice a2 u.right.code.length e2) (a10 := .slice d2 u.right.outs.length g2) (a11 := .int .i64 u.back.ins) (a12 := .int .i64 u.back.regs) (a13 := .slice a3 u.back.code.length e3) (a14 := .slice d3 u.back.outs.length g3) Q6.out
    have hfar : ∀ g, g ≠ w.heap.size + 1 → (set15 wc (w.heap.size + 1) (.int .i64 u.k1) (.int .i64 u.k2) (.slice Pm u.pts.length cm) (.int .i64 u.left.ins) (.int .i64 u.left.regs) (.slice a1 u.left.code.length e1) (.slice d1 u.left.outs.length g1) (.int .i64 u.right.ins) (.int .i64 u.right.regs) (.slice a2 u.right.code.length e2) (.slice d2 u.right.outs.length g2) (.int .i64 u.back.ins) (.int .i64 u.back.regs) (.slice a3 u.back.code.length e3) (.slice d3 u.back.outs.length g3)).heap[g]? = wc.heap[g]? := fun g hg => set15_far hg
    have hbel := set15_below (b := w.heap.size + 1) (a0 := .int .i64 u.k1) (a1 := .int .i64 u.k2) (a2 := .slice Pm u.pts.length cm) (a3 := .int .i64 u.left.ins) (a4 := .int .i64 u.left.regs) (a5 := .slice a1 u.left.code.length e1) (a6 := .slice d1 u.left.outs.length g1) (a7 := .int .i64 u.right.ins) (a8 := .int .i64 u.right.regs) (a9 := .slice a2 u.right.code.length e2) (a10 := .slice d2 u.right.outs.length g2) (a11 := .int .i64 u.back.ins) (a12 := .int .i64 u.back.regs) (a13 := .slice a3 u.back.code.length e3) (a14 := .slice d3 u.back.outs.length g3) BL.out (by omega)
    refine bodyPost_ret (v := .agg #[.int .i64 u.k1, .int .i64 u.k2, .slice Pm u.pts.length cm, .int .i64 u.left.ins, .int .i64 u.left.regs, .slice a1 u.left.code.length e1, .slice d1 u.left.outs.length g1, .int .i64 u.right.ins, .int .i64 u.right.regs, .slice a2 u.right.code.length e2, .slice d2 u.right.outs.length g2, .int .i64 u.back.ins, .int .i64 u.back.regs, .slice a3 u.back.code.length e3, .slice d3 u.back.outs.length g3]) ?_ rfl ?_
    · clear c0 z0 y0 c1 z1 y1 c2 z2 y2 c3 z3 y3 c4 z4 y4 c5 z5 y5 c6 z6 y6 c7 z7 y7 c8 z8 y8 c9 z9 y9 c10 z10 y10 c11 z11 y11 c12 z12 y12 c13 z13 y13 c14 z14 y14
      have m0 := cell_of_row _ (w.heap.size + 1) 0 _ 28 (0, 0) hfin
      have m1 := cell_of_row _ (w.heap.size + 1) 1 _ 28 (0, 0) hfin
      have m2 := cell_of_row _ (w.heap.size + 1) 2 _ 28 (0, 0) hfin
      have m3 := cell_of_row _ (w.heap.size + 1) 3 _ 28 (0, 0) hfin
      have m4 := cell_of_row _ (w.heap.size + 1) 4 _ 28 (0, 0) hfin
      have m5 := cell_of_row _ (w.heap.size + 1) 5 _ 28 (0, 0) hfin
      have m6 := cell_of_row _ (w.heap.size + 1) 6 _ 28 (0, 0) hfin
      have m7 := cell_of_row _ (w.heap.size + 1) 7 _ 28 (0, 0) hfin
      have m8 := cell_of_row _ (w.heap.size + 1) 8 _ 28 (0, 0) hfin
      have m9 := cell_of_row _ (w.heap.size + 1) 9 _ 28 (0, 0) hfin
      have m10 := cell_of_row _ (w.heap.size + 1) 10 _ 28 (0, 0) hfin
      have m11 := cell_of_row _ (w.heap.size + 1) 11 _ 28 (0, 0) hfin
      have m12 := cell_of_row _ (w.heap.size + 1) 12 _ 28 (0, 0) hfin
      have m13 := cell_of_row _ (w.heap.size + 1) 13 _ 28 (0, 0) hfin
      have m14 := cell_of_row _ (w.heap.size + 1) 14 _ 28 (0, 0) hfin
      clear hfin hfar hbel
      simp at m0 m1 m2 m3 m4 m5 m6 m7 m8 m9 m10 m11 m12 m13 m14
      simp [results, Try.results19, go_sem, m0, m1, m2, m3, m4, m5, m6, m7, m8, m9, m10, m11, m12, m13, m14]
    · refine ⟨⟨Pm, cm, ⟨a1, e1, d1, g1⟩, ⟨a2, e2, d2, g2⟩, ⟨a3, e3, d3, g3⟩⟩, rfl, OW.out.congr (fun g h1 h2 h3 => hfar g (fun e => ?_)), hbel⟩
      obtain ⟨cs, T, h3, h4⟩ := h3
      rw [e, Q6.out] at h3
      injection h3 with h3
      injection h3 with _ ht
      subst ht
      rcases h4 with h4 | h4 | h4 <;> exact absurd h4 (by decide)
end Go.Proofs.Ytcelcognmdcenaa
