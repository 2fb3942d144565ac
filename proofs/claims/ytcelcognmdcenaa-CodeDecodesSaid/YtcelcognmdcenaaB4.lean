/-
  WALKS: the program's reader: an instruction's constant.
-/
import Derived.Test.YtcelcognmdcenaaB3
import Derived.Laws.EntriesVeiled
namespace Go.Proofs.Ytcelcognmdcenaa
open Go.RowKit

/-- Another block's cells. -/
theorem cell_keep {w w' : World} {r b j : Nat} (hg : w.grownBy w' (some r)) (hb : b < w.heap.size) (hne : b ≠ r) : w'.cell? ⟨b, j, none⟩ = w.cell? ⟨b, j, none⟩ :=
  World.cell?_of_block (w := w) (a := ⟨b, j, none⟩) (hg.block b hb (fun e => hne (by cases e; rfl)))
theorem cell_al {w : World} {b j : Nat} {u : Value} (h : w.cell? ⟨b, j, none⟩ = some u) (o : Obj) : (w.alloc o).cell? ⟨b, j, none⟩ = some u := by
  rw [World.cell?_alloc_lt _ _ _ (World.block_lt_of_cell? w ⟨b, j, none⟩ h)]; exact h
theorem cell_new (w : World) (u : Value) (t : TypeId) : (w.alloc (.cells #[u] t)).cell? ⟨w.heap.size, 0, none⟩ = some u := by simp
theorem RdOut.lift {α : Type} {w w1 : World} {r : Nat} {A : Option Addr} {n c : Nat} {bs : List Nat} {s : Nat × Bool} {rd : List Nat → Nat → Rd α} {val : α → Int} {P : α → Prop} {e : Ending} {w' : World} (hb : Below w.heap.size w w1) (h : RdOut w1 r A n c bs s rd val P e w') : RdOut w r A n c bs s rd val P e w' := by
  obtain ⟨x, s', h1, h2, h3, h4, h5⟩ := h
  exact ⟨x, s', h1, h2, h3, (World.grownBy.ofBelow hb _).trans' h4, h5⟩

set_option maxRecDepth 100000 in
set_option maxHeartbeats 1000000 in
theorem const56 {w : World} {r : Nat} {A : Option Addr} {n c : Nat} {bs : List Nat} {s : Nat × Bool} (h : RdP w r A n c bs s) (op : Int) :
    Calls Try.prog 56 #[.pointer (some ⟨r, 0, none⟩), .int .i64 op] w (RdOut w r A n c bs s (rConst op) (fun x => x) (fun x => -32768 ≤ x ∧ x < 32768)) := by
  obtain ⟨p, wr⟩ := s
  have HH := Lib.hid h
  have hr := h.rlt
  clear h
  go_enter Try.func56, Try.ntmps56
  go_wp2_with fail
  have hs1 : (w.alloc (.cells #[.int .i64 op] 3)).heap.size = w.heap.size + 1 := by simp
  have hs2 : ((w.alloc (.cells #[.int .i64 op] 3)).alloc (.cells #[.func (.func 61) #[] #[.pointer (some ⟨w.heap.size, 0, none⟩)]] 89)).heap.size = w.heap.size + 1 + 1 := by simp
  have hs3 : (((w.alloc (.cells #[.int .i64 op] 3)).alloc (.cells #[.func (.func 61) #[] #[.pointer (some ⟨w.heap.size, 0, none⟩)]] 89)).alloc (.cells #[.func (.func 62) #[] #[]] 71)).heap.size = w.heap.size + 1 + 1 + 1 := by simp
  have eo := cell_al (cell_al (cell_new w (.int .i64 op) 3) (.cells #[.func (.func 61) #[] #[.pointer (some ⟨w.heap.size, 0, none⟩)]] 89)) (.cells #[.func (.func 62) #[] #[]] 71)
  have e5 := cell_al (cell_new (w.alloc (.cells #[.int .i64 op] 3)) (.func (.func 61) #[] #[.pointer (some ⟨w.heap.size, 0, none⟩)]) 89) (.cells #[.func (.func 62) #[] #[]] 71)
  have e6 := cell_new ((w.alloc (.cells #[.int .i64 op] 3)).alloc (.cells #[.func (.func 61) #[] #[.pointer (some ⟨w.heap.size, 0, none⟩)]] 89)) (.func (.func 62) #[] #[]) 71
  have hb3 : Below w.heap.size w (((w.alloc (.cells #[.int .i64 op] 3)).alloc (.cells #[.func (.func 61) #[] #[.pointer (some ⟨w.heap.size, 0, none⟩)]] 89)).alloc (.cells #[.func (.func 62) #[] #[]] 71)) := ((below_a w _).alloc (by simp) _).alloc (by simp; omega) _
  rw [hs1] at e5
  rw [hs2] at e6
  clear hs1 hs2
  generalize (((w.alloc (.cells #[.int .i64 op] 3)).alloc (.cells #[.func (.func 61) #[] #[.pointer (some ⟨w.heap.size, 0, none⟩)]] 89)).alloc (.cells #[.func (.func 62) #[] #[]] 71)) = w3 at *
  have HC := Lib.hid (byte51 (HH.out.below hb3) 63 _ _ (fun x hx => asks63 e5 e6 eo x hx))
  have HB3 := Lib.hid hb3
  have HS3 := Lib.hid hs3
  have EO := Lib.hid eo
  have E5 := Lib.hid e5
  have E6 := Lib.hid e6
  clear hb3 hs3 eo e5 e6
  (with_reducible refine HC.out.mono ?_)
  rintro e w4 ⟨x, s1, rfl, hx, hr1, hg1, ho1⟩
  have f5 := (cell_keep hg1 (by rw [HS3.out]; omega) (by omega)).trans E5.out
  have f6 := (cell_keep hg1 (by rw [HS3.out]; omega) (by omega)).trans E6.out
  have fo := (cell_keep hg1 (by rw [HS3.out]; omega) (by omega)).trans EO.out
  have g5 := cell_al f5 (.cells #[.int .i64 (x : Nat)] 3)
  have g6 := cell_al f6 (.cells #[.int .i64 (x : Nat)] 3)
  have go := cell_al fo (.cells #[.int .i64 (x : Nat)] 3)
  have g7 := cell_new w4 (.int .i64 (x : Nat)) 3
  obtain ⟨p1, wr1⟩ := s1
  have HC2 := Lib.hid (byte51 (hr1.below (below_a w4 (.cells #[.int .i64 (x : Nat)] 3))) 64 _ _ (fun y hy => asks64 g5 g6 g7 go hx y hy))
  have HG1 := Lib.hid (((World.grownBy.ofBelow HB3.out (some r)).trans' hg1).trans' (World.grownBy.ofBelow (below_a w4 (.cells #[.int .i64 (x : Nat)] 3)) (some r)))
  have hz4 : w.heap.size + 1 + 1 + 1 ≤ w4.heap.size := by rw [← HS3.out]; exact hg1.size
  have HO1 := Lib.hid ho1
  have G6 := Lib.hid g6
  have G7 := Lib.hid g7
  clear f5 f6 fo g5 g6 go g7 hg1 ho1 hr1 HC
  go_wp2_with fail
  (with_reducible refine HC2.out.mono ?_)
  rintro e w5 ⟨y, s2, rfl, hy, hr2, hg2, ho2⟩
  have f6 := (cell_keep hg2 (by simp; omega) (by omega)).trans G6.out
  have f7 := (cell_keep hg2 (by simp) (by omega)).trans G7.out
  have HG2 := Lib.hid (HG1.out.trans' hg2)
  have HR2 := Lib.hid hr2
  have HO := Lib.hid ((HO1.out.seq (r2 := fun h => one (lowOk op h)) ho2).map (fun v => sgn16 v.1 v.2))
  have HBO := Lib.hid (both62 w5 x y hx hy)
  clear hg2 hr2 ho2 HC2 HO1
  go_wp2_with fail
  (with_reducible refine HBO.out.mono ?_)
  rintro e w6 ⟨rfl, rfl⟩
  go_wp2_with fail
  go_ret
  exact ⟨sgn16 x y, s2, rfl, by unfold sgn16; split <;> omega, HR2.out, HG2.out, HO.out⟩
end Go.Proofs.Ytcelcognmdcenaa
