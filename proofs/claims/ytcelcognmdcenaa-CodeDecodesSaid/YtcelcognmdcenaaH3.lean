/-
  WALKS: the document's unit: a program of one register; is a unit too long?
-/
import Derived.Test.YtcelcognmdcenaaH1
import Derived.Test.YtcelcognmdcenaaD2
import Derived.Test.YtcelcognmdcenaaG4
namespace Go.Proofs.Ytcelcognmdcenaa
open Go.RowKit

/-- The program of one register. -/
def pone : Pr := ⟨1, 1, [], [0]⟩
/-- What one answers. -/
def OneOut (w : World) (f : Ending) (w' : World) : Prop := ∃ M : PrV, f = .returned (M.val pone) ∧ PrOwn w.heap.size w' M pone ∧ Below w.heap.size w w'

set_option maxHeartbeats 1000000 in
theorem one32 (w : World) : Calls Try.prog 32 #[] w (OneOut w) := by
  have hlit := World.ownsRow_lit (base := w.heap.size) (e := 3) (size := 1) (w.alloc (.cells #[.int .i64 1, .int .i64 1, .slice none 0 0, .slice (some ⟨w.heap.size + 1, 0, none⟩) 1 1] 26)) #[.int .i64 0] 1 (by simp) (by unfold maxLen; omega) rfl
  have HL : Hid (((w.alloc (.cells #[.int .i64 1, .int .i64 1, .slice none 0 0, .slice (some ⟨w.heap.size + 1, 0, none⟩) 1 1] 26)).alloc (.cells #[.int .i64 0] 3)).ownsRow w.heap.size 3 1 (.slice (some ⟨w.heap.size + 1, 0, none⟩) 1 1) 1 (vI [0])) := Lib.hid (by simpa [vI] using hlit)
  clear hlit
  go_enter Try.func32, Try.ntmps32
  go_wp2_with fail
  refine bodyPost_ret (v := .agg #[.int .i64 1, .int .i64 1, .slice none 0 0, .slice (some ⟨w.heap.size + 1, 0, none⟩) 1 1]) ?_ rfl ?_
  · simp [results, Try.results32, go_sem]
  · exact ⟨⟨none, 0, some ⟨w.heap.size + 1, 0, none⟩, 1⟩, rfl, ⟨World.ownsRow_nil _ _ _ _, HL.out⟩, (below_a w _).alloc (by simp) _⟩

/-- The document's unit. -/
def exU : Un := ⟨1, 1, [(0, 1)], pone, pone, pone⟩
/-- Its bytes, as they are told in rounds. -/
def exB : Nat → List Nat
  | 0 => [65, 78, 86, 49, 1, 1, 1, 0, 1]
  | k + 1 => exB k ++ [1, 1, 0, 0, 1, 0]
theorem exU_bytes : exU.bytes = exB 3 ++ [3, 93] := by decide +kernel
theorem exU_fault : exU.fault = 0 := by decide +kernel
theorem exB_len (k : Nat) : (exB k).length = 9 + k * 6 := by
  induction k with
  | zero => rfl
  | succ k ih => show (exB k ++ _).length = _; rw [List.length_append, ih]; simp; omega
/-- What its last statement leaves. -/
def ExMid (w : World) (v : Value) (wx : World) : Prop := ∃ (L : UnV) (A : Option Addr) (c : Nat), v = .slice A 29 c ∧ wx.heap[w.heap.size]? = some (.cells (L.cells exU) 28 (0, 0)) ∧ UnOwn w.heap.size wx L exU ∧ wx.ownsRow w.heap.size 5 1 (.slice A 29 c) 29 (vB exU.bytes) ∧ Below w.heap.size w wx
theorem ex_pr {B b0 base : Nat} {xa F : World} {L : PrV} {p : Pr} (h : PrOwn B xa L p) (hb : b0 < B) (hB : base ≤ B) (hF : ∀ g, g ≠ b0 → g < xa.heap.size → F.heap[g]? = xa.heap[g]?) : PrOwn base F L p :=
  (h.congr fun g h1 h2 _ => hF g (by omega) h2).base hB
/-- What example answers. -/
def ExOut (w : World) (f : Ending) (w' : World) : Prop := ∃ (L : UnV) (A : Option Addr) (c : Nat), f = .returned (.tuple #[L.val exU, .slice A 29 c]) ∧ UnOwn w.heap.size w' L exU ∧ w'.ownsRow w.heap.size 5 1 (.slice A 29 c) 29 (vB exU.bytes) ∧ Below w.heap.size w w'

set_option maxRecDepth 100000 in
set_option maxHeartbeats 8000000 in
theorem example15 (w : World) : Calls Try.prog 15 #[] w (ExOut w) := by
  obtain ⟨i5, hi, hz0, hz1, hz2⟩ := info_parts info5
  obtain ⟨w1, hw1⟩ : ∃ w1, w1 = (w.alloc (.cells (Z15 0 0) 28)).alloc (.cells #[.int .i64 0, .int .i64 1] 48) := ⟨_, rfl⟩
  have HB1 : Hid (Below w.heap.size w w1) := Lib.hid (by rw [hw1]; exact (below_a w _).alloc (by simp) _)
  have HS1 : Hid (w1.heap.size = w.heap.size + 2) := Lib.hid (by rw [hw1]; simp)
  have HQ0 : Hid (w1.heap[w.heap.size]? = some (.cells (Z15 0 0) 28 (0, 0))) := Lib.hid (by rw [hw1, Below.heap_alloc _ _ _ (by simp)]; exact heap_alloc_new w _)
  have HP : Hid (w1.ownsRow w.heap.size 48 2 (.slice (some ⟨w.heap.size + 1, 0, none⟩) 1 1) 1 (vP [(0, 1)])) := Lib.hid (by
    have := World.ownsRow_lit (base := w.heap.size) (e := 48) (size := 2) (w.alloc (.cells (Z15 0 0) 28)) #[.int .i64 0, .int .i64 1] 1 (by simp) (by unfold maxLen; omega) rfl
    rw [← hw1] at this
    simpa [vP, cP] using this)
  have HC1 := Lib.hid (one32 w1)
  rw [hw1] at HC1
  have HW := Lib.hid hw1
  clear hw1
  unfold Z15 at HC1 HW HQ0
  go_enter Try.func15, Try.ntmps15
  go_wp2_with fail
  (with_reducible refine HC1.out.mono ?_)
  rintro e x1 ⟨⟨A1, c1, D1, d1⟩, he, ho, hb⟩
  simp only [PrV.val] at he
  subst he
  rw [← HW.out] at ho hb
  have O1 := Lib.hid ho
  have G1 := Lib.hid hb
  have HC2 := Lib.hid (one32 x1)
  clear ho hb HC1 HW
  go_wp2_with fail
  (with_reducible refine HC2.out.mono ?_)
  rintro e x2 ⟨⟨A2, c2, D2, d2⟩, he, ho, hb⟩
  simp only [PrV.val] at he
  subst he
  have O2 := Lib.hid ho
  have G2 := Lib.hid hb
  have HC3 := Lib.hid (one32 x2)
  clear ho hb HC2
  go_wp2_with fail
  (with_reducible refine HC3.out.mono ?_)
  rintro e x3 ⟨⟨A3, c3, D3, d3⟩, he, ho, hb⟩
  simp only [PrV.val] at he
  subst he
  have O3 := Lib.hid ho
  have G3 := Lib.hid hb
  clear ho hb HC3
  go_wp2_with fail
  obtain ⟨W3, hW3⟩ : ∃ W3, W3 = x3.alloc (.cells #[.int .i64 1, .int .i64 1, .slice (some ⟨w.heap.size + 1, 0, none⟩) 1 1, .int .i64 pone.ins, .int .i64 pone.regs, .slice A1 pone.code.length c1, .slice D1 pone.outs.length d1, .int .i64 pone.ins, .int .i64 pone.regs, .slice A2 pone.code.length c2, .slice D2 pone.outs.length d2, .int .i64 pone.ins, .int .i64 pone.regs, .slice A3 pone.code.length c3, .slice D3 pone.outs.length d3] 28) := ⟨_, rfl⟩
  have HS3 : Hid (W3.heap.size = x3.heap.size + 1) := Lib.hid (by rw [hW3]; simp)
  have HQ3 : Hid (W3.heap[x3.heap.size]? = some (.cells #[.int .i64 1, .int .i64 1, .slice (some ⟨w.heap.size + 1, 0, none⟩) 1 1, .int .i64 pone.ins, .int .i64 pone.regs, .slice A1 pone.code.length c1, .slice D1 pone.outs.length d1, .int .i64 pone.ins, .int .i64 pone.regs, .slice A2 pone.code.length c2, .slice D2 pone.outs.length d2, .int .i64 pone.ins, .int .i64 pone.regs, .slice A3 pone.code.length c3, .slice D3 pone.outs.length d3] 28 (0, 0))) := Lib.hid (by rw [hW3]; exact heap_alloc_new _ _)
  have G13 : Hid (Below w1.heap.size w1 x3) := Lib.hid (G1.out.trans ((G2.out.trans (G3.out.mono G2.out.size)).mono G1.out.size))
  have HB3 : Hid (Below x3.heap.size x3 W3) := Lib.hid (by rw [hW3]; exact below_a _ _)
  have hx3 : w.heap.size + 2 ≤ x3.heap.size := by have := G13.out.size; have := HS1.out; omega
  have HOL : Hid ((W3.alloc (.cells #[.int .u8 65, .int .u8 78, .int .u8 86, .int .u8 49, .int .u8 1, .int .u8 1, .int .u8 1, .int .u8 0, .int .u8 1] 5)).ownsRow (x3.heap.size + 1) 5 1 (.slice (some ⟨x3.heap.size + 1, 0, none⟩) 9 9) 9 (vB (exB 0))) := Lib.hid (by
    have := World.ownsRow_lit (base := x3.heap.size + 1) (e := 5) (size := 1) W3 #[.int .u8 65, .int .u8 78, .int .u8 86, .int .u8 49, .int .u8 1, .int .u8 1, .int .u8 1, .int .u8 0, .int .u8 1] 9 (by rw [HS3.out]; exact Nat.le_refl _) (by unfold maxLen; omega) rfl
    rw [HS3.out] at this
    exact this)
  have HBA : Hid (Below (x3.heap.size + 1) W3 (W3.alloc (.cells #[.int .u8 65, .int .u8 78, .int .u8 86, .int .u8 49, .int .u8 1, .int .u8 1, .int .u8 1, .int .u8 0, .int .u8 1] 5))) := Lib.hid ((Below.refl _ _).alloc (by rw [HS3.out]; exact Nat.le_refl _) _)
  have HW3 := Lib.hid hW3
  clear hW3
  go_loopw [3, 11] (fun v i wr => ∃ (k : Nat) (A : Option Addr) (c : Nat), k ≤ 3 ∧ i = .int .i64 k ∧ v = .slice A (9 + k * 6) c ∧ Hid (wr.ownsRow (x3.heap.size + 1) 5 1 (.slice A (9 + k * 6) c) (9 + k * 6) (vB (exB k)) ∧ Below (x3.heap.size + 1) W3 wr)) (fun _ i _ => 3 - (intOf i).toNat)
  case atStart =>
    rw [HW3.out] at HOL HBA
    exact ⟨0, _, _, by omega, rfl, rfl, by have := HOL.out; exact this, by rw [HW3.out]; exact HBA.out⟩
  case round =>
    obtain ⟨k, A, c, hk, rfl, rfl, HR⟩ := hrel
    have hws : x3.heap.size + 1 ≤ wr.heap.size := by have := HR.out.2.size; have := HS3.out; omega
    by_cases hlt : k < 3
    · have HO1 := Lib.hid (HR.out.1.alloc (.cells #[.int .u8 1, .int .u8 1, .int .u8 0, .int .u8 0, .int .u8 1, .int .u8 0] 5))
      have HB4 := Lib.hid (HR.out.2.alloc hws (.cells #[.int .u8 1, .int .u8 1, .int .u8 0, .int .u8 0, .int .u8 1, .int .u8 0] 5))
      have HROW := Lib.hid (fun g hg => HR.out.1.lt g hg)
      go_wp2_with (at_builtin; refine wpList_appM rfl (.tmp 13) (.tmp 14) 31 rfl (x3.heap.size + 1) 5 i5 (.int .u8 0) 1 Try.underlying31 hi hz0 hz1 hz2 rfl (by decide) (.slice A (9 + k * 6) c) (9 + k * 6) (vB (exB k)) rfl HO1.out wr.heap.size 6 6 (vB [1, 1, 0, 0, 1, 0]) rfl rfl (lit_cells2 wr (vB [1, 1, 0, 0, 1, 0]) 5 _ rfl) (vB_one _) (by omega) (by simp; omega) ?_)
      intro v8 w8 ho8 hg8 _
      have HB8 := Lib.hid (HB4.out.grown hg8 (by simp; omega) (fun g hg => (HROW.out g hg).1))
      have HO8 := Lib.hid (tel_app (n' := 9 + (k + 1) * 6) ho8 (by omega) (show _ = exB (k + 1) from rfl))
      obtain ⟨A8, C8, hv8, _, _⟩ := own_slice HO8.out
      subst hv8
      clear ho8 hg8 HO1 HB4 HROW
      go_wp2_with fail
      go_roundw
      case rel => exact ⟨k + 1, A8, C8, by omega, by go_num, rfl, HO8.out, HB8.out⟩
      case measure => simp [intOf]; omega
    · obtain rfl : k = 3 := by omega
      have QU := Lib.hid ((HR.out.2.block x3.heap.size (by omega)).trans HQ3.out)
      have QZ := Lib.hid ((HR.out.2.block w.heap.size (by omega)).trans ((HB3.out.block w.heap.size (by omega)).trans ((G13.out.block w.heap.size (by have := HS1.out; omega)).trans HQ0.out)))
      have c0' : wr.cell? ⟨x3.heap.size, 0, none⟩ = some (.int .i64 1) := cell_of_row _ _ 0 _ 28 (0, 0) QU.out
      have c1' : wr.cell? ⟨x3.heap.size, 1, none⟩ = some (.int .i64 1) := cell_of_row _ _ 1 _ 28 (0, 0) QU.out
      have c2' : wr.cell? ⟨x3.heap.size, 2, none⟩ = some (.slice (some ⟨w.heap.size + 1, 0, none⟩) 1 1) := cell_of_row _ _ 2 _ 28 (0, 0) QU.out
      have c3' : wr.cell? ⟨x3.heap.size, 3, none⟩ = some (.int .i64 pone.ins) := cell_of_row _ _ 3 _ 28 (0, 0) QU.out
      have c4' : wr.cell? ⟨x3.heap.size, 4, none⟩ = some (.int .i64 pone.regs) := cell_of_row _ _ 4 _ 28 (0, 0) QU.out
      have c5' : wr.cell? ⟨x3.heap.size, 5, none⟩ = some (.slice A1 pone.code.length c1) := cell_of_row _ _ 5 _ 28 (0, 0) QU.out
      have c6' : wr.cell? ⟨x3.heap.size, 6, none⟩ = some (.slice D1 pone.outs.length d1) := cell_of_row _ _ 6 _ 28 (0, 0) QU.out
      have c7' : wr.cell? ⟨x3.heap.size, 7, none⟩ = some (.int .i64 pone.ins) := cell_of_row _ _ 7 _ 28 (0, 0) QU.out
      have c8' : wr.cell? ⟨x3.heap.size, 8, none⟩ = some (.int .i64 pone.regs) := cell_of_row _ _ 8 _ 28 (0, 0) QU.out
      have c9' : wr.cell? ⟨x3.heap.size, 9, none⟩ = some (.slice A2 pone.code.length c2) := cell_of_row _ _ 9 _ 28 (0, 0) QU.out
      have c10' : wr.cell? ⟨x3.heap.size, 10, none⟩ = some (.slice D2 pone.outs.length d2) := cell_of_row _ _ 10 _ 28 (0, 0) QU.out
      have c11' : wr.cell? ⟨x3.heap.size, 11, none⟩ = some (.int .i64 pone.ins) := cell_of_row _ _ 11 _ 28 (0, 0) QU.out
      have c12' : wr.cell? ⟨x3.heap.size, 12, none⟩ = some (.int .i64 pone.regs) := cell_of_row _ _ 12 _ 28 (0, 0) QU.out
      have c13' : wr.cell? ⟨x3.heap.size, 13, none⟩ = some (.slice A3 pone.code.length c3) := cell_of_row _ _ 13 _ 28 (0, 0) QU.out
      have c14' : wr.cell? ⟨x3.heap.size, 14, none⟩ = some (.slice D3 pone.outs.length d3) := cell_of_row _ _ 14 _ 28 (0, 0) QU.out
      have HO1 := Lib.hid ((own_congr (w' := wr.drew) HR.out.1 (fun _ _ => rfl)).alloc (.cells #[.int .u8 3, .int .u8 93] 5))
      have HB4 := Lib.hid (HR.out.2.drew.alloc hws (.cells #[.int .u8 3, .int .u8 93] 5))
      have HROW := Lib.hid (fun g hg => (HR.out.1.lt g hg).1)
      have HW4 : Hid (x3.heap.size + 1 ≤ (wr.drew.alloc (.cells #[.int .u8 3, .int .u8 93] 5)).heap.size) := Lib.hid (Nat.le_trans hws (by show wr.heap.size ≤ _; simp only [World.alloc, World.drew, Array.size_push]; omega))
      have ka : ∀ o j, j < 15 → (wr.alloc o).cell? ⟨x3.heap.size, j, none⟩ = wr.cell? ⟨x3.heap.size, j, none⟩ := fun o j _ => World.cell?_alloc_lt _ _ _ (by show x3.heap.size < wr.heap.size; omega)
      go_upto_region 7 with (fail)
      go_cut [1] from 17 to 20 (fun v wx => Hid (ExMid w v wx))
      case first =>
       go_region_law (refine step_appM rfl (.tmp 18) (.tmp 19) 31 rfl (x3.heap.size + 1) 5 i5 (.int .u8 0) 1 Try.underlying31 hi hz0 hz1 hz2 rfl (by decide) (.slice A 27 c) 27 (vB (exB 3)) (by rfl) HO1.out wr.heap.size 2 2 (vB [3, 93]) (by rfl) rfl (lit_cells2 wr.drew (vB [3, 93]) 5 _ rfl) (vB_one _) (by decide) HW4.out ?_; intro v8 w8 ho8 hg8 _
                      have HB8 := Lib.hid (HB4.out.grown hg8 HW4.out (fun g hg => HROW.out g hg))
                      have HO8 := Lib.hid (tel_app (n' := 29) ho8 rfl exU_bytes.symm)
                      obtain ⟨A8, C8, hv8, _, _⟩ := own_slice HO8.out
                      subst hv8
                      clear ho8 hg8
                      have Q8 := Lib.hid ((HB8.out.block x3.heap.size (by omega)).trans HQ3.out)
                      have Z8 := Lib.hid ((HB8.out.block w.heap.size (by omega)).trans ((HB3.out.block w.heap.size (by omega)).trans ((G13.out.block w.heap.size (by have := HS1.out; omega)).trans HQ0.out)))
                      have e0 : w8.cell? ⟨x3.heap.size, 0, none⟩ = some (.int .i64 1) := cell_of_row _ _ 0 _ 28 (0, 0) Q8.out
                      have e1 : w8.cell? ⟨x3.heap.size, 1, none⟩ = some (.int .i64 1) := cell_of_row _ _ 1 _ 28 (0, 0) Q8.out
                      have e2 : w8.cell? ⟨x3.heap.size, 2, none⟩ = some (.slice (some ⟨w.heap.size + 1, 0, none⟩) 1 1) := cell_of_row _ _ 2 _ 28 (0, 0) Q8.out
                      have e3 : w8.cell? ⟨x3.heap.size, 3, none⟩ = some (.int .i64 pone.ins) := cell_of_row _ _ 3 _ 28 (0, 0) Q8.out
                      have e4 : w8.cell? ⟨x3.heap.size, 4, none⟩ = some (.int .i64 pone.regs) := cell_of_row _ _ 4 _ 28 (0, 0) Q8.out
                      have e5 : w8.cell? ⟨x3.heap.size, 5, none⟩ = some (.slice A1 pone.code.length c1) := cell_of_row _ _ 5 _ 28 (0, 0) Q8.out
                      have e6 : w8.cell? ⟨x3.heap.size, 6, none⟩ = some (.slice D1 pone.outs.length d1) := cell_of_row _ _ 6 _ 28 (0, 0) Q8.out
                      have e7 : w8.cell? ⟨x3.heap.size, 7, none⟩ = some (.int .i64 pone.ins) := cell_of_row _ _ 7 _ 28 (0, 0) Q8.out
                      have e8 : w8.cell? ⟨x3.heap.size, 8, none⟩ = some (.int .i64 pone.regs) := cell_of_row _ _ 8 _ 28 (0, 0) Q8.out
                      have e9 : w8.cell? ⟨x3.heap.size, 9, none⟩ = some (.slice A2 pone.code.length c2) := cell_of_row _ _ 9 _ 28 (0, 0) Q8.out
                      have e10 : w8.cell? ⟨x3.heap.size, 10, none⟩ = some (.slice D2 pone.outs.length d2) := cell_of_row _ _ 10 _ 28 (0, 0) Q8.out
                      have e11 : w8.cell? ⟨x3.heap.size, 11, none⟩ = some (.int .i64 pone.ins) := cell_of_row _ _ 11 _ 28 (0, 0) Q8.out
                      have e12 : w8.cell? ⟨x3.heap.size, 12, none⟩ = some (.int .i64 pone.regs) := cell_of_row _ _ 12 _ 28 (0, 0) Q8.out
                      have e13 : w8.cell? ⟨x3.heap.size, 13, none⟩ = some (.slice A3 pone.code.length c3) := cell_of_row _ _ 13 _ 28 (0, 0) Q8.out
                      have e14 : w8.cell? ⟨x3.heap.size, 14, none⟩ = some (.slice D3 pone.outs.length d3) := cell_of_row _ _ 14 _ 28 (0, 0) Q8.out
                      have z0 : w8.cell? ⟨w.heap.size, 0, none⟩ = some (.int .i64 0) := cell_of_row _ _ 0 _ 28 (0, 0) Z8.out
                      have y0 := frozen_of_row w8 w.heap.size 0 _ 28 Z8.out
                      have z1 : w8.cell? ⟨w.heap.size, 1, none⟩ = some (.int .i64 0) := cell_of_row _ _ 1 _ 28 (0, 0) Z8.out
                      have y1 := frozen_of_row w8 w.heap.size 1 _ 28 Z8.out
                      have z2 : w8.cell? ⟨w.heap.size, 2, none⟩ = some (.slice none 0 0) := cell_of_row _ _ 2 _ 28 (0, 0) Z8.out
                      have y2 := frozen_of_row w8 w.heap.size 2 _ 28 Z8.out
                      have z3 : w8.cell? ⟨w.heap.size, 3, none⟩ = some (.int .i64 0) := cell_of_row _ _ 3 _ 28 (0, 0) Z8.out
                      have y3 := frozen_of_row w8 w.heap.size 3 _ 28 Z8.out
                      have z4 : w8.cell? ⟨w.heap.size, 4, none⟩ = some (.int .i64 0) := cell_of_row _ _ 4 _ 28 (0, 0) Z8.out
                      have y4 := frozen_of_row w8 w.heap.size 4 _ 28 Z8.out
                      have z5 : w8.cell? ⟨w.heap.size, 5, none⟩ = some (.slice none 0 0) := cell_of_row _ _ 5 _ 28 (0, 0) Z8.out
                      have y5 := frozen_of_row w8 w.heap.size 5 _ 28 Z8.out
                      have z6 : w8.cell? ⟨w.heap.size, 6, none⟩ = some (.slice none 0 0) := cell_of_row _ _ 6 _ 28 (0, 0) Z8.out
                      have y6 := frozen_of_row w8 w.heap.size 6 _ 28 Z8.out
                      have z7 : w8.cell? ⟨w.heap.size, 7, none⟩ = some (.int .i64 0) := cell_of_row _ _ 7 _ 28 (0, 0) Z8.out
                      have y7 := frozen_of_row w8 w.heap.size 7 _ 28 Z8.out
                      have z8 : w8.cell? ⟨w.heap.size, 8, none⟩ = some (.int .i64 0) := cell_of_row _ _ 8 _ 28 (0, 0) Z8.out
                      have y8 := frozen_of_row w8 w.heap.size 8 _ 28 Z8.out
                      have z9 : w8.cell? ⟨w.heap.size, 9, none⟩ = some (.slice none 0 0) := cell_of_row _ _ 9 _ 28 (0, 0) Z8.out
                      have y9 := frozen_of_row w8 w.heap.size 9 _ 28 Z8.out
                      have z10 : w8.cell? ⟨w.heap.size, 10, none⟩ = some (.slice none 0 0) := cell_of_row _ _ 10 _ 28 (0, 0) Z8.out
                      have y10 := frozen_of_row w8 w.heap.size 10 _ 28 Z8.out
                      have z11 : w8.cell? ⟨w.heap.size, 11, none⟩ = some (.int .i64 0) := cell_of_row _ _ 11 _ 28 (0, 0) Z8.out
                      have y11 := frozen_of_row w8 w.heap.size 11 _ 28 Z8.out
                      have z12 : w8.cell? ⟨w.heap.size, 12, none⟩ = some (.int .i64 0) := cell_of_row _ _ 12 _ 28 (0, 0) Z8.out
                      have y12 := frozen_of_row w8 w.heap.size 12 _ 28 Z8.out
                      have z13 : w8.cell? ⟨w.heap.size, 13, none⟩ = some (.slice none 0 0) := cell_of_row _ _ 13 _ 28 (0, 0) Z8.out
                      have y13 := frozen_of_row w8 w.heap.size 13 _ 28 Z8.out
                      have z14 : w8.cell? ⟨w.heap.size, 14, none⟩ = some (.slice none 0 0) := cell_of_row _ _ 14 _ 28 (0, 0) Z8.out
                      have y14 := frozen_of_row w8 w.heap.size 14 _ 28 Z8.out
                      skip)
       all_goals
        as_aux_lemma =>
         clear c0' c1' c2' c3' c4' c5' c6' c7' c8' c9' c10' c11' c12' c13' c14'
         go_wp2_with fail
         go_meet
         clear e0 z0 y0 e1 z1 y1 e2 z2 y2 e3 z3 y3 e4 z4 y4 e5 z5 y5 e6 z6 y6 e7 z7 y7 e8 z8 y8 e9 z9 y9 e10 z10 y10 e11 z11 y11 e12 z12 y12 e13 z13 y13 e14 z14 y14
         have hfin := set15_blk (T := 28) (a0 := (.int .i64 1)) (a1 := (.int .i64 1)) (a2 := (.slice (some ⟨w.heap.size + 1, 0, none⟩) 1 1)) (a3 := (.int .i64 pone.ins)) (a4 := (.int .i64 pone.regs)) (a5 := (.slice A1 pone.code.length c1)) (a6 := (.slice D1 pone.outs.length d1)) (a7 := (.int .i64 pone.ins)) (a8 := (.int .i64 pone.regs)) (a9 := (.slice A2 pone.code.length c2)) (a10 := (.slice D2 pone.outs.length d2)) (a11 := (.int .i64 pone.ins)) (a12 := (.int .i64 pone.regs)) (a13 := (.slice A3 pone.code.length c3)) (a14 := (.slice D3 pone.outs.length d3)) Z8.out
         have hfar : ∀ g, g ≠ w.heap.size → (set15 w8 w.heap.size (.int .i64 1) (.int .i64 1) (.slice (some ⟨w.heap.size + 1, 0, none⟩) 1 1) (.int .i64 pone.ins) (.int .i64 pone.regs) (.slice A1 pone.code.length c1) (.slice D1 pone.outs.length d1) (.int .i64 pone.ins) (.int .i64 pone.regs) (.slice A2 pone.code.length c2) (.slice D2 pone.outs.length d2) (.int .i64 pone.ins) (.int .i64 pone.regs) (.slice A3 pone.code.length c3) (.slice D3 pone.outs.length d3)).heap[g]? = w8.heap[g]? := fun g hg => set15_far hg
         have hbw : Below w.heap.size w w8 := (HB1.out.trans (G13.out.mono (by have := HS1.out; omega))).trans ((HB3.out.trans (HB8.out.mono (by omega))).mono (by omega))
         have hbel := set15_below (b := w.heap.size) (a0 := (.int .i64 1)) (a1 := (.int .i64 1)) (a2 := (.slice (some ⟨w.heap.size + 1, 0, none⟩) 1 1)) (a3 := (.int .i64 pone.ins)) (a4 := (.int .i64 pone.regs)) (a5 := (.slice A1 pone.code.length c1)) (a6 := (.slice D1 pone.outs.length d1)) (a7 := (.int .i64 pone.ins)) (a8 := (.int .i64 pone.regs)) (a9 := (.slice A2 pone.code.length c2)) (a10 := (.slice D2 pone.outs.length d2)) (a11 := (.int .i64 pone.ins)) (a12 := (.int .i64 pone.regs)) (a13 := (.slice A3 pone.code.length c3)) (a14 := (.slice D3 pone.outs.length d3)) hbw (Nat.le_refl _)
         have h38 : Below x3.heap.size x3 w8 := HB3.out.trans (HB8.out.mono (by omega))
         refine Lib.hid ⟨⟨some ⟨w.heap.size + 1, 0, none⟩, 1, ⟨A1, c1, D1, d1⟩, ⟨A2, c2, D2, d2⟩, ⟨A3, c3, D3, d3⟩⟩, A8, C8, rfl, hfin, ⟨?_, ?_, ?_, ?_⟩, ?_, hbel⟩
         · exact own_congr HP.out fun g hg => (hfar g (fun e => own_blk_ne HP.out HQ0.out (by decide) (hg.trans (congrArg some e)))).trans ((h38.block g (by have := own_lt HP.out hg; have := G13.out.size; omega)).trans (G13.out.block g (own_lt HP.out hg)))
         · exact ex_pr O1.out (by have := HS1.out; omega) (by have := HS1.out; omega) (fun g h1 h2 => (hfar g h1).trans ((h38.block g (by have := G2.out.size; have := G3.out.size; omega)).trans ((G3.out.block g (by have := G2.out.size; omega)).trans (G2.out.block g h2))))
         · exact ex_pr O2.out (by have := HS1.out; have := G1.out.size; omega) (by have := HS1.out; have := G1.out.size; omega) (fun g h1 h2 => (hfar g h1).trans ((h38.block g (by have := G3.out.size; omega)).trans (G3.out.block g h2)))
         · exact ex_pr O3.out (by have := HS1.out; have := G1.out.size; have := G2.out.size; omega) (by have := HS1.out; have := G1.out.size; have := G2.out.size; omega) (fun g h1 h2 => (hfar g h1).trans (h38.block g h2))
         · exact own_base (own_congr HO8.out fun g hg => hfar g (by have := (HO8.out.lt g hg).1; omega)) (by omega)
      case rest =>
        obtain ⟨⟨P, cp, ⟨A1, c1, D1, d1⟩, ⟨A2, c2, D2, d2⟩, ⟨A3, c3, D3, d3⟩⟩, A8, C8, rfl, hq, hu, ho, hb⟩ := hcut.out
        clear c0' c1' c2' c3' c4' c5' c6' c7' c8' c9' c10' c11' c12' c13' c14'
        have m0 : wc.cell? ⟨w.heap.size, 0, none⟩ = some (.int .i64 exU.k1) := cell_of_row _ w.heap.size 0 _ 28 (0, 0) hq
        have m1 : wc.cell? ⟨w.heap.size, 1, none⟩ = some (.int .i64 exU.k2) := cell_of_row _ w.heap.size 1 _ 28 (0, 0) hq
        have m2 : wc.cell? ⟨w.heap.size, 2, none⟩ = some (.slice P exU.pts.length cp) := cell_of_row _ w.heap.size 2 _ 28 (0, 0) hq
        have m3 : wc.cell? ⟨w.heap.size, 3, none⟩ = some (.int .i64 exU.left.ins) := cell_of_row _ w.heap.size 3 _ 28 (0, 0) hq
        have m4 : wc.cell? ⟨w.heap.size, 4, none⟩ = some (.int .i64 exU.left.regs) := cell_of_row _ w.heap.size 4 _ 28 (0, 0) hq
        have m5 : wc.cell? ⟨w.heap.size, 5, none⟩ = some (.slice A1 exU.left.code.length c1) := cell_of_row _ w.heap.size 5 _ 28 (0, 0) hq
        have m6 : wc.cell? ⟨w.heap.size, 6, none⟩ = some (.slice D1 exU.left.outs.length d1) := cell_of_row _ w.heap.size 6 _ 28 (0, 0) hq
        have m7 : wc.cell? ⟨w.heap.size, 7, none⟩ = some (.int .i64 exU.right.ins) := cell_of_row _ w.heap.size 7 _ 28 (0, 0) hq
        have m8 : wc.cell? ⟨w.heap.size, 8, none⟩ = some (.int .i64 exU.right.regs) := cell_of_row _ w.heap.size 8 _ 28 (0, 0) hq
        have m9 : wc.cell? ⟨w.heap.size, 9, none⟩ = some (.slice A2 exU.right.code.length c2) := cell_of_row _ w.heap.size 9 _ 28 (0, 0) hq
        have m10 : wc.cell? ⟨w.heap.size, 10, none⟩ = some (.slice D2 exU.right.outs.length d2) := cell_of_row _ w.heap.size 10 _ 28 (0, 0) hq
        have m11 : wc.cell? ⟨w.heap.size, 11, none⟩ = some (.int .i64 exU.back.ins) := cell_of_row _ w.heap.size 11 _ 28 (0, 0) hq
        have m12 : wc.cell? ⟨w.heap.size, 12, none⟩ = some (.int .i64 exU.back.regs) := cell_of_row _ w.heap.size 12 _ 28 (0, 0) hq
        have m13 : wc.cell? ⟨w.heap.size, 13, none⟩ = some (.slice A3 exU.back.code.length c3) := cell_of_row _ w.heap.size 13 _ 28 (0, 0) hq
        have m14 : wc.cell? ⟨w.heap.size, 14, none⟩ = some (.slice D3 exU.back.outs.length d3) := cell_of_row _ w.heap.size 14 _ 28 (0, 0) hq
        have HF : Hid (ExOut w (.returned (.tuple #[(⟨P, cp, ⟨A1, c1, D1, d1⟩, ⟨A2, c2, D2, d2⟩, ⟨A3, c3, D3, d3⟩⟩ : UnV).val exU, .slice A8 29 C8])) wc) := Lib.hid ⟨_, _, _, rfl, hu, ho, hb⟩
        clear hcut hq hu ho hb
        go_wp2_with fail
        refine bodyPost_ret (v := .tuple #[.agg #[.int .i64 exU.k1, .int .i64 exU.k2, .slice P exU.pts.length cp, .int .i64 exU.left.ins, .int .i64 exU.left.regs, .slice A1 exU.left.code.length c1, .slice D1 exU.left.outs.length d1, .int .i64 exU.right.ins, .int .i64 exU.right.regs, .slice A2 exU.right.code.length c2, .slice D2 exU.right.outs.length d2, .int .i64 exU.back.ins, .int .i64 exU.back.regs, .slice A3 exU.back.code.length c3, .slice D3 exU.back.outs.length d3], .slice A8 29 C8]) ?_ rfl HF.out
        simp [results, Try.results15, go_sem, m0, m1, m2, m3, m4, m5, m6, m7, m8, m9, m10, m11, m12, m13, m14]
end Go.Proofs.Ytcelcognmdcenaa
