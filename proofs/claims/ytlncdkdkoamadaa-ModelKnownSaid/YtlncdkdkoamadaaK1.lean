/-
  WALKS: works: the law's own look whether a run is stepped at all.
-/
import Derived.Test.YtlncdkdkoamadaaRun
import Derived.Test.YtlncdkdkoamadaaC2
namespace Go.Proofs.Ytlncdkdkoamadaa
open Go.RowKit

/-- The example's parents. -/
def exPar : Nat → Int := fun i => if i = 3 then 1 else 0
def ex0 : G := G.init 4 (thr 1) exPar
def ex1 : G := ex0.step 0
def ex2 : G := ex1.step 0

theorem ex_ok : treeOk 4 exPar := by
  intro c h1 h2
  unfold exPar
  split <;> omega
theorem ex0_rdy : ex0.rdy 0 = true := by decide +kernel
theorem ex0_move : ex0.move 0 = (1, 1, false) := by decide +kernel
theorem ex1_rdy : ex1.rdy 0 = true := by decide +kernel
theorem ex1_move : ex1.move 0 = (0, 2, false) := by decide +kernel
theorem ex2_readies : ex2.readies = [0, 1] := by decide +kernel
theorem ex2_opens : ex2.opens = [0, 1, 2] := by decide +kernel
theorem ex2_alive : ex2.alive = 1 := by decide +kernel
theorem ex2_mov : ex2.mov = 2 := by decide +kernel
theorem ex2_fin : ex2.fin 0 = false := by decide +kernel

theorem step_ex0 {w : World} {P : Nat → Prop} {r : Nat} (h : RunIn w P r ex0) : Calls Try.prog 17 #[.pointer (some ⟨r, 0, none⟩), .int .i64 0] w fun e w' =>
    e = .returned (.tuple #[.agg #[.int .i64 1, .int .i64 1, .bool false], .int .i64 0]) ∧ RunIn w' P r ex1 ∧ Kept P w w' := by
  have := h.Step 0 ex0_rdy
  rw [ex0_move] at this
  exact this
theorem step_ex1 {w : World} {P : Nat → Prop} {r : Nat} (h : RunIn w P r ex1) : Calls Try.prog 17 #[.pointer (some ⟨r, 0, none⟩), .int .i64 0] w fun e w' =>
    e = .returned (.tuple #[.agg #[.int .i64 0, .int .i64 2, .bool false], .int .i64 0]) ∧ RunIn w' P r ex2 ∧ Kept P w w' := by
  have := h.Step 0 ex1_rdy
  rw [ex1_move] at this
  exact this

set_option maxHeartbeats 1000000 in
set_option maxRecDepth 100000 in
theorem works_any (w : World) :
    Calls Try.prog 9 #[] w fun e w' => e = .returned (.bool true) ∧ Below w.heap.size w w' := by
  have hb1 : Below w.heap.size w (w.alloc (.cells #[.int .i64 0, .int .i64 0, .int .i64 0, .int .i64 1] 3)) := (Below.refl _ _).alloc (Nat.le_refl _) _
  have hrd : RdI (w.alloc (.cells #[.int .i64 0, .int .i64 0, .int .i64 0, .int .i64 1] 3)) (some ⟨w.heap.size, 0, none⟩) 4 exPar := fun _ => by
    refine ⟨w.heap.size, 0, rfl, by simp, fun i hi => ?_⟩
    rw [cell_of_row _ _ _ _ 3 (0, 0) (heap_alloc_new w _)]
    match i, hi with
    | 0, _ => rfl
    | 1, _ => rfl
    | 2, _ => rfl
    | 3, _ => rfl
  have hnew := new_in (P := fun b => b < w.heap.size) (c := 4) (wk := 1) (fun b hb => Nat.lt_of_lt_of_le hb hb1.size) (by decide) (by decide) hrd
  have HN := Lib.hid hnew
  clear hnew hrd
  go_enter Try.func9, Try.ntmps9
  go_wp2_with fail
  refine HN.out.mono ?_
  rintro e w1 (⟨_, r, rfl, hr1, hb2⟩ | ⟨h, _⟩)
  case inr => exact absurd ex_ok h
  have HB := Lib.hid (hb1.trans (hb2.mono hb1.size))
  have HS := Lib.hid (step_ex0 hr1)
  clear hr1 HN hb1 hb2
  go_wp2_with fail
  refine HS.out.mono ?_
  rintro e w2 ⟨rfl, hr2, hk2⟩
  have HB2 := Lib.hid (HB.out.trans (hk2.below (fun b hb => hb)))
  have hr3 := hr2.alloc (.cells #[.int .i64 1, .int .i64 1, .bool false] 41)
  have HS2 := Lib.hid (step_ex1 hr3)
  clear HS hk2 hr2 HB hr3
  go_wp2_with fail
  refine HS2.out.mono ?_
  rintro e w3 ⟨rfl, hr4, hk4⟩
  have HB3 := Lib.hid (HB2.out.trans ((((Below.refl _ _).alloc (Nat.le_refl _) _ : Below w2.heap.size w2 _).mono HB2.out.size).trans (hk4.below (fun b hb => .inl hb))))
  have hblk : w3.heap[w2.heap.size]? = some (.cells #[.int .i64 1, .int .i64 1, .bool false] 41 (0, 0)) := (hk4.block _ (.inr rfl)).trans (heap_alloc_new w2 _)
  have hlt : w2.heap.size < w3.heap.size := (Array.getElem?_eq_some_iff.1 hblk).1
  have c10 : ∀ o, (w3.alloc o).cell? ⟨w2.heap.size, 0, none⟩ = some (.int .i64 1) := fun o => (World.cell?_alloc_lt _ _ _ hlt).trans (cell_of_row w3 _ 0 _ 41 (0, 0) hblk)
  have c11 : ∀ o, (w3.alloc o).cell? ⟨w2.heap.size, 1, none⟩ = some (.int .i64 1) := fun o => (World.cell?_alloc_lt _ _ _ hlt).trans (cell_of_row w3 _ 1 _ 41 (0, 0) hblk)
  have c12 : ∀ o, (w3.alloc o).cell? ⟨w2.heap.size, 2, none⟩ = some (.bool false) := fun o => (World.cell?_alloc_lt _ _ _ hlt).trans (cell_of_row w3 _ 2 _ 41 (0, 0) hblk)
  have hr5 := (hr4.less (P' := fun b => b < w.heap.size) (fun b hb => .inl hb)).keep ((Below.refl _ _).alloc (Nat.le_refl _) (.cells #[.int .i64 0, .int .i64 2, .bool false] 41))
  have HR5 := Lib.hid hr5
  have HRD := Lib.hid hr5.Ready
  clear HS2 hk4 hr4 HB2 hr5 hblk
  go_wp2_with fail
  refine HRD.out.mono ?_
  rintro e w4 ⟨v, rfl, ho, hb⟩
  rw [ex2_readies] at ho
  obtain ⟨g1, cp1, rfl⟩ := own_form ho (by decide)
  have hr6 := HR5.out.keep hb
  have hb5 : Below w4.heap.size w4 (w4.alloc (.cells #[.int .i64 0, .int .i64 1] 3)) := (Below.refl _ _).alloc (Nat.le_refl _) _
  have HE1 := Lib.hid (equal_lists (some ⟨g1, 0, none⟩) (some ⟨w4.heap.size, 0, none⟩) 2 2 cp1 2 [0, 1] [0, 1] (w4.alloc (.cells #[.int .i64 0, .int .i64 1] 3)) ((RdL.of_own ho).below hb5 (Nat.le_refl _)) (RdL.lit w4 [0, 1] 3) rfl rfl (by decide) (by decide))
  have HR6 := Lib.hid (hr6.keep hb5)
  have HB4 := Lib.hid (((HB3.out.alloc HB3.out.size (.cells #[.int .i64 0, .int .i64 2, .bool false] 41)).trans (hb.mono (by have := HB3.out.size; simp; omega))).trans (hb5.mono (by have := HB3.out.size; have := hb.size; simp at this; omega)))
  clear ho hb hb5 hr6 HR5 HRD HB3 c10 c11 c12 hlt
  go_wp2_with fail
  refine HE1.out.mono ?_
  rintro e w5 ⟨rfl, j5, rfl⟩
  have HOP := Lib.hid (HR6.out.drewN j5).Open
  go_wp2_with fail
  refine HOP.out.mono ?_
  rintro e w6 ⟨v, rfl, ho, hb⟩
  rw [ex2_opens] at ho
  obtain ⟨g2, cp2, rfl⟩ := own_form ho (by decide)
  have hr7 := (HR6.out.drewN j5).keep hb
  have hb5 : Below w6.heap.size w6 (w6.alloc (.cells #[.int .i64 0, .int .i64 1, .int .i64 2] 3)) := (Below.refl _ _).alloc (Nat.le_refl _) _
  have HE2 := Lib.hid (equal_lists (some ⟨g2, 0, none⟩) (some ⟨w6.heap.size, 0, none⟩) 3 3 cp2 3 [0, 1, 2] [0, 1, 2] (w6.alloc (.cells #[.int .i64 0, .int .i64 1, .int .i64 2] 3)) ((RdL.of_own ho).below hb5 (Nat.le_refl _)) (RdL.lit w6 [0, 1, 2] 3) rfl rfl (by decide) (by decide))
  have HR7 := Lib.hid (hr7.keep hb5)
  have HB5 := Lib.hid (((below_drewN HB4.out j5).trans (hb.mono (below_drewN HB4.out j5).size)).trans (hb5.mono (by have := (below_drewN HB4.out j5).size; have := hb.size; omega)))
  clear ho hb hb5 hr7 HR6 HOP HB4 HE1
  go_wp2_with fail
  refine HE2.out.mono ?_
  rintro e w7 ⟨rfl, j7, rfl⟩
  have HAL := Lib.hid (HR7.out.drewN j7).Alive
  have HMV := Lib.hid (HR7.out.drewN j7).Moves
  have HDN := Lib.hid (HR7.out.drewN j7).Done
  have HB6 := Lib.hid (below_drewN HB5.out j7)
  have a1 := ex2_alive
  have a2 := ex2_mov
  have a3 := ex2_fin
  clear HE2 HR7 HB5
  go_wp2_with fail
  refine HAL.out.mono ?_
  rintro e w8 ⟨rfl, rfl⟩
  go_wp2_with fail
  refine HMV.out.mono ?_
  rintro e w8 ⟨rfl, rfl⟩
  go_wp2_with fail
  refine HDN.out.mono ?_
  rintro e w8 ⟨rfl, rfl⟩
  go_wp2_with fail
  go_ret
  exact ⟨rfl, HB6.out⟩
end Go.Proofs.Ytlncdkdkoamadaa
