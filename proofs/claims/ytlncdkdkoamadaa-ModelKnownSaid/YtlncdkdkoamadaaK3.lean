/-
  THE LAW ModelKnown, walked.
-/
import Derived.Test.YtlncdkdkoamadaaK2
namespace Go.Proofs.Ytlncdkdkoamadaa
open Go.RowKit

def evLit : Array Value := #[.int .i64 1, .int .i64 1, .bool false, .int .i64 0, .int .i64 2, .bool false, .int .i64 1, .int .i64 3, .bool false, .int .i64 1, .int .i64 3, .bool true, .int .i64 1, .int .i64 1, .bool true]
/-- The example's run at label 1; the list of its expected moves; what was there before: 100. -/
structure KInv (w wr : World) (lab : Nat → Nat) (r gE i : Nat) : Prop where
  bel : Below w.heap.size w wr
  run : Rn wr lab 1 r (exS i)
  old : ∀ b, b < w.heap.size → lab b = 100
  lE : lab gE = 100
  blk : wr.heap[gE]? = some (.cells evLit 41)

section
variable {w wr w' : World} {lab lab' : Nat → Nat} {r gE i : Nat}
theorem KInv.below (h : KInv w wr lab r gE i) (hb : Below wr.heap.size wr w') (hl : ∀ b, b < wr.heap.size → lab' b = lab b) : KInv w w' lab' r gE i :=
  { bel := h.bel.trans (hb.mono h.bel.size)
    run := h.run.below hb hl
    old := fun b hb' => by rw [hl b (Nat.lt_of_lt_of_le hb' h.bel.size)]; exact h.old b hb'
    lE := by rw [hl gE (Array.getElem?_eq_some_iff.1 h.blk).1]; exact h.lE
    blk := (hb.block gE (Array.getElem?_eq_some_iff.1 h.blk).1).trans h.blk }
/-- Two makes: the first one's label is 100. -/
theorem KInv.two (h : KInv w wr lab r gE i) (o1 o2 : Obj) : ∃ lab', KInv w ((wr.alloc o1).alloc o2) lab' r gE i ∧ lab' wr.heap.size = 100 :=
  ⟨fun b => if b < wr.heap.size then lab b else 100, h.below (((Below.refl _ _).alloc (Nat.le_refl _) _).alloc (by simp) _) (fun b hb => by simp [hb]), by simp⟩
theorem KInv.step (h : KInv w wr lab r gE i) (hk : Keeps lab 1 wr w') (hl : ∀ b, b < wr.heap.size → lab' b = lab b) (hr : Rn w' lab' 1 r (exS (i + 1))) : KInv w w' lab' r gE (i + 1) :=
  { bel := h.bel.trans (hk.below h.bel.size (fun b hb => by rw [h.old b hb]; decide))
    run := hr
    old := fun b hb' => by rw [hl b (Nat.lt_of_lt_of_le hb' h.bel.size)]; exact h.old b hb'
    lE := by rw [hl gE (Array.getElem?_eq_some_iff.1 h.blk).1]; exact h.lE
    blk := (hk.block gE (Array.getElem?_eq_some_iff.1 h.blk).1 (by rw [h.lE]; decide)).trans h.blk }
theorem KInv.cell (h : KInv w wr lab r gE i) (j : Nat) : wr.cell? ⟨gE, j, none⟩ = evLit[j]? := cell_of_row _ _ _ _ 41 (0, 0) h.blk
end

theorem two_blk (w : World) (o1 o2 : Obj) : ((w.alloc o1).alloc o2).heap[w.heap.size]? = some o1 := by
  rw [Below.heap_alloc _ _ _ (by simp)]
  exact heap_alloc_new w o1

set_option maxHeartbeats 2000000 in
set_option maxRecDepth 100000 in
theorem copy_nil (w : World) : Calls Try.prog 14 #[.pointer none] w fun e w' => e = .returned (.pointer none) ∧ w = w' := by
  go_enter Try.func14, Try.ntmps14
  go_wp2
  go_ret
  exact ⟨rfl, rfl⟩

theorem rdI_two' (w : World) (x y : Int) : RdI (w.alloc (.cells #[.int .i64 x, .int .i64 y] 3)) (some ⟨w.heap.size, 0, none⟩) 2 (fun i => if i = 1 then y else x) := fun _ => by
  refine ⟨w.heap.size, 0, rfl, by simp, fun i hi => ?_⟩
  rw [cell_of_row _ _ _ _ 3 (0, 0) (heap_alloc_new w _)]
  rcases (show i = 0 ∨ i = 1 by omega) with rfl | rfl <;> rfl
theorem zf2 (w : World) : RdI (w.alloc (.cells #[.int .i64 0, .int .i64 0] 3)) (some ⟨w.heap.size, 0, none⟩) 2 zf := rdI_two (heap_alloc_new _ _)
theorem KB.below {w wr w' a : World} {lab : Nat → Nat} {r gE i : Nat} (h : KInv w wr lab r gE i ∧ Below a.heap.size a wr) (hb : Below wr.heap.size wr w') : KInv w w' lab r gE i ∧ Below a.heap.size a w' :=
  ⟨h.1.below hb (fun _ _ => rfl), h.2.trans (hb.mono h.2.size)⟩
theorem KC.below {w wr w' a : World} {lab : Nat → Nat} {r gE i gp : Nat} {o : Obj} (h : (KInv w wr lab r gE i ∧ Below a.heap.size a wr) ∧ wr.heap[gp]? = some o) (hb : Below wr.heap.size wr w') : (KInv w w' lab r gE i ∧ Below a.heap.size a w') ∧ w'.heap[gp]? = some o :=
  ⟨KB.below h.1 hb, (hb.block gp (Array.getElem?_eq_some_iff.1 h.2).1).trans h.2⟩
theorem rdE_lit (w : World) (f : Nat → Nat × Nat × Bool) (n : Nat) : RdE (w.alloc (.cells (evCs f n).toArray 41)) (some ⟨w.heap.size, 0, none⟩) n f := fun _ => by
  refine ⟨w.heap.size, rfl, by simp, fun i hi => ?_⟩
  obtain ⟨e1, e2, e3⟩ := evCs_get f n i hi
  rw [cell_of_row _ _ _ _ 41 (0, 0) (heap_alloc_new w _), cell_of_row _ _ _ _ 41 (0, 0) (heap_alloc_new w _), cell_of_row _ _ _ _ 41 (0, 0) (heap_alloc_new w _)]
  exact ⟨by rw [← e1]; simp, by rw [← e2]; simp, by rw [← e3]; simp⟩
theorem rdI_four (w : World) : RdI (w.alloc (.cells #[.int .i64 0, .int .i64 0, .int .i64 0, .int .i64 1] 3)) (some ⟨w.heap.size, 0, none⟩) 4 exPar := fun _ => by
  refine ⟨w.heap.size, 0, rfl, by simp, fun i hi => ?_⟩
  rw [cell_of_row _ _ _ _ 3 (0, 0) (heap_alloc_new w _)]
  match i, hi with
  | 0, _ => rfl
  | 1, _ => rfl
  | 2, _ => rfl
  | 3, _ => rfl

set_option maxHeartbeats 20000000 in
set_option maxRecDepth 100000 in
theorem known_law (w : World) :
    Calls Try.prog 8 #[] w fun e w' => e = .returned (.bool true) ∧ Below w.heap.size w w' := by
  have hnil := fun wx => Lib.run_eql_slice_nil (P := Try.prog) wx 22 3 none 0 0 0 0 Try.underlying22
  simp only [Option.isNone] at hnil
  go_enter Try.func8, Try.ntmps8
  go_wp2_with fail
  refine (works_any w).mono ?_
  rintro e w1 ⟨rfl, hb1⟩
  have HB1 := Lib.hid hb1
  have hb2 : Below w1.heap.size w1 (w1.alloc (.cells #[.int .i64 0, .int .i64 0, .int .i64 0, .int .i64 1] 3)) := (Below.refl _ _).alloc (Nat.le_refl _) _
  have HN := Lib.hid (new_rn (c := 4) (wk := 1) (fun _ => 100) 1 (by decide) (fun _ _ => by decide) (by decide) (rdI_four w1))
  have HB2 := Lib.hid (hb1.trans (hb2.mono hb1.size))
  clear hb1 hb2
  go_wp2_with fail
  refine HN.out.mono ?_
  rintro e w2 (⟨_, r, lab, rfl, hr, hl, hb3⟩ | ⟨h, _⟩)
  case inr => exact absurd good4 h
  have HB3 := Lib.hid (HB2.out.trans (hb3.mono HB2.out.size))
  have HR3 := Lib.hid (show Rn w2 lab 1 r ex0 from hr)
  have HL := Lib.hid (fun b (hb : b < w.heap.size) => hl b (Nat.lt_of_lt_of_le hb HB2.out.size))
  have HRD := Lib.hid (show Rn w2 lab 1 r ex0 from hr).Ready
  clear hr hl hb3 HN HB1 HB2
  go_wp2_with fail
  refine HRD.out.mono ?_
  rintro e w4 ⟨v, rfl, ho, hb⟩
  rw [ex0_readies] at ho
  obtain ⟨g1, cp1, rfl⟩ := own_form ho (by decide)
  have hr6 := HR3.out.keep hb
  have hb5 : Below w4.heap.size w4 (w4.alloc (.cells #[.int .i64 0] 3)) := (Below.refl _ _).alloc (Nat.le_refl _) _
  have HE1 := Lib.hid (equal_lists (some ⟨g1, 0, none⟩) (some ⟨w4.heap.size, 0, none⟩) 1 1 cp1 1 [0] [0] (w4.alloc (.cells #[.int .i64 0] 3)) ((RdL.of_own ho).below hb5 (Nat.le_refl _)) (RdL.lit w4 [0] 3) rfl rfl (by decide) (by decide))
  have HR4 := Lib.hid (hr6.keep hb5)
  have HB4 := Lib.hid ((HB3.out.trans (hb.mono HB3.out.size)).trans (hb5.mono (by have := HB3.out.size; have := hb.size; omega)))
  clear ho hb hb5 hr6 HR3 HRD HB3
  go_wp2_with fail
  refine HE1.out.mono ?_
  rintro e w5 ⟨rfl, j5, rfl⟩
  have HR5 := Lib.hid ((HR4.out.keep (below_drewN (Below.refl _ _) j5)))
  have HB5 := Lib.hid (below_drewN HB4.out j5)
  have HOP := Lib.hid HR5.out.Open
  clear HR4 HB4 HE1
  go_wp2_with fail
  refine HOP.out.mono ?_
  rintro e w6 ⟨v, rfl, ho, hb⟩
  rw [ex0_opens] at ho
  obtain ⟨g2, cp2, rfl⟩ := own_form ho (by decide)
  have hr7 := HR5.out.keep hb
  have hb5 : Below w6.heap.size w6 (w6.alloc (.cells #[.int .i64 0] 3)) := (Below.refl _ _).alloc (Nat.le_refl _) _
  have HE2 := Lib.hid (equal_lists (some ⟨g2, 0, none⟩) (some ⟨w6.heap.size, 0, none⟩) 1 1 cp2 1 [0] [0] (w6.alloc (.cells #[.int .i64 0] 3)) ((RdL.of_own ho).below hb5 (Nat.le_refl _)) (RdL.lit w6 [0] 3) rfl rfl (by decide) (by decide))
  have HR7 := Lib.hid (hr7.keep hb5)
  have HB7 := Lib.hid ((HB5.out.trans (hb.mono HB5.out.size)).trans (hb5.mono (by have := HB5.out.size; have := hb.size; omega)))
  clear ho hb hb5 hr7 HR5 HOP HB5
  go_wp2_with fail
  refine HE2.out.mono ?_
  rintro e w7 ⟨rfl, j7, rfl⟩
  have HR8 := Lib.hid (HR7.out.keep (below_drewN (Below.refl _ _) j7))
  have HB8 := Lib.hid (below_drewN HB7.out j7)
  clear HR7 HB7 HE2
  generalize (w6.alloc (.cells #[.int .i64 0] 3)).drewN j7 = w8 at *
  have hal := HR8.out.Alive
  have hmv := HR8.out.Moves
  have hdn := HR8.out.Done
  rw [ex0_alive] at hal
  rw [ex0_mov] at hmv
  rw [ex0_fin] at hdn
  have HAL := Lib.hid hal
  have HMV := Lib.hid hmv
  have HDN := Lib.hid hdn
  clear hal hmv hdn
  go_wp2_with fail
  refine HAL.out.mono ?_
  rintro e w9 ⟨rfl, hw⟩
  subst hw
  go_wp2_with fail
  refine HDN.out.mono ?_
  rintro e w9 ⟨rfl, hw⟩
  subst hw
  go_wp2_with fail
  refine HMV.out.mono ?_
  rintro e w9 ⟨rfl, hw⟩
  subst hw
  clear HAL HDN HMV
  have HT : Hid (∃ lab', KInv w (w8.alloc (.cells evLit 41)) lab' r w8.heap.size 0) :=
    Lib.hid ⟨fun b => if b < w8.heap.size then lab b else 100, {
      bel := HB8.out.alloc HB8.out.size _
      run := HR8.out.below ((Below.refl _ _).alloc (Nat.le_refl _) _) (fun b hb => by simp [hb])
      old := fun b hb => by
        rw [if_pos (Nat.lt_of_lt_of_le hb HB8.out.size)]; exact HL.out b hb
      lE := by simp
      blk := heap_alloc_new _ _ }⟩
  clear HR8 HB8 HL
  go_wp2_with fail
  go_loopw [68] (fun i wr => Hid (∃ (k : Nat) (lab : Nat → Nat), k ≤ 5 ∧ i = .int .i64 (k : Nat) ∧ KInv w wr lab r w8.heap.size k)) (fun i _ => 5 - (intOf i).toNat)
  case atStart =>
    obtain ⟨lab', h⟩ := HT.out
    exact ⟨0, lab', by decide, rfl, h⟩
  case round =>
    clear HT
    obtain ⟨k, labk, hk, rfl, hK⟩ := hrel.out
    clear hrel
    generalize w8.heap.size = gE at *
    rcases (show k = 0 ∨ k = 1 ∨ k = 2 ∨ k = 3 ∨ k = 4 ∨ k = 5 by omega) with rfl | rfl | rfl | rfl | rfl | rfl
    case inr.inr.inr.inr.inr =>
      have hs0 : Below wr.heap.size wr (wr.alloc (.cells #[.int .i64 0, .int .i64 0] 3)) := (Below.refl _ _).alloc (Nat.le_refl _) _
      have HPY := Lib.hid (play_any (some ⟨wr.heap.size, 0, none⟩) 2 2 1 none 0 0 zf zf (wr.alloc (.cells #[.int .i64 0, .int .i64 0] 3)) (by decide) (by decide) (zf2 wr) (fun h => absurd h (by decide)))
      have HK1 := Lib.hid (hK.below hs0 (fun _ _ => rfl))
      clear hs0 hK
      go_wp2_with fail
      refine HPY.out.mono ?_
      rintro e w9 ⟨hb9, hcs⟩
      rcases hcs with ⟨_, v9, rfl, ho9⟩ | ⟨h, _⟩
      rotate_left
      · exact absurd good2 h
      have ho9' : w9.ownsRow _ 41 3 v9 3 (evCs (G.evTo (G.init 2 (thr 1) zf) 0 zf) 3) := ho9
      obtain ⟨A9, c9, hv9, _, _, hrd9⟩ := own_rdE ho9'
      subst hv9
      have HRD9 := Lib.hid hrd9
      have HK9 : Hid (KInv w w9 labk r gE 5 ∧ Below w9.heap.size w9 w9) := ⟨HK1.out.below hb9 (fun _ _ => rfl), Below.refl _ _⟩
      clear ho9 ho9' hrd9 HK1 HPY hb9
      have hs1 : Below w9.heap.size w9 (w9.alloc (.cells #[.int .i64 0, .int .i64 0, .int .i64 0, .int .i64 1] 3)) := (Below.refl _ _).alloc (Nat.le_refl _) _
      have HP1 := Lib.hid (pair_any (some ⟨w9.heap.size, 0, none⟩) 4 4 1 exPar _ (by decide) (rdI_four w9))
      have HK10 := Lib.hid (KB.below HK9.out hs1)
      clear hs1
      go_wp2_with fail
      refine HP1.out.mono ?_
      rintro e w10 ⟨hb10, hcs⟩
      rcases hcs with ⟨h, _⟩ | ⟨_, h, _⟩ | ⟨_, _, gp, hgp, rfl, hpb⟩
      · exact absurd good4 h
      · exact absurd kids4 (Nat.not_le_of_lt h)
      have HK11 : Hid ((KInv w w10 labk r gE 5 ∧ Below w9.heap.size w9 w10) ∧ w10.heap[gp]? = some (.cells #[.int .i64 0, .int .i64 0] 3)) := ⟨KB.below HK10.out hb10, hpb⟩
      clear HP1 hb10 hpb HK9
      have hs2 : Below w10.heap.size w10 (w10.alloc (.cells #[.int .i64 0, .int .i64 0] 3)) := (Below.refl _ _).alloc (Nat.le_refl _) _
      have HP2 := Lib.hid (pair_any (some ⟨w10.heap.size, 0, none⟩) 2 2 2 zf _ (by decide) (zf2 w10))
      have HK12 := Lib.hid (KC.below HK11.out hs2)
      clear hs2 HK10
      go_wp2_with fail
      refine HP2.out.mono ?_
      rintro e w11 ⟨hb11, hcs⟩
      rcases hcs with ⟨h, _⟩ | ⟨_, _, rfl⟩ | ⟨_, h, _⟩
      · exact absurd good2 h
      rotate_left
      · exact absurd kids2 (Nat.not_lt_of_le h)
      have HK13 := Lib.hid (KC.below HK12.out hb11)
      clear HP2 hb11 HK11
      have hs3 : Below w11.heap.size w11 (w11.alloc (.cells #[.int .i64 0, .int .i64 1] 3)) := (Below.refl _ _).alloc (Nat.le_refl _) _
      have HN2 := Lib.hid (new_rn (w := w11.alloc (.cells #[.int .i64 0, .int .i64 1] 3)) (A := some ⟨w11.heap.size, 0, none⟩) (n := 2) (c := 2) (wk := 2) (f := badf) (fun _ => 100) 1 (by decide) (fun _ _ => by decide) (by decide) (rdI_two' w11 0 1))
      have HK14 := Lib.hid (KC.below HK13.out hs3)
      clear hs3 HK12
      go_wp2_with fail
      refine HN2.out.mono ?_
      rintro e w12 (⟨h, _⟩ | ⟨_, rfl, hb12⟩)
      · exact absurd h bad2
      have HK15 := Lib.hid (KC.below HK14.out hb12)
      clear HN2 hb12 HK13
      have HN3 := Lib.hid (new_rn (w := w12) (A := none) (n := 0) (c := 0) (wk := 2) (f := zf) (fun _ => 100) 1 (by decide) (fun _ _ => by decide) (by decide) (fun h => absurd h (by decide)))
      go_wp2_with fail
      refine HN3.out.mono ?_
      rintro e w13 (⟨h, _⟩ | ⟨_, rfl, hb13⟩)
      · exact absurd h (bad0 _)
      have HK16 := Lib.hid (KC.below HK15.out hb13)
      clear HN3 hb13 HK14 HK15
      have HS1 := Lib.hid (step_nil 0 w13)
      go_wp2_with fail
      refine HS1.out.mono ?_
      rintro e w14 ⟨rfl, hb14⟩
      unfold evV
      have HK17 := Lib.hid (KC.below HK16.out (hb14.alloc hb14.size (.cells #[.int .i64 0, .int .i64 0, .bool false] 41)))
      clear HS1 hb14 HK16
      have HS2 := Lib.hid (HK17.out.1.1.run.StepNo 9 exS5_rdy9)
      go_wp2_with fail
      refine HS2.out.mono ?_
      rintro e w15 ⟨rfl, hb15⟩
      unfold evV
      have HK18 := Lib.hid (KC.below HK17.out (hb15.alloc hb15.size (.cells #[.int .i64 0, .int .i64 0, .bool false] 41)))
      clear HS2 hb15 HK17
      have hs5 : Below w15.heap.size w15 w15 := Below.refl _ _
      have hEL := rdE_lit (w15.alloc (.cells #[.int .i64 0, .int .i64 0, .bool false] 41)) (G.evTo (G.init 2 (thr 1) zf) 0 zf) 3
      rw [play2] at hEL
      have HK19 := Lib.hid (KC.below HK18.out ((Below.refl _ _).alloc (Nat.le_refl _) (.cells #[.int .i64 1, .int .i64 1, .bool false, .int .i64 1, .int .i64 1, .bool true, .int .i64 0, .int .i64 0, .bool true] 41)))
      have HEQ := Lib.hid (equalEv_any A9 (some ⟨w15.heap.size + 1, 0, none⟩) 3 c9 3 _ _ (HRD9.out.below HK19.out.1.2) (by rw [show w15.heap.size + 1 = (w15.alloc (.cells #[.int .i64 0, .int .i64 0, .bool false] 41)).heap.size from (World.size_alloc _ _).symm]; exact hEL) (by decide))
      clear hs5 hEL HK18 HRD9
      go_wp2_with fail
      refine HEQ.out.mono ?_
      rintro e w16 ⟨rfl, q16, rfl⟩
      have HK20 := Lib.hid (KC.below HK19.out (below_drewN (Below.refl _ _) q16))
      clear HEQ HK19
      generalize World.drewN _ q16 = w16 at *
      have HK21 := Lib.hid (KC.below HK20.out ((Below.refl _ _).alloc (Nat.le_refl _) (.cells #[.int .i64 0, .int .i64 0] 3)))
      have HEQ2 := Lib.hid (equal_ints (some ⟨gp, 0, none⟩) (some ⟨w16.heap.size, 0, none⟩) 2 2 2 2 (fun _ => 0) (fun _ => 0) (w16.alloc (.cells #[.int .i64 0, .int .i64 0] 3)) (rdI_two HK21.out.2) (rdI_two (heap_alloc_new _ _)) (by decide) (by decide))
      go_wp2_with fail
      refine HEQ2.out.mono ?_
      rintro e w17 ⟨rfl, q17, rfl⟩
      rw [show eqI 2 2 (fun _ => 0) (fun _ => 0) = true from rfl]
      have HBL := Lib.hid (below_drewN HK21.out.1.1.bel q17)
      clear HEQ2 HK21 HK20
      generalize World.drewN _ q17 = w18 at *
      go_wp2_with fail
      refine (Ready_nil w18).mono ?_
      rintro e w19 ⟨rfl, hw⟩
      subst hw
      go_wp2_with fail
      refine (Open_nil w18).mono ?_
      rintro e w19 ⟨rfl, hw⟩
      subst hw
      go_wp2_with fail
      refine (alive_nil w18).mono ?_
      rintro e w19 ⟨rfl, hw⟩
      subst hw
      go_wp2_with fail
      refine (moves_nil w18).mono ?_
      rintro e w19 ⟨rfl, hw⟩
      subst hw
      go_wp2_with fail
      refine (done_nil w18).mono ?_
      rintro e w19 ⟨rfl, hw⟩
      subst hw
      go_wp2_with fail
      refine (copy_nil w18).mono ?_
      rintro e w19 ⟨rfl, hw⟩
      subst hw
      go_wp2_with fail
      go_ret
      exact ⟨rfl, HBL.out⟩
    --<ARM
    case inl =>
      have e0 := hK.cell 0
      have e1 := hK.cell 1
      have e2 := hK.cell 2
      change wr.cell? _ = some (.int .i64 1) at e0
      change wr.cell? _ = some (.int .i64 1) at e1
      change wr.cell? _ = some (.bool false) at e2
      obtain ⟨lab2, hK2, hl4⟩ := hK.two (.cells #[.int .i64 1, .int .i64 1, .bool false] 41) (.cells #[.int .i64 0, .int .i64 0, .int .i64 1, .int .i64 1, .int .i64 1] 3)
      have hs := hK2.run.Step (exT 0) (exS_rdy 0 (by decide))
      rw [show exT 0 = 0 from rfl, exS_move0] at hs
      have HS := Lib.hid hs
      have HK2 := Lib.hid hK2
      clear hs hK2 hK
      go_wp2_with fail
      refine HS.out.mono ?_
      rintro e w9 ⟨rfl, hk9, lab9, hl9, hr9⟩
      have hblk : w9.heap[wr.heap.size]? = some (.cells #[.int .i64 1, .int .i64 1, .bool false] 41) := (hk9.block _ (by simp; omega) (by rw [hl4]; decide)).trans (two_blk _ _ _)
      have HK9 := Lib.hid ((HK2.out.step hk9 hl9 hr9).below ((Below.refl _ _).alloc (Nat.le_refl _) (.cells #[.int .i64 1, .int .i64 1, .bool false] 41)) (fun _ _ => rfl))
      have hlt : wr.heap.size < w9.heap.size := (Array.getElem?_eq_some_iff.1 hblk).1
      have c0 : ∀ o, (w9.alloc o).cell? ⟨wr.heap.size, 0, none⟩ = some (.int .i64 1) := fun o => (World.cell?_alloc_lt _ _ _ hlt).trans (cell_of_row w9 _ 0 _ 41 (0, 0) hblk)
      have c1 : ∀ o, (w9.alloc o).cell? ⟨wr.heap.size, 1, none⟩ = some (.int .i64 1) := fun o => (World.cell?_alloc_lt _ _ _ hlt).trans (cell_of_row w9 _ 1 _ 41 (0, 0) hblk)
      have c2 : ∀ o, (w9.alloc o).cell? ⟨wr.heap.size, 2, none⟩ = some (.bool false) := fun o => (World.cell?_alloc_lt _ _ _ hlt).trans (cell_of_row w9 _ 2 _ 41 (0, 0) hblk)
      unfold evV
      clear hk9 hl9 hr9 hblk HK2 HS hl4 e0 e1 e2
      go_wp2_with fail
      exact ⟨⟨1, lab9, by decide, by go_num, HK9.out⟩, by simp [intOf]⟩
    case inr.inl =>
      have e0 := hK.cell 3
      have e1 := hK.cell 4
      have e2 := hK.cell 5
      change wr.cell? _ = some (.int .i64 0) at e0
      change wr.cell? _ = some (.int .i64 2) at e1
      change wr.cell? _ = some (.bool false) at e2
      obtain ⟨lab2, hK2, hl4⟩ := hK.two (.cells #[.int .i64 0, .int .i64 2, .bool false] 41) (.cells #[.int .i64 0, .int .i64 0, .int .i64 1, .int .i64 1, .int .i64 1] 3)
      have hs := hK2.run.Step (exT 1) (exS_rdy 1 (by decide))
      rw [show exT 1 = 0 from rfl, exS_move1] at hs
      have HS := Lib.hid hs
      have HK2 := Lib.hid hK2
      clear hs hK2 hK
      go_wp2_with fail
      refine HS.out.mono ?_
      rintro e w9 ⟨rfl, hk9, lab9, hl9, hr9⟩
      have hblk : w9.heap[wr.heap.size]? = some (.cells #[.int .i64 0, .int .i64 2, .bool false] 41) := (hk9.block _ (by simp; omega) (by rw [hl4]; decide)).trans (two_blk _ _ _)
      have HK9 := Lib.hid ((HK2.out.step hk9 hl9 hr9).below ((Below.refl _ _).alloc (Nat.le_refl _) (.cells #[.int .i64 0, .int .i64 2, .bool false] 41)) (fun _ _ => rfl))
      have hlt : wr.heap.size < w9.heap.size := (Array.getElem?_eq_some_iff.1 hblk).1
      have c0 : ∀ o, (w9.alloc o).cell? ⟨wr.heap.size, 0, none⟩ = some (.int .i64 0) := fun o => (World.cell?_alloc_lt _ _ _ hlt).trans (cell_of_row w9 _ 0 _ 41 (0, 0) hblk)
      have c1 : ∀ o, (w9.alloc o).cell? ⟨wr.heap.size, 1, none⟩ = some (.int .i64 2) := fun o => (World.cell?_alloc_lt _ _ _ hlt).trans (cell_of_row w9 _ 1 _ 41 (0, 0) hblk)
      have c2 : ∀ o, (w9.alloc o).cell? ⟨wr.heap.size, 2, none⟩ = some (.bool false) := fun o => (World.cell?_alloc_lt _ _ _ hlt).trans (cell_of_row w9 _ 2 _ 41 (0, 0) hblk)
      unfold evV
      clear hk9 hl9 hr9 hblk HK2 HS hl4 e0 e1 e2
      go_wp2_with fail
      exact ⟨⟨2, lab9, by decide, by go_num, HK9.out⟩, by simp [intOf]⟩
    case inr.inr.inl =>
      have e0 := hK.cell 6
      have e1 := hK.cell 7
      have e2 := hK.cell 8
      change wr.cell? _ = some (.int .i64 1) at e0
      change wr.cell? _ = some (.int .i64 3) at e1
      change wr.cell? _ = some (.bool false) at e2
      obtain ⟨lab2, hK2, hl4⟩ := hK.two (.cells #[.int .i64 1, .int .i64 3, .bool false] 41) (.cells #[.int .i64 0, .int .i64 0, .int .i64 1, .int .i64 1, .int .i64 1] 3)
      have hs := hK2.run.Step (exT 2) (exS_rdy 2 (by decide))
      rw [show exT 2 = 1 from rfl, exS_move2] at hs
      have HS := Lib.hid hs
      have HK2 := Lib.hid hK2
      clear hs hK2 hK
      go_wp2_with fail
      refine HS.out.mono ?_
      rintro e w9 ⟨rfl, hk9, lab9, hl9, hr9⟩
      have hblk : w9.heap[wr.heap.size]? = some (.cells #[.int .i64 1, .int .i64 3, .bool false] 41) := (hk9.block _ (by simp; omega) (by rw [hl4]; decide)).trans (two_blk _ _ _)
      have HK9 := Lib.hid ((HK2.out.step hk9 hl9 hr9).below ((Below.refl _ _).alloc (Nat.le_refl _) (.cells #[.int .i64 1, .int .i64 3, .bool false] 41)) (fun _ _ => rfl))
      have hlt : wr.heap.size < w9.heap.size := (Array.getElem?_eq_some_iff.1 hblk).1
      have c0 : ∀ o, (w9.alloc o).cell? ⟨wr.heap.size, 0, none⟩ = some (.int .i64 1) := fun o => (World.cell?_alloc_lt _ _ _ hlt).trans (cell_of_row w9 _ 0 _ 41 (0, 0) hblk)
      have c1 : ∀ o, (w9.alloc o).cell? ⟨wr.heap.size, 1, none⟩ = some (.int .i64 3) := fun o => (World.cell?_alloc_lt _ _ _ hlt).trans (cell_of_row w9 _ 1 _ 41 (0, 0) hblk)
      have c2 : ∀ o, (w9.alloc o).cell? ⟨wr.heap.size, 2, none⟩ = some (.bool false) := fun o => (World.cell?_alloc_lt _ _ _ hlt).trans (cell_of_row w9 _ 2 _ 41 (0, 0) hblk)
      unfold evV
      clear hk9 hl9 hr9 hblk HK2 HS hl4 e0 e1 e2
      go_wp2_with fail
      exact ⟨⟨3, lab9, by decide, by go_num, HK9.out⟩, by simp [intOf]⟩
    case inr.inr.inr.inl =>
      have e0 := hK.cell 9
      have e1 := hK.cell 10
      have e2 := hK.cell 11
      change wr.cell? _ = some (.int .i64 1) at e0
      change wr.cell? _ = some (.int .i64 3) at e1
      change wr.cell? _ = some (.bool true) at e2
      obtain ⟨lab2, hK2, hl4⟩ := hK.two (.cells #[.int .i64 1, .int .i64 3, .bool true] 41) (.cells #[.int .i64 0, .int .i64 0, .int .i64 1, .int .i64 1, .int .i64 1] 3)
      have hs := hK2.run.Step (exT 3) (exS_rdy 3 (by decide))
      rw [show exT 3 = 1 from rfl, exS_move3] at hs
      have HS := Lib.hid hs
      have HK2 := Lib.hid hK2
      clear hs hK2 hK
      go_wp2_with fail
      refine HS.out.mono ?_
      rintro e w9 ⟨rfl, hk9, lab9, hl9, hr9⟩
      have hblk : w9.heap[wr.heap.size]? = some (.cells #[.int .i64 1, .int .i64 3, .bool true] 41) := (hk9.block _ (by simp; omega) (by rw [hl4]; decide)).trans (two_blk _ _ _)
      have HK9 := Lib.hid ((HK2.out.step hk9 hl9 hr9).below ((Below.refl _ _).alloc (Nat.le_refl _) (.cells #[.int .i64 1, .int .i64 3, .bool true] 41)) (fun _ _ => rfl))
      have hlt : wr.heap.size < w9.heap.size := (Array.getElem?_eq_some_iff.1 hblk).1
      have c0 : ∀ o, (w9.alloc o).cell? ⟨wr.heap.size, 0, none⟩ = some (.int .i64 1) := fun o => (World.cell?_alloc_lt _ _ _ hlt).trans (cell_of_row w9 _ 0 _ 41 (0, 0) hblk)
      have c1 : ∀ o, (w9.alloc o).cell? ⟨wr.heap.size, 1, none⟩ = some (.int .i64 3) := fun o => (World.cell?_alloc_lt _ _ _ hlt).trans (cell_of_row w9 _ 1 _ 41 (0, 0) hblk)
      have c2 : ∀ o, (w9.alloc o).cell? ⟨wr.heap.size, 2, none⟩ = some (.bool true) := fun o => (World.cell?_alloc_lt _ _ _ hlt).trans (cell_of_row w9 _ 2 _ 41 (0, 0) hblk)
      unfold evV
      clear hk9 hl9 hr9 hblk HK2 HS hl4 e0 e1 e2
      go_wp2_with fail
      exact ⟨⟨4, lab9, by decide, by go_num, HK9.out⟩, by simp [intOf]⟩
    case inr.inr.inr.inr.inl =>
      have e0 := hK.cell 12
      have e1 := hK.cell 13
      have e2 := hK.cell 14
      change wr.cell? _ = some (.int .i64 1) at e0
      change wr.cell? _ = some (.int .i64 1) at e1
      change wr.cell? _ = some (.bool true) at e2
      obtain ⟨lab2, hK2, hl4⟩ := hK.two (.cells #[.int .i64 1, .int .i64 1, .bool true] 41) (.cells #[.int .i64 0, .int .i64 0, .int .i64 1, .int .i64 1, .int .i64 1] 3)
      have hs := hK2.run.Step (exT 4) (exS_rdy 4 (by decide))
      rw [show exT 4 = 1 from rfl, exS_move4] at hs
      have HS := Lib.hid hs
      have HK2 := Lib.hid hK2
      clear hs hK2 hK
      go_wp2_with fail
      refine HS.out.mono ?_
      rintro e w9 ⟨rfl, hk9, lab9, hl9, hr9⟩
      have hblk : w9.heap[wr.heap.size]? = some (.cells #[.int .i64 1, .int .i64 1, .bool true] 41) := (hk9.block _ (by simp; omega) (by rw [hl4]; decide)).trans (two_blk _ _ _)
      have HK9 := Lib.hid ((HK2.out.step hk9 hl9 hr9).below ((Below.refl _ _).alloc (Nat.le_refl _) (.cells #[.int .i64 1, .int .i64 1, .bool true] 41)) (fun _ _ => rfl))
      have hlt : wr.heap.size < w9.heap.size := (Array.getElem?_eq_some_iff.1 hblk).1
      have c0 : ∀ o, (w9.alloc o).cell? ⟨wr.heap.size, 0, none⟩ = some (.int .i64 1) := fun o => (World.cell?_alloc_lt _ _ _ hlt).trans (cell_of_row w9 _ 0 _ 41 (0, 0) hblk)
      have c1 : ∀ o, (w9.alloc o).cell? ⟨wr.heap.size, 1, none⟩ = some (.int .i64 1) := fun o => (World.cell?_alloc_lt _ _ _ hlt).trans (cell_of_row w9 _ 1 _ 41 (0, 0) hblk)
      have c2 : ∀ o, (w9.alloc o).cell? ⟨wr.heap.size, 2, none⟩ = some (.bool true) := fun o => (World.cell?_alloc_lt _ _ _ hlt).trans (cell_of_row w9 _ 2 _ 41 (0, 0) hblk)
      unfold evV
      clear hk9 hl9 hr9 hblk HK2 HS hl4 e0 e1 e2
      go_wp2_with fail
      exact ⟨⟨5, lab9, by decide, by go_num, HK9.out⟩, by simp [intOf]⟩
    -->ARM
end Go.Proofs.Ytlncdkdkoamadaa
