/-
  WALKS: all schedules from a state on (the law ModelAll's own function).
-/
import Derived.Test.YtlncdkdkoamadaaRn
import Derived.Test.YtlncdkdkoamadaaPureE
namespace Go.Proofs.Ytlncdkdkoamadaa
open Go.RowKit

/-- A block of one number. -/
def OneInt (w : World) (b : Nat) : Prop := ∃ y : Int, w.heap[b]? = some (.cells #[.int .i64 y] 3 (0, 0))
/-- The label of one block. -/
def lab1 (lb : Nat) : Nat → Nat := fun b => if b = lb then 1 else 0
/-- What all answers. -/
def AllOut (w : World) (lb : Nat) (e : Ending) (w' : World) : Prop := e = .returned (.bool true) ∧ OneInt w' lb ∧ Keeps (lab1 lb) 1 w w'

theorem OneInt.below {w w' : World} {lb : Nat} (h : OneInt w lb) (hb : Below w.heap.size w w') : OneInt w' lb := by
  obtain ⟨y, hy⟩ := h
  exact ⟨y, (hb.block lb (Array.getElem?_eq_some_iff.1 hy).1).trans hy⟩
theorem Keeps.one {w w' : World} {lab : Nat → Nat} {k : Nat} (h : Keeps lab k w w') (hn : ∀ b, b < w.heap.size → lab b ≠ k) : Below w.heap.size w w' := h.below (Nat.le_refl _) hn

/-- At the head of a round: the run as it was, the count somewhere, all else as it was. -/
structure AInv (w wr : World) (lab : Nat → Nat) (r : Nat) (s : G) (lb : Nat) : Prop where
  run : Rn wr lab 1 r s
  lft : OneInt wr lb
  kp : Keeps (lab1 lb) 1 w wr

/-- Canonical labels for the copy. -/
def canon (k : Nat) (lab : Nat → Nat) : Nat → Nat := fun b => if lab b = 0 then 0 else if lab b = k then 1 else 2

section
variable {w wr w1 w2 w3 W : World} {lab lab' : Nat → Nat} {r rc lb : Nat} {s : G} {t : Nat}
/-- Behind a round: the copy has been made and gone through. -/
theorem AInv.next (h : AInv w wr lab r s lb) (hlb : lab lb = 2) (hw : lb < w.heap.size) (hc : Below wr.heap.size wr w3) (ha : Keeps (lab1 lb) 1 w3 W) (hl : OneInt W lb) (hlw : lb < wr.heap.size) : AInv w W lab r s lb := by
  have hs := hc.size
  refine ⟨?_, hl, ?_⟩
  · refine (h.run.keep hc).frame (fun b hb hl => ha.block b hb (fun e => ?_)) (fun _ _ => rfl)
    have : b = lb := by
      unfold lab1 at e
      by_cases h : b = lb
      · exact h
      · rw [if_neg h] at e; cases e
    subst this
    omega
  · exact (h.kp.below_trans hc).trans ha (fun _ _ => rfl)
theorem copy_step {w4 : World} {lab4 : Nat → Nat} {o : Obj} (h : AInv w wr lab r s lb) (hlb : lab lb = 2) (hl2 : ∀ b, lab b ≤ 2) (hb : Below wr.heap.size wr w3) (hk : Keeps (relab lab wr.heap.size 3) 3 w3 w4)
    (hr4 : Rn w4 lab4 3 rc (s.step t)) (hl4 : ∀ b, b < w3.heap.size → lab4 b = relab lab wr.heap.size 3 b) :
    Below wr.heap.size wr (w4.alloc o) ∧ Rn (w4.alloc o) (canon 3 lab4) 1 rc (s.step t) ∧ canon 3 lab4 lb = 2 ∧ (∀ b, canon 3 lab4 b ≤ 2) ∧ OneInt (w4.alloc o) lb := by
  obtain ⟨y, hy⟩ := h.lft
  have hlw : lb < wr.heap.size := (Array.getElem?_eq_some_iff.1 hy).1
  have hb4 : Below wr.heap.size wr w4 := hb.trans (hk.below hb.size (fun x hx => by rw [relab_lt hx]; have := hl2 x; omega))
  have hb5 := hb4.alloc hb4.size o
  have h4lb : lab4 lb = 2 := by rw [hl4 lb (Nat.lt_of_lt_of_le hlw hb.size), relab_lt hlw]; exact hlb
  refine ⟨hb5, (hr4.keep ((Below.refl _ _).alloc (Nat.le_refl _) o)).rekey (by decide) (fun g hg => by unfold canon; rw [hg]; decide) (fun g hg => by unfold canon; rw [hg]; decide), by unfold canon; rw [h4lb]; decide, fun b => ?_, y, (hb5.block lb hlw).trans hy⟩
  unfold canon
  split
  · omega
  · split <;> omega
theorem OneInt.cell (h : OneInt w lb) : ∃ y, w.cell? ⟨lb, 0, none⟩ = some (.int .i64 y) ∧ w.frozen? ⟨lb, 0, none⟩ = false ∧ w.heap[lb]? = some (.cells #[.int .i64 y] 3 (0, 0)) := by
  obtain ⟨y, hy⟩ := h
  exact ⟨y, cell_of_row w lb 0 _ 3 (0, 0) hy, frozen_of_row w lb 0 _ 3 hy, hy⟩
end

set_option maxHeartbeats 8000000 in
set_option maxRecDepth 100000 in
theorem all_any : ∀ (m : Nat) (w : World) (lab : Nat → Nat) (r : Nat) (s : G) (lb : Nat) (W : Int), Rn w lab 1 r s → lab lb = 2 → (∀ b, lab b ≤ 2) → OneInt w lb → 2 * s.n ≤ s.mov + m → W + 1 = (s.T : Nat) →
    Calls Try.prog 26 #[.pointer (some ⟨r, 0, none⟩), .int .i64 (s.n : Nat), .int .i64 W, .pointer (some ⟨lb, 0, none⟩)] w (AllOut w lb) := by
  intro m
  induction m with
  | zero =>
    intro w lab r s lb W hr _ _ _ hm _
    exact absurd (G.mov_le hr.fit.inv) (by omega)
  | succ m ih =>
    intro w lab r s lb W hr hlb hl2 hone hm hW
    obtain ⟨y, hy, hz, hblk⟩ := hone.cell
    have IH := Lib.hid ih
    have hlbs : lb < w.heap.size := (Array.getElem?_eq_some_iff.1 hblk).1
    have hone1 : ∀ x, OneInt (w.setCell ⟨lb, 0, none⟩ (.int .i64 x)) lb := fun x => ⟨x, blk_set hblk 0 _⟩
    have hr1 := fun x => hr.setFar (p := ⟨lb, 0, none⟩) (by show lab lb ≠ 1; omega) (by show lab lb ≠ 0; omega) (.int .i64 x)
    have hk1 := fun x => (Keeps.refl (lab1 lb) 1 w).setCell (p := ⟨lb, 0, none⟩) (fun _ => by show lab1 lb lb = 1; simp [lab1]) (.int .i64 x)
    have HONE := Lib.hid hone1
    have HR1 := Lib.hid hr1
    have HK1 := Lib.hid hk1
    have hn := hr.fit.n_le
    have hT1 := hr.fit.T_ge
    have hT2 := hr.fit.T_le
    have hI := hr.fit.inv
    have hmv := G.mov_le hI
    have HLB := Lib.hid hlb
    have HL2 := Lib.hid hl2
    clear hr hone hblk ih hone1 hr1 hk1 hlb hl2
    have hal0 := G.alive_le (s := s)
    have hal : (s.alive : Int) ≤ W := by omega
    have hd1 : decide (W < (s.alive : Int)) = false := by simp; omega
    have hdone := G.done_iff hI
    have hrn := G.readies_nil hI
    have hrl := filter_range_len s.rdy s.T
    have hrt : Hid (∀ t, t ∈ s.readies → s.rdy t = true) := fun t ht => G.mem_readies ht
    have HFI := Lib.hid hI
    clear hI
    go_enter Try.func26, Try.ntmps26
    go_wp2_with fail
    · go_ret
      exact ⟨rfl, HONE.out _, HK1.out _⟩
    · have HO := Lib.hid (HONE.out (wrap64 (y - 1)))
      have HR := Lib.hid (HR1.out (wrap64 (y - 1)))
      have HK := Lib.hid (HK1.out (wrap64 (y - 1)))
      have hsz : (w.setCell ⟨lb, 0, none⟩ (.int .i64 (wrap64 (y - 1)))).heap.size = w.heap.size := by simp
      have hlb1 : lb < (w.setCell ⟨lb, 0, none⟩ (.int .i64 (wrap64 (y - 1)))).heap.size := by rw [hsz]; exact hlbs
      clear hsz
      generalize w.setCell ⟨lb, 0, none⟩ (.int .i64 (wrap64 (y - 1))) = W1 at *
      have HRY := Lib.hid HR.out.Ready
      clear HONE HR1 HK1 hy hz
      refine HRY.out.mono ?_
      rintro e w2 ⟨v, rfl, ho, hb2⟩
      have HR2 := Lib.hid (HR.out.keep hb2)
      have HO2 := Lib.hid (HO.out.below hb2)
      have HK2 := Lib.hid (HK.out.below_trans hb2)
      have hlb2 : lb < w2.heap.size := by have := hb2.size; omega
      obtain ⟨Ar, cr, rfl, _, _, hAr⟩ := own_any ho
      have HOW := Lib.hid ho
      have HAL := Lib.hid HR2.out.Alive
      have HDN := Lib.hid HR2.out.Done
      have HMV := Lib.hid HR2.out.Moves
      clear HRY HR HO HK hb2 ho hAr
      change s.readies.length ≤ s.T at hrl
      have hz1 : ((s.readies.length : Int) == 0) = s.fin 0 := by
        rw [Bool.eq_iff_iff, ← hrn, beq_iff_eq, ← List.length_eq_zero_iff]; omega
      have hz2 : ((s.mov : Int) == 2 * (s.n : Int) - 1) = s.fin 0 := by
        rw [Bool.eq_iff_iff, hdone, beq_iff_eq]; omega
      generalize hL : s.readies.length = L at *
      have HL := Lib.hid hL
      clear hL hrn hdone
      cases hf : s.fin 0
      all_goals
        rw [hf] at hz1 hz2
        go_wp2_with fail
        refine HAL.out.mono ?_
        rintro e w3 ⟨rfl, hw3⟩
        subst hw3
        go_wp2_with fail
        refine HDN.out.mono ?_
        rintro e w3 ⟨rfl, hw3⟩
        subst hw3
        rw [hf]
        go_wp2_with fail
        refine HDN.out.mono ?_
        rintro e w3 ⟨rfl, hw3⟩
        subst hw3
        rw [hf]
        go_wp2_with fail
        refine HMV.out.mono ?_
        rintro e w3 ⟨rfl, hw3⟩
        subst hw3
        clear HMV HDN HAL
        go_wp2_with fail
        go_loopw [51] (fun i wr => Hid (∃ j : Nat, j ≤ L ∧ i = .int .i64 (j : Nat) ∧ AInv w wr lab r s lb ∧ Keeps (lab1 lb) 1 w2 wr)) (fun i _ => L - (intOf i).toNat)
        case atStart => exact ⟨0, Nat.zero_le _, rfl, ⟨HR2.out, HO2.out, HK2.out⟩, Keeps.refl _ _ _⟩
        case round =>
          obtain ⟨j, hj, rfl, hA, hk2⟩ := hrel.out
          clear hrel
          by_cases hlt : j < L
          · obtain ⟨g, c', hv⟩ := own_form HOW.out (by omega)
            simp only [Value.slice.injEq] at hv
            obtain ⟨hv1, _, hv2⟩ := hv
            subst hv1
            subst hv2
            have hxt : s.readies[j]? = some (s.readies.getD j 0) := by have := HL.out; simp [List.getD, show j < s.readies.length by omega]
            have hgl := HOW.out.lt g rfl
            have kc : wr.cell? ⟨g, j, none⟩ = some (.int .i64 (s.readies.getD j 0 : Nat)) := by
              have h1 := HOW.out.cellAt j (by omega)
              rw [intl_get hxt] at h1
              rw [← h1]
              exact World.cell?_of_block (hk2.block g hgl.2 (by unfold lab1; rw [if_neg (by omega)]; decide))
            have hrd : s.rdy (s.readies.getD j 0) = true := hrt.out _ (List.mem_of_getElem? hxt)
            clear hxt hgl
            generalize s.readies.getD j 0 = t at *
            have HCP := Lib.hid (hA.run.Copy 3 (by decide))
            have HA := Lib.hid hA
            have HK := Lib.hid hk2
            clear hA hk2
            go_wp2_with fail
            refine HCP.out.mono ?_
            rintro e w3 ⟨rc, rfl, hc3, hb3⟩
            have HST := Lib.hid (hc3.Step t hrd)
            have HB3 := Lib.hid hb3
            clear hc3 hb3 HCP kc
            go_wp2_with fail
            refine HST.out.mono ?_
            rintro e w4 ⟨rfl, hk4, lab4, hl4, hr4⟩
            have HS := Lib.hid (fun o => copy_step (o := o) HA.out HLB.out HL2.out HB3.out hk4 hr4 hl4)
            have HIH : Hid (∀ o, Calls Try.prog 26 #[.pointer (some ⟨rc, 0, none⟩), .int .i64 (s.n : Nat), .int .i64 W, .pointer (some ⟨lb, 0, none⟩)] (w4.alloc o) (AllOut (w4.alloc o) lb)) := fun o => by
              obtain ⟨_, h1, h2, h3, h4⟩ := HS.out o
              have hih := IH.out (w4.alloc o) (canon 3 lab4) rc (s.step t) lb W h1 h2 h3 h4 (by rw [G.step_n, G.step_mov]; omega) (by rw [G.step_T]; exact hW)
              rw [G.step_n] at hih
              exact hih
            clear hk4 hl4 hr4 HST
            generalize (s.move t).1 = th at *
            generalize (s.move t).2.1 = nd at *
            generalize (s.move t).2.2 = en at *
            unfold evV
            go_wp2_with fail
            refine (HIH.out _).mono ?_
            rintro e w5 ⟨rfl, ho5, hk5⟩
            have HN := Lib.hid (HA.out.next HLB.out hlbs (HS.out _).1 hk5 ho5 (Array.getElem?_eq_some_iff.1 HA.out.lft.choose_spec).1)
            have HKN := Lib.hid ((HK.out.below_trans (HS.out _).1).trans hk5 (fun _ _ => rfl))
            clear HIH HS ho5 hk5 HA HK HB3
            go_wp2_with fail
            go_roundw
            case rel => exact ⟨j + 1, by omega, by go_num, HN.out, HKN.out⟩
            case measure => simp [intOf]; omega
          · have HA := Lib.hid hA
            clear hA
            go_wp2_with fail
            go_ret
            exact ⟨rfl, HA.out.lft, HA.out.kp⟩
end Go.Proofs.Ytlncdkdkoamadaa
