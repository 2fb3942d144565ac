/-
  WALKS: the reference's All, Open, Alive.
-/
import Derived.Test.YtlncdkdkoamadaaR2
namespace Go.Proofs.Ytlncdkdkoamadaa
open Go.RowKit

section
variable {w : World} {lab : Nat → Nat} {k : Nat} {R : RLay} {s : G}
set_option maxHeartbeats 1600000 in
theorem refAll_any (h : RefRaw w lab k R s) (hI : s.Inv) (hn : s.n ≤ 256) (hT : s.T ≤ 17) :
    Calls Try.prog 30 #[.pointer (some ⟨R.r, 0, none⟩)] w fun e w' => ∃ v, e = .returned v ∧ w'.ownsRow w.heap.size 3 1 v s.readies.length (intl s.readies) ∧ Below w.heap.size w w' := by
  obtain ⟨gs, cs, hv, _⟩ := h.stacks hI.thr
  have hrl := h.rlt
  obtain ⟨i0, hi, hz0, hz1, hz2⟩ := info_parts info3
  go_enter Try.func30, Try.ntmps30
  go_wp2_with fail
  go_loopw [3, 4] (fun v i wr => ∃ j : Nat, j ≤ s.T ∧ i = .int .i64 j ∧ wr.ownsRow w.heap.size 3 1 v (readyTo s j).length (intl (readyTo s j)) ∧ Below w.heap.size w wr) (fun _ i _ => s.T - (intOf i).toNat)
  case atStart => exact ⟨0, Nat.zero_le _, rfl, World.ownsRow_nil _ _ _ _, Below.refl _ _⟩
  case round =>
    obtain ⟨j, hj, rfl, hown, hbel⟩ := hrel
    have hRr := h.below hbel
    have hlen := filter_range_len s.rdy j
    have f1 := hRr.fields.2.1
    rw [hv] at f1
    by_cases hlt : j < s.T
    · have hrd := refReady_any hRr hI hn j
      have hsz := hbel.size
      have e0 : rdyI s j = s.rdy j := by simp [rdyI]
      rw [e0] at hrd
      have HV := Lib.hid hv
      have HRR := Lib.hid hRr
      clear hv hRr
      cases hb : s.rdy j with
      | true =>
        rw [hb] at hrd
        have HR := Lib.hid (show readyTo s (j + 1) = readyTo s j ++ [j] by unfold readyTo; rw [filter_range_succ]; simp [hb])
        have HT := Lib.hid hrd
        have HB := Lib.hid hb
        clear hrd hb e0
        go_wp2_with fail
        refine HT.out.mono ?_
        rintro e w' ⟨rfl, q, rfl⟩
        go_wp2_with (at_builtin; refine wpList_app1 rfl _ _ 22 rfl w.heap.size 3 i0 (.int .i64 0) 8 Try.underlying22 hi hz0 hz1 hz2 rfl (by decide) _ _ _ rfl (hown.alloc _) ⟨wr.heap.size, 0, none⟩ (.int .i64 j) rfl ?_ rfl ?_ ?_ ?_)
        all_goals first | exact cell_new1 _ _ _ | (simp; done) | (unfold readyTo; omega) | (simp; omega) | skip
        intro v1 w1 hown1 hg1 hat
        have hb1 : Below w.heap.size w w1 := ((below_drewN hbel q).alloc hsz _).grown hg1 (by simp; omega) (fun b hb => (hown.lt b hb).1)
        go_wp2
        go_roundw
        case rel => exact ⟨j + 1, by omega, by go_num, by rw [HR.out, List.length_append, intl_append]; exact hown1, hb1⟩
        case measure => simp [intOf]; omega
      | false =>
        rw [hb] at hrd
        have HR := Lib.hid (show readyTo s (j + 1) = readyTo s j by unfold readyTo; rw [filter_range_succ]; simp [hb])
        have HT := Lib.hid hrd
        have HB := Lib.hid hb
        clear hrd hb e0
        go_wp2_with fail
        refine HT.out.mono ?_
        rintro e w' ⟨rfl, q, rfl⟩
        go_wp2
        go_roundw
        case rel => exact ⟨j + 1, by omega, by go_num, by rw [HR.out]; exact hown, below_drewN hbel q⟩
        case measure => simp [intOf]; omega
    · have HR := Lib.hid (show readyTo s j = s.readies by rw [show j = s.T by omega]; rfl)
      have HV := Lib.hid hv
      clear hv hRr
      go_wp2_with fail
      go_ret
      refine ⟨_, rfl, ?_, hbel⟩
      rw [← HR.out]; exact hown

set_option maxHeartbeats 1600000 in
theorem refOpen_any (h : RefRaw w lab k R s) (hI : s.Inv) (hn : s.n ≤ 256) :
    Calls Try.prog 36 #[.pointer (some ⟨R.r, 0, none⟩)] w fun e w' => ∃ v, e = .returned v ∧ w'.ownsRow w.heap.size 3 1 v s.opens.length (intl s.opens) ∧ Below w.heap.size w w' := by
  obtain ⟨gb, cb, hvb, _, _, hbl, hcb, _⟩ := h.begs hI.tree.pos
  obtain ⟨ge, ce, hve, _, _, hel, hce, _⟩ := h.fins hI.tree.pos
  obtain ⟨f0, _, f2, f3, _⟩ := h.fields
  rw [hvb] at f2
  rw [hve] at f3
  have hrl := h.rlt
  obtain ⟨i0, hi, hz0, hz1, hz2⟩ := info_parts info3
  have HB := Lib.hid hcb
  have HE := Lib.hid hce
  clear hvb hve hcb hce
  go_enter Try.func36, Try.ntmps36
  go_wp2_with fail
  go_loopw [3, 4] (fun v i wr => ∃ j : Nat, j ≤ s.n ∧ i = .int .i64 j ∧ wr.ownsRow w.heap.size 3 1 v (openTo s j).length (intl (openTo s j)) ∧ Below w.heap.size w wr) (fun _ i _ => s.n - (intOf i).toNat)
  case atStart => exact ⟨0, Nat.zero_le _, rfl, World.ownsRow_nil _ _ _ _, Below.refl _ _⟩
  case round =>
    obtain ⟨j, hj, rfl, hown, hbel⟩ := hrel
    have hlen := filter_range_len s.opn j
    have g0 := (hbel.cell (p := ⟨R.r, 0, none⟩) hrl).trans f0
    have g2 := (hbel.cell (p := ⟨R.r, 2, none⟩) hrl).trans f2
    have g3 := (hbel.cell (p := ⟨R.r, 3, none⟩) hrl).trans f3
    by_cases hlt : j < s.n
    · have hsz := hbel.size
      have kb := (hbel.cell (p := ⟨gb, j, none⟩) hbl).trans (HB.out j hlt)
      have ke := (hbel.cell (p := ⟨ge, j, none⟩) hel).trans (HE.out j hlt)
      have no : s.opn j = false → openTo s (j + 1) = openTo s j := fun h => by unfold openTo; rw [filter_range_succ]; simp [h]
      have yes : s.opn j = true → openTo s (j + 1) = openTo s j ++ [j] := fun h => by unfold openTo; rw [filter_range_succ]; simp [h]
      cases hb : s.beg j with
      | false =>
        have HR := Lib.hid (no (by simp [G.opn, hb]))
        rw [hb] at kb
        clear hb no yes
        go_wp2_with fail
        go_roundw
        case rel => exact ⟨j + 1, by omega, by go_num, by rw [HR.out]; exact hown, hbel⟩
        case measure => simp [intOf]; omega
      | true =>
        rw [hb] at kb
        cases he : s.fin j with
        | true =>
          have HR := Lib.hid (no (by simp [G.opn, he]))
          rw [he] at ke
          clear hb he no yes
          go_wp2_with fail
          go_roundw
          case rel => exact ⟨j + 1, by omega, by go_num, by rw [HR.out]; exact hown, hbel⟩
          case measure => simp [intOf]; omega
        | false =>
          have HR := Lib.hid (yes (by simp [G.opn, hb, he]))
          rw [he] at ke
          clear hb he no yes
          go_wp2_with (at_builtin; refine wpList_app1 rfl _ _ 22 rfl w.heap.size 3 i0 (.int .i64 0) 8 Try.underlying22 hi hz0 hz1 hz2 rfl (by decide) _ _ _ rfl (hown.alloc _) ⟨wr.heap.size, 0, none⟩ (.int .i64 j) rfl ?_ rfl ?_ ?_ ?_)
          all_goals first | exact cell_new1 _ _ _ | (simp; done) | (unfold openTo; omega) | (simp; omega) | skip
          intro v1 w1 hown1 hg1 hat
          have hb1 : Below w.heap.size w w1 := (hbel.alloc hsz _).grown hg1 (by simp; omega) (fun b hb => (hown.lt b hb).1)
          go_wp2_with fail
          go_roundw
          case rel => exact ⟨j + 1, by omega, by go_num, by rw [HR.out, List.length_append, intl_append]; exact hown1, hb1⟩
          case measure => simp [intOf]; omega
    · have HR := Lib.hid (show openTo s j = s.opens by rw [show j = s.n by omega]; rfl)
      go_wp2_with fail
      go_ret
      refine ⟨_, rfl, ?_, hbel⟩
      rw [← HR.out]; exact hown

set_option maxHeartbeats 1600000 in
theorem refAlive_any (h : RefRaw w lab k R s) (hI : s.Inv) (hT : 2 ≤ s.T) (hT2 : s.T ≤ 17) :
    Calls Try.prog 37 #[.pointer (some ⟨R.r, 0, none⟩)] w fun e w' => e = .returned (.int .i64 s.alive) ∧ w = w' := by
  obtain ⟨gs, cs, hv, _, _, _, hc, _⟩ := h.stacks hI.thr
  have f1 := h.fields.2.1
  rw [hv] at f1
  have HC := Lib.hid hc
  clear hc hv
  go_enter Try.func37, Try.ntmps37
  go_wp2_with fail
  go_loop [3, 4] (fun m i => ∃ j : Nat, 1 ≤ j ∧ j ≤ s.T ∧ i = .int .i64 (j : Nat) ∧ m = .int .i64 (aliveTo s j : Nat)) (fun _ i => s.T - (intOf i).toNat)
  case atStart => exact ⟨1, Nat.le_refl _, by omega, rfl, rfl⟩
  case round =>
    obtain ⟨j, hj1, hj, rfl, rfl⟩ := hrel
    have ha := aliveTo_le s j
    by_cases hlt : j < s.T
    · have kt := HC.out j hlt
      obtain ⟨A, c, hA⟩ := h.stack hlt
      rw [hA] at kt
      have hstk := G.stk_len hI hlt
      cases hemp : (s.stk j).isEmpty with
      | true =>
        have hlen : (s.stk j).length = 0 := by simpa using hemp
        have HR := Lib.hid (show aliveTo s (j + 1) = aliveTo s j by rw [aliveTo_succ]; simp [hemp])
        rw [hlen] at kt
        clear hemp hlen hA
        go_wp2_with fail
        go_round
        case rel => exact ⟨j + 1, by omega, by omega, by go_num, by rw [HR.out]⟩
        case measure => simp [intOf]; omega
      | false =>
        have hlen : 0 < (s.stk j).length := by
          cases e : s.stk j with
          | nil => rw [e] at hemp; cases hemp
          | cons => simp
        have HR := Lib.hid (show aliveTo s (j + 1) = aliveTo s j + 1 by rw [aliveTo_succ]; simp [hemp]; omega)
        generalize (s.stk j).length = n at *
        clear hemp hA
        go_wp2_with fail
        go_round
        case rel => exact ⟨j + 1, by omega, by omega, by go_num, by rw [HR.out]; go_num⟩
        case measure => simp [intOf]; omega
    · have HR : Hid (aliveTo s j = s.alive) := by rw [show j = s.T by omega]; rfl
      go_wp2_with fail
      go_ret
      rw [HR.out]
      exact ⟨rfl, rfl⟩
end
end Go.Proofs.Ytlncdkdkoamadaa
