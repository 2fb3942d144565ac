/-
  WALKS: the reference's Ready.
-/
import Derived.Test.YtlncdkdkoamadaaR1
namespace Go.Proofs.Ytlncdkdkoamadaa
open Go.RowKit

section
variable {w : World} {lab : Nat → Nat} {k : Nat} {R : RLay} {s : G}
set_option maxHeartbeats 3200000 in
set_option maxRecDepth 100000 in
theorem refReady_any (h : RefRaw w lab k R s) (hI : s.Inv) (hn : s.n ≤ 256) (t : Int) :
    Calls Try.prog 18 #[.pointer (some ⟨R.r, 0, none⟩), .int .i64 t] w fun e w' => e = .returned (.bool (rdyI s t)) ∧ ∃ j, w.drewN j = w' := by
  obtain ⟨f0, f1, _, f3, _⟩ := h.fields
  obtain ⟨gs, cs, hvs, hT1, hT2, _, hcs, _⟩ := h.stacks hI.thr
  rw [hvs] at f1
  unfold maxLen at hT2
  by_cases h0 : t < 0
  · have e : rdyI s t = false := by unfold rdyI; rw [decide_eq_false (by omega)]; rfl
    rw [e]
    clear e h hI hcs hvs
    go_enter Try.func18, Try.ntmps18
    go_wp2_with fail
    go_ret
    exact ⟨rfl, 0, rfl⟩
  by_cases h1 : (s.T : Int) ≤ t
  · have e : rdyI s t = false := by
      unfold rdyI G.rdy
      rw [decide_eq_false (p := t.toNat < s.T) (by omega)]; simp
    rw [e]
    clear e h hI hcs hvs
    go_enter Try.func18, Try.ntmps18
    go_wp2_with fail
    go_ret
    exact ⟨rfl, 0, rfl⟩
  obtain ⟨t, rfl⟩ := Int.eq_ofNat_of_zero_le (show 0 ≤ t by omega)
  have htT : t < s.T := by omega
  have e : rdyI s (t : Nat) = s.rdy t := by simp [rdyI]
  rw [e]
  clear e h0 h1
  have kt := hcs t htT
  cases hemp : (s.stk t).isEmpty with
  | true =>
    obtain ⟨A, c, hA⟩ := h.stack htT
    have hl0 : (s.stk t).length = 0 := by simpa using hemp
    rw [hA, hl0] at kt
    have e := G.rdy_empty hemp
    rw [e]
    clear e h hI hcs hvs hA hl0 hemp
    go_enter Try.func18, Try.ntmps18
    go_wp2_with fail
    go_ret
    exact ⟨rfl, 0, rfl⟩
  | false =>
    obtain ⟨g, c, hA, hc1, hc2, _, _, htop⟩ := h.stackTop htT hemp
    unfold maxLen at hc2
    have hpos : 0 < (s.stk t).length := by
      cases e : s.stk t with
      | nil => rw [e] at hemp; cases hemp
      | cons => simp
    have hlt := G.top_lt hI htT hemp
    rw [hA] at kt
    have HCH := Lib.hid (fun j : Nat => child_any (w := w.drewN j) (h.frame (w' := w.drewN j) (Nat.le_refl _) (fun _ _ _ => rfl) (fun _ _ => rfl) (fun _ h => h)) hI.tree hn (s.top t) hlt)
    obtain ⟨b, off, hPA, hl, hc⟩ := h.pars hI.tree.pos
    obtain ⟨ge, ce, hve, _, _, _, hce, _⟩ := h.fins hI.tree.pos
    rw [hPA] at f0
    rw [hve] at f3
    have HP := Lib.hid hc
    have HE := Lib.hid hce
    have HI := Lib.hid hI
    have hk1 : Hid ((s.kid? (s.top t)).isSome = true → s.rdy t = true) := G.rdy_kid htT hemp
    have hk2 : Hid (s.kid? (s.top t) = none → s.rdy t = (s.ou (s.top t) == 0)) := G.rdy_none htT hemp
    have hne : (((s.stk t).length : Int) == 0) = false := by rw [beq_eq_false_iff_ne]; omega
    generalize (s.stk t).length = m at *
    generalize s.top t = p at *
    clear h hI hcs hvs hA hc hce hPA hve hemp
    cases hkd : s.kid? p with
    | some q =>
      have hq := kidI_some hkd
      have HR := Lib.hid (hk1.out (by rw [hkd]; rfl))
      have hge : (0 : Int) ≤ kidI s p := by rw [hq]; omega
      clear hk1 hk2 hq hkd
      go_enter Try.func18, Try.ntmps18
      go_wp2_with fail
      go_quiet (fail)
      go_wp2_with fail
      refine (HCH.out _).mono ?_
      rintro e w1 ⟨rfl, hw⟩
      subst hw
      clear HCH
      go_wp2_with fail
      go_ret
      rw [HR.out]
      exact ⟨rfl, _, rfl⟩
    | none =>
      have hq := kidI_none hkd
      have HKD := Lib.hid hkd
      have HR := Lib.hid (hk2.out hkd)
      clear hk1 hk2 hkd
      go_enter Try.func18, Try.ntmps18
      go_wp2_with fail
      go_quiet (fail)
      go_wp2_with fail
      refine (HCH.out _).mono ?_
      rintro e w1 ⟨rfl, hw⟩
      subst hw
      rw [hq]
      clear HCH hq
      go_wp2_with fail
      go_loop [6] (fun i => ∃ j : Nat, p < j ∧ j ≤ s.n ∧ i = .int .i64 (j : Nat) ∧ Hid (∀ d, p < d → d < j → s.left p d = false)) (fun i => s.n - (intOf i).toNat)
      case atStart => exact ⟨p + 1, by omega, by omega, by go_num, fun d h1 h2 => absurd h2 (by omega)⟩
      case round =>
        obtain ⟨j, hj1, hj2, rfl, hall⟩ := hrel
        by_cases hlt' : j < s.n
        · have k1 := HP.out j hlt'
          have k2 := HE.out j hlt'
          have hw : s.left p j = (decide (s.par j = (p : Int)) && !s.fin j) := by
            unfold G.left G.kid
            have : decide (0 < j) = true := by simp; omega
            rw [this]; simp
          have next : s.left p j = false → Hid (∀ d, p < d → d < j + 1 → s.left p d = false) := fun h0 d h1 h2 => by
            by_cases e : d = j
            · subst e; exact h0
            · exact hall.out d h1 (by omega)
          by_cases he : s.par j = (p : Int)
          · have he' : (s.par j == (p : Int)) = true := by simp [he]
            rw [decide_eq_true he] at hw
            cases hbj : s.fin j with
            | true =>
              have HN := Lib.hid (next (by rw [hw, hbj]; rfl))
              rw [hbj] at k2
              clear next hw hbj he hall
              go_wp2_with fail
              go_round
              case rel => exact ⟨j + 1, by omega, by omega, by go_num, HN.out⟩
              case measure => simp [intOf]; omega
            | false =>
              have HR2 := Lib.hid (G.ou_pos_of HKD.out hlt' (by rw [hw, hbj]; rfl))
              rw [hbj] at k2
              clear next hw hbj he hall
              go_wp2_with fail
              go_ret
              rw [HR.out, beq_eq_false_iff_ne.2 HR2.out]
              exact ⟨rfl, _, rfl⟩
          · have he' : (s.par j == (p : Int)) = false := by simp [he]
            have HN := Lib.hid (next (by rw [hw, decide_eq_false he]; rfl))
            clear next hw he hall
            go_wp2_with fail
            go_round
            case rel => exact ⟨j + 1, by omega, by omega, by go_num, HN.out⟩
            case measure => simp [intOf]; omega
        · have HR2 := Lib.hid (G.ou_zero_of HI.out (p := p) (fun d h1 h2 => hall.out d h1 (by omega)))
          clear hall
          go_wp2_with fail
          go_ret
          rw [HR.out, HR2.out]
          exact ⟨rfl, _, rfl⟩
end
end Go.Proofs.Ytlncdkdkoamadaa
