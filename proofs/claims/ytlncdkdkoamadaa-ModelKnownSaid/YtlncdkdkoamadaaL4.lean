/-
  THE LAW ModelTraces, walked.
-/
import Derived.Test.YtlncdkdkoamadaaEq
import Derived.Test.YtlncdkdkoamadaaL3
namespace Go.Proofs.Ytlncdkdkoamadaa
open Go.RowKit

theorem rdI_two {w : World} {g : Nat} (h : w.heap[g]? = some (.cells #[.int .i64 0, .int .i64 0] 3)) : RdI w (some ⟨g, 0, none⟩) 2 (fun _ => 0) := fun _ => by
  refine ⟨g, 0, rfl, (Array.getElem?_eq_some_iff.1 h).1, fun i hi => ?_⟩
  rw [cell_of_row w g (0 + i) _ 3 (0, 0) h]
  rcases (show i = 0 ∨ i = 1 by omega) with rfl | rfl <;> rfl
theorem cnt_one (s : G) : ((List.range 1).filter (s.kid 0)).length = 0 := by
  have h : s.kid 0 0 = false := by simp [G.kid]
  rw [show List.range 1 = [0] from rfl, List.filter_cons_of_neg (by rw [h]; decide)]
  rfl
theorem cnt_succ (n T : Nat) (f : Nat → Int) (j : Nat) (hj : 1 ≤ j) : ((List.range (j + 1)).filter ((G.init n T f).kid 0)).length = ((List.range j).filter ((G.init n T f).kid 0)).length + (if f j = 0 then 1 else 0) := by
  rw [filter_range_succ]
  have hk : (G.init n T f).kid 0 j = true ↔ f j = 0 := by
    unfold G.kid
    rw [decide_eq_true (show 0 < j by omega), Bool.true_and]
    exact decide_eq_true_iff
  by_cases h : f j = 0
  · rw [hk.2 h, if_pos h]; simp
  · rw [show (G.init n T f).kid 0 j = false from by cases e : (G.init n T f).kid 0 j with | false => rfl | true => exact absurd (hk.1 e) h, if_neg h]; simp

set_option maxHeartbeats 20000000 in
set_option maxRecDepth 100000 in
theorem traces_law (A : Option Addr) (n c : Nat) (wk : Int) (C : Option Addr) (m d : Nat) (f g : Nat → Int) (w : World) (hA : A = none → n = 0 ∧ c = 0) (hC : C = none → m = 0 ∧ d = 0) (hm : n * 8 ≤ 140737488351232) (hm2 : m * 8 ≤ 140737488351232) (ha : RdI w A n f) (hc : RdI w C m g) :
    Calls Try.prog 7 #[.slice A n c, .int .i64 wk, .slice C m d] w fun e w' => e = .returned (.bool true) ∧ Below w.heap.size w w' := by
  obtain ⟨i41, hi, hz0, hz1, hz2⟩ : ∃ i, Try.prog.info? 41 = some i ∧ i.zero = some (.agg #[.int .i64 0, .int .i64 0, .bool false]) ∧ i.size = 3 ∧ i.bytes = 24 := by
    have h := info41
    cases e : Try.prog.info? 41 with
    | none => rw [e] at h; cases h
    | some i => rw [e] at h; simp at h; exact ⟨i, rfl, h.1, h.2.1, h.2.2⟩
  have HA := Lib.hid ha
  have HC := Lib.hid hc
  have HA0 := Lib.hid hA
  have HC0 := Lib.hid hC
  have hmn : n ≤ maxLen := by unfold maxLen; omega
  have HM := Lib.hid hmn
  have hn9 : n < 4294967296 * 4294967296 := by omega
  have hnil := fun wx => Lib.run_eql_slice_nil (P := Try.prog) wx 22 3 none 0 0 0 0 Try.underlying22
  have hnil2 := fun wx => Lib.run_eql_slice_nil (P := Try.prog) wx 58 41 none 0 0 0 0 Try.underlying58
  simp only [Option.isNone] at hnil hnil2
  have HMC := Lib.hid hm2
  have HMA := Lib.hid hm
  have hm5 : m ≤ 17592186044416 := by omega
  have hn5 : n ≤ 17592186044416 := by omega
  clear ha hc hA hC hmn hm hm2 hn9
  by_cases h2 : 300 < m
  · go_enter Try.func7, Try.ntmps7
    go_wp2_with fail
    refine (works_any w).mono ?_
    rintro e w1 ⟨rfl, hb1⟩
    go_wp2_with fail
    all_goals
      go_ret
      exact ⟨rfl, hb1⟩
  by_cases h1 : 60 < n ∧ n ≤ 256
  · obtain ⟨h3, h4⟩ := h1
    go_enter Try.func7, Try.ntmps7
    go_wp2_with fail
    refine (works_any w).mono ?_
    rintro e w1 ⟨rfl, hb1⟩
    go_wp2_with fail
    go_ret
    exact ⟨rfl, hb1⟩
  have hd3 : decide ((300 : Int) < (m : Int)) = false := by rw [decide_eq_false_iff_not]; omega
  have h5 : n ≤ 60 ∨ 256 < n := by omega
  clear h1
  rcases h5 with h5 | h5
  all_goals
    go_enter Try.func7, Try.ntmps7
    go_wp2_with fail
    refine (works_any w).mono ?_
    rintro e w1 ⟨rfl, hb1⟩
    have HB1 := Lib.hid hb1
    have HCL := Lib.hid (clone_any HA0.out (HA.out.below hb1 (Nat.le_refl _)) HMA.out (c := c))
    clear hb1
    go_wp2_with fail
    refine HCL.out.mono ?_
    rintro e w2 ⟨v, rfl, ho, hb2⟩
    obtain ⟨A1, c1, hv, _⟩ := own_any ho
    subst hv
    have HB2 := Lib.hid (HB1.out.trans (hb2.mono HB1.out.size))
    have HO := Lib.hid ho
    have HCM := Lib.hid (clone_any HC0.out (HC.out.below HB2.out (Nat.le_refl _)) HMC.out (c := d))
    clear ho hb2 HCL HB1
    go_wp2_with fail
    refine HCM.out.mono ?_
    rintro e w3 ⟨v3, rfl, ho3, hb3⟩
    obtain ⟨A2, c2, hv3, _⟩ := own_any ho3
    subst hv3
    have HB3 := Lib.hid (HB2.out.trans (hb3.mono HB2.out.size))
    have HPL := Lib.hid (play_any A1 n c1 wk A2 m c2 f g w3 HM.out (by omega) (RdI.of_own (own_below HO.out hb3)) (RdI.of_own ho3))
    clear HCM HO hb3 HB2 ho3
    go_wp2_with fail
    refine HPL.out.mono ?_
    rintro e w4 ⟨hb4, hcs⟩
    have HB4 := Lib.hid (HB3.out.trans (hb4.mono HB3.out.size))
    have hw34 := HB3.out.size
    have HP := Lib.hid (pair_any A n c wk f w4 HM.out (HA.out.below HB4.out (Nat.le_refl _)))
    clear HPL HB3 hb4
    rcases hcs with ⟨hg, v4, rfl, ho4⟩ | ⟨hg, rfl⟩
    case inr =>
      have HG := Lib.hid hg
      clear hg
      go_wp2_with fail
      refine HP.out.mono ?_
      rintro e w5 ⟨hb5, (⟨_, rfl⟩ | ⟨h, _⟩ | ⟨h, _⟩)⟩
      rotate_left
      · exact absurd h HG.out
      · exact absurd h HG.out
      have HB5 := Lib.hid (HB4.out.trans (hb5.mono HB4.out.size))
      have HRT := Lib.hid (right_any A n c f w5 HM.out (HA.out.below HB5.out (Nat.le_refl _)))
      have hrb : Hid (rightB n f = false) := by
        refine Lib.hid ?_
        cases h : rightB n f with
        | false => rfl
        | true => exact absurd (rightB_iff.1 h) HG.out
      clear hb5 HP HB4
      go_wp2_with fail
      refine HRT.out.mono ?_
      rintro e w6 ⟨rfl, hw⟩
      subst hw
      rw [hrb.out]
      clear HRT
      go_wp2_with fail
      go_ret
      exact ⟨rfl, HB5.out⟩
  rotate_left
  · exact absurd hg.2.1 (by omega)
  obtain ⟨A4, c4, hv4, _, _, hrd4⟩ := own_rdE ho4
  subst hv4
  have HG := Lib.hid hg
  have HE4 := Lib.hid hrd4
  have hn1 := hg.1
  clear hg hrd4
  have HO4 := Lib.hid ho4
  clear ho4
  go_wp2_with fail
  refine HP.out.mono ?_
  rintro e w5 ⟨hb5, hcs⟩
  obtain ⟨pv, pe, rfl, HPV⟩ : ∃ (pv : Value) (pe : Int), e = .returned (.tuple #[pv, .int .i64 pe]) ∧ Hid ((((G.init n (thr wk) f).ch 0).length < 2 ∧ pv = .slice none 0 0 ∧ pe = 4) ∨ (2 ≤ ((G.init n (thr wk) f).ch 0).length ∧ ∃ gp, pv = .slice (some ⟨gp, 0, none⟩) 2 2 ∧ pe = 0 ∧ w5.heap[gp]? = some (.cells #[.int .i64 0, .int .i64 0] 3 (0, 0)))) := by
    rcases hcs with ⟨h, _⟩ | ⟨_, h, rfl⟩ | ⟨_, h, gp, _, rfl, hb⟩
    · exact absurd HG.out h
    · exact ⟨_, _, rfl, .inl ⟨h, rfl, rfl⟩⟩
    · exact ⟨_, _, rfl, .inr ⟨h, gp, rfl, rfl, hb⟩⟩
  have HB5 := Lib.hid (HB4.out.trans (hb5.mono HB4.out.size))
  have HE5 := Lib.hid (HE4.out.below hb5)
  have HRT := Lib.hid (right_any A n c f w5 HM.out (HA.out.below HB5.out (Nat.le_refl _)))
  have hrb : Hid (rightB n f = true) := Lib.hid (rightB_iff.2 HG.out)
  have HNF := Lib.hid (new_rf (w := w5) (c := c) (wk := wk) (lab := fun _ => 0) 1 (by decide) (fun _ _ => rfl) HG.out (HA.out.below HB5.out (Nat.le_refl _)))
  clear hb5 hcs HP HB4 HO4 HE4
  go_wp2_with fail
  refine HRT.out.mono ?_
  rintro e w6 ⟨rfl, hw⟩
  subst hw
  rw [hrb.out]
  clear HRT hrb
  go_wp2_with fail
  refine HNF.out.mono ?_
  rintro e w6 ⟨r, rfl, hr, hb6⟩
  obtain ⟨s0, hs0⟩ : ∃ s0, s0 = G.init n (thr wk) f := ⟨_, rfl⟩
  have hfit := hr.fit
  rw [← hs0] at hr hfit
  rw [← hs0] at HPV HE5
  have hsn : s0.n = n := by rw [hs0]; rfl
  have hsm : s0.mov = 0 := by rw [hs0]; rfl
  have HRF := Lib.hid (fun k hk => G.runTo_fit (m := m) (g := g) hfit hsm k hk)
  have HSN := Lib.hid hsn
  have HS0 := Lib.hid hs0
  have HT : Hid (TrInv (fun w lab s => Rf w lab 1 r s) w5 w6 (relab (fun _ => 0) w5.heap.size 1) s0 (.slice none 0 0) 0 []) :=
    ⟨hb6, hr, fun b hb => relab_lt hb, World.ownsRow_nil _ _ _ _, fun g hg => by cases hg⟩
  clear hr hb6 HNF hs0 hfit hsn hsm
  go_wp2_with fail
  go_loopw [12, 13] (fun v i wr => Hid (∃ (k : Nat) (lab : Nat → Nat), k + 1 ≤ 2 * n ∧ i = .int .i64 (k : Nat) ∧ TrInv (fun w lab s => Rf w lab 1 r s) w5 wr lab (G.runTo s0 m g k) v k (evCs (G.evTo s0 m g) k))) (fun _ i _ => 2 * n - (intOf i).toNat)
  case atStart => exact ⟨0, _, by omega, rfl, HT.out⟩
  case round =>
    clear HT
    obtain ⟨k, lab, hk, rfl, hI⟩ := hrel.out
    clear hrel
    obtain ⟨Av, cv, hv, _⟩ := own_form3 hI.lst
    subst hv
    obtain ⟨hf1, hf2, hf3⟩ := HRF.out k (by rw [HSN.out]; exact hk)
    have hst : ∀ t, t = G.thrAt (G.runTo s0 m g k) m g k → (G.runTo s0 m g k).step t = G.runTo s0 m g (k + 1) ∧ (G.runTo s0 m g k).move t = G.evTo s0 m g k := fun t ht => by subst ht; exact ⟨rfl, rfl⟩
    have HST := Lib.hid hst
    have HI := Lib.hid hI
    have HEV := Lib.hid (evCs_succ (G.evTo s0 m g) k)
    generalize hsk : G.runTo s0 m g k = s at *
    rw [HSN.out] at hf3
    have hrl := filter_range_len s.rdy s.T
    have hT := hf1.T_le
    change s.readies.length ≤ s.T at hrl
    have HAL := Lib.hid hI.run.All
    have hd := G.done_iff hf1.inv
    rw [hf2, hf3] at hd
    obtain ⟨ge, ce, kf, ke, _, _⟩ := hI.run.ended
    rw [hf3] at kf
    have HF1 := Lib.hid hf1
    have HF2 := Lib.hid hf2
    have HF3 := Lib.hid hf3
    clear hI hst hsk hf1 hf2 hf3
    by_cases hlt : k + 1 < 2 * n
    · have hL0 := (G.not_done HF1.out.inv (by rw [HF2.out, HF3.out]; exact hlt)).2
      have hfin := (G.not_done HF1.out.inv (by rw [HF2.out, HF3.out]; exact hlt)).1
      rw [hfin] at ke
      clear hd
      go_wp2_with fail
      refine HAL.out.mono ?_
      rintro e w7 ⟨v7, rfl, ho7, hb7⟩
      obtain ⟨g7, c7, hv7⟩ := own_form ho7 hL0
      subst hv7
      have HI7 := Lib.hid (HI.out.keep (frames_rf r) hb7)
      have HO7 := Lib.hid ho7
      have hpk := G.pickAt_lt (m := m) (g := g) (k := k) hL0
      have HP : Hid (G.thrAt s m g k = s.readies.getD (G.pickAt m g s.readies.length k) 0) := rfl
      have HRD := Lib.hid (G.thrAt_rdy (s := s) (m := m) (g := g) (k := k) hL0)
      have hC1 : Hid (m = 0 ∨ (0 < m ∧ ∃ pb po, C = some ⟨pb, po, none⟩ ∧ (k % m < m) ∧ w7.cell? ⟨pb, po + k % m, none⟩ = some (.int .i64 (g (k % m))))) := by
        refine Lib.hid ?_
        rcases Nat.eq_zero_or_pos m with h | h
        · exact .inl h
        · obtain ⟨pb, po, rfl, hpl, hpc⟩ := HC.out h
          refine .inr ⟨h, pb, po, rfl, Nat.mod_lt _ h, ?_⟩
          have h7 : Below w.heap.size w w7 := HB5.out.trans (HI7.out.bel.mono HB5.out.size)
          rw [h7.cell (p := ⟨pb, po + k % m, none⟩) hpl, hpc _ (Nat.mod_lt _ h)]
      obtain ⟨pk, hpke⟩ : ∃ pk, pk = G.pickAt m g s.readies.length k := ⟨_, rfl⟩
      rw [← hpke] at hpk HP
      have HPK := Lib.hid hpke
      have hd0 : ((s.readies.length : Int) == 0) = false := by rw [beq_eq_false_iff_ne]; omega
      obtain ⟨L, hL⟩ : ∃ L, L = s.readies.length := ⟨_, rfl⟩
      rw [← hL] at hd0 hpk HPK hrl hL0 ho7
      clear hb7 HAL hpke
      rw [← hL]
      have HL := Lib.hid hL
      clear hL ho7 kf ke hfin
      go_upto_if 87 with (fail)
      go_cut [15] from 71 to 120 (fun a wx => Hid (a = .int .i64 (pk : Nat) ∧ wx = w7))
      case first =>
        rcases hC1.out with hm0 | ⟨hm0, pb, po, hCe, hkm, hcell⟩
        · have e : pk = 0 := by rw [HPK.out]; unfold G.pickAt; rw [if_pos hm0]
          subst e
          clear hC1
          go_wp2_with fail
          go_meet
          exact ⟨rfl, rfl⟩
        · subst hCe
          have hm1 : ((m : Int) == 0) = false := by rw [beq_eq_false_iff_ne]; omega
          have hk2 : (k : Int) < 1000 := by omega
          have hL2 : (L : Int) ≤ 17 := by omega
          clear hC1
          go_upto_region 20 with (fail)
          obtain ⟨h1, h2, h3⟩ := tmod_facts (g (k % m)) L hL0
          have e : (pk : Int) = ((g (k % m)).tmod L + L) % (L : Int) := by
            have h4 := Int.emod_nonneg (g (k % m)) (b := (L : Int)) (by omega)
            rw [h3, HPK.out]
            unfold G.pickAt
            rw [if_neg (by omega)]
            omega
          have E := Lib.hid e
          clear h3 e
          generalize (g (k % m)).tmod (L : Int) = tm at *
          by_cases ht : tm < 0
          · have e2 : (pk : Int) = tm + L := by rw [E.out]; exact Int.emod_eq_of_lt (by omega) (by omega)
            go_wp2_with fail
            go_meet
            exact ⟨by rw [e2], rfl⟩
          · have e2 : (pk : Int) = tm := by rw [E.out, Int.add_emod_right]; exact Int.emod_eq_of_lt (by omega) (by omega)
            go_wp2_with fail
            go_meet
            exact ⟨by rw [e2], rfl⟩
      case rest =>
        obtain ⟨h12, hwx⟩ := hcut.out
        have hwy := hwx.symm
        clear hcut HPK hC1 hwx
        subst hwy
        subst h12
        have hcr : w7.cell? ⟨g7, pk, none⟩ = some (.int .i64 ((G.thrAt s m g k : Nat) : Int)) := by
          rw [HO7.out.cellAt pk (by rw [← HL.out]; omega), HP.out]
          have h2 : pk < s.readies.length := by rw [← HL.out]; exact hpk
          simp [intl, List.getD, h2]
        obtain ⟨t, ht⟩ : ∃ t, t = G.thrAt s m g k := ⟨_, rfl⟩
        rw [← ht] at hcr
        obtain ⟨e1, e2⟩ := HST.out t ht
        have HE1 := Lib.hid e1
        have HE2 := Lib.hid e2
        have HSTP := Lib.hid (HI7.out.run.Step t (by rw [ht]; exact HRD.out))
        clear ht e1 e2 HST HP HRD HO7
        go_wp2_with fail
        refine HSTP.out.mono ?_
        rintro e w8 ⟨rfl, hk8, lab8, hl8, hr8⟩
        have HI8 := Lib.hid (HI7.out.step hk8 hl8 hr8)
        rw [HE1.out] at HI8
        rw [HE2.out]
        clear hk8 hl8 hr8 hcr
        go_wp2_with (at_builtin; refine wpList_app3 rfl (.tmp 114) (.tmp 119) 58 rfl w5.heap.size 41 i41 _ Try.underlying58 hi hz0 hz1 hz2 rfl _ k _ rfl (HI8.out.lst.alloc _) w8.heap.size (evC (G.evTo s0 m g k)) rfl rfl ?_ (evC_one _) ?_ ?_ ?_)
        case refine_1 => exact evC_cells _ _
        case refine_2 => omega
        case refine_3 => simp; have := HI8.out.bel.size; omega
        intro v9 w9 ho9 hg9 hat9
        rw [← HEV.out] at ho9
        have HI9 := Lib.hid (HI8.out.push1 (frames_rf r) hg9 ho9 ⟨_, HEV.out⟩ hat9)
        clear ho9 hg9 hat9 HI8 HI7
        go_wp2_with fail
        obtain ⟨lab9, h9⟩ := HI9.out
        exact ⟨⟨k + 1, lab9, by omega, by go_num, h9⟩, by simp [intOf]; omega⟩
    · --<X
      have hke : k + 1 = 2 * n := Nat.le_antisymm hk (Nat.le_of_not_lt hlt)
      have hfin := hd.2 hke
      rw [hfin] at ke
      have hk1 : k = 2 * n - 1 := Nat.eq_sub_of_add_eq hke
      clear hke hd hlt hk
      subst hk1
      obtain ⟨A9, c9, hv9, _, _, hrd9⟩ := own_rdE HI.out.lst
      have hv9' := hv9
      simp only [Value.slice.injEq] at hv9'
      obtain ⟨hv1, _, hv2⟩ := hv9'
      subst hv1
      subst hv2
      have HEQ := Lib.hid (equalEv_any A4 Av (2 * n - 1) c4 cv _ wr (HE5.out.below HI.out.bel) hrd9 (by omega))
      have HBR := Lib.hid (HB5.out.trans (HI.out.bel.mono HB5.out.size))
      have HBR5 := Lib.hid HI.out.bel
      clear hrd9 hv9 HAL HI HE5
      go_wp2_with fail
      refine HEQ.out.mono ?_
      rintro e w7 ⟨rfl, q, rfl⟩
      obtain ⟨ab, ao, hAe, hal, hac⟩ := HA.out (by omega)
      subst hAe
      have HAC : Hid (∀ j, j < n → (wr.drewN q).cell? ⟨ab, ao + j, none⟩ = some (.int .i64 (f j))) :=
        Lib.hid fun j hj => by
          show wr.cell? ⟨ab, ao + j, none⟩ = _
          rw [HBR.out.cell (p := ⟨ab, ao + j, none⟩) hal]; exact hac j hj
      have HBQ := Lib.hid (below_drewN HBR.out q)
      have HCN : Hid (∀ j, 1 ≤ j → ((List.range (j + 1)).filter (s0.kid 0)).length = ((List.range j).filter (s0.kid 0)).length + (if f j = 0 then 1 else 0)) := by
        refine Lib.hid fun j hj => ?_
        rw [HS0.out]; exact cnt_succ n _ f j hj
      have HC0' : Hid (((List.range 1).filter (s0.kid 0)).length = 0) := Lib.hid (cnt_one s0)
      have HCZ : Hid (((List.range n).filter (s0.kid 0)).length = (s0.ch 0).length) := Lib.hid (by unfold G.ch; rw [HSN.out])
      have hlast := HBQ.out.size
      clear hac HBR HEQ HC HC0 HA0 HSN HRF HF1 HF2 HF3 HST HEV
      go_wp2_with fail
      go_loopw [19, 20] (fun x i wx => ∃ j : Nat, 1 ≤ j ∧ j ≤ n ∧ i = .int .i64 (j : Nat) ∧ x = .int .i64 (((List.range j).filter (s0.kid 0)).length : Nat) ∧ wx = wr.drewN q) (fun _ i _ => n - (intOf i).toNat)
      case atStart => exact ⟨1, Nat.le_refl _, by omega, rfl, by rw [HC0'.out]; rfl, rfl⟩
      case round =>
        obtain ⟨j, hj1, hj, rfl, rfl, rfl⟩ := hrel
        have hcj := HCN.out j hj1
        have hl := filter_range_len (s0.kid 0) j
        generalize hcd : ((List.range j).filter (s0.kid 0)).length = cj at *
        by_cases hlt : j < n
        · have hce := HAC.out j hlt
          by_cases hf : f j = 0
          · rw [if_pos hf] at hcj
            rw [hf] at hce
            go_wp2_with fail
            exact ⟨⟨j + 1, by omega, by omega, by go_num, by rw [hcj]; go_num, trivial⟩, by simp [intOf]; omega⟩
          · rw [if_neg hf] at hcj
            have hb : (f j == 0) = false := by rw [beq_eq_false_iff_ne]; exact hf
            go_wp2_with fail
            exact ⟨⟨j + 1, by omega, by omega, by go_num, by rw [hcj]; rfl, trivial⟩, by simp [intOf]; omega⟩
        · have hjn : j = n := by omega
          subst hjn
          rw [HCZ.out] at hcd
          rw [hcd] at HPV
          have HPV' := HPV.out
          clear HPV HCN HC0' HCZ hcj
          rcases HPV' with ⟨h1, rfl, rfl⟩ | ⟨h1, gp, rfl, rfl, hgp⟩
          · go_wp2_with fail
            go_ret
            exact ⟨rfl, HBQ.out⟩
          · have hgl : gp < w5.heap.size := (Array.getElem?_eq_some_iff.1 hgp).1
            have hpw : wr.heap[gp]? = some (.cells #[.int .i64 0, .int .i64 0] 3) := (HBR5.out.block gp hgl).trans hgp
            have HEQ2 := Lib.hid (equal_ints (some ⟨gp, 0, none⟩) (some ⟨wr.heap.size, 0, none⟩) 2 2 2 2 (fun _ => 0) (fun _ => 0) ((wr.drewN q).alloc (.cells #[.int .i64 0, .int .i64 0] 3)) (rdI_two (by rw [Below.heap_alloc _ _ _ (by exact (Array.getElem?_eq_some_iff.1 hpw).1)]; exact hpw)) (rdI_two (heap_alloc_new _ _)) (by decide) (by decide))
            have HBF := Lib.hid (HBQ.out.alloc HBQ.out.size (.cells #[.int .i64 0, .int .i64 0] 3))
            clear hgp hpw hgl
            go_wp2_with fail
            refine HEQ2.out.mono ?_
            rintro e w9 ⟨rfl, q2, rfl⟩
            go_wp2_with fail
            go_ret
            exact ⟨rfl, below_drewN HBF.out _⟩
      -->X
end Go.Proofs.Ytlncdkdkoamadaa
