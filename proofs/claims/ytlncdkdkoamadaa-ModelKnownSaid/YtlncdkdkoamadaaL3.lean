/-
  THE WALK of the law ModelPlays.
-/
import Derived.Test.YtlncdkdkoamadaaPl
import Derived.Test.YtlncdkdkoamadaaK1
namespace Go.Proofs.Ytlncdkdkoamadaa
open Go.RowKit

/-- A script that came in: two numbers a call. -/
def RdC (w : World) (A : Option Addr) (m : Nat) (f g : Nat → Int) : Prop := 0 < m → ∃ b off, A = some ⟨b, off, none⟩ ∧ b < w.heap.size ∧
  ∀ i, i < m → w.cell? ⟨b, off + i * 2, none⟩ = some (.int .i64 (f i)) ∧ w.cell? ⟨b, off + i * 2 + 1, none⟩ = some (.int .i64 (g i))

theorem info26 : (Try.prog.info? 26).map (fun i => (i.zero, i.size, i.bytes)) = some (some (.pointer none), 1, 8) := by kernel_rfl
theorem info32 : (Try.prog.info? 32).map (fun i => (i.zero, i.size, i.bytes)) = some (some (.pointer none), 1, 8) := by kernel_rfl

theorem clone_any {A : Option Addr} {n c : Nat} {f : Nat → Int} {w : World} (hA : A = none → n = 0 ∧ c = 0) (h : RdI w A n f) (hb : n * 8 ≤ 140737488351232) :
    Calls Try.prog 10 #[.slice A n c] w fun e w' => ∃ v, e = .returned v ∧ w'.ownsRow w.heap.size 3 1 v n ((List.range n).map fun i => .int .i64 (f i)) ∧ Below w.heap.size w w' := by
  refine clone_ints A n c _ w hA (by simp) (fun ad had j u hu => ?_) (fun u hu => ?_) (fun ad had j hj => ?_) hb
  · have hj : j < n := by have := (List.getElem?_eq_some_iff.1 hu).1; simpa using this
    obtain ⟨b, off, rfl, hl, hc⟩ := h (by omega)
    cases had
    rw [vals_get hj] at hu
    rw [Addr.add_lit, ← hu]
    exact hc j hj
  · obtain ⟨i, _, rfl⟩ := List.mem_map.1 hu
    rfl
  · obtain ⟨b, off, rfl, hl, hc⟩ := h (by omega)
    cases had
    rw [Addr.add_lit]; exact hl

set_option maxHeartbeats 8000000 in
set_option maxRecDepth 100000 in
theorem plays_law (A : Option Addr) (n c : Nat) (wk : Int) (B : Option Addr) (m d : Nat) (f who thd : Nat → Int) (w : World) (hA : A = none → n = 0 ∧ c = 0) (hm : n * 8 ≤ 140737488351232) (hm2 : m ≤ maxLen) (ha : RdI w A n f) (hb : RdC w B m who thd) :
    Calls Try.prog 3 #[.slice A n c, .int .i64 wk, .slice B m d] w fun e w' => e = .returned (.bool true) ∧ Below w.heap.size w w' := by
  have HA := Lib.hid ha
  have HB := Lib.hid hb
  have HA0 := Lib.hid hA
  have hm2' := hm2
  unfold maxLen at hm2'
  have hmn : n ≤ maxLen := by unfold maxLen; omega
  have HM := Lib.hid hmn
  clear ha hb hA hm2 hmn
  by_cases h2 : 200 < m
  · go_enter Try.func3, Try.ntmps3
    go_wp2_with fail
    refine (works_any w).mono ?_
    rintro e w1 ⟨rfl, hb1⟩
    go_wp2_with fail
    all_goals
      go_ret
      exact ⟨rfl, hb1⟩
  by_cases h1 : 40 < n ∧ n ≤ 256
  · obtain ⟨h3, h4⟩ := h1
    go_enter Try.func3, Try.ntmps3
    go_wp2_with fail
    refine (works_any w).mono ?_
    rintro e w1 ⟨rfl, hb1⟩
    go_wp2_with fail
    go_ret
    exact ⟨rfl, hb1⟩
  have h5 : n ≤ 40 ∨ 256 < n := by omega
  clear h1
  have H5 := Lib.hid h5
  rcases h5 with h5 | h5
  all_goals
    go_enter Try.func3, Try.ntmps3
    go_wp2_with fail
    refine (works_any w).mono ?_
    rintro e w1 ⟨rfl, hb1⟩
    have HB1 := Lib.hid hb1
    have hcl := clone_any HA0.out (HA.out.below hb1 (Nat.le_refl _)) hm (c := c)
    have HCL := Lib.hid hcl
    clear hb1 hcl
    go_wp2_with fail
    refine HCL.out.mono ?_
    rintro e w2 ⟨v, rfl, ho, hb2⟩
    obtain ⟨A1, c1, hv, _⟩ := own_any ho
    subst hv
    have HB2 := Lib.hid (HB1.out.trans (hb2.mono HB1.out.size))
    have HO := Lib.hid ho
    have HN := Lib.hid (new_rn (w := w2) (A := A1) (n := n) (c := c1) (wk := wk) (f := f) (fun b => if b < w1.heap.size then 0 else 100) 1 (by decide) (fun b _ => by show (if b < w1.heap.size then 0 else 100) ≠ 1; split <;> decide) HM.out (RdI.of_own ho))
    have hs1 := HB1.out.size
    have hs2 := hb2.size
    clear ho hb2 HCL HB1
    go_wp2_with fail
    refine HN.out.mono ?_
    rintro e w3 (⟨hg, r, lab, rfl, hr, hl, hb3⟩ | ⟨hg, rfl, hb3⟩)
    case inr =>
      have HB3 := Lib.hid (HB2.out.trans (hb3.mono HB2.out.size))
      have HRT := Lib.hid (right_any A n c f w3 HM.out (HA.out.below HB3.out (Nat.le_refl _)))
      have hrb : Hid (rightB n f = false) := by
        refine Lib.hid ?_
        cases h : rightB n f with
        | false => rfl
        | true => exact absurd (rightB_iff.1 h) hg
      clear hg hb3 HN HB2
      go_wp2_with fail
      refine HRT.out.mono ?_
      rintro e w4 ⟨rfl, hw⟩
      subst hw
      rw [hrb.out]
      clear HRT
      go_wp2_with fail
      go_ret
      exact ⟨rfl, HB3.out⟩
  rotate_left
  · exact absurd hg.2.1 (by omega)
  have HB3 := Lib.hid (HB2.out.trans (hb3.mono HB2.out.size))
  have HRT := Lib.hid (right_any A n c f w3 HM.out (HA.out.below HB3.out (Nat.le_refl _)))
  have hrb : Hid (rightB n f = true) := Lib.hid (rightB_iff.2 hg)
  have HG := Lib.hid hg
  have hn1 := hg.1
  have HRN := Lib.hid hr
  have HLAB := Lib.hid hl
  have HB3' := Lib.hid hb3
  clear hg hb3 hr hl HN
  go_wp2_with fail
  refine HRT.out.mono ?_
  rintro e w4 ⟨rfl, hw⟩
  subst hw
  rw [hrb.out]
  clear HRT hrb
  obtain ⟨g1, c1', hv⟩ := own_form HO.out (by omega)
  simp only [Value.slice.injEq] at hv
  obtain ⟨hv1, _, hv2⟩ := hv
  subst hv1
  subst hv2
  have hg1 := HO.out.lt g1 rfl
  have hl1 : lab g1 = 100 := by rw [HLAB.out g1 hg1.2, if_neg (by omega)]
  have HL1 := Lib.hid hl1
  have HS : Hid (∃ (j : Nat) (F : Nat → Int), j ≤ n ∧ Value.int .i64 (0 : Int) = .int .i64 (j : Nat) ∧ Rn w3 lab 1 r (G.init n (thr wk) f) ∧ w3.ownsRow w1.heap.size 3 1 (.slice (some ⟨g1, 0, none⟩) n c1) n ((List.range n).map fun i => .int .i64 (F i)) ∧ Below w.heap.size w w3) :=
    ⟨0, f, Nat.zero_le _, rfl, HRN.out, own_below HO.out HB3'.out, HB3.out⟩
  clear hl1
  go_wp2_with fail
  go_loopw [66] (fun i wr => Hid (∃ (j : Nat) (F : Nat → Int), j ≤ n ∧ i = .int .i64 (j : Nat) ∧ Rn wr lab 1 r (G.init n (thr wk) f) ∧ wr.ownsRow w1.heap.size 3 1 (.slice (some ⟨g1, 0, none⟩) n c1) n ((List.range n).map fun i => .int .i64 (F i)) ∧ Below w.heap.size w wr)) (fun i _ => n - (intOf i).toNat)
  case atStart => exact HS
  case round =>
    clear HS
    obtain ⟨j, F, hj, rfl, hrr, hoo, hbb⟩ := hrel.out
    clear hrel
    by_cases hlt : j < n
    · have kc : wr.cell? ⟨g1, j, none⟩ = some (.int .i64 (F j)) := by
        have h1 := hoo.cellAt j (by omega)
        rw [vals_get hlt] at h1
        exact h1
      have kz := hoo.frozenAt j
      have hst := (hoo.stored j (.int .i64 99)).1
      rw [vals_set] at hst
      have e : ((List.range n).map fun i => if i = j then Value.int .i64 99 else .int .i64 (F i)) = (List.range n).map fun i => .int .i64 ((fun i => if i = j then (99 : Int) else F i) i) := by
        apply List.map_congr_left
        intro i _
        by_cases h : i = j <;> simp [h]
      rw [e] at hst
      have HN : Hid (Rn (wr.setCell ⟨g1, j, none⟩ (.int .i64 99)) lab 1 r (G.init n (thr wk) f) ∧ (wr.setCell ⟨g1, j, none⟩ (.int .i64 99)).ownsRow w1.heap.size 3 1 (.slice (some ⟨g1, 0, none⟩) n c1) n ((List.range n).map fun i => .int .i64 ((fun i => if i = j then (99 : Int) else F i) i)) ∧ Below w.heap.size w (wr.setCell ⟨g1, j, none⟩ (.int .i64 99))) :=
        ⟨hrr.setFar (p := ⟨g1, j, none⟩) (by show lab g1 ≠ 1; rw [HL1.out]; decide) (by show lab g1 ≠ 0; rw [HL1.out]; decide) _, hst, hbb.setCell (by show w.heap.size ≤ g1; omega) _⟩
      clear hrr hoo hbb hst e
      go_wp2_with fail
      go_roundw
      case rel => exact ⟨j + 1, _, by omega, by go_num, HN.out⟩
      case measure => simp [intOf]; omega
    · have HRR := Lib.hid hrr
      have HBB := Lib.hid hbb
      have hlo : ∀ b, b < w.heap.size → lab b = 0 := fun b hb => by rw [HLAB.out b (by omega), if_pos (by omega)]
      have HLO := Lib.hid hlo
      have hb1 : Below wr.heap.size wr (wr.alloc (.cells #[.pointer (some ⟨r, 0, none⟩)] 26)) := (Below.refl _ _).alloc (Nat.le_refl _) _
      have HNF := Lib.hid (new_rf (w := wr.alloc (.cells #[.pointer (some ⟨r, 0, none⟩)] 26)) (lab := fun b => if b < wr.heap.size then lab b else 100) (A := A) (n := n) (c := c) (wk := wk) (f := f) 2 (by decide) (fun ad had => by
        obtain ⟨b, off, hA, hbl, _⟩ := HA.out (by omega)
        rw [hA] at had; cases had
        show (if b < wr.heap.size then lab b else 100) = 0
        rw [if_pos (Nat.lt_of_lt_of_le hbl hbb.size)]; exact hlo b hbl) HG.out ((HA.out.below hbb (Nat.le_refl _)).below hb1 (Nat.le_refl _)))
      clear hrr hoo hbb hb1 hlo
      go_wp2_with fail
      refine HNF.out.mono ?_
      rintro e w5 ⟨y, rfl, hf5, hb5⟩
      obtain ⟨lab0, hpl0⟩ := pl_start HBB.out HLO.out HRR.out hf5 hb5
      have HPL := Lib.hid hpl0
      clear hf5 hb5 HNF HBB HRR hpl0
      go_wp2_with fail
      have HS : Hid (∃ (q : Nat) (lab : Nat → Nat) (L : Nat) (rs ys : Nat → Nat) (ss : Nat → G), q ≤ m ∧ Value.int .i64 (0 : Int) = .int .i64 (q : Nat) ∧ 1 ≤ L ∧ PlInv w (w5.alloc (.cells #[.pointer (some ⟨y, 0, none⟩)] 32)) lab L L (.slice (some ⟨wr.heap.size, 0, none⟩) 1 1) (.slice (some ⟨w5.heap.size, 0, none⟩) 1 1) rs ys ss ss) := ⟨0, lab0, 1, _, _, _, Nat.zero_le _, rfl, Nat.le_refl _, HPL.out⟩
      clear HPL
      generalize w5.alloc (.cells #[.pointer (some ⟨y, 0, none⟩)] 32) = W6 at *
      go_loopw [11, 12, 81] (fun vr vf i wr => Hid (∃ (q : Nat) (lab : Nat → Nat) (L : Nat) (rs ys : Nat → Nat) (ss : Nat → G), q ≤ m ∧ i = .int .i64 (q : Nat) ∧ 1 ≤ L ∧ PlInv w wr lab L L vr vf rs ys ss ss)) (fun _ _ i _ => m - (intOf i).toNat)
      case atStart => exact HS
      case round =>
        clear HS
        rename_i vr0
        obtain ⟨q, lab, L, rs, ys, ss, hq, rfl, hL1, hP⟩ := hrel.out
        clear hrel
        by_cases hqm : q < m
        · obtain ⟨bb, off, hBe, hbl, hbc⟩ := HB.out (by omega)
          subst hBe
          obtain ⟨kw, kt⟩ := hbc q hqm
          replace kw := (hP.bel.cell (p := ⟨bb, off + q * 2, none⟩) hbl).trans kw
          replace kt := (hP.bel.cell (p := ⟨bb, off + q * 2 + 1, none⟩) hbl).trans kt
          obtain ⟨gr, cr, hvr⟩ := own_form hP.ovr (by omega)
          obtain ⟨gf, cf, hvf⟩ := own_form hP.ovf (by omega)
          subst hvr
          subst hvf
          have HP := Lib.hid hP
          have hL9 := hP.lr9
          generalize who q = wq at *
          generalize thd q = tq at *
          have hbA : Below wr.heap.size wr (wr.alloc (.cells #[.int .i64 wq, .int .i64 tq] 36)) := (Below.refl _ _).alloc (Nat.le_refl _) _
          by_cases hneg : wq.tmod (L : Int) < 0
          · have HN := Lib.hid (hP.keep hbA)
            clear hP hbc hbA
            go_wp2_with fail
            exact ⟨⟨q + 1, _, L, _, _, _, by omega, by go_num, hL1, HN.out⟩, by simp [intOf]; omega⟩
          · obtain ⟨kk, hkk⟩ := Int.eq_ofNat_of_zero_le (show 0 ≤ wq.tmod (L : Int) by omega)
            have hkL : kk < L := by have := Int.tmod_lt_of_pos wq (b := (L : Int)) (by omega); omega
            obtain ⟨labA, hPA, hlca⟩ : ∃ labA, PlInv w (wr.alloc (.cells #[.int .i64 wq, .int .i64 tq] 36)) labA L L (.slice (some ⟨gr, 0, none⟩) L cr) (.slice (some ⟨gf, 0, none⟩) L cf) rs ys ss ss ∧ labA wr.heap.size = 100 :=
              ⟨fun b => if b < wr.heap.size then lab b else 100, hP.below hbA (fun b hb => by simp [hb]), by simp⟩
            have k1 : (wr.alloc (.cells #[.int .i64 wq, .int .i64 tq] 36)).cell? ⟨gr, kk, none⟩ = some (.pointer (some ⟨rs kk, 0, none⟩)) := by
              have h := hPA.ovr.cellAt kk (by omega)
              rw [ptrs_get hkL] at h; exact h
            have k2 : (wr.alloc (.cells #[.int .i64 wq, .int .i64 tq] 36)).cell? ⟨gf, kk, none⟩ = some (.pointer (some ⟨ys kk, 0, none⟩)) := by
              have h := hPA.ovf.cellAt kk (by omega)
              rw [ptrs_get hkL] at h; exact h
            have hblkA := heap_alloc_new wr (.cells #[.int .i64 wq, .int .i64 tq] 36)
            have HPA := Lib.hid hPA
            have HKK := Lib.hid hkk
            have HBA := Lib.hid hbA
            clear hP hbc hPA hbA hkk
            go_upto_region 22 with (fail)
            rw [HKK.out]
            have kt2 : (wr.alloc (.cells #[.int .i64 wq, .int .i64 tq] 36)).cell? ⟨wr.heap.size, 1, none⟩ = some (.int .i64 tq) := cell_of_row _ wr.heap.size 1 _ 36 (0, 0) hblkA
            have hca : wr.heap.size < (wr.alloc (.cells #[.int .i64 wq, .int .i64 tq] 36)).heap.size := by simp
            have HBLKA := Lib.hid hblkA
            clear hblkA kw kt HP
            generalize wr.alloc (.cells #[.int .i64 wq, .int .i64 tq] 36) = WA at *
            generalize wr.heap.size = ca at *
            go_quiet (fail)
            have hPB := HPA.out.keep (below_drewN (Below.refl _ _) nq)
            have HPB := Lib.hid hPB
            have kt3 : (WA.drewN nq).cell? ⟨ca, 1, none⟩ = some (.int .i64 tq) := kt2
            have hcb : ca < (WA.drewN nq).heap.size := hca
            have HBLKB : Hid ((WA.drewN nq).heap[ca]? = some (.cells #[.int .i64 wq, .int .i64 tq] 36 (0, 0))) := HBLKA.out
            clear hPB k1 k2 kt2 hca HBLKA HPA HBA
            generalize WA.drewN nq = WB at *
            by_cases htq : tq = -1
            · skip
              --<copy
              subst htq
              by_cases hL8 : 8 < L
              · go_wp2_with fail
                exact ⟨⟨q + 1, _, L, _, _, _, by omega, by go_num, hL1, HPB.out⟩, by simp [intOf]; omega⟩
              · have HCP := Lib.hid ((HPB.out.run kk hkL).Copy (2 * L + 1) (by omega))
                go_wp2_with fail
                refine HCP.out.mono ?_
                rintro e w7 ⟨z, rfl, hz7, hb7⟩
                have hP7 := HPB.out.below hb7 (lab' := relab labA WB.heap.size (2 * L + 1)) (fun b hb => relab_lt hb)
                have HTL := Lib.hid (tells_any hz7 (hP7.ref kk hkL))
                have HP7 := Lib.hid hP7
                have HZ7 := Lib.hid hz7
                clear HCP hP7 hz7 hb7 HPB
                go_wp2_with fail
                refine HTL.out.mono ?_
                rintro e w8 ⟨rfl, hb8⟩
                have hbo8 : Below w8.heap.size w8 (w8.alloc (.cells #[.pointer (some ⟨z, 0, none⟩)] 26)) := (Below.refl _ _).alloc (Nat.le_refl _) _
                have hP8 := (HP7.out.keep hb8).keep hbo8
                have hz8 := (HZ7.out.keep hb8).keep hbo8
                have HP8 := Lib.hid hP8
                have HZ8 := Lib.hid hz8
                obtain ⟨i26, hi26, hz0, hz1, hz2⟩ := info_parts info26
                obtain ⟨i32, hi32, hy0, hy1, hy2⟩ := info_parts info32
                clear HTL hP8 hz8 HP7 HZ7 hb8 hbo8
                go_wp2_with (at_builtin; refine wpList_app1 rfl (.tmp 116) (.tmp 118) 31 rfl w.heap.size 26 i26 (.pointer none) 8 Try.underlying31 hi26 hz0 hz1 hz2 rfl (by decide) (.slice (some ⟨gr, 0, none⟩) L cr) L (ptrs rs L) rfl HP8.out.ovr ⟨w8.heap.size, 0, none⟩ (.pointer (some ⟨z, 0, none⟩)) rfl ?_ rfl ?_ ?_ ?_)
                all_goals first | exact cell_new1 _ _ _ | (simp; done) | omega | exact HP8.out.bel.size | skip
                intro v9 w9 ho9 hg9 hat9
                have hP9 := HP8.out.pushRun HZ8.out (by omega) hg9 ho9 (hat9.imp id (fun e => by rw [e]; simp))
                have HCF := Lib.hid ((hP9.ref kk hkL).Copy (2 * L + 2) (by omega))
                obtain ⟨g9, c9, hv9⟩ := own_form ho9 (by omega)
                subst hv9
                have HP9 := Lib.hid hP9
                clear hP9 ho9 hg9 hat9 HP8 HZ8
                go_wp2_with fail
                refine HCF.out.mono ?_
                rintro e w10 ⟨y', rfl, hz10, hb10⟩
                have hbo10 : Below w10.heap.size w10 (w10.alloc (.cells #[.pointer (some ⟨y', 0, none⟩)] 32)) := (Below.refl _ _).alloc (Nat.le_refl _) _
                have hP10 := (HP9.out.below hb10 (lab' := relab _ w9.heap.size (2 * L + 2)) (fun b hb => relab_lt hb)).keep hbo10
                have hz10' := hz10.keep hbo10
                have HP10 := Lib.hid hP10
                have HZ10 := Lib.hid hz10'
                clear HCF hP10 hz10 hz10' hb10 hbo10 HP9
                go_wp2_with (at_builtin; refine wpList_app1 rfl (.tmp 120) (.tmp 123) 34 rfl w.heap.size 32 i32 (.pointer none) 8 Try.underlying34 hi32 hy0 hy1 hy2 rfl (by decide) (.slice (some ⟨gf, 0, none⟩) L cf) L (ptrs ys L) rfl HP10.out.ovf ⟨w10.heap.size, 0, none⟩ (.pointer (some ⟨y', 0, none⟩)) rfl ?_ rfl ?_ ?_ ?_)
                all_goals first | exact cell_new1 _ _ _ | (simp; done) | omega | exact HP10.out.bel.size | skip
                intro v11 w11 ho11 hg11 hat11
                have hP11 := HP10.out.pushRef HZ10.out (by omega) hg11 ho11 (hat11.imp id (fun e => by rw [e]; simp))
                have HP11 := Lib.hid hP11
                clear hP11 ho11 hg11 hat11 HP10 HZ10
                go_wp2_with fail
                exact ⟨⟨q + 1, _, L + 1, _, _, _, by omega, by go_num, by omega, HP11.out⟩, by simp [intOf]; omega⟩
              -->copy
            · have htd : (tq == -1) = false := by simpa using htq
              cases hrd : rdyI (ss kk) tq with
              | false =>
                have HST := Lib.hid ((HPB.out.run kk hkL).StepNo tq hrd)
                have HRDY := Lib.hid hrd
                clear hrd
                go_wp2_with fail
                refine HST.out.mono ?_
                rintro e w7 ⟨rfl, hb7⟩
                unfold evV
                have hbo7 : Below w7.heap.size w7 (w7.alloc (.cells #[.int .i64 0, .int .i64 0, .bool false] 41)) := (Below.refl _ _).alloc (Nat.le_refl _) _
                have hP7 := (HPB.out.keep hb7).keep hbo7
                have kt4 : (w7.alloc (.cells #[.int .i64 0, .int .i64 0, .bool false] 41)).cell? ⟨ca, 1, none⟩ = some (.int .i64 tq) := (hbo7.cell (p := ⟨ca, 1, none⟩) (Nat.lt_of_lt_of_le hcb hb7.size)).trans ((hb7.cell (p := ⟨ca, 1, none⟩) hcb).trans kt3)
                have hev := heap_alloc_new w7 (.cells #[.int .i64 0, .int .i64 0, .bool false] 41)
                have HP7 := Lib.hid hP7
                have HEV := Lib.hid hev
                have HRD := Lib.hid ((hP7.ref kk hkL).Ready tq)
                clear hP7 hev HST hb7 hbo7 HPB kt3
                go_upto_region 30 with (fail)
                generalize w7.alloc (.cells #[.int .i64 0, .int .i64 0, .bool false] 41) = WC at *
                generalize w7.heap.size = ev at *
                go_wp2_with fail
                refine HRD.out.mono ?_
                rintro e w8 ⟨rfl, j8, rfl⟩
                rw [HRDY.out]
                have e0 : (WC.drewN j8).cell? ⟨ev, 0, none⟩ = some (.int .i64 0) := cell_of_row (WC.drewN j8) ev 0 _ 41 (0, 0) HEV.out
                have e1 : (WC.drewN j8).cell? ⟨ev, 1, none⟩ = some (.int .i64 0) := cell_of_row (WC.drewN j8) ev 1 _ 41 (0, 0) HEV.out
                have e2 : (WC.drewN j8).cell? ⟨ev, 2, none⟩ = some (.bool false) := cell_of_row (WC.drewN j8) ev 2 _ 41 (0, 0) HEV.out
                have hPT := HP7.out.keep (below_drewN (Below.refl _ _) j8)
                have HPT := Lib.hid hPT
                clear HRD hPT HP7 kt4
                go_wp2_with fail
                --<tail0
                have HRY := Lib.hid (HPT.out.run kk hkL).Ready
                refine HRY.out.mono ?_
                rintro e wt ⟨vt, rfl, hot, hbt⟩
                have hnl := filter_range_len ((ss kk).rdy) ((ss kk).T)
                have hnT := (HPT.out.run kk hkL).fit.T_le
                change ((ss kk).readies).length ≤ _ at hnl
                rw [intl_range] at hot
                generalize hnn : ((ss kk).readies).length = nl at *
                obtain ⟨At, ct, hvt, _⟩ := own_any hot
                subst hvt
                have HT9 : Hid (∃ (j : Nat) (F : Nat → Int), j ≤ nl ∧ Value.int .i64 (0 : Int) = .int .i64 (j : Nat) ∧ wt.ownsRow (WC.drewN j8).heap.size 3 1 (.slice At nl ct) nl ((List.range nl).map fun i => .int .i64 (F i)) ∧ Below (WC.drewN j8).heap.size (WC.drewN j8) wt) := ⟨0, _, Nat.zero_le _, rfl, hot, hbt⟩
                clear hot hbt HRY hnn
                go_wp2_with fail
                go_loopw [166] (fun i wx => Hid (∃ (j : Nat) (F : Nat → Int), j ≤ nl ∧ i = .int .i64 (j : Nat) ∧ wx.ownsRow (WC.drewN j8).heap.size 3 1 (.slice At nl ct) nl ((List.range nl).map fun i => .int .i64 (F i)) ∧ Below (WC.drewN j8).heap.size (WC.drewN j8) wx)) (fun i _ => nl - (intOf i).toNat)
                case atStart => exact HT9
                case round =>
                  clear HT9
                  obtain ⟨j, F, hj, rfl, hoo, hbb⟩ := hrel.out
                  clear hrel
                  by_cases hlt : j < nl
                  · obtain ⟨g9, c9, hv9⟩ := own_form hoo (by omega)
                    simp only [Value.slice.injEq] at hv9
                    obtain ⟨hv91, _, hv92⟩ := hv9
                    subst hv91
                    subst hv92
                    have kc9 := hoo.cellAt j (by omega)
                    rw [vals_get hlt] at kc9
                    have kz9 := hoo.frozenAt j
                    have hst := (hoo.stored j (.int .i64 99)).1
                    rw [vals_set] at hst
                    have e9 : ((List.range nl).map fun i => if i = j then Value.int .i64 99 else .int .i64 (F i)) = (List.range nl).map fun i => .int .i64 ((fun i => if i = j then (99 : Int) else F i) i) := by
                      apply List.map_congr_left
                      intro i _
                      by_cases h : i = j <;> simp [h]
                    rw [e9] at hst
                    have hg9 := (hoo.lt g9 rfl).1
                    rename_i wx
                    have HN9 := Lib.hid (And.intro hst (hbb.setCell (p := ⟨g9, j, none⟩) (by exact hg9) (.int .i64 99)))
                    clear hoo hbb hst e9
                    go_wp2_with fail
                    exact ⟨⟨j + 1, _, by omega, by go_num, HN9.out.1, HN9.out.2⟩, by simp [intOf]; omega⟩
                  · have hPE := HPT.out.keep hbb
                    have HTE := Lib.hid (tells_any (hPE.run kk hkL) (hPE.ref kk hkL))
                    have HPE := Lib.hid hPE
                    clear hoo hbb hPE
                    go_wp2_with fail
                    refine HTE.out.mono ?_
                    rintro e wu ⟨rfl, hbu⟩
                    have HPF := Lib.hid (HPE.out.keep hbu)
                    clear hbu HTE HPE
                    go_wp2_with fail
                    exact ⟨⟨q + 1, _, L, _, _, _, by omega, by go_num, hL1, HPF.out⟩, by simp [intOf]; omega⟩
                -->tail0
              | true =>
                have h0 : 0 ≤ tq ∧ (ss kk).rdy tq.toNat = true := by simpa [rdyI] using hrd
                obtain ⟨h01, hrt⟩ := h0
                obtain ⟨t, rfl⟩ := Int.eq_ofNat_of_zero_le h01
                rw [Int.toNat_natCast] at hrt
                have HST := Lib.hid ((HPB.out.run kk hkL).Step t hrt)
                have HRDY := Lib.hid hrd
                have HRT := Lib.hid hrt
                clear hrd hrt
                go_wp2_with fail
                refine HST.out.mono ?_
                rintro e w7 ⟨rfl, hk7, lab7, hl7, hr7⟩
                obtain ⟨mv, hmv⟩ : ∃ mv, mv = (ss kk).move t := ⟨_, rfl⟩
                rw [← hmv]
                obtain ⟨th, nd, en⟩ := mv
                have HMV := Lib.hid hmv
                clear hmv
                unfold evV
                have hP7 := HPB.out.stepRun hkL hk7 hl7 hr7
                have hbo7 : Below w7.heap.size w7 (w7.alloc (.cells #[.int .i64 (th : Nat), .int .i64 (nd : Nat), .bool en] 41)) := (Below.refl _ _).alloc (Nat.le_refl _) _
                obtain ⟨lab8, hP8, hlev⟩ : ∃ lab8, PlInv w (w7.alloc (.cells #[.int .i64 (th : Nat), .int .i64 (nd : Nat), .bool en] 41)) lab8 L L (.slice (some ⟨gr, 0, none⟩) L cr) (.slice (some ⟨gf, 0, none⟩) L cf) rs ys (upd ss kk ((ss kk).step t)) ss ∧ lab8 w7.heap.size = 100 :=
                  ⟨fun b => if b < w7.heap.size then lab7 b else 100, hP7.below hbo7 (fun b hb => by simp [hb]), by simp⟩
                have kt4 : (w7.alloc (.cells #[.int .i64 (th : Nat), .int .i64 (nd : Nat), .bool en] 41)).cell? ⟨ca, 1, none⟩ = some (.int .i64 (t : Nat)) := (hbo7.cell (p := ⟨ca, 1, none⟩) (Nat.lt_of_lt_of_le hcb hk7.size)).trans ((World.cell?_of_block (a := ⟨ca, 1, none⟩) (hk7.block ca hcb (by rw [hlca]; omega))).trans kt3)
                have hev := heap_alloc_new w7 (.cells #[.int .i64 (th : Nat), .int .i64 (nd : Nat), .bool en] 41)
                have HP8 := Lib.hid hP8
                have HEV := Lib.hid hev
                have HRD := Lib.hid ((hP8.ref kk hkL).Ready (t : Nat))
                have hevl : w7.heap.size < (w7.alloc (.cells #[.int .i64 (th : Nat), .int .i64 (nd : Nat), .bool en] 41)).heap.size := by simp
                clear hP7 hP8 hev HST hk7 hl7 hr7 hbo7 HPB kt3
                go_upto_region 30 with (fail)
                generalize w7.alloc (.cells #[.int .i64 (th : Nat), .int .i64 (nd : Nat), .bool en] 41) = WC at *
                generalize w7.heap.size = ev at *
                go_wp2_with fail
                refine HRD.out.mono ?_
                rintro e w8 ⟨rfl, j8, rfl⟩
                rw [HRDY.out]
                have kt5 : (WC.drewN j8).cell? ⟨ca, 1, none⟩ = some (.int .i64 (t : Nat)) := kt4
                have hP9 := HP8.out.keep (below_drewN (Below.refl _ _) j8)
                have HS2 := Lib.hid ((hP9.ref kk hkL).Step t HRT.out)
                have HP9 := Lib.hid hP9
                have HEV2 : Hid ((WC.drewN j8).heap[ev]? = some (.cells #[.int .i64 (th : Nat), .int .i64 (nd : Nat), .bool en] 41 (0, 0))) := HEV.out
                have hevl2 : ev < (WC.drewN j8).heap.size := hevl
                clear HRD hP9 HP8 kt4 HEV hevl
                go_wp2_with fail
                refine HS2.out.mono ?_
                rintro e w9 ⟨rfl, hk9, lab9, hl9, hr9⟩
                rw [← HMV.out]
                have hP10 := HP9.out.stepRef hkL hk9 hl9 hr9
                have hev9 := (hk9.block ev hevl2 (by rw [hlev]; omega)).trans HEV2.out
                have e0 : w9.cell? ⟨ev, 0, none⟩ = some (.int .i64 (th : Nat)) := cell_of_row w9 ev 0 _ 41 (0, 0) hev9
                have e1 : w9.cell? ⟨ev, 1, none⟩ = some (.int .i64 (nd : Nat)) := cell_of_row w9 ev 1 _ 41 (0, 0) hev9
                have e2 : w9.cell? ⟨ev, 2, none⟩ = some (.bool en) := cell_of_row w9 ev 2 _ 41 (0, 0) hev9
                have HPT := Lib.hid hP10
                generalize upd ss kk ((ss kk).step t) = s2 at *
                clear hP10 hk9 hl9 hr9 hev9 HS2 HP9 HEV2 kt5
                go_wp2_with fail
                --<tail1
                have HRY := Lib.hid (HPT.out.run kk hkL).Ready
                refine HRY.out.mono ?_
                rintro e wt ⟨vt, rfl, hot, hbt⟩
                have hnl := filter_range_len ((s2 kk).rdy) ((s2 kk).T)
                have hnT := (HPT.out.run kk hkL).fit.T_le
                change ((s2 kk).readies).length ≤ _ at hnl
                rw [intl_range] at hot
                generalize hnn : ((s2 kk).readies).length = nl at *
                obtain ⟨At, ct, hvt, _⟩ := own_any hot
                subst hvt
                have HT9 : Hid (∃ (j : Nat) (F : Nat → Int), j ≤ nl ∧ Value.int .i64 (0 : Int) = .int .i64 (j : Nat) ∧ wt.ownsRow w9.heap.size 3 1 (.slice At nl ct) nl ((List.range nl).map fun i => .int .i64 (F i)) ∧ Below w9.heap.size w9 wt) := ⟨0, _, Nat.zero_le _, rfl, hot, hbt⟩
                clear hot hbt HRY hnn
                go_wp2_with fail
                go_loopw [166] (fun i wx => Hid (∃ (j : Nat) (F : Nat → Int), j ≤ nl ∧ i = .int .i64 (j : Nat) ∧ wx.ownsRow w9.heap.size 3 1 (.slice At nl ct) nl ((List.range nl).map fun i => .int .i64 (F i)) ∧ Below w9.heap.size w9 wx)) (fun i _ => nl - (intOf i).toNat)
                case atStart => exact HT9
                case round =>
                  clear HT9
                  obtain ⟨j, F, hj, rfl, hoo, hbb⟩ := hrel.out
                  clear hrel
                  by_cases hlt : j < nl
                  · obtain ⟨g9, c9, hv9⟩ := own_form hoo (by omega)
                    simp only [Value.slice.injEq] at hv9
                    obtain ⟨hv91, _, hv92⟩ := hv9
                    subst hv91
                    subst hv92
                    have kc9 := hoo.cellAt j (by omega)
                    rw [vals_get hlt] at kc9
                    have kz9 := hoo.frozenAt j
                    have hst := (hoo.stored j (.int .i64 99)).1
                    rw [vals_set] at hst
                    have e9 : ((List.range nl).map fun i => if i = j then Value.int .i64 99 else .int .i64 (F i)) = (List.range nl).map fun i => .int .i64 ((fun i => if i = j then (99 : Int) else F i) i) := by
                      apply List.map_congr_left
                      intro i _
                      by_cases h : i = j <;> simp [h]
                    rw [e9] at hst
                    have hg9 := (hoo.lt g9 rfl).1
                    rename_i wx
                    have HN9 := Lib.hid (And.intro hst (hbb.setCell (p := ⟨g9, j, none⟩) (by exact hg9) (.int .i64 99)))
                    clear hoo hbb hst e9
                    go_wp2_with fail
                    exact ⟨⟨j + 1, _, by omega, by go_num, HN9.out.1, HN9.out.2⟩, by simp [intOf]; omega⟩
                  · have hPE := HPT.out.keep hbb
                    have HTE := Lib.hid (tells_any (hPE.run kk hkL) (hPE.ref kk hkL))
                    have HPE := Lib.hid hPE
                    clear hoo hbb hPE
                    go_wp2_with fail
                    refine HTE.out.mono ?_
                    rintro e wu ⟨rfl, hbu⟩
                    have HPF := Lib.hid (HPE.out.keep hbu)
                    clear hbu HTE HPE
                    go_wp2_with fail
                    exact ⟨⟨q + 1, _, L, _, _, _, by omega, by go_num, hL1, HPF.out⟩, by simp [intOf]; omega⟩
                -->tail1
        · have HP := Lib.hid hP.bel
          clear hP
          go_wp2_with fail
          go_ret
          exact ⟨rfl, HP.out⟩
end Go.Proofs.Ytlncdkdkoamadaa
