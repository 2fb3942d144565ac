/-
  WALKS: the reference's reader: a program.
-/
import Derived.Test.YtcelcognmdcenaaR4a
namespace Go.Proofs.Ytcelcognmdcenaa
open Go.RowKit

set_option maxRecDepth 100000 in
set_option maxHeartbeats 8000000 in
theorem program47 {w : World} {r : Nat} {A : Option Addr} {n c : Nat} {bs : List Nat} {s : Nat × Bool} (h : RdR w r A n c bs s) :
    Calls Try.prog 47 #[.pointer (some ⟨r, 0, none⟩)] w (PrOutR w r A n c bs s) := by
  have hr := h.rlt
  have HAB : Hid (∀ b o, A = some ⟨b, o, none⟩ → 0 < n → b < w.heap.size) := fun b o hA hn => by
    obtain ⟨b', o', e, hlt, _⟩ := h.bytes.bytes.2 hn
    rw [hA] at e; cases e; exact hlt
  have HPS := Lib.hid (QS.start h HAB.out)
  clear h
  obtain ⟨i63, hi, hz0, hz1, hz2⟩ := info_parts info63
  go_enter Try.func47, Try.ntmps47
  go_wp2_with fail
  generalize hpb : w.heap.size + 1 = pb at *
  generalize (w.alloc (.cells #[.int .i64 0, .int .i64 0, .slice none 0 0, .slice none 0 0] 26)).alloc (.cells #[.int .i64 0, .int .i64 0, .slice none 0 0, .slice none 0 0] 26) = w0 at *
  clear hpb
  have HC := Lib.hid (num45 HPS.out.rd 1 128)
  (with_reducible refine HC.out.mono ?_)
  rintro e w1 ⟨x1, s1, rfl, hx1, hr1, hg1, ho1⟩
  have hps1 := HPS.out.keep hg1 hr1
  have e1 := hps1.p0
  have ef := hps1.pf 0
  have HPS1 := Lib.hid (hps1.setIns x1)
  have HO1 := Lib.hid ho1
  clear HC HPS hr1 hg1 ho1 hps1
  go_wp2_with fail
  generalize w1.setCell ⟨pb, 0, none⟩ (.int .i64 x1) = w2 at *
  clear e1 ef
  have p0 := HPS1.out.p0
  have HC := Lib.hid (num45 HPS1.out.rd x1 128)
  go_wp2_with fail
  (with_reducible refine HC.out.mono ?_)
  rintro e w3 ⟨x2, s2, rfl, hx2, hr2, hg2, ho2⟩
  have hps2 := HPS1.out.keep hg2 hr2
  have e1 := hps2.p1
  have ef := hps2.pf 1
  have HPS2 := Lib.hid (hps2.setRegs x2)
  have HO2 := Lib.hid ho2
  clear HC HPS1 hr2 hg2 ho2 hps2 p0
  go_wp2_with fail
  generalize w3.setCell ⟨pb, 1, none⟩ (.int .i64 x2) = w4 at *
  clear e1 ef
  obtain ⟨p2, wr2⟩ := s2
  have HC := Lib.hid (next45 HPS2.out.rd 0 64)
  (with_reducible refine HC.out.mono ?_)
  rintro e w5 ⟨x3, s3, rfl, hx3, hr3, hg3, ho3⟩
  have HPS3 := Lib.hid (HPS2.out.keep hg3 hr3)
  obtain ⟨p3, wr3⟩ := s3
  have HO3 := Lib.hid ho3
  clear HC HPS2 hr3 hg3 ho3
  go_upto_if 20 with (fail)
  go_cut [5] from 21 to 20 (fun m wx => Hid (m = .int .i64 (if x3 = 64 then 0 else 255) ∧ wx = w5))
  case first =>
    by_cases h64 : x3 = 64
    · subst h64
      go_wp2_with fail
      go_meet
      exact Lib.hid ⟨rfl, rfl⟩
    · have e64 : ((x3 : Int) == 64) = false := by simp; omega
      go_wp2_with fail
      go_meet
      exact Lib.hid ⟨by rw [if_neg h64], rfl⟩
  case rest =>
    obtain ⟨rfl, rfl⟩ := hcut.out
    obtain ⟨most, hm⟩ : ∃ m : Int, m = if x3 = 64 then 0 else 255 := ⟨_, rfl⟩
    rw [← hm]
    have HM := Lib.hid hm
    clear hcut hm
    have HC := Lib.hid (next45 HPS3.out.rd 0 most)
    go_wp2_with fail
    (with_reducible refine HC.out.mono ?_)
    rintro e w6 ⟨x4, s4, rfl, hx4, hr4, hg4, ho4⟩
    have HPS4 := Lib.hid (HPS3.out.keep hg4 hr4)
    have HO34 := Lib.hid (HO3.out.count ho4 HM.out)
    clear HC HPS3 HO3 HM hr4 hg4 ho4
    go_upto_block 0 with (fail)
    obtain ⟨N, hN⟩ : ∃ N, N = x3 * 256 + x4 := ⟨_, rfl⟩
    have hNi : (x3 : Int) * 256 + x4 = (N : Int) := by omega
    have hN2 : N ≤ 65535 := by omega
    rw [hNi]
    have HN := Lib.hid hN
    clear hN hNi
    go_cut [6, 7] from 27 to 81 (fun _ _ wx => Hid (∃ code s5 cv, QS w wx r A n c bs s5 pb w.heap.size x1 x2 cv (.slice none 0 0) code [] ∧ Out (rMany (rIns x2) N) bs s4 code s5))
    case first =>
      go_wp2_with fail
      go_loopw [6] (fun k wr => ∃ (j : Nat) (code : List Ins) (st : Nat × Bool) (cv : Value), j ≤ N ∧ k = .int .i64 j ∧ Hid (QS w wr r A n c bs st pb w.heap.size x1 x2 cv (.slice none 0 0) code [] ∧ Out (rMany (rIns x2) j) bs s4 code st ∧ code.length = j)) (fun k _ => N - (intOf k).toNat)
      case atStart => exact ⟨0, [], s4, _, Nat.zero_le _, rfl, HPS4.out, Out.nil _ _ _, rfl⟩
      case round =>
        obtain ⟨j, code, st, cv, hj, rfl, HR⟩ := hrel
        by_cases hlt : j < N
        · obtain ⟨ps, wrs⟩ := st
          have b2 := HR.out.1.rd.c2
          simp only at b2
          cases wrs with
          | true =>
            simp only [if_true] at b2
            have hneg : decide ((ps : Int) < 0) = false := by simp
            go_wp2_with fail
            go_meet
            exact Lib.hid ⟨code, (ps, true), cv, HR.out.1, HR.out.2.1.stop rfl (Nat.le_of_lt hlt) code⟩
          | false =>
            simp only [Bool.false_eq_true, if_false] at b2
            have hpl := HR.out.1.plt
            have hpr := HR.out.1.prn
            have hrp : r < pb := Nat.lt_of_lt_of_le hr HR.out.1.pge
            have hwp : w.heap.size ≤ pb := HR.out.1.pge
            have hrw : r < wr.heap.size := Nat.lt_trans hrp hpl
            have hww : w.heap.size ≤ wr.heap.size := HR.out.1.gr.size
            have hab : Hid (∀ b o, A = some ⟨b, o, none⟩ → 0 < n → b < wr.heap.size) := Lib.hid (fun b o hA hn => Nat.lt_of_lt_of_le (HAB.out b o hA hn) hww)
            have hwx : IntKind.i64.wrap (x2 - 1) = x2 - 1 := IntWalk.i64_in _ (by omega)
            have HI0 : Hid (JS wr (wr.alloc (.cells Zi 63)) r A n c bs (ps, false) wr.heap.size ⟨0, 0, 0, 0, 0⟩) := Lib.hid ⟨HR.out.1.rd.below (below_a wr _), World.grownBy.ofBelow (below_a wr _) _, Nat.le_refl _, heap_alloc_new wr _⟩
            have HC := Lib.hid (num45 HI0.out.rd 1 8)
            go_wp2_with fail
            (with_reducible refine HC.out.mono ?_)
            rintro e wa ⟨x5, s5, rfl, hx5, hra, hga, hoa⟩
            have hIa := HI0.out.keep hrw hga hra
            generalize hib : wr.heap.size = ib at *
            clear b2
            obtain ⟨u0, u1, u2, u3, u4, uf⟩ := iblk_facts hIa.iblk
            simp only at u0 u1 u2 u3 u4
            have ufk := uf 0
            have HI1 := Lib.hid (hIa.set (hib ▸ hrw) (hib ▸ hab.out) 0 (.int .i64 x5) (i' := ⟨x5, 0, 0, 0, 0⟩) rfl)
            have HO1 := Lib.hid hoa
            clear HC HI0 hra hga hoa hIa uf
            go_upto_region 14 with (fail)
            generalize wa.setCell ⟨ib, 0, none⟩ (.int .i64 x5) = wa' at *
            clear u0 u1 u2 u3 u4 ufk
            have HC := Lib.hid (num45 HI1.out.rd 0 (x2 - 1))
            have p1 := (HR.out.1.keep HI1.out.gr HI1.out.rd).p1
            go_wp2_with fail
            (with_reducible refine HC.out.mono ?_)
            rintro e wb ⟨x6, s6, rfl, hx6, hra, hga, hoa⟩
            have hIa := HI1.out.keep (hib ▸ hrw) hga hra
            obtain ⟨u0, u1, u2, u3, u4, uf⟩ := iblk_facts hIa.iblk
            simp only at u0 u1 u2 u3 u4
            have ufk := uf 1
            have HI2 := Lib.hid (hIa.set (hib ▸ hrw) (hib ▸ hab.out) 1 (.int .i64 x6) (i' := ⟨x5, x6, 0, 0, 0⟩) rfl)
            have HO2 := Lib.hid hoa
            clear p1
            clear HC HI1 hra hga hoa hIa uf
            go_upto_region 15 with (fail)
            generalize wb.setCell ⟨ib, 1, none⟩ (.int .i64 x6) = wb' at *
            clear u0 u1 u2 u3 u4 ufk
            have HC := Lib.hid (num45 HI2.out.rd 0 (x2 - 1))
            have p1 := (HR.out.1.keep HI2.out.gr HI2.out.rd).p1
            go_wp2_with fail
            (with_reducible refine HC.out.mono ?_)
            rintro e wd ⟨x7, s7, rfl, hx7, hra, hga, hoa⟩
            have hIa := HI2.out.keep (hib ▸ hrw) hga hra
            obtain ⟨u0, u1, u2, u3, u4, uf⟩ := iblk_facts hIa.iblk
            simp only at u0 u1 u2 u3 u4
            have ufk := uf 2
            have HI3 := Lib.hid (hIa.set (hib ▸ hrw) (hib ▸ hab.out) 2 (.int .i64 x7) (i' := ⟨x5, x6, x7, 0, 0⟩) rfl)
            have HO3 := Lib.hid hoa
            clear p1
            clear HC HI2 hra hga hoa hIa uf
            go_upto_region 16 with (fail)
            generalize wd.setCell ⟨ib, 2, none⟩ (.int .i64 x7) = wd' at *
            clear u0 u1 u2 u3 u4 ufk
            obtain ⟨y0, y1, y2, y3, y4, yf⟩ := iblk_facts HI3.out.iblk
            simp only at y0 y1 y2 y3 y4
            clear yf
            obtain ⟨tst, ht⟩ : ∃ tst : Bool, tst = ((x5 == 3) || (x5 == 4)) := ⟨_, rfl⟩
            go_cut [61] from 54 to 60 (fun t wx => Hid (t = .bool tst ∧ wx = wd'))
            case first =>
              by_cases h3 : x5 = 3
              · subst h3
                go_wp2_with fail
                go_meet
                exact Lib.hid ⟨by rw [ht]; rfl, rfl⟩
              · have n3 : (x5 == 3) = false := by simpa using h3
                by_cases h4 : x5 = 4
                · subst h4
                  go_wp2_with fail
                  go_meet
                  exact Lib.hid ⟨by rw [ht]; rfl, rfl⟩
                · have n4 : (x5 == 4) = false := by simpa using h4
                  go_wp2_with fail
                  go_meet
                  exact Lib.hid ⟨by rw [ht, n3, n4]; rfl, rfl⟩
            case rest =>
              obtain ⟨hu61, hwc⟩ := hcut.out
              subst hu61 hwc
              clear hcut y0 y1 y2 y3 y4
              have HT : Hid (tst = true ↔ (x5 = 3 ∨ x5 = 4)) := Lib.hid (by rw [ht]; simp)
              clear ht
              go_upto_if 61 with (fail)
              go_cut [] from 54 to 81 (fun wx => Hid (∃ s8 x8, JS wr wx r A n c bs s8 ib ⟨x5, x6, x7, x8, 0⟩ ∧ Out (rNum 0 (if x5 = 3 ∨ x5 = 4 then x2 - 1 else 0)) bs s7 x8 s8))
              case first =>
                cases tst with
                | true =>
                  have HD := Lib.hid (HT.out.1 rfl)
                  have HC := Lib.hid (num45 HI3.out.rd 0 (x2 - 1))
                  have p1 := (HR.out.1.keep HI3.out.gr HI3.out.rd).p1
                  go_wp2_with fail
                  (with_reducible refine HC.out.mono ?_)
                  rintro e we ⟨x8, s8, rfl, hx8, hra, hga, hoa⟩
                  have hIa := HI3.out.keep (hib ▸ hrw) hga hra
                  obtain ⟨v0, v1, v2, v3, v4, vf⟩ := iblk_facts hIa.iblk
                  simp only at v0 v1 v2 v3 v4
                  have vf3 := vf 3
                  have HI4 := Lib.hid (hIa.set (hib ▸ hrw) (hib ▸ hab.out) 3 (.int .i64 x8) (i' := ⟨x5, x6, x7, x8, 0⟩) rfl)
                  have HO4 : Hid (Out (rNum 0 (if x5 = 3 ∨ x5 = 4 then x2 - 1 else 0)) bs s7 x8 s8) := Lib.hid (by rw [if_pos HD.out]; exact hoa)
                  clear HC HI3 hra hga hoa hIa vf
                  go_wp2_with fail
                  go_meet
                  exact Lib.hid ⟨s8, x8, HI4.out, HO4.out⟩
                | false =>
                  have HD := Lib.hid (fun h => absurd (HT.out.2 h) (by decide) : ¬ (x5 = 3 ∨ x5 = 4))
                  have HC := Lib.hid (num45 HI3.out.rd 0 0)
                  go_wp2_with fail
                  (with_reducible refine HC.out.mono ?_)
                  rintro e we ⟨x8, s8, rfl, hx8, hra, hga, hoa⟩
                  have hIa := HI3.out.keep (hib ▸ hrw) hga hra
                  obtain ⟨v0, v1, v2, v3, v4, vf⟩ := iblk_facts hIa.iblk
                  simp only at v0 v1 v2 v3 v4
                  have vf3 := vf 3
                  have HI4 := Lib.hid (hIa.set (hib ▸ hrw) (hib ▸ hab.out) 3 (.int .i64 x8) (i' := ⟨x5, x6, x7, x8, 0⟩) rfl)
                  have HO4 : Hid (Out (rNum 0 (if x5 = 3 ∨ x5 = 4 then x2 - 1 else 0)) bs s7 x8 s8) := Lib.hid (by rw [if_neg HD.out]; exact hoa)
                  clear HC HI3 hra hga hoa hIa vf
                  go_wp2_with fail
                  go_meet
                  exact Lib.hid ⟨s8, x8, HI4.out, HO4.out⟩
              case rest =>
                obtain ⟨s8, x8, hI4, ho8⟩ := hcut.out
                have HI4 := Lib.hid hI4
                have HO8 := Lib.hid ho8
                obtain ⟨y0, y1, y2, y3, y4, yf⟩ := iblk_facts hI4.iblk
                simp only at y0 y1 y2 y3 y4
                have HC := Lib.hid (const60 hI4.rd x5)
                clear hcut hI4 ho8 yf HT
                go_wp2_with fail
                (with_reducible refine HC.out.mono ?_)
                rintro e we ⟨x9, s9, rfl, hx9, hra, hga, hoa⟩
                have hIa := HI4.out.keep (hib ▸ hrw) hga hra
                obtain ⟨u0, u1, u2, u3, u4, uf⟩ := iblk_facts hIa.iblk
                simp only at u0 u1 u2 u3 u4
                have ufk := uf 4
                have HI5 := Lib.hid (hIa.set (hib ▸ hrw) (hib ▸ hab.out) 4 (.int .i64 x9) (i' := ⟨x5, x6, x7, x8, x9⟩) rfl)
                have HINS := Lib.hid (HO1.out.ins HO2.out HO3.out HO8.out hoa)
                clear HC HI4 hra hga hoa hIa uf y0 y1 y2 y3 y4 HO8
                go_upto_region 20 with (fail)
                generalize we.setCell ⟨ib, 4, none⟩ (.int .i64 x9) = we' at *
                clear u0 u1 u2 u3 u4 ufk
                have HPX := Lib.hid (HR.out.1.keep HI5.out.gr HI5.out.rd)
                obtain ⟨y0, y1, y2, y3, y4, _⟩ := iblk_facts HI5.out.iblk
                simp only at y0 y1 y2 y3 y4
                have v2 := HPX.out.p2
                have vf := HPX.out.pf 2
                have hpx := HPX.out.plt
                have hcl : code.length < 4294967296 := by have := HR.out.2.2; omega
                have HLJ := Lib.hid HR.out.2.2
                go_wp2_with (at_builtin; refine wpList_appS rfl (.tmp 77) (.tmp 79) 23 rfl w.heap.size 63 i63 _ 5 40 Try.underlying23 hi hz0 hz1 hz2 rfl (by decide) (by decide) cv code.length (vC code) rfl (HPX.out.code.alloc _) we'.heap.size (cI ⟨x5, x6, x7, x8, x9⟩) rfl rfl (cI_cells we' ⟨x5, x6, x7, x8, x9⟩) (cI_one _) hcl (Nat.le_trans HPX.out.gr.size (by simp)) ?_)
                intro v' w11 ho11 hg11 _
                obtain ⟨A11, cp11, rfl, _, _⟩ := own_slice ho11
                have q11 : w11.heap[pb]? = some (.cells #[.int .i64 x1, .int .i64 x2, cv, .slice none 0 0] 26 (0, 0)) := by
                  rw [hg11.block pb (by simp; omega) (fun e => own_blk_ne HPX.out.code HPX.out.pblk (by decide) e.symm), Below.heap_alloc _ _ _ hpx]; exact HPX.out.pblk
                have c11 : w11.cell? ⟨pb, 2, none⟩ = some cv := cell_of_row w11 pb 2 _ 26 (0, 0) q11
                have f11 := frozen_of_row w11 pb 2 _ 26 q11
                have hps11 := (HPX.out.alloc (.cells #[.int .i64 x5, .int .i64 x6, .int .i64 x7, .int .i64 x8, .int .i64 x9] 63)).pushC rfl hg11 ho11
                have HPS11 := Lib.hid hps11
                clear ho11 hg11 hps11 q11 y0 y1 y2 y3 y4 v2 vf
                go_wp2_with fail
                go_roundw
                case rel => exact ⟨j + 1, _, _, _, by omega, by go_num, Lib.hid ⟨HPS11.out, HR.out.2.1.snoc HINS.out, by rw [List.length_append, HLJ.out]; rfl⟩⟩
                case measure => simp [intOf]; omega
        · obtain rfl : j = N := by omega
          have HRR := Lib.hid HR.out
          clear HR
          go_wp2_with fail
          go_meet
          exact Lib.hid ⟨code, st, cv, HRR.out.1, HRR.out.2.1⟩
    case rest =>
      obtain ⟨code, s5, cv, hps, hoc⟩ := hcut.out
      have HOC := Lib.hid hoc
      have HPS := Lib.hid hps
      have HC := Lib.hid (num45 hps.rd 1 128)
      clear hcut hoc hps HPS4
      go_wp2_with fail
      (with_reducible refine HC.out.mono ?_)
      rintro e w8 ⟨x6, s6, rfl, hx6, hr6, hg6, ho6⟩
      have HPS6 := Lib.hid (HPS.out.keep hg6 hr6)
      have HO6 := Lib.hid ho6
      clear HC HPS hr6 hg6 ho6
      obtain ⟨M, hM⟩ := Int.eq_ofNat_of_zero_le hx6.1
      have hM2 : M < 256 := by omega
      subst hM
      clear hx6
      obtain ⟨i3, hi3, hy0, hy1, hy2⟩ := info_parts info3
      go_upto_block 2 with (fail)
      go_cut [8] from 84 to 105 (fun _ wx => Hid (∃ outs st ov, QS w wx r A n c bs st pb w.heap.size x1 x2 cv ov code outs ∧ Out (rMany (rNum 0 (x2 - 1)) M) bs s6 outs st))
      case first =>
        go_wp2_with fail
        go_loopw [8] (fun k wr => ∃ (j : Nat) (outs : List Int) (st : Nat × Bool) (ov : Value), j ≤ M ∧ k = .int .i64 j ∧ Hid (QS w wr r A n c bs st pb w.heap.size x1 x2 cv ov code outs ∧ Out (rMany (rNum 0 (x2 - 1)) j) bs s6 outs st ∧ outs.length = j)) (fun k _ => M - (intOf k).toNat)
        case atStart => exact ⟨0, [], s6, _, Nat.zero_le _, rfl, HPS6.out, Out.nil _ _ _, rfl⟩
        case round =>
          obtain ⟨j, outs, st, ov, hj, rfl, HR⟩ := hrel
          by_cases hlt : j < M
          · obtain ⟨ps, wrs⟩ := st
            have b2 := HR.out.1.rd.c2
            simp only at b2
            cases wrs with
            | true =>
              simp only [if_true] at b2
              have hneg : decide ((ps : Int) < 0) = false := by simp
              go_wp2_with fail
              go_meet
              exact Lib.hid ⟨outs, (ps, true), ov, HR.out.1, HR.out.2.1.stop rfl (Nat.le_of_lt hlt) outs⟩
            | false =>
              simp only [Bool.false_eq_true, if_false] at b2
              have q1 := HR.out.1.p1
              have q3 := HR.out.1.p3
              have hpl := HR.out.1.plt
              have hpr := HR.out.1.prn
              have hwx : IntKind.i64.wrap (x2 - 1) = x2 - 1 := IntWalk.i64_in _ (by omega)
              have HRD := Lib.hid (HR.out.1.rd.below ((Below.refl wr.heap.size wr).drew))
              have HCQ := Lib.hid (num45 HRD.out 0 (x2 - 1))
              have HGD : Hid (wr.grownBy wr.drew (some r)) := ⟨rfl, rfl, rfl, Nat.le_refl _, fun _ _ _ => rfl⟩
              have hol : outs.length < 4294967296 := by have := HR.out.2.2; omega
              have HLJ := Lib.hid HR.out.2.2
              go_wp2_with fail
              go_region_law
                (first
                  | (refine step_appS rfl (.tmp 97) (.tmp 103) 24 rfl w.heap.size 3 i3 (.int .i64 0) 1 8 Try.underlying24 hi3 hy0 hy1 hy2 rfl (by decide) (by decide) ov outs.length (vI outs) (by rfl) (HPX.out.outs.alloc _) wa.heap.size [.int .i64 x7] (by rfl) rfl (fun j u hu => by match j, hu with | 0, hu => cases hu; exact cell_new _ _ _) (fun u hu => by cases List.mem_singleton.1 hu; rfl) hol (Nat.le_trans HPX.out.gr.size (by simp)) ?_; intro v' wb hob hgb _; obtain ⟨Ab, cb, rfl, _, _⟩ := own_slice hob
                     have q11 : wb.heap[pb]? = some (.cells #[.int .i64 x1, .int .i64 x2, cv, ov] 26 (0, 0)) := (hgb.block pb (Nat.lt_of_lt_of_le hpxl (by simp)) (fun e => own_blk_ne HPX.out.outs HPX.out.pblk (by decide) e.symm)).trans ((Below.heap_alloc _ _ _ hpxl).trans HPX.out.pblk)
                     have c11 : wb.cell? ⟨pb, 3, none⟩ = some ov := cell_of_row wb pb 3 _ 26 (0, 0) q11
                     have f11 := frozen_of_row wb pb 3 _ 26 q11
                     have HPS11 := Lib.hid ((HPX.out.alloc (.cells #[.int .i64 x7] 3)).pushO rfl hgb hob)
                     clear hob hgb q11)
                  | (go_simp; go_at_call 45; (with_reducible refine HCQ.out.mono ?_); rintro e wa ⟨x7, s7, rfl, hx7, hr7, hg7, ho7⟩
                     have HPX := Lib.hid (HR.out.1.keep (HGD.out.trans' hg7) hr7)
                     have HO7 := Lib.hid ho7
                     have hpxl := HPX.out.plt
                     have a3 := HPX.out.p3
                     have ka3 : ∀ o, (wa.alloc o).cell? ⟨pb, 3, none⟩ = some ov := fun o => cell_al a3 o
                     clear hr7 hg7 ho7))
              all_goals
                go_wp2_with fail
                go_roundw
                case rel => exact ⟨j + 1, _, _, _, by omega, by go_num, Lib.hid ⟨HPS11.out, HR.out.2.1.snoc HO7.out, by rw [List.length_append, HLJ.out]; rfl⟩⟩
                case measure => simp [intOf]; omega
          · obtain rfl : j = M := by omega
            have HRR := Lib.hid HR.out
            clear HR
            go_wp2_with fail
            go_meet
            exact Lib.hid ⟨outs, st, ov, HRR.out.1, HRR.out.2.1⟩
      case rest =>
        obtain ⟨outs, st, ov, hps, hou⟩ := hcut.out
        obtain ⟨A1, c1, hcv, _, _⟩ := own_slice hps.code
        obtain ⟨A2, c2, hov, _, _⟩ := own_slice hps.outs
        subst hcv hov
        have p0 := hps.p0
        have p1 := hps.p1
        have p2 := hps.p2
        have p3 := hps.p3
        have z0 := cell_of_row wc w.heap.size 0 _ 26 (0, 0) hps.rblk
        have z1 := cell_of_row wc w.heap.size 1 _ 26 (0, 0) hps.rblk
        have z2 := cell_of_row wc w.heap.size 2 _ 26 (0, 0) hps.rblk
        have z3 := cell_of_row wc w.heap.size 3 _ 26 (0, 0) hps.rblk
        have zf0 := frozen_of_row wc w.heap.size 0 _ 26 hps.rblk
        have zf1 := frozen_of_row wc w.heap.size 1 _ 26 hps.rblk
        have zf2 := frozen_of_row wc w.heap.size 2 _ 26 hps.rblk
        have zf3 := frozen_of_row wc w.heap.size 3 _ 26 hps.rblk
        have HRR := Lib.hid hps
        have HOU := Lib.hid hou
        clear hcut hps hou
        go_wp2_with fail
        try rw [Exit.noGoto_ret]
        obtain ⟨F1, F2, F3⟩ := HRR.out.final (.int .i64 x1) (.int .i64 x2) (.slice A1 code.length c1) (.slice A2 outs.length c2)
        have hz := set4_blk (a0 := .int .i64 x1) (a1 := .int .i64 x2) (a2 := .slice A1 code.length c1) (a3 := .slice A2 outs.length c2) HRR.out.rblk
        refine bodyPost_ret (v := .agg #[.int .i64 x1, .int .i64 x2, .slice A1 code.length c1, .slice A2 outs.length c2]) ?_ rfl ?_
        · have c0 := cell_of_row _ w.heap.size 0 _ 26 (0, 0) hz
          have c1' := cell_of_row _ w.heap.size 1 _ 26 (0, 0) hz
          have c2' := cell_of_row _ w.heap.size 2 _ 26 (0, 0) hz
          have c3 := cell_of_row _ w.heap.size 3 _ 26 (0, 0) hz
          simp at c0 c1' c2' c3
          simp [results, Try.results47, go_sem, c0, c1', c2', c3]
        · exact ⟨⟨x1, x2, code, outs⟩, ⟨A1, c1, A2, c2⟩, st, rfl, F1, F2, F3, HO1.out.pr HO2.out (show Out rCount bs _ N s4 from by rw [HN.out]; exact HO34.out) HOC.out HO6.out HOU.out⟩
end Go.Proofs.Ytcelcognmdcenaa
