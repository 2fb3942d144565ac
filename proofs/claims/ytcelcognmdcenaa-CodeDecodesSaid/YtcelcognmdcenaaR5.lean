/-
  WALKS: the reference's reader: a unit.
-/
import Derived.Test.YtcelcognmdcenaaR5a
namespace Go.Proofs.Ytcelcognmdcenaa
open Go.RowKit

set_option maxRecDepth 100000 in
set_option maxHeartbeats 8000000 in
theorem decode24 {w : World} {A : Option Addr} {n c : Nat} {bs : List Nat} (h : Reads w 1 (.slice A n c) n (vB bs)) (hb : ∀ x ∈ bs, x < 256) (hn : n ≤ 4294967296) (hnc : n ≤ c) :
    Calls Try.prog 24 #[.slice A n c] w (DecOut24 w bs) := by
  have HH := Lib.hid h
  have HB := Lib.hid hb
  have HAB : Hid (∀ b o, A = some ⟨b, o, none⟩ → 0 < n → b < w.heap.size) := fun b o hA hn => by
    obtain ⟨b', o', e, hlt, _⟩ := h.bytes.2 hn
    rw [hA] at e; cases e; exact hlt
  clear h hb
  go_enter Try.func24, Try.ntmps24
  go_upto_block 0 with (fail)
  have hds : ES w (esW w A n c) (w.heap.size + 1) A n c bs (0, false) w.heap.size (w.heap.size + 1 + 1) := ES.init HH.out HB.out HAB.out
  unfold esW Z15 at hds
  have HDS := Lib.hid hds
  clear hds
  generalize ((w.alloc (.cells #[.int .i64 0, .int .i64 0, .slice none 0 0, .int .i64 0, .int .i64 0, .slice none 0 0, .slice none 0 0, .int .i64 0, .int .i64 0, .slice none 0 0, .slice none 0 0, .int .i64 0, .int .i64 0, .slice none 0 0, .slice none 0 0] 28)).alloc (.cells #[.slice A n c, .int .i64 0, .int .i64 (-1)] 84)).alloc (.cells #[.int .i64 65, .int .i64 78, .int .i64 86, .int .i64 49] 85) = w1 at *
  generalize hmb : w.heap.size + 1 + 1 = mb at *
  generalize hr : w.heap.size + 1 = r at *
  clear hmb hr
  go_cut [6] from 16 to 27 (fun _ wx => Hid (∃ st, ES w wx r A n c bs st w.heap.size mb ∧ HO bs 4 st))
  case first =>
    go_wp2_with fail
    go_loopw [6] (fun k wr => ∃ (j : Nat) (st : Nat × Bool), j ≤ 4 ∧ k = .int .i64 j ∧ Hid (ES w wr r A n c bs st w.heap.size mb ∧ HO bs j st)) (fun k _ => 4 - (intOf k).toNat)
    case atStart => exact ⟨0, (0, false), by omega, rfl, HDS.out, rfl⟩
    case round =>
      obtain ⟨j, st, hj, rfl, HR⟩ := hrel
      by_cases hlt : j < 4
      · have hce := HR.out.1.cell hlt
        have hx2 := mk_lt j
        have HNX := Lib.hid (fun (x : Int) (s : Nat × Bool) (h : Out (rNum (mkB j) (mkB j)) bs st x s) => (show HO bs (j + 1) s from ⟨st, x, HR.out.2, h⟩))
        have HC := Lib.hid (num45 (HR.out.1.rd.below ((Below.refl wr.heap.size wr).drew)) (mkB j) (mkB j))
        have HGD : Hid (wr.grownBy wr.drew (some r)) := ⟨rfl, rfl, rfl, Nat.le_refl _, fun _ _ _ => rfl⟩
        have hml : mb < wr.heap.size := (Array.getElem?_eq_some_iff.1 HR.out.1.mblk).1
        have hmr : mb ≠ r := by have := HR.out.1.rm; omega
        generalize mkB j = x at *
        go_wp2_with fail
        go_region_held3 (fun w' => w'.cell? ⟨mb, j, none⟩ = some (.int .i64 (x : Nat)))
          (first | go_keep | with_reducible exact qa)
          (first
            | (go_at_call 45; (with_reducible refine HC.out.mono ?_); rintro e w2 ⟨y, s2, rfl, hy, hr2, hg2, ho2⟩; have HDS2 := Lib.hid (HR.out.1.keep (HGD.out.trans' hg2) hr2); have HO2 := Lib.hid (HNX.out y s2 ho2); have qa : w2.cell? ⟨mb, j, none⟩ = some (.int .i64 (x : Nat)) := (cell_keep (j := j) (HGD.out.trans' hg2) hml hmr).trans hce; clear hr2 hg2 ho2))
        go_wp2_with fail
        go_roundw
        case rel => exact ⟨j + 1, s2, by omega, by go_num, Lib.hid ⟨HDS2.out, HO2.out⟩⟩
        case measure => simp [intOf]; omega
      · obtain rfl : j = 4 := by omega
        have HRR := Lib.hid HR.out
        clear HR
        go_wp2_with fail
        go_meet
        exact Lib.hid ⟨st, HRR.out.1, HRR.out.2⟩
  case rest =>
    obtain ⟨s4, hds, hho⟩ := hcut.out
    have HM := Lib.hid hho
    have HU := Lib.hid hds.start
    unfold Z15 at HU
    clear hcut hds hho HDS
    have HC := Lib.hid (num45 HU.out.rd 1 8)
    go_wp2_with fail
    (with_reducible refine HC.out.mono ?_)
    rintro e w2 ⟨x1, s5, rfl, hx1, hr1, hg1, ho1⟩
    generalize hub : wc.heap.size = ub at *
    clear hub
    have HU1 := Lib.hid (HU.out.keep hg1 hr1)
    have y0 : w2.cell? ⟨ub, 0, none⟩ = some (.int .i64 0) := HU1.out.cell 0
    have f0 := HU1.out.fz 0
    have HU2 := Lib.hid (HU1.out.set (L' := L0) (u' := ⟨x1, 0, [], p0, p0, p0⟩) 0 (.int .i64 x1) (by simp [UnV.cells]) (UnOwn.zero _ _ _ _))
    have HO1 := Lib.hid ho1
    clear HC HU hr1 hg1 ho1 HU1
    go_upto_region 9 with (fail)
    generalize w2.setCell ⟨ub, 0, none⟩ (.int .i64 x1) = w2' at *
    clear y0 f0
    have HC := Lib.hid (num45 HU2.out.rd 1 8)
    go_wp2_with fail
    (with_reducible refine HC.out.mono ?_)
    rintro e w3 ⟨x2, s6, rfl, hx2, hr1, hg1, ho2⟩
    have HU3 := Lib.hid (HU2.out.keep hg1 hr1)
    have y0 : w3.cell? ⟨ub, 1, none⟩ = some (.int .i64 0) := HU3.out.cell 1
    have f0 := HU3.out.fz 1
    have HU4 := Lib.hid (HU3.out.set (L' := L0) (u' := ⟨x1, x2, [], p0, p0, p0⟩) 1 (.int .i64 x2) (by simp [UnV.cells]) (UnOwn.zero _ _ _ _))
    have HO2 := Lib.hid ho2
    clear HC HU2 hr1 hg1 ho2 HU3
    go_upto_region 10 with (fail)
    generalize w3.setCell ⟨ub, 1, none⟩ (.int .i64 x2) = w3' at *
    clear y0 f0
    have HC := Lib.hid (num45 HU4.out.rd 0 255)
    go_wp2_with fail
    (with_reducible refine HC.out.mono ?_)
    rintro e w5 ⟨x3, s3, rfl, hx3, hr3, hg3, ho3⟩
    have HU5 := Lib.hid (HU4.out.keep hg3 hr3)
    have HO3 := Lib.hid ho3
    clear HC HU4 hr3 hg3 ho3
    obtain ⟨M, hM⟩ := Int.eq_ofNat_of_zero_le hx3.1
    have hM2 : M < 256 := by omega
    subst hM
    clear hx3
    obtain ⟨i48, hi, hz0, hz1, hz2⟩ := info_parts info48
    go_upto_block 2 with (fail)
    go_cut [9, 10] from 36 to 58 (fun _ _ wx => Hid (∃ pts P cc st, TS w wx r A n c bs st ub w.heap.size ⟨P, cc, Lp0, Lp0, Lp0⟩ ⟨x1, x2, pts, p0, p0, p0⟩ ∧ Out (rMany rPt M) bs s3 pts st))
    case first =>
      go_wp2_with fail
      go_loopw [9] (fun k wr => ∃ (j : Nat) (pts : List (Int × Int)) (P : Option Addr) (cc : Nat) (st : Nat × Bool), j ≤ M ∧ k = .int .i64 j ∧ Hid (TS w wr r A n c bs st ub w.heap.size ⟨P, cc, Lp0, Lp0, Lp0⟩ ⟨x1, x2, pts, p0, p0, p0⟩ ∧ Out (rMany rPt j) bs s3 pts st ∧ pts.length = j)) (fun k _ => M - (intOf k).toNat)
      case atStart => exact ⟨0, [], none, 0, s3, Nat.zero_le _, rfl, HU5.out, Out.nil _ _ _, rfl⟩
      case round =>
        obtain ⟨j, pts, P, cc, st, hj, rfl, HR⟩ := hrel
        by_cases hlt : j < M
        · obtain ⟨ps, wrs⟩ := st
          have b2 := HR.out.1.rd.c2
          simp only at b2
          cases wrs with
          | true =>
            simp only [if_true] at b2
            have hneg : decide ((ps : Int) < 0) = false := by simp
            go_wp2_with fail
            go_meet
            exact Lib.hid ⟨pts, P, cc, (ps, true), HR.out.1, HR.out.2.1.stop rfl (Nat.le_of_lt hlt) pts⟩
          | false =>
            simp only [Bool.false_eq_true, if_false] at b2
            have HC := Lib.hid (coord46 HR.out.1.rd)
            have hol : pts.length < 4294967296 := by have := HR.out.2.2; omega
            have HLJ := Lib.hid HR.out.2.2
            go_wp2_with fail
            (with_reducible refine HC.out.mono ?_)
            rintro e w6 ⟨xa, sa, rfl, hxa, hra, hga, hoa⟩
            have HUA := Lib.hid (HR.out.1.keep hga hra)
            have HOA := Lib.hid hoa
            have HCQ := Lib.hid (coord46 (hra.below ((Below.refl w6.heap.size w6).drew)))
            have HGA : Hid (w6.grownBy w6.drew (some r)) := ⟨rfl, rfl, rfl, Nat.le_refl _, fun _ _ _ => rfl⟩
            have q2 : w6.cell? ⟨ub, 2, none⟩ = some (.slice P pts.length cc) := HUA.out.cell 2
            clear HC hra hga hoa
            go_wp2_with fail
            go_region_law
              (first
                | (refine step_appS rfl (.tmp 51) (.tmp 56) 22 rfl (r + 1) 48 i48 (.agg #[.int .i64 0, .int .i64 0]) 2 16 Try.underlying22 hi hz0 hz1 hz2 rfl (by decide) (by decide) (.slice P pts.length cc) pts.length (vP pts) (by rfl) (HUB.out.own.pts.alloc _) w7.heap.size (cP (xa, xb)) (by rfl) rfl (cP_cells w7 (xa, xb)) (cP_one _) hol HRB.out ?_; intro v' w8 hob hgb _; obtain ⟨Ab, cb, rfl, _, _⟩ := own_slice hob
                   have q11 : w8.heap[ub]? = some (.cells (UnV.cells ⟨P, cc, Lp0, Lp0, Lp0⟩ ⟨x1, x2, pts, p0, p0, p0⟩) 28 (0, 0)) := (hgb.block ub (Nat.lt_of_lt_of_le hubl (by simp)) (fun e => own_blk_ne HUB.out.own.pts HUB.out.ublk (by decide) e.symm)).trans ((Below.heap_alloc _ _ _ hubl).trans HUB.out.ublk)
                   have c11 : w8.cell? ⟨ub, 2, none⟩ = some (.slice P pts.length cc) := cell_of_row w8 ub 2 _ 28 (0, 0) q11
                   have f11 := frozen_of_row w8 ub 2 _ 28 q11
                   have HU11 := Lib.hid ((HUB.out.alloc (.cells #[.int .i64 xa, .int .i64 xb] 48)).push (x := (xa, xb)) rfl hgb hob)
                   clear hob hgb q11)
                | (go_simp; go_at_call 46; (with_reducible refine HCQ.out.mono ?_); rintro e w7 ⟨xb, sb', rfl, hxb, hrb, hgb, hob⟩
                   have HUB := Lib.hid (HUA.out.keep (HGA.out.trans' hgb) hrb)
                   have HOB := Lib.hid hob
                   have hubl := HUB.out.ult
                   have HRB : Hid (r + 1 ≤ (w7.alloc (.cells #[.int .i64 xa, .int .i64 xb] 48)).heap.size) := Lib.hid (Nat.le_trans (Nat.le_of_lt (Nat.lt_of_le_of_lt HUB.out.ru hubl)) (by simp))
                   have a2 : w7.cell? ⟨ub, 2, none⟩ = some (.slice P pts.length cc) := HUB.out.cell 2
                   have ka2 : ∀ o, (w7.alloc o).cell? ⟨ub, 2, none⟩ = some (.slice P pts.length cc) := fun o => cell_al a2 o
                   clear hrb hgb hob))
            all_goals
              go_wp2_with fail
              go_roundw
              case rel => exact ⟨j + 1, _, _, _, _, by omega, by go_num, Lib.hid ⟨HU11.out, HR.out.2.1.snoc (HOA.out.seq (r2 := fun _ => rCoord) HOB.out), by rw [List.length_append, HLJ.out]; rfl⟩⟩
              case measure => simp [intOf]; omega
        · obtain rfl : j = M := by omega
          have HRR := Lib.hid HR.out
          clear HR
          go_wp2_with fail
          go_meet
          exact Lib.hid ⟨pts, P, cc, st, HRR.out.1, HRR.out.2.1⟩
    case rest =>
      obtain ⟨pts, P, cc, s8, hus, hop⟩ := hcut.out
      have HU6 := Lib.hid hus
      have HO4 := Lib.hid hop
      have HRU : Hid (r + 1 ≤ wc.heap.size) := Lib.hid (Nat.le_trans (Nat.le_of_lt (Nat.lt_of_le_of_lt hus.ru hus.ult)) (Nat.le_refl _))
      clear hcut hus hop HU5
      have HC := Lib.hid (program47 HU6.out.rd)
      go_wp2_with fail
      (with_reducible refine HC.out.mono ?_)
      rintro e wp ⟨pl, Ll, t1, he, ho9, hr9, hg9, hou⟩
      simp only [PrV.val] at he
      subst he
      have HU7 := Lib.hid (HU6.out.keep hg9 hr9)
      have y0 := HU7.out.cell 3
      have y1 := HU7.out.cell 4
      have y2 := HU7.out.cell 5
      have y3 := HU7.out.cell 6
      simp only [UnV.cells] at y0 y1 y2 y3
      change wp.cell? _ = some _ at y0
      change wp.cell? _ = some _ at y1
      change wp.cell? _ = some _ at y2
      change wp.cell? _ = some _ at y3
      have f0 := HU7.out.fz 3
      have f1 := HU7.out.fz 4
      have f2 := HU7.out.fz 5
      have f3 := HU7.out.fz 6
      have HU10 := Lib.hid (HU7.out.setPr (L' := ⟨P, cc, Ll, Lp0, Lp0⟩) (u' := ⟨x1, x2, pts, pl, p0, p0⟩) 3 (.int .i64 pl.ins) (.int .i64 pl.regs) (.slice Ll.A pl.code.length Ll.c) (.slice Ll.B pl.outs.length Ll.d) (by simp [UnV.cells]) ⟨HU7.out.own.pts, ho9.base HRU.out, HU7.out.own.r, HU7.out.own.b⟩)
      have HP0 := Lib.hid hou
      clear hg9 hr9 ho9 hou HC HU7 HU6 HRU
      go_upto_region 17 with (fail)
      have HRU : Hid (r + 1 ≤ _) := Lib.hid (Nat.le_trans (Nat.le_of_lt (Nat.lt_of_le_of_lt HU10.out.ru HU10.out.ult)) (Nat.le_refl _))
      generalize (((wp.setCell ⟨ub, 3, none⟩ (.int .i64 pl.ins)).setCell ⟨ub, 4, none⟩ (.int .i64 pl.regs)).setCell ⟨ub, 5, none⟩ (.slice Ll.A pl.code.length Ll.c)).setCell ⟨ub, 6, none⟩ (.slice Ll.B pl.outs.length Ll.d) = wp' at *
      clear y0 y1 y2 y3 f0 f1 f2 f3
      have HC := Lib.hid (program47 HU10.out.rd)
      go_wp2_with fail
      (with_reducible refine HC.out.mono ?_)
      rintro e wq ⟨pr, Lr, t2, he, ho9, hr9, hg9, hou⟩
      simp only [PrV.val] at he
      subst he
      have HU7 := Lib.hid (HU10.out.keep hg9 hr9)
      have y0 := HU7.out.cell 7
      have y1 := HU7.out.cell 8
      have y2 := HU7.out.cell 9
      have y3 := HU7.out.cell 10
      simp only [UnV.cells] at y0 y1 y2 y3
      change wq.cell? _ = some _ at y0
      change wq.cell? _ = some _ at y1
      change wq.cell? _ = some _ at y2
      change wq.cell? _ = some _ at y3
      have f0 := HU7.out.fz 7
      have f1 := HU7.out.fz 8
      have f2 := HU7.out.fz 9
      have f3 := HU7.out.fz 10
      have HU11 := Lib.hid (HU7.out.setPr (L' := ⟨P, cc, Ll, Lr, Lp0⟩) (u' := ⟨x1, x2, pts, pl, pr, p0⟩) 7 (.int .i64 pr.ins) (.int .i64 pr.regs) (.slice Lr.A pr.code.length Lr.c) (.slice Lr.B pr.outs.length Lr.d) (by simp [UnV.cells]) ⟨HU7.out.own.pts, HU7.out.own.l, ho9.base HRU.out, HU7.out.own.b⟩)
      have HP1 := Lib.hid hou
      clear hg9 hr9 ho9 hou HC HU7 HU10 HRU
      go_upto_region 18 with (fail)
      have HRU : Hid (r + 1 ≤ _) := Lib.hid (Nat.le_trans (Nat.le_of_lt (Nat.lt_of_le_of_lt HU11.out.ru HU11.out.ult)) (Nat.le_refl _))
      generalize (((wq.setCell ⟨ub, 7, none⟩ (.int .i64 pr.ins)).setCell ⟨ub, 8, none⟩ (.int .i64 pr.regs)).setCell ⟨ub, 9, none⟩ (.slice Lr.A pr.code.length Lr.c)).setCell ⟨ub, 10, none⟩ (.slice Lr.B pr.outs.length Lr.d) = wq' at *
      clear y0 y1 y2 y3 f0 f1 f2 f3
      have HC := Lib.hid (program47 HU11.out.rd)
      go_wp2_with fail
      (with_reducible refine HC.out.mono ?_)
      rintro e wv ⟨pb, Lb, t3, he, ho9, hr9, hg9, hou⟩
      simp only [PrV.val] at he
      subst he
      have HU7 := Lib.hid (HU11.out.keep hg9 hr9)
      have y0 := HU7.out.cell 11
      have y1 := HU7.out.cell 12
      have y2 := HU7.out.cell 13
      have y3 := HU7.out.cell 14
      simp only [UnV.cells] at y0 y1 y2 y3
      change wv.cell? _ = some _ at y0
      change wv.cell? _ = some _ at y1
      change wv.cell? _ = some _ at y2
      change wv.cell? _ = some _ at y3
      have f0 := HU7.out.fz 11
      have f1 := HU7.out.fz 12
      have f2 := HU7.out.fz 13
      have f3 := HU7.out.fz 14
      have HU12 := Lib.hid (HU7.out.setPr (L' := ⟨P, cc, Ll, Lr, Lb⟩) (u' := ⟨x1, x2, pts, pl, pr, pb⟩) 11 (.int .i64 pb.ins) (.int .i64 pb.regs) (.slice Lb.A pb.code.length Lb.c) (.slice Lb.B pb.outs.length Lb.d) (by simp [UnV.cells]) ⟨HU7.out.own.pts, HU7.out.own.l, HU7.out.own.r, ho9.base HRU.out⟩)
      have HP2 := Lib.hid hou
      clear hg9 hr9 ho9 hou HC HU7 HU11 HRU
      go_upto_region 19 with (fail)
      have HRU : Hid (r + 1 ≤ _) := Lib.hid (Nat.le_trans (Nat.le_of_lt (Nat.lt_of_le_of_lt HU12.out.ru HU12.out.ult)) (Nat.le_refl _))
      generalize (((wv.setCell ⟨ub, 11, none⟩ (.int .i64 pb.ins)).setCell ⟨ub, 12, none⟩ (.int .i64 pb.regs)).setCell ⟨ub, 13, none⟩ (.slice Lb.A pb.code.length Lb.c)).setCell ⟨ub, 14, none⟩ (.slice Lb.B pb.outs.length Lb.d) = wv' at *
      clear y0 y1 y2 y3 f0 f1 f2 f3
      have HBD := Lib.hid (Out.body HM.out HO1.out HO2.out HO3.out HO4.out HP0.out HP1.out HP2.out)
      obtain ⟨u, hu⟩ : ∃ u : Un, u = ⟨x1, x2, pts, pl, pr, pb⟩ := ⟨_, rfl⟩
      obtain ⟨L, hL⟩ : ∃ L : UnV, L = ⟨P, cc, Ll, Lr, Lb⟩ := ⟨_, rfl⟩
      rw [← hu] at HBD HU12
      rw [← hL] at HU12
      have HU := HU12
      clear HU12 hu hL HO1 HO2 HO3 HO4 HM HP0 HP1 HP2 HRU
      obtain ⟨q, wr9⟩ := t3
      have hq : q ≤ n := HU.out.rd.le
      have d0 := HU.out.rd.c0
      have d1 := HU.out.rd.c1
      have d2 := HU.out.rd.c2
      simp only at d1 d2
      cases wr9 with
      | true =>
        simp only [if_true] at d2
        have hneg : decide ((q : Int) < 0) = false := by simp
        have hge : decide ((0 : Int) ≤ (q : Int)) = true := by simp
        have HDE : Hid (dec bs = .error q) := Lib.hid (dec_bad HBD.out.allBad (.inl rfl))
        go_wp2_with fail
        have z0 : wv'.cell? ⟨w.heap.size, 0, none⟩ = some (.int .i64 0) := cell_of_row wv' w.heap.size 0 _ 28 (0, 0) HU.out.rblk
        have zf0 := frozen_of_row wv' w.heap.size 0 _ 28 HU.out.rblk
        have z1 : wv'.cell? ⟨w.heap.size, 1, none⟩ = some (.int .i64 0) := cell_of_row wv' w.heap.size 1 _ 28 (0, 0) HU.out.rblk
        have zf1 := frozen_of_row wv' w.heap.size 1 _ 28 HU.out.rblk
        have z2 : wv'.cell? ⟨w.heap.size, 2, none⟩ = some (.slice none 0 0) := cell_of_row wv' w.heap.size 2 _ 28 (0, 0) HU.out.rblk
        have zf2 := frozen_of_row wv' w.heap.size 2 _ 28 HU.out.rblk
        have z3 : wv'.cell? ⟨w.heap.size, 3, none⟩ = some (.int .i64 0) := cell_of_row wv' w.heap.size 3 _ 28 (0, 0) HU.out.rblk
        have zf3 := frozen_of_row wv' w.heap.size 3 _ 28 HU.out.rblk
        have z4 : wv'.cell? ⟨w.heap.size, 4, none⟩ = some (.int .i64 0) := cell_of_row wv' w.heap.size 4 _ 28 (0, 0) HU.out.rblk
        have zf4 := frozen_of_row wv' w.heap.size 4 _ 28 HU.out.rblk
        have z5 : wv'.cell? ⟨w.heap.size, 5, none⟩ = some (.slice none 0 0) := cell_of_row wv' w.heap.size 5 _ 28 (0, 0) HU.out.rblk
        have zf5 := frozen_of_row wv' w.heap.size 5 _ 28 HU.out.rblk
        have z6 : wv'.cell? ⟨w.heap.size, 6, none⟩ = some (.slice none 0 0) := cell_of_row wv' w.heap.size 6 _ 28 (0, 0) HU.out.rblk
        have zf6 := frozen_of_row wv' w.heap.size 6 _ 28 HU.out.rblk
        have z7 : wv'.cell? ⟨w.heap.size, 7, none⟩ = some (.int .i64 0) := cell_of_row wv' w.heap.size 7 _ 28 (0, 0) HU.out.rblk
        have zf7 := frozen_of_row wv' w.heap.size 7 _ 28 HU.out.rblk
        have z8 : wv'.cell? ⟨w.heap.size, 8, none⟩ = some (.int .i64 0) := cell_of_row wv' w.heap.size 8 _ 28 (0, 0) HU.out.rblk
        have zf8 := frozen_of_row wv' w.heap.size 8 _ 28 HU.out.rblk
        have z9 : wv'.cell? ⟨w.heap.size, 9, none⟩ = some (.slice none 0 0) := cell_of_row wv' w.heap.size 9 _ 28 (0, 0) HU.out.rblk
        have zf9 := frozen_of_row wv' w.heap.size 9 _ 28 HU.out.rblk
        have z10 : wv'.cell? ⟨w.heap.size, 10, none⟩ = some (.slice none 0 0) := cell_of_row wv' w.heap.size 10 _ 28 (0, 0) HU.out.rblk
        have zf10 := frozen_of_row wv' w.heap.size 10 _ 28 HU.out.rblk
        have z11 : wv'.cell? ⟨w.heap.size, 11, none⟩ = some (.int .i64 0) := cell_of_row wv' w.heap.size 11 _ 28 (0, 0) HU.out.rblk
        have zf11 := frozen_of_row wv' w.heap.size 11 _ 28 HU.out.rblk
        have z12 : wv'.cell? ⟨w.heap.size, 12, none⟩ = some (.int .i64 0) := cell_of_row wv' w.heap.size 12 _ 28 (0, 0) HU.out.rblk
        have zf12 := frozen_of_row wv' w.heap.size 12 _ 28 HU.out.rblk
        have z13 : wv'.cell? ⟨w.heap.size, 13, none⟩ = some (.slice none 0 0) := cell_of_row wv' w.heap.size 13 _ 28 (0, 0) HU.out.rblk
        have zf13 := frozen_of_row wv' w.heap.size 13 _ 28 HU.out.rblk
        have z14 : wv'.cell? ⟨w.heap.size, 14, none⟩ = some (.slice none 0 0) := cell_of_row wv' w.heap.size 14 _ 28 (0, 0) HU.out.rblk
        have zf14 := frozen_of_row wv' w.heap.size 14 _ 28 HU.out.rblk
        have hn3 : ¬ w.heap.size = r := by have := HU.out.rr; omega
        have hn4 : ¬ r = w.heap.size := by have := HU.out.rr; omega
        go_region
        all_goals
          go_wp2_with fail
          obtain ⟨F1, F2, _⟩ := fin24 (a0 := .int .i64 0) (a1 := .int .i64 0) (a2 := .slice none 0 0) (a3 := .int .i64 0) (a4 := .int .i64 0) (a5 := .slice none 0 0) (a6 := .slice none 0 0) (a7 := .int .i64 0) (a8 := .int .i64 0) (a9 := .slice none 0 0) (a10 := .slice none 0 0) (a11 := .int .i64 0) (a12 := .int .i64 0) (a13 := .slice none 0 0) (a14 := .slice none 0 0) HU.out.bel HU.out.rge HU.out.rblk
          unfold set15 at F1 F2
          have F4 := F1.drew
          generalize (((((((((((((((wv'.setCell ⟨w.heap.size, 0, none⟩ (.int .i64 0)).setCell ⟨w.heap.size, 1, none⟩ (.int .i64 0)).setCell ⟨w.heap.size, 2, none⟩ (.slice none 0 0)).setCell ⟨w.heap.size, 3, none⟩ (.int .i64 0)).setCell ⟨w.heap.size, 4, none⟩ (.int .i64 0)).setCell ⟨w.heap.size, 5, none⟩ (.slice none 0 0)).setCell ⟨w.heap.size, 6, none⟩ (.slice none 0 0)).setCell ⟨w.heap.size, 7, none⟩ (.int .i64 0)).setCell ⟨w.heap.size, 8, none⟩ (.int .i64 0)).setCell ⟨w.heap.size, 9, none⟩ (.slice none 0 0)).setCell ⟨w.heap.size, 10, none⟩ (.slice none 0 0)).setCell ⟨w.heap.size, 11, none⟩ (.int .i64 0)).setCell ⟨w.heap.size, 12, none⟩ (.int .i64 0)).setCell ⟨w.heap.size, 13, none⟩ (.slice none 0 0)).setCell ⟨w.heap.size, 14, none⟩ (.slice none 0 0)) = WF at *
          refine bodyPost_ret (dec_ret24 (W := WF.drew) (rb := w.heap.size) F2 rfl rfl) rfl ?_
          refine ⟨F4, ?_⟩
          rw [HDE.out]
          rfl
      | false =>
        simp only [Bool.false_eq_true, if_false] at d2
        have hlen := HU.out.rd.len
        have HLEN := Lib.hid hlen
        have HC := Lib.hid (check44 A q c (bs.take q) wv' (HU.out.rd.bytes.take hq) (fun x hx => HB.out x (List.mem_of_mem_take hx)) (by omega))
        have hK := chk_lt (bs.take q)
        have HQ : Hid (q ≤ bs.length) := Lib.hid (by rw [hlen]; exact hq)
        have HCHK := Lib.hid (fun (y : Int × Int) (s2 : Nat × Bool) h => Out.all (y := y) (s2 := s2) HBD.out HQ.out h)
        have HNN : Hid (A = none → n = 0 ∧ c = 0) := fun e => by
          obtain ⟨_, _, A', c', h3, h4, _⟩ := HH.out
          cases h3
          exact h4 e
        clear hlen
        cases A with
        | none =>
          have h0 := (HNN.out rfl).1
          have h7 := body_pos HBD.out
          omega
        | some ad =>
          clear HNN
          generalize chk (bs.take q) = K at *
          have HC2 := Lib.hid (two43 (K : Int) wv' (by omega) (by omega))
          go_wp2_with fail
          (with_reducible refine HC.out.mono ?_)
          rintro e w9 ⟨rfl, rfl⟩
          go_wp2_with fail
          (with_reducible refine HC2.out.mono ?_)
          rintro e w10 ⟨v', rfl, ho, hbl⟩
          obtain ⟨A2, c2, rfl, _, _⟩ := own_slice ho
          obtain ⟨_, hq2⟩ := (Reads.of_own ho).bytes
          obtain ⟨b2, o2, rfl, hb2, hc2⟩ := hq2 (by omega)
          have hbw : wv'.heap.size ≤ b2 := (ho.lt b2 rfl).1
          have k0 : w10.cell? ⟨b2, o2, none⟩ = some (.int .u8 (by8 ((K : Int) / 256) : Nat)) := hc2 0 _ rfl
          have k1 : w10.cell? ⟨b2, o2 + 1, none⟩ = some (.int .u8 (by8 (K : Int) : Nat)) := hc2 1 _ rfl
          have hm0 : ((by8 ((K : Int) / 256) : Nat) : Int) = ((K / 256 : Nat) : Int) := by unfold by8; omega
          have hm1 : ((by8 (K : Int) : Nat) : Int) = ((K % 256 : Nat) : Int) := by unfold by8; omega
          have hl0 := by8_lt ((K : Int) / 256)
          have hl1 := by8_lt (K : Int)
          have HO7 := Lib.hid (fun (y1 y2 : Int) (t1 t2 : Nat × Bool) h1 h2 => HCHK.out (y1, y2) t2 (Out.chk (s1 := t1) hm0 hm1 h1 h2))
          have HU10 := Lib.hid (HU.out.below hbl)
          have hbr : b2 ≠ r := by have := HU.out.rd.rlt; omega
          generalize by8 ((K : Int) / 256) = m0 at *
          generalize by8 (K : Int) = m1 at *
          clear HC HC2 HCHK hm0 hm1 ho hc2 hbl d0 d1 d2 HU
          have HC3 := Lib.hid (num45 (HU10.out.rd.below ((Below.refl w10.heap.size w10).drew)) (m0 : Int) (m0 : Int))
          have HW0 : Hid (IntKind.i64.wrap (m0 : Int) = m0) := Lib.hid (IntWalk.i64_in _ (by omega))
          have HW1 : Hid (IntKind.i64.wrap (m1 : Int) = m1) := Lib.hid (IntWalk.i64_in _ (by omega))
          have HGD : Hid (w10.grownBy w10.drew (some r)) := ⟨rfl, rfl, rfl, Nat.le_refl _, fun _ _ _ => rfl⟩
          go_wp2_with fail
          go_region_held3 (fun w' => w'.cell? ⟨b2, o2, none⟩ = some (.int .u8 (m0 : Nat)))
            (first | go_keep | with_reducible exact qa)
            (first
              | (go_at_call 45; rw [HW0.out]; (with_reducible refine HC3.out.mono ?_); rintro e w11 ⟨y1, s1, rfl, hy1, hr1, hg1, ho1⟩; have HU11 := Lib.hid (HU10.out.keep (HGD.out.trans' hg1) hr1); have HO8 := Lib.hid (fun y2 t2 h2 => HO7.out y1 y2 s1 t2 ho1 h2); have qa : w11.cell? ⟨b2, o2, none⟩ = some (.int .u8 (m0 : Nat)) := (cell_keep (j := o2) (HGD.out.trans' hg1) hb2 hbr).trans k0; have qb : w11.cell? ⟨b2, o2 + 1, none⟩ = some (.int .u8 (m1 : Nat)) := (cell_keep (j := o2 + 1) (HGD.out.trans' hg1) hb2 hbr).trans k1; have qs : b2 < w11.heap.size := Nat.lt_of_lt_of_le hb2 (HGD.out.trans' hg1).size; clear hr1 hg1 ho1))
          clear HC3 HO7 HU10 HGD k0 k1 qa hb2
          have HC3 := Lib.hid (num45 (HU11.out.rd.below ((Below.refl w11.heap.size w11).drew)) (m1 : Int) (m1 : Int))
          have HGD : Hid (w11.grownBy w11.drew (some r)) := ⟨rfl, rfl, rfl, Nat.le_refl _, fun _ _ _ => rfl⟩
          go_wp2_with fail
          go_region_held3 (fun w' => w'.cell? ⟨b2, o2 + 1, none⟩ = some (.int .u8 (m1 : Nat)))
            (first | go_keep | with_reducible exact qc | with_reducible exact qb)
            (first
              | (go_at_call 45; rw [HW1.out]; (with_reducible refine HC3.out.mono ?_); rintro e w12 ⟨y2, s2, rfl, hy2, hr1, hg1, ho1⟩; have HU := Lib.hid (HU11.out.keep (HGD.out.trans' hg1) hr1); have HOA := Lib.hid (HO8.out y2 s2 ho1); have qc : w12.cell? ⟨b2, o2 + 1, none⟩ = some (.int .u8 (m1 : Nat)) := (cell_keep (j := o2 + 1) (HGD.out.trans' hg1) qs hbr).trans qb; clear hr1 hg1 ho1))
          clear HC3 HO8 HU11 HGD qb qc qs
          obtain ⟨q2, wr2⟩ := s2
          have hq2' : q2 ≤ n := HU.out.rd.le
          have d0 := HU.out.rd.c0
          have d1 := HU.out.rd.c1
          have d2 := HU.out.rd.c2
          simp only at d1 d2
          cases wr2 with
          | true =>
            simp only [if_true] at d2
            have hneg : decide ((q2 : Int) < 0) = false := by simp
            have hge : decide ((0 : Int) ≤ (q2 : Int)) = true := by simp
            have HDE : Hid (dec bs = .error q2) := Lib.hid (dec_bad HOA.out (.inl rfl))
            go_wp2_with fail
            have z0 : w12.cell? ⟨w.heap.size, 0, none⟩ = some (.int .i64 0) := cell_of_row w12 w.heap.size 0 _ 28 (0, 0) HU.out.rblk
            have zf0 := frozen_of_row w12 w.heap.size 0 _ 28 HU.out.rblk
            have z1 : w12.cell? ⟨w.heap.size, 1, none⟩ = some (.int .i64 0) := cell_of_row w12 w.heap.size 1 _ 28 (0, 0) HU.out.rblk
            have zf1 := frozen_of_row w12 w.heap.size 1 _ 28 HU.out.rblk
            have z2 : w12.cell? ⟨w.heap.size, 2, none⟩ = some (.slice none 0 0) := cell_of_row w12 w.heap.size 2 _ 28 (0, 0) HU.out.rblk
            have zf2 := frozen_of_row w12 w.heap.size 2 _ 28 HU.out.rblk
            have z3 : w12.cell? ⟨w.heap.size, 3, none⟩ = some (.int .i64 0) := cell_of_row w12 w.heap.size 3 _ 28 (0, 0) HU.out.rblk
            have zf3 := frozen_of_row w12 w.heap.size 3 _ 28 HU.out.rblk
            have z4 : w12.cell? ⟨w.heap.size, 4, none⟩ = some (.int .i64 0) := cell_of_row w12 w.heap.size 4 _ 28 (0, 0) HU.out.rblk
            have zf4 := frozen_of_row w12 w.heap.size 4 _ 28 HU.out.rblk
            have z5 : w12.cell? ⟨w.heap.size, 5, none⟩ = some (.slice none 0 0) := cell_of_row w12 w.heap.size 5 _ 28 (0, 0) HU.out.rblk
            have zf5 := frozen_of_row w12 w.heap.size 5 _ 28 HU.out.rblk
            have z6 : w12.cell? ⟨w.heap.size, 6, none⟩ = some (.slice none 0 0) := cell_of_row w12 w.heap.size 6 _ 28 (0, 0) HU.out.rblk
            have zf6 := frozen_of_row w12 w.heap.size 6 _ 28 HU.out.rblk
            have z7 : w12.cell? ⟨w.heap.size, 7, none⟩ = some (.int .i64 0) := cell_of_row w12 w.heap.size 7 _ 28 (0, 0) HU.out.rblk
            have zf7 := frozen_of_row w12 w.heap.size 7 _ 28 HU.out.rblk
            have z8 : w12.cell? ⟨w.heap.size, 8, none⟩ = some (.int .i64 0) := cell_of_row w12 w.heap.size 8 _ 28 (0, 0) HU.out.rblk
            have zf8 := frozen_of_row w12 w.heap.size 8 _ 28 HU.out.rblk
            have z9 : w12.cell? ⟨w.heap.size, 9, none⟩ = some (.slice none 0 0) := cell_of_row w12 w.heap.size 9 _ 28 (0, 0) HU.out.rblk
            have zf9 := frozen_of_row w12 w.heap.size 9 _ 28 HU.out.rblk
            have z10 : w12.cell? ⟨w.heap.size, 10, none⟩ = some (.slice none 0 0) := cell_of_row w12 w.heap.size 10 _ 28 (0, 0) HU.out.rblk
            have zf10 := frozen_of_row w12 w.heap.size 10 _ 28 HU.out.rblk
            have z11 : w12.cell? ⟨w.heap.size, 11, none⟩ = some (.int .i64 0) := cell_of_row w12 w.heap.size 11 _ 28 (0, 0) HU.out.rblk
            have zf11 := frozen_of_row w12 w.heap.size 11 _ 28 HU.out.rblk
            have z12 : w12.cell? ⟨w.heap.size, 12, none⟩ = some (.int .i64 0) := cell_of_row w12 w.heap.size 12 _ 28 (0, 0) HU.out.rblk
            have zf12 := frozen_of_row w12 w.heap.size 12 _ 28 HU.out.rblk
            have z13 : w12.cell? ⟨w.heap.size, 13, none⟩ = some (.slice none 0 0) := cell_of_row w12 w.heap.size 13 _ 28 (0, 0) HU.out.rblk
            have zf13 := frozen_of_row w12 w.heap.size 13 _ 28 HU.out.rblk
            have z14 : w12.cell? ⟨w.heap.size, 14, none⟩ = some (.slice none 0 0) := cell_of_row w12 w.heap.size 14 _ 28 (0, 0) HU.out.rblk
            have zf14 := frozen_of_row w12 w.heap.size 14 _ 28 HU.out.rblk
            have hn3 : ¬ w.heap.size = r := by have := HU.out.rr; omega
            have hn4 : ¬ r = w.heap.size := by have := HU.out.rr; omega
            go_region
            all_goals
              go_wp2_with fail
              obtain ⟨F1, F2, _⟩ := fin24 (a0 := .int .i64 0) (a1 := .int .i64 0) (a2 := .slice none 0 0) (a3 := .int .i64 0) (a4 := .int .i64 0) (a5 := .slice none 0 0) (a6 := .slice none 0 0) (a7 := .int .i64 0) (a8 := .int .i64 0) (a9 := .slice none 0 0) (a10 := .slice none 0 0) (a11 := .int .i64 0) (a12 := .int .i64 0) (a13 := .slice none 0 0) (a14 := .slice none 0 0) HU.out.bel HU.out.rge HU.out.rblk
              unfold set15 at F1 F2
              have F4 := F1.drew
              generalize (((((((((((((((w12.setCell ⟨w.heap.size, 0, none⟩ (.int .i64 0)).setCell ⟨w.heap.size, 1, none⟩ (.int .i64 0)).setCell ⟨w.heap.size, 2, none⟩ (.slice none 0 0)).setCell ⟨w.heap.size, 3, none⟩ (.int .i64 0)).setCell ⟨w.heap.size, 4, none⟩ (.int .i64 0)).setCell ⟨w.heap.size, 5, none⟩ (.slice none 0 0)).setCell ⟨w.heap.size, 6, none⟩ (.slice none 0 0)).setCell ⟨w.heap.size, 7, none⟩ (.int .i64 0)).setCell ⟨w.heap.size, 8, none⟩ (.int .i64 0)).setCell ⟨w.heap.size, 9, none⟩ (.slice none 0 0)).setCell ⟨w.heap.size, 10, none⟩ (.slice none 0 0)).setCell ⟨w.heap.size, 11, none⟩ (.int .i64 0)).setCell ⟨w.heap.size, 12, none⟩ (.int .i64 0)).setCell ⟨w.heap.size, 13, none⟩ (.slice none 0 0)).setCell ⟨w.heap.size, 14, none⟩ (.slice none 0 0)) = WF at *
              refine bodyPost_ret (dec_ret24 (W := WF.drew) (rb := w.heap.size) F2 rfl rfl) rfl ?_
              refine ⟨F4, ?_⟩
              rw [HDE.out]
              rfl
          | false =>
            simp only [Bool.false_eq_true, if_false] at d2
            by_cases hq3 : q2 < n
            · have hge : decide ((0 : Int) ≤ (q2 : Int)) = true := by simp
              have hlt2 : decide ((q2 : Int) < (n : Int)) = true := by simp; omega
              have zf2 := HU.out.rd.fz 2
              have HDE : Hid (dec bs = .error q2) := Lib.hid (dec_bad HOA.out (.inr (by rw [HLEN.out]; exact hq3)))
              have HUB := Lib.hid (HU.out.keep (w' := w12.setCell ⟨r, 2, none⟩ (.int .i64 (q2 : Nat))) (st' := (q2, true)) ⟨rfl, rfl, rfl, by simp [World.setCell], fun k _ hne => set_blk _ (fun e => hne (by rw [e]))⟩ (HU.out.rd.set 2 _ _ _ _ rfl hq2'))
              go_upto_region 25 with (fail)
              clear d0 d1 d2 zf2 HU
              generalize w12.setCell ⟨r, 2, none⟩ (.int .i64 (q2 : Nat)) = w13 at *
              have d2 : w13.cell? ⟨r, 2, none⟩ = some (.int .i64 (q2 : Nat)) := HUB.out.rd.c2
              go_wp2_with fail
              have z0 : w13.cell? ⟨w.heap.size, 0, none⟩ = some (.int .i64 0) := cell_of_row w13 w.heap.size 0 _ 28 (0, 0) HUB.out.rblk
              have zf0 := frozen_of_row w13 w.heap.size 0 _ 28 HUB.out.rblk
              have z1 : w13.cell? ⟨w.heap.size, 1, none⟩ = some (.int .i64 0) := cell_of_row w13 w.heap.size 1 _ 28 (0, 0) HUB.out.rblk
              have zf1 := frozen_of_row w13 w.heap.size 1 _ 28 HUB.out.rblk
              have z2 : w13.cell? ⟨w.heap.size, 2, none⟩ = some (.slice none 0 0) := cell_of_row w13 w.heap.size 2 _ 28 (0, 0) HUB.out.rblk
              have zf2 := frozen_of_row w13 w.heap.size 2 _ 28 HUB.out.rblk
              have z3 : w13.cell? ⟨w.heap.size, 3, none⟩ = some (.int .i64 0) := cell_of_row w13 w.heap.size 3 _ 28 (0, 0) HUB.out.rblk
              have zf3 := frozen_of_row w13 w.heap.size 3 _ 28 HUB.out.rblk
              have z4 : w13.cell? ⟨w.heap.size, 4, none⟩ = some (.int .i64 0) := cell_of_row w13 w.heap.size 4 _ 28 (0, 0) HUB.out.rblk
              have zf4 := frozen_of_row w13 w.heap.size 4 _ 28 HUB.out.rblk
              have z5 : w13.cell? ⟨w.heap.size, 5, none⟩ = some (.slice none 0 0) := cell_of_row w13 w.heap.size 5 _ 28 (0, 0) HUB.out.rblk
              have zf5 := frozen_of_row w13 w.heap.size 5 _ 28 HUB.out.rblk
              have z6 : w13.cell? ⟨w.heap.size, 6, none⟩ = some (.slice none 0 0) := cell_of_row w13 w.heap.size 6 _ 28 (0, 0) HUB.out.rblk
              have zf6 := frozen_of_row w13 w.heap.size 6 _ 28 HUB.out.rblk
              have z7 : w13.cell? ⟨w.heap.size, 7, none⟩ = some (.int .i64 0) := cell_of_row w13 w.heap.size 7 _ 28 (0, 0) HUB.out.rblk
              have zf7 := frozen_of_row w13 w.heap.size 7 _ 28 HUB.out.rblk
              have z8 : w13.cell? ⟨w.heap.size, 8, none⟩ = some (.int .i64 0) := cell_of_row w13 w.heap.size 8 _ 28 (0, 0) HUB.out.rblk
              have zf8 := frozen_of_row w13 w.heap.size 8 _ 28 HUB.out.rblk
              have z9 : w13.cell? ⟨w.heap.size, 9, none⟩ = some (.slice none 0 0) := cell_of_row w13 w.heap.size 9 _ 28 (0, 0) HUB.out.rblk
              have zf9 := frozen_of_row w13 w.heap.size 9 _ 28 HUB.out.rblk
              have z10 : w13.cell? ⟨w.heap.size, 10, none⟩ = some (.slice none 0 0) := cell_of_row w13 w.heap.size 10 _ 28 (0, 0) HUB.out.rblk
              have zf10 := frozen_of_row w13 w.heap.size 10 _ 28 HUB.out.rblk
              have z11 : w13.cell? ⟨w.heap.size, 11, none⟩ = some (.int .i64 0) := cell_of_row w13 w.heap.size 11 _ 28 (0, 0) HUB.out.rblk
              have zf11 := frozen_of_row w13 w.heap.size 11 _ 28 HUB.out.rblk
              have z12 : w13.cell? ⟨w.heap.size, 12, none⟩ = some (.int .i64 0) := cell_of_row w13 w.heap.size 12 _ 28 (0, 0) HUB.out.rblk
              have zf12 := frozen_of_row w13 w.heap.size 12 _ 28 HUB.out.rblk
              have z13 : w13.cell? ⟨w.heap.size, 13, none⟩ = some (.slice none 0 0) := cell_of_row w13 w.heap.size 13 _ 28 (0, 0) HUB.out.rblk
              have zf13 := frozen_of_row w13 w.heap.size 13 _ 28 HUB.out.rblk
              have z14 : w13.cell? ⟨w.heap.size, 14, none⟩ = some (.slice none 0 0) := cell_of_row w13 w.heap.size 14 _ 28 (0, 0) HUB.out.rblk
              have zf14 := frozen_of_row w13 w.heap.size 14 _ 28 HUB.out.rblk
              have hn3 : ¬ w.heap.size = r := by have := HUB.out.rr; omega
              have hn4 : ¬ r = w.heap.size := by have := HUB.out.rr; omega
              go_region
              all_goals
                go_wp2_with fail
                obtain ⟨F1, F2, _⟩ := fin24 (a0 := .int .i64 0) (a1 := .int .i64 0) (a2 := .slice none 0 0) (a3 := .int .i64 0) (a4 := .int .i64 0) (a5 := .slice none 0 0) (a6 := .slice none 0 0) (a7 := .int .i64 0) (a8 := .int .i64 0) (a9 := .slice none 0 0) (a10 := .slice none 0 0) (a11 := .int .i64 0) (a12 := .int .i64 0) (a13 := .slice none 0 0) (a14 := .slice none 0 0) HUB.out.bel HUB.out.rge HUB.out.rblk
                unfold set15 at F1 F2
                have F4 := F1.drew
                generalize (((((((((((((((w13.setCell ⟨w.heap.size, 0, none⟩ (.int .i64 0)).setCell ⟨w.heap.size, 1, none⟩ (.int .i64 0)).setCell ⟨w.heap.size, 2, none⟩ (.slice none 0 0)).setCell ⟨w.heap.size, 3, none⟩ (.int .i64 0)).setCell ⟨w.heap.size, 4, none⟩ (.int .i64 0)).setCell ⟨w.heap.size, 5, none⟩ (.slice none 0 0)).setCell ⟨w.heap.size, 6, none⟩ (.slice none 0 0)).setCell ⟨w.heap.size, 7, none⟩ (.int .i64 0)).setCell ⟨w.heap.size, 8, none⟩ (.int .i64 0)).setCell ⟨w.heap.size, 9, none⟩ (.slice none 0 0)).setCell ⟨w.heap.size, 10, none⟩ (.slice none 0 0)).setCell ⟨w.heap.size, 11, none⟩ (.int .i64 0)).setCell ⟨w.heap.size, 12, none⟩ (.int .i64 0)).setCell ⟨w.heap.size, 13, none⟩ (.slice none 0 0)).setCell ⟨w.heap.size, 14, none⟩ (.slice none 0 0)) = WF at *
                refine bodyPost_ret (dec_ret24 (W := WF.drew) (rb := w.heap.size) F2 rfl rfl) rfl ?_
                refine ⟨F4, ?_⟩
                rw [HDE.out]
                rfl
            · have hlt2 : decide ((q2 : Int) < (n : Int)) = false := by simp; omega
              have HDE : Hid (dec bs = .ok u) := Lib.hid (dec_good HOA.out (by rw [HLEN.out]; omega))
              have y0 : w12.cell? ⟨ub, 0, none⟩ = some (.int .i64 u.k1) := HU.out.cell 0
              have z0 : w12.cell? ⟨w.heap.size, 0, none⟩ = some (.int .i64 0) := cell_of_row w12 w.heap.size 0 _ 28 (0, 0) HU.out.rblk
              have zf0 := frozen_of_row w12 w.heap.size 0 _ 28 HU.out.rblk
              have y1 : w12.cell? ⟨ub, 1, none⟩ = some (.int .i64 u.k2) := HU.out.cell 1
              have z1 : w12.cell? ⟨w.heap.size, 1, none⟩ = some (.int .i64 0) := cell_of_row w12 w.heap.size 1 _ 28 (0, 0) HU.out.rblk
              have zf1 := frozen_of_row w12 w.heap.size 1 _ 28 HU.out.rblk
              have y2 : w12.cell? ⟨ub, 2, none⟩ = some (.slice L.P u.pts.length L.c) := HU.out.cell 2
              have z2 : w12.cell? ⟨w.heap.size, 2, none⟩ = some (.slice none 0 0) := cell_of_row w12 w.heap.size 2 _ 28 (0, 0) HU.out.rblk
              have zf2 := frozen_of_row w12 w.heap.size 2 _ 28 HU.out.rblk
              have y3 : w12.cell? ⟨ub, 3, none⟩ = some (.int .i64 u.left.ins) := HU.out.cell 3
              have z3 : w12.cell? ⟨w.heap.size, 3, none⟩ = some (.int .i64 0) := cell_of_row w12 w.heap.size 3 _ 28 (0, 0) HU.out.rblk
              have zf3 := frozen_of_row w12 w.heap.size 3 _ 28 HU.out.rblk
              have y4 : w12.cell? ⟨ub, 4, none⟩ = some (.int .i64 u.left.regs) := HU.out.cell 4
              have z4 : w12.cell? ⟨w.heap.size, 4, none⟩ = some (.int .i64 0) := cell_of_row w12 w.heap.size 4 _ 28 (0, 0) HU.out.rblk
              have zf4 := frozen_of_row w12 w.heap.size 4 _ 28 HU.out.rblk
              have y5 : w12.cell? ⟨ub, 5, none⟩ = some (.slice L.l.A u.left.code.length L.l.c) := HU.out.cell 5
              have z5 : w12.cell? ⟨w.heap.size, 5, none⟩ = some (.slice none 0 0) := cell_of_row w12 w.heap.size 5 _ 28 (0, 0) HU.out.rblk
              have zf5 := frozen_of_row w12 w.heap.size 5 _ 28 HU.out.rblk
              have y6 : w12.cell? ⟨ub, 6, none⟩ = some (.slice L.l.B u.left.outs.length L.l.d) := HU.out.cell 6
              have z6 : w12.cell? ⟨w.heap.size, 6, none⟩ = some (.slice none 0 0) := cell_of_row w12 w.heap.size 6 _ 28 (0, 0) HU.out.rblk
              have zf6 := frozen_of_row w12 w.heap.size 6 _ 28 HU.out.rblk
              have y7 : w12.cell? ⟨ub, 7, none⟩ = some (.int .i64 u.right.ins) := HU.out.cell 7
              have z7 : w12.cell? ⟨w.heap.size, 7, none⟩ = some (.int .i64 0) := cell_of_row w12 w.heap.size 7 _ 28 (0, 0) HU.out.rblk
              have zf7 := frozen_of_row w12 w.heap.size 7 _ 28 HU.out.rblk
              have y8 : w12.cell? ⟨ub, 8, none⟩ = some (.int .i64 u.right.regs) := HU.out.cell 8
              have z8 : w12.cell? ⟨w.heap.size, 8, none⟩ = some (.int .i64 0) := cell_of_row w12 w.heap.size 8 _ 28 (0, 0) HU.out.rblk
              have zf8 := frozen_of_row w12 w.heap.size 8 _ 28 HU.out.rblk
              have y9 : w12.cell? ⟨ub, 9, none⟩ = some (.slice L.r.A u.right.code.length L.r.c) := HU.out.cell 9
              have z9 : w12.cell? ⟨w.heap.size, 9, none⟩ = some (.slice none 0 0) := cell_of_row w12 w.heap.size 9 _ 28 (0, 0) HU.out.rblk
              have zf9 := frozen_of_row w12 w.heap.size 9 _ 28 HU.out.rblk
              have y10 : w12.cell? ⟨ub, 10, none⟩ = some (.slice L.r.B u.right.outs.length L.r.d) := HU.out.cell 10
              have z10 : w12.cell? ⟨w.heap.size, 10, none⟩ = some (.slice none 0 0) := cell_of_row w12 w.heap.size 10 _ 28 (0, 0) HU.out.rblk
              have zf10 := frozen_of_row w12 w.heap.size 10 _ 28 HU.out.rblk
              have y11 : w12.cell? ⟨ub, 11, none⟩ = some (.int .i64 u.back.ins) := HU.out.cell 11
              have z11 : w12.cell? ⟨w.heap.size, 11, none⟩ = some (.int .i64 0) := cell_of_row w12 w.heap.size 11 _ 28 (0, 0) HU.out.rblk
              have zf11 := frozen_of_row w12 w.heap.size 11 _ 28 HU.out.rblk
              have y12 : w12.cell? ⟨ub, 12, none⟩ = some (.int .i64 u.back.regs) := HU.out.cell 12
              have z12 : w12.cell? ⟨w.heap.size, 12, none⟩ = some (.int .i64 0) := cell_of_row w12 w.heap.size 12 _ 28 (0, 0) HU.out.rblk
              have zf12 := frozen_of_row w12 w.heap.size 12 _ 28 HU.out.rblk
              have y13 : w12.cell? ⟨ub, 13, none⟩ = some (.slice L.b.A u.back.code.length L.b.c) := HU.out.cell 13
              have z13 : w12.cell? ⟨w.heap.size, 13, none⟩ = some (.slice none 0 0) := cell_of_row w12 w.heap.size 13 _ 28 (0, 0) HU.out.rblk
              have zf13 := frozen_of_row w12 w.heap.size 13 _ 28 HU.out.rblk
              have y14 : w12.cell? ⟨ub, 14, none⟩ = some (.slice L.b.B u.back.outs.length L.b.d) := HU.out.cell 14
              have z14 : w12.cell? ⟨w.heap.size, 14, none⟩ = some (.slice none 0 0) := cell_of_row w12 w.heap.size 14 _ 28 (0, 0) HU.out.rblk
              have zf14 := frozen_of_row w12 w.heap.size 14 _ 28 HU.out.rblk
              obtain ⟨F1, F2, F3⟩ := fin24 (a0 := .int .i64 u.k1) (a1 := .int .i64 u.k2) (a2 := .slice L.P u.pts.length L.c) (a3 := .int .i64 u.left.ins) (a4 := .int .i64 u.left.regs) (a5 := .slice L.l.A u.left.code.length L.l.c) (a6 := .slice L.l.B u.left.outs.length L.l.d) (a7 := .int .i64 u.right.ins) (a8 := .int .i64 u.right.regs) (a9 := .slice L.r.A u.right.code.length L.r.c) (a10 := .slice L.r.B u.right.outs.length L.r.d) (a11 := .int .i64 u.back.ins) (a12 := .int .i64 u.back.regs) (a13 := .slice L.b.A u.back.code.length L.b.c) (a14 := .slice L.b.B u.back.outs.length L.b.d) HU.out.bel HU.out.rge HU.out.rblk
              unfold set15 at F1 F2 F3
              have HF1 := Lib.hid F1
              have HF2 := Lib.hid F2
              have HF3 := Lib.hid F3
              clear F1 F2 F3
              go_wp2_with fail
              generalize (((((((((((((((w12.setCell ⟨w.heap.size, 0, none⟩ (.int .i64 u.k1)).setCell ⟨w.heap.size, 1, none⟩ (.int .i64 u.k2)).setCell ⟨w.heap.size, 2, none⟩ (.slice L.P u.pts.length L.c)).setCell ⟨w.heap.size, 3, none⟩ (.int .i64 u.left.ins)).setCell ⟨w.heap.size, 4, none⟩ (.int .i64 u.left.regs)).setCell ⟨w.heap.size, 5, none⟩ (.slice L.l.A u.left.code.length L.l.c)).setCell ⟨w.heap.size, 6, none⟩ (.slice L.l.B u.left.outs.length L.l.d)).setCell ⟨w.heap.size, 7, none⟩ (.int .i64 u.right.ins)).setCell ⟨w.heap.size, 8, none⟩ (.int .i64 u.right.regs)).setCell ⟨w.heap.size, 9, none⟩ (.slice L.r.A u.right.code.length L.r.c)).setCell ⟨w.heap.size, 10, none⟩ (.slice L.r.B u.right.outs.length L.r.d)).setCell ⟨w.heap.size, 11, none⟩ (.int .i64 u.back.ins)).setCell ⟨w.heap.size, 12, none⟩ (.int .i64 u.back.regs)).setCell ⟨w.heap.size, 13, none⟩ (.slice L.b.A u.back.code.length L.b.c)).setCell ⟨w.heap.size, 14, none⟩ (.slice L.b.B u.back.outs.length L.b.d)) = WF at *
              refine bodyPost_ret (dec_ret24 (W := WF) (rb := w.heap.size) HF2.out rfl rfl) rfl ?_
              refine ⟨HF1.out, ?_⟩
              rw [HDE.out]
              exact ⟨L, rfl, (HU.out.own.congr fun g h1 _ _ => HF3.out g (by have := HU.out.rr; omega)).in⟩
end Go.Proofs.Ytcelcognmdcenaa
