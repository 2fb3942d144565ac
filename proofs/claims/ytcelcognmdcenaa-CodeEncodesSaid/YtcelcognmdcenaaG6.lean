/-
  WALKS: Encode, in the reference's words.
-/
import Derived.Test.YtcelcognmdcenaaG5
import Derived.Deep.RegionHeld3
namespace Go.Proofs.Ytcelcognmdcenaa
open Go.RowKit

theorem fault_pts {u : Un} (h : u.fault = 0) {j : Nat} {x : Int × Int} (hx : u.pts[j]? = some x) : -16 ≤ x.1 ∧ x.1 ≤ 16 ∧ -16 ≤ x.2 ∧ x.2 ≤ 16 := by
  unfold Un.fault at h
  split at h
  · rename_i h1
    rw [Bool.and_eq_true] at h1
    have := List.all_eq_true.1 h1.2 x (List.mem_of_getElem? hx)
    exact of_decide_eq_true this
  · cases h
theorem pr_pos (p : Pr) : 0 < p.bytes.length := by
  unfold Pr.bytes
  rw [List.length_append, List.length_append, List.length_append, List.length_append]
  simp only [List.length_cons, List.length_nil]
  omega
theorem pr_len {p : Pr} (h : p.ok = true) : p.bytes.length ≤ 98437 := by
  rw [← Pr.upO_all]; exact Pr.upO_len (Pr.ok_len h).1 (Pr.ok_len h).2 _
theorem by8_turn (x : Int) : IntKind.u8.wrap (x % 256) = (by8 x : Nat) := by
  rw [u8_by8]; unfold by8; omega

set_option maxRecDepth 100000 in
set_option maxHeartbeats 8000000 in
theorem encode23 (u : Un) (L : UnV) (w : World) (hu : UnIn w L u) (hf : u.fault = 0) : Calls Try.prog 23 #[L.val u] w fun e w' => ∃ v n, e = .returned v ∧ w'.ownsRow w.heap.size 5 1 v n (vB u.bytes) ∧ Below w.heap.size w w' := by
  obtain ⟨i5, hi, hz0, hz1, hz2⟩ := info_parts info5
  obtain ⟨hpl, hl, hr, hb⟩ := fault_parts hf
  have HF := Lib.hid hf
  have HL := Lib.hid hl
  have HRR := Lib.hid hr
  have HBK := Lib.hid hb
  have hll := pr_len hl
  have hlr := pr_len hr
  have hlb := pr_len hb
  obtain ⟨w1, hw1⟩ : ∃ w1, w1 = w.alloc (.cells (L.cells u) 28) := ⟨_, rfl⟩
  have HU1 : Hid (UnIn w1 L u) := Lib.hid (by rw [hw1]; exact hu.below (below_a _ _))
  have HQ1 : Hid (w1.heap[w.heap.size]? = some (.cells (L.cells u) 28 (0, 0))) := Lib.hid (by rw [hw1]; exact heap_alloc_new w _)
  have HBL : Hid (Below w.heap.size w w1) := Lib.hid (by rw [hw1]; exact below_a w _)
  have HS1 : Hid (w1.heap.size = w.heap.size + 1) := Lib.hid (by rw [hw1]; simp)
  have HOL : Hid ((w1.alloc (.cells #[.int .u8 65, .int .u8 78, .int .u8 86, .int .u8 49, .int .u8 (by8 u.k1 : Nat), .int .u8 (by8 u.k2 : Nat), .int .u8 (by8 u.pts.length : Nat)] 5)).ownsRow (w.heap.size + 1) 5 1 (.slice (some ⟨w.heap.size + 1, 0, none⟩) 7 7) 7 (vB (upP u 0))) := Lib.hid (by
    have := World.ownsRow_lit (base := w.heap.size + 1) (e := 5) (size := 1) w1 #[.int .u8 65, .int .u8 78, .int .u8 86, .int .u8 49, .int .u8 (by8 u.k1 : Nat), .int .u8 (by8 u.k2 : Nat), .int .u8 (by8 u.pts.length : Nat)] 7 (by rw [HS1.out]; exact Nat.le_refl _) (by unfold maxLen; omega) rfl
    rw [HS1.out] at this
    rw [upP_0]
    exact this)
  have HBA : Hid (Below (w.heap.size + 1) w1 (w1.alloc (.cells #[.int .u8 65, .int .u8 78, .int .u8 86, .int .u8 49, .int .u8 (by8 u.k1 : Nat), .int .u8 (by8 u.k2 : Nat), .int .u8 (by8 u.pts.length : Nat)] 5))) := Lib.hid ((Below.refl _ _).alloc (by rw [HS1.out]; exact Nat.le_refl _) _)
  have HW := Lib.hid hw1
  have hl1 : w.heap.size < w.heap.size + 1 := by omega
  clear hw1 hu hf hl hr hb
  have e1 := u8_by8 u.k1
  have e2 := u8_by8 u.k2
  have e3 := u8_by8 u.pts.length
  unfold UnV.val
  unfold UnV.cells at HW HQ1 ⊢
  go_enter Try.func23, Try.ntmps23
  go_wp2_with fail
  go_loopw [3, 4] (fun v i wr => ∃ (j m : Nat) (A : Option Addr) (c : Nat), j ≤ u.pts.length ∧ i = .int .i64 j ∧ v = .slice A m c ∧ Hid (wr.ownsRow (w.heap.size + 1) 5 1 (.slice A m c) m (vB (upP u j)) ∧ Below (w.heap.size + 1) w1 wr)) (fun _ i _ => u.pts.length - (intOf i).toNat)
  case atStart =>
    rw [HW.out] at HOL HBA
    exact ⟨0, 7, _, _, Nat.zero_le _, rfl, rfl, by have := HOL.out; exact this, by rw [HW.out]; exact HBA.out⟩
  case round =>
    obtain ⟨j, m, A, c, hj, rfl, rfl, HR⟩ := hrel
    have hm : m ≤ 517 := by rw [← tel_len HR.out.1]; exact upP_len hpl j
    have HQR : Hid (wr.heap[w.heap.size]? = some (.cells (L.cells u) 28 (0, 0))) := Lib.hid ((HR.out.2.block _ hl1).trans HQ1.out)
    have c2 : wr.cell? ⟨w.heap.size, 2, none⟩ = some (.slice L.P u.pts.length L.c) := cell_of_row _ _ 2 _ 28 (0, 0) HQR.out
    have hws : w.heap.size + 1 ≤ wr.heap.size := by have := HR.out.2.size; have := HS1.out; omega
    clear e1 e2 e3
    by_cases hlt : j < u.pts.length
    · obtain ⟨gp, op, hPP, hgl, hcp⟩ := HU1.out.pts.points.2 (by omega)
      rw [HS1.out] at hgl
      obtain ⟨x, hx⟩ : ∃ x, u.pts[j]? = some x := ⟨u.pts[j]'hlt, List.getElem?_eq_getElem _⟩
      obtain ⟨k0, k1⟩ := hcp j x hx
      have a0 := (HR.out.2.cell (p := ⟨gp, op + j * 2, none⟩) hgl).trans k0
      have a1 := (HR.out.2.cell (p := ⟨gp, op + j * 2 + 1, none⟩) hgl).trans k1
      have K0 := Lib.hid k0
      have K1 := Lib.hid k1
      have K2 : Hid (w1.cell? ⟨w.heap.size, 2, none⟩ = some (.slice L.P u.pts.length L.c)) := Lib.hid (cell_of_row _ _ 2 _ 28 (0, 0) HQ1.out)
      clear k0 k1
      have HX := Lib.hid (upP_next hx)
      obtain ⟨b0, b1, b2, b3⟩ := fault_pts HF.out hx
      have e1 := by8_turn x.1
      have e2 := by8_turn x.2
      clear hcp hx
      generalize hPx : L.P = Px at *
      subst hPP
      clear hPx
      obtain ⟨xa, xb⟩ := x
      simp only at a0 a1 K0 K1 e1 e2 HX b0 b1 b2 b3
      have f1 : IntKind.i64.wrap (xa + 256) = xa + 256 := IntWalk.i64_in _ (by omega)
      have f2 : IntKind.i64.wrap (xb + 256) = xb + 256 := IntWalk.i64_in _ (by omega)
      have g1 : (xa + 256).tmod 256 = (xa + 256) % 256 := Int.tmod_eq_emod_of_nonneg (by omega)
      have g2 : (xb + 256).tmod 256 = (xb + 256) % 256 := Int.tmod_eq_emod_of_nonneg (by omega)
      have hj1 : (0 : Int) ≤ (j : Int) := by omega
      have hj2 : (j : Int) < (u.pts.length : Int) := by omega
      have hjm : m + 2 < 4294967296 := by omega
      have HO1 := Lib.hid (own_congr (w' := (wr.alloc (.cells #[.int .u8 (by8 xa : Nat), .int .u8 (by8 xb : Nat)] 5)).drew) (HR.out.1.alloc (.cells #[.int .u8 (by8 xa : Nat), .int .u8 (by8 xb : Nat)] 5)) (fun _ _ => rfl))
      have HB1 := Lib.hid (HR.out.2.alloc hws (.cells #[.int .u8 (by8 xa : Nat), .int .u8 (by8 xb : Nat)] 5)).drew
      have HROW := Lib.hid (fun g hg => (HR.out.1.lt g hg).1)
      have HW1 : Hid (w.heap.size + 1 ≤ ((wr.alloc (.cells #[.int .u8 (by8 xa : Nat), .int .u8 (by8 xb : Nat)] 5)).drew).heap.size) := Lib.hid (Nat.le_trans hws (by simp [World.drew]))
      go_wp2_with fail
      go_region_held3 (fun w' => w'.cell? ⟨w.heap.size, 2, none⟩ = some (.slice (some ⟨gp, op, none⟩) u.pts.length L.c) ∧ w'.cell? ⟨gp, op + j * 2, none⟩ = some (.int .i64 xa) ∧ w'.cell? ⟨gp, op + j * 2 + 1, none⟩ = some (.int .i64 xb))
        (first | go_keep | exact ⟨q0, q1, q2⟩)
        ((refine step_appM rfl (.tmp 23) (.tmp 42) 31 rfl (w.heap.size + 1) 5 i5 (.int .u8 0) 1 Try.underlying31 hi hz0 hz1 hz2 rfl (by decide) (.slice A m c) m (vB (upP u j)) (by rfl) HO1.out wr.heap.size 2 2 (vB [by8 xa, by8 xb]) (by rfl) rfl (lit_cells2 wr (vB [by8 xa, by8 xb]) 5 _ rfl) (vB_one _) hjm HW1.out ?_; intro v4 w4 ho4 hg4 _; have HB4 := Lib.hid (HB1.out.grown hg4 HW1.out (fun g hg => HROW.out g hg)); have HO4 := Lib.hid (tel_app (n' := m + 2) ho4 rfl HX.out); obtain ⟨A4, C4, rfl, _, _⟩ := own_slice ho4; have q0 := (HB4.out.cell (p := ⟨w.heap.size, 2, none⟩) hl1).trans K2.out; have q1 := (HB4.out.cell (p := ⟨gp, op + j * 2, none⟩) hgl).trans K0.out; have q2 := (HB4.out.cell (p := ⟨gp, op + j * 2 + 1, none⟩) hgl).trans K1.out; clear ho4 hg4))
      all_goals
        go_wp2_with fail
        go_roundw
        case rel => exact ⟨j + 1, m + 2, A4, C4, by omega, by go_num, rfl, HO4.out, HB4.out⟩
        case measure => simp [intOf]; omega
    · obtain rfl : j = u.pts.length := by omega
      have HP0 : Hid (wr.ownsRow (w.heap.size + 1) 5 1 (.slice A m c) m (vB (upB u 0)) ∧ Below (w.heap.size + 1) w1 wr) := HR
      clear HR hj
      obtain ⟨s0, s1, s2, s3⟩ := (box15 (L := L) (u := u) HQR.out).1
      have HC0 := Lib.hid (program42 u.left L.l wr (HU1.out.l.below (HP0.out.2.mono (by rw [HS1.out]; exact Nat.le_refl _))) HL.out)
      unfold PrV.val at HC0
      go_wp2_with fail
      (with_reducible refine HC0.out.mono ?_)
      rintro e x0 ⟨y0, n0, rfl, ho0, hb0⟩
      have hn0 : n0 = u.left.bytes.length := (tel_len ho0).symm
      have hp0 := pr_pos u.left
      have HBx0 := Lib.hid (HP0.out.2.trans (hb0.mono hws))
      have HOx0 := Lib.hid (own_below HP0.out.1 hb0)
      obtain ⟨g0, k0, rfl, hc0⟩ := own_form ho0 (by omega)
      have HX0 := Lib.hid hc0
      have HNL0 := Lib.hid (show (vB u.left.bytes).length = n0 by rw [vB_len, hn0])
      have HROW0 := Lib.hid (fun g hg => (HOx0.out.lt g hg).1)
      have hwx0 : w.heap.size + 1 ≤ x0.heap.size := by have := HBx0.out.size; have := HS1.out; omega
      have hnb0 : n0 ≤ 98437 := by omega
      clear ho0 hb0 hc0 hn0 hp0 HC0 HP0 HQR hws s0 s1 s2 s3 c2
      go_wp2_with (at_builtin; refine wpList_appM rfl (.tmp 44) (.tmp 47) 31 rfl (w.heap.size + 1) 5 i5 (.int .u8 0) 1 Try.underlying31 hi hz0 hz1 hz2 rfl (by decide) (.slice A m c) (m) (vB (upB u 0)) rfl HOx0.out g0 n0 k0 (vB u.left.bytes) rfl HNL0.out HX0.out (vB_one _) (by omega) hwx0 ?_)
      intro v0 z0 ho0 hg0 _
      have HP1 := Lib.hid (show z0.ownsRow (w.heap.size + 1) 5 1 v0 (m + n0) (vB (upB u 1)) ∧ Below (w.heap.size + 1) w1 z0 from ⟨tel_app ho0 rfl rfl, HBx0.out.grown hg0 hwx0 (fun g hg => HROW0.out g hg)⟩)
      obtain ⟨A1, C1, rfl, _, _⟩ := own_slice ho0
      have HQR : Hid (z0.heap[w.heap.size]? = some (.cells (L.cells u) 28 (0, 0))) := Lib.hid ((HP1.out.2.block _ hl1).trans HQ1.out)
      have hws : w.heap.size + 1 ≤ z0.heap.size := by have := HP1.out.2.size; have := HS1.out; omega
      clear ho0 hg0 HOx0 HBx0 HX0 HNL0 HROW0 hwx0
      obtain ⟨s0, s1, s2, s3⟩ := (box15 (L := L) (u := u) HQR.out).2.1
      have HC1 := Lib.hid (program42 u.right L.r z0 (HU1.out.r.below (HP1.out.2.mono (by rw [HS1.out]; exact Nat.le_refl _))) HRR.out)
      unfold PrV.val at HC1
      go_wp2_with fail
      (with_reducible refine HC1.out.mono ?_)
      rintro e x1 ⟨y1, n1, rfl, ho1, hb1⟩
      have hn1 : n1 = u.right.bytes.length := (tel_len ho1).symm
      have hp1 := pr_pos u.right
      have HBx1 := Lib.hid (HP1.out.2.trans (hb1.mono hws))
      have HOx1 := Lib.hid (own_below HP1.out.1 hb1)
      obtain ⟨g1, k1, rfl, hc1⟩ := own_form ho1 (by omega)
      have HX1 := Lib.hid hc1
      have HNL1 := Lib.hid (show (vB u.right.bytes).length = n1 by rw [vB_len, hn1])
      have HROW1 := Lib.hid (fun g hg => (HOx1.out.lt g hg).1)
      have hwx1 : w.heap.size + 1 ≤ x1.heap.size := by have := HBx1.out.size; have := HS1.out; omega
      have hnb1 : n1 ≤ 98437 := by omega
      clear ho1 hb1 hc1 hn1 hp1 HC1 HP1 HQR hws s0 s1 s2 s3
      go_wp2_with (at_builtin; refine wpList_appM rfl (.tmp 49) (.tmp 52) 31 rfl (w.heap.size + 1) 5 i5 (.int .u8 0) 1 Try.underlying31 hi hz0 hz1 hz2 rfl (by decide) (.slice A1 (m + n0) C1) (m + n0) (vB (upB u 1)) rfl HOx1.out g1 n1 k1 (vB u.right.bytes) rfl HNL1.out HX1.out (vB_one _) (by omega) hwx1 ?_)
      intro v1 z1 ho1 hg1 _
      have HP2 := Lib.hid (show z1.ownsRow (w.heap.size + 1) 5 1 v1 (m + n0 + n1) (vB (upB u 2)) ∧ Below (w.heap.size + 1) w1 z1 from ⟨tel_app ho1 rfl rfl, HBx1.out.grown hg1 hwx1 (fun g hg => HROW1.out g hg)⟩)
      obtain ⟨A2, C2, rfl, _, _⟩ := own_slice ho1
      have HQR : Hid (z1.heap[w.heap.size]? = some (.cells (L.cells u) 28 (0, 0))) := Lib.hid ((HP2.out.2.block _ hl1).trans HQ1.out)
      have hws : w.heap.size + 1 ≤ z1.heap.size := by have := HP2.out.2.size; have := HS1.out; omega
      clear ho1 hg1 HOx1 HBx1 HX1 HNL1 HROW1 hwx1
      obtain ⟨s0, s1, s2, s3⟩ := (box15 (L := L) (u := u) HQR.out).2.2
      have HC2 := Lib.hid (program42 u.back L.b z1 (HU1.out.b.below (HP2.out.2.mono (by rw [HS1.out]; exact Nat.le_refl _))) HBK.out)
      unfold PrV.val at HC2
      go_wp2_with fail
      (with_reducible refine HC2.out.mono ?_)
      rintro e x2 ⟨y2, n2, rfl, ho2, hb2⟩
      have hn2 : n2 = u.back.bytes.length := (tel_len ho2).symm
      have hp2 := pr_pos u.back
      have HBx2 := Lib.hid (HP2.out.2.trans (hb2.mono hws))
      have HOx2 := Lib.hid (own_below HP2.out.1 hb2)
      obtain ⟨g2, k2, rfl, hc2⟩ := own_form ho2 (by omega)
      have HX2 := Lib.hid hc2
      have HNL2 := Lib.hid (show (vB u.back.bytes).length = n2 by rw [vB_len, hn2])
      have HROW2 := Lib.hid (fun g hg => (HOx2.out.lt g hg).1)
      have hwx2 : w.heap.size + 1 ≤ x2.heap.size := by have := HBx2.out.size; have := HS1.out; omega
      have hnb2 : n2 ≤ 98437 := by omega
      clear ho2 hb2 hc2 hn2 hp2 HC2 HP2 HQR hws s0 s1 s2 s3
      go_wp2_with (at_builtin; refine wpList_appM rfl (.tmp 54) (.tmp 57) 31 rfl (w.heap.size + 1) 5 i5 (.int .u8 0) 1 Try.underlying31 hi hz0 hz1 hz2 rfl (by decide) (.slice A2 (m + n0 + n1) C2) (m + n0 + n1) (vB (upB u 2)) rfl HOx2.out g2 n2 k2 (vB u.back.bytes) rfl HNL2.out HX2.out (vB_one _) (by omega) hwx2 ?_)
      intro v2 z2 ho2 hg2 _
      have HP3 := Lib.hid (show z2.ownsRow (w.heap.size + 1) 5 1 v2 (m + n0 + n1 + n2) (vB (upB u 3)) ∧ Below (w.heap.size + 1) w1 z2 from ⟨tel_app ho2 rfl rfl, HBx2.out.grown hg2 hwx2 (fun g hg => HROW2.out g hg)⟩)
      obtain ⟨A3, C3, rfl, _, _⟩ := own_slice ho2
      have HQR : Hid (z2.heap[w.heap.size]? = some (.cells (L.cells u) 28 (0, 0))) := Lib.hid ((HP3.out.2.block _ hl1).trans HQ1.out)
      have hws : w.heap.size + 1 ≤ z2.heap.size := by have := HP3.out.2.size; have := HS1.out; omega
      clear ho2 hg2 HOx2 HBx2 HX2 HNL2 HROW2 hwx2
      have HK := Lib.hid (check44 A3 (m + n0 + n1 + n2) C3 u.body z2 (Reads.of_own (by have := HP3.out.1; rw [upB_3] at this; exact this)) (body_lt u) (by omega))
      have hck := chk_lt u.body
      have HC8 := Lib.hid (two43 (chk u.body : Int) z2 (by omega) (by omega))
      have HX : Hid (upB u 3 ++ by16 (chk u.body) = u.bytes) := Lib.hid (by rw [upB_3]; rfl)
      go_wp2_with fail
      (with_reducible refine HK.out.mono ?_)
      rintro e w4 ⟨rfl, rfl⟩
      go_wp2_with fail
      (with_reducible refine HC8.out.mono ?_)
      rintro e w9 ⟨v9, rfl, ho9, hb9⟩
      have HB9 := Lib.hid (HP3.out.2.trans (hb9.mono hws))
      have HO9 := Lib.hid (own_below HP3.out.1 hb9)
      obtain ⟨g9, k9, rfl, hc9⟩ := own_form ho9 (by omega)
      have HC9 := Lib.hid hc9
      have hw9 : w.heap.size + 1 ≤ w9.heap.size := by have := HB9.out.size; have := HS1.out; omega
      have HROW9 := Lib.hid (fun g hg => (HO9.out.lt g hg).1)
      clear ho9 hb9 hc9 HC8 HK
      go_wp2_with (at_builtin; refine wpList_appM rfl (.tmp 59) (.tmp 62) 31 rfl (w.heap.size + 1) 5 i5 (.int .u8 0) 1 Try.underlying31 hi hz0 hz1 hz2 rfl (by decide) (.slice A3 (m + n0 + n1 + n2) C3) (m + n0 + n1 + n2) (vB (upB u 3)) rfl HO9.out g9 2 k9 (vB (by16 (chk u.body : Int))) rfl rfl HC9.out (vB_one _) (by omega) hw9 ?_)
      intro v10 w10 ho10 hg10 _
      have HB10 := Lib.hid (HBL.out.trans ((HB9.out.grown hg10 hw9 (fun g hg => HROW9.out g hg)).mono (Nat.le_of_lt hl1)))
      have HO10 := Lib.hid (own_base (tel_app (n' := m + n0 + n1 + n2 + 2) ho10 rfl HX.out) (Nat.le_of_lt hl1))
      obtain ⟨A10, C10, rfl, _, _⟩ := own_slice ho10
      clear ho10 hg10
      go_wp2_with fail
      go_ret
      exact ⟨_, _, rfl, HO10.out, HB10.out⟩
end Go.Proofs.Ytcelcognmdcenaa
