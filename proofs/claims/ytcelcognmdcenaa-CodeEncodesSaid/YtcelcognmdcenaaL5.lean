/-
  THE WALK of the law CodeEncodes.
-/
import Derived.Test.YtcelcognmdcenaaL3
import Derived.Test.YtcelcognmdcenaaG3
import Derived.Test.YtcelcognmdcenaaG6
namespace Go.Proofs.Ytcelcognmdcenaa
open Go.RowKit

set_option maxRecDepth 100000 in
set_option maxHeartbeats 8000000 in
theorem encodes_law (u : Un) (L : UnV) (w : World) (hu : UnIn w L u) (fu : u.fits) : Calls Try.prog 5 #[L.val u] w (LawOut w) := by
  obtain ⟨w1, hw1⟩ : ∃ w1, w1 = w.alloc (.cells (L.cells u) 28) := ⟨_, rfl⟩
  have HB1 : Hid (Below w.heap.size w w1) := Lib.hid (by rw [hw1]; exact below_a w _)
  have HS1 : Hid (w1.heap.size = w.heap.size + 1) := Lib.hid (by rw [hw1]; simp)
  have HQ1 : Hid (BoxAt w1 w.heap.size (L.val u)) := Lib.hid ⟨L, u, rfl, by rw [hw1]; exact heap_alloc_new w _⟩
  have HU := Lib.hid (hu.below HB1.out)
  have HFU := Lib.hid fu
  have HC1 := Lib.hid (works10 w1)
  rw [hw1] at HC1
  have HW := Lib.hid hw1
  have HX1 := Lib.hid (fun x1 (_ : Below w1.heap.size w1 x1) => (long11 u L x1 HFU.out))
  have HCP := Lib.hid (fun x1 (h : Below w1.heap.size w1 x1) => (copied19 u L x1 (HU.out.below h) HFU.out))
  have HM1 := Lib.hid (fun x1 (h : Below w1.heap.size w1 x1) => (may21 u L x1 (HU.out.below h)))
  have HE2 := Lib.hid (fun x1 (h : Below w1.heap.size w1 x1) (hf : u.fault = 0) => (encode23 u L x1 (HU.out.below h) hf))
  have HSM := Lib.hid (fun x1 (h : Below w1.heap.size w1 x1) (N : UnV) (hN : UnIn x1 N u) => bool_out (d := true) (same18 u u N L x1 hN (HU.out.below h)) ⟨fun _ => rfl, fun _ => rfl⟩)
  obtain ⟨f, hf⟩ : ∃ f, f = u.fault := ⟨_, rfl⟩
  have HF := Lib.hid hf
  rw [← hf] at HM1
  clear hw1 hu fu hf
  unfold UnV.val at HQ1 HX1 HCP HM1 HE2 ⊢
  unfold UnV.cells at HC1 HW HQ1 HX1 HCP HM1 HE2 ⊢
  go_enter Try.func5, Try.ntmps5
  go_wp2_with fail
  (with_reducible refine HC1.out.mono ?_)
  rintro e x1 ⟨rfl, hb⟩
  rw [← HW.out] at hb
  have hs1 := HS1.out
  have HBL := Lib.hid hb
  clear hb HC1 HW
  obtain ⟨U, hU⟩ : ∃ U, U = Value.agg #[.int .i64 u.k1, .int .i64 u.k2, .slice L.P u.pts.length L.c, .int .i64 u.left.ins, .int .i64 u.left.regs, .slice L.l.A u.left.code.length L.l.c, .slice L.l.B u.left.outs.length L.l.d, .int .i64 u.right.ins, .int .i64 u.right.regs, .slice L.r.A u.right.code.length L.r.c, .slice L.r.B u.right.outs.length L.r.d, .int .i64 u.back.ins, .int .i64 u.back.regs, .slice L.b.A u.back.code.length L.b.c, .slice L.b.B u.back.outs.length L.b.d] := ⟨_, rfl⟩
  have HVAL : Hid (U = L.val u) := Lib.hid hU
  rw [← hU] at HQ1 HX1 HCP HM1 HE2 ⊢
  clear hU
  generalize longB u = b1 at *
  have q1 := HQ1.out.below HBL.out
  go_wp2_with (first | (refine wpList_load_box rfl (.tmp 1) rfl _ rfl q1 ?_) | ((with_reducible refine (HX1.out _ HBL.out).mono ?_)))
  rintro e x2 ⟨rfl, hb⟩
  have HBN := Lib.hid (HBL.out.trans (hb.mono HBL.out.size))
  clear hb HBL q1
  have HBL := HBN
  clear HBN
  have q1 := HQ1.out.below HBL.out
  cases b1 with
  | true =>
    go_wp2_with fail
    go_ret
    exact ⟨rfl, HB1.out.trans (HBL.out.mono HB1.out.size)⟩
  | false =>
    go_wp2_with (first | (refine wpList_load_box rfl (.tmp 1) rfl _ rfl q1 ?_) | ((with_reducible refine (HCP.out _ HBL.out).mono ?_)))
    rintro e x3 ⟨N, rfl, ho, hb⟩
    have HBN := Lib.hid (HBL.out.trans (hb.mono HBL.out.size))
    obtain ⟨x4, hx4⟩ : ∃ x4, x4 = x3.alloc (.cells (N.cells u) 28) := ⟨_, rfl⟩
    have HQ3 : Hid (BoxAt x4 x3.heap.size (N.val u)) := Lib.hid ⟨N, u, rfl, by rw [hx4]; exact heap_alloc_new _ _⟩
    have HB34 : Hid (Below x3.heap.size x3 x4) := Lib.hid (by rw [hx4]; exact below_a _ _)
    have HN4 : Hid (UnIn x4 N u) := Lib.hid (ho.in.below HB34.out)
    have HE4 := Lib.hid (encode12_any (w := x4) HN4.out)
    have HMN := Lib.hid (fun x5 (h : Below x4.heap.size x4 x5) => may20 u N x5 (HN4.out.below h))
    have HSN := Lib.hid (fun x5 (h : Below x4.heap.size x4 x5) (h1 : Below w1.heap.size w1 x5) => HSM.out x5 h1 N (HN4.out.below h))
    rw [← HF.out] at HMN
    rw [← HVAL.out] at HSN
    have HBL4 := Lib.hid (HBN.out.trans (HB34.out.mono HBN.out.size))
    have hx34 : x3.heap.size < x4.heap.size := by rw [hx4]; simp
    rw [hx4] at HE4
    have q3 := HQ3.out
    rw [hx4] at q3
    have HW4 := Lib.hid hx4
    clear hb HBL q1 ho hx4 HBN HSM HCP
    unfold UnV.val at HQ3 HE4 HMN HSN q3 ⊢
    unfold UnV.cells at HQ3 HE4 HW4 HMN HSN q3 ⊢
    go_wp2_with (first | (refine wpList_load_box rfl (.tmp 3) rfl _ rfl q3 ?_) | ((with_reducible refine HE4.out.mono ?_)))
    rw [← HW4.out]
    clear q3
    generalize Value.agg #[.int .i64 u.k1, .int .i64 u.k2, .slice N.P u.pts.length N.c, .int .i64 u.left.ins, .int .i64 u.left.regs, .slice N.l.A u.left.code.length N.l.c, .slice N.l.B u.left.outs.length N.l.d, .int .i64 u.right.ins, .int .i64 u.right.regs, .slice N.r.A u.right.code.length N.r.c, .slice N.r.B u.right.outs.length N.r.d, .int .i64 u.back.ins, .int .i64 u.back.regs, .slice N.b.A u.back.code.length N.b.c, .slice N.b.B u.back.outs.length N.b.d] = V at *
    rintro e x5 ⟨hb, ⟨hf, rfl⟩ | ⟨hf, A, n, c, rfl, hnc, hnb, ho⟩⟩
    · have HBN := Lib.hid (HBL4.out.trans (hb.mono HBL4.out.size))
      have HB45 := Lib.hid hb
      have hf2 : f ≠ 0 := by rw [HF.out]; exact hf
      rw [← HF.out]
      have e0 : ((f : Int) == 0) = false := by simp; omega
      have e1 : ((f : Int) != 0) = true := by simp; omega
      clear hb hf hf2 HE4
      have q1 := HQ1.out.below HBN.out
      go_wp2_with (first | (refine wpList_load_box rfl (.tmp 1) rfl _ rfl q1 ?_) | ((with_reducible refine (HM1.out _ HBN.out).mono ?_)))
      rintro e x6 ⟨rfl, hb⟩
      have HBM := Lib.hid (HBN.out.trans (hb.mono HBN.out.size))
      have HB46 := Lib.hid (HB45.out.trans (hb.mono HB45.out.size))
      clear hb HBN q1 HB45
      have q3 := HQ3.out.below HB46.out
      go_wp2_with (first | (refine wpList_load_boxg rfl (.tmp 3) rfl _ rfl q3 ?_) | ((with_reducible refine (HMN.out _ HB46.out).mono ?_)))
      rintro e x7 ⟨rfl, hb⟩
      have HBN := Lib.hid (HBM.out.trans (hb.mono HBM.out.size))
      have HB47 := Lib.hid (HB46.out.trans (hb.mono HB46.out.size))
      clear hb HBM q3 HB46
      have q1 := HQ1.out.below HBN.out
      have q3 := HQ3.out.below HB47.out
      go_wp2_with (first | (refine wpList_load_boxg rfl (.tmp 3) rfl _ rfl q3 ?_) | (refine wpList_load_boxg rfl (.tmp 1) rfl _ rfl q1 ?_) | ((with_reducible refine (HSN.out _ HB47.out HBN.out).mono ?_)))
      rintro e x8 ⟨rfl, hb⟩
      have HBM := Lib.hid (HBN.out.trans (hb.mono HBN.out.size))
      clear hb HBN q1 q3
      have he := fun wx => Lib.run_eql_slice_nil (P := Try.prog) wx 31 5 none 0 0 0 0 Try.underlying31
      simp only [Option.isNone] at he
      go_wp2_with fail
      go_ret
      exact ⟨rfl, HB1.out.trans (HBM.out.mono HB1.out.size)⟩
    · have HBN := Lib.hid (HBL4.out.trans (hb.mono HBL4.out.size))
      have HB45 := Lib.hid hb
      have hf2 : f = 0 := by rw [HF.out]; exact hf
      have HF0 := Lib.hid hf
      have HR5 := Lib.hid (Reads.of_own ho)
      subst hf2
      clear hb hf HE4 ho
      have q1 := HQ1.out.below HBN.out
      go_wp2_with (first | (refine wpList_load_box rfl (.tmp 1) rfl _ rfl q1 ?_) | ((with_reducible refine (HM1.out _ HBN.out).mono ?_)))
      rintro e x6 ⟨rfl, hb⟩
      have HBM := Lib.hid (HBN.out.trans (hb.mono HBN.out.size))
      have HB46 := Lib.hid (HB45.out.trans (hb.mono HB45.out.size))
      have HR6 := Lib.hid (HR5.out.below hb)
      clear hb HBN q1 HB45 HR5
      have q3 := HQ3.out.below HB46.out
      go_wp2_with (first | (refine wpList_load_boxg rfl (.tmp 3) rfl _ rfl q3 ?_) | ((with_reducible refine (HMN.out _ HB46.out).mono ?_)))
      rintro e x7 ⟨rfl, hb⟩
      have HBN := Lib.hid (HBM.out.trans (hb.mono HBM.out.size))
      have HB47 := Lib.hid (HB46.out.trans (hb.mono HB46.out.size))
      have HR7 := Lib.hid (HR6.out.below hb)
      clear hb HBM q3 HB46 HR6
      have q1 := HQ1.out.below HBN.out
      have q3 := HQ3.out.below HB47.out
      go_wp2_with (first | (refine wpList_load_boxg rfl (.tmp 3) rfl _ rfl q3 ?_) | (refine wpList_load_boxg rfl (.tmp 1) rfl _ rfl q1 ?_) | ((with_reducible refine (HSN.out _ HB47.out HBN.out).mono ?_)))
      rintro e x8 ⟨rfl, hb⟩
      have HBM := Lib.hid (HBN.out.trans (hb.mono HBN.out.size))
      have HR8 := Lib.hid (HR7.out.below hb)
      clear hb HBN q1 q3 HR7
      have q1 := HQ1.out.below HBM.out
      go_wp2_with (first | (refine wpList_load_boxg rfl (.tmp 1) rfl _ rfl q1 ?_) | ((with_reducible refine (HE2.out _ HBM.out HF0.out).mono ?_)))
      rintro e x9 ⟨v9, n9, rfl, ho, hb⟩
      have HBN := Lib.hid (HBM.out.trans (hb.mono HBM.out.size))
      obtain ⟨A9, c9, rfl, _, _⟩ := own_slice ho
      have HEQ := Lib.hid (equal22 A A9 n n9 c c9 u.bytes u.bytes x9 (HR8.out.below hb) (Reads.of_own ho))
      clear hb HBM q1 HR8 ho
      go_wp2_with fail
      (with_reducible refine HEQ.out.mono ?_)
      rintro e x10 ⟨b, rfl, hbt, j, rfl⟩
      have hbt2 := hbt.2 (by first | rfl | trivial)
      subst hbt2
      have HBM := Lib.hid (HBN.out.trans ((below_drewN (Below.refl x9.heap.size x9) j).mono HBN.out.size))
      clear hbt HEQ
      go_wp2_with fail
      go_ret
      exact ⟨rfl, HB1.out.trans (HBM.out.mono HB1.out.size)⟩
end Go.Proofs.Ytcelcognmdcenaa
