/-
  THE WALK of the law CodeBack.
-/
import Derived.Test.YtcelcognmdcenaaL3
namespace Go.Proofs.Ytcelcognmdcenaa
open Go.RowKit

set_option maxRecDepth 100000 in
set_option maxHeartbeats 8000000 in
theorem back_law (u : Un) (L : UnV) (A : Option Addr) (n c : Nat) (l : List Nat) (w : World) (hu : UnIn w L u) (fu : u.fits) (hln : l.length = n) (hr : Reads w 1 (.slice A n c) n (vB l)) (hnc : n ≤ c) (hn : n ≤ 140737488351232) (hl : ∀ y ∈ l, y < 256) : Calls Try.prog 9 #[L.val u, .slice A n c] w (LawOut w) := by
  obtain ⟨w1, hw1⟩ : ∃ w1, w1 = w.alloc (.cells (L.cells u) 28) := ⟨_, rfl⟩
  have HB1 : Hid (Below w.heap.size w w1) := Lib.hid (by rw [hw1]; exact below_a w _)
  have HS1 : Hid (w1.heap.size = w.heap.size + 1) := Lib.hid (by rw [hw1]; simp)
  have HQ1 : Hid (BoxAt w1 w.heap.size (L.val u)) := Lib.hid ⟨L, u, rfl, by rw [hw1]; exact heap_alloc_new w _⟩
  have HU := Lib.hid (hu.below HB1.out)
  have HRB := Lib.hid (hr.below HB1.out)
  have HLB := Lib.hid hl
  have HLN := Lib.hid hln
  have HFU := Lib.hid fu
  have HC1 := Lib.hid (works10 w1)
  rw [hw1] at HC1
  have HW := Lib.hid hw1
  have HX1 := Lib.hid (fun x1 (_ : Below w1.heap.size w1 x1) => (long11 u L x1 HFU.out))
  have HCP := Lib.hid (fun x1 (h : Below w1.heap.size w1 x1) => (copied19 u L x1 (HU.out.below h) HFU.out))
  have HSM := Lib.hid (fun x1 (h : Below w1.heap.size w1 x1) (N : UnV) (hN : UnIn x1 N u) => bool_out (d := true) (same14 u u L N x1 (HU.out.below h) hN) ⟨fun _ => rfl, fun _ => rfl⟩)
  clear hw1 hu fu hr hl hln
  unfold UnV.val at HQ1 HX1 HCP ⊢
  unfold UnV.cells at HC1 HW HQ1 HX1 HCP ⊢
  go_enter Try.func9, Try.ntmps9
  go_wp2_with fail
  (with_reducible refine HC1.out.mono ?_)
  rintro e x1 ⟨rfl, hb⟩
  rw [← HW.out] at hb
  have hs1 := HS1.out
  have HBL := Lib.hid hb
  clear hb HC1 HW
  obtain ⟨U, hU⟩ : ∃ U, U = Value.agg #[.int .i64 u.k1, .int .i64 u.k2, .slice L.P u.pts.length L.c, .int .i64 u.left.ins, .int .i64 u.left.regs, .slice L.l.A u.left.code.length L.l.c, .slice L.l.B u.left.outs.length L.l.d, .int .i64 u.right.ins, .int .i64 u.right.regs, .slice L.r.A u.right.code.length L.r.c, .slice L.r.B u.right.outs.length L.r.d, .int .i64 u.back.ins, .int .i64 u.back.regs, .slice L.b.A u.back.code.length L.b.c, .slice L.b.B u.back.outs.length L.b.d] := ⟨_, rfl⟩
  have HVAL : Hid (U = L.val u) := Lib.hid hU
  rw [← hU] at HQ1 HX1 HCP ⊢
  clear hU
  generalize longB u = b1 at *
  have q1 := HQ1.out.below HBL.out
  go_wp2_with (first | (refine wpList_load_box rfl (.tmp 2) rfl _ rfl q1 ?_) | ((with_reducible refine (HX1.out _ HBL.out).mono ?_)))
  rintro e x2 ⟨rfl, hb⟩
  have HBN := Lib.hid (HBL.out.trans (hb.mono HBL.out.size))
  clear hb HBL q1
  have HBL := HBN
  clear HBN
  have q1 := HQ1.out.below HBL.out
  cases b1 with
  | true =>
    go_wp2_with fail
    go_ret
    exact ⟨rfl, HB1.out.trans (HBL.out.mono HB1.out.size)⟩
  | false =>
    by_cases hn2 : 20000 < n
    · go_wp2_with fail
      go_ret
      exact ⟨rfl, HB1.out.trans (HBL.out.mono HB1.out.size)⟩
    · go_wp2_with (first | (refine wpList_load_box rfl (.tmp 2) rfl _ rfl q1 ?_) | ((with_reducible refine (HCP.out _ HBL.out).mono ?_)))
      rintro e x3 ⟨N, rfl, ho, hb⟩
      have HBN := Lib.hid (HBL.out.trans (hb.mono HBL.out.size))
      have HN3 := Lib.hid ho.in
      have HE4 := Lib.hid (encode12_any (w := x3) HN3.out)
      clear hb HBL q1 ho HCP
      unfold UnV.val at HE4 ⊢
      unfold UnV.cells at HE4 ⊢
      go_wp2_with fail
      (with_reducible refine HE4.out.mono ?_)
      rintro e x5 ⟨hb, ⟨hf, rfl⟩ | ⟨hf, A5, n5, c5, rfl, hnc5, hnb5, ho⟩⟩
      · have HBL := Lib.hid (HBN.out.trans (hb.mono HBN.out.size))
        have hf0 := hf
        obtain ⟨f, hff⟩ : ∃ f, f = u.fault := ⟨_, rfl⟩
        rw [← hff] at hf0 ⊢
        have e0 : ((f : Int) == 0) = false := by simp; omega
        have e1 : ((f : Int) != 0) = true := by simp; omega
        clear hb hf hf0 hff HE4 HBN
        have HDEC := Lib.hid (decode17 (w := x5) (HRB.out.below HBL.out) HLB.out (by omega) hnc)
        go_wp2_with fail
        (with_reducible refine HDEC.out.mono ?_)
        rintro e y1 ⟨hb, hd⟩
        have HBN := Lib.hid (HBL.out.trans (hb.mono HBL.out.size))
        have HBD := Lib.hid hd
        clear hb hd HDEC
        rcases hdec : dec l with q | v
        · have HD := HBD.out
          rw [hdec] at HD
          have hq := dec_le hdec
          rw [HLN.out] at hq
          have HD2 := Lib.hid HD
          clear HD HBD hdec
          obtain rfl := HD2.out
          unfold UnV.val UnV.cells
          have hq0 : (0 : Int) ≤ (q : Int) := by omega
          have hqn : (q : Int) ≤ (n : Int) := by omega
          go_wp2_with fail
          go_ret
          exact ⟨rfl, HB1.out.trans ((HBN.out.trans (((Below.refl _ _).alloc (Nat.le_refl _) _).alloc (by simp) _ |>.mono HBN.out.size)).mono HB1.out.size)⟩
        · have HD := HBD.out
          rw [hdec] at HD
          obtain ⟨hf, hbs⟩ := dec_ok hdec
          have HF := Lib.hid hf
          have HBS := Lib.hid hbs
          obtain ⟨M, rfl, hv⟩ := HD
          obtain ⟨y2, hy2⟩ : ∃ y2, y2 = (y1.alloc (.cells (M.cells v) 28)).alloc (.cells #[.int .i64 0, .int .i64 0] 43) := ⟨_, rfl⟩
          have HB12 : Hid (Below y1.heap.size y1 y2) := Lib.hid (by rw [hy2]; exact (below_a _ _).alloc (by simp) _)
          have HQ3 : Hid (BoxAt y2 y1.heap.size (M.val v)) := Lib.hid ⟨M, v, rfl, by rw [hy2, Below.heap_alloc _ _ _ (by simp)]; exact heap_alloc_new _ _⟩
          have HE4 := Lib.hid (encode12_ok v M y2 (hv.below HB12.out) hf)
          have HBM := Lib.hid (HBN.out.trans (HB12.out.mono HBN.out.size))
          have hsz : y1.heap.size + 2 = y2.heap.size := by rw [hy2]; simp
          rw [hy2] at HE4
          have q3 := HQ3.out
          rw [hy2] at q3
          have HW4 := Lib.hid hy2
          clear hdec hf hbs hv hy2 HBD
          unfold UnV.val at HE4 q3 ⊢
          unfold UnV.cells at HE4 HW4 q3 ⊢
          go_wp2_with (first | (refine wpList_load_box rfl (.tmp 9) rfl _ rfl q3 ?_) | ((with_reducible refine HE4.out.mono ?_)))
          rw [← HW4.out]
          clear q3
          rintro e y3 ⟨v3, n3, rfl, ho, hb⟩
          obtain ⟨A3, c3, rfl, _, _⟩ := own_slice ho
          have HBN2 := Lib.hid (HBM.out.trans (hb.mono HBM.out.size))
          have HEQ := Lib.hid (bool_out (d := true) (equal26 A3 A n3 c3 n c v.bytes l y3 (bytes_lt v) HLB.out (Reads.of_own ho) (HRB.out.below HBN2.out)) ⟨fun _ => HBS.out.symm, fun _ => rfl⟩)
          clear hb ho HE4 HW4
          go_wp2_with fail
          (with_reducible refine HEQ.out.mono ?_)
          rintro e y4 ⟨rfl, hb⟩
          have HBM2 := Lib.hid (HBN2.out.trans (hb.mono HBN2.out.size))
          clear hb HEQ
          go_wp2_with fail
          go_ret
          exact ⟨rfl, HB1.out.trans (HBM2.out.mono HB1.out.size)⟩
      · have HBN2 := Lib.hid (HBN.out.trans (hb.mono HBN.out.size))
        have HF0 := Lib.hid hf
        have HDEC := Lib.hid (decode17 (Reads.of_own ho) (bytes_lt u) hnb5 hnc5)
        clear hb hf ho HE4 HBN
        go_wp2_with fail
        (with_reducible refine HDEC.out.mono ?_)
        rintro e x6 ⟨hb, hd⟩
        rw [dec_self HF0.out] at hd
        obtain ⟨M, rfl, hv⟩ := hd
        have HBN := Lib.hid (HBN2.out.trans (hb.mono HBN2.out.size))
        obtain ⟨x7, hx7⟩ : ∃ x7, x7 = (x6.alloc (.cells (M.cells u) 28)).alloc (.cells #[.int .i64 0, .int .i64 0] 43) := ⟨_, rfl⟩
        have HB67 : Hid (Below x6.heap.size x6 x7) := Lib.hid (by rw [hx7]; exact (below_a _ _).alloc (by simp) _)
        have HQ3 : Hid (BoxAt x7 x6.heap.size (M.val u)) := Lib.hid ⟨M, u, rfl, by rw [hx7, Below.heap_alloc _ _ _ (by simp)]; exact heap_alloc_new _ _⟩
        have HBM := Lib.hid (HBN.out.trans (HB67.out.mono HBN.out.size))
        have HS7 := Lib.hid (HSM.out x7 HBM.out M (hv.below HB67.out))
        have q3 := HQ3.out
        have q1 := HQ1.out.below HBM.out
        rw [hx7] at HS7 q3 q1
        have HW7 := Lib.hid hx7
        rw [← HVAL.out] at HS7
        clear hb hv hx7 HDEC HBN2
        unfold UnV.val at HS7 q3 ⊢
        unfold UnV.cells at HS7 HW7 q3 q1 ⊢
        go_wp2_with (first | (refine wpList_load_boxg rfl (.tmp 2) rfl _ rfl q1 ?_) | (refine wpList_load_boxg rfl (.tmp 7) rfl _ rfl q3 ?_) | ((with_reducible refine HS7.out.mono ?_)))
        rw [← HW7.out]
        clear q3 q1
        rintro e x8 ⟨rfl, hb⟩
        have HBL := Lib.hid (HBM.out.trans (hb.mono HBM.out.size))
        clear hb HS7 HW7 HBN
        have HDEC := Lib.hid (decode17 (w := x8) (HRB.out.below HBL.out) HLB.out (by omega) hnc)
        go_wp2_with fail
        (with_reducible refine HDEC.out.mono ?_)
        rintro e y1 ⟨hb, hd⟩
        have HBN := Lib.hid (HBL.out.trans (hb.mono HBL.out.size))
        have HBD := Lib.hid hd
        clear hb hd HDEC
        rcases hdec : dec l with q | v
        · have HD := HBD.out
          rw [hdec] at HD
          have hq := dec_le hdec
          rw [HLN.out] at hq
          have HD2 := Lib.hid HD
          clear HD HBD hdec
          obtain rfl := HD2.out
          unfold UnV.val UnV.cells
          have hq0 : (0 : Int) ≤ (q : Int) := by omega
          have hqn : (q : Int) ≤ (n : Int) := by omega
          go_wp2_with fail
          go_ret
          exact ⟨rfl, HB1.out.trans ((HBN.out.trans (((Below.refl _ _).alloc (Nat.le_refl _) _).alloc (by simp) _ |>.mono HBN.out.size)).mono HB1.out.size)⟩
        · have HD := HBD.out
          rw [hdec] at HD
          obtain ⟨hf, hbs⟩ := dec_ok hdec
          have HF := Lib.hid hf
          have HBS := Lib.hid hbs
          obtain ⟨M, rfl, hv⟩ := HD
          obtain ⟨y2, hy2⟩ : ∃ y2, y2 = (y1.alloc (.cells (M.cells v) 28)).alloc (.cells #[.int .i64 0, .int .i64 0] 43) := ⟨_, rfl⟩
          have HB12 : Hid (Below y1.heap.size y1 y2) := Lib.hid (by rw [hy2]; exact (below_a _ _).alloc (by simp) _)
          have HQ3 : Hid (BoxAt y2 y1.heap.size (M.val v)) := Lib.hid ⟨M, v, rfl, by rw [hy2, Below.heap_alloc _ _ _ (by simp)]; exact heap_alloc_new _ _⟩
          have HE4 := Lib.hid (encode12_ok v M y2 (hv.below HB12.out) hf)
          have HBM := Lib.hid (HBN.out.trans (HB12.out.mono HBN.out.size))
          have hsz : y1.heap.size + 2 = y2.heap.size := by rw [hy2]; simp
          rw [hy2] at HE4
          have q3 := HQ3.out
          rw [hy2] at q3
          have HW4 := Lib.hid hy2
          clear hdec hf hbs hv hy2 HBD
          unfold UnV.val at HE4 q3 ⊢
          unfold UnV.cells at HE4 HW4 q3 ⊢
          go_wp2_with (first | (refine wpList_load_box rfl (.tmp 9) rfl _ rfl q3 ?_) | ((with_reducible refine HE4.out.mono ?_)))
          rw [← HW4.out]
          clear q3
          rintro e y3 ⟨v3, n3, rfl, ho, hb⟩
          obtain ⟨A3, c3, rfl, _, _⟩ := own_slice ho
          have HBN2 := Lib.hid (HBM.out.trans (hb.mono HBM.out.size))
          have HEQ := Lib.hid (bool_out (d := true) (equal26 A3 A n3 c3 n c v.bytes l y3 (bytes_lt v) HLB.out (Reads.of_own ho) (HRB.out.below HBN2.out)) ⟨fun _ => HBS.out.symm, fun _ => rfl⟩)
          clear hb ho HE4 HW4
          go_wp2_with fail
          (with_reducible refine HEQ.out.mono ?_)
          rintro e y4 ⟨rfl, hb⟩
          have HBM2 := Lib.hid (HBN2.out.trans (hb.mono HBN2.out.size))
          clear hb HEQ
          go_wp2_with fail
          go_ret
          exact ⟨rfl, HB1.out.trans (HBM2.out.mono HB1.out.size)⟩
end Go.Proofs.Ytcelcognmdcenaa
