/-
  WALKS: may a unit be? In the reference's words.
-/
import Derived.Test.YtcelcognmdcenaaG2
import Derived.Test.YtcelcognmdcenaaA5
namespace Go.Proofs.Ytcelcognmdcenaa
open Go.RowKit

set_option maxRecDepth 100000 in
set_option maxHeartbeats 4000000 in
theorem may21_head (u : Un) (L : UnV) (w : World) (hu : UnIn w L u) (h : ¬ (1 ≤ u.k1 ∧ 1 ≤ u.k2 ∧ u.k1 ≤ 8 ∧ u.k2 ≤ 8 ∧ u.pts.length ≤ 255)) : Calls Try.prog 21 #[L.val u] w (MayOut w 2) := by
  have hpn : u.pts.length ≤ 9223372036854775807 := hu.pts.2.1
  have H := Lib.hid h
  clear h hu
  unfold UnV.val UnV.cells
  by_cases c0 : 1 ≤ u.k1
  case neg =>
    go_enter Try.func21, Try.ntmps21
    go_wp2_with fail
    go_ret
    exact ⟨rfl, below_a _ _⟩
  by_cases c1 : 1 ≤ u.k2
  case neg =>
    go_enter Try.func21, Try.ntmps21
    go_wp2_with fail
    go_ret
    exact ⟨rfl, below_a _ _⟩
  by_cases c2 : u.k1 ≤ 8
  case neg =>
    go_enter Try.func21, Try.ntmps21
    go_wp2_with fail
    go_ret
    exact ⟨rfl, below_a _ _⟩
  by_cases c3 : u.k2 ≤ 8
  case neg =>
    go_enter Try.func21, Try.ntmps21
    go_wp2_with fail
    go_ret
    exact ⟨rfl, below_a _ _⟩
  have c4 : ¬ u.pts.length ≤ 255 := fun c4 => H.out ⟨c0, c1, c2, c3, c4⟩
  go_enter Try.func21, Try.ntmps21
  go_wp2_with fail
  go_ret
  exact ⟨rfl, below_a _ _⟩

set_option maxRecDepth 100000 in
set_option maxHeartbeats 8000000 in
theorem may21_ok (u : Un) (L : UnV) (w : World) (hu : UnIn w L u) (h : 1 ≤ u.k1 ∧ 1 ≤ u.k2 ∧ u.k1 ≤ 8 ∧ u.k2 ≤ 8 ∧ u.pts.length ≤ 255) : Calls Try.prog 21 #[L.val u] w (MayOut w u.fault) := by
  obtain ⟨c0, c1, c2, c3, c4⟩ := h
  have HU := Lib.hid hu
  have HH : Hid (1 ≤ u.k1 ∧ 1 ≤ u.k2 ∧ u.k1 ≤ 8 ∧ u.k2 ≤ 8 ∧ u.pts.length ≤ 255) := ⟨c0, c1, c2, c3, c4⟩
  clear hu
  obtain ⟨N, hN⟩ : ∃ N, N = u.fault := ⟨_, rfl⟩
  have HN : Hid (N = u.fault) := hN
  rw [← hN]
  clear hN
  have q1 := heap_alloc_new w (.cells (L.cells u) 28)
  have HBL := Lib.hid (below_a w (.cells (L.cells u) 28))
  have HA1 := Lib.hid (HU.out.pts.below (below_a w (.cells (L.cells u) 28))).points.2
  have hs : (w.alloc (.cells (L.cells u) 28)).heap.size = w.heap.size + 1 := by simp
  have HQ1 := Lib.hid q1
  have HSZ := Lib.hid hs
  clear q1 hs
  unfold UnV.val
  unfold UnV.cells at HQ1 HSZ HBL HA1 ⊢
  go_enter Try.func21, Try.ntmps21
  go_wp2_with fail
  obtain ⟨w2, hw2⟩ : ∃ w2, w2 = w.alloc (.cells (L.cells u) 28) := ⟨_, rfl⟩
  unfold UnV.cells at hw2
  rw [← hw2] at HQ1 HSZ HBL HA1 ⊢
  clear hw2
  obtain ⟨P1, hP1⟩ : ∃ p, p = L.P := ⟨_, rfl⟩
  rw [← hP1] at HA1 ⊢
  have HPL : Hid (P1 = L.P) := hP1
  clear hP1
  have f12 : w2.cell? ⟨w.heap.size, 2, none⟩ = some (.slice P1 u.pts.length L.c) := by
    have := cell_of_row w2 w.heap.size 2 _ 28 (0, 0) HQ1.out
    rw [this]
    rw [HPL.out]; rfl
  have hwl : w.heap.size < w2.heap.size := by rw [HSZ.out]; omega
  go_loopw [3] (fun k wr => ∃ j : Nat, j ≤ u.pts.length ∧ k = .int .i64 j ∧ Hid (∀ i, i < j → ∀ x, u.pts[i]? = some x → inP x = true) ∧ Hid (Below w2.heap.size w2 wr)) (fun k _ => u.pts.length - (intOf k).toNat)
  case atStart => exact ⟨0, Nat.zero_le _, rfl, fun i hi => absurd hi (by omega), Below.refl _ _⟩
  case round =>
    obtain ⟨j, hj, rfl, HP, HB⟩ := hrel
    have HBW := Lib.hid (HBL.out.trans (HB.out.mono (by rw [HSZ.out]; omega)))
    have g12 : wr.cell? ⟨w.heap.size, 2, none⟩ = some (.slice P1 u.pts.length L.c) := (HB.out.cell (p := ⟨w.heap.size, 2, none⟩) hwl).trans f12
    by_cases hlt : j < u.pts.length
    · obtain ⟨ga, oa, hAA, hgl, hca⟩ := HA1.out (by omega)
      subst hAA
      obtain ⟨x, hx⟩ : ∃ x, u.pts[j]? = some x := ⟨u.pts[j]'hlt, List.getElem?_eq_getElem _⟩
      obtain ⟨a0, a1⟩ := hca j x hx
      rw [← HB.out.cell (p := ⟨ga, oa + j * 2, none⟩) hgl] at a0
      rw [← HB.out.cell (p := ⟨ga, oa + j * 2 + 1, none⟩) hgl] at a1
      have HX := Lib.hid hx
      clear hca hx hgl
      obtain ⟨xa, xb⟩ := x
      simp only at a0 a1
      have HC := Lib.hid (fun wx => in40 xa xb wx)
      cases hin : inP (xa, xb) with
      | false =>
        rw [hin] at HC
        have HN2 : Hid (N = 2) := Lib.hid (HN.out.trans (fault_pt HX.out hin))
        clear hin
        go_wp2_with fail
        (with_reducible refine (HC.out _).mono ?_)
        rintro e w5 ⟨rfl, hb5⟩
        have HB5 := Lib.hid (HBW.out.trans (hb5.mono HBW.out.size))
        clear hb5
        go_wp2_with fail
        go_ret
        exact ⟨by rw [HN2.out]; rfl, HB5.out⟩
      | true =>
        rw [hin] at HC
        have HIN := Lib.hid hin
        clear hin
        go_wp2_with fail
        (with_reducible refine (HC.out _).mono ?_)
        rintro e w5 ⟨rfl, hb5⟩
        have HB5 := Lib.hid (HB.out.trans (hb5.mono HB.out.size))
        clear hb5
        go_wp2_with fail
        go_roundw
        case rel => exact ⟨j + 1, by omega, by go_num, fun i hi x hx => by
          by_cases e : i = j
          · subst e; rw [HX.out] at hx; cases hx; exact HIN.out
          · exact HP.out i (by omega) x hx, HB5.out⟩
        case measure => simp [intOf]; omega
    · have HNF : Hid (N = if u.left.ok && u.right.ok && u.back.ok then 0 else 80) := Lib.hid (HN.out.trans (fault_in HH.out fun i x hx => HP.out i (by have := (List.getElem?_eq_some_iff.1 hx).1; omega) x hx))
      have HQR := Lib.hid ((HB.out.block _ hwl).trans HQ1.out)
      have hwr : w.heap.size < wr.heap.size := Nat.lt_of_lt_of_le hwl HB.out.size
      clear HP HB HA1
      obtain ⟨s0, s1, s2, s3⟩ := (box15 (L := L) (u := u) HQR.out).1
      have HC5 := Lib.hid (right41 u.left L.l wr (HU.out.l.below HBW.out))
      cases hok5 : u.left.ok with
      | false =>
        rw [hok5] at HC5
        have HN8 : Hid (N = 80) := Lib.hid (HNF.out.trans (by rw [hok5]; rfl))
        clear hok5
        go_wp2_with fail
        (with_reducible refine HC5.out.mono ?_)
        rintro e v5 ⟨rfl, hb5⟩
        have HB5 := Lib.hid (HBW.out.trans (hb5.mono HBW.out.size))
        clear hb5
        go_wp2_with fail
        go_ret
        exact ⟨by rw [HN8.out]; rfl, HB5.out⟩
      | true =>
        rw [hok5] at HC5
        have HOK5 := Lib.hid hok5
        clear hok5
        go_wp2_with fail
        (with_reducible refine HC5.out.mono ?_)
        rintro e v5 ⟨rfl, hb5⟩
        have HB5 := Lib.hid (HBW.out.trans (hb5.mono HBW.out.size))
        have HQ5' := Lib.hid ((hb5.block _ hwr).trans HQR.out)
        have hlt5 : w.heap.size < v5.heap.size := Nat.lt_of_lt_of_le hwr hb5.size
        clear hb5
        obtain ⟨s0, s1, s2, s3⟩ := (box15 (L := L) (u := u) HQ5'.out).2.1
        have HC6 := Lib.hid (right41 u.right L.r v5 (HU.out.r.below HB5.out))
        cases hok6 : u.right.ok with
        | false =>
          rw [hok6] at HC6
          have HN8 : Hid (N = 80) := Lib.hid (HNF.out.trans (by rw [hok6, Bool.and_false]; rfl))
          clear hok6
          go_wp2_with fail
          (with_reducible refine HC6.out.mono ?_)
          rintro e v6 ⟨rfl, hb5⟩
          have HB6 := Lib.hid (HB5.out.trans (hb5.mono HB5.out.size))
          clear hb5
          go_wp2_with fail
          go_ret
          exact ⟨by rw [HN8.out]; rfl, HB6.out⟩
        | true =>
          rw [hok6] at HC6
          have HOK6 := Lib.hid hok6
          clear hok6
          go_wp2_with fail
          (with_reducible refine HC6.out.mono ?_)
          rintro e v6 ⟨rfl, hb5⟩
          have HB6 := Lib.hid (HB5.out.trans (hb5.mono HB5.out.size))
          have HQ6' := Lib.hid ((hb5.block _ hlt5).trans HQ5'.out)
          have hlt6 : w.heap.size < v6.heap.size := Nat.lt_of_lt_of_le hlt5 hb5.size
          clear hb5
          obtain ⟨s0, s1, s2, s3⟩ := (box15 (L := L) (u := u) HQ6'.out).2.2
          have HC7 := Lib.hid (right41 u.back L.b v6 (HU.out.b.below HB6.out))
          cases hok7 : u.back.ok with
          | false =>
            rw [hok7] at HC7
            have HN8 : Hid (N = 80) := Lib.hid (HNF.out.trans (by rw [hok7, Bool.and_false]; rfl))
            clear hok7
            go_wp2_with fail
            (with_reducible refine HC7.out.mono ?_)
            rintro e v7 ⟨rfl, hb5⟩
            have HB7 := Lib.hid (HB6.out.trans (hb5.mono HB6.out.size))
            clear hb5
            go_wp2_with fail
            go_ret
            exact ⟨by rw [HN8.out]; rfl, HB7.out⟩
          | true =>
            rw [hok7] at HC7
            have HOK7 := Lib.hid hok7
            clear hok7
            go_wp2_with fail
            (with_reducible refine HC7.out.mono ?_)
            rintro e v7 ⟨rfl, hb5⟩
            have HB7 := Lib.hid (HB6.out.trans (hb5.mono HB6.out.size))
            have HQ7' := Lib.hid ((hb5.block _ hlt6).trans HQ6'.out)
            have hlt7 : w.heap.size < v7.heap.size := Nat.lt_of_lt_of_le hlt6 hb5.size
            clear hb5
            have HN0 : Hid (N = 0) := Lib.hid (HNF.out.trans (by rw [HOK5.out, HOK6.out, HOK7.out]; rfl))
            go_wp2_with fail
            go_ret
            exact ⟨by rw [HN0.out]; rfl, HB7.out⟩
theorem may21 (u : Un) (L : UnV) (w : World) (hu : UnIn w L u) : Calls Try.prog 21 #[L.val u] w (MayOut w u.fault) := by
  by_cases h : 1 ≤ u.k1 ∧ 1 ≤ u.k2 ∧ u.k1 ≤ 8 ∧ u.k2 ≤ 8 ∧ u.pts.length ≤ 255
  · exact may21_ok u L w hu h
  · rw [fault_head h]
    exact may21_head u L w hu h
end Go.Proofs.Ytcelcognmdcenaa
