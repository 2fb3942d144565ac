/-
  WALKS: may a unit be? In the program's words.
-/
import Derived.Test.YtcelcognmdcenaaD2
import Derived.Test.YtcelcognmdcenaaF2
namespace Go.Proofs.Ytcelcognmdcenaa
open Go.RowKit

/-- What May answers. -/
def MayOut (w : World) (n : Nat) (e : Ending) (w' : World) : Prop := e = .returned (.int .i64 (n : Nat)) ∧ Below w.heap.size w w'
theorem fault_head {u : Un} (h : ¬ (1 ≤ u.k1 ∧ 1 ≤ u.k2 ∧ u.k1 ≤ 8 ∧ u.k2 ≤ 8 ∧ u.pts.length ≤ 255)) : u.fault = 2 := by
  unfold Un.fault Un.headOk
  rw [decide_eq_false h]; rfl
theorem fault_pt {u : Un} {j : Nat} {x : Int × Int} (hx : u.pts[j]? = some x) (h : inP x = false) : u.fault = 2 := by
  have : u.pts.all inP = false := by
    rw [List.all_eq_false]
    exact ⟨x, List.mem_of_getElem? hx, by rw [h]; decide⟩
  unfold Un.fault
  rw [this, Bool.and_false]; rfl
theorem fault_in {u : Un} (h : 1 ≤ u.k1 ∧ 1 ≤ u.k2 ∧ u.k1 ≤ 8 ∧ u.k2 ≤ 8 ∧ u.pts.length ≤ 255) (hp : ∀ (j : Nat) x, u.pts[j]? = some x → inP x = true) : u.fault = if u.left.ok && u.right.ok && u.back.ok then 0 else 80 := by
  have : u.pts.all inP = true := by
    rw [List.all_eq_true]
    intro x hx
    obtain ⟨j, hj⟩ := List.mem_iff_getElem?.1 hx
    exact hp j x hj
  unfold Un.fault Un.headOk
  rw [decide_eq_true h, this]; rfl

set_option maxRecDepth 100000 in
set_option maxHeartbeats 4000000 in
theorem may20_head (u : Un) (L : UnV) (w : World) (hu : UnIn w L u) (h : ¬ (1 ≤ u.k1 ∧ 1 ≤ u.k2 ∧ u.k1 ≤ 8 ∧ u.k2 ≤ 8 ∧ u.pts.length ≤ 255)) : Calls Try.prog 20 #[L.val u] w (MayOut w 2) := by
  have hpn : u.pts.length ≤ 9223372036854775807 := hu.pts.2.1
  have H := Lib.hid h
  clear h hu
  unfold UnV.val UnV.cells
  by_cases c0 : 1 ≤ u.k1
  case neg =>
    go_enter Try.func20, Try.ntmps20
    go_wp2_with fail
    go_ret
    exact ⟨rfl, below_a _ _⟩
  by_cases c1 : 1 ≤ u.k2
  case neg =>
    go_enter Try.func20, Try.ntmps20
    go_wp2_with fail
    go_ret
    exact ⟨rfl, below_a _ _⟩
  by_cases c2 : u.k1 ≤ 8
  case neg =>
    go_enter Try.func20, Try.ntmps20
    go_wp2_with fail
    go_ret
    exact ⟨rfl, below_a _ _⟩
  by_cases c3 : u.k2 ≤ 8
  case neg =>
    go_enter Try.func20, Try.ntmps20
    go_wp2_with fail
    go_ret
    exact ⟨rfl, below_a _ _⟩
  have c4 : ¬ u.pts.length ≤ 255 := fun c4 => H.out ⟨c0, c1, c2, c3, c4⟩
  go_enter Try.func20, Try.ntmps20
  go_wp2_with fail
  go_ret
  exact ⟨rfl, below_a _ _⟩

set_option maxRecDepth 100000 in
set_option maxHeartbeats 8000000 in
theorem may20_ok (u : Un) (L : UnV) (w : World) (hu : UnIn w L u) (h : 1 ≤ u.k1 ∧ 1 ≤ u.k2 ∧ u.k1 ≤ 8 ∧ u.k2 ≤ 8 ∧ u.pts.length ≤ 255) : Calls Try.prog 20 #[L.val u] w (MayOut w u.fault) := by
  obtain ⟨c0, c1, c2, c3, c4⟩ := h
  have HU := Lib.hid hu
  have HH : Hid (1 ≤ u.k1 ∧ 1 ≤ u.k2 ∧ u.k1 ≤ 8 ∧ u.k2 ≤ 8 ∧ u.pts.length ≤ 255) := ⟨c0, c1, c2, c3, c4⟩
  clear hu
  obtain ⟨N, hN⟩ : ∃ N, N = u.fault := ⟨_, rfl⟩
  have HN : Hid (N = u.fault) := hN
  rw [← hN]
  clear hN
  have q1 := heap_alloc_new w (.cells (L.cells u) 28)
  have HBL := Lib.hid (below_a w (.cells (L.cells u) 28))
  have HA1 := Lib.hid (HU.out.pts.below (below_a w (.cells (L.cells u) 28))).points.2
  have hs : (w.alloc (.cells (L.cells u) 28)).heap.size = w.heap.size + 1 := by simp
  have HQ1 := Lib.hid q1
  have HSZ := Lib.hid hs
  clear q1 hs
  unfold UnV.val
  unfold UnV.cells at HQ1 HSZ HBL HA1 ⊢
  go_enter Try.func20, Try.ntmps20
  go_wp2_with fail
  obtain ⟨w2, hw2⟩ : ∃ w2, w2 = w.alloc (.cells (L.cells u) 28) := ⟨_, rfl⟩
  unfold UnV.cells at hw2
  rw [← hw2] at HQ1 HSZ HBL HA1 ⊢
  clear hw2
  obtain ⟨P1, hP1⟩ : ∃ p, p = L.P := ⟨_, rfl⟩
  rw [← hP1] at HA1 ⊢
  clear hP1
  go_loopw [36] (fun k wr => ∃ j : Nat, j ≤ u.pts.length ∧ k = .int .i64 j ∧ Hid (∀ i, i < j → ∀ x, u.pts[i]? = some x → inP x = true) ∧ Hid (Below w2.heap.size w2 wr)) (fun k _ => u.pts.length - (intOf k).toNat)
  case atStart => exact ⟨0, Nat.zero_le _, rfl, fun i hi => absurd hi (by omega), Below.refl _ _⟩
  case round =>
    obtain ⟨j, hj, rfl, HP, HB⟩ := hrel
    have HBW := Lib.hid (HBL.out.trans (HB.out.mono (by rw [HSZ.out]; omega)))
    by_cases hlt : j < u.pts.length
    · obtain ⟨ga, oa, hAA, hgl, hca⟩ := HA1.out (by omega)
      subst hAA
      obtain ⟨x, hx⟩ : ∃ x, u.pts[j]? = some x := ⟨u.pts[j]'hlt, List.getElem?_eq_getElem _⟩
      obtain ⟨a0, a1⟩ := hca j x hx
      rw [← HB.out.cell (p := ⟨ga, oa + j * 2, none⟩) hgl] at a0
      rw [← HB.out.cell (p := ⟨ga, oa + j * 2 + 1, none⟩) hgl] at a1
      have hgw : ga < wr.heap.size := Nat.lt_of_lt_of_le hgl HB.out.size
      have HX := Lib.hid hx
      clear hca hx hgl
      obtain ⟨xa, xb⟩ := x
      simp only at a0 a1
      have HC := Lib.hid (fun wx => in38 xa xb wx)
      cases hin : inP (xa, xb) with
      | false =>
        rw [hin] at HC
        have HN2 : Hid (N = 2) := Lib.hid (HN.out.trans (fault_pt HX.out hin))
        clear hin
        go_wp2_with fail
        (with_reducible refine (HC.out _).mono ?_)
        rintro e w5 ⟨rfl, hb5⟩
        have HB5 := Lib.hid ((HBW.out.alloc HBW.out.size _).trans (hb5.mono (Nat.le_trans HBW.out.size (by simp))))
        clear hb5
        go_wp2_with fail
        go_ret
        exact ⟨by rw [HN2.out]; rfl, HB5.out⟩
      | true =>
        rw [hin] at HC
        have HIN := Lib.hid hin
        clear hin
        go_wp2_with fail
        (with_reducible refine (HC.out _).mono ?_)
        rintro e w5 ⟨rfl, hb5⟩
        have HB5 := Lib.hid ((HB.out.alloc HB.out.size _).trans (hb5.mono (Nat.le_trans HB.out.size (by simp))))
        clear hb5
        go_wp2_with fail
        go_roundw
        case rel => exact ⟨j + 1, by omega, by go_num, fun i hi x hx => by
          by_cases e : i = j
          · subst e; rw [HX.out] at hx; cases hx; exact HIN.out
          · exact HP.out i (by omega) x hx, HB5.out⟩
        case measure => simp [intOf]; omega
    · have HNF : Hid (N = if u.left.ok && u.right.ok && u.back.ok then 0 else 80) := Lib.hid (HN.out.trans (fault_in HH.out fun i x hx => HP.out i (by have := (List.getElem?_eq_some_iff.1 hx).1; omega) x hx))
      have HPR := Lib.hid (programs27 w.heap.size wr)
      have hwl : w.heap.size < w2.heap.size := by rw [HSZ.out]; omega
      have HQR := Lib.hid ((HB.out.block _ hwl).trans HQ1.out)
      have hwr : w.heap.size < wr.heap.size := Nat.lt_of_lt_of_le hwl HB.out.size
      clear HP HB HA1
      go_wp2_with fail
      (with_reducible refine HPR.out.mono ?_)
      rintro e w3 ⟨rfl, hb3⟩
      have HQ3 := Lib.hid ((hb3.block _ hwr).trans HQR.out)
      have hw3 : w.heap.size < w3.heap.size := Nat.lt_of_lt_of_le hwr hb3.size
      have HB3 := Lib.hid (HBW.out.trans (hb3.mono HBW.out.size))
      clear hb3 HPR HQR HBW
      go_wp2_with fail
      go_loopw [45] (fun k wr => ∃ j : Nat, j ≤ 3 ∧ k = .int .i64 j ∧ Hid (Below w.heap.size w wr ∧ Below w3.heap.size w3 wr) ∧ Hid ((1 ≤ j → u.left.ok = true) ∧ (2 ≤ j → u.right.ok = true) ∧ (3 ≤ j → u.back.ok = true))) (fun k _ => 3 - (intOf k).toNat)
      case atStart => exact ⟨0, by omega, rfl, ⟨HB3.out, Below.refl _ _⟩, (fun h => by omega), (fun h => by omega), (fun h => by omega)⟩
      case round =>
        obtain ⟨k, hk, rfl, HBR, HK⟩ := hrel
        have HQW := Lib.hid ((HBR.out.2.block _ hw3).trans HQ3.out)
        have hwr' : w.heap.size < wr.heap.size := Nat.lt_of_lt_of_le hw3 HBR.out.2.size
        by_cases hlt : k < 3
        · have hk3 : k = 0 ∨ k = 1 ∨ k = 2 := by omega
          clear hlt hk
          rcases hk3 with rfl | rfl | rfl
          · have i0 : ∀ w', (Instr.index 58 (.agg #[.pointer (some ⟨w.heap.size, 3, none⟩), .pointer (some ⟨w.heap.size, 7, none⟩), .pointer (some ⟨w.heap.size, 11, none⟩)]) (.int .i64 0)).run Try.prog w' = .ok (.pointer (some ⟨w.heap.size, 3, none⟩)) w' := fun _ => by rfl
            rw [show ((0 : Nat) : Int) = 0 from rfl]
            obtain ⟨s0, s1, s2, s3⟩ := (box15 (L := L) (u := u) HQW.out).1
            have HC := Lib.hid (check39 u.left L.l wr (HU.out.l.below HBR.out.1))
            cases hok : u.left.ok with
            | false =>
              rw [hok] at HC
              have HN8 : Hid (N = 80) := Lib.hid (HNF.out.trans (by rw [hok]; rfl))
              clear hok
              go_wp2_with fail
              (with_reducible refine HC.out.mono ?_)
              rintro e w5 ⟨⟨kk, rfl⟩, hb5⟩
              have HB5 := Lib.hid (HBR.out.1.trans (hb5.mono HBR.out.1.size))
              clear hb5
              go_wp2_with fail
              go_ret
              exact ⟨by rw [HN8.out]; rfl, HB5.out⟩
            | true =>
              rw [hok] at HC
              have HOKK := Lib.hid hok
              clear hok
              go_wp2_with fail
              (with_reducible refine HC.out.mono ?_)
              rintro e w5 ⟨⟨kk, rfl⟩, hb5⟩
              have HB5 := Lib.hid (HBR.out.1.trans (hb5.mono HBR.out.1.size))
              have HB6 := Lib.hid (HBR.out.2.trans (hb5.mono HBR.out.2.size))
              clear hb5
              go_wp2_with fail
              go_roundw
              case rel => exact ⟨1, by omega, by go_num, ⟨HB5.out, HB6.out⟩, ⟨fun _ => (by first | exact HOKK.out | trivial), (fun h => by omega), (fun h => by omega)⟩⟩
              case measure => simp [intOf]
          · have i1 : ∀ w', (Instr.index 58 (.agg #[.pointer (some ⟨w.heap.size, 3, none⟩), .pointer (some ⟨w.heap.size, 7, none⟩), .pointer (some ⟨w.heap.size, 11, none⟩)]) (.int .i64 1)).run Try.prog w' = .ok (.pointer (some ⟨w.heap.size, 7, none⟩)) w' := fun _ => by rfl
            rw [show ((1 : Nat) : Int) = 1 from rfl]
            obtain ⟨s0, s1, s2, s3⟩ := (box15 (L := L) (u := u) HQW.out).2.1
            have HC := Lib.hid (check39 u.right L.r wr (HU.out.r.below HBR.out.1))
            cases hok : u.right.ok with
            | false =>
              rw [hok] at HC
              have HN8 : Hid (N = 80) := Lib.hid (HNF.out.trans (by rw [hok, Bool.and_false]; rfl))
              clear hok
              go_wp2_with fail
              (with_reducible refine HC.out.mono ?_)
              rintro e w5 ⟨⟨kk, rfl⟩, hb5⟩
              have HB5 := Lib.hid (HBR.out.1.trans (hb5.mono HBR.out.1.size))
              clear hb5
              go_wp2_with fail
              go_ret
              exact ⟨by rw [HN8.out]; rfl, HB5.out⟩
            | true =>
              rw [hok] at HC
              have HOKK := Lib.hid hok
              clear hok
              go_wp2_with fail
              (with_reducible refine HC.out.mono ?_)
              rintro e w5 ⟨⟨kk, rfl⟩, hb5⟩
              have HB5 := Lib.hid (HBR.out.1.trans (hb5.mono HBR.out.1.size))
              have HB6 := Lib.hid (HBR.out.2.trans (hb5.mono HBR.out.2.size))
              clear hb5
              go_wp2_with fail
              go_roundw
              case rel => exact ⟨2, by omega, by go_num, ⟨HB5.out, HB6.out⟩, ⟨fun _ => HK.out.1 (by omega), fun _ => (by first | exact HOKK.out | trivial), (fun h => by omega)⟩⟩
              case measure => simp [intOf]
          · have i2 : ∀ w', (Instr.index 58 (.agg #[.pointer (some ⟨w.heap.size, 3, none⟩), .pointer (some ⟨w.heap.size, 7, none⟩), .pointer (some ⟨w.heap.size, 11, none⟩)]) (.int .i64 2)).run Try.prog w' = .ok (.pointer (some ⟨w.heap.size, 11, none⟩)) w' := fun _ => by rfl
            rw [show ((2 : Nat) : Int) = 2 from rfl]
            obtain ⟨s0, s1, s2, s3⟩ := (box15 (L := L) (u := u) HQW.out).2.2
            have HC := Lib.hid (check39 u.back L.b wr (HU.out.b.below HBR.out.1))
            cases hok : u.back.ok with
            | false =>
              rw [hok] at HC
              have HN8 : Hid (N = 80) := Lib.hid (HNF.out.trans (by rw [hok, Bool.and_false]; rfl))
              clear hok
              go_wp2_with fail
              (with_reducible refine HC.out.mono ?_)
              rintro e w5 ⟨⟨kk, rfl⟩, hb5⟩
              have HB5 := Lib.hid (HBR.out.1.trans (hb5.mono HBR.out.1.size))
              clear hb5
              go_wp2_with fail
              go_ret
              exact ⟨by rw [HN8.out]; rfl, HB5.out⟩
            | true =>
              rw [hok] at HC
              have HOKK := Lib.hid hok
              clear hok
              go_wp2_with fail
              (with_reducible refine HC.out.mono ?_)
              rintro e w5 ⟨⟨kk, rfl⟩, hb5⟩
              have HB5 := Lib.hid (HBR.out.1.trans (hb5.mono HBR.out.1.size))
              have HB6 := Lib.hid (HBR.out.2.trans (hb5.mono HBR.out.2.size))
              clear hb5
              go_wp2_with fail
              go_roundw
              case rel => exact ⟨3, by omega, by go_num, ⟨HB5.out, HB6.out⟩, ⟨fun _ => HK.out.1 (by omega), fun _ => HK.out.2.1 (by omega), fun _ => (by first | exact HOKK.out | trivial)⟩⟩
              case measure => simp [intOf]
        · obtain rfl : k = 3 := by omega
          have HN0 : Hid (N = 0) := Lib.hid (HNF.out.trans (by rw [HK.out.1 (by omega), HK.out.2.1 (by omega), HK.out.2.2 (by omega)]; rfl))
          go_wp2_with fail
          go_ret
          exact ⟨by rw [HN0.out]; rfl, HBR.out.1⟩
theorem may20 (u : Un) (L : UnV) (w : World) (hu : UnIn w L u) : Calls Try.prog 20 #[L.val u] w (MayOut w u.fault) := by
  by_cases h : 1 ≤ u.k1 ∧ 1 ≤ u.k2 ∧ u.k1 ≤ 8 ∧ u.k2 ≤ 8 ∧ u.pts.length ≤ 255
  · exact may20_ok u L w hu h
  · rw [fault_head h]
    exact may20_head u L w hu h
end Go.Proofs.Ytcelcognmdcenaa
