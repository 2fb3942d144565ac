/-
  WALKS: are two units the same? In the reference's words, and the law's.
-/
import Derived.Test.YtcelcognmdcenaaF3
namespace Go.Proofs.Ytcelcognmdcenaa
open Go.RowKit

set_option maxRecDepth 100000 in
set_option maxHeartbeats 4000000 in
theorem same25 (u v : Un) (L M : UnV) (w : World) (hu : UnIn w L u) (hv : UnIn w M v) : Calls Try.prog 25 #[L.val u, M.val v] w (SmOut w (u = v)) := by
  have hb2 : ∀ o1 o2, Below w.heap.size w ((w.alloc o1).alloc o2) := fun o1 o2 => (below_a w o1).alloc (by simp) o2
  have HU := Lib.hid hu
  have HV := Lib.hid hv
  have HB := Lib.hid hb2
  have hpn : u.pts.length ≤ 9223372036854775807 := hu.pts.2.1
  have hpm : v.pts.length ≤ 9223372036854775807 := hv.pts.2.1
  have HPA := Lib.hid (fun x y => (hu.pts.below (hb2 x y)).points)
  have HPB := Lib.hid (fun x y => (hv.pts.below (hb2 x y)).points)
  clear hu hv hb2
  obtain ⟨P, hP⟩ : ∃ P : Prop, P = (u = v) := ⟨_, rfl⟩
  rw [← hP]
  have HP0 : Hid (P ↔ u.k1 = v.k1 ∧ u.k2 = v.k2 ∧ u.pts = v.pts ∧ u.left = v.left ∧ u.right = v.right ∧ u.back = v.back) := by
    rw [hP]
    exact ⟨fun h => by subst h; exact ⟨rfl, rfl, rfl, rfl, rfl, rfl⟩, fun ⟨h1, h2, h3, h4, h5, h6⟩ => by
      obtain ⟨k1, k2, pts, l, r, b⟩ := u
      obtain ⟨k1', k2', pts', l', r', b'⟩ := v
      simp only at h1 h2 h3 h4 h5 h6
      rw [h1, h2, h3, h4, h5, h6]⟩
  clear hP
  unfold UnV.val UnV.cells
  by_cases h1 : u.k1 = v.k1
  case neg =>
    have e0 : (u.k1 == v.k1) = false := by simpa using h1
    have e1 : (u.k1 != v.k1) = true := by simpa using h1
    have HN := Lib.hid h1
    clear h1
    go_enter Try.func25, Try.ntmps25
    go_wp2_with fail
    go_ret
    exact SmOut.no rfl (fun h => HN.out (HP0.out.1 h).1) (HB.out _ _)
  by_cases h2 : u.k2 = v.k2
  case neg =>
    have e1 : (u.k1 != v.k1) = false := by simpa using h1
    have e0 : (u.k2 == v.k2) = false := by simpa using h2
    have e2 : (u.k2 != v.k2) = true := by simpa using h2
    have HN := Lib.hid h2
    clear h2 h1
    go_enter Try.func25, Try.ntmps25
    go_wp2_with fail
    go_ret
    exact SmOut.no rfl (fun h => HN.out (HP0.out.1 h).2.1) (HB.out _ _)
  have HK1 := Lib.hid h1
  have HK2 := Lib.hid h2
  have e1 : (u.k1 != v.k1) = false := by simpa using h1
  have e2 : (u.k2 != v.k2) = false := by simpa using h2
  clear h1 h2
  by_cases h3 : u.pts.length = v.pts.length
  case neg =>
    have e0 : ((u.pts.length : Int) == v.pts.length) = false := by simp; omega
    have e3 : ((u.pts.length : Int) != v.pts.length) = true := by simp; omega
    have HN := Lib.hid h3
    clear h3
    go_enter Try.func25, Try.ntmps25
    go_wp2_with fail
    go_ret
    exact SmOut.no rfl (fun h => HN.out (by rw [(HP0.out.1 h).2.2.1])) (HB.out _ _)
  have e3 : ((u.pts.length : Int) != v.pts.length) = false := by simp; omega
  have HN3 := Lib.hid h3
  clear h3
  have q1 := heap_alloc_new w (.cells (L.cells u) 28)
  have q2 := heap_alloc_new (w.alloc (.cells (L.cells u) 28)) (.cells (M.cells v) 28)
  have q1' : ((w.alloc (.cells (L.cells u) 28)).alloc (.cells (M.cells v) 28)).heap[w.heap.size]? = some (.cells (L.cells u) 28 (0, 0)) := (Below.heap_alloc _ _ _ (by simp)).trans q1
  have q2' : ((w.alloc (.cells (L.cells u) 28)).alloc (.cells (M.cells v) 28)).heap[w.heap.size + 1]? = some (.cells (M.cells v) 28 (0, 0)) := by
    have := q2
    rw [World.size_alloc] at this
    exact this
  have hs : ((w.alloc (.cells (L.cells u) 28)).alloc (.cells (M.cells v) 28)).heap.size = w.heap.size + 1 + 1 := by simp
  have HBL := Lib.hid (HB.out (.cells (L.cells u) 28) (.cells (M.cells v) 28))
  have HA1 := Lib.hid (HPA.out (.cells (L.cells u) 28) (.cells (M.cells v) 28)).2
  have HA2 := Lib.hid (HPB.out (.cells (L.cells u) 28) (.cells (M.cells v) 28)).2
  have HL1 : Hid (u.pts.length = u.pts.length) := rfl
  have HL2 : Hid (v.pts.length = u.pts.length) := HN3.out.symm
  clear HPA HPB q1 q2
  have HQ1 := Lib.hid q1'
  have HQ2 := Lib.hid q2'
  have HSZ := Lib.hid hs
  clear q1' q2' hs
  unfold UnV.cells at HQ1 HQ2 HSZ HBL HA1 HA2
  go_enter Try.func25, Try.ntmps25
  go_wp2_with fail
  obtain ⟨w2, hw2⟩ : ∃ w2, w2 = (w.alloc (.cells (L.cells u) 28)).alloc (.cells (M.cells v) 28) := ⟨_, rfl⟩
  unfold UnV.cells at hw2
  rw [← hw2] at HQ1 HQ2 HSZ HBL HA1 HA2 ⊢
  clear hw2
  have f12 : w2.cell? ⟨w.heap.size, 2, none⟩ = some (.slice L.P u.pts.length L.c) := cell_of_row w2 w.heap.size 2 _ 28 (0, 0) HQ1.out
  have f22 : w2.cell? ⟨w.heap.size + 1, 2, none⟩ = some (.slice M.P v.pts.length M.c) := cell_of_row w2 (w.heap.size + 1) 2 _ 28 (0, 0) HQ2.out
  have hvl : v.pts.length = u.pts.length := HN3.out.symm
  rw [hvl] at f22
  clear hvl e1 e2 e3
  obtain ⟨P1, hP1⟩ : ∃ p, p = L.P := ⟨_, rfl⟩
  obtain ⟨P2, hP2⟩ : ∃ p, p = M.P := ⟨_, rfl⟩
  rw [← hP1] at f12 HA1 ⊢
  rw [← hP2] at f22 HA2 ⊢
  clear hP1 hP2
  go_loopw [5] (fun i wr => ∃ j : Nat, j ≤ u.pts.length ∧ i = .int .i64 j ∧ Hid (∀ i, i < j → u.pts[i]? = v.pts[i]?) ∧ ∃ q, w2.drewN q = wr) (fun i _ => u.pts.length - (intOf i).toNat)
  case atStart => exact ⟨0, Nat.zero_le _, rfl, fun i hi => absurd hi (by omega), 0, rfl⟩
  case round =>
    obtain ⟨j, hj, rfl, HP, q, rfl⟩ := hrel
    by_cases hlt : j < u.pts.length
    · obtain ⟨ga, oa, hAA, _, hca⟩ := HA1.out (by have := HL1.out; omega)
      obtain ⟨gb, ob, hBB, _, hcb⟩ := HA2.out (by have := HL2.out; omega)
      subst hAA hBB
      obtain ⟨x, hx⟩ : ∃ x, u.pts[j]? = some x := ⟨u.pts[j]'hlt, List.getElem?_eq_getElem _⟩
      obtain ⟨y, hy⟩ : ∃ y, v.pts[j]? = some y := ⟨v.pts[j]'(by rw [HL2.out]; exact hlt), List.getElem?_eq_getElem _⟩
      obtain ⟨a0, a1⟩ := hca j x hx
      obtain ⟨b0, b1⟩ := hcb j y hy
      have HX := Lib.hid hx
      have HY := Lib.hid hy
      clear hca hcb hx hy
      by_cases hxy : x = y
      · subst hxy
        go_wp2_with fail
        go_quiet (fail)
        go_wp2_with fail
        go_roundw
        case rel => exact ⟨j + 1, by omega, by go_num, fun i hi => by
          by_cases e : i = j
          · subst e; rw [HX.out, HY.out]
          · exact HP.out i (by omega), q + nq, by first | rfl | rw [World.drewN_drewN]⟩
        case measure => simp [intOf]; omega
      · have HNE := Lib.hid hxy
        have HEND : Hid (¬ u.pts = v.pts) := fun e => by
          have := HX.out
          rw [e, HY.out] at this
          cases this
          exact HNE.out rfl
        obtain ⟨x0, x1⟩ := x
        obtain ⟨y0, y1⟩ := y
        simp only at a0 b0 a1 b1
        have hn1 : ¬ (x0 = y0 ∧ x1 = y1) := fun h => hxy (by obtain ⟨rfl, rfl⟩ := h; rfl)
        have hne : (¬ x0 = y0) ∨ (x0 = y0 ∧ ¬ x1 = y1) := by omega
        clear hxy hn1
        rcases hne with h0 | ⟨rfl, h1⟩
        all_goals
          go_wp2_with fail
          go_quiet (fail)
          go_wp2_with fail
          go_ret
          exact SmOut.no rfl (fun h => HEND.out ((HP0.out.1 h).2.2.1)) (below_drewN (below_drewN HBL.out _) _)
    · have hall : u.pts = v.pts := eq_of_all rfl HL2.out fun i hi => HP.out i (by omega)
      have HE := Lib.hid hall
      clear hall HP HA1 HA2
      have HBB3 : Hid (Below w.heap.size w (w2.drewN q)) := Lib.hid (below_drewN HBL.out _)
      have HQ13 : Hid ((w2.drewN q).heap[w.heap.size]? = _) := HQ1.out
      have HQ23 : Hid ((w2.drewN q).heap[w.heap.size + 1]? = _) := HQ2.out
      have HSZ3 : Hid (w.heap.size + 1 + 1 ≤ (w2.drewN q).heap.size) := Lib.hid (Nat.le_of_eq HSZ.out.symm)
      have g12 : (w2.drewN q).cell? ⟨w.heap.size, 2, none⟩ = some (.slice P1 u.pts.length L.c) := f12
      clear f12 f22
      generalize w2.drewN q = w3 at *
      obtain ⟨s0, s1, s2, s3⟩ := (box15 (L := L) (u := u) HQ13.out).1
      obtain ⟨t0, t1, t2, t3⟩ := (box15 (L := M) (u := v) HQ23.out).1
      have HP1 := Lib.hid (same48 u.left v.left L.l M.l w3 (HU.out.l.below HBB3.out) (HV.out.l.below HBB3.out))
      go_wp2_with fail
      (with_reducible refine HP1.out.mono ?_)
      rintro e w4 ⟨b3, rfl, hb, hbel⟩
      have HBT3 := Lib.hid hb
      have HBB4 := Lib.hid (HBB3.out.trans (hbel.mono HBB3.out.size))
      have HQ14 := Lib.hid ((hbel.block _ (by have := HSZ3.out; omega)).trans HQ13.out)
      have HQ24 := Lib.hid ((hbel.block _ (by have := HSZ3.out; omega)).trans HQ23.out)
      have HSZ4 : Hid (w.heap.size + 1 + 1 ≤ w4.heap.size) := Lib.hid (by have := HSZ3.out; have := hbel.size; omega)
      clear hb hbel HP1
      cases b3 with
      | false =>
        go_wp2_with fail
        go_ret
        exact SmOut.no rfl (fun h => by have := HBT3.out.2 (HP0.out.1 h).2.2.2.1; cases this) HBB4.out
      | true =>
        obtain ⟨s0, s1, s2, s3⟩ := (box15 (L := L) (u := u) HQ14.out).2.1
        obtain ⟨t0, t1, t2, t3⟩ := (box15 (L := M) (u := v) HQ24.out).2.1
        have HP2 := Lib.hid (same48 u.right v.right L.r M.r w4 (HU.out.r.below HBB4.out) (HV.out.r.below HBB4.out))
        go_wp2_with fail
        (with_reducible refine HP2.out.mono ?_)
        rintro e w5 ⟨b4, rfl, hb, hbel⟩
        have HBT4 := Lib.hid hb
        have HBB5 := Lib.hid (HBB4.out.trans (hbel.mono HBB4.out.size))
        have HQ15 := Lib.hid ((hbel.block _ (by have := HSZ4.out; omega)).trans HQ14.out)
        have HQ25 := Lib.hid ((hbel.block _ (by have := HSZ4.out; omega)).trans HQ24.out)
        have HSZ5 : Hid (w.heap.size + 1 + 1 ≤ w5.heap.size) := Lib.hid (by have := HSZ4.out; have := hbel.size; omega)
        clear hb hbel HP2
        cases b4 with
        | false =>
          go_wp2_with fail
          go_ret
          exact SmOut.no rfl (fun h => by have := HBT4.out.2 (HP0.out.1 h).2.2.2.2.1; cases this) HBB5.out
        | true =>
          obtain ⟨s0, s1, s2, s3⟩ := (box15 (L := L) (u := u) HQ15.out).2.2
          obtain ⟨t0, t1, t2, t3⟩ := (box15 (L := M) (u := v) HQ25.out).2.2
          have HP3 := Lib.hid (same48 u.back v.back L.b M.b w5 (HU.out.b.below HBB5.out) (HV.out.b.below HBB5.out))
          go_wp2_with fail
          (with_reducible refine HP3.out.mono ?_)
          rintro e w6 ⟨b5, rfl, hb, hbel⟩
          have HBT5 := Lib.hid hb
          have HBB6 := Lib.hid (HBB5.out.trans (hbel.mono HBB5.out.size))
          have HQ16 := Lib.hid ((hbel.block _ (by have := HSZ5.out; omega)).trans HQ15.out)
          have HQ26 := Lib.hid ((hbel.block _ (by have := HSZ5.out; omega)).trans HQ25.out)
          have HSZ6 : Hid (w.heap.size + 1 + 1 ≤ w6.heap.size) := Lib.hid (by have := HSZ5.out; have := hbel.size; omega)
          clear hb hbel HP3
          cases b5 with
          | false =>
            go_wp2_with fail
            go_ret
            exact SmOut.no rfl (fun h => by have := HBT5.out.2 (HP0.out.1 h).2.2.2.2.2; cases this) HBB6.out
          | true =>
            go_wp2_with fail
            go_ret
            exact SmOut.yes rfl (HP0.out.2 ⟨HK1.out, HK2.out, HE.out, HBT3.out.1 (by first | rfl | trivial), HBT4.out.1 (by first | rfl | trivial), HBT5.out.1 (by first | rfl | trivial)⟩) HBB6.out


set_option maxHeartbeats 1000000 in
theorem same18 (u v : Un) (L M : UnV) (w : World) (hu : UnIn w L u) (hv : UnIn w M v) : Calls Try.prog 18 #[L.val u, M.val v] w (SmOut w (u = v)) := by
  have hb2 : ∀ o1 o2, Below w.heap.size w ((w.alloc o1).alloc o2) := fun o1 o2 => (below_a w o1).alloc (by simp) o2
  have HB := Lib.hid hb2
  have HC := Lib.hid (fun x y => same25 u v L M ((w.alloc x).alloc y) (hu.below (hb2 x y)) (hv.below (hb2 x y)))
  obtain ⟨P, hP⟩ : ∃ P : Prop, P = (u = v) := ⟨_, rfl⟩
  rw [← hP] at HC ⊢
  unfold UnV.val UnV.cells at HC ⊢
  clear hu hv hb2 hP
  go_enter Try.func18, Try.ntmps18
  go_wp2_with fail
  (with_reducible refine (HC.out _ _).mono ?_)
  rintro e w' ⟨b, rfl, hb, hbel⟩
  have HBB := Lib.hid ((HB.out _ _).trans (hbel.mono (HB.out _ _).size))
  have HBT := Lib.hid hb
  clear hb hbel
  go_wp2_with fail
  go_ret
  exact ⟨b, rfl, HBT.out, HBB.out⟩
end Go.Proofs.Ytcelcognmdcenaa
