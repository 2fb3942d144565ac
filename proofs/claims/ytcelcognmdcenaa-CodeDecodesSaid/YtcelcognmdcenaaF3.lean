/-
  WALKS: are two programs, two units the same? In the reference's words.
-/
import Derived.Test.YtcelcognmdcenaaF2
namespace Go.Proofs.Ytcelcognmdcenaa
open Go.RowKit

set_option maxRecDepth 100000 in
set_option maxHeartbeats 4000000 in
theorem same48 (p q : Pr) (L M : PrV) (w : World) (hp : PrIn w L p) (hq : PrIn w M q) :
    Calls Try.prog 48 #[.agg #[.int .i64 p.ins, .int .i64 p.regs, .slice L.A p.code.length L.c, .slice L.B p.outs.length L.d], .agg #[.int .i64 q.ins, .int .i64 q.regs, .slice M.A q.code.length M.c, .slice M.B q.outs.length M.d]] w (SmOut w (p = q)) := by
  obtain ⟨i1, r1, c1, o1⟩ := p
  obtain ⟨i2, r2, c2, o2⟩ := q
  obtain ⟨A1, k1, B1, d1⟩ := L
  obtain ⟨A2, k2, B2, d2⟩ := M
  simp only at hp hq ⊢
  have hb2 : ∀ o1 o2, Below w.heap.size w ((w.alloc o1).alloc o2) := fun o1 o2 => (below_a w o1).alloc (by simp) o2
  have HB := Lib.hid hb2
  have HPI := Lib.hid hp
  have HQI := Lib.hid hq
  have hn1 : c1.length ≤ 9223372036854775807 := hp.code.2.1
  have hn2 : c2.length ≤ 9223372036854775807 := hq.code.2.1
  have hm1 : o1.length ≤ 9223372036854775807 := hp.outs.2.1
  have hm2 : o2.length ≤ 9223372036854775807 := hq.outs.2.1
  have HCA := Lib.hid (fun x y => (hp.code.below (hb2 x y)).code)
  have HCB := Lib.hid (fun x y => (hq.code.below (hb2 x y)).code)
  have HOA := Lib.hid (fun x y => (hp.outs.below (hb2 x y)).ints)
  have HOB := Lib.hid (fun x y => (hq.outs.below (hb2 x y)).ints)
  clear hp hq hb2
  obtain ⟨n1, hcn1⟩ : ∃ n, n = c1.length := ⟨_, rfl⟩
  obtain ⟨n2, hcn2⟩ : ∃ n, n = c2.length := ⟨_, rfl⟩
  obtain ⟨m1, hom1⟩ : ∃ n, n = o1.length := ⟨_, rfl⟩
  obtain ⟨m2, hom2⟩ : ∃ n, n = o2.length := ⟨_, rfl⟩
  have HN1 : Hid (c1.length = n1) := hcn1.symm
  have HN2 : Hid (c2.length = n2) := hcn2.symm
  have HM1 : Hid (o1.length = m1) := hom1.symm
  have HM2 : Hid (o2.length = m2) := hom2.symm
  rw [← hcn1] at hn1
  rw [← hcn2] at hn2
  rw [← hom1] at hm1
  rw [← hom2] at hm2
  rw [← hcn1, ← hcn2, ← hom1, ← hom2]
  clear hcn1 hcn2 hom1 hom2
  obtain ⟨P, hP⟩ : ∃ P : Prop, P = (Pr.mk i1 r1 c1 o1 = Pr.mk i2 r2 c2 o2) := ⟨_, rfl⟩
  rw [← hP]
  have HP0 : Hid (P ↔ i1 = i2 ∧ r1 = r2 ∧ c1 = c2 ∧ o1 = o2) := by
    rw [hP]
    exact ⟨fun h => by cases h; exact ⟨rfl, rfl, rfl, rfl⟩, fun ⟨h1, h2, h3, h4⟩ => by rw [h1, h2, h3, h4]⟩
  clear hP
  by_cases hi1 : i1 = i2
  case neg =>
    have e0 : ((i1 : Int) == i2) = false := by simp; omega
    have e1 : ((i1 : Int) != i2) = true := by simp; omega
    have HN := Lib.hid hi1
    clear hi1
    go_enter Try.func48, Try.ntmps48
    go_wp2_with fail
    go_ret
    exact SmOut.no rfl (fun h => HN.out ((HP0.out.1 h).1)) (HB.out _ _)
  subst hi1
  by_cases hr1 : r1 = r2
  case neg =>
    have e0 : ((r1 : Int) == r2) = false := by simp; omega
    have e1 : ((r1 : Int) != r2) = true := by simp; omega
    have HN := Lib.hid hr1
    clear hr1
    go_enter Try.func48, Try.ntmps48
    go_wp2_with fail
    go_ret
    exact SmOut.no rfl (fun h => HN.out ((HP0.out.1 h).2.1)) (HB.out _ _)
  subst hr1
  by_cases hn1 : n1 = n2
  case neg =>
    have e0 : ((n1 : Int) == n2) = false := by simp; omega
    have e1 : ((n1 : Int) != n2) = true := by simp; omega
    have HN := Lib.hid hn1
    clear hn1
    go_enter Try.func48, Try.ntmps48
    go_wp2_with fail
    go_ret
    exact SmOut.no rfl (fun h => HN.out (by have h1 := HN1.out; have h2 := HN2.out; have h3 := congrArg List.length (HP0.out.1 h).2.2.1; omega)) (HB.out _ _)
  subst hn1
  by_cases hm1 : m1 = m2
  case neg =>
    have e0 : ((m1 : Int) == m2) = false := by simp; omega
    have e1 : ((m1 : Int) != m2) = true := by simp; omega
    have HN := Lib.hid hm1
    clear hm1
    go_enter Try.func48, Try.ntmps48
    go_wp2_with fail
    go_ret
    exact SmOut.no rfl (fun h => HN.out (by have h1 := HM1.out; have h2 := HM2.out; have h3 := congrArg List.length (HP0.out.1 h).2.2.2; omega)) (HB.out _ _)
  subst hm1
  go_enter Try.func48, Try.ntmps48
  go_wp2_with fail
  have hp0 := heap_alloc_new w (.cells #[.int .i64 i1, .int .i64 r1, .slice A1 n1 k1, .slice B1 m1 d1] 26)
  have hp1 : ((w.alloc (.cells #[.int .i64 i1, .int .i64 r1, .slice A1 n1 k1, .slice B1 m1 d1] 26)).alloc (.cells #[.int .i64 i1, .int .i64 r1, .slice A2 n1 k2, .slice B2 m1 d2] 26)).heap[w.heap.size]? = some (.cells #[.int .i64 i1, .int .i64 r1, .slice A1 n1 k1, .slice B1 m1 d1] 26 (0, 0)) := (Below.heap_alloc _ _ _ (by simp)).trans hp0
  have hp2 : ((w.alloc (.cells #[.int .i64 i1, .int .i64 r1, .slice A1 n1 k1, .slice B1 m1 d1] 26)).alloc (.cells #[.int .i64 i1, .int .i64 r1, .slice A2 n1 k2, .slice B2 m1 d2] 26)).heap[w.heap.size + 1]? = some (.cells #[.int .i64 i1, .int .i64 r1, .slice A2 n1 k2, .slice B2 m1 d2] 26 (0, 0)) := by
    have := heap_alloc_new (w.alloc (.cells #[.int .i64 i1, .int .i64 r1, .slice A1 n1 k1, .slice B1 m1 d1] 26)) (.cells #[.int .i64 i1, .int .i64 r1, .slice A2 n1 k2, .slice B2 m1 d2] 26)
    rw [World.size_alloc] at this
    exact this
  have HBL := Lib.hid (HB.out (.cells #[.int .i64 i1, .int .i64 r1, .slice A1 n1 k1, .slice B1 m1 d1] 26) (.cells #[.int .i64 i1, .int .i64 r1, .slice A2 n1 k2, .slice B2 m1 d2] 26))
  have HA1 := Lib.hid (HCA.out (.cells #[.int .i64 i1, .int .i64 r1, .slice A1 n1 k1, .slice B1 m1 d1] 26) (.cells #[.int .i64 i1, .int .i64 r1, .slice A2 n1 k2, .slice B2 m1 d2] 26)).2
  have HA2 := Lib.hid (HCB.out (.cells #[.int .i64 i1, .int .i64 r1, .slice A1 n1 k1, .slice B1 m1 d1] 26) (.cells #[.int .i64 i1, .int .i64 r1, .slice A2 n1 k2, .slice B2 m1 d2] 26)).2
  have HO1 := Lib.hid (HOA.out (.cells #[.int .i64 i1, .int .i64 r1, .slice A1 n1 k1, .slice B1 m1 d1] 26) (.cells #[.int .i64 i1, .int .i64 r1, .slice A2 n1 k2, .slice B2 m1 d2] 26)).2
  have HO2 := Lib.hid (HOB.out (.cells #[.int .i64 i1, .int .i64 r1, .slice A1 n1 k1, .slice B1 m1 d1] 26) (.cells #[.int .i64 i1, .int .i64 r1, .slice A2 n1 k2, .slice B2 m1 d2] 26)).2
  clear HCA HCB HOA HOB hp0
  generalize (w.alloc (.cells #[.int .i64 i1, .int .i64 r1, .slice A1 n1 k1, .slice B1 m1 d1] 26)).alloc (.cells #[.int .i64 i1, .int .i64 r1, .slice A2 n1 k2, .slice B2 m1 d2] 26) = w2 at *
  have f12 := cell_of_row w2 w.heap.size 2 _ 26 (0, 0) hp1
  have f13 := cell_of_row w2 w.heap.size 3 _ 26 (0, 0) hp1
  have f22 := cell_of_row w2 (w.heap.size + 1) 2 _ 26 (0, 0) hp2
  have f23 := cell_of_row w2 (w.heap.size + 1) 3 _ 26 (0, 0) hp2
  change w2.cell? _ = some (.slice A1 n1 k1) at f12
  change w2.cell? _ = some (.slice B1 m1 d1) at f13
  change w2.cell? _ = some (.slice A2 n1 k2) at f22
  change w2.cell? _ = some (.slice B2 m1 d2) at f23
  clear hp1 hp2
  go_loopw [5] (fun i wr => ∃ j : Nat, j ≤ n1 ∧ i = .int .i64 j ∧ Hid (∀ i, i < j → c1[i]? = c2[i]?) ∧ ∃ q, w2.drewN q = wr) (fun i _ => n1 - (intOf i).toNat)
  case atStart => exact ⟨0, Nat.zero_le _, rfl, fun i hi => absurd hi (by omega), 0, rfl⟩
  case round =>
    obtain ⟨j, hj, rfl, HP, q, rfl⟩ := hrel
    by_cases hlt : j < n1
    · obtain ⟨ga, oa, hAA, _, hca⟩ := HA1.out (by have := HN1.out; omega)
      obtain ⟨gb, ob, hBB, _, hcb⟩ := HA2.out (by have := HN2.out; omega)
      subst hAA hBB
      obtain ⟨x, hx⟩ : ∃ x, c1[j]? = some x := ⟨c1[j]'(by rw [HN1.out]; exact hlt), List.getElem?_eq_getElem _⟩
      obtain ⟨y, hy⟩ : ∃ y, c2[j]? = some y := ⟨c2[j]'(by rw [HN2.out]; exact hlt), List.getElem?_eq_getElem _⟩
      obtain ⟨a0, a1, a2, a3, a4⟩ := hca j x hx
      obtain ⟨b0, b1, b2, b3, b4⟩ := hcb j y hy
      have HX := Lib.hid hx
      have HY := Lib.hid hy
      clear hca hcb hx hy
      by_cases hxy : x = y
      · subst hxy
        go_wp2_with fail
        go_quiet (fail)
        go_wp2_with fail
        go_roundw
        case rel => exact ⟨j + 1, by omega, by go_num, fun i hi => by
          by_cases e : i = j
          · subst e; rw [HX.out, HY.out]
          · exact HP.out i (by omega), q + nq, by first | rfl | rw [World.drewN_drewN]⟩
        case measure => simp [intOf]; omega
      · have HNE := Lib.hid hxy
        have HEND : Hid (¬ c1 = c2) := fun e => by
          have := HX.out
          rw [e, HY.out] at this
          cases this
          exact HNE.out rfl
        obtain ⟨x0, x1, x2, x3, x4⟩ := x
        obtain ⟨y0, y1, y2, y3, y4⟩ := y
        simp only at a0 b0 a1 b1 a2 b2 a3 b3 a4 b4
        have hn1 : ¬ (x0 = y0 ∧ x1 = y1 ∧ x2 = y2 ∧ x3 = y3 ∧ x4 = y4) := fun h => hxy (by obtain ⟨rfl, rfl, rfl, rfl, rfl⟩ := h; rfl)
        have hne : (¬ x0 = y0) ∨ (x0 = y0 ∧ ¬ x1 = y1) ∨ (x0 = y0 ∧ x1 = y1 ∧ ¬ x2 = y2) ∨ (x0 = y0 ∧ x1 = y1 ∧ x2 = y2 ∧ ¬ x3 = y3) ∨ (x0 = y0 ∧ x1 = y1 ∧ x2 = y2 ∧ x3 = y3 ∧ ¬ x4 = y4) := by omega
        clear hxy hn1
        rcases hne with h0 | ⟨rfl, h1⟩ | ⟨rfl, rfl, h2⟩ | ⟨rfl, rfl, rfl, h3⟩ | ⟨rfl, rfl, rfl, rfl, h4⟩
        all_goals
          go_wp2_with fail
          go_quiet (fail)
          go_wp2_with fail
          go_ret
          exact SmOut.no rfl (fun h => HEND.out ((HP0.out.1 h).2.2.1)) (below_drewN (below_drewN HBL.out _) _)
    · have hall : c1 = c2 := eq_of_all HN1.out HN2.out fun i hi => HP.out i (by omega)
      have HE := Lib.hid hall
      clear hall HP HA1 HA2
      go_wp2_with fail
      obtain ⟨w3, hw3⟩ : ∃ w3, w3 = w2.drewN q := ⟨_, rfl⟩
      have HBL3 : Hid (Below w.heap.size w w3) := Lib.hid (by rw [hw3]; exact below_drewN HBL.out _)
      have HO1' : Hid (0 < o1.length → ∃ b o, B1 = some ⟨b, o, none⟩ ∧ b < w3.heap.size ∧ ∀ i x, o1[i]? = some x → w3.cell? ⟨b, o + i, none⟩ = some (.int .i64 x)) := Lib.hid (by rw [hw3]; exact HO1.out)
      have HO2' : Hid (0 < o2.length → ∃ b o, B2 = some ⟨b, o, none⟩ ∧ b < w3.heap.size ∧ ∀ i x, o2[i]? = some x → w3.cell? ⟨b, o + i, none⟩ = some (.int .i64 x)) := Lib.hid (by rw [hw3]; exact HO2.out)
      have g13 : w3.cell? ⟨w.heap.size, 3, none⟩ = some (.slice B1 m1 d1) := by rw [hw3]; exact f13
      have g23 : w3.cell? ⟨w.heap.size + 1, 3, none⟩ = some (.slice B2 m1 d2) := by rw [hw3]; exact f23
      rw [← hw3]
      clear hw3 HO1 HO2 f12 f13 f22 f23
      go_loopw [6] (fun i wr => ∃ j : Nat, j ≤ m1 ∧ i = .int .i64 j ∧ Hid (∀ i, i < j → o1[i]? = o2[i]?) ∧ ∃ q, w3.drewN q = wr) (fun i _ => m1 - (intOf i).toNat)
      case atStart => exact ⟨0, Nat.zero_le _, rfl, fun i hi => absurd hi (by omega), 0, rfl⟩
      case round =>
        obtain ⟨j, hj, rfl, HP, q, rfl⟩ := hrel
        by_cases hlt : j < m1
        · obtain ⟨ga, oa, hAA, _, hca⟩ := HO1'.out (by have := HM1.out; omega)
          obtain ⟨gb, ob, hBB, _, hcb⟩ := HO2'.out (by have := HM2.out; omega)
          subst hAA hBB
          obtain ⟨x, hx⟩ : ∃ x, o1[j]? = some x := ⟨o1[j]'(by rw [HM1.out]; exact hlt), List.getElem?_eq_getElem _⟩
          obtain ⟨y, hy⟩ : ∃ y, o2[j]? = some y := ⟨o2[j]'(by rw [HM2.out]; exact hlt), List.getElem?_eq_getElem _⟩
          have a0 := hca j x hx
          have b0 := hcb j y hy
          have HX := Lib.hid hx
          have HY := Lib.hid hy
          clear hca hcb hx hy
          by_cases hxy : x = y
          · subst hxy
            go_wp2_with fail
            go_quiet (fail)
            go_wp2_with fail
            go_roundw
            case rel => exact ⟨j + 1, by omega, by go_num, fun i hi => by
              by_cases e : i = j
              · subst e; rw [HX.out, HY.out]
              · exact HP.out i (by omega), q + nq, by first | rfl | rw [World.drewN_drewN]⟩
            case measure => simp [intOf]; omega
          · have HNE := Lib.hid hxy
            have HEND : Hid (¬ o1 = o2) := fun e => by
              have := HX.out
              rw [e, HY.out] at this
              cases this
              exact HNE.out rfl
            have e0 : ((x : Int) == y) = false := by simp; omega
            have e1 : ((x : Int) != y) = true := by simp; omega
            clear hxy
            go_wp2_with fail
            go_quiet (fail)
            go_wp2_with fail
            go_ret
            exact SmOut.no rfl (fun h => HEND.out ((HP0.out.1 h).2.2.2)) (below_drewN (below_drewN HBL3.out _) _)
        · have hall : o1 = o2 := eq_of_all HM1.out HM2.out fun i hi => HP.out i (by omega)
          have HF := Lib.hid hall
          clear hall
          go_wp2_with fail
          go_ret
          exact SmOut.yes rfl (HP0.out.2 ⟨by trivial, by trivial, HE.out, HF.out⟩) (below_drewN HBL3.out _)


end Go.Proofs.Ytcelcognmdcenaa
