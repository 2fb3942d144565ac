/-
  WALKS: are two programs, two units the same? In the program's words.
-/
import Derived.Test.YtcelcognmdcenaaF1
import Derived.Test.YtcelcognmdcenaaA3
namespace Go.Proofs.Ytcelcognmdcenaa
open Go.RowKit

/-- What a look for sameness answers. -/
def SmOut (w : World) (P : Prop) (e : Ending) (w' : World) : Prop := ∃ b : Bool, e = .returned (.bool b) ∧ (b = true ↔ P) ∧ Below w.heap.size w w'
theorem SmOut.no {w w' : World} {P : Prop} {e : Ending} (he : e = .returned (.bool false)) (h : ¬ P) (hb : Below w.heap.size w w') : SmOut w P e w' := ⟨false, he, ⟨(fun h => by cases h), fun h' => absurd h' h⟩, hb⟩
theorem SmOut.yes {w w' : World} {P : Prop} {e : Ending} (he : e = .returned (.bool true)) (h : P) (hb : Below w.heap.size w w') : SmOut w P e w' := ⟨true, he, ⟨fun _ => h, fun _ => rfl⟩, hb⟩

set_option maxHeartbeats 2000000 in
theorem same31 (p q : Pr) (L M : PrV) (w : World) (hp : PrIn w L p) (hq : PrIn w M q) :
    Calls Try.prog 31 #[.agg #[.int .i64 p.ins, .int .i64 p.regs, .slice L.A p.code.length L.c, .slice L.B p.outs.length L.d], .agg #[.int .i64 q.ins, .int .i64 q.regs, .slice M.A q.code.length M.c, .slice M.B q.outs.length M.d]] w (SmOut w (p = q)) := by
  obtain ⟨i1, r1, c1, o1⟩ := p
  obtain ⟨i2, r2, c2, o2⟩ := q
  obtain ⟨A1, k1, B1, d1⟩ := L
  obtain ⟨A2, k2, B2, d2⟩ := M
  simp only at hp hq ⊢
  have hb2 : ∀ o1 o2, Below w.heap.size w ((w.alloc o1).alloc o2) := fun o1 o2 => (below_a w o1).alloc (by simp) o2
  have HB := Lib.hid hb2
  have HE1 := Lib.hid (fun x y (q : Nat) => equal49 A1 A2 _ _ k1 k2 c1 c2 (((w.alloc x).alloc y)) (hp.code.below (hb2 x y)) (hq.code.below (hb2 x y)))
  have HE2 := Lib.hid (fun x y (q : Nat) => equal50 B1 B2 _ _ d1 d2 o1 o2 (((w.alloc x).alloc y).drewN q) ((hp.outs.below (hb2 x y)).drewN q) ((hq.outs.below (hb2 x y)).drewN q))
  generalize c1.length = n1 at *
  generalize c2.length = n2 at *
  generalize o1.length = m1 at *
  generalize o2.length = m2 at *
  clear hp hq hb2
  by_cases h1 : i1 = i2
  case neg =>
    have e0 : (i1 == i2) = false := by simpa using h1
    have HN := Lib.hid h1
    clear h1
    go_enter Try.func31, Try.ntmps31
    go_wp2_with fail
    go_ret
    exact SmOut.no rfl (fun h => HN.out (by cases h; rfl)) (HB.out _ _)
  subst h1
  by_cases h2 : r1 = r2
  case neg =>
    have e0 : (r1 == r2) = false := by simpa using h2
    have HN := Lib.hid h2
    clear h2
    go_enter Try.func31, Try.ntmps31
    go_wp2_with fail
    go_ret
    exact SmOut.no rfl (fun h => HN.out (by cases h; rfl)) (HB.out _ _)
  subst h2
  go_enter Try.func31, Try.ntmps31
  go_wp2_with fail
  (with_reducible refine (HE1.out _ _ 0).mono ?_)
  rintro e w' ⟨b1, rfl, hb1, j1, rfl⟩
  have HB1 := Lib.hid hb1
  clear hb1
  cases b1 with
  | false =>
    go_wp2_with fail
    go_ret
    exact SmOut.no rfl (fun h => by cases h; cases HB1.out.2 rfl) (below_drewN (HB.out _ _) _)
  | true =>
    go_wp2_with fail
    (with_reducible refine (HE2.out _ _ _).mono ?_)
    rintro e w' ⟨b2, rfl, hb2, j2, rfl⟩
    have HB2 := Lib.hid hb2
    clear hb2
    cases b2 with
    | false =>
      go_wp2_with fail
      go_ret
      exact SmOut.no rfl (fun h => by cases h; cases HB2.out.2 rfl) (below_drewN (HB.out _ _) _)
    | true =>
      go_wp2_with fail
      go_ret
      exact SmOut.yes rfl (by rw [HB1.out.1 (by first | rfl | trivial), HB2.out.1 (by first | rfl | trivial)]) (below_drewN (HB.out _ _) _)

/-- A unit's box: the cells that the programs are loaded from. -/
theorem box15 {w : World} {B : Nat} {L : UnV} {u : Un} (h : w.heap[B]? = some (.cells (L.cells u) 28 (0, 0))) :
    (w.cell? ⟨B, 3, none⟩ = some (.int .i64 u.left.ins) ∧ w.cell? ⟨B, 4, none⟩ = some (.int .i64 u.left.regs) ∧ w.cell? ⟨B, 5, none⟩ = some (.slice L.l.A u.left.code.length L.l.c) ∧ w.cell? ⟨B, 6, none⟩ = some (.slice L.l.B u.left.outs.length L.l.d)) ∧
    (w.cell? ⟨B, 7, none⟩ = some (.int .i64 u.right.ins) ∧ w.cell? ⟨B, 8, none⟩ = some (.int .i64 u.right.regs) ∧ w.cell? ⟨B, 9, none⟩ = some (.slice L.r.A u.right.code.length L.r.c) ∧ w.cell? ⟨B, 10, none⟩ = some (.slice L.r.B u.right.outs.length L.r.d)) ∧
    (w.cell? ⟨B, 11, none⟩ = some (.int .i64 u.back.ins) ∧ w.cell? ⟨B, 12, none⟩ = some (.int .i64 u.back.regs) ∧ w.cell? ⟨B, 13, none⟩ = some (.slice L.b.A u.back.code.length L.b.c) ∧ w.cell? ⟨B, 14, none⟩ = some (.slice L.b.B u.back.outs.length L.b.d)) :=
  ⟨⟨cell_of_row w B 3 _ 28 (0, 0) h, cell_of_row w B 4 _ 28 (0, 0) h, cell_of_row w B 5 _ 28 (0, 0) h, cell_of_row w B 6 _ 28 (0, 0) h⟩,
   ⟨cell_of_row w B 7 _ 28 (0, 0) h, cell_of_row w B 8 _ 28 (0, 0) h, cell_of_row w B 9 _ 28 (0, 0) h, cell_of_row w B 10 _ 28 (0, 0) h⟩,
   ⟨cell_of_row w B 11 _ 28 (0, 0) h, cell_of_row w B 12 _ 28 (0, 0) h, cell_of_row w B 13 _ 28 (0, 0) h, cell_of_row w B 14 _ 28 (0, 0) h⟩⟩

set_option maxHeartbeats 4000000 in
theorem same14 (u v : Un) (L M : UnV) (w : World) (hu : UnIn w L u) (hv : UnIn w M v) : Calls Try.prog 14 #[L.val u, M.val v] w (SmOut w (u = v)) := by
  have hb2 : ∀ o1 o2, Below w.heap.size w ((w.alloc o1).alloc o2) := fun o1 o2 => (below_a w o1).alloc (by simp) o2
  have HU := Lib.hid hu
  have HV := Lib.hid hv
  have HB := Lib.hid hb2
  have hpn : u.pts.length ≤ 9223372036854775807 := hu.pts.2.1
  have hpm : v.pts.length ≤ 9223372036854775807 := hv.pts.2.1
  clear hu hv hb2
  unfold UnV.val UnV.cells
  by_cases h1 : u.k1 = v.k1
  case neg =>
    have e0 : (u.k1 == v.k1) = false := by simpa using h1
    have HN := Lib.hid h1
    clear h1
    go_enter Try.func14, Try.ntmps14
    go_wp2_with fail
    go_ret
    exact SmOut.no rfl (fun h => HN.out (by rw [h])) (HB.out _ _)
  by_cases h2 : u.k2 = v.k2
  case neg =>
    have e1 : (u.k1 == v.k1) = true := by simpa using h1
    have e0 : (u.k2 == v.k2) = false := by simpa using h2
    have HN := Lib.hid h2
    clear h2 h1
    go_enter Try.func14, Try.ntmps14
    go_wp2_with fail
    go_ret
    exact SmOut.no rfl (fun h => HN.out (by rw [h])) (HB.out _ _)
  have e1 : (u.k1 == v.k1) = true := by simpa using h1
  have e2 : (u.k2 == v.k2) = true := by simpa using h2
  have HK1 := Lib.hid h1
  have HK2 := Lib.hid h2
  clear h1 h2
  have HE := Lib.hid (fun x y => equal30 L.P M.P _ _ L.c M.c u.pts v.pts ((w.alloc x).alloc y) (HU.out.pts.below (HB.out x y)) (HV.out.pts.below (HB.out x y)))
  go_enter Try.func14, Try.ntmps14
  go_wp2_with fail
  (with_reducible refine (HE.out _ _).mono ?_)
  rintro e w' ⟨b1, rfl, hb1, j1, rfl⟩
  have HB1 := Lib.hid hb1
  clear hb1 HE
  cases b1 with
  | false =>
    go_wp2_with fail
    go_ret
    exact SmOut.no rfl (fun h => by have := HB1.out.2 (by rw [h]); cases this) (below_drewN (HB.out _ _) _)
  | true =>
    have q1 := heap_alloc_new w (.cells (L.cells u) 28)
    have q2 := heap_alloc_new (w.alloc (.cells (L.cells u) 28)) (.cells (M.cells v) 28)
    have q1' : (((w.alloc (.cells (L.cells u) 28)).alloc (.cells (M.cells v) 28)).drewN j1).heap[w.heap.size]? = some (.cells (L.cells u) 28 (0, 0)) := (Below.heap_alloc _ _ _ (by simp)).trans q1
    have q2' : (((w.alloc (.cells (L.cells u) 28)).alloc (.cells (M.cells v) 28)).drewN j1).heap[w.heap.size + 1]? = some (.cells (M.cells v) 28 (0, 0)) := by
      have := q2
      rw [World.size_alloc] at this
      exact this
    have hs : (((w.alloc (.cells (L.cells u) 28)).alloc (.cells (M.cells v) 28)).drewN j1).heap.size = w.heap.size + 1 + 1 := by simp
    have HBB := Lib.hid (below_drewN (HB.out (.cells (L.cells u) 28) (.cells (M.cells v) 28)) j1)
    have HP1 := Lib.hid (same31 u.left v.left L.l M.l _ (HU.out.l.below HBB.out) (HV.out.l.below HBB.out))
    unfold UnV.cells at q1' q2' hs HBB HP1
    have HQ1 := Lib.hid q1'
    have HQ2 := Lib.hid q2'
    have HSZ := Lib.hid hs
    clear q1 q2 q1' q2' hs
    go_wp2_with fail
    (with_reducible refine HP1.out.mono ?_)
    rintro e w3 ⟨b2, rfl, hb, hbel⟩
    have HBT2 := Lib.hid hb
    have HBB3 := Lib.hid (HBB.out.trans (hbel.mono HBB.out.size))
    have HQ13 := Lib.hid ((hbel.block _ (by have := HSZ.out; omega)).trans HQ1.out)
    have HQ23 := Lib.hid ((hbel.block _ (by have := HSZ.out; omega)).trans HQ2.out)
    have HSZ3 : Hid (w.heap.size + 1 + 1 ≤ w3.heap.size) := Lib.hid (by have := HSZ.out; have := hbel.size; omega)
    clear hb hbel HP1
    cases b2 with
    | false =>
      go_wp2_with fail
      go_ret
      exact SmOut.no rfl (fun h => by have := HBT2.out.2 (by rw [h]); cases this) HBB3.out
    | true =>
      obtain ⟨s0, s1, s2, s3⟩ := (box15 (L := L) (u := u) HQ13.out).2.1
      obtain ⟨t0, t1, t2, t3⟩ := (box15 (L := M) (u := v) HQ23.out).2.1
      have HP2 := Lib.hid (same31 u.right v.right L.r M.r w3 (HU.out.r.below HBB3.out) (HV.out.r.below HBB3.out))
      go_wp2_with fail
      (with_reducible refine HP2.out.mono ?_)
      rintro e w4 ⟨b3, rfl, hb, hbel⟩
      have HBT3 := Lib.hid hb
      have HBB4 := Lib.hid (HBB3.out.trans (hbel.mono HBB3.out.size))
      have HQ14 := Lib.hid ((hbel.block _ (by have := HSZ3.out; omega)).trans HQ13.out)
      have HQ24 := Lib.hid ((hbel.block _ (by have := HSZ3.out; omega)).trans HQ23.out)
      have HSZ4 : Hid (w.heap.size + 1 + 1 ≤ w4.heap.size) := Lib.hid (by have := HSZ3.out; have := hbel.size; omega)
      clear hb hbel HP2
      cases b3 with
      | false =>
        go_wp2_with fail
        go_ret
        exact SmOut.no rfl (fun h => by have := HBT3.out.2 (by rw [h]); cases this) HBB4.out
      | true =>
        obtain ⟨s0, s1, s2, s3⟩ := (box15 (L := L) (u := u) HQ14.out).2.2
        obtain ⟨t0, t1, t2, t3⟩ := (box15 (L := M) (u := v) HQ24.out).2.2
        have HP3 := Lib.hid (same31 u.back v.back L.b M.b w4 (HU.out.b.below HBB4.out) (HV.out.b.below HBB4.out))
        go_wp2_with fail
        (with_reducible refine HP3.out.mono ?_)
        rintro e w5 ⟨b4, rfl, hb, hbel⟩
        have HBT4 := Lib.hid hb
        have HBB5 := Lib.hid (HBB4.out.trans (hbel.mono HBB4.out.size))
        have HQ15 := Lib.hid ((hbel.block _ (by have := HSZ4.out; omega)).trans HQ14.out)
        have HQ25 := Lib.hid ((hbel.block _ (by have := HSZ4.out; omega)).trans HQ24.out)
        have HSZ5 : Hid (w.heap.size + 1 + 1 ≤ w5.heap.size) := Lib.hid (by have := HSZ4.out; have := hbel.size; omega)
        clear hb hbel HP3
        cases b4 with
        | false =>
          go_wp2_with fail
          go_ret
          exact SmOut.no rfl (fun h => by have := HBT4.out.2 (by rw [h]); cases this) HBB5.out
        | true =>
          go_wp2_with fail
          go_ret
          refine SmOut.yes rfl ?_ HBB5.out
          obtain ⟨k1, k2, pts, l, r, b⟩ := u
          obtain ⟨k1', k2', pts', l', r', b'⟩ := v
          have h1 : k1 = k1' := HK1.out
          have h2 : k2 = k2' := HK2.out
          have h3 : pts = pts' := HB1.out.1 (by first | rfl | trivial)
          have h4 : l = l' := HBT2.out.1 (by first | rfl | trivial)
          have h5 : r = r' := HBT3.out.1 (by first | rfl | trivial)
          have h6 : b = b' := HBT4.out.1 (by first | rfl | trivial)
          rw [h1, h2, h3, h4, h5, h6]
end Go.Proofs.Ytcelcognmdcenaa
