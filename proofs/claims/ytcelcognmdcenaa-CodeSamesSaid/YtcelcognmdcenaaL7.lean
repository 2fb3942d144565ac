/-
  THE WALK of the law CodeSames.
-/
import Derived.Test.YtcelcognmdcenaaL0
import Derived.Test.YtcelcognmdcenaaReg
namespace Go.Proofs.Ytcelcognmdcenaa
open Go.RowKit

/-- What holds in the midst of the last statement, whatever has come up so far. -/
def I7 (w1 : World) (B : Nat) (U V : Value) (d : Bool) (S : Nat → Bool) (a : Act) (w' : World) : Prop :=
  ∃ x13 x14 x15 x16 x17 x18 x19 x20 x21 x22 x23 x24 x25 x26 x27 x28 x29 x30 x31 x32 x33 x34 x4 : Value, a = ⟨#[U, V, .pointer (some ⟨B, 0, none⟩), .pointer (some ⟨B + 1, 0, none⟩), x4, .bool true, .bool false, U, .bool false, .bool false, V, .bool false, .bool false, x13, x14, x15, x16, x17, x18, x19, x20, x21, x22, x23, x24, x25, x26, x27, x28, x29, x30, x31, x32, x33, x34], []⟩ ∧ Below w1.heap.size w1 w' ∧ (S 0 = true → x13 = U) ∧ (S 1 = true → x14 = V) ∧ (S 2 = true → x15 = (.bool d)) ∧ (S 3 = true → x16 = U) ∧ (S 4 = true → x17 = V) ∧ (S 5 = true → x18 = (.bool d)) ∧ (S 6 = true → x19 = (.bool true)) ∧ (S 7 = true → x20 = (.bool true)) ∧ (S 8 = true → x21 = V) ∧ (S 9 = true → x22 = U) ∧ (S 10 = true → x23 = (.bool d)) ∧ (S 11 = true → x24 = U) ∧ (S 12 = true → x25 = V) ∧ (S 13 = true → x26 = (.bool d)) ∧ (S 14 = true → x27 = (.bool true)) ∧ (S 15 = true → x28 = (.bool true)) ∧ (S 16 = true → x29 = (.bool true)) ∧ (S 17 = true → x30 = U) ∧ (S 18 = true → x31 = U) ∧ (S 19 = true → ∀ wy, Below w'.heap.size w' wy → Calls Try.prog 14 #[U, x32] wy (BOut wy true)) ∧ (S 20 = true → x33 = (.bool true)) ∧ (S 21 = true → x34 = (.bool true)) ∧ (S 22 = true → x4 = (.bool true))

set_option maxRecDepth 100000 in
set_option maxHeartbeats 8000000 in
theorem sames_law (u v : Un) (L M : UnV) (w : World) (hu : UnIn w L u) (hv : UnIn w M v) (fu : u.fits) (fv : v.fits) : Calls Try.prog 7 #[L.val u, M.val v] w (LawOut w) := by
  obtain ⟨w1, hw1⟩ : ∃ w1, w1 = (w.alloc (.cells (L.cells u) 28)).alloc (.cells (M.cells v) 28) := ⟨_, rfl⟩
  have HB1 : Hid (Below w.heap.size w w1) := Lib.hid (by rw [hw1]; exact (below_a w _).alloc (by simp) _)
  have HS1 : Hid (w1.heap.size = w.heap.size + 2) := Lib.hid (by rw [hw1]; simp)
  have HQ1 : Hid (BoxAt w1 w.heap.size (L.val u)) := Lib.hid ⟨L, u, rfl, by rw [hw1, Below.heap_alloc _ _ _ (by simp)]; exact heap_alloc_new w _⟩
  have HQ2 : Hid (BoxAt w1 (w.heap.size + 1) (M.val v)) := Lib.hid ⟨M, v, rfl, by rw [hw1]; have := heap_alloc_new (w.alloc (.cells (L.cells u) 28)) (.cells (M.cells v) 28); simpa using this⟩
  have HU := Lib.hid (hu.below HB1.out)
  have HV := Lib.hid (hv.below HB1.out)
  have HFU := Lib.hid fu
  have HFV := Lib.hid fv
  have HC1 := Lib.hid (works10 w1)
  rw [hw1] at HC1
  have HW := Lib.hid hw1
  have HX1 := Lib.hid (fun x1 (_ : Below w1.heap.size w1 x1) => (long11 u L x1 HFU.out))
  have HX2 := Lib.hid (fun x1 (_ : Below w1.heap.size w1 x1) => (long11 v M x1 HFV.out))
  obtain ⟨d, hd⟩ := decided (u = v)
  have HD := Lib.hid hd
  have S14 := Lib.hid (fun wx (h : Below w1.heap.size w1 wx) => bool_out (same14 u v L M wx (HU.out.below h) (HV.out.below h)) HD.out)
  have S25 := Lib.hid (fun wx (h : Below w1.heap.size w1 wx) => bool_out (same25 u v L M wx (HU.out.below h) (HV.out.below h)) HD.out)
  have T14 := Lib.hid (fun wx (h : Below w1.heap.size w1 wx) => bool_out (same14 v u M L wx (HV.out.below h) (HU.out.below h)) (HD.out.trans eq_comm))
  have C19 := Lib.hid (fun wx (h : Below w1.heap.size w1 wx) => copied_same (HU.out.below h) HFU.out)
  clear hw1 hu hv fu fv hd
  unfold UnV.val at HQ1 HQ2 HX1 HX2 S14 S25 T14 C19 ⊢
  unfold UnV.cells at HC1 HW HQ1 HQ2 HX1 HX2 S14 S25 T14 C19 ⊢
  go_enter Try.func7, Try.ntmps7
  go_wp2_with fail
  (with_reducible refine HC1.out.mono ?_)
  rintro e x1 ⟨rfl, hb⟩
  rw [← HW.out] at hb
  have HBL := Lib.hid hb
  clear hb HC1 HW
  generalize Value.agg #[.int .i64 u.k1, .int .i64 u.k2, .slice L.P u.pts.length L.c, .int .i64 u.left.ins, .int .i64 u.left.regs, .slice L.l.A u.left.code.length L.l.c, .slice L.l.B u.left.outs.length L.l.d, .int .i64 u.right.ins, .int .i64 u.right.regs, .slice L.r.A u.right.code.length L.r.c, .slice L.r.B u.right.outs.length L.r.d, .int .i64 u.back.ins, .int .i64 u.back.regs, .slice L.b.A u.back.code.length L.b.c, .slice L.b.B u.back.outs.length L.b.d] = U at *
  generalize Value.agg #[.int .i64 v.k1, .int .i64 v.k2, .slice M.P v.pts.length M.c, .int .i64 v.left.ins, .int .i64 v.left.regs, .slice M.l.A v.left.code.length M.l.c, .slice M.l.B v.left.outs.length M.l.d, .int .i64 v.right.ins, .int .i64 v.right.regs, .slice M.r.A v.right.code.length M.r.c, .slice M.r.B v.right.outs.length M.r.d, .int .i64 v.back.ins, .int .i64 v.back.regs, .slice M.b.A v.back.code.length M.b.c, .slice M.b.B v.back.outs.length M.b.d] = V at *
  generalize longB u = b1 at *
  generalize longB v = b2 at *
  have q1 := HQ1.out.below HBL.out
  go_wp2_with (first | (refine wpList_load_box rfl (.tmp 2) rfl _ rfl q1 ?_) | ((with_reducible refine (HX1.out _ HBL.out).mono ?_)))
  rintro e x2 ⟨rfl, hb⟩
  have HBN := Lib.hid (HBL.out.trans (hb.mono HBL.out.size))
  clear hb HBL q1
  have HBL := HBN
  clear HBN
  have q2 := HQ2.out.below HBL.out
  cases b1 with
  | true =>
    go_wp2_with fail
    go_ret
    exact ⟨rfl, HB1.out.trans (HBL.out.mono HB1.out.size)⟩
  | false =>
    go_wp2_with (first | (refine wpList_load_boxg rfl (.tmp 3) rfl _ rfl q2 ?_) | ((with_reducible refine (HX2.out _ HBL.out).mono ?_)))
    rintro e x3 ⟨rfl, hb⟩
    have HBN := Lib.hid (HBL.out.trans (hb.mono HBL.out.size))
    clear hb HBL q2
    have HBL := HBN
    clear HBN
    cases b2 with
    | true =>
      go_wp2_with fail
      go_ret
      exact ⟨rfl, HB1.out.trans (HBL.out.mono HB1.out.size)⟩
    | false =>
      go_wp2_with fail
      have HB0 := Lib.hid HBL.out.drew
      refine wp_region_inv (by kernel_rfl) (I7 w1 w.heap.size U V d) ?_ ?_ ?_ ?_
      · exact ⟨_, _, _, _, _, _, _, _, _, _, _, _, _, _, _, _, _, _, _, _, _, _, _, rfl, HB0.out, (fun h => by cases h), (fun h => by cases h), (fun h => by cases h), (fun h => by cases h), (fun h => by cases h), (fun h => by cases h), (fun h => by cases h), (fun h => by cases h), (fun h => by cases h), (fun h => by cases h), (fun h => by cases h), (fun h => by cases h), (fun h => by cases h), (fun h => by cases h), (fun h => by cases h), (fun h => by cases h), (fun h => by cases h), (fun h => by cases h), (fun h => by cases h), (fun h => by cases h), (fun h => by cases h), (fun h => by cases h), (fun h => by cases h)⟩
      · intro i o ho e he
        have hi : i < 23 := by
          rcases Nat.lt_or_ge i 23 with h | h
          · exact h
          · rw [Array.getElem?_eq_none (by simpa using h)] at ho; cases ho
        revert e
        match i, hi with
        | 0, _ => (cases ho; decide)
        | 1, _ => (cases ho; decide)
        | 2, _ => (cases ho; decide)
        | 3, _ => (cases ho; decide)
        | 4, _ => (cases ho; decide)
        | 5, _ => (cases ho; decide)
        | 6, _ => (cases ho; decide)
        | 7, _ => (cases ho; decide)
        | 8, _ => (cases ho; decide)
        | 9, _ => (cases ho; decide)
        | 10, _ => (cases ho; decide)
        | 11, _ => (cases ho; decide)
        | 12, _ => (cases ho; decide)
        | 13, _ => (cases ho; decide)
        | 14, _ => (cases ho; decide)
        | 15, _ => (cases ho; decide)
        | 16, _ => (cases ho; decide)
        | 17, _ => (cases ho; decide)
        | 18, _ => (cases ho; decide)
        | 19, _ => (cases ho; decide)
        | 20, _ => (cases ho; decide)
        | 21, _ => (cases ho; decide)
        | 22, _ => (cases ho; decide)
      · intro S a wx i o hI ho hS hd
        obtain ⟨x13, x14, x15, x16, x17, x18, x19, x20, x21, x22, x23, x24, x25, x26, x27, x28, x29, x30, x31, x32, x33, x34, x4, rfl, hb, f0, f1, f2, f3, f4, f5, f6, f7, f8, f9, f10, f11, f12, f13, f14, f15, f16, f17, f18, f19, f20, f21, f22⟩ := hI
        have hi : i < 23 := by
          rcases Nat.lt_or_ge i 23 with h | h
          · exact h
          · rw [Array.getElem?_eq_none (by simpa using h)] at ho; cases ho
        match i, hi with
        | 0, _ =>
          simp only [List.getElem?_toArray, List.getElem?_cons_zero, Option.some.injEq] at ho
          subst ho
          refine wpOp_of rfl rfl ?_
          refine wp_load_box (.tmp 2) rfl w.heap.size rfl (HQ1.out.below hb) ?_
          exact ⟨_, _, _, _, _, _, _, _, _, _, _, _, _, _, _, _, _, _, _, _, _, _, _, rfl, hb, (fun _ => rfl), (fun h => f1 (by simpa using h)), (fun h => f2 (by simpa using h)), (fun h => f3 (by simpa using h)), (fun h => f4 (by simpa using h)), (fun h => f5 (by simpa using h)), (fun h => f6 (by simpa using h)), (fun h => f7 (by simpa using h)), (fun h => f8 (by simpa using h)), (fun h => f9 (by simpa using h)), (fun h => f10 (by simpa using h)), (fun h => f11 (by simpa using h)), (fun h => f12 (by simpa using h)), (fun h => f13 (by simpa using h)), (fun h => f14 (by simpa using h)), (fun h => f15 (by simpa using h)), (fun h => f16 (by simpa using h)), (fun h => f17 (by simpa using h)), (fun h => f18 (by simpa using h)), (fun h => f19 (by simpa using h)), (fun h => f20 (by simpa using h)), (fun h => f21 (by simpa using h)), (fun h => f22 (by simpa using h))⟩
        | 1, _ =>
          simp only [List.getElem?_toArray, List.getElem?_cons_zero, List.getElem?_cons_succ, Option.some.injEq] at ho
          subst ho
          refine wpOp_of rfl rfl ?_
          refine wp_load_box (.tmp 3) rfl (w.heap.size + 1) rfl (HQ2.out.below hb) ?_
          exact ⟨_, _, _, _, _, _, _, _, _, _, _, _, _, _, _, _, _, _, _, _, _, _, _, rfl, hb, (fun h => f0 (by simpa using h)), (fun _ => rfl), (fun h => f2 (by simpa using h)), (fun h => f3 (by simpa using h)), (fun h => f4 (by simpa using h)), (fun h => f5 (by simpa using h)), (fun h => f6 (by simpa using h)), (fun h => f7 (by simpa using h)), (fun h => f8 (by simpa using h)), (fun h => f9 (by simpa using h)), (fun h => f10 (by simpa using h)), (fun h => f11 (by simpa using h)), (fun h => f12 (by simpa using h)), (fun h => f13 (by simpa using h)), (fun h => f14 (by simpa using h)), (fun h => f15 (by simpa using h)), (fun h => f16 (by simpa using h)), (fun h => f17 (by simpa using h)), (fun h => f18 (by simpa using h)), (fun h => f19 (by simpa using h)), (fun h => f20 (by simpa using h)), (fun h => f21 (by simpa using h)), (fun h => f22 (by simpa using h))⟩
        | 2, _ =>
          simp only [List.getElem?_toArray, List.getElem?_cons_zero, List.getElem?_cons_succ, Option.some.injEq] at ho
          subst ho
          have g0 := f0 (hd ⟨0, Ground.data⟩ (by simp) rfl)
          subst x13
          have g1 := f1 (hd ⟨1, Ground.data⟩ (by simp) rfl)
          subst x14
          refine wpOp_of rfl rfl ?_
          unfold Oper.wp
          go_simp
          (with_reducible refine (S14.out _ hb).mono ?_)
          rintro e w2 ⟨rfl, hbel⟩
          exact ⟨_, _, _, _, _, _, _, _, _, _, _, _, _, _, _, _, _, _, _, _, _, _, _, rfl, hb.trans (hbel.mono hb.size), (fun h => f0 (by simpa using h)), (fun h => f1 (by simpa using h)), (fun _ => rfl), (fun h => f3 (by simpa using h)), (fun h => f4 (by simpa using h)), (fun h => f5 (by simpa using h)), (fun h => f6 (by simpa using h)), (fun h => f7 (by simpa using h)), (fun h => f8 (by simpa using h)), (fun h => f9 (by simpa using h)), (fun h => f10 (by simpa using h)), (fun h => f11 (by simpa using h)), (fun h => f12 (by simpa using h)), (fun h => f13 (by simpa using h)), (fun h => f14 (by simpa using h)), (fun h => f15 (by simpa using h)), (fun h => f16 (by simpa using h)), (fun h => f17 (by simpa using h)), (fun h => f18 (by simpa using h)), (fun h wy hy => f19 (by simpa using h) wy (hbel.trans (hy.mono hbel.size))), (fun h => f20 (by simpa using h)), (fun h => f21 (by simpa using h)), (fun h => f22 (by simpa using h))⟩
        | 3, _ =>
          simp only [List.getElem?_toArray, List.getElem?_cons_zero, List.getElem?_cons_succ, Option.some.injEq] at ho
          subst ho
          refine wpOp_of rfl rfl ?_
          refine wp_load_box (.tmp 2) rfl w.heap.size rfl (HQ1.out.below hb) ?_
          exact ⟨_, _, _, _, _, _, _, _, _, _, _, _, _, _, _, _, _, _, _, _, _, _, _, rfl, hb, (fun h => f0 (by simpa using h)), (fun h => f1 (by simpa using h)), (fun h => f2 (by simpa using h)), (fun _ => rfl), (fun h => f4 (by simpa using h)), (fun h => f5 (by simpa using h)), (fun h => f6 (by simpa using h)), (fun h => f7 (by simpa using h)), (fun h => f8 (by simpa using h)), (fun h => f9 (by simpa using h)), (fun h => f10 (by simpa using h)), (fun h => f11 (by simpa using h)), (fun h => f12 (by simpa using h)), (fun h => f13 (by simpa using h)), (fun h => f14 (by simpa using h)), (fun h => f15 (by simpa using h)), (fun h => f16 (by simpa using h)), (fun h => f17 (by simpa using h)), (fun h => f18 (by simpa using h)), (fun h => f19 (by simpa using h)), (fun h => f20 (by simpa using h)), (fun h => f21 (by simpa using h)), (fun h => f22 (by simpa using h))⟩
        | 4, _ =>
          simp only [List.getElem?_toArray, List.getElem?_cons_zero, List.getElem?_cons_succ, Option.some.injEq] at ho
          subst ho
          refine wpOp_of rfl rfl ?_
          refine wp_load_box (.tmp 3) rfl (w.heap.size + 1) rfl (HQ2.out.below hb) ?_
          exact ⟨_, _, _, _, _, _, _, _, _, _, _, _, _, _, _, _, _, _, _, _, _, _, _, rfl, hb, (fun h => f0 (by simpa using h)), (fun h => f1 (by simpa using h)), (fun h => f2 (by simpa using h)), (fun h => f3 (by simpa using h)), (fun _ => rfl), (fun h => f5 (by simpa using h)), (fun h => f6 (by simpa using h)), (fun h => f7 (by simpa using h)), (fun h => f8 (by simpa using h)), (fun h => f9 (by simpa using h)), (fun h => f10 (by simpa using h)), (fun h => f11 (by simpa using h)), (fun h => f12 (by simpa using h)), (fun h => f13 (by simpa using h)), (fun h => f14 (by simpa using h)), (fun h => f15 (by simpa using h)), (fun h => f16 (by simpa using h)), (fun h => f17 (by simpa using h)), (fun h => f18 (by simpa using h)), (fun h => f19 (by simpa using h)), (fun h => f20 (by simpa using h)), (fun h => f21 (by simpa using h)), (fun h => f22 (by simpa using h))⟩
        | 5, _ =>
          simp only [List.getElem?_toArray, List.getElem?_cons_zero, List.getElem?_cons_succ, Option.some.injEq] at ho
          subst ho
          have g3 := f3 (hd ⟨3, Ground.data⟩ (by simp) rfl)
          subst x16
          have g4 := f4 (hd ⟨4, Ground.data⟩ (by simp) rfl)
          subst x17
          refine wpOp_of rfl rfl ?_
          unfold Oper.wp
          go_simp
          (with_reducible refine (S25.out _ hb).mono ?_)
          rintro e w2 ⟨rfl, hbel⟩
          exact ⟨_, _, _, _, _, _, _, _, _, _, _, _, _, _, _, _, _, _, _, _, _, _, _, rfl, hb.trans (hbel.mono hb.size), (fun h => f0 (by simpa using h)), (fun h => f1 (by simpa using h)), (fun h => f2 (by simpa using h)), (fun h => f3 (by simpa using h)), (fun h => f4 (by simpa using h)), (fun _ => rfl), (fun h => f6 (by simpa using h)), (fun h => f7 (by simpa using h)), (fun h => f8 (by simpa using h)), (fun h => f9 (by simpa using h)), (fun h => f10 (by simpa using h)), (fun h => f11 (by simpa using h)), (fun h => f12 (by simpa using h)), (fun h => f13 (by simpa using h)), (fun h => f14 (by simpa using h)), (fun h => f15 (by simpa using h)), (fun h => f16 (by simpa using h)), (fun h => f17 (by simpa using h)), (fun h => f18 (by simpa using h)), (fun h wy hy => f19 (by simpa using h) wy (hbel.trans (hy.mono hbel.size))), (fun h => f20 (by simpa using h)), (fun h => f21 (by simpa using h)), (fun h => f22 (by simpa using h))⟩
        | 6, _ =>
          simp only [List.getElem?_toArray, List.getElem?_cons_zero, List.getElem?_cons_succ, Option.some.injEq] at ho
          subst ho
          have g2 := f2 (hd ⟨2, Ground.data⟩ (by simp) rfl)
          subst x15
          have g5 := f5 (hd ⟨5, Ground.data⟩ (by simp) rfl)
          subst x18
          refine wpOp_of rfl rfl ?_
          unfold Oper.wp
          go_simp
          exact ⟨_, _, _, _, _, _, _, _, _, _, _, _, _, _, _, _, _, _, _, _, _, _, _, rfl, hb, (fun h => f0 (by simpa using h)), (fun h => f1 (by simpa using h)), (fun h => f2 (by simpa using h)), (fun h => f3 (by simpa using h)), (fun h => f4 (by simpa using h)), (fun h => f5 (by simpa using h)), (fun _ => rfl), (fun h => f7 (by simpa using h)), (fun h => f8 (by simpa using h)), (fun h => f9 (by simpa using h)), (fun h => f10 (by simpa using h)), (fun h => f11 (by simpa using h)), (fun h => f12 (by simpa using h)), (fun h => f13 (by simpa using h)), (fun h => f14 (by simpa using h)), (fun h => f15 (by simpa using h)), (fun h => f16 (by simpa using h)), (fun h => f17 (by simpa using h)), (fun h => f18 (by simpa using h)), (fun h => f19 (by simpa using h)), (fun h => f20 (by simpa using h)), (fun h => f21 (by simpa using h)), (fun h => f22 (by simpa using h))⟩
        | 7, _ =>
          simp only [List.getElem?_toArray, List.getElem?_cons_zero, List.getElem?_cons_succ, Option.some.injEq] at ho
          subst ho
          have g6 := f6 (hd ⟨6, Ground.data⟩ (by simp) rfl)
          subst x19
          refine wpOp_of rfl rfl ?_
          unfold Oper.wp
          go_simp
          exact ⟨_, _, _, _, _, _, _, _, _, _, _, _, _, _, _, _, _, _, _, _, _, _, _, rfl, hb, (fun h => f0 (by simpa using h)), (fun h => f1 (by simpa using h)), (fun h => f2 (by simpa using h)), (fun h => f3 (by simpa using h)), (fun h => f4 (by simpa using h)), (fun h => f5 (by simpa using h)), (fun h => f6 (by simpa using h)), (fun _ => rfl), (fun h => f8 (by simpa using h)), (fun h => f9 (by simpa using h)), (fun h => f10 (by simpa using h)), (fun h => f11 (by simpa using h)), (fun h => f12 (by simpa using h)), (fun h => f13 (by simpa using h)), (fun h => f14 (by simpa using h)), (fun h => f15 (by simpa using h)), (fun h => f16 (by simpa using h)), (fun h => f17 (by simpa using h)), (fun h => f18 (by simpa using h)), (fun h => f19 (by simpa using h)), (fun h => f20 (by simpa using h)), (fun h => f21 (by simpa using h)), (fun h => f22 (by simpa using h))⟩
        | 8, _ =>
          simp only [List.getElem?_toArray, List.getElem?_cons_zero, List.getElem?_cons_succ, Option.some.injEq] at ho
          subst ho
          have g7 := f7 (hd ⟨7, Ground.guard⟩ (by simp) rfl)
          subst x20
          refine wpOp_want rfl (by rfl) ?_
          refine wp_load_box (.tmp 3) rfl (w.heap.size + 1) rfl (HQ2.out.below hb) ?_
          exact ⟨_, _, _, _, _, _, _, _, _, _, _, _, _, _, _, _, _, _, _, _, _, _, _, rfl, hb, (fun h => f0 (by simpa using h)), (fun h => f1 (by simpa using h)), (fun h => f2 (by simpa using h)), (fun h => f3 (by simpa using h)), (fun h => f4 (by simpa using h)), (fun h => f5 (by simpa using h)), (fun h => f6 (by simpa using h)), (fun h => f7 (by simpa using h)), (fun _ => rfl), (fun h => f9 (by simpa using h)), (fun h => f10 (by simpa using h)), (fun h => f11 (by simpa using h)), (fun h => f12 (by simpa using h)), (fun h => f13 (by simpa using h)), (fun h => f14 (by simpa using h)), (fun h => f15 (by simpa using h)), (fun h => f16 (by simpa using h)), (fun h => f17 (by simpa using h)), (fun h => f18 (by simpa using h)), (fun h => f19 (by simpa using h)), (fun h => f20 (by simpa using h)), (fun h => f21 (by simpa using h)), (fun h => f22 (by simpa using h))⟩
        | 9, _ =>
          simp only [List.getElem?_toArray, List.getElem?_cons_zero, List.getElem?_cons_succ, Option.some.injEq] at ho
          subst ho
          have g7 := f7 (hd ⟨7, Ground.guard⟩ (by simp) rfl)
          subst x20
          refine wpOp_want rfl (by rfl) ?_
          refine wp_load_box (.tmp 2) rfl w.heap.size rfl (HQ1.out.below hb) ?_
          exact ⟨_, _, _, _, _, _, _, _, _, _, _, _, _, _, _, _, _, _, _, _, _, _, _, rfl, hb, (fun h => f0 (by simpa using h)), (fun h => f1 (by simpa using h)), (fun h => f2 (by simpa using h)), (fun h => f3 (by simpa using h)), (fun h => f4 (by simpa using h)), (fun h => f5 (by simpa using h)), (fun h => f6 (by simpa using h)), (fun h => f7 (by simpa using h)), (fun h => f8 (by simpa using h)), (fun _ => rfl), (fun h => f10 (by simpa using h)), (fun h => f11 (by simpa using h)), (fun h => f12 (by simpa using h)), (fun h => f13 (by simpa using h)), (fun h => f14 (by simpa using h)), (fun h => f15 (by simpa using h)), (fun h => f16 (by simpa using h)), (fun h => f17 (by simpa using h)), (fun h => f18 (by simpa using h)), (fun h => f19 (by simpa using h)), (fun h => f20 (by simpa using h)), (fun h => f21 (by simpa using h)), (fun h => f22 (by simpa using h))⟩
        | 10, _ =>
          simp only [List.getElem?_toArray, List.getElem?_cons_zero, List.getElem?_cons_succ, Option.some.injEq] at ho
          subst ho
          have g8 := f8 (hd ⟨8, Ground.data⟩ (by simp) rfl)
          subst x21
          have g9 := f9 (hd ⟨9, Ground.data⟩ (by simp) rfl)
          subst x22
          have g7 := f7 (hd ⟨7, Ground.guard⟩ (by simp) rfl)
          subst x20
          refine wpOp_want rfl (by rfl) ?_
          unfold Oper.wp
          go_simp
          (with_reducible refine (T14.out _ hb).mono ?_)
          rintro e w2 ⟨rfl, hbel⟩
          exact ⟨_, _, _, _, _, _, _, _, _, _, _, _, _, _, _, _, _, _, _, _, _, _, _, rfl, hb.trans (hbel.mono hb.size), (fun h => f0 (by simpa using h)), (fun h => f1 (by simpa using h)), (fun h => f2 (by simpa using h)), (fun h => f3 (by simpa using h)), (fun h => f4 (by simpa using h)), (fun h => f5 (by simpa using h)), (fun h => f6 (by simpa using h)), (fun h => f7 (by simpa using h)), (fun h => f8 (by simpa using h)), (fun h => f9 (by simpa using h)), (fun _ => rfl), (fun h => f11 (by simpa using h)), (fun h => f12 (by simpa using h)), (fun h => f13 (by simpa using h)), (fun h => f14 (by simpa using h)), (fun h => f15 (by simpa using h)), (fun h => f16 (by simpa using h)), (fun h => f17 (by simpa using h)), (fun h => f18 (by simpa using h)), (fun h wy hy => f19 (by simpa using h) wy (hbel.trans (hy.mono hbel.size))), (fun h => f20 (by simpa using h)), (fun h => f21 (by simpa using h)), (fun h => f22 (by simpa using h))⟩
        | 11, _ =>
          simp only [List.getElem?_toArray, List.getElem?_cons_zero, List.getElem?_cons_succ, Option.some.injEq] at ho
          subst ho
          have g7 := f7 (hd ⟨7, Ground.guard⟩ (by simp) rfl)
          subst x20
          refine wpOp_want rfl (by rfl) ?_
          refine wp_load_box (.tmp 2) rfl w.heap.size rfl (HQ1.out.below hb) ?_
          exact ⟨_, _, _, _, _, _, _, _, _, _, _, _, _, _, _, _, _, _, _, _, _, _, _, rfl, hb, (fun h => f0 (by simpa using h)), (fun h => f1 (by simpa using h)), (fun h => f2 (by simpa using h)), (fun h => f3 (by simpa using h)), (fun h => f4 (by simpa using h)), (fun h => f5 (by simpa using h)), (fun h => f6 (by simpa using h)), (fun h => f7 (by simpa using h)), (fun h => f8 (by simpa using h)), (fun h => f9 (by simpa using h)), (fun h => f10 (by simpa using h)), (fun _ => rfl), (fun h => f12 (by simpa using h)), (fun h => f13 (by simpa using h)), (fun h => f14 (by simpa using h)), (fun h => f15 (by simpa using h)), (fun h => f16 (by simpa using h)), (fun h => f17 (by simpa using h)), (fun h => f18 (by simpa using h)), (fun h => f19 (by simpa using h)), (fun h => f20 (by simpa using h)), (fun h => f21 (by simpa using h)), (fun h => f22 (by simpa using h))⟩
        | 12, _ =>
          simp only [List.getElem?_toArray, List.getElem?_cons_zero, List.getElem?_cons_succ, Option.some.injEq] at ho
          subst ho
          have g7 := f7 (hd ⟨7, Ground.guard⟩ (by simp) rfl)
          subst x20
          refine wpOp_want rfl (by rfl) ?_
          refine wp_load_box (.tmp 3) rfl (w.heap.size + 1) rfl (HQ2.out.below hb) ?_
          exact ⟨_, _, _, _, _, _, _, _, _, _, _, _, _, _, _, _, _, _, _, _, _, _, _, rfl, hb, (fun h => f0 (by simpa using h)), (fun h => f1 (by simpa using h)), (fun h => f2 (by simpa using h)), (fun h => f3 (by simpa using h)), (fun h => f4 (by simpa using h)), (fun h => f5 (by simpa using h)), (fun h => f6 (by simpa using h)), (fun h => f7 (by simpa using h)), (fun h => f8 (by simpa using h)), (fun h => f9 (by simpa using h)), (fun h => f10 (by simpa using h)), (fun h => f11 (by simpa using h)), (fun _ => rfl), (fun h => f13 (by simpa using h)), (fun h => f14 (by simpa using h)), (fun h => f15 (by simpa using h)), (fun h => f16 (by simpa using h)), (fun h => f17 (by simpa using h)), (fun h => f18 (by simpa using h)), (fun h => f19 (by simpa using h)), (fun h => f20 (by simpa using h)), (fun h => f21 (by simpa using h)), (fun h => f22 (by simpa using h))⟩
        | 13, _ =>
          simp only [List.getElem?_toArray, List.getElem?_cons_zero, List.getElem?_cons_succ, Option.some.injEq] at ho
          subst ho
          have g11 := f11 (hd ⟨11, Ground.data⟩ (by simp) rfl)
          subst x24
          have g12 := f12 (hd ⟨12, Ground.data⟩ (by simp) rfl)
          subst x25
          have g7 := f7 (hd ⟨7, Ground.guard⟩ (by simp) rfl)
          subst x20
          refine wpOp_want rfl (by rfl) ?_
          unfold Oper.wp
          go_simp
          (with_reducible refine (S25.out _ hb).mono ?_)
          rintro e w2 ⟨rfl, hbel⟩
          exact ⟨_, _, _, _, _, _, _, _, _, _, _, _, _, _, _, _, _, _, _, _, _, _, _, rfl, hb.trans (hbel.mono hb.size), (fun h => f0 (by simpa using h)), (fun h => f1 (by simpa using h)), (fun h => f2 (by simpa using h)), (fun h => f3 (by simpa using h)), (fun h => f4 (by simpa using h)), (fun h => f5 (by simpa using h)), (fun h => f6 (by simpa using h)), (fun h => f7 (by simpa using h)), (fun h => f8 (by simpa using h)), (fun h => f9 (by simpa using h)), (fun h => f10 (by simpa using h)), (fun h => f11 (by simpa using h)), (fun h => f12 (by simpa using h)), (fun _ => rfl), (fun h => f14 (by simpa using h)), (fun h => f15 (by simpa using h)), (fun h => f16 (by simpa using h)), (fun h => f17 (by simpa using h)), (fun h => f18 (by simpa using h)), (fun h wy hy => f19 (by simpa using h) wy (hbel.trans (hy.mono hbel.size))), (fun h => f20 (by simpa using h)), (fun h => f21 (by simpa using h)), (fun h => f22 (by simpa using h))⟩
        | 14, _ =>
          simp only [List.getElem?_toArray, List.getElem?_cons_zero, List.getElem?_cons_succ, Option.some.injEq] at ho
          subst ho
          have g10 := f10 (hd ⟨10, Ground.data⟩ (by simp) rfl)
          subst x23
          have g13 := f13 (hd ⟨13, Ground.data⟩ (by simp) rfl)
          subst x26
          have g7 := f7 (hd ⟨7, Ground.guard⟩ (by simp) rfl)
          subst x20
          refine wpOp_want rfl (by rfl) ?_
          unfold Oper.wp
          go_simp
          exact ⟨_, _, _, _, _, _, _, _, _, _, _, _, _, _, _, _, _, _, _, _, _, _, _, rfl, hb, (fun h => f0 (by simpa using h)), (fun h => f1 (by simpa using h)), (fun h => f2 (by simpa using h)), (fun h => f3 (by simpa using h)), (fun h => f4 (by simpa using h)), (fun h => f5 (by simpa using h)), (fun h => f6 (by simpa using h)), (fun h => f7 (by simpa using h)), (fun h => f8 (by simpa using h)), (fun h => f9 (by simpa using h)), (fun h => f10 (by simpa using h)), (fun h => f11 (by simpa using h)), (fun h => f12 (by simpa using h)), (fun h => f13 (by simpa using h)), (fun _ => rfl), (fun h => f15 (by simpa using h)), (fun h => f16 (by simpa using h)), (fun h => f17 (by simpa using h)), (fun h => f18 (by simpa using h)), (fun h => f19 (by simpa using h)), (fun h => f20 (by simpa using h)), (fun h => f21 (by simpa using h)), (fun h => f22 (by simpa using h))⟩
        | 15, _ =>
          simp only [List.getElem?_toArray, List.getElem?_cons_zero, List.getElem?_cons_succ, Option.some.injEq] at ho
          subst ho
          have g7 := f7 (hd ⟨7, Ground.data⟩ (by simp) rfl)
          subst x20
          have g14 := f14 (hd ⟨14, Ground.data⟩ (by simp) rfl)
          subst x27
          refine wpOp_of rfl rfl ?_
          unfold Oper.wp
          go_simp
          exact ⟨_, _, _, _, _, _, _, _, _, _, _, _, _, _, _, _, _, _, _, _, _, _, _, rfl, hb, (fun h => f0 (by simpa using h)), (fun h => f1 (by simpa using h)), (fun h => f2 (by simpa using h)), (fun h => f3 (by simpa using h)), (fun h => f4 (by simpa using h)), (fun h => f5 (by simpa using h)), (fun h => f6 (by simpa using h)), (fun h => f7 (by simpa using h)), (fun h => f8 (by simpa using h)), (fun h => f9 (by simpa using h)), (fun h => f10 (by simpa using h)), (fun h => f11 (by simpa using h)), (fun h => f12 (by simpa using h)), (fun h => f13 (by simpa using h)), (fun h => f14 (by simpa using h)), (fun _ => rfl), (fun h => f16 (by simpa using h)), (fun h => f17 (by simpa using h)), (fun h => f18 (by simpa using h)), (fun h => f19 (by simpa using h)), (fun h => f20 (by simpa using h)), (fun h => f21 (by simpa using h)), (fun h => f22 (by simpa using h))⟩
        | 16, _ =>
          simp only [List.getElem?_toArray, List.getElem?_cons_zero, List.getElem?_cons_succ, Option.some.injEq] at ho
          subst ho
          have g15 := f15 (hd ⟨15, Ground.data⟩ (by simp) rfl)
          subst x28
          refine wpOp_of rfl rfl ?_
          unfold Oper.wp
          go_simp
          exact ⟨_, _, _, _, _, _, _, _, _, _, _, _, _, _, _, _, _, _, _, _, _, _, _, rfl, hb, (fun h => f0 (by simpa using h)), (fun h => f1 (by simpa using h)), (fun h => f2 (by simpa using h)), (fun h => f3 (by simpa using h)), (fun h => f4 (by simpa using h)), (fun h => f5 (by simpa using h)), (fun h => f6 (by simpa using h)), (fun h => f7 (by simpa using h)), (fun h => f8 (by simpa using h)), (fun h => f9 (by simpa using h)), (fun h => f10 (by simpa using h)), (fun h => f11 (by simpa using h)), (fun h => f12 (by simpa using h)), (fun h => f13 (by simpa using h)), (fun h => f14 (by simpa using h)), (fun h => f15 (by simpa using h)), (fun _ => rfl), (fun h => f17 (by simpa using h)), (fun h => f18 (by simpa using h)), (fun h => f19 (by simpa using h)), (fun h => f20 (by simpa using h)), (fun h => f21 (by simpa using h)), (fun h => f22 (by simpa using h))⟩
        | 17, _ =>
          simp only [List.getElem?_toArray, List.getElem?_cons_zero, List.getElem?_cons_succ, Option.some.injEq] at ho
          subst ho
          have g16 := f16 (hd ⟨16, Ground.guard⟩ (by simp) rfl)
          subst x29
          refine wpOp_want rfl (by rfl) ?_
          refine wp_load_box (.tmp 2) rfl w.heap.size rfl (HQ1.out.below hb) ?_
          exact ⟨_, _, _, _, _, _, _, _, _, _, _, _, _, _, _, _, _, _, _, _, _, _, _, rfl, hb, (fun h => f0 (by simpa using h)), (fun h => f1 (by simpa using h)), (fun h => f2 (by simpa using h)), (fun h => f3 (by simpa using h)), (fun h => f4 (by simpa using h)), (fun h => f5 (by simpa using h)), (fun h => f6 (by simpa using h)), (fun h => f7 (by simpa using h)), (fun h => f8 (by simpa using h)), (fun h => f9 (by simpa using h)), (fun h => f10 (by simpa using h)), (fun h => f11 (by simpa using h)), (fun h => f12 (by simpa using h)), (fun h => f13 (by simpa using h)), (fun h => f14 (by simpa using h)), (fun h => f15 (by simpa using h)), (fun h => f16 (by simpa using h)), (fun _ => rfl), (fun h => f18 (by simpa using h)), (fun h => f19 (by simpa using h)), (fun h => f20 (by simpa using h)), (fun h => f21 (by simpa using h)), (fun h => f22 (by simpa using h))⟩
        | 18, _ =>
          simp only [List.getElem?_toArray, List.getElem?_cons_zero, List.getElem?_cons_succ, Option.some.injEq] at ho
          subst ho
          have g16 := f16 (hd ⟨16, Ground.guard⟩ (by simp) rfl)
          subst x29
          refine wpOp_want rfl (by rfl) ?_
          refine wp_load_box (.tmp 2) rfl w.heap.size rfl (HQ1.out.below hb) ?_
          exact ⟨_, _, _, _, _, _, _, _, _, _, _, _, _, _, _, _, _, _, _, _, _, _, _, rfl, hb, (fun h => f0 (by simpa using h)), (fun h => f1 (by simpa using h)), (fun h => f2 (by simpa using h)), (fun h => f3 (by simpa using h)), (fun h => f4 (by simpa using h)), (fun h => f5 (by simpa using h)), (fun h => f6 (by simpa using h)), (fun h => f7 (by simpa using h)), (fun h => f8 (by simpa using h)), (fun h => f9 (by simpa using h)), (fun h => f10 (by simpa using h)), (fun h => f11 (by simpa using h)), (fun h => f12 (by simpa using h)), (fun h => f13 (by simpa using h)), (fun h => f14 (by simpa using h)), (fun h => f15 (by simpa using h)), (fun h => f16 (by simpa using h)), (fun h => f17 (by simpa using h)), (fun _ => rfl), (fun h => f19 (by simpa using h)), (fun h => f20 (by simpa using h)), (fun h => f21 (by simpa using h)), (fun h => f22 (by simpa using h))⟩
        | 19, _ =>
          simp only [List.getElem?_toArray, List.getElem?_cons_zero, List.getElem?_cons_succ, Option.some.injEq] at ho
          subst ho
          have g18 := f18 (hd ⟨18, Ground.data⟩ (by simp) rfl)
          subst x31
          have g16 := f16 (hd ⟨16, Ground.guard⟩ (by simp) rfl)
          subst x29
          refine wpOp_want rfl (by rfl) ?_
          unfold Oper.wp
          go_simp
          (with_reducible refine (C19.out _ hb).mono ?_)
          rintro e w2 ⟨Y, rfl, hbel, hk⟩
          exact ⟨_, _, _, _, _, _, _, _, _, _, _, _, _, _, _, _, _, _, _, _, _, _, _, rfl, hb.trans (hbel.mono hb.size), (fun h => f0 (by simpa using h)), (fun h => f1 (by simpa using h)), (fun h => f2 (by simpa using h)), (fun h => f3 (by simpa using h)), (fun h => f4 (by simpa using h)), (fun h => f5 (by simpa using h)), (fun h => f6 (by simpa using h)), (fun h => f7 (by simpa using h)), (fun h => f8 (by simpa using h)), (fun h => f9 (by simpa using h)), (fun h => f10 (by simpa using h)), (fun h => f11 (by simpa using h)), (fun h => f12 (by simpa using h)), (fun h => f13 (by simpa using h)), (fun h => f14 (by simpa using h)), (fun h => f15 (by simpa using h)), (fun h => f16 (by simpa using h)), (fun h => f17 (by simpa using h)), (fun h => f18 (by simpa using h)), (fun _ => hk), (fun h => f20 (by simpa using h)), (fun h => f21 (by simpa using h)), (fun h => f22 (by simpa using h))⟩
        | 20, _ =>
          simp only [List.getElem?_toArray, List.getElem?_cons_zero, List.getElem?_cons_succ, Option.some.injEq] at ho
          subst ho
          have g17 := f17 (hd ⟨17, Ground.data⟩ (by simp) rfl)
          subst x30
          have g19 := f19 (hd ⟨19, Ground.data⟩ (by simp) rfl)
          have g16 := f16 (hd ⟨16, Ground.guard⟩ (by simp) rfl)
          subst x29
          refine wpOp_want rfl (by rfl) ?_
          unfold Oper.wp
          go_simp
          (with_reducible refine (g19 _ (Below.refl _ _)).mono ?_)
          rintro e w2 ⟨rfl, hbel⟩
          exact ⟨_, _, _, _, _, _, _, _, _, _, _, _, _, _, _, _, _, _, _, _, _, _, _, rfl, hb.trans (hbel.mono hb.size), (fun h => f0 (by simpa using h)), (fun h => f1 (by simpa using h)), (fun h => f2 (by simpa using h)), (fun h => f3 (by simpa using h)), (fun h => f4 (by simpa using h)), (fun h => f5 (by simpa using h)), (fun h => f6 (by simpa using h)), (fun h => f7 (by simpa using h)), (fun h => f8 (by simpa using h)), (fun h => f9 (by simpa using h)), (fun h => f10 (by simpa using h)), (fun h => f11 (by simpa using h)), (fun h => f12 (by simpa using h)), (fun h => f13 (by simpa using h)), (fun h => f14 (by simpa using h)), (fun h => f15 (by simpa using h)), (fun h => f16 (by simpa using h)), (fun h => f17 (by simpa using h)), (fun h => f18 (by simpa using h)), (fun h wy hy => f19 (by simpa using h) wy (hbel.trans (hy.mono hbel.size))), (fun _ => rfl), (fun h => f21 (by simpa using h)), (fun h => f22 (by simpa using h))⟩
        | 21, _ =>
          simp only [List.getElem?_toArray, List.getElem?_cons_zero, List.getElem?_cons_succ, Option.some.injEq] at ho
          subst ho
          have g16 := f16 (hd ⟨16, Ground.data⟩ (by simp) rfl)
          subst x29
          have g20 := f20 (hd ⟨20, Ground.data⟩ (by simp) rfl)
          subst x33
          refine wpOp_of rfl rfl ?_
          unfold Oper.wp
          go_simp
          exact ⟨_, _, _, _, _, _, _, _, _, _, _, _, _, _, _, _, _, _, _, _, _, _, _, rfl, hb, (fun h => f0 (by simpa using h)), (fun h => f1 (by simpa using h)), (fun h => f2 (by simpa using h)), (fun h => f3 (by simpa using h)), (fun h => f4 (by simpa using h)), (fun h => f5 (by simpa using h)), (fun h => f6 (by simpa using h)), (fun h => f7 (by simpa using h)), (fun h => f8 (by simpa using h)), (fun h => f9 (by simpa using h)), (fun h => f10 (by simpa using h)), (fun h => f11 (by simpa using h)), (fun h => f12 (by simpa using h)), (fun h => f13 (by simpa using h)), (fun h => f14 (by simpa using h)), (fun h => f15 (by simpa using h)), (fun h => f16 (by simpa using h)), (fun h => f17 (by simpa using h)), (fun h => f18 (by simpa using h)), (fun h => f19 (by simpa using h)), (fun h => f20 (by simpa using h)), (fun _ => rfl), (fun h => f22 (by simpa using h))⟩
        | 22, _ =>
          simp only [List.getElem?_toArray, List.getElem?_cons_zero, List.getElem?_cons_succ, Option.some.injEq] at ho
          subst ho
          have g21 := f21 (hd ⟨21, Ground.data⟩ (by simp) rfl)
          subst x34
          refine wpOp_of rfl rfl ?_
          unfold Oper.wp
          go_simp
          exact ⟨_, _, _, _, _, _, _, _, _, _, _, _, _, _, _, _, _, _, _, _, _, _, _, rfl, hb, (fun h => f0 (by simpa using h)), (fun h => f1 (by simpa using h)), (fun h => f2 (by simpa using h)), (fun h => f3 (by simpa using h)), (fun h => f4 (by simpa using h)), (fun h => f5 (by simpa using h)), (fun h => f6 (by simpa using h)), (fun h => f7 (by simpa using h)), (fun h => f8 (by simpa using h)), (fun h => f9 (by simpa using h)), (fun h => f10 (by simpa using h)), (fun h => f11 (by simpa using h)), (fun h => f12 (by simpa using h)), (fun h => f13 (by simpa using h)), (fun h => f14 (by simpa using h)), (fun h => f15 (by simpa using h)), (fun h => f16 (by simpa using h)), (fun h => f17 (by simpa using h)), (fun h => f18 (by simpa using h)), (fun h => f19 (by simpa using h)), (fun h => f20 (by simpa using h)), (fun h => f21 (by simpa using h)), (fun _ => rfl)⟩
      · intro S a wx hI hall
        obtain ⟨x13, x14, x15, x16, x17, x18, x19, x20, x21, x22, x23, x24, x25, x26, x27, x28, x29, x30, x31, x32, x33, x34, x4, rfl, hb, f0, f1, f2, f3, f4, f5, f6, f7, f8, f9, f10, f11, f12, f13, f14, f15, f16, f17, f18, f19, f20, f21, f22⟩ := hI
        have gl := f22 (hall 22 (by simp))
        subst x4
        go_wp2_with fail
        go_ret
        exact ⟨rfl, HB1.out.trans (hb.mono HB1.out.size)⟩
end Go.Proofs.Ytcelcognmdcenaa
