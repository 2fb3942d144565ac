/-
  WALKS: New of the program's run.
-/
import Derived.Test.YtlncdkdkoamadaaC1
import Derived.Test.YtlncdkdkoamadaaReg
import Derived.Test.YtlncdkdkoamadaaNewH
import Derived.Deep.CutRange
import Derived.Deep.RegionLaw
namespace Go.Proofs.Ytlncdkdkoamadaa
open Go.RowKit

set_option maxHeartbeats 400000 in
theorem new_len (A : Option Addr) (n c : Nat) (wk : Int) (w : World) (hn : n < 1 ∨ 256 < n) (hm : n ≤ maxLen) :
    Calls Try.prog 11 #[.slice A n c, .int .i64 wk] w fun e w' => e = .returned (.tuple #[.pointer none, .int .i64 2]) ∧ w = w' := by
  unfold maxLen at hm
  rcases hn with hn | hn
  · go_enter Try.func11, Try.ntmps11
    go_wp2
    go_ret2
    exact ⟨rfl, rfl⟩
  · go_enter Try.func11, Try.ntmps11
    go_wp2
    go_ret2
    exact ⟨rfl, rfl⟩

/-- What holds in the midst of the composite literal, whatever has been made so far. -/
def I4 (w0 : World) (B n c : Nat) (A : Option Addr) (wk : Int) (f : Nat → Int) (S : Nat → Bool) (a : Act) (w' : World) : Prop :=
  ∃ x18 x19 x20 x21 x22 x23 x24 x25 x26 x27 x28 x29 x30 x31 x32 x33 x34 x7 : Value, a = ⟨#[.slice A n c, .int .i64 wk, undef, undef, .pointer none, .int .i64 0, .int .i64 (n : Nat), x7, undef, undef, .slice A n c, .int .i64 (n : Nat), .int .i64 (n : Nat), .bool false, .bool false, .int .i64 (n : Nat), .bool false, .bool false, x18, x19, x20, x21, x22, x23, x24, x25, x26, x27, x28, x29, x30, x31, x32, x33, x34, undef, undef, undef, undef, undef, undef, undef, undef, undef, undef, undef, undef, undef, undef, undef, undef, undef, undef, undef, undef, undef, undef, undef, undef, undef, undef, undef, undef, undef, undef, undef, undef, undef, undef, undef, undef, undef, undef, undef, undef, undef, undef, undef, undef, undef, undef, undef], []⟩ ∧
    Below B w0 w' ∧
    (S 0 = true → x18 = .int .i64 (n : Nat)) ∧
    (S 1 = true → w'.ownsRow B 22 1 x19 n (List.replicate n (.slice none 0 0))) ∧
    (S 2 = true → x20 = .int .i64 (n : Nat)) ∧
    (S 3 = true → w'.ownsRow B 3 1 x21 n (List.replicate n (.int .i64 0))) ∧
    (S 4 = true → x22 = .int .i64 (n : Nat)) ∧
    (S 5 = true → w'.ownsRow B 3 1 x23 n (List.replicate n (.int .i64 0))) ∧
    (S 6 = true → x24 = .slice A n c) ∧
    (S 7 = true → w'.ownsRow B 3 1 x25 n ((List.range n).map fun i => .int .i64 (f i))) ∧
    (S 8 = true → x26 = .int .i64 wk) ∧
    (S 9 = true → x27 = .int .i64 (max wk 1)) ∧
    (S 10 = true → x28 = .int .i64 (min (max wk 1) 16)) ∧
    (S 11 = true → x29 = .int .i64 (thr wk : Nat)) ∧
    (S 12 = true → w'.ownsRow B 22 1 x30 (thr wk) (List.replicate (thr wk) (.slice none 0 0))) ∧
    (S 13 = true → x31 = .int .i64 (n : Nat)) ∧
    (S 14 = true → w'.ownsRow B 4 1 x32 n (List.replicate n (.bool false))) ∧
    (S 15 = true → x33 = .agg #[x19, x21, x23, x25, x30, x32, .int .i64 0]) ∧
    (S 16 = true → ∃ r, x34 = .pointer (some ⟨r, 0, none⟩) ∧ B ≤ r ∧ w'.heap[r]? = some (.cells #[x19, x21, x23, x25, x30, x32, .int .i64 0] 67 (0, 0))) ∧
    (S 17 = true → x7 = x34) ∧
    (S 3 = true → S 5 = true → Apart x21 x23) ∧
    (S 3 = true → S 7 = true → Apart x21 x25) ∧
    (S 5 = true → S 7 = true → Apart x23 x25) ∧
    (S 1 = true → S 12 = true → Apart x19 x30) ∧
    (S 15 = true → ∀ i, i = 1 ∨ i = 3 ∨ i = 5 ∨ i = 7 ∨ i = 12 ∨ i = 14 → S i = true) ∧ (S 16 = true → S 15 = true) ∧ (S 17 = true → S 16 = true)

/-- What the walk reads behind the append. -/
theorem kidFacts {W w' : World} {lab : Nat → Nat} {k : Nat} {L : Lay} {d : D} (h : RunRaw W lab k L d) {p : Nat} (hp : p < d.n) {o : Obj} {A : Option Addr} {n cg gc cc : Nat} (hA : L.vc p = .slice A n cg) (hvc : L.vch = .slice (some ⟨gc, 0, none⟩) d.n cc)
    (hg : (W.alloc o).drew.grownBy w' (Value.slice A n cg).ownBlock) :
    w'.cell? ⟨L.r, 0, none⟩ = some (.slice (some ⟨gc, 0, none⟩) d.n cc) ∧ w'.cell? ⟨gc, p, none⟩ = some (.slice A n cg) ∧ w'.frozen? ⟨gc, p, none⟩ = false := by
  have h1 : RunRaw (W.alloc o).drew lab k L d := h.below (((Below.refl _ _).alloc (Nat.le_refl _) o).drew)
  rw [← hA] at hg
  have hblk : w'.heap[L.r]? = some (.cells #[L.vch, L.vnx, L.vou, L.vpa, L.vst, L.vop, .int .i64 d.mov] 67 (0, 0)) := by
    rw [hg.block _ h1.rlt (fun e => own_blk_ne (h1.cs p hp) h1.blk (by decide) e.symm)]; exact h1.blk
  have hch := far_grown h1.ch hg (fun g hv e => own_ne (h1.cs p hp) h1.ch (by decide) e hv)
  rw [hvc] at hch hblk
  refine ⟨cell_of_row w' _ 0 _ 67 (0, 0) hblk, ?_, hch.frozenAt p⟩
  rw [hch.cellAt p (by omega), vals_get hp, hA]
theorem own_pos {w : World} {base : Nat} {e : TypeId} {size n : Nat} {v : Value} {xs : List Value} (h : w.ownsRow base e size v (n + 1) xs) : ∃ g c, v = .slice (some ⟨g, 0, none⟩) (n + 1) c := by
  rcases h.2 with ⟨_, h0⟩ | ⟨g, cap, cur, hv, _⟩
  · omega
  · exact ⟨g, cap, hv⟩
theorem clone_rd {A : Option Addr} {n c : Nat} {f : Nat → Int} {w : World} (h : RdI w A n f) (h1 : 1 ≤ n) (h2 : n ≤ 256) :
    Calls Try.prog 10 #[.slice A n c] w fun e w' => ∃ v, e = .returned v ∧ w'.ownsRow w.heap.size 3 1 v n ((List.range n).map fun i => .int .i64 (f i)) ∧ Below w.heap.size w w' := by
  obtain ⟨b, off, rfl, hl, hc⟩ := h (by omega)
  refine clone_ints _ n c _ w (fun h => by cases h) (by simp) ?_ ?_ ?_ (by omega)
  · intro ad had j u hu
    cases had
    have hj : j < n := by have := (List.getElem?_eq_some_iff.1 hu).1; simpa using this
    rw [vals_get hj] at hu
    rw [Addr.add_lit, ← hu]
    exact hc j hj
  · intro u hu
    obtain ⟨i, _, rfl⟩ := List.mem_map.1 hu
    rfl
  · intro ad had j hj
    cases had
    rw [Addr.add_lit]
    exact hl

theorem info49 : (Try.prog.info? 49).map (fun i => (i.zero, i.size, i.bytes)) = some (some (.slice none 0 0), 1, 24) := by kernel_rfl
theorem made (t e : TypeId) (z : Value) (b n : Nat) (ht : Try.prog.underlying t = some (.slice e)) (hi : (Try.prog.info? e).map (fun i => (i.zero, i.size, i.bytes)) = some (some z, 1, b)) (hz : z.cells = #[z]) (hb : b ≤ 64) (hn : n ≤ 1000) (u : World) :
    (Instr.makeSlice t (.int .i64 (n : Nat)) (.int .i64 (n : Nat))).run Try.prog u = .ok (.slice (some ⟨u.heap.size, 0, none⟩) n n) (u.alloc (.cells (madeCells #[z] n) e)) := by
  obtain ⟨i0, hi, hz0, hz1, hz2⟩ := info_parts hi
  have hbn : b * n ≤ 64 * 1000 := Nat.mul_le_mul hb hn
  have hb3 : (b : Int) * (n : Int) ≤ 281474976710656 := by
    have h : ((b * n : Nat) : Int) ≤ 64000 := by omega
    rw [Int.natCast_mul] at h; omega
  have hr := run_make (P := Try.prog) u t e i0 z ht hi hz0 .i64 .i64 n n (by omega) (Int.le_refl _) (by rw [hz2]; exact hb3) (by omega)
  simp only [Int.toNat_natCast, hz1, hz, Nat.mul_one] at hr
  exact hr

set_option maxHeartbeats 4000000 in
set_option maxRecDepth 100000 in
theorem new_any (A : Option Addr) (n c : Nat) (wk : Int) (f : Nat → Int) (w : World) (lab0 : Nat → Nat) (k : Nat) (hk : k ≠ 0) (h0 : ∀ b, b < w.heap.size → lab0 b ≠ k) (hn1 : 1 ≤ n) (hn2 : n ≤ 256) (ha : RdI w A n f) :
    Calls Try.prog 11 #[.slice A n c, .int .i64 wk] w fun e w' => NewOut w lab0 k n (thr wk) f e w' := by
  have H0 := Lib.hid h0
  clear h0
  have b1 : decide ((n : Int) < 1) = false := by simp; omega
  have b2 : decide ((256 : Int) < (n : Int)) = false := by simp; omega
  go_enter Try.func11, Try.ntmps11
  go_upto_region 4 with (fail)
  go_cut [7] from 18 to 35 (fun v wx => Hid (∃ lab L, v = .pointer (some ⟨L.r, 0, none⟩) ∧ NewAt w wx lab0 lab k L (dNew n (thr wk) f 0)))
  case first =>
    have hmk1 := fun u => made 61 22 (.slice none 0 0) 24 n Try.underlying61 info22 rfl (by omega) (by omega) u
    have hmk3 := fun u => made 22 3 (.int .i64 0) 8 n Try.underlying22 info3 rfl (by omega) (by omega) u
    have hmk5 := hmk3
    have hmk12 := fun u => made 61 22 (.slice none 0 0) 24 (thr wk) Try.underlying61 info22 rfl (by omega) (by unfold thr; omega) u
    have hmk14 := fun u => made 49 4 (.bool false) 1 n Try.underlying49 info4 rfl (by omega) (by omega) u
    refine wp_region_inv (by kernel_rfl) (I4 w w.heap.size n c A wk f) ?_ ?_ ?_ ?_
    · exact ⟨_, _, _, _, _, _, _, _, _, _, _, _, _, _, _, _, _, _, rfl, (Below.refl _ _).drew, (fun h => by cases h), (fun h => by cases h), (fun h => by cases h), (fun h => by cases h), (fun h => by cases h), (fun h => by cases h), (fun h => by cases h), (fun h => by cases h), (fun h => by cases h), (fun h => by cases h), (fun h => by cases h), (fun h => by cases h), (fun h => by cases h), (fun h => by cases h), (fun h => by cases h), (fun h => by cases h), (fun h => by cases h), (fun h => by cases h), (fun h => by cases h), (fun h => by cases h), (fun h => by cases h), (fun h => by cases h), (fun h => by cases h), (fun h => by cases h), (fun h => by cases h)⟩
    · intro i o ho e he
      have hi : i < 18 := by
        rcases Nat.lt_or_ge i 18 with h | h
        · exact h
        · rw [Array.getElem?_eq_none (by simpa using h)] at ho; cases ho
      revert e
      match i, hi with
      | 0, _ => (cases ho; decide)
      | 1, _ => (cases ho; decide)
      | 2, _ => (cases ho; decide)
      | 3, _ => (cases ho; decide)
      | 4, _ => (cases ho; decide)
      | 5, _ => (cases ho; decide)
      | 6, _ => (cases ho; decide)
      | 7, _ => (cases ho; decide)
      | 8, _ => (cases ho; decide)
      | 9, _ => (cases ho; decide)
      | 10, _ => (cases ho; decide)
      | 11, _ => (cases ho; decide)
      | 12, _ => (cases ho; decide)
      | 13, _ => (cases ho; decide)
      | 14, _ => (cases ho; decide)
      | 15, _ => (cases ho; decide)
      | 16, _ => (cases ho; decide)
      | 17, _ => (cases ho; decide)
    · intro S a w1 i o hI ho hS hd
      obtain ⟨x18, x19, x20, x21, x22, x23, x24, x25, x26, x27, x28, x29, x30, x31, x32, x33, x34, x7, rfl, hb, f0, f1, f2, f3, f4, f5, f6, f7, f8, f9, f10, f11, f12, f13, f14, f15, f16, f17, d0, d1, d2, d3, c15, c16, c17⟩ := hI
      have hi : i < 18 := by
        rcases Nat.lt_or_ge i 18 with h | h
        · exact h
        · rw [Array.getElem?_eq_none (by simpa using h)] at ho; cases ho
      match i, hi with
      | 0, _ =>
        simp only [List.getElem?_toArray, List.getElem?_cons_zero, Option.some.injEq] at ho
        subst ho
        refine wpOp_of rfl rfl ?_
        unfold Oper.wp
        go_simp
        exact ⟨_, _, _, _, _, _, _, _, _, _, _, _, _, _, _, _, _, _, rfl, hb, (fun _ => rfl), (fun h => f1 (by simpa using h)), (fun h => f2 (by simpa using h)), (fun h => f3 (by simpa using h)), (fun h => f4 (by simpa using h)), (fun h => f5 (by simpa using h)), (fun h => f6 (by simpa using h)), (fun h => f7 (by simpa using h)), (fun h => f8 (by simpa using h)), (fun h => f9 (by simpa using h)), (fun h => f10 (by simpa using h)), (fun h => f11 (by simpa using h)), (fun h => f12 (by simpa using h)), (fun h => f13 (by simpa using h)), (fun h => f14 (by simpa using h)), (fun h => f15 (by simpa using h)), (fun h => f16 (by simpa using h)), (fun h => f17 (by simpa using h)), (fun h h' => d0 (by simpa using h) (by simpa using h')), (fun h h' => d1 (by simpa using h) (by simpa using h')), (fun h h' => d2 (by simpa using h) (by simpa using h')), (fun h h' => d3 (by simpa using h) (by simpa using h')), (fun h i hi => by have := c15 (by simpa using h) i hi; simp [this]), (fun h => by have := c16 (by simpa using h); simp [this]), (fun h => by have := c17 (by simpa using h); simp [this])⟩
      | 1, _ =>
        simp only [List.getElem?_toArray, List.getElem?_cons_zero, List.getElem?_cons_succ, Option.some.injEq] at ho
        subst ho
        have g0 := f0 (hd ⟨0, Ground.data⟩ (by simp) rfl)
        subst g0
        refine wpOp_of rfl rfl ?_
        unfold Oper.wp
        have hz := hmk1
        go_simp
        have hg : Below w1.heap.size w1 (w1.alloc (.cells (madeCells #[.slice none 0 0] n) 22)) := (Below.refl _ _).alloc (Nat.le_refl _) _
        exact ⟨_, _, _, _, _, _, _, _, _, _, _, _, _, _, _, _, _, _, rfl, hb.trans (hg.mono hb.size), (fun h => f0 (by simpa using h)), (fun _ => own_made w1 w.heap.size 22 (.slice none 0 0) n hb.size (by omega)), (fun h => f2 (by simpa using h)), (fun h => own_below (f3 (by simpa using h)) hg), (fun h => f4 (by simpa using h)), (fun h => own_below (f5 (by simpa using h)) hg), (fun h => f6 (by simpa using h)), (fun h => own_below (f7 (by simpa using h)) hg), (fun h => f8 (by simpa using h)), (fun h => f9 (by simpa using h)), (fun h => f10 (by simpa using h)), (fun h => f11 (by simpa using h)), (fun h => own_below (f12 (by simpa using h)) hg), (fun h => f13 (by simpa using h)), (fun h => own_below (f14 (by simpa using h)) hg), (fun h => absurd (c15 (by simpa using h) 1 (by simp)) (by rw [hS]; decide)), (fun h => absurd (c15 (c16 (by simpa using h)) 1 (by simp)) (by rw [hS]; decide)), (fun h => f17 (by simpa using h)), (fun h h' => d0 (by simpa using h) (by simpa using h')), (fun h h' => d1 (by simpa using h) (by simpa using h')), (fun h h' => d2 (by simpa using h) (by simpa using h')), (fun _ h => apart_ge (f12 (by simpa using h)) (slice_ge _ _ _ _ (Nat.le_refl _))), (fun h i hi => by have := c15 (by simpa using h) i hi; simp [this]), (fun h => by have := c16 (by simpa using h); simp [this]), (fun h => by have := c17 (by simpa using h); simp [this])⟩
      | 2, _ =>
        simp only [List.getElem?_toArray, List.getElem?_cons_zero, List.getElem?_cons_succ, Option.some.injEq] at ho
        subst ho
        refine wpOp_of rfl rfl ?_
        unfold Oper.wp
        go_simp
        exact ⟨_, _, _, _, _, _, _, _, _, _, _, _, _, _, _, _, _, _, rfl, hb, (fun h => f0 (by simpa using h)), (fun h => f1 (by simpa using h)), (fun _ => rfl), (fun h => f3 (by simpa using h)), (fun h => f4 (by simpa using h)), (fun h => f5 (by simpa using h)), (fun h => f6 (by simpa using h)), (fun h => f7 (by simpa using h)), (fun h => f8 (by simpa using h)), (fun h => f9 (by simpa using h)), (fun h => f10 (by simpa using h)), (fun h => f11 (by simpa using h)), (fun h => f12 (by simpa using h)), (fun h => f13 (by simpa using h)), (fun h => f14 (by simpa using h)), (fun h => f15 (by simpa using h)), (fun h => f16 (by simpa using h)), (fun h => f17 (by simpa using h)), (fun h h' => d0 (by simpa using h) (by simpa using h')), (fun h h' => d1 (by simpa using h) (by simpa using h')), (fun h h' => d2 (by simpa using h) (by simpa using h')), (fun h h' => d3 (by simpa using h) (by simpa using h')), (fun h i hi => by have := c15 (by simpa using h) i hi; simp [this]), (fun h => by have := c16 (by simpa using h); simp [this]), (fun h => by have := c17 (by simpa using h); simp [this])⟩
      | 3, _ =>
        simp only [List.getElem?_toArray, List.getElem?_cons_zero, List.getElem?_cons_succ, Option.some.injEq] at ho
        subst ho
        have g2 := f2 (hd ⟨2, Ground.data⟩ (by simp) rfl)
        subst g2
        refine wpOp_of rfl rfl ?_
        unfold Oper.wp
        have hz := hmk3
        go_simp
        have hg : Below w1.heap.size w1 (w1.alloc (.cells (madeCells #[.int .i64 0] n) 3)) := (Below.refl _ _).alloc (Nat.le_refl _) _
        exact ⟨_, _, _, _, _, _, _, _, _, _, _, _, _, _, _, _, _, _, rfl, hb.trans (hg.mono hb.size), (fun h => f0 (by simpa using h)), (fun h => own_below (f1 (by simpa using h)) hg), (fun h => f2 (by simpa using h)), (fun _ => own_made w1 w.heap.size 3 (.int .i64 0) n hb.size (by omega)), (fun h => f4 (by simpa using h)), (fun h => own_below (f5 (by simpa using h)) hg), (fun h => f6 (by simpa using h)), (fun h => own_below (f7 (by simpa using h)) hg), (fun h => f8 (by simpa using h)), (fun h => f9 (by simpa using h)), (fun h => f10 (by simpa using h)), (fun h => f11 (by simpa using h)), (fun h => own_below (f12 (by simpa using h)) hg), (fun h => f13 (by simpa using h)), (fun h => own_below (f14 (by simpa using h)) hg), (fun h => absurd (c15 (by simpa using h) 3 (by simp)) (by rw [hS]; decide)), (fun h => absurd (c15 (c16 (by simpa using h)) 3 (by simp)) (by rw [hS]; decide)), (fun h => f17 (by simpa using h)), (fun _ h => apart_ge (f5 (by simpa using h)) (slice_ge _ _ _ _ (Nat.le_refl _))), (fun _ h => apart_ge (f7 (by simpa using h)) (slice_ge _ _ _ _ (Nat.le_refl _))), (fun h h' => d2 (by simpa using h) (by simpa using h')), (fun h h' => d3 (by simpa using h) (by simpa using h')), (fun h i hi => by have := c15 (by simpa using h) i hi; simp [this]), (fun h => by have := c16 (by simpa using h); simp [this]), (fun h => by have := c17 (by simpa using h); simp [this])⟩
      | 4, _ =>
        simp only [List.getElem?_toArray, List.getElem?_cons_zero, List.getElem?_cons_succ, Option.some.injEq] at ho
        subst ho
        refine wpOp_of rfl rfl ?_
        unfold Oper.wp
        go_simp
        exact ⟨_, _, _, _, _, _, _, _, _, _, _, _, _, _, _, _, _, _, rfl, hb, (fun h => f0 (by simpa using h)), (fun h => f1 (by simpa using h)), (fun h => f2 (by simpa using h)), (fun h => f3 (by simpa using h)), (fun _ => rfl), (fun h => f5 (by simpa using h)), (fun h => f6 (by simpa using h)), (fun h => f7 (by simpa using h)), (fun h => f8 (by simpa using h)), (fun h => f9 (by simpa using h)), (fun h => f10 (by simpa using h)), (fun h => f11 (by simpa using h)), (fun h => f12 (by simpa using h)), (fun h => f13 (by simpa using h)), (fun h => f14 (by simpa using h)), (fun h => f15 (by simpa using h)), (fun h => f16 (by simpa using h)), (fun h => f17 (by simpa using h)), (fun h h' => d0 (by simpa using h) (by simpa using h')), (fun h h' => d1 (by simpa using h) (by simpa using h')), (fun h h' => d2 (by simpa using h) (by simpa using h')), (fun h h' => d3 (by simpa using h) (by simpa using h')), (fun h i hi => by have := c15 (by simpa using h) i hi; simp [this]), (fun h => by have := c16 (by simpa using h); simp [this]), (fun h => by have := c17 (by simpa using h); simp [this])⟩
      | 5, _ =>
        simp only [List.getElem?_toArray, List.getElem?_cons_zero, List.getElem?_cons_succ, Option.some.injEq] at ho
        subst ho
        have g4 := f4 (hd ⟨4, Ground.data⟩ (by simp) rfl)
        subst g4
        refine wpOp_of rfl rfl ?_
        unfold Oper.wp
        have hz := hmk5
        go_simp
        have hg : Below w1.heap.size w1 (w1.alloc (.cells (madeCells #[.int .i64 0] n) 3)) := (Below.refl _ _).alloc (Nat.le_refl _) _
        exact ⟨_, _, _, _, _, _, _, _, _, _, _, _, _, _, _, _, _, _, rfl, hb.trans (hg.mono hb.size), (fun h => f0 (by simpa using h)), (fun h => own_below (f1 (by simpa using h)) hg), (fun h => f2 (by simpa using h)), (fun h => own_below (f3 (by simpa using h)) hg), (fun h => f4 (by simpa using h)), (fun _ => own_made w1 w.heap.size 3 (.int .i64 0) n hb.size (by omega)), (fun h => f6 (by simpa using h)), (fun h => own_below (f7 (by simpa using h)) hg), (fun h => f8 (by simpa using h)), (fun h => f9 (by simpa using h)), (fun h => f10 (by simpa using h)), (fun h => f11 (by simpa using h)), (fun h => own_below (f12 (by simpa using h)) hg), (fun h => f13 (by simpa using h)), (fun h => own_below (f14 (by simpa using h)) hg), (fun h => absurd (c15 (by simpa using h) 5 (by simp)) (by rw [hS]; decide)), (fun h => absurd (c15 (c16 (by simpa using h)) 5 (by simp)) (by rw [hS]; decide)), (fun h => f17 (by simpa using h)), (fun h _ => (apart_ge (f3 (by simpa using h)) (slice_ge _ _ _ _ (Nat.le_refl _))).symm), (fun h h' => d1 (by simpa using h) (by simpa using h')), (fun _ h => apart_ge (f7 (by simpa using h)) (slice_ge _ _ _ _ (Nat.le_refl _))), (fun h h' => d3 (by simpa using h) (by simpa using h')), (fun h i hi => by have := c15 (by simpa using h) i hi; simp [this]), (fun h => by have := c16 (by simpa using h); simp [this]), (fun h => by have := c17 (by simpa using h); simp [this])⟩
      | 6, _ =>
        simp only [List.getElem?_toArray, List.getElem?_cons_zero, List.getElem?_cons_succ, Option.some.injEq] at ho
        subst ho
        refine wpOp_of rfl rfl ?_
        unfold Oper.wp
        go_simp
        exact ⟨_, _, _, _, _, _, _, _, _, _, _, _, _, _, _, _, _, _, rfl, hb, (fun h => f0 (by simpa using h)), (fun h => f1 (by simpa using h)), (fun h => f2 (by simpa using h)), (fun h => f3 (by simpa using h)), (fun h => f4 (by simpa using h)), (fun h => f5 (by simpa using h)), (fun _ => rfl), (fun h => f7 (by simpa using h)), (fun h => f8 (by simpa using h)), (fun h => f9 (by simpa using h)), (fun h => f10 (by simpa using h)), (fun h => f11 (by simpa using h)), (fun h => f12 (by simpa using h)), (fun h => f13 (by simpa using h)), (fun h => f14 (by simpa using h)), (fun h => f15 (by simpa using h)), (fun h => f16 (by simpa using h)), (fun h => f17 (by simpa using h)), (fun h h' => d0 (by simpa using h) (by simpa using h')), (fun h h' => d1 (by simpa using h) (by simpa using h')), (fun h h' => d2 (by simpa using h) (by simpa using h')), (fun h h' => d3 (by simpa using h) (by simpa using h')), (fun h i hi => by have := c15 (by simpa using h) i hi; simp [this]), (fun h => by have := c16 (by simpa using h); simp [this]), (fun h => by have := c17 (by simpa using h); simp [this])⟩
      | 7, _ =>
        simp only [List.getElem?_toArray, List.getElem?_cons_zero, List.getElem?_cons_succ, Option.some.injEq] at ho
        subst ho
        have g6 := f6 (hd ⟨6, Ground.data⟩ (by simp) rfl)
        subst g6
        refine wpOp_of rfl rfl ?_
        unfold Oper.wp
        go_simp
        refine (clone_rd (ha.below hb (Nat.le_refl _)) hn1 hn2).mono ?_
        rintro e w2 ⟨v, rfl, hown, hg⟩
        exact ⟨_, _, _, _, _, _, _, _, _, _, _, _, _, _, _, _, _, _, rfl, hb.trans (hg.mono hb.size), (fun h => f0 (by simpa using h)), (fun h => own_below (f1 (by simpa using h)) hg), (fun h => f2 (by simpa using h)), (fun h => own_below (f3 (by simpa using h)) hg), (fun h => f4 (by simpa using h)), (fun h => own_below (f5 (by simpa using h)) hg), (fun h => f6 (by simpa using h)), (fun _ => own_base hown hb.size), (fun h => f8 (by simpa using h)), (fun h => f9 (by simpa using h)), (fun h => f10 (by simpa using h)), (fun h => f11 (by simpa using h)), (fun h => own_below (f12 (by simpa using h)) hg), (fun h => f13 (by simpa using h)), (fun h => own_below (f14 (by simpa using h)) hg), (fun h => absurd (c15 (by simpa using h) 7 (by simp)) (by rw [hS]; decide)), (fun h => absurd (c15 (c16 (by simpa using h)) 7 (by simp)) (by rw [hS]; decide)), (fun h => f17 (by simpa using h)), (fun h h' => d0 (by simpa using h) (by simpa using h')), (fun h _ => (apart_ge (f3 (by simpa using h)) (fun g hv => (hown.lt g hv).1)).symm), (fun h _ => (apart_ge (f5 (by simpa using h)) (fun g hv => (hown.lt g hv).1)).symm), (fun h h' => d3 (by simpa using h) (by simpa using h')), (fun h i hi => by have := c15 (by simpa using h) i hi; simp [this]), (fun h => by have := c16 (by simpa using h); simp [this]), (fun h => by have := c17 (by simpa using h); simp [this])⟩
      | 8, _ =>
        simp only [List.getElem?_toArray, List.getElem?_cons_zero, List.getElem?_cons_succ, Option.some.injEq] at ho
        subst ho
        refine wpOp_of rfl rfl ?_
        unfold Oper.wp
        go_simp
        exact ⟨_, _, _, _, _, _, _, _, _, _, _, _, _, _, _, _, _, _, rfl, hb, (fun h => f0 (by simpa using h)), (fun h => f1 (by simpa using h)), (fun h => f2 (by simpa using h)), (fun h => f3 (by simpa using h)), (fun h => f4 (by simpa using h)), (fun h => f5 (by simpa using h)), (fun h => f6 (by simpa using h)), (fun h => f7 (by simpa using h)), (fun _ => rfl), (fun h => f9 (by simpa using h)), (fun h => f10 (by simpa using h)), (fun h => f11 (by simpa using h)), (fun h => f12 (by simpa using h)), (fun h => f13 (by simpa using h)), (fun h => f14 (by simpa using h)), (fun h => f15 (by simpa using h)), (fun h => f16 (by simpa using h)), (fun h => f17 (by simpa using h)), (fun h h' => d0 (by simpa using h) (by simpa using h')), (fun h h' => d1 (by simpa using h) (by simpa using h')), (fun h h' => d2 (by simpa using h) (by simpa using h')), (fun h h' => d3 (by simpa using h) (by simpa using h')), (fun h i hi => by have := c15 (by simpa using h) i hi; simp [this]), (fun h => by have := c16 (by simpa using h); simp [this]), (fun h => by have := c17 (by simpa using h); simp [this])⟩
      | 9, _ =>
        simp only [List.getElem?_toArray, List.getElem?_cons_zero, List.getElem?_cons_succ, Option.some.injEq] at ho
        subst ho
        have g8 := f8 (hd ⟨8, Ground.data⟩ (by simp) rfl)
        subst g8
        refine wpOp_of rfl rfl ?_
        unfold Oper.wp
        go_simp
        exact ⟨_, _, _, _, _, _, _, _, _, _, _, _, _, _, _, _, _, _, rfl, hb, (fun h => f0 (by simpa using h)), (fun h => f1 (by simpa using h)), (fun h => f2 (by simpa using h)), (fun h => f3 (by simpa using h)), (fun h => f4 (by simpa using h)), (fun h => f5 (by simpa using h)), (fun h => f6 (by simpa using h)), (fun h => f7 (by simpa using h)), (fun h => f8 (by simpa using h)), (fun _ => by rw [show (if wk < 1 then 1 else wk) = max wk 1 by omega]), (fun h => f10 (by simpa using h)), (fun h => f11 (by simpa using h)), (fun h => f12 (by simpa using h)), (fun h => f13 (by simpa using h)), (fun h => f14 (by simpa using h)), (fun h => f15 (by simpa using h)), (fun h => f16 (by simpa using h)), (fun h => f17 (by simpa using h)), (fun h h' => d0 (by simpa using h) (by simpa using h')), (fun h h' => d1 (by simpa using h) (by simpa using h')), (fun h h' => d2 (by simpa using h) (by simpa using h')), (fun h h' => d3 (by simpa using h) (by simpa using h')), (fun h i hi => by have := c15 (by simpa using h) i hi; simp [this]), (fun h => by have := c16 (by simpa using h); simp [this]), (fun h => by have := c17 (by simpa using h); simp [this])⟩
      | 10, _ =>
        simp only [List.getElem?_toArray, List.getElem?_cons_zero, List.getElem?_cons_succ, Option.some.injEq] at ho
        subst ho
        have g9 := f9 (hd ⟨9, Ground.data⟩ (by simp) rfl)
        subst g9
        refine wpOp_of rfl rfl ?_
        unfold Oper.wp
        go_simp
        exact ⟨_, _, _, _, _, _, _, _, _, _, _, _, _, _, _, _, _, _, rfl, hb, (fun h => f0 (by simpa using h)), (fun h => f1 (by simpa using h)), (fun h => f2 (by simpa using h)), (fun h => f3 (by simpa using h)), (fun h => f4 (by simpa using h)), (fun h => f5 (by simpa using h)), (fun h => f6 (by simpa using h)), (fun h => f7 (by simpa using h)), (fun h => f8 (by simpa using h)), (fun h => f9 (by simpa using h)), (fun _ => by rw [show (if 16 < max wk 1 then 16 else max wk 1) = min (max wk 1) 16 by omega]), (fun h => f11 (by simpa using h)), (fun h => f12 (by simpa using h)), (fun h => f13 (by simpa using h)), (fun h => f14 (by simpa using h)), (fun h => f15 (by simpa using h)), (fun h => f16 (by simpa using h)), (fun h => f17 (by simpa using h)), (fun h h' => d0 (by simpa using h) (by simpa using h')), (fun h h' => d1 (by simpa using h) (by simpa using h')), (fun h h' => d2 (by simpa using h) (by simpa using h')), (fun h h' => d3 (by simpa using h) (by simpa using h')), (fun h i hi => by have := c15 (by simpa using h) i hi; simp [this]), (fun h => by have := c16 (by simpa using h); simp [this]), (fun h => by have := c17 (by simpa using h); simp [this])⟩
      | 11, _ =>
        simp only [List.getElem?_toArray, List.getElem?_cons_zero, List.getElem?_cons_succ, Option.some.injEq] at ho
        subst ho
        have g10 := f10 (hd ⟨10, Ground.data⟩ (by simp) rfl)
        subst g10
        refine wpOp_of rfl rfl ?_
        unfold Oper.wp
        go_simp
        exact ⟨_, _, _, _, _, _, _, _, _, _, _, _, _, _, _, _, _, _, rfl, hb, (fun h => f0 (by simpa using h)), (fun h => f1 (by simpa using h)), (fun h => f2 (by simpa using h)), (fun h => f3 (by simpa using h)), (fun h => f4 (by simpa using h)), (fun h => f5 (by simpa using h)), (fun h => f6 (by simpa using h)), (fun h => f7 (by simpa using h)), (fun h => f8 (by simpa using h)), (fun h => f9 (by simpa using h)), (fun h => f10 (by simpa using h)), (fun _ => by rw [thr_wrap]), (fun h => f12 (by simpa using h)), (fun h => f13 (by simpa using h)), (fun h => f14 (by simpa using h)), (fun h => f15 (by simpa using h)), (fun h => f16 (by simpa using h)), (fun h => f17 (by simpa using h)), (fun h h' => d0 (by simpa using h) (by simpa using h')), (fun h h' => d1 (by simpa using h) (by simpa using h')), (fun h h' => d2 (by simpa using h) (by simpa using h')), (fun h h' => d3 (by simpa using h) (by simpa using h')), (fun h i hi => by have := c15 (by simpa using h) i hi; simp [this]), (fun h => by have := c16 (by simpa using h); simp [this]), (fun h => by have := c17 (by simpa using h); simp [this])⟩
      | 12, _ =>
        simp only [List.getElem?_toArray, List.getElem?_cons_zero, List.getElem?_cons_succ, Option.some.injEq] at ho
        subst ho
        have g11 := f11 (hd ⟨11, Ground.data⟩ (by simp) rfl)
        subst g11
        refine wpOp_of rfl rfl ?_
        unfold Oper.wp
        have hz := hmk12
        go_simp
        have hg : Below w1.heap.size w1 (w1.alloc (.cells (madeCells #[.slice none 0 0] (thr wk)) 22)) := (Below.refl _ _).alloc (Nat.le_refl _) _
        exact ⟨_, _, _, _, _, _, _, _, _, _, _, _, _, _, _, _, _, _, rfl, hb.trans (hg.mono hb.size), (fun h => f0 (by simpa using h)), (fun h => own_below (f1 (by simpa using h)) hg), (fun h => f2 (by simpa using h)), (fun h => own_below (f3 (by simpa using h)) hg), (fun h => f4 (by simpa using h)), (fun h => own_below (f5 (by simpa using h)) hg), (fun h => f6 (by simpa using h)), (fun h => own_below (f7 (by simpa using h)) hg), (fun h => f8 (by simpa using h)), (fun h => f9 (by simpa using h)), (fun h => f10 (by simpa using h)), (fun h => f11 (by simpa using h)), (fun _ => own_made w1 w.heap.size 22 (.slice none 0 0) (thr wk) hb.size (by unfold thr; omega)), (fun h => f13 (by simpa using h)), (fun h => own_below (f14 (by simpa using h)) hg), (fun h => absurd (c15 (by simpa using h) 12 (by simp)) (by rw [hS]; decide)), (fun h => absurd (c15 (c16 (by simpa using h)) 12 (by simp)) (by rw [hS]; decide)), (fun h => f17 (by simpa using h)), (fun h h' => d0 (by simpa using h) (by simpa using h')), (fun h h' => d1 (by simpa using h) (by simpa using h')), (fun h h' => d2 (by simpa using h) (by simpa using h')), (fun h _ => (apart_ge (f1 (by simpa using h)) (slice_ge _ _ _ _ (Nat.le_refl _))).symm), (fun h i hi => by have := c15 (by simpa using h) i hi; simp [this]), (fun h => by have := c16 (by simpa using h); simp [this]), (fun h => by have := c17 (by simpa using h); simp [this])⟩
      | 13, _ =>
        simp only [List.getElem?_toArray, List.getElem?_cons_zero, List.getElem?_cons_succ, Option.some.injEq] at ho
        subst ho
        refine wpOp_of rfl rfl ?_
        unfold Oper.wp
        go_simp
        exact ⟨_, _, _, _, _, _, _, _, _, _, _, _, _, _, _, _, _, _, rfl, hb, (fun h => f0 (by simpa using h)), (fun h => f1 (by simpa using h)), (fun h => f2 (by simpa using h)), (fun h => f3 (by simpa using h)), (fun h => f4 (by simpa using h)), (fun h => f5 (by simpa using h)), (fun h => f6 (by simpa using h)), (fun h => f7 (by simpa using h)), (fun h => f8 (by simpa using h)), (fun h => f9 (by simpa using h)), (fun h => f10 (by simpa using h)), (fun h => f11 (by simpa using h)), (fun h => f12 (by simpa using h)), (fun _ => rfl), (fun h => f14 (by simpa using h)), (fun h => f15 (by simpa using h)), (fun h => f16 (by simpa using h)), (fun h => f17 (by simpa using h)), (fun h h' => d0 (by simpa using h) (by simpa using h')), (fun h h' => d1 (by simpa using h) (by simpa using h')), (fun h h' => d2 (by simpa using h) (by simpa using h')), (fun h h' => d3 (by simpa using h) (by simpa using h')), (fun h i hi => by have := c15 (by simpa using h) i hi; simp [this]), (fun h => by have := c16 (by simpa using h); simp [this]), (fun h => by have := c17 (by simpa using h); simp [this])⟩
      | 14, _ =>
        simp only [List.getElem?_toArray, List.getElem?_cons_zero, List.getElem?_cons_succ, Option.some.injEq] at ho
        subst ho
        have g13 := f13 (hd ⟨13, Ground.data⟩ (by simp) rfl)
        subst g13
        refine wpOp_of rfl rfl ?_
        unfold Oper.wp
        have hz := hmk14
        go_simp
        have hg : Below w1.heap.size w1 (w1.alloc (.cells (madeCells #[.bool false] n) 4)) := (Below.refl _ _).alloc (Nat.le_refl _) _
        exact ⟨_, _, _, _, _, _, _, _, _, _, _, _, _, _, _, _, _, _, rfl, hb.trans (hg.mono hb.size), (fun h => f0 (by simpa using h)), (fun h => own_below (f1 (by simpa using h)) hg), (fun h => f2 (by simpa using h)), (fun h => own_below (f3 (by simpa using h)) hg), (fun h => f4 (by simpa using h)), (fun h => own_below (f5 (by simpa using h)) hg), (fun h => f6 (by simpa using h)), (fun h => own_below (f7 (by simpa using h)) hg), (fun h => f8 (by simpa using h)), (fun h => f9 (by simpa using h)), (fun h => f10 (by simpa using h)), (fun h => f11 (by simpa using h)), (fun h => own_below (f12 (by simpa using h)) hg), (fun h => f13 (by simpa using h)), (fun _ => own_made w1 w.heap.size 4 (.bool false) n hb.size (by omega)), (fun h => absurd (c15 (by simpa using h) 14 (by simp)) (by rw [hS]; decide)), (fun h => absurd (c15 (c16 (by simpa using h)) 14 (by simp)) (by rw [hS]; decide)), (fun h => f17 (by simpa using h)), (fun h h' => d0 (by simpa using h) (by simpa using h')), (fun h h' => d1 (by simpa using h) (by simpa using h')), (fun h h' => d2 (by simpa using h) (by simpa using h')), (fun h h' => d3 (by simpa using h) (by simpa using h')), (fun h i hi => by have := c15 (by simpa using h) i hi; simp [this]), (fun h => by have := c16 (by simpa using h); simp [this]), (fun h => by have := c17 (by simpa using h); simp [this])⟩
      | 15, _ =>
        simp only [List.getElem?_toArray, List.getElem?_cons_zero, List.getElem?_cons_succ, Option.some.injEq] at ho
        subst ho
        have hs1 := hd ⟨1, Ground.data⟩ (by simp) rfl
        have g1 := f1 (hd ⟨1, Ground.data⟩ (by simp) rfl)
        obtain ⟨_, _, rfl⟩ := own_form g1 (by omega)
        have hs3 := hd ⟨3, Ground.data⟩ (by simp) rfl
        have g3 := f3 (hd ⟨3, Ground.data⟩ (by simp) rfl)
        obtain ⟨_, _, rfl⟩ := own_form g3 (by omega)
        have hs5 := hd ⟨5, Ground.data⟩ (by simp) rfl
        have g5 := f5 (hd ⟨5, Ground.data⟩ (by simp) rfl)
        obtain ⟨_, _, rfl⟩ := own_form g5 (by omega)
        have hs7 := hd ⟨7, Ground.data⟩ (by simp) rfl
        have g7 := f7 (hd ⟨7, Ground.data⟩ (by simp) rfl)
        obtain ⟨_, _, rfl⟩ := own_form g7 (by omega)
        have hs12 := hd ⟨12, Ground.data⟩ (by simp) rfl
        have g12 := f12 (hd ⟨12, Ground.data⟩ (by simp) rfl)
        obtain ⟨_, _, rfl⟩ := own_form g12 (by unfold thr; omega)
        have hs14 := hd ⟨14, Ground.data⟩ (by simp) rfl
        have g14 := f14 (hd ⟨14, Ground.data⟩ (by simp) rfl)
        obtain ⟨_, _, rfl⟩ := own_form g14 (by omega)
        refine wpOp_of rfl rfl ?_
        unfold Oper.wp
        go_simp
        exact ⟨_, _, _, _, _, _, _, _, _, _, _, _, _, _, _, _, _, _, rfl, hb, (fun h => f0 (by simpa using h)), (fun h => f1 (by simpa using h)), (fun h => f2 (by simpa using h)), (fun h => f3 (by simpa using h)), (fun h => f4 (by simpa using h)), (fun h => f5 (by simpa using h)), (fun h => f6 (by simpa using h)), (fun h => f7 (by simpa using h)), (fun h => f8 (by simpa using h)), (fun h => f9 (by simpa using h)), (fun h => f10 (by simpa using h)), (fun h => f11 (by simpa using h)), (fun h => f12 (by simpa using h)), (fun h => f13 (by simpa using h)), (fun h => f14 (by simpa using h)), (fun _ => rfl), (fun h => f16 (by simpa using h)), (fun h => f17 (by simpa using h)), (fun h h' => d0 (by simpa using h) (by simpa using h')), (fun h h' => d1 (by simpa using h) (by simpa using h')), (fun h h' => d2 (by simpa using h) (by simpa using h')), (fun h h' => d3 (by simpa using h) (by simpa using h')), (fun _ i hi => by rcases hi with rfl | rfl | rfl | rfl | rfl | rfl <;> simp [hs1, hs3, hs5, hs7, hs12, hs14]), (fun h => by have := c16 (by simpa using h); simp [this]), (fun h => by have := c17 (by simpa using h); simp [this])⟩
      | 16, _ =>
        simp only [List.getElem?_toArray, List.getElem?_cons_zero, List.getElem?_cons_succ, Option.some.injEq] at ho
        subst ho
        have hs15 := hd ⟨15, Ground.data⟩ (by simp) rfl
        have g15 := f15 (hd ⟨15, Ground.data⟩ (by simp) rfl)
        subst g15
        refine wpOp_of rfl rfl ?_
        unfold Oper.wp
        go_simp
        have hg : Below w1.heap.size w1 (w1.alloc (.cells #[x19, x21, x23, x25, x30, x32, .int .i64 0] 67)) := (Below.refl _ _).alloc (Nat.le_refl _) _
        exact ⟨_, _, _, _, _, _, _, _, _, _, _, _, _, _, _, _, _, _, rfl, hb.trans (hg.mono hb.size), (fun h => f0 (by simpa using h)), (fun h => own_below (f1 (by simpa using h)) hg), (fun h => f2 (by simpa using h)), (fun h => own_below (f3 (by simpa using h)) hg), (fun h => f4 (by simpa using h)), (fun h => own_below (f5 (by simpa using h)) hg), (fun h => f6 (by simpa using h)), (fun h => own_below (f7 (by simpa using h)) hg), (fun h => f8 (by simpa using h)), (fun h => f9 (by simpa using h)), (fun h => f10 (by simpa using h)), (fun h => f11 (by simpa using h)), (fun h => own_below (f12 (by simpa using h)) hg), (fun h => f13 (by simpa using h)), (fun h => own_below (f14 (by simpa using h)) hg), (fun _ => rfl), (fun _ => ⟨w1.heap.size, rfl, hb.size, heap_alloc_new w1 _⟩), (fun h => absurd (c17 (by simpa using h)) (by rw [hS]; decide)), (fun h h' => d0 (by simpa using h) (by simpa using h')), (fun h h' => d1 (by simpa using h) (by simpa using h')), (fun h h' => d2 (by simpa using h) (by simpa using h')), (fun h h' => d3 (by simpa using h) (by simpa using h')), (fun h i hi => by have := c15 (by simpa using h) i hi; simp [this]), (fun _ => by simp [hs15]), (fun h => by have := c17 (by simpa using h); simp [this])⟩
      | 17, _ =>
        simp only [List.getElem?_toArray, List.getElem?_cons_zero, List.getElem?_cons_succ, Option.some.injEq] at ho
        subst ho
        have hs16 := hd ⟨16, Ground.data⟩ (by simp) rfl
        have g16 := f16 (hd ⟨16, Ground.data⟩ (by simp) rfl)
        obtain ⟨r16, rfl, _⟩ := g16
        refine wpOp_of rfl rfl ?_
        unfold Oper.wp
        go_simp
        exact ⟨_, _, _, _, _, _, _, _, _, _, _, _, _, _, _, _, _, _, rfl, hb, (fun h => f0 (by simpa using h)), (fun h => f1 (by simpa using h)), (fun h => f2 (by simpa using h)), (fun h => f3 (by simpa using h)), (fun h => f4 (by simpa using h)), (fun h => f5 (by simpa using h)), (fun h => f6 (by simpa using h)), (fun h => f7 (by simpa using h)), (fun h => f8 (by simpa using h)), (fun h => f9 (by simpa using h)), (fun h => f10 (by simpa using h)), (fun h => f11 (by simpa using h)), (fun h => f12 (by simpa using h)), (fun h => f13 (by simpa using h)), (fun h => f14 (by simpa using h)), (fun _ => rfl), (fun h => f16 (by simpa using h)), (fun _ => rfl), (fun h h' => d0 (by simpa using h) (by simpa using h')), (fun h h' => d1 (by simpa using h) (by simpa using h')), (fun h h' => d2 (by simpa using h) (by simpa using h')), (fun h h' => d3 (by simpa using h) (by simpa using h')), (fun h i hi => by have := c15 (by simpa using h) i hi; simp [this]), (fun h => by have := c16 (by simpa using h); simp [this]), (fun _ => by simp [hs16])⟩
    · intro S a w1 hI hall
      obtain ⟨x18, x19, x20, x21, x22, x23, x24, x25, x26, x27, x28, x29, x30, x31, x32, x33, x34, x7, rfl, hb, f0, f1, f2, f3, f4, f5, f6, f7, f8, f9, f10, f11, f12, f13, f14, f15, f16, f17, d0, d1, d2, d3, c15, c16, c17⟩ := hI
      have hal : ∀ i, i < 18 → S i = true := fun i hi => hall i (by simpa using hi)
      obtain ⟨r, g16, g16', g16''⟩ := f16 (hal 16 (by omega))
      have g17 := f17 (hal 17 (by omega))
      obtain ⟨lab, L, hLr, hN⟩ := new_start (wk := wk) lab0 k hk (f1 (hal 1 (by omega))) (f3 (hal 3 (by omega))) (f5 (hal 5 (by omega))) (f7 (hal 7 (by omega))) (f12 (hal 12 (by omega))) (f14 (hal 14 (by omega))) g16' g16'' (d0 (hal 3 (by omega)) (hal 5 (by omega))) (d1 (hal 3 (by omega)) (hal 7 (by omega))) (d2 (hal 5 (by omega)) (hal 7 (by omega))) (d3 (hal 1 (by omega)) (hal 12 (by omega))) hb
      have HN := Lib.hid hN
      have HP := Lib.hid (show x7 = .pointer (some ⟨L.r, 0, none⟩) by rw [g17, g16, hLr])
      clear c15 c16 c17 f0 f1 f2 f3 f4 f5 f6 f7 f8 f9 f10 f11 f12 f13 f14 f15 f16 f17 d0 d1 d2 d3 hb hal hall g16 g16' g16'' g17 hN hLr hmk1 hmk3 hmk5 hmk12 hmk14
      go_wp2_with fail
      go_meet
      case rel => exact ⟨lab, L, HP.out, HN.out⟩
  case rest =>
    obtain ⟨lab, L, rfl, hN⟩ := hcut.out
    have HN := Lib.hid hN
    have HA := Lib.hid ha
    obtain ⟨rr, hrr⟩ : ∃ rr, rr = L.r := ⟨_, rfl⟩
    rw [← hrr]
    have HRR := Lib.hid hrr.symm
    clear hN ha hcut hrr
    go_wp2_with fail
    go_loopw [37] (fun i wr => ∃ j : Nat, j ≤ n ∧ i = .int .i64 j ∧ Hid (∃ lab L, L.r = rr ∧ NewAt w wr lab0 lab k L (dNew n (thr wk) f j)) ∧ Hid (∀ i, 0 < i → i < j → 0 ≤ f i ∧ f i < i)) (fun i _ => n - (intOf i).toNat)
    case atStart => exact ⟨0, Nat.zero_le _, rfl, ⟨lab, L, HRR.out, HN.out⟩, fun i _ hi => absurd hi (by omega)⟩
    case round =>
      clear HRR HN
      obtain ⟨j, hj, rfl, hN, hok⟩ := hrel
      by_cases hlt : j < n
      · obtain ⟨b, off, rfl, hbl, hcx⟩ := HA.out (by omega)
        obtain ⟨lab, L, hLr, hN2⟩ := hN.out
        have k1 := (hN2.bel.cell (p := ⟨b, off + j, none⟩) hbl).trans (hcx j hlt)
        clear hcx hN
        have HN2 := Lib.hid hN2
        have HLr := Lib.hid hLr
        clear hN2 hLr
        by_cases hj0 : j = 0
        · subst hj0
          have hN3 : Hid (∃ lab L, L.r = rr ∧ NewAt w wr lab0 lab k L (dNew n (thr wk) f 1)) := ⟨lab, L, HLr.out, by rw [dNew_one]; exact HN2.out⟩
          have k2 : wr.cell? ⟨b, off, none⟩ = some (.int .i64 (f 0)) := k1
          clear HN2 k1
          go_wp2_with fail
          go_roundw
          case rel => exact ⟨1, by omega, rfl, hN3, fun i h1 h2 => absurd h2 (by omega)⟩
          case measure => simp [intOf]; omega
        · by_cases hbad : f j < 0 ∨ (j : Int) ≤ f j
          · have HB : Hid (NewOut w lab0 k n (thr wk) f (.returned (.tuple #[.pointer none, .int .i64 2])) wr) := .inr ⟨fun h => by have := h j (by omega) hlt; omega, rfl, HN2.out.bel⟩
            have e0 : ((j : Int) == 0) = false := by simp; omega
            clear HN2
            rcases hbad with hbad | hbad
            · go_wp2_with fail
              go_ret2
              exact HB.out
            · go_wp2_with fail
              go_ret2
              exact HB.out
          · have e0 : ((j : Int) == 0) = false := by simp; omega
            obtain ⟨p, hp⟩ := Int.eq_ofNat_of_zero_le (show 0 ≤ f j by omega)
            have hpj : p < j := by omega
            have hok' : Hid (∀ i, 0 < i → i < j + 1 → 0 ≤ f i ∧ f i < i) := fun i h1 h2 => by
              by_cases e : i = j
              · subst e; omega
              · exact hok.out i h1 (by omega)
            rw [hp] at k1
            have HP := Lib.hid hp
            clear hp hbad hok
            obtain ⟨gc, cc, hvc, _, _, hgc, c4⟩ := HN2.out.run.chs hn1
            obtain ⟨f0, _⟩ := HN2.out.run.fields
            rw [HLr.out, hvc] at f0
            have c5 := c4 p (show p < n by omega)
            obtain ⟨Ak, ck, hAk⟩ := HN2.out.run.kids (show p < n by omega)
            have hown := HN2.out.run.cs p (show p < n by omega)
            rw [hAk] at c5 hown
            have hlen : ((dNew n (thr wk) f j).ch p).length ≤ j := by
              have := List.length_filter_le (fun i => decide (0 < i) && decide (f i = (p : Int))) (List.range j)
              simpa [dNew] using this
            change wr.cell? ⟨rr, 0, none⟩ = some (.slice (some ⟨gc, 0, none⟩) n cc) at f0
            change L.vch = .slice (some ⟨gc, 0, none⟩) n cc at hvc
            generalize hmm : ((dNew n (thr wk) f j).ch p).length = m at *
            have hrl : rr < wr.heap.size := by rw [← HLr.out]; exact HN2.out.run.rlt
            have kA0 : ∀ o, (wr.alloc o).cell? ⟨rr, 0, none⟩ = some (.slice (some ⟨gc, 0, none⟩) n cc) := fun o => (World.cell?_alloc_lt _ _ _ hrl).trans f0
            have kA6 : ∀ o, (wr.alloc o).cell? ⟨gc, p, none⟩ = some (.slice Ak m ck) := fun o => (World.cell?_alloc_lt _ _ _ hgc).trans c5
            have HVC := Lib.hid hvc
            have HAK := Lib.hid hAk
            have HOWN := Lib.hid hown
            have Hmm := Lib.hid hmm
            clear hvc hAk hown hmm c4 hgc hrl
            have hpn : p < n := by omega
            obtain ⟨i0, hi, hz0, hz1, hz2⟩ := info_parts info3
            go_upto_region 8 with (fail)
            go_region_law (refine step_app1 rfl (.tmp 53) (.tmp 55) 22 rfl 0 3 i0 (.int .i64 0) 8 Try.underlying22 hi hz0 hz1 hz2 rfl (by decide) (.slice Ak m ck) m (intl ((dNew n (thr wk) f j).ch p)) (by simp [Act.eval]) (own_congr HOWN.out (fun b hb => Below.heap_alloc _ _ _ (own_lt HOWN.out hb))) ⟨wr.heap.size, 0, none⟩ (.int .i64 j) (by simp [Act.eval]) (cell_new1 _ _ _) rfl (by omega) (Nat.zero_le _) ?_; intro v' w' ho' hg' hat'; obtain ⟨k4, k6, e6⟩ := kidFacts HN2.out.run (show p < n by omega) HAK.out HVC.out hg'; rw [HLr.out] at k4; change w'.cell? ⟨rr, 0, none⟩ = some (.slice (some ⟨gc, 0, none⟩) n cc) at k4; obtain ⟨g', c', hv'⟩ := own_pos ho'; subst hv'; have HO' := Lib.hid ho'; have HG' := Lib.hid hg'; have HAT := Lib.hid hat'; clear ho' hg' hat')
            all_goals
              have hN3 : Hid (∃ lab L, L.r = rr ∧ NewAt w (w'.setCell ⟨gc, p, none⟩ (.slice (some ⟨g', 0, none⟩) (m + 1) c')) lab0 lab k L (dNew n (thr wk) f (j + 1))) := by
                obtain ⟨lab', h'⟩ := HN2.out.add (by omega) HP.out (by omega) (by rw [HAK.out]; exact HG'.out) HVC.out (.slice (some ⟨g', 0, none⟩) (m + 1) c') Hmm.out HO'.out (by rw [HAK.out]; have := HAT.out; simpa using this)
                exact ⟨lab', { L with vc := fun q => if q = p then .slice (some ⟨g', 0, none⟩) (m + 1) c' else L.vc q }, HLr.out, h'⟩
              clear HO' HG' HAT HN2 HAK HVC HOWN kA0 kA6 f0 c5 k4 k6 e6
              go_wp2_with fail
              go_roundw
              case rel => exact ⟨j + 1, by omega, by go_num, hN3, hok'⟩
              case measure => simp [intOf]; omega
      · have hjn : j = n := by omega
        subst hjn
        obtain ⟨lab, L, hLr, hN2⟩ := hN.out
        obtain ⟨gs, cs, hvs, s1, _, hgs, s4, s5⟩ := hN2.run.stacks (by show 1 ≤ thr wk; unfold thr; omega)
        obtain ⟨go, co, hvo, o1, _, hgo, o4, o5⟩ := hN2.run.ops hn1
        obtain ⟨_, _, _, _, f4, f5, _⟩ := hN2.run.fields
        rw [hLr, hvs] at f4
        rw [hLr, hvo] at f5
        have hT := thr_ge wk
        have s6 := s4 0 (show 0 < thr wk by omega)
        have s7 := s5 0
        have o6 := o4 0 (show 0 < j by omega)
        have o7 := o5 0
        change wr.cell? ⟨rr, 4, none⟩ = some (.slice (some ⟨gs, 0, none⟩) (thr wk) cs) at f4
        change wr.cell? ⟨rr, 5, none⟩ = some (.slice (some ⟨go, 0, none⟩) j co) at f5
        have hrl : rr < wr.heap.size := by rw [← hLr]; exact hN2.run.rlt
        have HN2 := Lib.hid hN2
        have HVS := Lib.hid hvs
        have HVO := Lib.hid hvo
        have HLr := Lib.hid hLr
        have kA4 : ∀ o, (wr.alloc o).cell? ⟨rr, 4, none⟩ = some (.slice (some ⟨gs, 0, none⟩) (thr wk) cs) := fun o => (World.cell?_alloc_lt _ _ _ hrl).trans f4
        have kA6 : ∀ o, (wr.alloc o).cell? ⟨gs, 0, none⟩ = some (L.vs 0) := fun o => (World.cell?_alloc_lt _ _ _ hgs).trans s6
        have kA7 : ∀ o, (wr.alloc o).frozen? ⟨gs, 0, none⟩ = false := fun o => (World.frozen?_alloc_old _ _ _ (by show gs ≠ _; omega)).trans s7

        have ne2 : gs ≠ go := fun e => own_ne HN2.out.run.st HN2.out.run.op (by decide) (g := gs) (by rw [hvs]; rfl) (by rw [hvo, e]; rfl)
        have hX := World.setCell_alloc_past (w := wr) (.cells #[.int .i64 0] 3) gs 0 (.slice (some ⟨wr.heap.size, 0, none⟩) 1 1) hgs
        have m5 : ((wr.setCell ⟨gs, 0, none⟩ (.slice (some ⟨wr.heap.size, 0, none⟩) 1 1)).alloc (.cells #[.int .i64 0] 3)).cell? ⟨rr, 5, none⟩ = some (.slice (some ⟨go, 0, none⟩) j co) := by
          rw [World.cell?_alloc_lt _ _ _ (by rw [World.size_setCell]; exact hrl), World.cell?_setCell_other _ _ _ _ (by intro e; cases e)]; exact f5
        have m6 : ((wr.setCell ⟨gs, 0, none⟩ (.slice (some ⟨wr.heap.size, 0, none⟩) 1 1)).alloc (.cells #[.int .i64 0] 3)).cell? ⟨go, 0, none⟩ = some (.bool ((dNew j (thr wk) f j).opn 0)) := by
          rw [World.cell?_alloc_lt _ _ _ (by rw [World.size_setCell]; exact hgo), World.cell?_setCell_other _ _ _ _ (fun e => ne2 (by cases e; rfl))]; exact o6
        have m7 : ((wr.setCell ⟨gs, 0, none⟩ (.slice (some ⟨wr.heap.size, 0, none⟩) 1 1)).alloc (.cells #[.int .i64 0] 3)).frozen? ⟨go, 0, none⟩ = false := by
          rw [World.frozen?_alloc_old _ _ _ (by rw [World.size_setCell]; show go ≠ _; omega), World.frozen?_setCell]; exact o7
        have HX := Lib.hid hX
        clear hN2 hvs hvo hLr s4 s5 o4 o5 hX ne2
        go_upto_region 14 with (fail)
        clear f4 f5 s6 s7 o6 o7 kA4 kA6 kA7
        have HF : Hid (NewOut w lab0 k j (thr wk) f (.returned (.tuple #[.pointer (some ⟨rr, 0, none⟩), .int .i64 0])) (((wr.setCell ⟨gs, 0, none⟩ (.slice (some ⟨wr.heap.size, 0, none⟩) 1 1)).alloc (.cells #[.int .i64 0] 3)).setCell ⟨go, 0, none⟩ (.bool true))) := by
          obtain ⟨lab', L', e1, e2, e3, e4, e5⟩ := HN2.out.fin H0.out HVS.out HVO.out
          rw [HX.out] at e2 e3
          exact .inl ⟨fun c h1 h2 => hok.out c h1 h2, lab', L', by rw [e1, HLr.out], e2, e3, e4, e5⟩
        clear HX HN2 HVS HVO HLr
        generalize (wr.setCell ⟨gs, 0, none⟩ (.slice (some ⟨wr.heap.size, 0, none⟩) 1 1)).alloc (.cells #[.int .i64 0] 3) = X at *
        have HRl : Hid (∃ o, X.cell? ⟨rr, 5, none⟩ = o) := ⟨_, rfl⟩
        go_wp2_with fail
        go_ret2
        exact HF.out
end Go.Proofs.Ytlncdkdkoamadaa
