/-
  THE WALK of the law CodeKnown.
-/
import Derived.Test.YtcelcognmdcenaaL4a
import Derived.Test.YtcelcognmdcenaaReg
import Derived.Test.YtcelcognmdcenaaL8
namespace Go.Proofs.Ytcelcognmdcenaa
open Go.RowKit

/-- The copies and their variables. -/
def Kn11 (w3 wx : World) (a b c : Value) : Prop := ∃ (M N K : UnV) (g7 g8 g9 : Nat), a = .pointer (some ⟨g7, 0, none⟩) ∧ b = .pointer (some ⟨g8, 0, none⟩) ∧ c = .pointer (some ⟨g9, 0, none⟩) ∧ w3.heap.size ≤ g7 ∧ w3.heap.size ≤ g8 ∧ w3.heap.size ≤ g9 ∧ g7 ≠ g8 ∧ g7 ≠ g9 ∧ g8 ≠ g9 ∧
  wx.heap[g7]? = some (.cells (M.cells exU) 28 (0, 0)) ∧ wx.heap[g8]? = some (.cells (N.cells exU) 28 (0, 0)) ∧ wx.heap[g9]? = some (.cells (K.cells exU) 28 (0, 0)) ∧ UnOwn w3.heap.size wx M exU ∧ UnOwn w3.heap.size wx N exU ∧ UnOwn w3.heap.size wx K exU ∧
  Apart (.slice M.P exU.pts.length M.c) (.slice N.P exU.pts.length N.c) ∧ Apart (.slice N.P exU.pts.length N.c) (.slice K.P exU.pts.length K.c) ∧ Below w3.heap.size w3 wx
theorem kn_own {B : Nat} {w w' : World} {L : UnV} {u : Un} (h : UnOwn B w L u) (hb : Below w.heap.size w w') : UnOwn B w' L u := h.congr fun g _ h2 _ => hb.block g h2
theorem kn_base {B B' : Nat} {w : World} {L : UnV} {u : Un} (h : UnOwn B w L u) (hb : B' ≤ B) : UnOwn B' w L u := ⟨own_base h.pts hb, h.l.base hb, h.r.base hb, h.b.base hb⟩
theorem kn_far {B b : Nat} {w w' : World} {L : UnV} {u : Un} {cs : Array Value} (h : UnOwn B w L u) (hblk : w.heap[b]? = some (.cells cs 28 (0, 0))) (hfar : ∀ g, g ≠ b → w'.heap[g]? = w.heap[g]?) : UnOwn B w' L u := h.congr fun g _ _ ⟨cs', T, h3, h4⟩ => hfar g (fun e => by
  rw [e, hblk] at h3
  injection h3 with h3
  injection h3 with _ ht
  subst ht
  rcases h4 with h4 | h4 | h4 <;> exact absurd h4 (by decide))
theorem wp_store_box {op : Oper} {a : Act} {w : World} {K : Act → World → Prop} {Q : Exit → Act → World → Prop} (x y : Operand) (ho : op.op = .store 28 x y) (B : Nat) (L : UnV) (u : Un) (hx : a.eval x = .pointer (some ⟨B, 0, none⟩)) (hy : a.eval y = L.val u)
    {b0 b1 b2 b3 b4 b5 b6 b7 b8 b9 b10 b11 b12 b13 b14 : Value} (hblk : w.heap[B]? = some (.cells #[b0, b1, b2, b3, b4, b5, b6, b7, b8, b9, b10, b11, b12, b13, b14] 28 (0, 0)))
    (h : ∀ w', w'.heap[B]? = some (.cells (L.cells u) 28 (0, 0)) → (∀ g, g ≠ B → w'.heap[g]? = w.heap[g]?) → w'.heap.size = w.heap.size → (∀ B0 w0, Below B0 w0 w → B0 ≤ B → Below B0 w0 w') → K (a.put op.dst undef) w') : op.wp Try.prog a w K Q := by
  refine wp_store_mid 28 x y ho B 0 (L.cells u) hx hy (fun j hj => ?_) info28s (by unfold UnV.cells; simp [Value.oneCell']) ?_
  · rw [Nat.zero_add, cell_of_row w B j _ 28 (0, 0) hblk, frozen_of_row w B j _ 28 hblk]
    have hj : j < 15 := hj
    exact ⟨by simp [hj], rfl⟩
  · exact h _ (set15_blk hblk) (fun g hg => set15_far hg) set15_size (fun B0 w0 hb hB => set15_below hb hB)
theorem wp_alloc_box {op : Oper} {a : Act} {w : World} {K : Act → World → Prop} {Q : Exit → Act → World → Prop} (ho : op.op = .alloc 28) (h : K (a.put op.dst (.pointer (some ⟨w.heap.size, 0, none⟩))) (w.alloc (.cells #[.int .i64 0, .int .i64 0, .slice none 0 0, .int .i64 0, .int .i64 0, .slice none 0 0, .slice none 0 0, .int .i64 0, .int .i64 0, .slice none 0 0, .slice none 0 0, .int .i64 0, .int .i64 0, .slice none 0 0, .slice none 0 0] 28))) : op.wp Try.prog a w K Q := by
  obtain ⟨dst, o, ty, pos, after, guard⟩ := op
  simp only at ho
  subst ho
  unfold Oper.wp
  go_simp
  exact h
/-- Its neighbours that may not be. -/
def exZ : Un := { exU with k1 := 0 }
def exF : Un := { exU with pts := [(17, 1)] }
def exN : Un := { exU with left := { pone with outs := [] } }
/-- The first one's first split count is 0. -/
def Kn4 (w3 w4 : World) (M N K : UnV) (g7 g8 g9 : Nat) : Prop := w4.heap[g7]? = some (.cells (M.cells exZ) 28 (0, 0)) ∧ w4.heap[g8]? = some (.cells (N.cells exU) 28 (0, 0)) ∧ w4.heap[g9]? = some (.cells (K.cells exU) 28 (0, 0)) ∧ UnOwn w3.heap.size w4 M exZ ∧ UnOwn w3.heap.size w4 N exU ∧ UnOwn w3.heap.size w4 K exU ∧ Below w3.heap.size w3 w4
theorem kn_one {w3 wc : World} {M N K : UnV} {g7 g8 g9 : Nat} (l7 : w3.heap.size ≤ g7) (n78 : g7 ≠ g8) (n79 : g7 ≠ g9) (b7 : wc.heap[g7]? = some (.cells (M.cells exU) 28 (0, 0))) (b8 : wc.heap[g8]? = some (.cells (N.cells exU) 28 (0, 0))) (b9 : wc.heap[g9]? = some (.cells (K.cells exU) 28 (0, 0)))
    (oM : UnOwn w3.heap.size wc M exU) (oN : UnOwn w3.heap.size wc N exU) (oK : UnOwn w3.heap.size wc K exU) (hb : Below w3.heap.size w3 wc) : Kn4 w3 (wc.setCell ⟨g7, 0, none⟩ (.int .i64 0)) M N K g7 g8 g9 := by
  have hM := kn_far oM b7 (fun g hg => set_blk (i := 0) (.int .i64 0) hg)
  exact ⟨blk_set b7 0 _, (set_blk _ (fun e => n78 e.symm)).trans b8, (set_blk _ (fun e => n79 e.symm)).trans b9, ⟨hM.pts, hM.l, hM.r, hM.b⟩, kn_far oN b7 (fun g hg => set_blk _ hg), kn_far oK b7 (fun g hg => set_blk _ hg), hb.setCell (p := ⟨g7, 0, none⟩) l7 _⟩
def Kn5 (w3 w4 : World) (M N K : UnV) (g7 g8 g9 : Nat) : Prop := w4.heap[g7]? = some (.cells (M.cells exZ) 28 (0, 0)) ∧ w4.heap[g8]? = some (.cells (N.cells exF) 28 (0, 0)) ∧ w4.heap[g9]? = some (.cells (K.cells exU) 28 (0, 0)) ∧ UnOwn w3.heap.size w4 M exZ ∧ UnOwn w3.heap.size w4 N exF ∧ UnOwn w3.heap.size w4 K exU ∧ Below w3.heap.size w3 w4
theorem kn_pr {B b B2 gp n : Nat} {w : World} {L : PrV} {p : Pr} {v : Value} {xs : List Value} (hp : w.ownsRow B2 48 2 v n xs) (hv : v.ownBlock = some gp) (u : Value) (h : PrOwn B w L p) : PrOwn B (w.setCell ⟨gp, b, none⟩ u) L p :=
  ⟨set_own h.code _ (own_ne hp h.code (by decide) hv), set_own h.outs _ (own_ne hp h.outs (by decide) hv)⟩
theorem kn_two {w3 w4 : World} {M N K : UnV} {g7 g8 g9 gp : Nat} (hN : N.P = some ⟨gp, 0, none⟩) (aMN : Apart (.slice M.P exU.pts.length M.c) (.slice N.P exU.pts.length N.c)) (aNK : Apart (.slice N.P exU.pts.length N.c) (.slice K.P exU.pts.length K.c)) (h : Kn4 w3 w4 M N K g7 g8 g9) : Kn5 w3 (w4.setCell ⟨gp, 0, none⟩ (.int .i64 17)) M N K g7 g8 g9 := by
  obtain ⟨b7, b8, b9, oM, oN, oK, hb⟩ := h
  have hv : (Value.slice N.P exU.pts.length N.c).ownBlock = some gp := by rw [hN]; rfl
  have ne : ∀ {g : Nat} {cs : Array Value}, w4.heap[g]? = some (.cells cs 28 (0, 0)) → g ≠ gp := fun hg e => own_blk_ne oN.pts hg (by decide) (by rw [hv, e])
  have hs := (show w4.ownsRow w3.heap.size 48 2 (.slice (some ⟨gp, 0, none⟩) exU.pts.length N.c) exU.pts.length (vP exU.pts) from by have := oN.pts; rw [hN] at this; exact this).stored 0 (.int .i64 17)
  refine ⟨(set_blk _ (ne b7)).trans b7, (set_blk _ (ne b8)).trans b8, (set_blk _ (ne b9)).trans b9, ⟨set_own oM.pts _ (fun e => aMN gp e hv), kn_pr oN.pts hv _ oM.l, kn_pr oN.pts hv _ oM.r, kn_pr oN.pts hv _ oM.b⟩, ⟨?_, kn_pr oN.pts hv _ oN.l, kn_pr oN.pts hv _ oN.r, kn_pr oN.pts hv _ oN.b⟩, ⟨set_own oK.pts _ (fun e => aNK gp hv e), kn_pr oN.pts hv _ oK.l, kn_pr oN.pts hv _ oK.r, kn_pr oN.pts hv _ oK.b⟩, hb.setCell (p := ⟨gp, 0, none⟩) (oN.pts.lt gp hv).1 _⟩
  show (w4.setCell ⟨gp, 0, none⟩ (.int .i64 17)).ownsRow w3.heap.size 48 2 (.slice N.P 1 N.c) 1 (vP [(17, 1)])
  rw [hN]
  exact hs.1
/-- The third one's first program answers nothing. -/
def KN (K : UnV) : UnV := { K with l := { K.l with B := none, d := 0 } }
def Kn6 (w3 w4 : World) (M N K : UnV) (g7 g8 g9 : Nat) : Prop := w4.heap[g7]? = some (.cells (M.cells exZ) 28 (0, 0)) ∧ w4.heap[g8]? = some (.cells (N.cells exF) 28 (0, 0)) ∧ w4.heap[g9]? = some (.cells ((KN K).cells exN) 28 (0, 0)) ∧ UnOwn w3.heap.size w4 M exZ ∧ UnOwn w3.heap.size w4 N exF ∧ UnOwn w3.heap.size w4 (KN K) exN ∧ Below w3.heap.size w3 w4
theorem kn_three {w3 w4 : World} {M N K : UnV} {g7 g8 g9 : Nat} (l9 : w3.heap.size ≤ g9) (n79 : g7 ≠ g9) (n89 : g8 ≠ g9) (h : Kn5 w3 w4 M N K g7 g8 g9) : Kn6 w3 (w4.setCell ⟨g9, 6, none⟩ (.slice none 0 0)) M N K g7 g8 g9 := by
  obtain ⟨b7, b8, b9, oM, oN, oK, hb⟩ := h
  have hK := kn_far oK b9 (fun g hg => set_blk (i := 6) (.slice none 0 0) hg)
  exact ⟨(set_blk _ n79).trans b7, (set_blk _ n89).trans b8, blk_set b9 6 _, kn_far oM b9 (fun g hg => set_blk _ hg), kn_far oN b9 (fun g hg => set_blk _ hg), ⟨hK.pts, ⟨hK.l.code, World.ownsRow_nil _ _ _ _⟩, hK.r, hK.b⟩, hb.setCell (p := ⟨g9, 6, none⟩) l9 _⟩
theorem exZ_fault : exZ.fault = 2 := by decide +kernel
theorem exF_fault : exF.fault = 2 := by decide +kernel
theorem exN_fault : exN.fault = 80 := by decide +kernel
theorem exU_ne : exU ≠ exZ ∧ exU ≠ exF ∧ exN ≠ exU :=
  ⟨fun h => absurd (congrArg Un.k1 h) (by decide), fun h => absurd (congrArg Un.pts h) (by decide), fun h => absurd (congrArg (fun u => u.left.outs) h) (by decide)⟩
theorem kn_enc {u : Un} {L : UnV} {w : World} {n : Nat} (hn : u.fault = n) (h0 : n ≠ 0) (h : UnIn w L u) : Calls Try.prog 12 #[L.val u] w fun e w' => e = .returned (.tuple #[.slice none 0 0, .int .i64 (n : Nat)]) ∧ Below w.heap.size w w' := by
  have := encode12_no u L w h (by rw [hn]; exact h0)
  rwa [hn] at this
theorem kn_may {u : Un} {L : UnV} {w : World} {n : Nat} (hn : u.fault = n) (h : UnIn w L u) : Calls Try.prog 20 #[L.val u] w (MayOut w n) := by
  have := may20 u L w h
  rwa [hn] at this
theorem exU_fits : exU.fits := by unfold Un.fits; decide

theorem zero_box {w : World} {B : Nat} (h : w.heap[B]? = some (.cells #[.int .i64 0, .int .i64 0, .slice none 0 0, .int .i64 0, .int .i64 0, .slice none 0 0, .slice none 0 0, .int .i64 0, .int .i64 0, .slice none 0 0, .slice none 0 0, .int .i64 0, .int .i64 0, .slice none 0 0, .slice none 0 0] 28 (0, 0))) : BoxAt w B (.agg #[.int .i64 0, .int .i64 0, .slice none 0 0, .int .i64 0, .int .i64 0, .slice none 0 0, .slice none 0 0, .int .i64 0, .int .i64 0, .slice none 0 0, .slice none 0 0, .int .i64 0, .int .i64 0, .slice none 0 0, .slice none 0 0]) := ⟨L0, u0, hz0.symm, h⟩

set_option maxRecDepth 100000 in
set_option maxHeartbeats 8000000 in
theorem known_law (w : World) : Calls Try.prog 4 #[] w (LawOut w) := by
  obtain ⟨i5, hif, hi0, hi1, hi2⟩ := info_parts info5
  have HC1 := Lib.hid (works10 w)
  go_enter Try.func4, Try.ntmps4
  go_wp2_with fail
  (with_reducible refine HC1.out.mono ?_)
  rintro e x1 ⟨rfl, hb⟩
  have HBL0 := Lib.hid hb
  have HC2 := Lib.hid (example15 x1)
  clear hb HC1
  go_wp2_with fail
  (with_reducible refine HC2.out.mono ?_)
  rintro e x2 ⟨L, A, cb, rfl, hu, ho, hb⟩
  obtain ⟨ga, cg, hA⟩ := Joins.ownsRow_form ho (by decide)
  have hA1 := (Value.slice.inj hA).1
  subst hA1
  have hcb : 29 ≤ cb ∧ cb ≤ maxLen := by
    obtain ⟨A', c', e, h1, h2⟩ := own_slice ho
    cases e; exact ⟨h1, h2⟩
  obtain ⟨hcb, hcm⟩ := hcb
  obtain ⟨w1, hw1⟩ : ∃ w1, w1 = x2.alloc (.cells (L.cells exU) 28) := ⟨_, rfl⟩
  have HB21 : Hid (Below x2.heap.size x2 w1) := Lib.hid (by rw [hw1]; exact below_a _ _)
  have HRD := Lib.hid ((Reads.of_own ho).below HB21.out)
  have HU := Lib.hid (hu.in.below HB21.out)
  have HQ1 : Hid (BoxAt w1 x2.heap.size (L.val exU)) := Lib.hid ⟨L, exU, rfl, by rw [hw1]; exact heap_alloc_new _ _⟩
  have HBW : Hid (Below w.heap.size w w1) := Lib.hid (HBL0.out.trans ((hb.trans (HB21.out.mono hb.size)).mono HBL0.out.size))
  have HW := Lib.hid hw1
  clear hA hu ho hb hw1 HC2
  unfold UnV.val at HQ1 ⊢
  unfold UnV.cells at HQ1 HW ⊢
  go_upto_region 4 with (fail)
  rw [← HW.out]
  obtain ⟨U, hU⟩ : ∃ U, Value.agg #[.int .i64 exU.k1, .int .i64 exU.k2, .slice L.P exU.pts.length L.c, .int .i64 exU.left.ins, .int .i64 exU.left.regs, .slice L.l.A exU.left.code.length L.l.c, .slice L.l.B exU.left.outs.length L.l.d, .int .i64 exU.right.ins, .int .i64 exU.right.regs, .slice L.r.A exU.right.code.length L.r.c, .slice L.r.B exU.right.outs.length L.r.d, .int .i64 exU.back.ins, .int .i64 exU.back.regs, .slice L.b.A exU.back.code.length L.b.c, .slice L.b.B exU.back.outs.length L.b.d] = U := ⟨_, rfl⟩
  rw [hU] at HQ1 ⊢
  have HUU := Lib.hid hU
  clear hU
  generalize hbs : exU.bytes = bs at *
  unfold maxLen at hcm
  have HBS := Lib.hid hbs
  clear hbs
  go_cut [44, 45, 46] from 24 to 46 (fun v n i wx => Hid (n = .int .i64 5 ∧ i = .int .i64 0 ∧ KTab w1 wx ga cb bs v))
  case first =>
    have HB0 := Lib.hid (Below.refl w1.heap.size w1).drew
    refine wp_region_inv (by kernel_rfl) (I4 w1 x2.heap.size ga cb U (.tuple #[U, .slice (some ⟨ga, 0, none⟩) 29 cb]) bs) ?_ ?_ ?_ ?_
    · exact ⟨_, _, _, _, _, _, _, _, _, _, _, _, _, _, _, _, _, _, _, _, _, _, _, rfl, HB0.out, (fun h => by cases h), (fun h => by cases h), (fun h => by cases h), (fun h => by cases h), (fun h _ => by cases h), (fun h _ => by cases h), (fun h => by cases h), (fun h => by cases h), (fun h => by cases h), (fun h => by cases h), (fun h => by cases h), (fun h => by cases h), (fun h => by cases h), (fun h _ => by cases h), (fun h _ => by cases h), (fun h _ => by cases h), (fun h => by cases h), (fun h => by cases h), (fun h => by cases h), (fun h => by cases h), (fun h => by cases h), (fun h => by cases h), (fun h => by cases h), (fun h _ _ => by cases h), (fun h _ _ => by cases h), (fun h _ _ => by cases h), (fun h _ _ => by cases h), (fun h _ _ => by cases h), (fun h _ _ => by cases h), (fun h => by cases h), (fun h => by cases h), (fun h => by cases h), (fun h => by cases h), (fun h => by cases h), (fun h => by cases h), (fun h => by cases h), (fun h => by cases h)⟩
    · intro i o ho e he
      have hi : i < 23 := by
        rcases Nat.lt_or_ge i 23 with h | h
        · exact h
        · rw [Array.getElem?_eq_none (by simpa using h)] at ho; cases ho
      revert e
      match i, hi with
      | 0, _ => (cases ho; decide)
      | 1, _ => (cases ho; decide)
      | 2, _ => (cases ho; decide)
      | 3, _ => (cases ho; decide)
      | 4, _ => (cases ho; decide)
      | 5, _ => (cases ho; decide)
      | 6, _ => (cases ho; decide)
      | 7, _ => (cases ho; decide)
      | 8, _ => (cases ho; decide)
      | 9, _ => (cases ho; decide)
      | 10, _ => (cases ho; decide)
      | 11, _ => (cases ho; decide)
      | 12, _ => (cases ho; decide)
      | 13, _ => (cases ho; decide)
      | 14, _ => (cases ho; decide)
      | 15, _ => (cases ho; decide)
      | 16, _ => (cases ho; decide)
      | 17, _ => (cases ho; decide)
      | 18, _ => (cases ho; decide)
      | 19, _ => (cases ho; decide)
      | 20, _ => (cases ho; decide)
      | 21, _ => (cases ho; decide)
      | 22, _ => (cases ho; decide)
    · intro S a wx i o hI ho hS hd
      obtain ⟨x24, x25, x26, x27, x28, x29, x30, x31, x32, x33, x34, x35, x36, x37, x38, x39, x40, x41, x42, x43, x44, x45, x46, rfl, hb, f0, f1, f2, f3, f4, f5, f6, f7, f8, f9, f10, f11, f12, f13, f14, f15, f16, f17, f18, f19, f20, f21, f22, d1, d2, d3, d4, d5, d6, c2, c7, c10, c13, c15, c18, c19, c20⟩ := hI
      have hi : i < 23 := by
        rcases Nat.lt_or_ge i 23 with h | h
        · exact h
        · rw [Array.getElem?_eq_none (by simpa using h)] at ho; cases ho
      match i, hi with
      | 0, _ =>
        simp only [List.getElem?_toArray, List.getElem?_cons_zero, Option.some.injEq] at ho
        subst ho
        refine wpOp_of rfl rfl ?_
        unfold Oper.wp
        go_simp
        exact ⟨_, _, _, _, _, _, _, _, _, _, _, _, _, _, _, _, _, _, _, _, _, _, _, rfl, hb, (fun _ => rfl), (fun h0 => f1 (by simpa using h0)), (fun h0 => f2 (by simpa using h0)), (fun h0 => f3 (by simpa using h0)), (fun h0 h1 => f4 (by simpa using h0) (by simpa using h1)), (fun h0 h1 => f5 (by simpa using h0) (by simpa using h1)), (fun h0 => f6 (by simpa using h0)), (fun h0 => f7 (by simpa using h0)), (fun h0 => f8 (by simpa using h0)), (fun h0 => f9 (by simpa using h0)), (fun h0 => f10 (by simpa using h0)), (fun h0 => f11 (by simpa using h0)), (fun h0 => f12 (by simpa using h0)), (fun h0 h1 => f13 (by simpa using h0) (by simpa using h1)), (fun h0 h1 => f14 (by simpa using h0) (by simpa using h1)), (fun h0 h1 => f15 (by simpa using h0) (by simpa using h1)), (fun h0 => f16 (by simpa using h0)), (fun h0 => f17 (by simpa using h0)), (fun h0 => f18 (by simpa using h0)), (fun h0 => f19 (by simpa using h0)), (fun h0 => f20 (by simpa using h0)), (fun h0 => f21 (by simpa using h0)), (fun h0 => f22 (by simpa using h0)), (fun h0 h1 h2 => d1 (by simpa using h0) (by simpa using h1) (by simpa using h2)), (fun h0 h1 h2 => d2 (by simpa using h0) (by simpa using h1) (by simpa using h2)), (fun h0 h1 h2 => d3 (by simpa using h0) (by simpa using h1) (by simpa using h2)), (fun h0 h1 h2 => d4 (by simpa using h0) (by simpa using h1) (by simpa using h2)), (fun h0 h1 h2 => d5 (by simpa using h0) (by simpa using h1) (by simpa using h2)), (fun h0 h1 h2 => d6 (by simpa using h0) (by simpa using h1) (by simpa using h2)), (fun h0 => by have := c2 (by simpa using h0); simp [this]), (fun h0 => by have := c7 (by simpa using h0); simp [this]), (fun h0 => by have := c10 (by simpa using h0); simp [this]), (fun h0 => by have := c13 (by simpa using h0); simp [this]), (fun h0 => by have := c15 (by simpa using h0); simp [this]), (fun h0 => by have := c18 (by simpa using h0); simp [this]), (fun h0 => by have := c19 (by simpa using h0); simp [this]), (fun h0 => by have := c20 (by simpa using h0); simp [this])⟩
      | 1, _ =>
        simp only [List.getElem?_toArray, List.getElem?_cons_zero, List.getElem?_cons_succ, Option.some.injEq] at ho
        subst ho
        have g0 := f0 (hd ⟨0, Ground.data⟩ (by simp) rfl)
        subst x24
        refine wpOp_of rfl rfl ?_
        unfold Oper.wp
        have hc28 : (28 : Int) ≤ (cb : Int) := by omega
        go_simp
        exact ⟨_, _, _, _, _, _, _, _, _, _, _, _, _, _, _, _, _, _, _, _, _, _, _, rfl, hb, (fun h0 => f0 (by simpa using h0)), (fun _ => rfl), (fun h0 => absurd (c2 (by simpa using h0)) (by simp [hS])), (fun h0 => f3 (by simpa using h0)), (fun h0 h1 => f4 (by simpa using h0) (by simpa using h1)), (fun h0 h1 => f5 (by simpa using h0) (by simpa using h1)), (fun h0 => f6 (by simpa using h0)), (fun h0 => f7 (by simpa using h0)), (fun h0 => f8 (by simpa using h0)), (fun h0 => f9 (by simpa using h0)), (fun h0 => f10 (by simpa using h0)), (fun h0 => f11 (by simpa using h0)), (fun h0 => f12 (by simpa using h0)), (fun h0 h1 => f13 (by simpa using h0) (by simpa using h1)), (fun h0 h1 => f14 (by simpa using h0) (by simpa using h1)), (fun h0 h1 => f15 (by simpa using h0) (by simpa using h1)), (fun h0 => f16 (by simpa using h0)), (fun h0 => f17 (by simpa using h0)), (fun h0 => f18 (by simpa using h0)), (fun h0 => f19 (by simpa using h0)), (fun h0 => f20 (by simpa using h0)), (fun h0 => f21 (by simpa using h0)), (fun h0 => f22 (by simpa using h0)), (fun h0 h1 h2 => d1 (by simpa using h0) (by simpa using h1) (by simpa using h2)), (fun h0 h1 h2 => d2 (by simpa using h0) (by simpa using h1) (by simpa using h2)), (fun h0 h1 h2 => d3 (by simpa using h0) (by simpa using h1) (by simpa using h2)), (fun h0 h1 h2 => d4 (by simpa using h0) (by simpa using h1) (by simpa using h2)), (fun h0 h1 h2 => d5 (by simpa using h0) (by simpa using h1) (by simpa using h2)), (fun h0 h1 h2 => d6 (by simpa using h0) (by simpa using h1) (by simpa using h2)), (fun _ => by simp), (fun h0 => by have := c7 (by simpa using h0); simp [this]), (fun h0 => by have := c10 (by simpa using h0); simp [this]), (fun h0 => by have := c13 (by simpa using h0); simp [this]), (fun h0 => by have := c15 (by simpa using h0); simp [this]), (fun h0 => by have := c18 (by simpa using h0); simp [this]), (fun h0 => by have := c19 (by simpa using h0); simp [this]), (fun h0 => by have := c20 (by simpa using h0); simp [this])⟩
      | 2, _ =>
        simp only [List.getElem?_toArray, List.getElem?_cons_zero, List.getElem?_cons_succ, Option.some.injEq] at ho
        subst ho
        have g1 := f1 (hd ⟨1, Ground.data⟩ (by simp) rfl)
        subst x25
        refine wpOp_of rfl rfl ?_
        unfold Oper.wp
        go_simp
        exact ⟨_, _, _, _, _, _, _, _, _, _, _, _, _, _, _, _, _, _, _, _, _, _, _, rfl, hb, (fun h0 => f0 (by simpa using h0)), (fun h0 => f1 (by simpa using h0)), (fun _ => rfl), (fun h0 => f3 (by simpa using h0)), (fun h0 h1 => f4 (by simpa using h0) (by simpa using h1)), (fun h0 h1 => f5 (by simpa using h0) (by simpa using h1)), (fun h0 => f6 (by simpa using h0)), (fun h0 => f7 (by simpa using h0)), (fun h0 => f8 (by simpa using h0)), (fun h0 => f9 (by simpa using h0)), (fun h0 => f10 (by simpa using h0)), (fun h0 => f11 (by simpa using h0)), (fun h0 => f12 (by simpa using h0)), (fun h0 h1 => f13 (by simpa using h0) (by simpa using h1)), (fun h0 h1 => f14 (by simpa using h0) (by simpa using h1)), (fun h0 h1 => f15 (by simpa using h0) (by simpa using h1)), (fun h0 => f16 (by simpa using h0)), (fun h0 => f17 (by simpa using h0)), (fun h0 => f18 (by simpa using h0)), (fun h0 => f19 (by simpa using h0)), (fun h0 => f20 (by simpa using h0)), (fun h0 => f21 (by simpa using h0)), (fun h0 => f22 (by simpa using h0)), (fun h0 h1 h2 => d1 (by simpa using h0) (by simpa using h1) (by simpa using h2)), (fun h0 h1 h2 => d2 (by simpa using h0) (by simpa using h1) (by simpa using h2)), (fun h0 h1 h2 => d3 (by simpa using h0) (by simpa using h1) (by simpa using h2)), (fun h0 h1 h2 => d4 (by simpa using h0) (by simpa using h1) (by simpa using h2)), (fun h0 h1 h2 => d5 (by simpa using h0) (by simpa using h1) (by simpa using h2)), (fun h0 h1 h2 => d6 (by simpa using h0) (by simpa using h1) (by simpa using h2)), (fun _ => by have := hd ⟨1, Ground.data⟩ (by simp) rfl; simp [this]), (fun h0 => by have := c7 (by simpa using h0); simp [this]), (fun h0 => by have := c10 (by simpa using h0); simp [this]), (fun h0 => by have := c13 (by simpa using h0); simp [this]), (fun h0 => by have := c15 (by simpa using h0); simp [this]), (fun h0 => by have := c18 (by simpa using h0); simp [this]), (fun h0 => by have := c19 (by simpa using h0); simp [this]), (fun h0 => by have := c20 (by simpa using h0); simp [this])⟩
      | 3, _ =>
        simp only [List.getElem?_toArray, List.getElem?_cons_zero, List.getElem?_cons_succ, Option.some.injEq] at ho
        subst ho
        refine wpOp_of rfl rfl ?_
        unfold Oper.wp
        go_simp
        exact ⟨_, _, _, _, _, _, _, _, _, _, _, _, _, _, _, _, _, _, _, _, _, _, _, rfl, hb, (fun h0 => f0 (by simpa using h0)), (fun h0 => f1 (by simpa using h0)), (fun h0 => f2 (by simpa using h0)), (fun _ => rfl), (fun h0 h1 => f4 (by simpa using h0) (by simpa using h1)), (fun h0 h1 => f5 (by simpa using h0) (by simpa using h1)), (fun h0 => f6 (by simpa using h0)), (fun h0 => f7 (by simpa using h0)), (fun h0 => f8 (by simpa using h0)), (fun h0 => f9 (by simpa using h0)), (fun h0 => f10 (by simpa using h0)), (fun h0 => f11 (by simpa using h0)), (fun h0 => f12 (by simpa using h0)), (fun h0 h1 => f13 (by simpa using h0) (by simpa using h1)), (fun h0 h1 => f14 (by simpa using h0) (by simpa using h1)), (fun h0 h1 => f15 (by simpa using h0) (by simpa using h1)), (fun h0 => f16 (by simpa using h0)), (fun h0 => f17 (by simpa using h0)), (fun h0 => f18 (by simpa using h0)), (fun h0 => f19 (by simpa using h0)), (fun h0 => f20 (by simpa using h0)), (fun h0 => f21 (by simpa using h0)), (fun h0 => f22 (by simpa using h0)), (fun h0 h1 h2 => d1 (by simpa using h0) (by simpa using h1) (by simpa using h2)), (fun h0 h1 h2 => d2 (by simpa using h0) (by simpa using h1) (by simpa using h2)), (fun h0 h1 h2 => d3 (by simpa using h0) (by simpa using h1) (by simpa using h2)), (fun h0 h1 h2 => d4 (by simpa using h0) (by simpa using h1) (by simpa using h2)), (fun h0 h1 h2 => d5 (by simpa using h0) (by simpa using h1) (by simpa using h2)), (fun h0 h1 h2 => d6 (by simpa using h0) (by simpa using h1) (by simpa using h2)), (fun h0 => by have := c2 (by simpa using h0); simp [this]), (fun h0 => by have := c7 (by simpa using h0); simp [this]), (fun h0 => by have := c10 (by simpa using h0); simp [this]), (fun h0 => by have := c13 (by simpa using h0); simp [this]), (fun h0 => by have := c15 (by simpa using h0); simp [this]), (fun h0 => by have := c18 (by simpa using h0); simp [this]), (fun h0 => by have := c19 (by simpa using h0); simp [this]), (fun h0 => by have := c20 (by simpa using h0); simp [this])⟩
      | 4, _ =>
        simp only [List.getElem?_toArray, List.getElem?_cons_zero, List.getElem?_cons_succ, Option.some.injEq] at ho
        subst ho
        have g3 := f3 (hd ⟨3, Ground.data⟩ (by simp) rfl)
        subst x27
        refine wpOp_of rfl rfl ?_
        unfold Oper.wp
        go_simp
        refine (clone16 _ _ _ bs wx (HRD.out.below hb) (by decide)).mono ?_
        rintro e w2 ⟨v, rfl, hown, hg⟩
        exact ⟨_, _, _, _, _, _, _, _, _, _, _, _, _, _, _, _, _, _, _, _, _, _, _, rfl, hb.trans (hg.mono hb.size), (fun h0 => f0 (by simpa using h0)), (fun h0 => f1 (by simpa using h0)), (fun h0 => f2 (by simpa using h0)), (fun h0 => f3 (by simpa using h0)), (fun _ _ => own_base hown hb.size), (fun h0 h1 => own_below (f5 (by simpa using h0) (by simpa using h1)) hg), (fun h0 => own_below (f6 (by simpa using h0)) hg), (fun h0 => f7 (by simpa using h0)), (fun h0 => f8 (by simpa using h0)), (fun h0 => own_below (f9 (by simpa using h0)) hg), (fun h0 => f10 (by simpa using h0)), (fun h0 => f11 (by simpa using h0)), (fun h0 => f12 (by simpa using h0)), (fun h0 h1 => own_below (f13 (by simpa using h0) (by simpa using h1)) hg), (fun h0 h1 => own_below (f14 (by simpa using h0) (by simpa using h1)) hg), (fun h0 h1 => own_below (f15 (by simpa using h0) (by simpa using h1)) hg), (fun h0 => f16 (by simpa using h0)), (fun h0 => f17 (by simpa using h0)), (fun h0 => own_below (f18 (by simpa using h0)) hg), (fun h0 => f19 (by simpa using h0)), (fun h0 => by obtain ⟨gs, e1, e2, e3⟩ := f20 (by simpa using h0); exact ⟨gs, e1, e2, (hg.block gs (Array.getElem?_eq_some_iff.1 e3).1).trans e3⟩), (fun h0 => f21 (by simpa using h0)), (fun h0 => f22 (by simpa using h0)), (fun _ h1 _ g e1 e2 => by have h2 := (hown.lt g e1).1; have h3 := own_lt (f9 (by simpa using h1)) e2; omega), (fun _ h1 h2 g e1 e2 => by have h4 := (hown.lt g e1).1; have h3 := own_lt (f14 (by simpa using h1) (not_yet c15 c13 (by simpa using h2))) e2; omega), (fun h0 h1 h2 => d3 (by simpa using h0) (by simpa using h1) (by simpa using h2)), (fun h0 h1 h2 => d4 (by simpa using h0) (by simpa using h1) (by simpa using h2)), (fun h0 h1 h2 => d5 (by simpa using h0) (by simpa using h1) (by simpa using h2)), (fun h0 h1 h2 => d6 (by simpa using h0) (by simpa using h1) (by simpa using h2)), (fun h0 => by have := c2 (by simpa using h0); simp [this]), (fun h0 => by have := c7 (by simpa using h0); simp [this]), (fun h0 => by have := c10 (by simpa using h0); simp [this]), (fun h0 => by have := c13 (by simpa using h0); simp [this]), (fun h0 => by have := c15 (by simpa using h0); simp [this]), (fun h0 => by have := c18 (by simpa using h0); simp [this]), (fun h0 => by have := c19 (by simpa using h0); simp [this]), (fun h0 => by have := c20 (by simpa using h0); simp [this])⟩
      | 5, _ =>
        simp only [List.getElem?_toArray, List.getElem?_cons_zero, List.getElem?_cons_succ, Option.some.injEq] at ho
        subst ho
        refine wpOp_of rfl rfl ?_
        unfold Oper.wp
        go_simp
        have hg : Below wx.heap.size wx (wx.alloc (.cells #[.int .u8 0] 5)) := below_a wx _
        exact ⟨_, _, _, _, _, _, _, _, _, _, _, _, _, _, _, _, _, _, _, _, _, _, _, rfl, hb.trans (hg.mono hb.size), (fun h0 => f0 (by simpa using h0)), (fun h0 => f1 (by simpa using h0)), (fun h0 => f2 (by simpa using h0)), (fun h0 => f3 (by simpa using h0)), (fun h0 h1 => own_below (f4 (by simpa using h0) (by simpa using h1)) hg), (fun _ _ => lit_own wx w1.heap.size 1 [0] hb.size rfl (by decide)), (fun h0 => own_below (f6 (by simpa using h0)) hg), (fun h0 => f7 (by simpa using h0)), (fun h0 => f8 (by simpa using h0)), (fun h0 => own_below (f9 (by simpa using h0)) hg), (fun h0 => f10 (by simpa using h0)), (fun h0 => f11 (by simpa using h0)), (fun h0 => f12 (by simpa using h0)), (fun h0 h1 => own_below (f13 (by simpa using h0) (by simpa using h1)) hg), (fun h0 h1 => own_below (f14 (by simpa using h0) (by simpa using h1)) hg), (fun h0 h1 => own_below (f15 (by simpa using h0) (by simpa using h1)) hg), (fun h0 => f16 (by simpa using h0)), (fun h0 => f17 (by simpa using h0)), (fun h0 => own_below (f18 (by simpa using h0)) hg), (fun h0 => f19 (by simpa using h0)), (fun h0 => by obtain ⟨gs, e1, e2, e3⟩ := f20 (by simpa using h0); exact ⟨gs, e1, e2, (hg.block gs (Array.getElem?_eq_some_iff.1 e3).1).trans e3⟩), (fun h0 => f21 (by simpa using h0)), (fun h0 => f22 (by simpa using h0)), (fun h0 h1 h2 => d1 (by simpa using h0) (by simpa using h1) (by simpa using h2)), (fun h0 h1 h2 => d2 (by simpa using h0) (by simpa using h1) (by simpa using h2)), (fun h0 h1 h2 => d3 (by simpa using h0) (by simpa using h1) (by simpa using h2)), (fun h0 h1 h2 => d4 (by simpa using h0) (by simpa using h1) (by simpa using h2)), (fun h0 h1 h2 => d5 (by simpa using h0) (by simpa using h1) (by simpa using h2)), (fun h0 h1 h2 => d6 (by simpa using h0) (by simpa using h1) (by simpa using h2)), (fun h0 => by have := c2 (by simpa using h0); simp [this]), (fun h0 => by have := c7 (by simpa using h0); simp [this]), (fun h0 => by have := c10 (by simpa using h0); simp [this]), (fun h0 => by have := c13 (by simpa using h0); simp [this]), (fun h0 => by have := c15 (by simpa using h0); simp [this]), (fun h0 => by have := c18 (by simpa using h0); simp [this]), (fun h0 => by have := c19 (by simpa using h0); simp [this]), (fun h0 => by have := c20 (by simpa using h0); simp [this])⟩
      | 6, _ =>
        simp only [List.getElem?_toArray, List.getElem?_cons_zero, List.getElem?_cons_succ, Option.some.injEq] at ho
        subst ho
        have g4 := f4 (hd ⟨4, Ground.data⟩ (by simp) rfl)
        have g5 := f5 (hd ⟨5, Ground.data⟩ (by simp) rfl)
        refine wpOp_of rfl rfl ?_
        have r4 := g4 hS
        have r5 := g5 hS
        obtain ⟨gn, cn, rfl⟩ := Joins.ownsRow_form r5 (by decide)
        refine wp_appR (.tmp 28) (.tmp 29) 31 rfl w1.heap.size 5 i5 (.int .u8 0) 1 1 Try.underlying31 hif hi0 hi1 hi2 rfl (by decide) x28 29 (vB bs) rfl r4 ⟨gn, 0, none⟩ 1 cn (vB [0]) rfl (Reads.of_own r5) (by decide) (vB_one _) (by decide) (by decide) hb.size ?_
        intro v w2 hown hg hat
        exact ⟨_, _, _, _, _, _, _, _, _, _, _, _, _, _, _, _, _, _, _, _, _, _, _, rfl, hb.grown hg hb.size (fun g e => (r4.lt g e).1), (fun h0 => f0 (by simpa using h0)), (fun h0 => f1 (by simpa using h0)), (fun h0 => f2 (by simpa using h0)), (fun h0 => f3 (by simpa using h0)), (fun h0 h1 => by simp at h1), (fun h0 h1 => by simp at h1), (fun _ => tel_app hown rfl rfl), (fun h0 => absurd (c7 (by simpa using h0)) (by simp [hS])), (fun h0 => f8 (by simpa using h0)), (fun h0 => far_grown (f9 (by simpa using h0)) hg (fun g hv e => d1 (hd ⟨4, Ground.data⟩ (by simp) rfl) (by simpa using h0) hS g e hv)), (fun h0 => f10 (by simpa using h0)), (fun h0 => f11 (by simpa using h0)), (fun h0 => f12 (by simpa using h0)), (fun h0 h1 => far_grown (f13 (by simpa using h0) (by simpa using h1)) hg (fun g hv e => absurd (c13 (by simpa using h0)) (by simp [hS]))), (fun h0 h1 => far_grown (f14 (by simpa using h0) (by simpa using h1)) hg (fun g hv e => d2 (hd ⟨4, Ground.data⟩ (by simp) rfl) (by simpa using h0) hS g e hv)), (fun h0 h1 => far_grown (f15 (by simpa using h0) (by simpa using h1)) hg (fun g hv e => absurd (c13 (c15 (by simpa using h0))) (by simp [hS]))), (fun h0 => f16 (by simpa using h0)), (fun h0 => f17 (by simpa using h0)), (fun h0 => far_grown (f18 (by simpa using h0)) hg (fun g hv e => absurd (c13 (c15 (c18 (by simpa using h0)))) (by simp [hS]))), (fun h0 => f19 (by simpa using h0)), (fun h0 => absurd (c7 (c20 (by simpa using h0)).2.1) (by simp [hS])), (fun h0 => f21 (by simpa using h0)), (fun h0 => f22 (by simpa using h0)), (fun h0 h1 h2 => by simp at h2), (fun h0 h1 h2 => by simp at h2), (fun h0 _ _ => absurd (c13 (by simpa using h0)) (by simp [hS])), (fun h0 h1 h2 => d4 (by simpa using h0) (by simpa using h1) (by simpa using h2)), (fun h0 _ _ => absurd (c13 (c15 (by simpa using h0))) (by simp [hS])), (fun h0 h1 h2 => d6 (by simpa using h0) (by simpa using h1) (by simpa using h2)), (fun h0 => by have := c2 (by simpa using h0); simp [this]), (fun _ => by simp), (fun h0 => by have := c10 (by simpa using h0); simp [this]), (fun _ => by simp), (fun h0 => by have := c15 (by simpa using h0); simp [this]), (fun h0 => by have := c18 (by simpa using h0); simp [this]), (fun h0 => by have := c19 (by simpa using h0); simp [this]), (fun h0 => by have := c20 (by simpa using h0); simp [this])⟩
      | 7, _ =>
        simp only [List.getElem?_toArray, List.getElem?_cons_zero, List.getElem?_cons_succ, Option.some.injEq] at ho
        subst ho
        have g6 := f6 (hd ⟨6, Ground.data⟩ (by simp) rfl)
        refine wpOp_of rfl rfl ?_
        obtain ⟨A0, C0, rfl, _, _⟩ := own_slice g6
        unfold Oper.wp
        go_simp
        exact ⟨_, _, _, _, _, _, _, _, _, _, _, _, _, _, _, _, _, _, _, _, _, _, _, rfl, hb, (fun h0 => f0 (by simpa using h0)), (fun h0 => f1 (by simpa using h0)), (fun h0 => f2 (by simpa using h0)), (fun h0 => f3 (by simpa using h0)), (fun h0 h1 => f4 (by simpa using h0) (by simpa using h1)), (fun h0 h1 => f5 (by simpa using h0) (by simpa using h1)), (fun h0 => f6 (by simpa using h0)), (fun _ => rfl), (fun h0 => f8 (by simpa using h0)), (fun h0 => f9 (by simpa using h0)), (fun h0 => f10 (by simpa using h0)), (fun h0 => f11 (by simpa using h0)), (fun h0 => f12 (by simpa using h0)), (fun h0 h1 => f13 (by simpa using h0) (by simpa using h1)), (fun h0 h1 => f14 (by simpa using h0) (by simpa using h1)), (fun h0 h1 => f15 (by simpa using h0) (by simpa using h1)), (fun h0 => f16 (by simpa using h0)), (fun h0 => f17 (by simpa using h0)), (fun h0 => f18 (by simpa using h0)), (fun h0 => f19 (by simpa using h0)), (fun h0 => f20 (by simpa using h0)), (fun h0 => f21 (by simpa using h0)), (fun h0 => f22 (by simpa using h0)), (fun h0 h1 h2 => d1 (by simpa using h0) (by simpa using h1) (by simpa using h2)), (fun h0 h1 h2 => d2 (by simpa using h0) (by simpa using h1) (by simpa using h2)), (fun h0 h1 h2 => d3 (by simpa using h0) (by simpa using h1) (by simpa using h2)), (fun h0 h1 h2 => d4 (by simpa using h0) (by simpa using h1) (by simpa using h2)), (fun h0 h1 h2 => d5 (by simpa using h0) (by simpa using h1) (by simpa using h2)), (fun h0 h1 h2 => d6 (by simpa using h0) (by simpa using h1) (by simpa using h2)), (fun h0 => by have := c2 (by simpa using h0); simp [this]), (fun _ => by have := hd ⟨6, Ground.data⟩ (by simp) rfl; simp [this]), (fun h0 => by have := c10 (by simpa using h0); simp [this]), (fun h0 => by have := c13 (by simpa using h0); simp [this]), (fun h0 => by have := c15 (by simpa using h0); simp [this]), (fun h0 => by have := c18 (by simpa using h0); simp [this]), (fun h0 => by have := c19 (by simpa using h0); simp [this]), (fun h0 => by have := c20 (by simpa using h0); simp [this])⟩
      | 8, _ =>
        simp only [List.getElem?_toArray, List.getElem?_cons_zero, List.getElem?_cons_succ, Option.some.injEq] at ho
        subst ho
        refine wpOp_of rfl rfl ?_
        unfold Oper.wp
        go_simp
        exact ⟨_, _, _, _, _, _, _, _, _, _, _, _, _, _, _, _, _, _, _, _, _, _, _, rfl, hb, (fun h0 => f0 (by simpa using h0)), (fun h0 => f1 (by simpa using h0)), (fun h0 => f2 (by simpa using h0)), (fun h0 => f3 (by simpa using h0)), (fun h0 h1 => f4 (by simpa using h0) (by simpa using h1)), (fun h0 h1 => f5 (by simpa using h0) (by simpa using h1)), (fun h0 => f6 (by simpa using h0)), (fun h0 => f7 (by simpa using h0)), (fun _ => rfl), (fun h0 => f9 (by simpa using h0)), (fun h0 => f10 (by simpa using h0)), (fun h0 => f11 (by simpa using h0)), (fun h0 => f12 (by simpa using h0)), (fun h0 h1 => f13 (by simpa using h0) (by simpa using h1)), (fun h0 h1 => f14 (by simpa using h0) (by simpa using h1)), (fun h0 h1 => f15 (by simpa using h0) (by simpa using h1)), (fun h0 => f16 (by simpa using h0)), (fun h0 => f17 (by simpa using h0)), (fun h0 => f18 (by simpa using h0)), (fun h0 => f19 (by simpa using h0)), (fun h0 => f20 (by simpa using h0)), (fun h0 => f21 (by simpa using h0)), (fun h0 => f22 (by simpa using h0)), (fun h0 h1 h2 => d1 (by simpa using h0) (by simpa using h1) (by simpa using h2)), (fun h0 h1 h2 => d2 (by simpa using h0) (by simpa using h1) (by simpa using h2)), (fun h0 h1 h2 => d3 (by simpa using h0) (by simpa using h1) (by simpa using h2)), (fun h0 h1 h2 => d4 (by simpa using h0) (by simpa using h1) (by simpa using h2)), (fun h0 h1 h2 => d5 (by simpa using h0) (by simpa using h1) (by simpa using h2)), (fun h0 h1 h2 => d6 (by simpa using h0) (by simpa using h1) (by simpa using h2)), (fun h0 => by have := c2 (by simpa using h0); simp [this]), (fun h0 => by have := c7 (by simpa using h0); simp [this]), (fun h0 => by have := c10 (by simpa using h0); simp [this]), (fun h0 => by have := c13 (by simpa using h0); simp [this]), (fun h0 => by have := c15 (by simpa using h0); simp [this]), (fun h0 => by have := c18 (by simpa using h0); simp [this]), (fun h0 => by have := c19 (by simpa using h0); simp [this]), (fun h0 => by have := c20 (by simpa using h0); simp [this])⟩
      | 9, _ =>
        simp only [List.getElem?_toArray, List.getElem?_cons_zero, List.getElem?_cons_succ, Option.some.injEq] at ho
        subst ho
        refine wpOp_of rfl rfl ?_
        unfold Oper.wp
        go_simp
        have hg : Below wx.heap.size wx (wx.alloc (.cells #[.int .u8 65, .int .u8 78, .int .u8 86, .int .u8 50] 5)) := below_a wx _
        exact ⟨_, _, _, _, _, _, _, _, _, _, _, _, _, _, _, _, _, _, _, _, _, _, _, rfl, hb.trans (hg.mono hb.size), (fun h0 => f0 (by simpa using h0)), (fun h0 => f1 (by simpa using h0)), (fun h0 => f2 (by simpa using h0)), (fun h0 => f3 (by simpa using h0)), (fun h0 h1 => own_below (f4 (by simpa using h0) (by simpa using h1)) hg), (fun h0 h1 => own_below (f5 (by simpa using h0) (by simpa using h1)) hg), (fun h0 => own_below (f6 (by simpa using h0)) hg), (fun h0 => f7 (by simpa using h0)), (fun h0 => f8 (by simpa using h0)), (fun _ => lit_own wx w1.heap.size 4 [65, 78, 86, 50] hb.size rfl (by decide)), (fun h0 => absurd (c10 (by simpa using h0)) (by simp [hS])), (fun h0 => f11 (by simpa using h0)), (fun h0 => f12 (by simpa using h0)), (fun h0 h1 => own_below (f13 (by simpa using h0) (by simpa using h1)) hg), (fun h0 h1 => own_below (f14 (by simpa using h0) (by simpa using h1)) hg), (fun h0 h1 => own_below (f15 (by simpa using h0) (by simpa using h1)) hg), (fun h0 => f16 (by simpa using h0)), (fun h0 => f17 (by simpa using h0)), (fun h0 => own_below (f18 (by simpa using h0)) hg), (fun h0 => f19 (by simpa using h0)), (fun h0 => absurd (c10 (c20 (by simpa using h0)).2.2.2.1) (by simp [hS])), (fun h0 => f21 (by simpa using h0)), (fun h0 => f22 (by simpa using h0)), (fun h0 _ h2 g e1 e2 => by have h3 := own_lt (f4 (by simpa using h0) (by simpa using h2)) e1; have e3 : wx.heap.size = g := Option.some.inj e2; omega), (fun h0 h1 h2 => d2 (by simpa using h0) (by simpa using h1) (by simpa using h2)), (fun h0 h1 h2 => d3 (by simpa using h0) (by simpa using h1) (by simpa using h2)), (fun h0 _ h2 g e1 e2 => by have h3 := own_lt (f13 (by simpa using h0) (by simpa using h2)) e1; have e3 : wx.heap.size = g := Option.some.inj e2; omega), (fun h0 h1 h2 => d5 (by simpa using h0) (by simpa using h1) (by simpa using h2)), (fun h0 _ h2 g e1 e2 => by have h3 := own_lt (f15 (by simpa using h0) (by simpa using h2)) e1; have e3 : wx.heap.size = g := Option.some.inj e2; omega), (fun h0 => by have := c2 (by simpa using h0); simp [this]), (fun h0 => by have := c7 (by simpa using h0); simp [this]), (fun _ => by simp), (fun h0 => by have := c13 (by simpa using h0); simp [this]), (fun h0 => by have := c15 (by simpa using h0); simp [this]), (fun h0 => by have := c18 (by simpa using h0); simp [this]), (fun h0 => by have := c19 (by simpa using h0); simp [this]), (fun h0 => by have := c20 (by simpa using h0); simp [this])⟩
      | 10, _ =>
        simp only [List.getElem?_toArray, List.getElem?_cons_zero, List.getElem?_cons_succ, Option.some.injEq] at ho
        subst ho
        have g9 := f9 (hd ⟨9, Ground.data⟩ (by simp) rfl)
        refine wpOp_of rfl rfl ?_
        obtain ⟨A0, C0, rfl, _, _⟩ := own_slice g9
        unfold Oper.wp
        go_simp
        exact ⟨_, _, _, _, _, _, _, _, _, _, _, _, _, _, _, _, _, _, _, _, _, _, _, rfl, hb, (fun h0 => f0 (by simpa using h0)), (fun h0 => f1 (by simpa using h0)), (fun h0 => f2 (by simpa using h0)), (fun h0 => f3 (by simpa using h0)), (fun h0 h1 => f4 (by simpa using h0) (by simpa using h1)), (fun h0 h1 => f5 (by simpa using h0) (by simpa using h1)), (fun h0 => f6 (by simpa using h0)), (fun h0 => f7 (by simpa using h0)), (fun h0 => f8 (by simpa using h0)), (fun h0 => f9 (by simpa using h0)), (fun _ => rfl), (fun h0 => f11 (by simpa using h0)), (fun h0 => f12 (by simpa using h0)), (fun h0 h1 => f13 (by simpa using h0) (by simpa using h1)), (fun h0 h1 => f14 (by simpa using h0) (by simpa using h1)), (fun h0 h1 => f15 (by simpa using h0) (by simpa using h1)), (fun h0 => f16 (by simpa using h0)), (fun h0 => f17 (by simpa using h0)), (fun h0 => f18 (by simpa using h0)), (fun h0 => f19 (by simpa using h0)), (fun h0 => f20 (by simpa using h0)), (fun h0 => f21 (by simpa using h0)), (fun h0 => f22 (by simpa using h0)), (fun h0 h1 h2 => d1 (by simpa using h0) (by simpa using h1) (by simpa using h2)), (fun h0 h1 h2 => d2 (by simpa using h0) (by simpa using h1) (by simpa using h2)), (fun h0 h1 h2 => d3 (by simpa using h0) (by simpa using h1) (by simpa using h2)), (fun h0 h1 h2 => d4 (by simpa using h0) (by simpa using h1) (by simpa using h2)), (fun h0 h1 h2 => d5 (by simpa using h0) (by simpa using h1) (by simpa using h2)), (fun h0 h1 h2 => d6 (by simpa using h0) (by simpa using h1) (by simpa using h2)), (fun h0 => by have := c2 (by simpa using h0); simp [this]), (fun h0 => by have := c7 (by simpa using h0); simp [this]), (fun _ => by have := hd ⟨9, Ground.data⟩ (by simp) rfl; simp [this]), (fun h0 => by have := c13 (by simpa using h0); simp [this]), (fun h0 => by have := c15 (by simpa using h0); simp [this]), (fun h0 => by have := c18 (by simpa using h0); simp [this]), (fun h0 => by have := c19 (by simpa using h0); simp [this]), (fun h0 => by have := c20 (by simpa using h0); simp [this])⟩
      | 11, _ =>
        simp only [List.getElem?_toArray, List.getElem?_cons_zero, List.getElem?_cons_succ, Option.some.injEq] at ho
        subst ho
        refine wpOp_of rfl rfl ?_
        unfold Oper.wp
        go_simp
        exact ⟨_, _, _, _, _, _, _, _, _, _, _, _, _, _, _, _, _, _, _, _, _, _, _, rfl, hb, (fun h0 => f0 (by simpa using h0)), (fun h0 => f1 (by simpa using h0)), (fun h0 => f2 (by simpa using h0)), (fun h0 => f3 (by simpa using h0)), (fun h0 h1 => f4 (by simpa using h0) (by simpa using h1)), (fun h0 h1 => f5 (by simpa using h0) (by simpa using h1)), (fun h0 => f6 (by simpa using h0)), (fun h0 => f7 (by simpa using h0)), (fun h0 => f8 (by simpa using h0)), (fun h0 => f9 (by simpa using h0)), (fun h0 => f10 (by simpa using h0)), (fun _ => rfl), (fun h0 => f12 (by simpa using h0)), (fun h0 h1 => f13 (by simpa using h0) (by simpa using h1)), (fun h0 h1 => f14 (by simpa using h0) (by simpa using h1)), (fun h0 h1 => f15 (by simpa using h0) (by simpa using h1)), (fun h0 => f16 (by simpa using h0)), (fun h0 => f17 (by simpa using h0)), (fun h0 => f18 (by simpa using h0)), (fun h0 => f19 (by simpa using h0)), (fun h0 => f20 (by simpa using h0)), (fun h0 => f21 (by simpa using h0)), (fun h0 => f22 (by simpa using h0)), (fun h0 h1 h2 => d1 (by simpa using h0) (by simpa using h1) (by simpa using h2)), (fun h0 h1 h2 => d2 (by simpa using h0) (by simpa using h1) (by simpa using h2)), (fun h0 h1 h2 => d3 (by simpa using h0) (by simpa using h1) (by simpa using h2)), (fun h0 h1 h2 => d4 (by simpa using h0) (by simpa using h1) (by simpa using h2)), (fun h0 h1 h2 => d5 (by simpa using h0) (by simpa using h1) (by simpa using h2)), (fun h0 h1 h2 => d6 (by simpa using h0) (by simpa using h1) (by simpa using h2)), (fun h0 => by have := c2 (by simpa using h0); simp [this]), (fun h0 => by have := c7 (by simpa using h0); simp [this]), (fun h0 => by have := c10 (by simpa using h0); simp [this]), (fun h0 => by have := c13 (by simpa using h0); simp [this]), (fun h0 => by have := c15 (by simpa using h0); simp [this]), (fun h0 => by have := c18 (by simpa using h0); simp [this]), (fun h0 => by have := c19 (by simpa using h0); simp [this]), (fun h0 => by have := c20 (by simpa using h0); simp [this])⟩
      | 12, _ =>
        simp only [List.getElem?_toArray, List.getElem?_cons_zero, List.getElem?_cons_succ, Option.some.injEq] at ho
        subst ho
        have g11 := f11 (hd ⟨11, Ground.data⟩ (by simp) rfl)
        subst x35
        refine wpOp_of rfl rfl ?_
        unfold Oper.wp
        have hc28 : (4 : Int) ≤ (cb : Int) := by omega
        go_simp
        exact ⟨_, _, _, _, _, _, _, _, _, _, _, _, _, _, _, _, _, _, _, _, _, _, _, rfl, hb, (fun h0 => f0 (by simpa using h0)), (fun h0 => f1 (by simpa using h0)), (fun h0 => f2 (by simpa using h0)), (fun h0 => f3 (by simpa using h0)), (fun h0 h1 => f4 (by simpa using h0) (by simpa using h1)), (fun h0 h1 => f5 (by simpa using h0) (by simpa using h1)), (fun h0 => f6 (by simpa using h0)), (fun h0 => f7 (by simpa using h0)), (fun h0 => f8 (by simpa using h0)), (fun h0 => f9 (by simpa using h0)), (fun h0 => f10 (by simpa using h0)), (fun h0 => f11 (by simpa using h0)), (fun _ => rfl), (fun h0 h1 => f13 (by simpa using h0) (by simpa using h1)), (fun h0 h1 => f14 (by simpa using h0) (by simpa using h1)), (fun h0 h1 => f15 (by simpa using h0) (by simpa using h1)), (fun h0 => f16 (by simpa using h0)), (fun h0 => f17 (by simpa using h0)), (fun h0 => f18 (by simpa using h0)), (fun h0 => f19 (by simpa using h0)), (fun h0 => f20 (by simpa using h0)), (fun h0 => f21 (by simpa using h0)), (fun h0 => f22 (by simpa using h0)), (fun h0 h1 h2 => d1 (by simpa using h0) (by simpa using h1) (by simpa using h2)), (fun h0 h1 h2 => d2 (by simpa using h0) (by simpa using h1) (by simpa using h2)), (fun h0 h1 h2 => d3 (by simpa using h0) (by simpa using h1) (by simpa using h2)), (fun h0 h1 h2 => d4 (by simpa using h0) (by simpa using h1) (by simpa using h2)), (fun h0 h1 h2 => d5 (by simpa using h0) (by simpa using h1) (by simpa using h2)), (fun h0 h1 h2 => d6 (by simpa using h0) (by simpa using h1) (by simpa using h2)), (fun h0 => by have := c2 (by simpa using h0); simp [this]), (fun h0 => by have := c7 (by simpa using h0); simp [this]), (fun h0 => by have := c10 (by simpa using h0); simp [this]), (fun h0 => by have := c13 (by simpa using h0); simp [this]), (fun h0 => by have := c15 (by simpa using h0); simp [this]), (fun h0 => by have := c18 (by simpa using h0); simp [this]), (fun h0 => by have := c19 (by simpa using h0); simp [this]), (fun h0 => by have := c20 (by simpa using h0); simp [this])⟩
      | 13, _ =>
        simp only [List.getElem?_toArray, List.getElem?_cons_zero, List.getElem?_cons_succ, Option.some.injEq] at ho
        subst ho
        have g12 := f12 (hd ⟨12, Ground.data⟩ (by simp) rfl)
        subst x36
        refine wpOp_of rfl rfl ?_
        unfold Oper.wp
        go_simp
        refine (clone16 _ _ _ (bs.take 4) wx ((HRD.out.below hb).take (by decide)) (by decide)).mono ?_
        rintro e w2 ⟨v, rfl, hown, hg⟩
        exact ⟨_, _, _, _, _, _, _, _, _, _, _, _, _, _, _, _, _, _, _, _, _, _, _, rfl, hb.trans (hg.mono hb.size), (fun h0 => f0 (by simpa using h0)), (fun h0 => f1 (by simpa using h0)), (fun h0 => f2 (by simpa using h0)), (fun h0 => f3 (by simpa using h0)), (fun h0 h1 => own_below (f4 (by simpa using h0) (by simpa using h1)) hg), (fun h0 h1 => own_below (f5 (by simpa using h0) (by simpa using h1)) hg), (fun h0 => own_below (f6 (by simpa using h0)) hg), (fun h0 => f7 (by simpa using h0)), (fun h0 => f8 (by simpa using h0)), (fun h0 => own_below (f9 (by simpa using h0)) hg), (fun h0 => f10 (by simpa using h0)), (fun h0 => f11 (by simpa using h0)), (fun h0 => f12 (by simpa using h0)), (fun _ _ => own_base hown hb.size), (fun h0 h1 => own_below (f14 (by simpa using h0) (by simpa using h1)) hg), (fun h0 h1 => own_below (f15 (by simpa using h0) (by simpa using h1)) hg), (fun h0 => f16 (by simpa using h0)), (fun h0 => f17 (by simpa using h0)), (fun h0 => own_below (f18 (by simpa using h0)) hg), (fun h0 => f19 (by simpa using h0)), (fun h0 => by obtain ⟨gs, e1, e2, e3⟩ := f20 (by simpa using h0); exact ⟨gs, e1, e2, (hg.block gs (Array.getElem?_eq_some_iff.1 e3).1).trans e3⟩), (fun h0 => f21 (by simpa using h0)), (fun h0 => f22 (by simpa using h0)), (fun h0 h1 h2 => d1 (by simpa using h0) (by simpa using h1) (by simpa using h2)), (fun h0 h1 h2 => d2 (by simpa using h0) (by simpa using h1) (by simpa using h2)), (fun _ h1 _ g e1 e2 => by have h2 := (hown.lt g e1).1; have h3 := own_lt (f6 (by simpa using h1)) e2; omega), (fun _ h1 _ g e1 e2 => by have h2 := (hown.lt g e1).1; have h3 := own_lt (f9 (by simpa using h1)) e2; omega), (fun h0 h1 h2 => d5 (by simpa using h0) (by simpa using h1) (by simpa using h2)), (fun h0 h1 h2 => d6 (by simpa using h0) (by simpa using h1) (by simpa using h2)), (fun h0 => by have := c2 (by simpa using h0); simp [this]), (fun h0 => by have := c7 (by simpa using h0); simp [this]), (fun h0 => by have := c10 (by simpa using h0); simp [this]), (fun _ => by have := hd ⟨6, Ground.chain⟩ (by simp) rfl; simp [this]), (fun h0 => by have := c15 (by simpa using h0); simp [this]), (fun h0 => by have := c18 (by simpa using h0); simp [this]), (fun h0 => by have := c19 (by simpa using h0); simp [this]), (fun h0 => by have := c20 (by simpa using h0); simp [this])⟩
      | 14, _ =>
        simp only [List.getElem?_toArray, List.getElem?_cons_zero, List.getElem?_cons_succ, Option.some.injEq] at ho
        subst ho
        refine wpOp_of rfl rfl ?_
        unfold Oper.wp
        go_simp
        have hg : Below wx.heap.size wx (wx.alloc (.cells #[.int .u8 9] 5)) := below_a wx _
        exact ⟨_, _, _, _, _, _, _, _, _, _, _, _, _, _, _, _, _, _, _, _, _, _, _, rfl, hb.trans (hg.mono hb.size), (fun h0 => f0 (by simpa using h0)), (fun h0 => f1 (by simpa using h0)), (fun h0 => f2 (by simpa using h0)), (fun h0 => f3 (by simpa using h0)), (fun h0 h1 => own_below (f4 (by simpa using h0) (by simpa using h1)) hg), (fun h0 h1 => own_below (f5 (by simpa using h0) (by simpa using h1)) hg), (fun h0 => own_below (f6 (by simpa using h0)) hg), (fun h0 => f7 (by simpa using h0)), (fun h0 => f8 (by simpa using h0)), (fun h0 => own_below (f9 (by simpa using h0)) hg), (fun h0 => f10 (by simpa using h0)), (fun h0 => f11 (by simpa using h0)), (fun h0 => f12 (by simpa using h0)), (fun h0 h1 => own_below (f13 (by simpa using h0) (by simpa using h1)) hg), (fun _ _ => lit_own wx w1.heap.size 1 [9] hb.size rfl (by decide)), (fun h0 h1 => own_below (f15 (by simpa using h0) (by simpa using h1)) hg), (fun h0 => f16 (by simpa using h0)), (fun h0 => f17 (by simpa using h0)), (fun h0 => own_below (f18 (by simpa using h0)) hg), (fun h0 => f19 (by simpa using h0)), (fun h0 => by obtain ⟨gs, e1, e2, e3⟩ := f20 (by simpa using h0); exact ⟨gs, e1, e2, (hg.block gs (Array.getElem?_eq_some_iff.1 e3).1).trans e3⟩), (fun h0 => f21 (by simpa using h0)), (fun h0 => f22 (by simpa using h0)), (fun h0 h1 h2 => d1 (by simpa using h0) (by simpa using h1) (by simpa using h2)), (fun h0 _ h2 g e1 e2 => by have h3 := own_lt (f4 (by simpa using h0) (by simpa using h2)) e1; have e3 : wx.heap.size = g := Option.some.inj e2; omega), (fun h0 h1 h2 => d3 (by simpa using h0) (by simpa using h1) (by simpa using h2)), (fun h0 h1 h2 => d4 (by simpa using h0) (by simpa using h1) (by simpa using h2)), (fun h0 h1 h2 => d5 (by simpa using h0) (by simpa using h1) (by simpa using h2)), (fun h0 h1 h2 => d6 (by simpa using h0) (by simpa using h1) (by simpa using h2)), (fun h0 => by have := c2 (by simpa using h0); simp [this]), (fun h0 => by have := c7 (by simpa using h0); simp [this]), (fun h0 => by have := c10 (by simpa using h0); simp [this]), (fun h0 => by have := c13 (by simpa using h0); simp [this]), (fun h0 => by have := c15 (by simpa using h0); simp [this]), (fun h0 => by have := c18 (by simpa using h0); simp [this]), (fun h0 => by have := c19 (by simpa using h0); simp [this]), (fun h0 => by have := c20 (by simpa using h0); simp [this])⟩
      | 15, _ =>
        simp only [List.getElem?_toArray, List.getElem?_cons_zero, List.getElem?_cons_succ, Option.some.injEq] at ho
        subst ho
        have g13 := f13 (hd ⟨13, Ground.data⟩ (by simp) rfl)
        have g14 := f14 (hd ⟨14, Ground.data⟩ (by simp) rfl)
        refine wpOp_of rfl rfl ?_
        have r4 := g13 hS
        have r5 := g14 hS
        have s6 := c13 (hd ⟨13, Ground.data⟩ (by simp) rfl)
        have s18 : S 18 = false := by cases h : S 18 with | false => rfl | true => exact absurd (c18 h) (by simp [hS])
        obtain ⟨gn, cn, rfl⟩ := Joins.ownsRow_form r5 (by decide)
        refine wp_appR (.tmp 37) (.tmp 38) 31 rfl w1.heap.size 5 i5 (.int .u8 0) 1 1 Try.underlying31 hif hi0 hi1 hi2 rfl (by decide) x37 4 (vB (bs.take 4)) rfl r4 ⟨gn, 0, none⟩ 1 cn (vB [9]) rfl (Reads.of_own r5) (by decide) (vB_one _) (by decide) (by decide) hb.size ?_
        intro v w2 hown hg hat
        exact ⟨_, _, _, _, _, _, _, _, _, _, _, _, _, _, _, _, _, _, _, _, _, _, _, rfl, hb.grown hg hb.size (fun g e => (r4.lt g e).1), (fun h0 => f0 (by simpa using h0)), (fun h0 => f1 (by simpa using h0)), (fun h0 => f2 (by simpa using h0)), (fun h0 => f3 (by simpa using h0)), (fun h0 h1 => far_grown (f4 (by simpa using h0) (by simpa using h1)) hg (fun g hv e => absurd s6 (by simp at h1; simp [h1]))), (fun h0 h1 => far_grown (f5 (by simpa using h0) (by simpa using h1)) hg (fun g hv e => absurd s6 (by simp at h1; simp [h1]))), (fun h0 => far_grown (f6 (by simpa using h0)) hg (fun g hv e => d3 (hd ⟨13, Ground.data⟩ (by simp) rfl) (by simpa using h0) hS g e hv)), (fun h0 => f7 (by simpa using h0)), (fun h0 => f8 (by simpa using h0)), (fun h0 => far_grown (f9 (by simpa using h0)) hg (fun g hv e => d4 (hd ⟨13, Ground.data⟩ (by simp) rfl) (by simpa using h0) hS g e hv)), (fun h0 => f10 (by simpa using h0)), (fun h0 => f11 (by simpa using h0)), (fun h0 => f12 (by simpa using h0)), (fun h0 h1 => by simp at h1), (fun h0 h1 => by simp at h1), (fun _ _ => tel_app hown rfl rfl), (fun h0 => f16 (by simpa using h0)), (fun h0 => f17 (by simpa using h0)), (fun h0 => far_grown (f18 (by simpa using h0)) hg (fun g hv e => absurd (c18 (by simpa using h0)) (by simp [hS]))), (fun h0 => f19 (by simpa using h0)), (fun h0 => absurd (c18 (c19 (c20 (by simpa using h0)).2.2.2.2)) (by simp [hS])), (fun h0 => f21 (by simpa using h0)), (fun h0 => f22 (by simpa using h0)), (fun h0 h1 h2 => d1 (by simpa using h0) (by simpa using h1) (by simpa using h2)), (fun h0 h1 h2 => d2 (by simpa using h0) (by simpa using h1) (by simpa using h2)), (fun h0 h1 h2 => by simp at h2), (fun h0 h1 h2 => by simp at h2), (fun _ h1 _ g e1 e2 => by rcases hat with e | e; exact d3 (hd ⟨13, Ground.data⟩ (by simp) rfl) (by simpa using h1) hS g (e ▸ e1) e2; (rw [e] at e1; cases e1; have := own_lt (f6 (by simpa using h1)) e2; omega)), (fun _ h1 _ g e1 e2 => by rcases hat with e | e; exact d4 (hd ⟨13, Ground.data⟩ (by simp) rfl) (by simpa using h1) hS g (e ▸ e1) e2; (rw [e] at e1; cases e1; have := own_lt (f9 (by simpa using h1)) e2; omega)), (fun h0 => by have := c2 (by simpa using h0); simp [this]), (fun h0 => by have := c7 (by simpa using h0); simp [this]), (fun h0 => by have := c10 (by simpa using h0); simp [this]), (fun h0 => by have := c13 (by simpa using h0); simp [this]), (fun _ => by have := hd ⟨13, Ground.data⟩ (by simp) rfl; simp [this]), (fun _ => by simp), (fun h0 => by have := c19 (by simpa using h0); simp [this]), (fun h0 => by have := c20 (by simpa using h0); simp [this])⟩
      | 16, _ =>
        simp only [List.getElem?_toArray, List.getElem?_cons_zero, List.getElem?_cons_succ, Option.some.injEq] at ho
        subst ho
        refine wpOp_of rfl rfl ?_
        unfold Oper.wp
        go_simp
        exact ⟨_, _, _, _, _, _, _, _, _, _, _, _, _, _, _, _, _, _, _, _, _, _, _, rfl, hb, (fun h0 => f0 (by simpa using h0)), (fun h0 => f1 (by simpa using h0)), (fun h0 => f2 (by simpa using h0)), (fun h0 => f3 (by simpa using h0)), (fun h0 h1 => f4 (by simpa using h0) (by simpa using h1)), (fun h0 h1 => f5 (by simpa using h0) (by simpa using h1)), (fun h0 => f6 (by simpa using h0)), (fun h0 => f7 (by simpa using h0)), (fun h0 => f8 (by simpa using h0)), (fun h0 => f9 (by simpa using h0)), (fun h0 => f10 (by simpa using h0)), (fun h0 => f11 (by simpa using h0)), (fun h0 => f12 (by simpa using h0)), (fun h0 h1 => f13 (by simpa using h0) (by simpa using h1)), (fun h0 h1 => f14 (by simpa using h0) (by simpa using h1)), (fun h0 h1 => f15 (by simpa using h0) (by simpa using h1)), (fun _ => rfl), (fun h0 => f17 (by simpa using h0)), (fun h0 => f18 (by simpa using h0)), (fun h0 => f19 (by simpa using h0)), (fun h0 => f20 (by simpa using h0)), (fun h0 => f21 (by simpa using h0)), (fun h0 => f22 (by simpa using h0)), (fun h0 h1 h2 => d1 (by simpa using h0) (by simpa using h1) (by simpa using h2)), (fun h0 h1 h2 => d2 (by simpa using h0) (by simpa using h1) (by simpa using h2)), (fun h0 h1 h2 => d3 (by simpa using h0) (by simpa using h1) (by simpa using h2)), (fun h0 h1 h2 => d4 (by simpa using h0) (by simpa using h1) (by simpa using h2)), (fun h0 h1 h2 => d5 (by simpa using h0) (by simpa using h1) (by simpa using h2)), (fun h0 h1 h2 => d6 (by simpa using h0) (by simpa using h1) (by simpa using h2)), (fun h0 => by have := c2 (by simpa using h0); simp [this]), (fun h0 => by have := c7 (by simpa using h0); simp [this]), (fun h0 => by have := c10 (by simpa using h0); simp [this]), (fun h0 => by have := c13 (by simpa using h0); simp [this]), (fun h0 => by have := c15 (by simpa using h0); simp [this]), (fun h0 => by have := c18 (by simpa using h0); simp [this]), (fun h0 => by have := c19 (by simpa using h0); simp [this]), (fun h0 => by have := c20 (by simpa using h0); simp [this])⟩
      | 17, _ =>
        simp only [List.getElem?_toArray, List.getElem?_cons_zero, List.getElem?_cons_succ, Option.some.injEq] at ho
        subst ho
        have g16 := f16 (hd ⟨16, Ground.data⟩ (by simp) rfl)
        subst x40
        refine wpOp_of rfl rfl ?_
        unfold Oper.wp
        have hcb1 : (29 : Int) ≤ (cb : Int) := by omega
        have hne : ¬ cb = 5 := by omega
        go_simp
        exact ⟨_, _, _, _, _, _, _, _, _, _, _, _, _, _, _, _, _, _, _, _, _, _, _, rfl, hb, (fun h0 => f0 (by simpa using h0)), (fun h0 => f1 (by simpa using h0)), (fun h0 => f2 (by simpa using h0)), (fun h0 => f3 (by simpa using h0)), (fun h0 h1 => f4 (by simpa using h0) (by simpa using h1)), (fun h0 h1 => f5 (by simpa using h0) (by simpa using h1)), (fun h0 => f6 (by simpa using h0)), (fun h0 => f7 (by simpa using h0)), (fun h0 => f8 (by simpa using h0)), (fun h0 => f9 (by simpa using h0)), (fun h0 => f10 (by simpa using h0)), (fun h0 => f11 (by simpa using h0)), (fun h0 => f12 (by simpa using h0)), (fun h0 h1 => f13 (by simpa using h0) (by simpa using h1)), (fun h0 h1 => f14 (by simpa using h0) (by simpa using h1)), (fun h0 h1 => f15 (by simpa using h0) (by simpa using h1)), (fun h0 => f16 (by simpa using h0)), (fun _ => rfl), (fun h0 => f18 (by simpa using h0)), (fun h0 => f19 (by simpa using h0)), (fun h0 => f20 (by simpa using h0)), (fun h0 => f21 (by simpa using h0)), (fun h0 => f22 (by simpa using h0)), (fun h0 h1 h2 => d1 (by simpa using h0) (by simpa using h1) (by simpa using h2)), (fun h0 h1 h2 => d2 (by simpa using h0) (by simpa using h1) (by simpa using h2)), (fun h0 h1 h2 => d3 (by simpa using h0) (by simpa using h1) (by simpa using h2)), (fun h0 h1 h2 => d4 (by simpa using h0) (by simpa using h1) (by simpa using h2)), (fun h0 h1 h2 => d5 (by simpa using h0) (by simpa using h1) (by simpa using h2)), (fun h0 h1 h2 => d6 (by simpa using h0) (by simpa using h1) (by simpa using h2)), (fun h0 => by have := c2 (by simpa using h0); simp [this]), (fun h0 => by have := c7 (by simpa using h0); simp [this]), (fun h0 => by have := c10 (by simpa using h0); simp [this]), (fun h0 => by have := c13 (by simpa using h0); simp [this]), (fun h0 => by have := c15 (by simpa using h0); simp [this]), (fun h0 => by have := c18 (by simpa using h0); simp [this]), (fun h0 => by have := c19 (by simpa using h0); simp [this]), (fun h0 => by have := c20 (by simpa using h0); simp [this])⟩
      | 18, _ =>
        simp only [List.getElem?_toArray, List.getElem?_cons_zero, List.getElem?_cons_succ, Option.some.injEq] at ho
        subst ho
        have g15 := f15 (hd ⟨15, Ground.data⟩ (by simp) rfl)
        have g17 := f17 (hd ⟨17, Ground.data⟩ (by simp) rfl)
        subst x41
        refine wpOp_of rfl rfl ?_
        have r4 := g15 hS
        have s13 := c15 (hd ⟨15, Ground.data⟩ (by simp) rfl)
        have s6 := c13 s13
        refine wp_appR (.tmp 39) (.tmp 41) 31 rfl w1.heap.size 5 i5 (.int .u8 0) 1 1 Try.underlying31 hif hi0 hi1 hi2 rfl (by decide) x39 5 (vB (bs.take 4 ++ [9])) rfl r4 ⟨ga, 5, none⟩ 24 (cb - 5) (vB (bs.drop 5)) rfl ((HRD.out.below hb).drop (by decide)) (by decide) (vB_one _) (by decide) (by decide) hb.size ?_
        intro v w2 hown hg hat
        exact ⟨_, _, _, _, _, _, _, _, _, _, _, _, _, _, _, _, _, _, _, _, _, _, _, rfl, hb.grown hg hb.size (fun g e => (r4.lt g e).1), (fun h0 => f0 (by simpa using h0)), (fun h0 => f1 (by simpa using h0)), (fun h0 => f2 (by simpa using h0)), (fun h0 => f3 (by simpa using h0)), (fun h0 h1 => far_grown (f4 (by simpa using h0) (by simpa using h1)) hg (fun g hv e => absurd s6 (by simp at h1; simp [h1]))), (fun h0 h1 => far_grown (f5 (by simpa using h0) (by simpa using h1)) hg (fun g hv e => absurd s6 (by simp at h1; simp [h1]))), (fun h0 => far_grown (f6 (by simpa using h0)) hg (fun g hv e => d5 (hd ⟨15, Ground.data⟩ (by simp) rfl) (by simpa using h0) hS g e hv)), (fun h0 => f7 (by simpa using h0)), (fun h0 => f8 (by simpa using h0)), (fun h0 => far_grown (f9 (by simpa using h0)) hg (fun g hv e => d6 (hd ⟨15, Ground.data⟩ (by simp) rfl) (by simpa using h0) hS g e hv)), (fun h0 => f10 (by simpa using h0)), (fun h0 => f11 (by simpa using h0)), (fun h0 => f12 (by simpa using h0)), (fun h0 h1 => far_grown (f13 (by simpa using h0) (by simpa using h1)) hg (fun g hv e => absurd (hd ⟨15, Ground.data⟩ (by simp) rfl) (by simp at h1; simp [h1]))), (fun h0 h1 => far_grown (f14 (by simpa using h0) (by simpa using h1)) hg (fun g hv e => absurd (hd ⟨15, Ground.data⟩ (by simp) rfl) (by simp at h1; simp [h1]))), (fun h0 h1 => by simp at h1), (fun h0 => f16 (by simpa using h0)), (fun h0 => f17 (by simpa using h0)), (fun _ => tel_app hown rfl rfl), (fun h0 => absurd (c19 (by simpa using h0)) (by simp [hS])), (fun h0 => absurd (c19 (c20 (by simpa using h0)).2.2.2.2) (by simp [hS])), (fun h0 => f21 (by simpa using h0)), (fun h0 => f22 (by simpa using h0)), (fun h0 h1 h2 => d1 (by simpa using h0) (by simpa using h1) (by simpa using h2)), (fun h0 h1 h2 => d2 (by simpa using h0) (by simpa using h1) (by simpa using h2)), (fun h0 h1 h2 => d3 (by simpa using h0) (by simpa using h1) (by simpa using h2)), (fun h0 h1 h2 => d4 (by simpa using h0) (by simpa using h1) (by simpa using h2)), (fun h0 h1 h2 => by simp at h2), (fun h0 h1 h2 => by simp at h2), (fun h0 => by have := c2 (by simpa using h0); simp [this]), (fun h0 => by have := c7 (by simpa using h0); simp [this]), (fun h0 => by have := c10 (by simpa using h0); simp [this]), (fun h0 => by have := c13 (by simpa using h0); simp [this]), (fun h0 => by have := c15 (by simpa using h0); simp [this]), (fun _ => by have := hd ⟨15, Ground.data⟩ (by simp) rfl; simp [this]), (fun _ => by simp), (fun h0 => by have := c20 (by simpa using h0); simp [this])⟩
      | 19, _ =>
        simp only [List.getElem?_toArray, List.getElem?_cons_zero, List.getElem?_cons_succ, Option.some.injEq] at ho
        subst ho
        have g18 := f18 (hd ⟨18, Ground.data⟩ (by simp) rfl)
        refine wpOp_of rfl rfl ?_
        obtain ⟨A0, C0, rfl, _, _⟩ := own_slice g18
        unfold Oper.wp
        go_simp
        exact ⟨_, _, _, _, _, _, _, _, _, _, _, _, _, _, _, _, _, _, _, _, _, _, _, rfl, hb, (fun h0 => f0 (by simpa using h0)), (fun h0 => f1 (by simpa using h0)), (fun h0 => f2 (by simpa using h0)), (fun h0 => f3 (by simpa using h0)), (fun h0 h1 => f4 (by simpa using h0) (by simpa using h1)), (fun h0 h1 => f5 (by simpa using h0) (by simpa using h1)), (fun h0 => f6 (by simpa using h0)), (fun h0 => f7 (by simpa using h0)), (fun h0 => f8 (by simpa using h0)), (fun h0 => f9 (by simpa using h0)), (fun h0 => f10 (by simpa using h0)), (fun h0 => f11 (by simpa using h0)), (fun h0 => f12 (by simpa using h0)), (fun h0 h1 => f13 (by simpa using h0) (by simpa using h1)), (fun h0 h1 => f14 (by simpa using h0) (by simpa using h1)), (fun h0 h1 => f15 (by simpa using h0) (by simpa using h1)), (fun h0 => f16 (by simpa using h0)), (fun h0 => f17 (by simpa using h0)), (fun h0 => f18 (by simpa using h0)), (fun _ => rfl), (fun h0 => f20 (by simpa using h0)), (fun h0 => f21 (by simpa using h0)), (fun h0 => f22 (by simpa using h0)), (fun h0 h1 h2 => d1 (by simpa using h0) (by simpa using h1) (by simpa using h2)), (fun h0 h1 h2 => d2 (by simpa using h0) (by simpa using h1) (by simpa using h2)), (fun h0 h1 h2 => d3 (by simpa using h0) (by simpa using h1) (by simpa using h2)), (fun h0 h1 h2 => d4 (by simpa using h0) (by simpa using h1) (by simpa using h2)), (fun h0 h1 h2 => d5 (by simpa using h0) (by simpa using h1) (by simpa using h2)), (fun h0 h1 h2 => d6 (by simpa using h0) (by simpa using h1) (by simpa using h2)), (fun h0 => by have := c2 (by simpa using h0); simp [this]), (fun h0 => by have := c7 (by simpa using h0); simp [this]), (fun h0 => by have := c10 (by simpa using h0); simp [this]), (fun h0 => by have := c13 (by simpa using h0); simp [this]), (fun h0 => by have := c15 (by simpa using h0); simp [this]), (fun h0 => by have := c18 (by simpa using h0); simp [this]), (fun _ => by have := hd ⟨18, Ground.data⟩ (by simp) rfl; simp [this]), (fun h0 => by have := c20 (by simpa using h0); simp [this])⟩
      | 20, _ =>
        simp only [List.getElem?_toArray, List.getElem?_cons_zero, List.getElem?_cons_succ, Option.some.injEq] at ho
        subst ho
        have g2 := f2 (hd ⟨2, Ground.data⟩ (by simp) rfl)
        have g7 := f7 (hd ⟨7, Ground.data⟩ (by simp) rfl)
        have g8 := f8 (hd ⟨8, Ground.data⟩ (by simp) rfl)
        have g10 := f10 (hd ⟨10, Ground.data⟩ (by simp) rfl)
        have g19 := f19 (hd ⟨19, Ground.data⟩ (by simp) rfl)
        subst x26
        subst x31
        subst x32
        subst x34
        subst x43
        refine wpOp_of rfl rfl ?_
        have s1 := c2 (hd ⟨2, Ground.data⟩ (by simp) rfl)
        have e1 := f1 s1
        subst x25
        unfold Oper.wp
        go_simp
        have hg : Below wx.heap.size wx (wx.alloc (.cells #[.slice (some ⟨ga, 0, none⟩) 28 cb, .int .i64 28, x30, .int .i64 29, .slice none 0 0, .int .i64 0, x33, .int .i64 3, x42, .int .i64 4] 39)) := below_a wx _
        exact ⟨_, _, _, _, _, _, _, _, _, _, _, _, _, _, _, _, _, _, _, _, _, _, _, rfl, hb.trans (hg.mono hb.size), (fun h0 => f0 (by simpa using h0)), (fun h0 => f1 (by simpa using h0)), (fun h0 => f2 (by simpa using h0)), (fun h0 => f3 (by simpa using h0)), (fun h0 h1 => own_below (f4 (by simpa using h0) (by simpa using h1)) hg), (fun h0 h1 => own_below (f5 (by simpa using h0) (by simpa using h1)) hg), (fun h0 => own_below (f6 (by simpa using h0)) hg), (fun h0 => f7 (by simpa using h0)), (fun h0 => f8 (by simpa using h0)), (fun h0 => own_below (f9 (by simpa using h0)) hg), (fun h0 => f10 (by simpa using h0)), (fun h0 => f11 (by simpa using h0)), (fun h0 => f12 (by simpa using h0)), (fun h0 h1 => own_below (f13 (by simpa using h0) (by simpa using h1)) hg), (fun h0 h1 => own_below (f14 (by simpa using h0) (by simpa using h1)) hg), (fun h0 h1 => own_below (f15 (by simpa using h0) (by simpa using h1)) hg), (fun h0 => f16 (by simpa using h0)), (fun h0 => f17 (by simpa using h0)), (fun h0 => own_below (f18 (by simpa using h0)) hg), (fun h0 => f19 (by simpa using h0)), (fun _ => ⟨wx.heap.size, rfl, hb.size, heap_alloc_new _ _⟩), (fun h0 => f21 (by simpa using h0)), (fun h0 => f22 (by simpa using h0)), (fun h0 h1 h2 => d1 (by simpa using h0) (by simpa using h1) (by simpa using h2)), (fun h0 h1 h2 => d2 (by simpa using h0) (by simpa using h1) (by simpa using h2)), (fun h0 h1 h2 => d3 (by simpa using h0) (by simpa using h1) (by simpa using h2)), (fun h0 h1 h2 => d4 (by simpa using h0) (by simpa using h1) (by simpa using h2)), (fun h0 h1 h2 => d5 (by simpa using h0) (by simpa using h1) (by simpa using h2)), (fun h0 h1 h2 => d6 (by simpa using h0) (by simpa using h1) (by simpa using h2)), (fun h0 => by have := c2 (by simpa using h0); simp [this]), (fun h0 => by have := c7 (by simpa using h0); simp [this]), (fun h0 => by have := c10 (by simpa using h0); simp [this]), (fun h0 => by have := c13 (by simpa using h0); simp [this]), (fun h0 => by have := c15 (by simpa using h0); simp [this]), (fun h0 => by have := c18 (by simpa using h0); simp [this]), (fun h0 => by have := c19 (by simpa using h0); simp [this]), (fun _ => ⟨by have := hd _ (show (⟨2, Ground.data⟩ : Edge) ∈ _ by simp) rfl; simp [this], by have := hd _ (show (⟨7, Ground.data⟩ : Edge) ∈ _ by simp) rfl; simp [this], by have := hd _ (show (⟨8, Ground.data⟩ : Edge) ∈ _ by simp) rfl; simp [this], by have := hd _ (show (⟨10, Ground.data⟩ : Edge) ∈ _ by simp) rfl; simp [this], by have := hd _ (show (⟨19, Ground.data⟩ : Edge) ∈ _ by simp) rfl; simp [this]⟩)⟩
      | 21, _ =>
        simp only [List.getElem?_toArray, List.getElem?_cons_zero, List.getElem?_cons_succ, Option.some.injEq] at ho
        subst ho
        have g20 := f20 (hd ⟨20, Ground.data⟩ (by simp) rfl)
        refine wpOp_of rfl rfl ?_
        obtain ⟨gs, rfl, hgs, hgc⟩ := g20
        unfold Oper.wp
        go_simp
        exact ⟨_, _, _, _, _, _, _, _, _, _, _, _, _, _, _, _, _, _, _, _, _, _, _, rfl, hb, (fun h0 => f0 (by simpa using h0)), (fun h0 => f1 (by simpa using h0)), (fun h0 => f2 (by simpa using h0)), (fun h0 => f3 (by simpa using h0)), (fun h0 h1 => f4 (by simpa using h0) (by simpa using h1)), (fun h0 h1 => f5 (by simpa using h0) (by simpa using h1)), (fun h0 => f6 (by simpa using h0)), (fun h0 => f7 (by simpa using h0)), (fun h0 => f8 (by simpa using h0)), (fun h0 => f9 (by simpa using h0)), (fun h0 => f10 (by simpa using h0)), (fun h0 => f11 (by simpa using h0)), (fun h0 => f12 (by simpa using h0)), (fun h0 h1 => f13 (by simpa using h0) (by simpa using h1)), (fun h0 h1 => f14 (by simpa using h0) (by simpa using h1)), (fun h0 h1 => f15 (by simpa using h0) (by simpa using h1)), (fun h0 => f16 (by simpa using h0)), (fun h0 => f17 (by simpa using h0)), (fun h0 => f18 (by simpa using h0)), (fun h0 => f19 (by simpa using h0)), (fun _ => ⟨gs, rfl, hgs, hgc⟩), (fun _ => rfl), (fun h0 => f22 (by simpa using h0)), (fun h0 h1 h2 => d1 (by simpa using h0) (by simpa using h1) (by simpa using h2)), (fun h0 h1 h2 => d2 (by simpa using h0) (by simpa using h1) (by simpa using h2)), (fun h0 h1 h2 => d3 (by simpa using h0) (by simpa using h1) (by simpa using h2)), (fun h0 h1 h2 => d4 (by simpa using h0) (by simpa using h1) (by simpa using h2)), (fun h0 h1 h2 => d5 (by simpa using h0) (by simpa using h1) (by simpa using h2)), (fun h0 h1 h2 => d6 (by simpa using h0) (by simpa using h1) (by simpa using h2)), (fun h0 => by have := c2 (by simpa using h0); simp [this]), (fun h0 => by have := c7 (by simpa using h0); simp [this]), (fun h0 => by have := c10 (by simpa using h0); simp [this]), (fun h0 => by have := c13 (by simpa using h0); simp [this]), (fun h0 => by have := c15 (by simpa using h0); simp [this]), (fun h0 => by have := c18 (by simpa using h0); simp [this]), (fun h0 => by have := c19 (by simpa using h0); simp [this]), (fun h0 => by have := c20 (by simpa using h0); simp [this])⟩
      | 22, _ =>
        simp only [List.getElem?_toArray, List.getElem?_cons_zero, List.getElem?_cons_succ, Option.some.injEq] at ho
        subst ho
        refine wpOp_of rfl rfl ?_
        unfold Oper.wp
        go_simp
        exact ⟨_, _, _, _, _, _, _, _, _, _, _, _, _, _, _, _, _, _, _, _, _, _, _, rfl, hb, (fun h0 => f0 (by simpa using h0)), (fun h0 => f1 (by simpa using h0)), (fun h0 => f2 (by simpa using h0)), (fun h0 => f3 (by simpa using h0)), (fun h0 h1 => f4 (by simpa using h0) (by simpa using h1)), (fun h0 h1 => f5 (by simpa using h0) (by simpa using h1)), (fun h0 => f6 (by simpa using h0)), (fun h0 => f7 (by simpa using h0)), (fun h0 => f8 (by simpa using h0)), (fun h0 => f9 (by simpa using h0)), (fun h0 => f10 (by simpa using h0)), (fun h0 => f11 (by simpa using h0)), (fun h0 => f12 (by simpa using h0)), (fun h0 h1 => f13 (by simpa using h0) (by simpa using h1)), (fun h0 h1 => f14 (by simpa using h0) (by simpa using h1)), (fun h0 h1 => f15 (by simpa using h0) (by simpa using h1)), (fun h0 => f16 (by simpa using h0)), (fun h0 => f17 (by simpa using h0)), (fun h0 => f18 (by simpa using h0)), (fun h0 => f19 (by simpa using h0)), (fun h0 => f20 (by simpa using h0)), (fun h0 => f21 (by simpa using h0)), (fun _ => rfl), (fun h0 h1 h2 => d1 (by simpa using h0) (by simpa using h1) (by simpa using h2)), (fun h0 h1 h2 => d2 (by simpa using h0) (by simpa using h1) (by simpa using h2)), (fun h0 h1 h2 => d3 (by simpa using h0) (by simpa using h1) (by simpa using h2)), (fun h0 h1 h2 => d4 (by simpa using h0) (by simpa using h1) (by simpa using h2)), (fun h0 h1 h2 => d5 (by simpa using h0) (by simpa using h1) (by simpa using h2)), (fun h0 h1 h2 => d6 (by simpa using h0) (by simpa using h1) (by simpa using h2)), (fun h0 => by have := c2 (by simpa using h0); simp [this]), (fun h0 => by have := c7 (by simpa using h0); simp [this]), (fun h0 => by have := c10 (by simpa using h0); simp [this]), (fun h0 => by have := c13 (by simpa using h0); simp [this]), (fun h0 => by have := c15 (by simpa using h0); simp [this]), (fun h0 => by have := c18 (by simpa using h0); simp [this]), (fun h0 => by have := c19 (by simpa using h0); simp [this]), (fun h0 => by have := c20 (by simpa using h0); simp [this])⟩
    · intro S a wx hI hall
      obtain ⟨x24, x25, x26, x27, x28, x29, x30, x31, x32, x33, x34, x35, x36, x37, x38, x39, x40, x41, x42, x43, x44, x45, x46, rfl, htab, rfl, rfl⟩ := hI.done hall
      go_wp2_with fail
      go_meet
      exact Lib.hid ⟨rfl, rfl, htab⟩
  case rest =>
    obtain ⟨rfl, rfl, htab⟩ := hcut.out
    have HT := Lib.hid htab
    clear hcut htab
    go_wp2_with fail
    have HZ : Hid (∀ wx, Calls Try.prog 18 #[.agg #[.int .i64 0, .int .i64 0, .slice none 0 0, .int .i64 0, .int .i64 0, .slice none 0 0, .slice none 0 0, .int .i64 0, .int .i64 0, .slice none 0 0, .slice none 0 0, .int .i64 0, .int .i64 0, .slice none 0 0, .slice none 0 0], .agg #[.int .i64 0, .int .i64 0, .slice none 0 0, .int .i64 0, .int .i64 0, .slice none 0 0, .slice none 0 0, .int .i64 0, .int .i64 0, .slice none 0 0, .slice none 0 0, .int .i64 0, .int .i64 0, .slice none 0 0, .slice none 0 0]] wx (BOut wx true)) := Lib.hid (fun wx => bool_out (d := true) (same18 u0 u0 L0 L0 wx (UnOwn.zero 0 wx 0 0).in (UnOwn.zero 0 wx 0 0).in) ⟨fun _ => rfl, fun _ => rfl⟩)
    obtain ⟨gs0, hgs0⟩ : ∃ gs, u44 = .slice (some ⟨gs, 0, none⟩) 5 5 := by
      obtain ⟨gs, _, _, _, _, _, _, e, _⟩ := HT.out
      exact ⟨gs, e⟩
    subst hgs0
    rw [HBS.out.symm] at HT
    subst HBS
    go_loopw [46] (fun i wr => ∃ k : Nat, k ≤ 5 ∧ i = .int .i64 k ∧ Hid (KTab w1 wr ga cb exU.bytes (.slice (some ⟨gs0, 0, none⟩) 5 5))) (fun i _ => 5 - (intOf i).toNat)
    case atStart => exact ⟨0, by omega, rfl, HT.out⟩
    case round =>
      obtain ⟨k, hk, rfl, HR⟩ := hrel
      by_cases hlt : k < 5
      · obtain ⟨gs, A, n, c, l, q, e, c0, c1, hr, hnc, hn, hl, hd⟩ := known_at HRD.out hcb HR.out k hlt
        cases e
        have HDEC := Lib.hid (decode17 (w := wr.alloc (.cells #[.slice A n c, .int .i64 (q : Nat)] 39)) (hr.alloc _) hl (by omega) hnc)
        have HD := Lib.hid hd
        clear hr hl hd
        go_wp2_with fail
        (with_reducible refine HDEC.out.mono ?_)
        rintro e x4 ⟨hb, hd⟩
        rw [HD.out] at hd
        rw [hz0] at hd
        subst hd
        have HT4 := Lib.hid ((HR.out.below (below_a wr _)).below hb)
        have m0 : x4.cell? ⟨wr.heap.size, 0, none⟩ = some (.slice A n c) := (hb.cell (p := ⟨wr.heap.size, 0, none⟩) (by simp)).trans (cell_of_row _ _ 0 _ 39 (0, 0) (heap_alloc_new wr _))
        have m1 : x4.cell? ⟨wr.heap.size, 1, none⟩ = some (.int .i64 (q : Nat)) := (hb.cell (p := ⟨wr.heap.size, 1, none⟩) (by simp)).trans (cell_of_row _ _ 1 _ 39 (0, 0) (heap_alloc_new wr _))
        have q3 : BoxAt ((x4.alloc (.cells #[.int .i64 0, .int .i64 0, .slice none 0 0, .int .i64 0, .int .i64 0, .slice none 0 0, .slice none 0 0, .int .i64 0, .int .i64 0, .slice none 0 0, .slice none 0 0, .int .i64 0, .int .i64 0, .slice none 0 0, .slice none 0 0] 28)).alloc (.cells #[.int .i64 170, .int .i64 (q : Nat)] 43)) x4.heap.size (.agg #[.int .i64 0, .int .i64 0, .slice none 0 0, .int .i64 0, .int .i64 0, .slice none 0 0, .slice none 0 0, .int .i64 0, .int .i64 0, .slice none 0 0, .slice none 0 0, .int .i64 0, .int .i64 0, .slice none 0 0, .slice none 0 0]) := zero_box (by rw [Below.heap_alloc _ _ _ (by simp)]; exact heap_alloc_new _ _)
        have hx4 : wr.heap.size < x4.heap.size := by have := hb.size; simp at this; omega
        have HB45 := Lib.hid (((Below.refl x4.heap.size x4).alloc (Nat.le_refl _) (.cells #[.int .i64 0, .int .i64 0, .slice none 0 0, .int .i64 0, .int .i64 0, .slice none 0 0, .slice none 0 0, .int .i64 0, .int .i64 0, .slice none 0 0, .slice none 0 0, .int .i64 0, .int .i64 0, .slice none 0 0, .slice none 0 0] 28)).alloc (by simp) (.cells #[.int .i64 170, .int .i64 (q : Nat)] 43))
        clear hb HDEC c0 c1
        go_wp2_with (first | (refine wpList_load_boxg rfl (.tmp 5) rfl _ rfl q3 ?_) | ((with_reducible refine (HZ.out _).mono ?_)))
        rintro e x6 ⟨rfl, hb⟩
        have HT6 := Lib.hid ((HT4.out.below HB45.out).below hb)
        clear hb q3 m0 m1
        go_wp2_with fail
        go_roundw
        case rel => exact ⟨k + 1, by omega, by go_num, HT6.out⟩
        case measure => simp [intOf]; omega
      · obtain rfl : k = 5 := by omega
        have HT5 := Lib.hid HR.out
        obtain ⟨w3, hw3⟩ : ∃ w3, w3 = wr := ⟨_, rfl⟩
        have HB1 : Hid (Below w1.heap.size w1 w3) := Lib.hid (by
          rw [hw3]
          obtain ⟨_, _, _, _, _, _, _, _, _, _, hb, _⟩ := HT5.out
          exact hb)
        have HQ3 : Hid (BoxAt w3 x2.heap.size U) := Lib.hid (HQ1.out.below HB1.out)
        have HCP := Lib.hid (fun wx (h : Below w3.heap.size w3 wx) => copied19 exU L wx (HU.out.below (HB1.out.trans (h.mono HB1.out.size))) exU_fits)
        unfold UnV.val at HCP
        unfold UnV.cells at HCP
        rw [HUU.out] at HCP
        subst hw3
        clear HR HT5
        go_upto_region 11 with (fail)
        go_cut [7, 8, 9] from 68 to 73 (fun a b c wx => Hid (Kn11 w3 wx a b c))
        case first =>
          have HB0 := Lib.hid (Below.refl w3.heap.size w3).drew
          obtain ⟨INV, hINV⟩ : ∃ I : (Nat → Bool) → Act → World → Prop, I = (fun S a w' => ∃ (x7 x8 x9 x68 x69 x70 x71 x72 x73 : Value) (M N K : UnV) (g7 g8 g9 : Nat), a = ⟨#[u0, .pointer (some ⟨x2.heap.size, 0, none⟩), .slice (some ⟨ga, 0, none⟩) 29 cb, undef, u4, u5, u6, x7, x8, x9, undef, undef, undef, undef, undef, undef, .bool false, .bool true, .bool false, .bool false, .tuple #[U, .slice (some ⟨ga, 0, none⟩) 29 cb], .tuple #[U, .slice (some ⟨ga, 0, none⟩) 29 cb], U, .slice (some ⟨ga, 0, none⟩) 29 cb, u24, u25, u26, u27, u28, u29, u30, u31, u32, u33, u34, u35, u36, u37, u38, u39, u40, u41, u42, u43, .slice (some ⟨gs0, 0, none⟩) 5 5, .int .i64 5, .int .i64 ((5 : Nat) : Int), .bool false, u48, u49, u50, u51, u52, u53, u54, u55, u56, u57, u58, u59, u60, u61, u62, u63, u64, u65, u66, u67, x68, x69, x70, x71, x72, x73, undef, undef, undef, undef, undef, undef, undef, undef, undef, undef, undef, undef, undef, undef, undef, undef, undef, undef, undef, undef, undef, undef, undef, undef, undef, undef, undef, undef, undef, undef, undef, undef, undef, undef, undef, undef, undef, undef, undef, undef, undef, undef, undef, undef, undef, undef, undef, undef, undef, undef, undef, undef, undef, undef, undef, undef, undef, undef, undef, undef, undef, undef, undef, undef, undef, undef, undef, undef, undef, undef], []⟩ ∧ Below w3.heap.size w3 w' ∧ (S 0 = true → x68 = U) ∧ (S 2 = true → x70 = U) ∧ (S 4 = true → x72 = U) ∧ (S 1 = true → x69 = M.val exU ∧ UnOwn w3.heap.size w' M exU) ∧ (S 6 = true → x7 = .pointer (some ⟨g7, 0, none⟩) ∧ w3.heap.size ≤ g7 ∧ g7 < w'.heap.size) ∧ (S 6 = true → S 9 = false → w'.heap[g7]? = some (.cells #[.int .i64 0, .int .i64 0, .slice none 0 0, .int .i64 0, .int .i64 0, .slice none 0 0, .slice none 0 0, .int .i64 0, .int .i64 0, .slice none 0 0, .slice none 0 0, .int .i64 0, .int .i64 0, .slice none 0 0, .slice none 0 0] 28 (0, 0))) ∧ (S 9 = true → w'.heap[g7]? = some (.cells (M.cells exU) 28 (0, 0))) ∧ (S 3 = true → x71 = N.val exU ∧ UnOwn w3.heap.size w' N exU) ∧ (S 7 = true → x8 = .pointer (some ⟨g8, 0, none⟩) ∧ w3.heap.size ≤ g8 ∧ g8 < w'.heap.size) ∧ (S 7 = true → S 10 = false → w'.heap[g8]? = some (.cells #[.int .i64 0, .int .i64 0, .slice none 0 0, .int .i64 0, .int .i64 0, .slice none 0 0, .slice none 0 0, .int .i64 0, .int .i64 0, .slice none 0 0, .slice none 0 0, .int .i64 0, .int .i64 0, .slice none 0 0, .slice none 0 0] 28 (0, 0))) ∧ (S 10 = true → w'.heap[g8]? = some (.cells (N.cells exU) 28 (0, 0))) ∧ (S 5 = true → x73 = K.val exU ∧ UnOwn w3.heap.size w' K exU) ∧ (S 8 = true → x9 = .pointer (some ⟨g9, 0, none⟩) ∧ w3.heap.size ≤ g9 ∧ g9 < w'.heap.size) ∧ (S 8 = true → S 11 = false → w'.heap[g9]? = some (.cells #[.int .i64 0, .int .i64 0, .slice none 0 0, .int .i64 0, .int .i64 0, .slice none 0 0, .slice none 0 0, .int .i64 0, .int .i64 0, .slice none 0 0, .slice none 0 0, .int .i64 0, .int .i64 0, .slice none 0 0, .slice none 0 0] 28 (0, 0))) ∧ (S 11 = true → w'.heap[g9]? = some (.cells (K.cells exU) 28 (0, 0))) ∧ (S 1 = true → S 3 = true → Apart (.slice M.P exU.pts.length M.c) (.slice N.P exU.pts.length N.c)) ∧ (S 3 = true → S 5 = true → Apart (.slice N.P exU.pts.length N.c) (.slice K.P exU.pts.length K.c)) ∧ (S 6 = true → S 7 = true → g7 ≠ g8) ∧ (S 6 = true → S 8 = true → g7 ≠ g9) ∧ (S 7 = true → S 8 = true → g8 ≠ g9) ∧ (S 3 = true → S 1 = true) ∧ (S 5 = true → S 3 = true) ∧ (S 9 = true → S 1 = true ∧ S 6 = true) ∧ (S 10 = true → S 3 = true ∧ S 7 = true) ∧ (S 11 = true → S 5 = true ∧ S 8 = true)) := ⟨_, rfl⟩
          have HINV := Lib.hid hINV
          clear hINV
          refine wp_region_inv (by kernel_rfl) INV ?_ ?_ ?_ ?_
          · rw [HINV.out]; exact ⟨_, _, _, _, _, _, _, _, _, L0, L0, L0, 0, 0, 0, rfl, HB0.out, (fun h => by cases h), (fun h => by cases h), (fun h => by cases h), (fun h => by cases h), (fun h => by cases h), (fun h _ => by cases h), (fun h => by cases h), (fun h => by cases h), (fun h => by cases h), (fun h _ => by cases h), (fun h => by cases h), (fun h => by cases h), (fun h => by cases h), (fun h _ => by cases h), (fun h => by cases h), (fun h _ => by cases h), (fun h _ => by cases h), (fun h _ => by cases h), (fun h _ => by cases h), (fun h _ => by cases h), (fun h => by cases h), (fun h => by cases h), (fun h => by cases h), (fun h => by cases h), (fun h => by cases h)⟩
          · intro i o ho e he
            have hi : i < 12 := by
              rcases Nat.lt_or_ge i 12 with h | h
              · exact h
              · rw [Array.getElem?_eq_none (by simpa using h)] at ho; cases ho
            revert e
            match i, hi with
            | 0, _ => (cases ho; decide)
            | 1, _ => (cases ho; decide)
            | 2, _ => (cases ho; decide)
            | 3, _ => (cases ho; decide)
            | 4, _ => (cases ho; decide)
            | 5, _ => (cases ho; decide)
            | 6, _ => (cases ho; decide)
            | 7, _ => (cases ho; decide)
            | 8, _ => (cases ho; decide)
            | 9, _ => (cases ho; decide)
            | 10, _ => (cases ho; decide)
            | 11, _ => (cases ho; decide)
          · intro S a wx i o hI ho hS hd
            rw [HINV.out] at hI
            obtain ⟨x7, x8, x9, x68, x69, x70, x71, x72, x73, M, N, K, g7, g8, g9, rfl, hb, f0, f2, f4, f1, f6, z6, f9, f3, f7, z7, f10, f5, f8, z8, f11, m3, m5, n67, n68, n78, c3, c5, c9, c10, c11⟩ := hI
            have hi : i < 12 := by
              rcases Nat.lt_or_ge i 12 with h | h
              · exact h
              · rw [Array.getElem?_eq_none (by simpa using h)] at ho; cases ho
            match i, hi with
            | 0, _ =>
              simp only [List.getElem?_toArray, List.getElem?_cons_zero, Option.some.injEq] at ho
              subst ho
              refine wpOp_of rfl rfl ?_
              refine wp_load_box (.tmp 1) rfl x2.heap.size rfl (HQ3.out.below hb) ?_
              rw [HINV.out]
              exact ⟨_, _, _, _, _, _, _, _, _, M, N, K, g7, g8, g9, rfl, hb, (fun _ => rfl), (fun h0 => f2 (by simpa using h0)), (fun h0 => f4 (by simpa using h0)), (fun h0 => f1 (by simpa using h0)), (fun h0 => f6 (by simpa using h0)), (fun h0 h1 => z6 (by simpa using h0) (by simpa using h1)), (fun h0 => f9 (by simpa using h0)), (fun h0 => f3 (by simpa using h0)), (fun h0 => f7 (by simpa using h0)), (fun h0 h1 => z7 (by simpa using h0) (by simpa using h1)), (fun h0 => f10 (by simpa using h0)), (fun h0 => f5 (by simpa using h0)), (fun h0 => f8 (by simpa using h0)), (fun h0 h1 => z8 (by simpa using h0) (by simpa using h1)), (fun h0 => f11 (by simpa using h0)), (fun h0 h1 => m3 (by simpa using h0) (by simpa using h1)), (fun h0 h1 => m5 (by simpa using h0) (by simpa using h1)), (fun h0 h1 => n67 (by simpa using h0) (by simpa using h1)), (fun h0 h1 => n68 (by simpa using h0) (by simpa using h1)), (fun h0 h1 => n78 (by simpa using h0) (by simpa using h1)), (fun h0 => by have := c3 (by simpa using h0); simp [this]), (fun h0 => by have := c5 (by simpa using h0); simp [this]), (fun h0 => by have := c9 (by simpa using h0); simp [this]), (fun h0 => by have := c10 (by simpa using h0); simp [this]), (fun h0 => by have := c11 (by simpa using h0); simp [this])⟩
            | 1, _ =>
              simp only [List.getElem?_toArray, List.getElem?_cons_zero, List.getElem?_cons_succ, Option.some.injEq] at ho
              subst ho
              have gd := f0 (hd ⟨0, Ground.data⟩ (by simp) rfl)
              subst x68
              refine wpOp_of rfl rfl ?_
              unfold Oper.wp
              go_simp
              (with_reducible refine (HCP.out _ hb).mono ?_)
              rintro e w2 ⟨V, rfl, hown, hg⟩
              have hsz := hg.size
              rw [HINV.out]
              exact ⟨_, _, _, _, _, _, _, _, _, V, N, K, g7, g8, g9, rfl, hb.trans (hg.mono hb.size), (fun h0 => f0 (by simpa using h0)), (fun h0 => f2 (by simpa using h0)), (fun h0 => f4 (by simpa using h0)), (fun _ => ⟨rfl, kn_base hown hb.size⟩), (fun h0 => by have h9 := f6 (by simpa using h0); exact ⟨h9.1, h9.2.1, Nat.lt_of_lt_of_le h9.2.2 hsz⟩), (fun h0 h1 => by have h9 := z6 (by simpa using h0) (by simpa using h1); exact (hg.block _ (Array.getElem?_eq_some_iff.1 h9).1).trans h9), (fun h0 => absurd (c9 (by simpa using h0)).1 (by simp [hS])), (fun h0 => by have h9 := f3 (by simpa using h0); exact ⟨h9.1, kn_own h9.2 hg⟩), (fun h0 => by have h9 := f7 (by simpa using h0); exact ⟨h9.1, h9.2.1, Nat.lt_of_lt_of_le h9.2.2 hsz⟩), (fun h0 h1 => by have h9 := z7 (by simpa using h0) (by simpa using h1); exact (hg.block _ (Array.getElem?_eq_some_iff.1 h9).1).trans h9), (fun h0 => by have h9 := f10 (by simpa using h0); exact (hg.block _ (Array.getElem?_eq_some_iff.1 h9).1).trans h9), (fun h0 => by have h9 := f5 (by simpa using h0); exact ⟨h9.1, kn_own h9.2 hg⟩), (fun h0 => by have h9 := f8 (by simpa using h0); exact ⟨h9.1, h9.2.1, Nat.lt_of_lt_of_le h9.2.2 hsz⟩), (fun h0 h1 => by have h9 := z8 (by simpa using h0) (by simpa using h1); exact (hg.block _ (Array.getElem?_eq_some_iff.1 h9).1).trans h9), (fun h0 => by have h9 := f11 (by simpa using h0); exact (hg.block _ (Array.getElem?_eq_some_iff.1 h9).1).trans h9), (fun _ h1 => absurd (c3 (by simpa using h1)) (by simp [hS])), (fun h0 h1 => m5 (by simpa using h0) (by simpa using h1)), (fun h0 h1 => n67 (by simpa using h0) (by simpa using h1)), (fun h0 h1 => n68 (by simpa using h0) (by simpa using h1)), (fun h0 h1 => n78 (by simpa using h0) (by simpa using h1)), (fun _ => by simp), (fun h0 => by have := c5 (by simpa using h0); simp [this]), (fun h0 => by have h9 := c9 (by simpa using h0); simp [h9]), (fun h0 => by have := c10 (by simpa using h0); simp [this]), (fun h0 => by have := c11 (by simpa using h0); simp [this])⟩
            | 2, _ =>
              simp only [List.getElem?_toArray, List.getElem?_cons_zero, List.getElem?_cons_succ, Option.some.injEq] at ho
              subst ho
              refine wpOp_of rfl rfl ?_
              refine wp_load_box (.tmp 1) rfl x2.heap.size rfl (HQ3.out.below hb) ?_
              rw [HINV.out]
              exact ⟨_, _, _, _, _, _, _, _, _, M, N, K, g7, g8, g9, rfl, hb, (fun h0 => f0 (by simpa using h0)), (fun _ => rfl), (fun h0 => f4 (by simpa using h0)), (fun h0 => f1 (by simpa using h0)), (fun h0 => f6 (by simpa using h0)), (fun h0 h1 => z6 (by simpa using h0) (by simpa using h1)), (fun h0 => f9 (by simpa using h0)), (fun h0 => f3 (by simpa using h0)), (fun h0 => f7 (by simpa using h0)), (fun h0 h1 => z7 (by simpa using h0) (by simpa using h1)), (fun h0 => f10 (by simpa using h0)), (fun h0 => f5 (by simpa using h0)), (fun h0 => f8 (by simpa using h0)), (fun h0 h1 => z8 (by simpa using h0) (by simpa using h1)), (fun h0 => f11 (by simpa using h0)), (fun h0 h1 => m3 (by simpa using h0) (by simpa using h1)), (fun h0 h1 => m5 (by simpa using h0) (by simpa using h1)), (fun h0 h1 => n67 (by simpa using h0) (by simpa using h1)), (fun h0 h1 => n68 (by simpa using h0) (by simpa using h1)), (fun h0 h1 => n78 (by simpa using h0) (by simpa using h1)), (fun h0 => by have := c3 (by simpa using h0); simp [this]), (fun h0 => by have := c5 (by simpa using h0); simp [this]), (fun h0 => by have := c9 (by simpa using h0); simp [this]), (fun h0 => by have := c10 (by simpa using h0); simp [this]), (fun h0 => by have := c11 (by simpa using h0); simp [this])⟩
            | 3, _ =>
              simp only [List.getElem?_toArray, List.getElem?_cons_zero, List.getElem?_cons_succ, Option.some.injEq] at ho
              subst ho
              have gd := f2 (hd ⟨2, Ground.data⟩ (by simp) rfl)
              subst x70
              refine wpOp_of rfl rfl ?_
              unfold Oper.wp
              go_simp
              (with_reducible refine (HCP.out _ hb).mono ?_)
              rintro e w2 ⟨V, rfl, hown, hg⟩
              have hsz := hg.size
              rw [HINV.out]
              exact ⟨_, _, _, _, _, _, _, _, _, M, V, K, g7, g8, g9, rfl, hb.trans (hg.mono hb.size), (fun h0 => f0 (by simpa using h0)), (fun h0 => f2 (by simpa using h0)), (fun h0 => f4 (by simpa using h0)), (fun h0 => by have h9 := f1 (by simpa using h0); exact ⟨h9.1, kn_own h9.2 hg⟩), (fun h0 => by have h9 := f6 (by simpa using h0); exact ⟨h9.1, h9.2.1, Nat.lt_of_lt_of_le h9.2.2 hsz⟩), (fun h0 h1 => by have h9 := z6 (by simpa using h0) (by simpa using h1); exact (hg.block _ (Array.getElem?_eq_some_iff.1 h9).1).trans h9), (fun h0 => by have h9 := f9 (by simpa using h0); exact (hg.block _ (Array.getElem?_eq_some_iff.1 h9).1).trans h9), (fun _ => ⟨rfl, kn_base hown hb.size⟩), (fun h0 => by have h9 := f7 (by simpa using h0); exact ⟨h9.1, h9.2.1, Nat.lt_of_lt_of_le h9.2.2 hsz⟩), (fun h0 h1 => by have h9 := z7 (by simpa using h0) (by simpa using h1); exact (hg.block _ (Array.getElem?_eq_some_iff.1 h9).1).trans h9), (fun h0 => absurd (c10 (by simpa using h0)).1 (by simp [hS])), (fun h0 => by have h9 := f5 (by simpa using h0); exact ⟨h9.1, kn_own h9.2 hg⟩), (fun h0 => by have h9 := f8 (by simpa using h0); exact ⟨h9.1, h9.2.1, Nat.lt_of_lt_of_le h9.2.2 hsz⟩), (fun h0 h1 => by have h9 := z8 (by simpa using h0) (by simpa using h1); exact (hg.block _ (Array.getElem?_eq_some_iff.1 h9).1).trans h9), (fun h0 => by have h9 := f11 (by simpa using h0); exact (hg.block _ (Array.getElem?_eq_some_iff.1 h9).1).trans h9), (fun h0 _ g e1 e2 => by have h2 := own_lt (f1 (by simpa using h0)).2.pts e1; have h3 := (hown.pts.lt g e2).1; omega), (fun _ h1 => absurd (c5 (by simpa using h1)) (by simp [hS])), (fun h0 h1 => n67 (by simpa using h0) (by simpa using h1)), (fun h0 h1 => n68 (by simpa using h0) (by simpa using h1)), (fun h0 h1 => n78 (by simpa using h0) (by simpa using h1)), (fun _ => by have := hd ⟨1, Ground.chain⟩ (by simp) rfl; simp [this]), (fun _ => by simp), (fun h0 => by have := c9 (by simpa using h0); simp [this]), (fun h0 => by have h9 := c10 (by simpa using h0); simp [h9]), (fun h0 => by have := c11 (by simpa using h0); simp [this])⟩
            | 4, _ =>
              simp only [List.getElem?_toArray, List.getElem?_cons_zero, List.getElem?_cons_succ, Option.some.injEq] at ho
              subst ho
              refine wpOp_of rfl rfl ?_
              refine wp_load_box (.tmp 1) rfl x2.heap.size rfl (HQ3.out.below hb) ?_
              rw [HINV.out]
              exact ⟨_, _, _, _, _, _, _, _, _, M, N, K, g7, g8, g9, rfl, hb, (fun h0 => f0 (by simpa using h0)), (fun h0 => f2 (by simpa using h0)), (fun _ => rfl), (fun h0 => f1 (by simpa using h0)), (fun h0 => f6 (by simpa using h0)), (fun h0 h1 => z6 (by simpa using h0) (by simpa using h1)), (fun h0 => f9 (by simpa using h0)), (fun h0 => f3 (by simpa using h0)), (fun h0 => f7 (by simpa using h0)), (fun h0 h1 => z7 (by simpa using h0) (by simpa using h1)), (fun h0 => f10 (by simpa using h0)), (fun h0 => f5 (by simpa using h0)), (fun h0 => f8 (by simpa using h0)), (fun h0 h1 => z8 (by simpa using h0) (by simpa using h1)), (fun h0 => f11 (by simpa using h0)), (fun h0 h1 => m3 (by simpa using h0) (by simpa using h1)), (fun h0 h1 => m5 (by simpa using h0) (by simpa using h1)), (fun h0 h1 => n67 (by simpa using h0) (by simpa using h1)), (fun h0 h1 => n68 (by simpa using h0) (by simpa using h1)), (fun h0 h1 => n78 (by simpa using h0) (by simpa using h1)), (fun h0 => by have := c3 (by simpa using h0); simp [this]), (fun h0 => by have := c5 (by simpa using h0); simp [this]), (fun h0 => by have := c9 (by simpa using h0); simp [this]), (fun h0 => by have := c10 (by simpa using h0); simp [this]), (fun h0 => by have := c11 (by simpa using h0); simp [this])⟩
            | 5, _ =>
              simp only [List.getElem?_toArray, List.getElem?_cons_zero, List.getElem?_cons_succ, Option.some.injEq] at ho
              subst ho
              have gd := f4 (hd ⟨4, Ground.data⟩ (by simp) rfl)
              subst x72
              refine wpOp_of rfl rfl ?_
              unfold Oper.wp
              go_simp
              (with_reducible refine (HCP.out _ hb).mono ?_)
              rintro e w2 ⟨V, rfl, hown, hg⟩
              have hsz := hg.size
              rw [HINV.out]
              exact ⟨_, _, _, _, _, _, _, _, _, M, N, V, g7, g8, g9, rfl, hb.trans (hg.mono hb.size), (fun h0 => f0 (by simpa using h0)), (fun h0 => f2 (by simpa using h0)), (fun h0 => f4 (by simpa using h0)), (fun h0 => by have h9 := f1 (by simpa using h0); exact ⟨h9.1, kn_own h9.2 hg⟩), (fun h0 => by have h9 := f6 (by simpa using h0); exact ⟨h9.1, h9.2.1, Nat.lt_of_lt_of_le h9.2.2 hsz⟩), (fun h0 h1 => by have h9 := z6 (by simpa using h0) (by simpa using h1); exact (hg.block _ (Array.getElem?_eq_some_iff.1 h9).1).trans h9), (fun h0 => by have h9 := f9 (by simpa using h0); exact (hg.block _ (Array.getElem?_eq_some_iff.1 h9).1).trans h9), (fun h0 => by have h9 := f3 (by simpa using h0); exact ⟨h9.1, kn_own h9.2 hg⟩), (fun h0 => by have h9 := f7 (by simpa using h0); exact ⟨h9.1, h9.2.1, Nat.lt_of_lt_of_le h9.2.2 hsz⟩), (fun h0 h1 => by have h9 := z7 (by simpa using h0) (by simpa using h1); exact (hg.block _ (Array.getElem?_eq_some_iff.1 h9).1).trans h9), (fun h0 => by have h9 := f10 (by simpa using h0); exact (hg.block _ (Array.getElem?_eq_some_iff.1 h9).1).trans h9), (fun _ => ⟨rfl, kn_base hown hb.size⟩), (fun h0 => by have h9 := f8 (by simpa using h0); exact ⟨h9.1, h9.2.1, Nat.lt_of_lt_of_le h9.2.2 hsz⟩), (fun h0 h1 => by have h9 := z8 (by simpa using h0) (by simpa using h1); exact (hg.block _ (Array.getElem?_eq_some_iff.1 h9).1).trans h9), (fun h0 => absurd (c11 (by simpa using h0)).1 (by simp [hS])), (fun h0 h1 => m3 (by simpa using h0) (by simpa using h1)), (fun h0 _ g e1 e2 => by have h2 := own_lt (f3 (by simpa using h0)).2.pts e1; have h3 := (hown.pts.lt g e2).1; omega), (fun h0 h1 => n67 (by simpa using h0) (by simpa using h1)), (fun h0 h1 => n68 (by simpa using h0) (by simpa using h1)), (fun h0 h1 => n78 (by simpa using h0) (by simpa using h1)), (fun h0 => by have := c3 (by simpa using h0); simp [this]), (fun _ => by have := hd ⟨3, Ground.chain⟩ (by simp) rfl; simp [this]), (fun h0 => by have := c9 (by simpa using h0); simp [this]), (fun h0 => by have := c10 (by simpa using h0); simp [this]), (fun h0 => by have h9 := c11 (by simpa using h0); simp [h9])⟩
            | 6, _ =>
              simp only [List.getElem?_toArray, List.getElem?_cons_zero, List.getElem?_cons_succ, Option.some.injEq] at ho
              subst ho
              refine wpOp_of rfl rfl ?_
              refine wp_alloc_box rfl ?_
              have hg : Below wx.heap.size wx (wx.alloc (.cells #[.int .i64 0, .int .i64 0, .slice none 0 0, .int .i64 0, .int .i64 0, .slice none 0 0, .slice none 0 0, .int .i64 0, .int .i64 0, .slice none 0 0, .slice none 0 0, .int .i64 0, .int .i64 0, .slice none 0 0, .slice none 0 0] 28)) := below_a wx _
              have hsz := hg.size
              rw [HINV.out]
              exact ⟨_, _, _, _, _, _, _, _, _, M, N, K, wx.heap.size, g8, g9, rfl, hb.trans (hg.mono hb.size), (fun h0 => f0 (by simpa using h0)), (fun h0 => f2 (by simpa using h0)), (fun h0 => f4 (by simpa using h0)), (fun h0 => by have h9 := f1 (by simpa using h0); exact ⟨h9.1, kn_own h9.2 hg⟩), (fun _ => ⟨rfl, hb.size, by simp⟩), (fun _ _ => heap_alloc_new _ _), (fun h0 => absurd (c9 (by simpa using h0)).2 (by simp [hS])), (fun h0 => by have h9 := f3 (by simpa using h0); exact ⟨h9.1, kn_own h9.2 hg⟩), (fun h0 => by have h9 := f7 (by simpa using h0); exact ⟨h9.1, h9.2.1, Nat.lt_of_lt_of_le h9.2.2 hsz⟩), (fun h0 h1 => by have h9 := z7 (by simpa using h0) (by simpa using h1); exact (hg.block _ (Array.getElem?_eq_some_iff.1 h9).1).trans h9), (fun h0 => by have h9 := f10 (by simpa using h0); exact (hg.block _ (Array.getElem?_eq_some_iff.1 h9).1).trans h9), (fun h0 => by have h9 := f5 (by simpa using h0); exact ⟨h9.1, kn_own h9.2 hg⟩), (fun h0 => by have h9 := f8 (by simpa using h0); exact ⟨h9.1, h9.2.1, Nat.lt_of_lt_of_le h9.2.2 hsz⟩), (fun h0 h1 => by have h9 := z8 (by simpa using h0) (by simpa using h1); exact (hg.block _ (Array.getElem?_eq_some_iff.1 h9).1).trans h9), (fun h0 => by have h9 := f11 (by simpa using h0); exact (hg.block _ (Array.getElem?_eq_some_iff.1 h9).1).trans h9), (fun h0 h1 => m3 (by simpa using h0) (by simpa using h1)), (fun h0 h1 => m5 (by simpa using h0) (by simpa using h1)), (fun _ h1 => by have h2 := (f7 (by simpa using h1)).2.2; omega), (fun _ h1 => by have h2 := (f8 (by simpa using h1)).2.2; omega), (fun h0 h1 => n78 (by simpa using h0) (by simpa using h1)), (fun h0 => by have := c3 (by simpa using h0); simp [this]), (fun h0 => by have := c5 (by simpa using h0); simp [this]), (fun h0 => by have := c9 (by simpa using h0); simp [this]), (fun h0 => by have := c10 (by simpa using h0); simp [this]), (fun h0 => by have := c11 (by simpa using h0); simp [this])⟩
            | 7, _ =>
              simp only [List.getElem?_toArray, List.getElem?_cons_zero, List.getElem?_cons_succ, Option.some.injEq] at ho
              subst ho
              refine wpOp_of rfl rfl ?_
              refine wp_alloc_box rfl ?_
              have hg : Below wx.heap.size wx (wx.alloc (.cells #[.int .i64 0, .int .i64 0, .slice none 0 0, .int .i64 0, .int .i64 0, .slice none 0 0, .slice none 0 0, .int .i64 0, .int .i64 0, .slice none 0 0, .slice none 0 0, .int .i64 0, .int .i64 0, .slice none 0 0, .slice none 0 0] 28)) := below_a wx _
              have hsz := hg.size
              rw [HINV.out]
              exact ⟨_, _, _, _, _, _, _, _, _, M, N, K, g7, wx.heap.size, g9, rfl, hb.trans (hg.mono hb.size), (fun h0 => f0 (by simpa using h0)), (fun h0 => f2 (by simpa using h0)), (fun h0 => f4 (by simpa using h0)), (fun h0 => by have h9 := f1 (by simpa using h0); exact ⟨h9.1, kn_own h9.2 hg⟩), (fun h0 => by have h9 := f6 (by simpa using h0); exact ⟨h9.1, h9.2.1, Nat.lt_of_lt_of_le h9.2.2 hsz⟩), (fun h0 h1 => by have h9 := z6 (by simpa using h0) (by simpa using h1); exact (hg.block _ (Array.getElem?_eq_some_iff.1 h9).1).trans h9), (fun h0 => by have h9 := f9 (by simpa using h0); exact (hg.block _ (Array.getElem?_eq_some_iff.1 h9).1).trans h9), (fun h0 => by have h9 := f3 (by simpa using h0); exact ⟨h9.1, kn_own h9.2 hg⟩), (fun _ => ⟨rfl, hb.size, by simp⟩), (fun _ _ => heap_alloc_new _ _), (fun h0 => absurd (c10 (by simpa using h0)).2 (by simp [hS])), (fun h0 => by have h9 := f5 (by simpa using h0); exact ⟨h9.1, kn_own h9.2 hg⟩), (fun h0 => by have h9 := f8 (by simpa using h0); exact ⟨h9.1, h9.2.1, Nat.lt_of_lt_of_le h9.2.2 hsz⟩), (fun h0 h1 => by have h9 := z8 (by simpa using h0) (by simpa using h1); exact (hg.block _ (Array.getElem?_eq_some_iff.1 h9).1).trans h9), (fun h0 => by have h9 := f11 (by simpa using h0); exact (hg.block _ (Array.getElem?_eq_some_iff.1 h9).1).trans h9), (fun h0 h1 => m3 (by simpa using h0) (by simpa using h1)), (fun h0 h1 => m5 (by simpa using h0) (by simpa using h1)), (fun h1 _ => by have h2 := (f6 (by simpa using h1)).2.2; omega), (fun h0 h1 => n68 (by simpa using h0) (by simpa using h1)), (fun _ h1 => by have h2 := (f8 (by simpa using h1)).2.2; omega), (fun h0 => by have := c3 (by simpa using h0); simp [this]), (fun h0 => by have := c5 (by simpa using h0); simp [this]), (fun h0 => by have := c9 (by simpa using h0); simp [this]), (fun h0 => by have := c10 (by simpa using h0); simp [this]), (fun h0 => by have := c11 (by simpa using h0); simp [this])⟩
            | 8, _ =>
              simp only [List.getElem?_toArray, List.getElem?_cons_zero, List.getElem?_cons_succ, Option.some.injEq] at ho
              subst ho
              refine wpOp_of rfl rfl ?_
              refine wp_alloc_box rfl ?_
              have hg : Below wx.heap.size wx (wx.alloc (.cells #[.int .i64 0, .int .i64 0, .slice none 0 0, .int .i64 0, .int .i64 0, .slice none 0 0, .slice none 0 0, .int .i64 0, .int .i64 0, .slice none 0 0, .slice none 0 0, .int .i64 0, .int .i64 0, .slice none 0 0, .slice none 0 0] 28)) := below_a wx _
              have hsz := hg.size
              rw [HINV.out]
              exact ⟨_, _, _, _, _, _, _, _, _, M, N, K, g7, g8, wx.heap.size, rfl, hb.trans (hg.mono hb.size), (fun h0 => f0 (by simpa using h0)), (fun h0 => f2 (by simpa using h0)), (fun h0 => f4 (by simpa using h0)), (fun h0 => by have h9 := f1 (by simpa using h0); exact ⟨h9.1, kn_own h9.2 hg⟩), (fun h0 => by have h9 := f6 (by simpa using h0); exact ⟨h9.1, h9.2.1, Nat.lt_of_lt_of_le h9.2.2 hsz⟩), (fun h0 h1 => by have h9 := z6 (by simpa using h0) (by simpa using h1); exact (hg.block _ (Array.getElem?_eq_some_iff.1 h9).1).trans h9), (fun h0 => by have h9 := f9 (by simpa using h0); exact (hg.block _ (Array.getElem?_eq_some_iff.1 h9).1).trans h9), (fun h0 => by have h9 := f3 (by simpa using h0); exact ⟨h9.1, kn_own h9.2 hg⟩), (fun h0 => by have h9 := f7 (by simpa using h0); exact ⟨h9.1, h9.2.1, Nat.lt_of_lt_of_le h9.2.2 hsz⟩), (fun h0 h1 => by have h9 := z7 (by simpa using h0) (by simpa using h1); exact (hg.block _ (Array.getElem?_eq_some_iff.1 h9).1).trans h9), (fun h0 => by have h9 := f10 (by simpa using h0); exact (hg.block _ (Array.getElem?_eq_some_iff.1 h9).1).trans h9), (fun h0 => by have h9 := f5 (by simpa using h0); exact ⟨h9.1, kn_own h9.2 hg⟩), (fun _ => ⟨rfl, hb.size, by simp⟩), (fun _ _ => heap_alloc_new _ _), (fun h0 => absurd (c11 (by simpa using h0)).2 (by simp [hS])), (fun h0 h1 => m3 (by simpa using h0) (by simpa using h1)), (fun h0 h1 => m5 (by simpa using h0) (by simpa using h1)), (fun h0 h1 => n67 (by simpa using h0) (by simpa using h1)), (fun h1 _ => by have h2 := (f6 (by simpa using h1)).2.2; omega), (fun h1 _ => by have h2 := (f7 (by simpa using h1)).2.2; omega), (fun h0 => by have := c3 (by simpa using h0); simp [this]), (fun h0 => by have := c5 (by simpa using h0); simp [this]), (fun h0 => by have := c9 (by simpa using h0); simp [this]), (fun h0 => by have := c10 (by simpa using h0); simp [this]), (fun h0 => by have := c11 (by simpa using h0); simp [this])⟩
            | 9, _ =>
              simp only [List.getElem?_toArray, List.getElem?_cons_zero, List.getElem?_cons_succ, Option.some.injEq] at ho
              subst ho
              have gv := f1 (hd ⟨1, Ground.data⟩ (by simp) rfl)
              have gp := f6 (hd ⟨6, Ground.data⟩ (by simp) rfl)
              have gz := z6 (hd ⟨6, Ground.data⟩ (by simp) rfl) hS
              obtain ⟨e69, hown⟩ := gv
              obtain ⟨e7, hge, hlt7⟩ := gp
              subst x69
              subst x7
              refine wpOp_of rfl rfl ?_
              refine wp_store_box (.tmp 7) (.tmp 69) rfl g7 M exU rfl rfl gz ?_
              intro w2 hfin hfar hsz0 hbelf
              have hbel := hbelf _ _ hb hge
              have hsz : wx.heap.size ≤ w2.heap.size := by omega
              have hblk := gz
              have hd6 := hd ⟨6, Ground.data⟩ (by simp) rfl
              rw [HINV.out]
              exact ⟨_, _, _, _, _, _, _, _, _, M, N, K, g7, g8, g9, rfl, hbel, (fun h0 => f0 (by simpa using h0)), (fun h0 => f2 (by simpa using h0)), (fun h0 => f4 (by simpa using h0)), (fun _ => ⟨rfl, kn_far hown hblk hfar⟩), (fun _ => ⟨rfl, hge, Nat.lt_of_lt_of_le hlt7 hsz⟩), (fun h0 h1 => by simp at h1), (fun _ => hfin), (fun h0 => by have h9 := f3 (by simpa using h0); exact ⟨h9.1, kn_far h9.2 hblk hfar⟩), (fun h0 => by have h9 := f7 (by simpa using h0); exact ⟨h9.1, h9.2.1, Nat.lt_of_lt_of_le h9.2.2 hsz⟩), (fun h0 h1 => (hfar g8 (fun e => n67 (hd6) (by simpa using h0) e.symm)).trans (z7 (by simpa using h0) (by simpa using h1))), (fun h0 => (hfar g8 (fun e => n67 (hd6) (c10 (by simpa using h0)).2 e.symm)).trans (f10 (by simpa using h0))), (fun h0 => by have h9 := f5 (by simpa using h0); exact ⟨h9.1, kn_far h9.2 hblk hfar⟩), (fun h0 => by have h9 := f8 (by simpa using h0); exact ⟨h9.1, h9.2.1, Nat.lt_of_lt_of_le h9.2.2 hsz⟩), (fun h0 h1 => (hfar g9 (fun e => n68 hd6 (by simpa using h0) e.symm)).trans (z8 (by simpa using h0) (by simpa using h1))), (fun h0 => (hfar g9 (fun e => n68 hd6 (c11 (by simpa using h0)).2 e.symm)).trans (f11 (by simpa using h0))), (fun h0 h1 => m3 (by simpa using h0) (by simpa using h1)), (fun h0 h1 => m5 (by simpa using h0) (by simpa using h1)), (fun h0 h1 => n67 (by simpa using h0) (by simpa using h1)), (fun h0 h1 => n68 (by simpa using h0) (by simpa using h1)), (fun h0 h1 => n78 (by simpa using h0) (by simpa using h1)), (fun h0 => by have := c3 (by simpa using h0); simp [this]), (fun h0 => by have := c5 (by simpa using h0); simp [this]), (fun _ => ⟨by have := hd ⟨1, Ground.data⟩ (by simp) rfl; simp [this], by have := hd ⟨6, Ground.data⟩ (by simp) rfl; simp [this]⟩), (fun h0 => by have := c10 (by simpa using h0); simp [this]), (fun h0 => by have := c11 (by simpa using h0); simp [this])⟩
            | 10, _ =>
              simp only [List.getElem?_toArray, List.getElem?_cons_zero, List.getElem?_cons_succ, Option.some.injEq] at ho
              subst ho
              have gv := f3 (hd ⟨3, Ground.data⟩ (by simp) rfl)
              have gp := f7 (hd ⟨7, Ground.data⟩ (by simp) rfl)
              have gz := z7 (hd ⟨7, Ground.data⟩ (by simp) rfl) hS
              obtain ⟨e69, hown⟩ := gv
              obtain ⟨e7, hge, hlt7⟩ := gp
              subst x71
              subst x8
              refine wpOp_of rfl rfl ?_
              refine wp_store_box (.tmp 8) (.tmp 71) rfl g8 N exU rfl rfl gz ?_
              intro w2 hfin hfar hsz0 hbelf
              have hbel := hbelf _ _ hb hge
              have hsz : wx.heap.size ≤ w2.heap.size := by omega
              have hblk := gz
              have hd6 := hd ⟨7, Ground.data⟩ (by simp) rfl
              rw [HINV.out]
              exact ⟨_, _, _, _, _, _, _, _, _, M, N, K, g7, g8, g9, rfl, hbel, (fun h0 => f0 (by simpa using h0)), (fun h0 => f2 (by simpa using h0)), (fun h0 => f4 (by simpa using h0)), (fun h0 => by have h9 := f1 (by simpa using h0); exact ⟨h9.1, kn_far h9.2 hblk hfar⟩), (fun h0 => by have h9 := f6 (by simpa using h0); exact ⟨h9.1, h9.2.1, Nat.lt_of_lt_of_le h9.2.2 hsz⟩), (fun h0 h1 => (hfar g7 (n67 (by simpa using h0) hd6)).trans (z6 (by simpa using h0) (by simpa using h1))), (fun h0 => (hfar g7 (n67 (c9 (by simpa using h0)).2 hd6)).trans (f9 (by simpa using h0))), (fun _ => ⟨rfl, kn_far hown hblk hfar⟩), (fun _ => ⟨rfl, hge, Nat.lt_of_lt_of_le hlt7 hsz⟩), (fun h0 h1 => by simp at h1), (fun _ => hfin), (fun h0 => by have h9 := f5 (by simpa using h0); exact ⟨h9.1, kn_far h9.2 hblk hfar⟩), (fun h0 => by have h9 := f8 (by simpa using h0); exact ⟨h9.1, h9.2.1, Nat.lt_of_lt_of_le h9.2.2 hsz⟩), (fun h0 h1 => (hfar g9 (fun e => n78 hd6 (by simpa using h0) e.symm)).trans (z8 (by simpa using h0) (by simpa using h1))), (fun h0 => (hfar g9 (fun e => n78 hd6 (c11 (by simpa using h0)).2 e.symm)).trans (f11 (by simpa using h0))), (fun h0 h1 => m3 (by simpa using h0) (by simpa using h1)), (fun h0 h1 => m5 (by simpa using h0) (by simpa using h1)), (fun h0 h1 => n67 (by simpa using h0) (by simpa using h1)), (fun h0 h1 => n68 (by simpa using h0) (by simpa using h1)), (fun h0 h1 => n78 (by simpa using h0) (by simpa using h1)), (fun h0 => by have := c3 (by simpa using h0); simp [this]), (fun h0 => by have := c5 (by simpa using h0); simp [this]), (fun h0 => by have := c9 (by simpa using h0); simp [this]), (fun _ => ⟨by have := hd ⟨3, Ground.data⟩ (by simp) rfl; simp [this], by have := hd ⟨7, Ground.data⟩ (by simp) rfl; simp [this]⟩), (fun h0 => by have := c11 (by simpa using h0); simp [this])⟩
            | 11, _ =>
              simp only [List.getElem?_toArray, List.getElem?_cons_zero, List.getElem?_cons_succ, Option.some.injEq] at ho
              subst ho
              have gv := f5 (hd ⟨5, Ground.data⟩ (by simp) rfl)
              have gp := f8 (hd ⟨8, Ground.data⟩ (by simp) rfl)
              have gz := z8 (hd ⟨8, Ground.data⟩ (by simp) rfl) hS
              obtain ⟨e69, hown⟩ := gv
              obtain ⟨e7, hge, hlt7⟩ := gp
              subst x73
              subst x9
              refine wpOp_of rfl rfl ?_
              refine wp_store_box (.tmp 9) (.tmp 73) rfl g9 K exU rfl rfl gz ?_
              intro w2 hfin hfar hsz0 hbelf
              have hbel := hbelf _ _ hb hge
              have hsz : wx.heap.size ≤ w2.heap.size := by omega
              have hblk := gz
              have hd6 := hd ⟨8, Ground.data⟩ (by simp) rfl
              rw [HINV.out]
              exact ⟨_, _, _, _, _, _, _, _, _, M, N, K, g7, g8, g9, rfl, hbel, (fun h0 => f0 (by simpa using h0)), (fun h0 => f2 (by simpa using h0)), (fun h0 => f4 (by simpa using h0)), (fun h0 => by have h9 := f1 (by simpa using h0); exact ⟨h9.1, kn_far h9.2 hblk hfar⟩), (fun h0 => by have h9 := f6 (by simpa using h0); exact ⟨h9.1, h9.2.1, Nat.lt_of_lt_of_le h9.2.2 hsz⟩), (fun h0 h1 => (hfar g7 (n68 (by simpa using h0) hd6)).trans (z6 (by simpa using h0) (by simpa using h1))), (fun h0 => (hfar g7 (n68 (c9 (by simpa using h0)).2 hd6)).trans (f9 (by simpa using h0))), (fun h0 => by have h9 := f3 (by simpa using h0); exact ⟨h9.1, kn_far h9.2 hblk hfar⟩), (fun h0 => by have h9 := f7 (by simpa using h0); exact ⟨h9.1, h9.2.1, Nat.lt_of_lt_of_le h9.2.2 hsz⟩), (fun h0 h1 => (hfar g8 (n78 (by simpa using h0) hd6)).trans (z7 (by simpa using h0) (by simpa using h1))), (fun h0 => (hfar g8 (n78 (c10 (by simpa using h0)).2 hd6)).trans (f10 (by simpa using h0))), (fun _ => ⟨rfl, kn_far hown hblk hfar⟩), (fun _ => ⟨rfl, hge, Nat.lt_of_lt_of_le hlt7 hsz⟩), (fun h0 h1 => by simp at h1), (fun _ => hfin), (fun h0 h1 => m3 (by simpa using h0) (by simpa using h1)), (fun h0 h1 => m5 (by simpa using h0) (by simpa using h1)), (fun h0 h1 => n67 (by simpa using h0) (by simpa using h1)), (fun h0 h1 => n68 (by simpa using h0) (by simpa using h1)), (fun h0 h1 => n78 (by simpa using h0) (by simpa using h1)), (fun h0 => by have := c3 (by simpa using h0); simp [this]), (fun h0 => by have := c5 (by simpa using h0); simp [this]), (fun h0 => by have := c9 (by simpa using h0); simp [this]), (fun h0 => by have := c10 (by simpa using h0); simp [this]), (fun _ => ⟨by have := hd ⟨5, Ground.data⟩ (by simp) rfl; simp [this], by have := hd ⟨8, Ground.data⟩ (by simp) rfl; simp [this]⟩)⟩
          · intro S a wx hI hall
            rw [HINV.out] at hI
            obtain ⟨x7, x8, x9, x68, x69, x70, x71, x72, x73, M, N, K, g7, g8, g9, rfl, hb, f0, f2, f4, f1, f6, z6, f9, f3, f7, z7, f10, f5, f8, z8, f11, m3, m5, n67, n68, n78, c3, c5, c9, c10, c11⟩ := hI
            obtain ⟨_, o1⟩ := f1 (hall 1 (by simp))
            obtain ⟨_, o3⟩ := f3 (hall 3 (by simp))
            obtain ⟨_, o5⟩ := f5 (hall 5 (by simp))
            obtain ⟨e7, l7, _⟩ := f6 (hall 6 (by simp))
            obtain ⟨e8, l8, _⟩ := f7 (hall 7 (by simp))
            obtain ⟨e9, l9, _⟩ := f8 (hall 8 (by simp))
            go_wp2_with fail
            go_meet
            exact Lib.hid ⟨M, N, K, g7, g8, g9, rfl, rfl, rfl, l7, l8, l9, n67 (hall 6 (by simp)) (hall 7 (by simp)), n68 (hall 6 (by simp)) (hall 8 (by simp)), n78 (hall 7 (by simp)) (hall 8 (by simp)), f9 (hall 9 (by simp)), f10 (hall 10 (by simp)), f11 (hall 11 (by simp)), o1, o3, o5, m3 (hall 1 (by simp)) (hall 3 (by simp)), m5 (hall 3 (by simp)) (hall 5 (by simp)), hb⟩
        case rest =>
          obtain ⟨M, N, K, g7, g8, g9, rfl, rfl, rfl, l7, l8, l9, n78, n79, n89, b7, b8, b9, oM, oN, oK, aMN, aNK, hb⟩ := hcut.out
          have a0 : wc.cell? ⟨g7, 0, none⟩ = some (.int .i64 exU.k1) := cell_of_row _ _ 0 _ 28 (0, 0) b7
          have z0 := frozen_of_row wc g7 0 _ 28 b7
          have P4 := Lib.hid (kn_one l7 n78 n79 b7 b8 b9 oM oN oK hb)
          have HAP := Lib.hid (And.intro aMN aNK)
          have HL := Lib.hid (And.intro l7 (And.intro l8 (And.intro l9 (And.intro n78 (And.intro n79 n89)))))
          clear hcut b7 b8 b9 oM oN oK hb aMN aNK l7 l8 l9 n78 n79 n89
          go_upto_region 13 with (fail)
          generalize wc.setCell ⟨g7, 0, none⟩ (.int .i64 0) = w4 at *
          clear a0 z0
          obtain ⟨gp, cp, hNP⟩ := Joins.ownsRow_form P4.out.2.2.2.2.1.pts (by decide)
          have hNP1 := (Value.slice.inj hNP).1
          have hpl : (0 : Int) < (exU.pts.length : Int) := by decide
          have a2 : w4.cell? ⟨g8, 2, none⟩ = some (.slice N.P exU.pts.length N.c) := cell_of_row _ _ 2 _ 28 (0, 0) P4.out.2.1
          have hst := P4.out.2.2.2.2.1.pts
          rw [hNP1] at a2 hst
          have a3 : w4.cell? ⟨gp, 0, none⟩ = some (.int .i64 0) := hst.cellAt 0 (by decide)
          have z3 := hst.frozenAt 0
          have P5 := Lib.hid (kn_two hNP1 HAP.out.1 HAP.out.2 P4.out)
          clear hst hNP hNP1 P4
          go_upto_region 14 with (fail)
          generalize w4.setCell ⟨gp, 0, none⟩ (.int .i64 17) = w5 at *
          clear a2 a3 z3 hpl
          have a6 : w5.cell? ⟨g9, 6, none⟩ = some (.slice K.l.B exU.left.outs.length K.l.d) := cell_of_row _ _ 6 _ 28 (0, 0) P5.out.2.2.1
          have z6 := frozen_of_row w5 g9 6 _ 28 P5.out.2.2.1
          have P6 := Lib.hid (kn_three HL.out.2.2.1 HL.out.2.2.2.2.1 HL.out.2.2.2.2.2 P5.out)
          clear P5
          go_upto_region 15 with (fail)
          generalize w5.setCell ⟨g9, 6, none⟩ (.slice none 0 0) = w6 at *
          clear a6 z6
          obtain ⟨b7, b8, b9, oM, oN, oK, hb⟩ := P6.out
          have hU6 : UnIn w6 L exU := HU.out.below (HB1.out.trans (hb.mono HB1.out.size))
          have HQ7 : Hid (BoxAt w6 g7 (M.val exZ)) := Lib.hid ⟨M, exZ, rfl, b7⟩
          have HQ8 : Hid (BoxAt w6 g8 (N.val exF)) := Lib.hid ⟨N, exF, rfl, b8⟩
          have HQ9 : Hid (BoxAt w6 g9 ((KN K).val exN)) := Lib.hid ⟨KN K, exN, rfl, b9⟩
          have HQU : Hid (BoxAt w6 x2.heap.size U) := Lib.hid (HQ3.out.below hb)
          have EZ := Lib.hid (fun wx (h : Below w6.heap.size w6 wx) => kn_enc (n := 2) exZ_fault (by decide) (oM.in.below h))
          have EF := Lib.hid (fun wx (h : Below w6.heap.size w6 wx) => kn_enc (n := 2) exF_fault (by decide) (oN.in.below h))
          have EN := Lib.hid (fun wx (h : Below w6.heap.size w6 wx) => kn_enc (n := 80) exN_fault (by decide) (oK.in.below h))
          have MU := Lib.hid (fun wx (h : Below w6.heap.size w6 wx) => kn_may (n := 0) exU_fault (hU6.below h))
          have MZ := Lib.hid (fun wx (h : Below w6.heap.size w6 wx) => kn_may (n := 2) exZ_fault (oM.in.below h))
          have MF := Lib.hid (fun wx (h : Below w6.heap.size w6 wx) => kn_may (n := 2) exF_fault (oN.in.below h))
          have MN := Lib.hid (fun wx (h : Below w6.heap.size w6 wx) => kn_may (n := 80) exN_fault (oK.in.below h))
          have S1 := Lib.hid (fun wx (h : Below w6.heap.size w6 wx) => bool_out (d := false) (same14 exU exZ L M wx (hU6.below h) (oM.in.below h)) (by simp [exU_ne.1]))
          have S2 := Lib.hid (fun wx (h : Below w6.heap.size w6 wx) => bool_out (d := false) (same14 exU exF L N wx (hU6.below h) (oN.in.below h)) (by simp [exU_ne.2.1]))
          have S3 := Lib.hid (fun wx (h : Below w6.heap.size w6 wx) => bool_out (d := false) (same14 exN exU (KN K) L wx (oK.in.below h) (hU6.below h)) (by simp [exU_ne.2.2]))
          have HB6 : Hid (Below w.heap.size w w6) := Lib.hid (HBW.out.trans ((HB1.out.trans (hb.mono HB1.out.size)).mono HBW.out.size))
          have hUv : L.val exU = U := by unfold UnV.val UnV.cells; exact HUU.out
          rw [hUv] at MU S1 S2 S3
          have HBL := Lib.hid (Below.refl w6.heap.size w6)
          clear b7 b8 b9 oM oN oK hb hU6 hUv P6
          generalize M.val exZ = ZV at *
          generalize N.val exF = FV at *
          generalize (KN K).val exN = NV at *
          go_wp2_with (first | (refine wpList_load_boxg rfl (.tmp 7) rfl _ rfl (HQ7.out.below HBL.out) ?_) | ((with_reducible refine (EZ.out _ HBL.out).mono ?_)))
          rintro e y ⟨rfl, hb⟩
          have HBM := Lib.hid (HBL.out.trans (hb.mono HBL.out.size))
          clear hb HBL
          have HBL := HBM
          clear HBM
          go_wp2_with (first | (refine wpList_load_boxg rfl (.tmp 8) rfl _ rfl (HQ8.out.below HBL.out) ?_) | ((with_reducible refine (EF.out _ HBL.out).mono ?_)))
          rintro e y ⟨rfl, hb⟩
          have HBM := Lib.hid (HBL.out.trans (hb.mono HBL.out.size))
          clear hb HBL
          have HBL := HBM
          clear HBM
          go_wp2_with (first | (refine wpList_load_boxg rfl (.tmp 9) rfl _ rfl (HQ9.out.below HBL.out) ?_) | ((with_reducible refine (EN.out _ HBL.out).mono ?_)))
          rintro e y ⟨rfl, hb⟩
          have HBM := Lib.hid (HBL.out.trans (hb.mono HBL.out.size))
          clear hb HBL
          have HBL := HBM
          clear HBM
          go_wp2_with (first | (refine wpList_load_boxg rfl (.tmp 1) rfl _ rfl (HQU.out.below HBL.out) ?_) | ((with_reducible refine (MU.out _ HBL.out).mono ?_)))
          rintro e y ⟨rfl, hb⟩
          have HBM := Lib.hid (HBL.out.trans (hb.mono HBL.out.size))
          clear hb HBL
          have HBL := HBM
          clear HBM
          go_wp2_with (first | (refine wpList_load_boxg rfl (.tmp 7) rfl _ rfl (HQ7.out.below HBL.out) ?_) | ((with_reducible refine (MZ.out _ HBL.out).mono ?_)))
          rintro e y ⟨rfl, hb⟩
          have HBM := Lib.hid (HBL.out.trans (hb.mono HBL.out.size))
          clear hb HBL
          have HBL := HBM
          clear HBM
          go_wp2_with (first | (refine wpList_load_boxg rfl (.tmp 8) rfl _ rfl (HQ8.out.below HBL.out) ?_) | ((with_reducible refine (MF.out _ HBL.out).mono ?_)))
          rintro e y ⟨rfl, hb⟩
          have HBM := Lib.hid (HBL.out.trans (hb.mono HBL.out.size))
          clear hb HBL
          have HBL := HBM
          clear HBM
          go_wp2_with (first | (refine wpList_load_boxg rfl (.tmp 9) rfl _ rfl (HQ9.out.below HBL.out) ?_) | ((with_reducible refine (MN.out _ HBL.out).mono ?_)))
          rintro e y ⟨rfl, hb⟩
          have HBM := Lib.hid (HBL.out.trans (hb.mono HBL.out.size))
          clear hb HBL
          have HBL := HBM
          clear HBM
          go_wp2_with (first | (refine wpList_load_boxg rfl (.tmp 1) rfl _ rfl (HQU.out.below HBL.out) ?_) | (refine wpList_load_boxg rfl (.tmp 7) rfl _ rfl (HQ7.out.below HBL.out) ?_) | ((with_reducible refine (S1.out _ HBL.out).mono ?_)))
          rintro e y ⟨rfl, hb⟩
          have HBM := Lib.hid (HBL.out.trans (hb.mono HBL.out.size))
          clear hb HBL
          have HBL := HBM
          clear HBM
          go_wp2_with (first | (refine wpList_load_boxg rfl (.tmp 1) rfl _ rfl (HQU.out.below HBL.out) ?_) | (refine wpList_load_boxg rfl (.tmp 8) rfl _ rfl (HQ8.out.below HBL.out) ?_) | ((with_reducible refine (S2.out _ HBL.out).mono ?_)))
          rintro e y ⟨rfl, hb⟩
          have HBM := Lib.hid (HBL.out.trans (hb.mono HBL.out.size))
          clear hb HBL
          have HBL := HBM
          clear HBM
          go_wp2_with (first | (refine wpList_load_boxg rfl (.tmp 9) rfl _ rfl (HQ9.out.below HBL.out) ?_) | (refine wpList_load_boxg rfl (.tmp 1) rfl _ rfl (HQU.out.below HBL.out) ?_) | ((with_reducible refine (S3.out _ HBL.out).mono ?_)))
          rintro e y ⟨rfl, hb⟩
          have HBM := Lib.hid (HBL.out.trans (hb.mono HBL.out.size))
          clear hb HBL
          have HBL := HBM
          clear HBM
          go_wp2_with fail
          go_ret
          exact ⟨rfl, HB6.out.trans (HBL.out.mono HB6.out.size)⟩
end Go.Proofs.Ytcelcognmdcenaa
