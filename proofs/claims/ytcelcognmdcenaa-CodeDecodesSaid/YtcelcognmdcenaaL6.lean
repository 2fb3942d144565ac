/-
  THE WALK of the law CodeDecodes.
-/
import Derived.Test.YtcelcognmdcenaaL3
import Derived.Test.YtcelcognmdcenaaR5
import Derived.Lib.SliceRun
namespace Go.Proofs.Ytcelcognmdcenaa
open Go.RowKit

theorem zero5 (w : World) : (zeroValue 5).run Try.prog w = .ok (.int .u8 0) w := by kernel_rfl
theorem size_setCells (b : Nat) : ∀ (vs : List Value) (o : Nat) (w : World), (w.setCells b o vs).heap.size = w.heap.size
  | [], _, _ => rfl
  | v :: r, o, w => by
    show ((w.setCell ⟨b, o, none⟩ v).setCells b (o + 1) r).heap.size = _
    rw [size_setCells b r (o + 1)]
    simp [World.setCell]
theorem below_setCells {B b : Nat} {a : World} (hb : B ≤ b) : ∀ (vs : List Value) (o : Nat) (w : World), Below B a w → Below B a (w.setCells b o vs)
  | [], _, _, h => h
  | v :: r, o, w, h => below_setCells hb r (o + 1) (w.setCell ⟨b, o, none⟩ v) (h.setCell (p := ⟨b, o, none⟩) hb v)
theorem setCells_far {b g : Nat} (hb : b ≠ g) : ∀ (vs : List Value) (o : Nat) (w : World), (w.setCells g o vs).heap[b]? = w.heap[b]?
  | [], _, _ => rfl
  | v :: r, o, w => (setCells_far hb r (o + 1) (w.setCell ⟨g, o, none⟩ v)).trans (set_blk v hb)
theorem zval : L0.val u0 = .agg #[.int .i64 0, .int .i64 0, .slice none 0 0, .int .i64 0, .int .i64 0, .slice none 0 0, .slice none 0 0, .int .i64 0, .int .i64 0, .slice none 0 0, .slice none 0 0, .int .i64 0, .int .i64 0, .slice none 0 0, .slice none 0 0] := rfl
theorem below_trans_alloc {B : Nat} {a b : World} (h : Below B a b) (hs : B ≤ b.heap.size) (o : Obj) : Below B a (b.alloc o) := h.alloc hs o
/-- Bytes that are cleared are no part of what reads as ints. -/
theorem Reads.cleared {w : World} {sz n : Nat} {v : Value} {xs : List Value} (h : Reads w sz v n xs) (hx : ∀ u ∈ xs, ∃ z, u = .int .i64 z) (b o m : Nat) (u0 : Value) (hc : ∀ j, j < m → ∃ z, w.cell? ⟨b, o + j, none⟩ = some (.int .u8 z)) : Reads (w.setCells b o (List.replicate m u0)) sz v n xs := by
  obtain ⟨h1, h2, A, c, h3, h4, h5⟩ := h
  refine ⟨h1, h2, A, c, h3, h4, fun hn => ?_⟩
  obtain ⟨b', o', h6, h7, h8⟩ := h5 hn
  have hs : w.heap.size ≤ (w.setCells b o (List.replicate m u0)).heap.size := Nat.le_of_eq (size_setCells b _ o w).symm
  refine ⟨b', o', h6, Nat.lt_of_lt_of_le h7 hs, fun j u hu => ?_⟩
  rw [World.cell?_setCells_out]
  · exact h8 j u hu
  · intro hb _
    simp only at hb ⊢
    subst hb
    rw [List.length_replicate]
    by_cases hlo : o' + j < o
    · exact .inl hlo
    · by_cases hhi : o + m ≤ o' + j
      · exact .inr hhi
      · obtain ⟨z, hz⟩ := hc (o' + j - o) (by omega)
        rw [show o + (o' + j - o) = o' + j by omega, h8 j u hu] at hz
        obtain ⟨z', rfl⟩ := hx u (List.mem_of_getElem? hu)
        cases hz
theorem vI_int (l : List Int) : ∀ u ∈ vI l, ∃ z, u = .int .i64 z := by
  intro u hu
  obtain ⟨z, _, rfl⟩ := List.mem_map.1 hu
  exact ⟨z, rfl⟩
theorem vP_int (l : List (Int × Int)) : ∀ u ∈ vP l, ∃ z, u = .int .i64 z := by
  intro u hu
  obtain ⟨z, _, hz⟩ := List.mem_flatMap.1 hu
  simp only [cP, List.mem_cons, List.not_mem_nil, or_false] at hz
  rcases hz with rfl | rfl <;> exact ⟨_, rfl⟩
theorem vC_int (l : List Ins) : ∀ u ∈ vC l, ∃ z, u = .int .i64 z := by
  intro u hu
  obtain ⟨z, _, hz⟩ := List.mem_flatMap.1 hu
  simp only [cI, List.mem_cons, List.not_mem_nil, or_false] at hz
  rcases hz with rfl | rfl | rfl | rfl | rfl <;> exact ⟨_, rfl⟩
theorem UnIn.cleared {w : World} {L : UnV} {u : Un} (h : UnIn w L u) (b o m : Nat) (u0 : Value) (hc : ∀ j, j < m → ∃ z, w.cell? ⟨b, o + j, none⟩ = some (.int .u8 z)) : UnIn (w.setCells b o (List.replicate m u0)) L u := by
  obtain ⟨h1, ⟨h2, h3⟩, ⟨h4, h5⟩, ⟨h6, h7⟩⟩ := h
  exact ⟨h1.cleared (vP_int _) b o m u0 hc, ⟨h2.cleared (vC_int _) b o m u0 hc, h3.cleared (vI_int _) b o m u0 hc⟩, ⟨h4.cleared (vC_int _) b o m u0 hc, h5.cleared (vI_int _) b o m u0 hc⟩, ⟨h6.cleared (vC_int _) b o m u0 hc, h7.cleared (vI_int _) b o m u0 hc⟩⟩

set_option maxRecDepth 100000 in
set_option maxHeartbeats 8000000 in
theorem decodes_law (A : Option Addr) (n c : Nat) (l : List Nat) (w : World) (hln : l.length = n) (hr : Reads w 1 (.slice A n c) n (vB l)) (hnc : n ≤ c) (hn : n ≤ 140737488351232) (hl : ∀ y ∈ l, y < 256) : Calls Try.prog 6 #[.slice A n c] w (LawOut w) := by
  have HRB := Lib.hid hr
  have HLB := Lib.hid hl
  have HLN := Lib.hid hln
  have HC1 := Lib.hid (works10 w)
  have HZ : Hid (∀ wx, Calls Try.prog 18 #[.agg #[.int .i64 0, .int .i64 0, .slice none 0 0, .int .i64 0, .int .i64 0, .slice none 0 0, .slice none 0 0, .int .i64 0, .int .i64 0, .slice none 0 0, .slice none 0 0, .int .i64 0, .int .i64 0, .slice none 0 0, .slice none 0 0], .agg #[.int .i64 0, .int .i64 0, .slice none 0 0, .int .i64 0, .int .i64 0, .slice none 0 0, .slice none 0 0, .int .i64 0, .int .i64 0, .slice none 0 0, .slice none 0 0, .int .i64 0, .int .i64 0, .slice none 0 0, .slice none 0 0]] wx (BOut wx true)) := Lib.hid (fun wx => bool_out (d := true) (same18 u0 u0 L0 L0 wx (UnOwn.zero 0 wx 0 0).in (UnOwn.zero 0 wx 0 0).in) ⟨fun _ => rfl, fun _ => rfl⟩)
  obtain ⟨i5, hi, hz0, hz1, hz2⟩ := info_parts info5
  clear hr hl hln
  go_enter Try.func6, Try.ntmps6
  go_wp2_with fail
  (with_reducible refine HC1.out.mono ?_)
  rintro e x1 ⟨rfl, hb⟩
  have HB1 := Lib.hid hb
  clear hb HC1
  by_cases hn2 : 20000 < n
  · go_wp2_with fail
    go_ret
    exact ⟨rfl, HB1.out⟩
  have HCL := Lib.hid (clone16 A n c l x1 (HRB.out.below HB1.out) (by omega))
  go_wp2_with fail
  (with_reducible refine HCL.out.mono ?_)
  rintro e y1 ⟨v1, rfl, ho, hb⟩
  have HB2 := Lib.hid (HB1.out.trans (hb.mono HB1.out.size))
  have HO := Lib.hid ho
  have hy1 := hb.size
  clear hb HCL ho
  go_wp2_with (at_builtin; refine wpList_appM rfl (.tmp 14) (.tmp 15) 31 rfl x1.heap.size 5 i5 (.int .u8 0) 1 Try.underlying31 hi hz0 hz1 hz2 rfl (by decide) v1 n (vB l) rfl (HO.out.alloc _) y1.heap.size 2 2 (vB [1, 2]) rfl rfl (lit_cells2 y1 (vB [1, 2]) 5 _ rfl) (vB_one _) (by omega) (by simp; omega) ?_)
  intro v2 y2 ho2 hg2 _
  obtain ⟨g, cg, rfl⟩ := Joins.ownsRow_form ho2 (by omega)
  have hgl := ho2.lt g rfl
  have hcg : n + 2 ≤ cg := by
    obtain ⟨A', c', e, h1, _⟩ := own_slice ho2
    cases e; exact h1
  have HBY : Hid (Below w.heap.size w y2) := Lib.hid (Below.grown (HB2.out.trans ((below_a y1 _).mono HB2.out.size)) hg2 (Nat.le_trans HB2.out.size (by simp)) (fun k hk => Nat.le_trans HB1.out.size ((HO.out.lt k hk).1)))
  have HG : Hid (w.heap.size ≤ g) := Lib.hid (Nat.le_trans HB1.out.size hgl.1)
  have HR2 : Hid (Reads y2 1 (.slice (some ⟨g, 0, none⟩) n cg) n (vB l)) := Lib.hid (by
    have h1 := Reads.of_own ho2
    rw [show vB l ++ vB [1, 2] = vB (l ++ [1, 2]) by simp [vB]] at h1
    have h2 := h1.take (show n ≤ n + 2 by omega)
    rwa [List.take_left' HLN.out] at h2)
  have HF2 : Hid (∀ j, y2.frozen? ⟨g, j, none⟩ = false) := Lib.hid (fun j => ho2.frozenAt j)
  have HGL := Lib.hid hgl.2
  clear ho2 hg2 hgl HO
  have HDEC := Lib.hid (decode17 HR2.out HLB.out (by omega) (by omega : n ≤ cg))
  go_wp2_with fail
  (with_reducible refine HDEC.out.mono ?_)
  rintro e y3 ⟨hb, hd⟩
  have HB3 := Lib.hid hb
  have HBD := Lib.hid hd
  clear hb hd HDEC
  rcases hdec : dec l with q | u
  · have HD := HBD.out
    rw [hdec] at HD
    have HDL := Lib.hid hdec
    have HD2 := Lib.hid HD
    clear HD HBD hdec
    have hd := HD2.out
    simp only [zval] at hd
    subst hd
    obtain ⟨y4, hy4⟩ : ∃ y4, y4 = (y3.alloc (.cells #[.int .i64 0, .int .i64 0, .slice none 0 0, .int .i64 0, .int .i64 0, .slice none 0 0, .slice none 0 0, .int .i64 0, .int .i64 0, .slice none 0 0, .slice none 0 0, .int .i64 0, .int .i64 0, .slice none 0 0, .slice none 0 0] 28)).alloc (.cells #[.int .i64 170, .int .i64 (q : Nat)] 43) := ⟨_, rfl⟩
    have HW4 := Lib.hid hy4
    have HB4 : Hid (Below y3.heap.size y3 y4) := Lib.hid (by rw [hy4]; exact (below_a _ _).alloc (by simp) _)
    have HBN := Lib.hid ((HBY.out.trans (HB3.out.mono HBY.out.size)).trans (HB4.out.mono (Nat.le_trans HBY.out.size HB3.out.size)))
    have HDE := Lib.hid (decode24 (w := y4) (HRB.out.below HBN.out) HLB.out (by omega) hnc)
    have q4 : BoxAt y4 y3.heap.size (.agg #[.int .i64 0, .int .i64 0, .slice none 0 0, .int .i64 0, .int .i64 0, .slice none 0 0, .slice none 0 0, .int .i64 0, .int .i64 0, .slice none 0 0, .slice none 0 0, .int .i64 0, .int .i64 0, .slice none 0 0, .slice none 0 0]) := ⟨L0, u0, zval.symm, by rw [hy4, Below.heap_alloc _ _ _ (by simp)]; exact heap_alloc_new _ _⟩
    have s4 : y4.heap[y3.heap.size + 1]? = some (.cells #[.int .i64 170, .int .i64 (q : Nat)] 43 (0, 0)) := by
      have := heap_alloc_new (y3.alloc (.cells #[.int .i64 0, .int .i64 0, .slice none 0 0, .int .i64 0, .int .i64 0, .slice none 0 0, .slice none 0 0, .int .i64 0, .int .i64 0, .slice none 0 0, .slice none 0 0, .int .i64 0, .int .i64 0, .slice none 0 0, .slice none 0 0] 28)) (.cells #[.int .i64 170, .int .i64 (q : Nat)] 43)
      rw [show (y3.alloc (.cells #[.int .i64 0, .int .i64 0, .slice none 0 0, .int .i64 0, .int .i64 0, .slice none 0 0, .slice none 0 0, .int .i64 0, .int .i64 0, .slice none 0 0, .slice none 0 0, .int .i64 0, .int .i64 0, .slice none 0 0, .slice none 0 0] 28)).heap.size = y3.heap.size + 1 by simp, ← hy4] at this
      exact this
    have HQ4 := Lib.hid q4
    have HS4 := Lib.hid s4
    rw [hy4] at HDE
    clear HD2 q4 s4 hy4
    go_wp2_with fail
    (with_reducible refine HDE.out.mono ?_)
    rw [← HW4.out]
    rintro e y5 ⟨hb, hd⟩
    rw [HDL.out] at hd
    simp only [zval] at hd
    subst hd
    obtain ⟨y6, hy6⟩ : ∃ y6, y6 = y5.alloc (.cells #[.int .i64 0, .int .i64 0, .slice none 0 0, .int .i64 0, .int .i64 0, .slice none 0 0, .slice none 0 0, .int .i64 0, .int .i64 0, .slice none 0 0, .slice none 0 0, .int .i64 0, .int .i64 0, .slice none 0 0, .slice none 0 0] 28) := ⟨_, rfl⟩
    have HW6 := Lib.hid hy6
    have HB46 : Hid (Below y4.heap.size y4 y6) := Lib.hid (by rw [hy6]; exact hb.alloc hb.size _)
    have HB26 : Hid (Below y2.heap.size y2 y6) := Lib.hid ((HB3.out.trans (HB4.out.mono HB3.out.size)).trans (HB46.out.mono (Nat.le_trans HB3.out.size HB4.out.size)))
    have HBW := Lib.hid (HBN.out.trans (HB46.out.mono HBN.out.size))
    have HEQ := Lib.hid (equal22 (some ⟨g, 0, none⟩) A n n cg c l l y6 (HR2.out.below HB26.out) (HRB.out.below HBW.out))
    rw [hy6] at HEQ
    clear hb hy6 HDE HDL
    go_wp2_with fail
    (with_reducible refine HEQ.out.mono ?_)
    rw [← HW6.out]
    rintro e y7 ⟨b, rfl, hb, j, rfl⟩
    obtain rfl : b = true := hb.2 (by first | rfl | trivial)
    have HB7 : Hid (Below y4.heap.size y4 (y6.drewN j)) := Lib.hid (below_drewN HB46.out j)
    have q7 := HQ4.out.below HB7.out
    have s7 := (HB7.out.block _ (Array.getElem?_eq_some_iff.1 HS4.out).1).trans HS4.out
    have c0 : (y6.drewN j).cell? ⟨y3.heap.size + 1, 0, none⟩ = some (.int .i64 170) := cell_of_row _ _ 0 _ 43 (0, 0) s7
    have c1 : (y6.drewN j).cell? ⟨y3.heap.size + 1, 1, none⟩ = some (.int .i64 (q : Nat)) := cell_of_row _ _ 1 _ 43 (0, 0) s7
    have HBW7 := Lib.hid (below_drewN HBW.out j)
    have hge : decide ((0 : Int) ≤ (q : Int)) = true := by simp
    clear hb HEQ s7
    generalize y6.drewN j = y8 at *
    go_wp2_with (first | (refine wpList_load_boxg rfl (.tmp 4) rfl _ rfl q7 ?_) | ((with_reducible refine (HZ.out _).mono ?_)))
    rintro e y9 ⟨rfl, hb⟩
    have HBF := Lib.hid (HBW7.out.trans (hb.mono HBW7.out.size))
    clear hb q7 c0 c1
    go_wp2_with fail
    go_ret
    exact ⟨rfl, HBF.out⟩
  · have HD := HBD.out
    rw [hdec] at HD
    have HDL := Lib.hid hdec
    obtain ⟨L, rfl, hu⟩ := HD
    obtain ⟨y4, hy4⟩ : ∃ y4, y4 = (y3.alloc (.cells (L.cells u) 28)).alloc (.cells #[.int .i64 0, .int .i64 0] 43) := ⟨_, rfl⟩
    have HW4 := Lib.hid hy4
    have HB4 : Hid (Below y3.heap.size y3 y4) := Lib.hid (by rw [hy4]; exact (below_a _ _).alloc (by simp) _)
    have HBN := Lib.hid ((HBY.out.trans (HB3.out.mono HBY.out.size)).trans (HB4.out.mono (Nat.le_trans HBY.out.size HB3.out.size)))
    have HDE := Lib.hid (decode24 (w := y4) (HRB.out.below HBN.out) HLB.out (by omega) hnc)
    have HU4 := Lib.hid (hu.below HB4.out)
    have q4 : BoxAt y4 y3.heap.size (L.val u) := ⟨L, u, rfl, by rw [hy4, Below.heap_alloc _ _ _ (by simp)]; exact heap_alloc_new _ _⟩
    have s4 : y4.heap[y3.heap.size + 1]? = some (.cells #[.int .i64 0, .int .i64 0] 43 (0, 0)) := by
      have := heap_alloc_new (y3.alloc (.cells (L.cells u) 28)) (.cells #[.int .i64 0, .int .i64 0] 43)
      rw [show (y3.alloc (.cells (L.cells u) 28)).heap.size = y3.heap.size + 1 by simp, ← hy4] at this
      exact this
    have HQ4 := Lib.hid q4
    have HS4 := Lib.hid s4
    rw [hy4] at HDE
    clear hu q4 s4 hy4 hdec HBD
    unfold UnV.val UnV.cells
    unfold UnV.cells at HDE HW4
    go_wp2_with fail
    (with_reducible refine HDE.out.mono ?_)
    rw [← HW4.out]
    rintro e y5 ⟨hb, hd⟩
    rw [HDL.out] at hd
    obtain ⟨M, rfl, hm⟩ := hd
    obtain ⟨y6, hy6⟩ : ∃ y6, y6 = y5.alloc (.cells (M.cells u) 28) := ⟨_, rfl⟩
    have HW6 := Lib.hid hy6
    have HB46 : Hid (Below y4.heap.size y4 y6) := Lib.hid (by rw [hy6]; exact hb.alloc hb.size _)
    have HB26 : Hid (Below y2.heap.size y2 y6) := Lib.hid ((HB3.out.trans (HB4.out.mono HB3.out.size)).trans (HB46.out.mono (Nat.le_trans HB3.out.size HB4.out.size)))
    have HBW := Lib.hid (HBN.out.trans (HB46.out.mono HBN.out.size))
    have HEQ := Lib.hid (equal22 (some ⟨g, 0, none⟩) A n n cg c l l y6 (HR2.out.below HB26.out) (HRB.out.below HBW.out))
    have HM6 : Hid (UnIn y6 M u) := Lib.hid (by rw [hy6]; exact hm.below (below_a _ _))
    have HQ6 : Hid (BoxAt y6 y5.heap.size (M.val u)) := Lib.hid ⟨M, u, rfl, by rw [hy6]; exact heap_alloc_new _ _⟩
    rw [hy6] at HEQ
    have HB5S := Lib.hid hb.size
    clear hb hm hy6 HDE HDL
    unfold UnV.val UnV.cells
    unfold UnV.cells at HEQ HW6
    go_wp2_with fail
    (with_reducible refine HEQ.out.mono ?_)
    rw [← HW6.out]
    rintro e y7 ⟨b, rfl, hb, j, rfl⟩
    obtain rfl : b = true := hb.2 (by first | rfl | trivial)
    have HB7 : Hid (Below y4.heap.size y4 (y6.drewN j)) := Lib.hid (below_drewN HB46.out j)
    have HB67 : Hid (Below y6.heap.size y6 (y6.drewN j)) := Lib.hid (below_drewN (Below.refl _ _) j)
    have HB27 : Hid (Below y2.heap.size y2 (y6.drewN j)) := Lib.hid (below_drewN HB26.out j)
    have HQ7 := Lib.hid (HQ4.out.below HB7.out)
    have HS7 := Lib.hid ((HB7.out.block _ (Array.getElem?_eq_some_iff.1 HS4.out).1).trans HS4.out)
    have HP7 := Lib.hid (HQ6.out.below HB67.out)
    have HU7 := Lib.hid (HU4.out.below HB7.out)
    have HM7 := Lib.hid (HM6.out.below HB67.out)
    have HBW7 := Lib.hid (below_drewN HBW.out j)
    have HR7 := Lib.hid (HR2.out.below HB27.out)
    have HF7 : Hid (∀ i, (y6.drewN j).frozen? ⟨g, i, none⟩ = false) := Lib.hid (fun i => (World.frozen?_of_block (w := y2) (a := ⟨g, i, none⟩) (HB27.out.block g HGL.out)).trans (HF2.out i))
    have HG3 : Hid (g ≠ y3.heap.size ∧ g ≠ y3.heap.size + 1 ∧ g ≠ y5.heap.size) := Lib.hid (by
      have h1 := HGL.out
      have h2 := HB3.out.size
      have h3 := HB4.out.size
      have h4 := HB5S.out
      omega)
    clear hb HEQ
    generalize y6.drewN j = y8 at *
    have KEY : ∃ W : World, (∀ ty, (Builtin.clear_ #[31] ty #[.slice (some ⟨g, 0, none⟩) n cg]).run Try.prog y8 = .ok (.tuple #[]) W) ∧ Below w.heap.size w W ∧ UnIn W L u ∧ UnIn W M u ∧ BoxAt W y3.heap.size (L.val u) ∧ BoxAt W y5.heap.size (M.val u) ∧ W.heap[y3.heap.size + 1]? = some (.cells #[.int .i64 0, .int .i64 0] 43 (0, 0)) := by
      by_cases h0 : n = 0
      · subst h0
        exact ⟨y8, fun ty => by simp [Builtin.clear_, run_underlying Try.underlying31], HBW7.out, HU7.out, HM7.out, HQ7.out, HP7.out, HS7.out⟩
      · have hcell : ∀ j, j < n → ∃ z, y8.cell? ⟨g, 0 + j, none⟩ = some (.int .u8 z) := fun j hj => by
          obtain ⟨hl1, hq1⟩ := HR7.out.bytes
          obtain ⟨b', o', e, _, hc⟩ := hq1 (by omega)
          cases e
          exact ⟨_, hc j _ (List.getElem?_eq_getElem (by omega))⟩
        have hfar : ∀ b, b ≠ g → (y8.setCells g 0 (List.replicate n (.int .u8 0))).heap[b]? = y8.heap[b]? := fun b hb => setCells_far hb _ _ _
        have hbox : ∀ {B : Nat} {v : Value}, BoxAt y8 B v → g ≠ B → BoxAt (y8.setCells g 0 (List.replicate n (.int .u8 0))) B v := fun ⟨L', u', e, hb⟩ hne => ⟨L', u', e, (hfar _ (fun e => hne e.symm)).trans hb⟩
        refine ⟨y8.setCells g 0 (List.replicate n (.int .u8 0)), fun ty => Lib.run_clear_slice y8 31 5 ty (.int .u8 0) Try.underlying31 zero5 rfl rfl g 0 n cg (by omega) (fun j hj => ?_) (fun j hj => HF7.out _), below_setCells HG.out _ _ _ HBW7.out, HU7.out.cleared g 0 n _ hcell, HM7.out.cleared g 0 n _ hcell, hbox HQ7.out HG3.out.1, hbox HP7.out HG3.out.2.2, (hfar _ (fun e => HG3.out.2.1 e.symm)).trans HS7.out⟩
        obtain ⟨z, hz⟩ := hcell j hj
        rw [hz]; rfl
    obtain ⟨W, hcl, hbw, huw, hmw, hq, hp, hs⟩ := KEY
    have HBW8 := Lib.hid hbw
    have HSM := Lib.hid (bool_out (d := true) (same18 u u L M W huw hmw) ⟨fun _ => rfl, fun _ => rfl⟩)
    have c0 : W.cell? ⟨y3.heap.size + 1, 0, none⟩ = some (.int .i64 0) := cell_of_row _ _ 0 _ 43 (0, 0) hs
    have c1 : W.cell? ⟨y3.heap.size + 1, 1, none⟩ = some (.int .i64 0) := cell_of_row _ _ 1 _ 43 (0, 0) hs
    clear hbw huw hmw hs HQ7 HS7 HP7 HU7 HM7 HBW7 HR7 HF7 HG3
    go_wp2_with (first | (refine wpList_load_boxg rfl (.tmp 4) rfl _ rfl hq ?_) | (refine wpList_load_boxg rfl (.tmp 6) rfl _ rfl hp ?_) | ((with_reducible refine HSM.out.mono ?_)))
    rintro e y9 ⟨rfl, hb⟩
    have HBF := Lib.hid (HBW8.out.trans (hb.mono HBW8.out.size))
    clear hb hq hp c0 c1
    go_wp2_with fail
    go_ret
    exact ⟨rfl, HBF.out⟩
end Go.Proofs.Ytcelcognmdcenaa
