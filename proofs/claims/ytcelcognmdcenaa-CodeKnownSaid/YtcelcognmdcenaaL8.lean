/-
  THE WALK of the law CodeCut.
-/
import Derived.Test.YtcelcognmdcenaaL3
namespace Go.Proofs.Ytcelcognmdcenaa
open Go.RowKit

/-- The low byte, by a mask. -/
theorem and255 (x : Int) : bits .and .i64 x 255 = x % 256 := by
  have h : (BitVec.ofInt 64 x &&& BitVec.ofInt 64 255).toNat = (x % 256).toNat := by
    rw [BitVec.toNat_and, BitVec.toNat_ofInt, BitVec.toNat_ofInt]
    have e : ((255 : Int) % ((2 ^ 64 : Nat) : Int)).toNat = 2 ^ 8 - 1 := by decide
    rw [e, Nat.and_two_pow_sub_one_eq_mod]
    have e2 : ((2 ^ 64 : Nat) : Int) = 18446744073709551616 := by decide
    rw [e2]
    omega
  unfold bits
  show IntKind.i64.wrap ((BitVec.ofInt 64 x &&& BitVec.ofInt 64 255).toNat : Int) = _
  rw [h, IntKind.wrap_i64]
  omega
theorem set_lt {l : List Nat} {k y : Nat} (hl : ∀ x ∈ l, x < 256) (hy : y < 256) : ∀ x ∈ l.set k y, x < 256 := by
  intro x hx
  rcases List.mem_or_eq_of_mem_set hx with h | rfl
  · exact hl x h
  · exact hy
theorem getD_lt {l : List Nat} (hl : ∀ x ∈ l, x < 256) (j : Nat) : l.getD j 0 < 256 := by
  rw [List.getD_eq_getElem?_getD]
  cases h : l[j]? with
  | none => simp
  | some x => simpa using hl x (List.mem_of_getElem? h)
/-- One byte changed: refused, and not ahead of it. -/
theorem change_at {u : Un} (hu : u.fault = 0) {k y xk : Nat} (hk : k < u.bytes.length) (hm : (k + 1) % 65521 ≠ 0) (hx : u.bytes[k]? = some xk) (hne : y ≠ xk) (hy : y < 256) : ∃ q, dec (u.bytes.set k y) = .error q ∧ k ≤ q := by
  refine dec_change hu (by simp) hk hm (fun j hj => by rw [List.getElem?_set_ne (fun e => hj e.symm)]) ?_ (getD_lt (set_lt (bytes_lt u) hy)) (getD_lt (bytes_lt u))
  rw [List.getD_eq_getElem?_getD, List.getD_eq_getElem?_getD, List.getElem?_set_self hk, hx]
  exact hne
theorem hz0 : L0.val u0 = .agg #[.int .i64 0, .int .i64 0, .slice none 0 0, .int .i64 0, .int .i64 0, .slice none 0 0, .slice none 0 0, .int .i64 0, .int .i64 0, .slice none 0 0, .slice none 0 0, .int .i64 0, .int .i64 0, .slice none 0 0, .slice none 0 0] := rfl

set_option maxRecDepth 100000 in
set_option maxHeartbeats 8000000 in
theorem cut_law (u : Un) (L : UnV) (cut pos by_ : Int) (w : World) (hu : UnIn w L u) (fu : u.fits) : Calls Try.prog 8 #[L.val u, .int .i64 cut, .int .i64 pos, .int .i64 by_] w (LawOut w) := by
  obtain ⟨w1, hw1⟩ : ∃ w1, w1 = w.alloc (.cells (L.cells u) 28) := ⟨_, rfl⟩
  have HB1 : Hid (Below w.heap.size w w1) := Lib.hid (by rw [hw1]; exact below_a w _)
  have HS1 : Hid (w1.heap.size = w.heap.size + 1) := Lib.hid (by rw [hw1]; simp)
  have HQ1 : Hid (BoxAt w1 w.heap.size (L.val u)) := Lib.hid ⟨L, u, rfl, by rw [hw1]; exact heap_alloc_new w _⟩
  have HU := Lib.hid (hu.below HB1.out)
  have HFU := Lib.hid fu
  have HC1 := Lib.hid (works10 w1)
  rw [hw1] at HC1
  have HW := Lib.hid hw1
  have HX1 := Lib.hid (fun x1 (_ : Below w1.heap.size w1 x1) => (long11 u L x1 HFU.out))
  have HE1 := Lib.hid (fun x1 (h : Below w1.heap.size w1 x1) => (encode12_any (HU.out.below h)))
  have HZ : Hid (∀ wx, Calls Try.prog 18 #[.agg #[.int .i64 0, .int .i64 0, .slice none 0 0, .int .i64 0, .int .i64 0, .slice none 0 0, .slice none 0 0, .int .i64 0, .int .i64 0, .slice none 0 0, .slice none 0 0, .int .i64 0, .int .i64 0, .slice none 0 0, .slice none 0 0], .agg #[.int .i64 0, .int .i64 0, .slice none 0 0, .int .i64 0, .int .i64 0, .slice none 0 0, .slice none 0 0, .int .i64 0, .int .i64 0, .slice none 0 0, .slice none 0 0, .int .i64 0, .int .i64 0, .slice none 0 0, .slice none 0 0]] wx (BOut wx true)) := Lib.hid (fun wx => bool_out (d := true) (same18 u0 u0 L0 L0 wx (UnOwn.zero 0 wx 0 0).in (UnOwn.zero 0 wx 0 0).in) ⟨fun _ => rfl, fun _ => rfl⟩)
  clear hw1 hu fu
  unfold UnV.val at HQ1 HX1 HE1 ⊢
  unfold UnV.cells at HC1 HW HQ1 HX1 HE1 ⊢
  go_enter Try.func8, Try.ntmps8
  go_wp2_with fail
  (with_reducible refine HC1.out.mono ?_)
  rintro e x1 ⟨rfl, hb⟩
  rw [← HW.out] at hb
  have hs1 := HS1.out
  have HBL := Lib.hid hb
  clear hb HC1 HW
  generalize Value.agg #[.int .i64 u.k1, .int .i64 u.k2, .slice L.P u.pts.length L.c, .int .i64 u.left.ins, .int .i64 u.left.regs, .slice L.l.A u.left.code.length L.l.c, .slice L.l.B u.left.outs.length L.l.d, .int .i64 u.right.ins, .int .i64 u.right.regs, .slice L.r.A u.right.code.length L.r.c, .slice L.r.B u.right.outs.length L.r.d, .int .i64 u.back.ins, .int .i64 u.back.regs, .slice L.b.A u.back.code.length L.b.c, .slice L.b.B u.back.outs.length L.b.d] = U at *
  generalize longB u = b1 at *
  have q1 := HQ1.out.below HBL.out
  go_wp2_with (first | (refine wpList_load_box rfl (.tmp 4) rfl _ rfl q1 ?_) | ((with_reducible refine (HX1.out _ HBL.out).mono ?_)))
  rintro e x2 ⟨rfl, hb⟩
  have HBN := Lib.hid (HBL.out.trans (hb.mono HBL.out.size))
  clear hb HBL q1
  have HBL := HBN
  clear HBN
  have q1 := HQ1.out.below HBL.out
  cases b1 with
  | true =>
    go_wp2_with fail
    go_ret
    exact ⟨rfl, HB1.out.trans (HBL.out.mono HB1.out.size)⟩
  | false =>
    go_wp2_with (first | (refine wpList_load_box rfl (.tmp 4) rfl _ rfl q1 ?_) | ((with_reducible refine (HE1.out _ HBL.out).mono ?_)))
    rintro e x3 ⟨hb, ⟨hf, rfl⟩ | ⟨hf, A, n, c, rfl, hnc, hnb, ho⟩⟩
    · have HBN := Lib.hid (HBL.out.trans (hb.mono HBL.out.size))
      obtain ⟨f, hff⟩ : ∃ f, f = u.fault := ⟨_, rfl⟩
      rw [← hff] at hf ⊢
      have e0 : ((f : Int) == 0) = false := by simp; omega
      have e1 : ((f : Int) != 0) = true := by simp; omega
      have he := fun wx => Lib.run_eql_slice_nil (P := Try.prog) wx 31 5 none 0 0 0 0 Try.underlying31
      simp only [Option.isNone] at he
      clear hb hf hff q1
      go_wp2_with fail
      go_ret
      exact ⟨rfl, HB1.out.trans (HBN.out.mono HB1.out.size)⟩
    · have HBN := Lib.hid (HBL.out.trans (hb.mono HBL.out.size))
      have HF0 := Lib.hid hf
      have HRD0 := Lib.hid (Reads.of_own ho)
      have HLN := Lib.hid (tel_len ho)
      clear hb hf ho q1 HBL
      -- the bytes lie in x3: what follows reads them there
      have HBL3 := Lib.hid (HB1.out.trans (HBN.out.mono HB1.out.size))
      by_cases h1 : 0 ≤ cut
      · obtain ⟨k0, hk0⟩ := Int.eq_ofNat_of_zero_le h1
        subst hk0
        by_cases h2 : k0 < n
        · have HDEC := Lib.hid (decode17 (HRD0.out.take (by omega : k0 ≤ n)) (fun x hx => bytes_lt u x (List.mem_of_mem_take hx)) (by omega) (by omega : k0 ≤ c))
          have HDC := Lib.hid (dec_cut HF0.out (k := k0) (by rw [HLN.out]; exact h2))
          go_wp2_with fail
          (with_reducible refine HDEC.out.mono ?_)
          rintro e x4 ⟨hb, hd⟩
          rw [HDC.out] at hd
          rw [hz0] at hd
          subst hd
          have HB34 := Lib.hid hb
          have q3 : BoxAt ((x4.alloc (.cells #[.int .i64 0, .int .i64 0, .slice none 0 0, .int .i64 0, .int .i64 0, .slice none 0 0, .slice none 0 0, .int .i64 0, .int .i64 0, .slice none 0 0, .slice none 0 0, .int .i64 0, .int .i64 0, .slice none 0 0, .slice none 0 0] 28)).alloc (.cells #[.int .i64 170, .int .i64 (k0 : Nat)] 43)) x4.heap.size (.agg #[.int .i64 0, .int .i64 0, .slice none 0 0, .int .i64 0, .int .i64 0, .slice none 0 0, .slice none 0 0, .int .i64 0, .int .i64 0, .slice none 0 0, .slice none 0 0, .int .i64 0, .int .i64 0, .slice none 0 0, .slice none 0 0]) := ⟨L0, u0, hz0.symm, by rw [Below.heap_alloc _ _ _ (by simp)]; exact heap_alloc_new _ _⟩
          have HB35 := Lib.hid (hb.trans (((Below.refl x4.heap.size x4).alloc (Nat.le_refl _) (.cells #[.int .i64 0, .int .i64 0, .slice none 0 0, .int .i64 0, .int .i64 0, .slice none 0 0, .slice none 0 0, .int .i64 0, .int .i64 0, .slice none 0 0, .slice none 0 0, .int .i64 0, .int .i64 0, .slice none 0 0, .slice none 0 0] 28)).alloc (by simp) (.cells #[.int .i64 170, .int .i64 (k0 : Nat)] 43) |>.mono hb.size))
          clear hb HDEC HDC
          go_wp2_with (first | (refine wpList_load_boxg rfl (.tmp 11) rfl _ rfl q3 ?_) | ((with_reducible refine (HZ.out _).mono ?_)))
          rintro e x6 ⟨rfl, hb⟩
          have HB36 := Lib.hid (HB35.out.trans (hb.mono HB35.out.size))
          have HBL := Lib.hid (HBN.out.trans (HB36.out.mono HBN.out.size))
          have HRD := HRD0
          clear hb q3 HB34 HB35
          by_cases p1 : pos < 0
          · go_wp2_with fail
            go_ret
            exact ⟨rfl, HB1.out.trans (HBL.out.mono HB1.out.size)⟩
          obtain ⟨k, hk⟩ := Int.eq_ofNat_of_zero_le (show 0 ≤ pos by omega)
          subst hk
          by_cases p2 : n ≤ k
          · go_wp2_with fail
            go_ret
            exact ⟨rfl, HB1.out.trans (HBL.out.mono HB1.out.size)⟩
          have hand := and255 by_
          by_cases p3 : (k + 1) % 65521 = 0
          · have e3 : (((k : Int) + 1) % 65521 == 0) = true := by simp; omega
            clear p3
            go_wp2_with fail
            go_ret
            exact ⟨rfl, HB1.out.trans (HBL.out.mono HB1.out.size)⟩
          have e3 : (((k : Int) + 1) % 65521 == 0) = false := by simp; omega
          by_cases p4 : by_ % 256 = 0
          · have e4 : (by_ % 256 == 0) = true := by simp; omega
            clear p4
            go_wp2_with fail
            go_ret
            exact ⟨rfl, HB1.out.trans (HBL.out.mono HB1.out.size)⟩
          have e4 : (by_ % 256 == 0) = false := by simpa using p4
          have HP3 := Lib.hid p3
          have HCL := Lib.hid (clone16 A n c u.bytes x6 (HRD.out.below HB36.out) (by omega))
          have hkn : (k : Int) < (n : Int) := by omega
          have hkn2 : k < n := by omega
          have e5 : IntKind.u8.wrap (by_ % 256) = by_ % 256 := by rw [IntKind.wrap_u8]; omega
          have HP4 := Lib.hid p4
          clear p1 p2 p3 p4
          go_wp2_with fail
          (with_reducible refine HCL.out.mono ?_)
          rintro e y1 ⟨v1, rfl, ho, hb⟩
          have HBN := Lib.hid (HBL.out.trans (hb.mono HBL.out.size))
          obtain ⟨g, cg, rfl⟩ := Joins.ownsRow_form ho (by omega)
          obtain ⟨xk, hxk⟩ : ∃ xk, u.bytes[k]? = some xk := ⟨u.bytes[k]'(by rw [tel_len ho]; exact hkn2), List.getElem?_eq_getElem _⟩
          have kc : y1.cell? ⟨g, k, none⟩ = some (.int .u8 (xk : Nat)) := by rw [ho.cellAt k (by omega), vB_get hxk]
          have kf := ho.frozenAt k
          have hxb := bytes_lt u xk (List.mem_of_getElem? hxk)
          obtain ⟨y, hy⟩ : ∃ y : Nat, y = (((xk : Int) + by_ % 256) % 256).toNat := ⟨_, rfl⟩
          have e6 : IntKind.u8.wrap ((xk : Int) + by_ % 256) = (y : Nat) := by rw [IntKind.wrap_u8, hy]; omega
          have HYN : Hid (y ≠ xk ∧ y < 256) := Lib.hid ⟨by have := HP4.out; omega, by omega⟩
          have HST : Hid ((y1.setCell ⟨g, k, none⟩ (.int .u8 (y : Nat))).ownsRow x6.heap.size 5 1 (.slice (some ⟨g, 0, none⟩) n cg) n (vB (u.bytes.set k y))) := Lib.hid (by
            have h1 := (ho.stored k (.int .u8 (y : Nat))).1
            have h2 : (vB u.bytes).set k (.int .u8 (y : Nat)) = vB (u.bytes.set k y) := by unfold vB; rw [List.map_set]
            rw [h2] at h1; exact h1)
          have HSB : Hid (Below w1.heap.size w1 (y1.setCell ⟨g, k, none⟩ (.int .u8 (y : Nat)))) := Lib.hid (HBN.out.setCell (p := ⟨g, k, none⟩) (Nat.le_trans HBL.out.size (ho.lt g rfl).1) _)
          have HCH := Lib.hid (change_at HF0.out (by rw [tel_len ho]; exact hkn2) HP3.out hxk HYN.out.1 HYN.out.2)
          have hcg : n ≤ cg := by
            obtain ⟨A', c', e, h1, _⟩ := own_slice ho
            cases e; exact h1
          have HDEC := Lib.hid (decode17 (Reads.of_own HST.out) (set_lt (bytes_lt u) HYN.out.2) (by omega) hcg)
          clear hb ho hxk hy HCL
          go_wp2_with fail
          (with_reducible refine HDEC.out.mono ?_)
          rintro e y2 ⟨hb, hd⟩
          have HBM := Lib.hid (HSB.out.trans (hb.mono HSB.out.size))
          obtain ⟨q, hq1, hq2⟩ := HCH.out
          rw [hq1] at hd
          rw [hz0] at hd
          subst hd
          have hkq : (k : Int) ≤ (q : Int) := by omega
          have hq0 : (0 : Int) ≤ (q : Int) := by omega
          have q3 : BoxAt ((y2.alloc (.cells #[.int .i64 0, .int .i64 0, .slice none 0 0, .int .i64 0, .int .i64 0, .slice none 0 0, .slice none 0 0, .int .i64 0, .int .i64 0, .slice none 0 0, .slice none 0 0, .int .i64 0, .int .i64 0, .slice none 0 0, .slice none 0 0] 28)).alloc (.cells #[.int .i64 170, .int .i64 (q : Nat)] 43)) y2.heap.size (.agg #[.int .i64 0, .int .i64 0, .slice none 0 0, .int .i64 0, .int .i64 0, .slice none 0 0, .slice none 0 0, .int .i64 0, .int .i64 0, .slice none 0 0, .slice none 0 0, .int .i64 0, .int .i64 0, .slice none 0 0, .slice none 0 0]) := ⟨L0, u0, hz0.symm, by rw [Below.heap_alloc _ _ _ (by simp)]; exact heap_alloc_new _ _⟩
          have HBM2 := Lib.hid (HBM.out.trans (((Below.refl y2.heap.size y2).alloc (Nat.le_refl _) (.cells #[.int .i64 0, .int .i64 0, .slice none 0 0, .int .i64 0, .int .i64 0, .slice none 0 0, .slice none 0 0, .int .i64 0, .int .i64 0, .slice none 0 0, .slice none 0 0, .int .i64 0, .int .i64 0, .slice none 0 0, .slice none 0 0] 28)).alloc (by simp) (.cells #[.int .i64 170, .int .i64 (q : Nat)] 43) |>.mono HBM.out.size))
          clear hb HDEC hq1 hq2 HCH
          go_wp2_with (first | (refine wpList_load_boxg rfl (.tmp 14) rfl _ rfl q3 ?_) | ((with_reducible refine (HZ.out _).mono ?_)))
          rintro e y3 ⟨rfl, hb⟩
          have HBM3 := Lib.hid (HBM2.out.trans (hb.mono HBM2.out.size))
          clear hb q3
          go_wp2_with fail
          go_ret
          exact ⟨rfl, HB1.out.trans (HBM3.out.mono HB1.out.size)⟩
        ·
          have HBL := HBN
          have HRD := HRD0
          by_cases p1 : pos < 0
          · go_wp2_with fail
            go_ret
            exact ⟨rfl, HB1.out.trans (HBL.out.mono HB1.out.size)⟩
          obtain ⟨k, hk⟩ := Int.eq_ofNat_of_zero_le (show 0 ≤ pos by omega)
          subst hk
          by_cases p2 : n ≤ k
          · go_wp2_with fail
            go_ret
            exact ⟨rfl, HB1.out.trans (HBL.out.mono HB1.out.size)⟩
          have hand := and255 by_
          by_cases p3 : (k + 1) % 65521 = 0
          · have e3 : (((k : Int) + 1) % 65521 == 0) = true := by simp; omega
            clear p3
            go_wp2_with fail
            go_ret
            exact ⟨rfl, HB1.out.trans (HBL.out.mono HB1.out.size)⟩
          have e3 : (((k : Int) + 1) % 65521 == 0) = false := by simp; omega
          by_cases p4 : by_ % 256 = 0
          · have e4 : (by_ % 256 == 0) = true := by simp; omega
            clear p4
            go_wp2_with fail
            go_ret
            exact ⟨rfl, HB1.out.trans (HBL.out.mono HB1.out.size)⟩
          have e4 : (by_ % 256 == 0) = false := by simpa using p4
          have HP3 := Lib.hid p3
          have HCL := Lib.hid (clone16 A n c u.bytes x3 HRD.out (by omega))
          have hkn : (k : Int) < (n : Int) := by omega
          have hkn2 : k < n := by omega
          have e5 : IntKind.u8.wrap (by_ % 256) = by_ % 256 := by rw [IntKind.wrap_u8]; omega
          have HP4 := Lib.hid p4
          clear p1 p2 p3 p4
          go_wp2_with fail
          (with_reducible refine HCL.out.mono ?_)
          rintro e y1 ⟨v1, rfl, ho, hb⟩
          have HBN := Lib.hid (HBL.out.trans (hb.mono HBL.out.size))
          obtain ⟨g, cg, rfl⟩ := Joins.ownsRow_form ho (by omega)
          obtain ⟨xk, hxk⟩ : ∃ xk, u.bytes[k]? = some xk := ⟨u.bytes[k]'(by rw [tel_len ho]; exact hkn2), List.getElem?_eq_getElem _⟩
          have kc : y1.cell? ⟨g, k, none⟩ = some (.int .u8 (xk : Nat)) := by rw [ho.cellAt k (by omega), vB_get hxk]
          have kf := ho.frozenAt k
          have hxb := bytes_lt u xk (List.mem_of_getElem? hxk)
          obtain ⟨y, hy⟩ : ∃ y : Nat, y = (((xk : Int) + by_ % 256) % 256).toNat := ⟨_, rfl⟩
          have e6 : IntKind.u8.wrap ((xk : Int) + by_ % 256) = (y : Nat) := by rw [IntKind.wrap_u8, hy]; omega
          have HYN : Hid (y ≠ xk ∧ y < 256) := Lib.hid ⟨by have := HP4.out; omega, by omega⟩
          have HST : Hid ((y1.setCell ⟨g, k, none⟩ (.int .u8 (y : Nat))).ownsRow x3.heap.size 5 1 (.slice (some ⟨g, 0, none⟩) n cg) n (vB (u.bytes.set k y))) := Lib.hid (by
            have h1 := (ho.stored k (.int .u8 (y : Nat))).1
            have h2 : (vB u.bytes).set k (.int .u8 (y : Nat)) = vB (u.bytes.set k y) := by unfold vB; rw [List.map_set]
            rw [h2] at h1; exact h1)
          have HSB : Hid (Below w1.heap.size w1 (y1.setCell ⟨g, k, none⟩ (.int .u8 (y : Nat)))) := Lib.hid (HBN.out.setCell (p := ⟨g, k, none⟩) (Nat.le_trans HBL.out.size (ho.lt g rfl).1) _)
          have HCH := Lib.hid (change_at HF0.out (by rw [tel_len ho]; exact hkn2) HP3.out hxk HYN.out.1 HYN.out.2)
          have hcg : n ≤ cg := by
            obtain ⟨A', c', e, h1, _⟩ := own_slice ho
            cases e; exact h1
          have HDEC := Lib.hid (decode17 (Reads.of_own HST.out) (set_lt (bytes_lt u) HYN.out.2) (by omega) hcg)
          clear hb ho hxk hy HCL
          go_wp2_with fail
          (with_reducible refine HDEC.out.mono ?_)
          rintro e y2 ⟨hb, hd⟩
          have HBM := Lib.hid (HSB.out.trans (hb.mono HSB.out.size))
          obtain ⟨q, hq1, hq2⟩ := HCH.out
          rw [hq1] at hd
          rw [hz0] at hd
          subst hd
          have hkq : (k : Int) ≤ (q : Int) := by omega
          have hq0 : (0 : Int) ≤ (q : Int) := by omega
          have q3 : BoxAt ((y2.alloc (.cells #[.int .i64 0, .int .i64 0, .slice none 0 0, .int .i64 0, .int .i64 0, .slice none 0 0, .slice none 0 0, .int .i64 0, .int .i64 0, .slice none 0 0, .slice none 0 0, .int .i64 0, .int .i64 0, .slice none 0 0, .slice none 0 0] 28)).alloc (.cells #[.int .i64 170, .int .i64 (q : Nat)] 43)) y2.heap.size (.agg #[.int .i64 0, .int .i64 0, .slice none 0 0, .int .i64 0, .int .i64 0, .slice none 0 0, .slice none 0 0, .int .i64 0, .int .i64 0, .slice none 0 0, .slice none 0 0, .int .i64 0, .int .i64 0, .slice none 0 0, .slice none 0 0]) := ⟨L0, u0, hz0.symm, by rw [Below.heap_alloc _ _ _ (by simp)]; exact heap_alloc_new _ _⟩
          have HBM2 := Lib.hid (HBM.out.trans (((Below.refl y2.heap.size y2).alloc (Nat.le_refl _) (.cells #[.int .i64 0, .int .i64 0, .slice none 0 0, .int .i64 0, .int .i64 0, .slice none 0 0, .slice none 0 0, .int .i64 0, .int .i64 0, .slice none 0 0, .slice none 0 0, .int .i64 0, .int .i64 0, .slice none 0 0, .slice none 0 0] 28)).alloc (by simp) (.cells #[.int .i64 170, .int .i64 (q : Nat)] 43) |>.mono HBM.out.size))
          clear hb HDEC hq1 hq2 HCH
          go_wp2_with (first | (refine wpList_load_boxg rfl (.tmp 14) rfl _ rfl q3 ?_) | ((with_reducible refine (HZ.out _).mono ?_)))
          rintro e y3 ⟨rfl, hb⟩
          have HBM3 := Lib.hid (HBM2.out.trans (hb.mono HBM2.out.size))
          clear hb q3
          go_wp2_with fail
          go_ret
          exact ⟨rfl, HB1.out.trans (HBM3.out.mono HB1.out.size)⟩
      ·
        have HBL := HBN
        have HRD := HRD0
        by_cases p1 : pos < 0
        · go_wp2_with fail
          go_ret
          exact ⟨rfl, HB1.out.trans (HBL.out.mono HB1.out.size)⟩
        obtain ⟨k, hk⟩ := Int.eq_ofNat_of_zero_le (show 0 ≤ pos by omega)
        subst hk
        by_cases p2 : n ≤ k
        · go_wp2_with fail
          go_ret
          exact ⟨rfl, HB1.out.trans (HBL.out.mono HB1.out.size)⟩
        have hand := and255 by_
        by_cases p3 : (k + 1) % 65521 = 0
        · have e3 : (((k : Int) + 1) % 65521 == 0) = true := by simp; omega
          clear p3
          go_wp2_with fail
          go_ret
          exact ⟨rfl, HB1.out.trans (HBL.out.mono HB1.out.size)⟩
        have e3 : (((k : Int) + 1) % 65521 == 0) = false := by simp; omega
        by_cases p4 : by_ % 256 = 0
        · have e4 : (by_ % 256 == 0) = true := by simp; omega
          clear p4
          go_wp2_with fail
          go_ret
          exact ⟨rfl, HB1.out.trans (HBL.out.mono HB1.out.size)⟩
        have e4 : (by_ % 256 == 0) = false := by simpa using p4
        have HP3 := Lib.hid p3
        have HCL := Lib.hid (clone16 A n c u.bytes x3 HRD.out (by omega))
        have hkn : (k : Int) < (n : Int) := by omega
        have hkn2 : k < n := by omega
        have e5 : IntKind.u8.wrap (by_ % 256) = by_ % 256 := by rw [IntKind.wrap_u8]; omega
        have HP4 := Lib.hid p4
        clear p1 p2 p3 p4
        go_wp2_with fail
        (with_reducible refine HCL.out.mono ?_)
        rintro e y1 ⟨v1, rfl, ho, hb⟩
        have HBN := Lib.hid (HBL.out.trans (hb.mono HBL.out.size))
        obtain ⟨g, cg, rfl⟩ := Joins.ownsRow_form ho (by omega)
        obtain ⟨xk, hxk⟩ : ∃ xk, u.bytes[k]? = some xk := ⟨u.bytes[k]'(by rw [tel_len ho]; exact hkn2), List.getElem?_eq_getElem _⟩
        have kc : y1.cell? ⟨g, k, none⟩ = some (.int .u8 (xk : Nat)) := by rw [ho.cellAt k (by omega), vB_get hxk]
        have kf := ho.frozenAt k
        have hxb := bytes_lt u xk (List.mem_of_getElem? hxk)
        obtain ⟨y, hy⟩ : ∃ y : Nat, y = (((xk : Int) + by_ % 256) % 256).toNat := ⟨_, rfl⟩
        have e6 : IntKind.u8.wrap ((xk : Int) + by_ % 256) = (y : Nat) := by rw [IntKind.wrap_u8, hy]; omega
        have HYN : Hid (y ≠ xk ∧ y < 256) := Lib.hid ⟨by have := HP4.out; omega, by omega⟩
        have HST : Hid ((y1.setCell ⟨g, k, none⟩ (.int .u8 (y : Nat))).ownsRow x3.heap.size 5 1 (.slice (some ⟨g, 0, none⟩) n cg) n (vB (u.bytes.set k y))) := Lib.hid (by
          have h1 := (ho.stored k (.int .u8 (y : Nat))).1
          have h2 : (vB u.bytes).set k (.int .u8 (y : Nat)) = vB (u.bytes.set k y) := by unfold vB; rw [List.map_set]
          rw [h2] at h1; exact h1)
        have HSB : Hid (Below w1.heap.size w1 (y1.setCell ⟨g, k, none⟩ (.int .u8 (y : Nat)))) := Lib.hid (HBN.out.setCell (p := ⟨g, k, none⟩) (Nat.le_trans HBL.out.size (ho.lt g rfl).1) _)
        have HCH := Lib.hid (change_at HF0.out (by rw [tel_len ho]; exact hkn2) HP3.out hxk HYN.out.1 HYN.out.2)
        have hcg : n ≤ cg := by
          obtain ⟨A', c', e, h1, _⟩ := own_slice ho
          cases e; exact h1
        have HDEC := Lib.hid (decode17 (Reads.of_own HST.out) (set_lt (bytes_lt u) HYN.out.2) (by omega) hcg)
        clear hb ho hxk hy HCL
        go_wp2_with fail
        (with_reducible refine HDEC.out.mono ?_)
        rintro e y2 ⟨hb, hd⟩
        have HBM := Lib.hid (HSB.out.trans (hb.mono HSB.out.size))
        obtain ⟨q, hq1, hq2⟩ := HCH.out
        rw [hq1] at hd
        rw [hz0] at hd
        subst hd
        have hkq : (k : Int) ≤ (q : Int) := by omega
        have hq0 : (0 : Int) ≤ (q : Int) := by omega
        have q3 : BoxAt ((y2.alloc (.cells #[.int .i64 0, .int .i64 0, .slice none 0 0, .int .i64 0, .int .i64 0, .slice none 0 0, .slice none 0 0, .int .i64 0, .int .i64 0, .slice none 0 0, .slice none 0 0, .int .i64 0, .int .i64 0, .slice none 0 0, .slice none 0 0] 28)).alloc (.cells #[.int .i64 170, .int .i64 (q : Nat)] 43)) y2.heap.size (.agg #[.int .i64 0, .int .i64 0, .slice none 0 0, .int .i64 0, .int .i64 0, .slice none 0 0, .slice none 0 0, .int .i64 0, .int .i64 0, .slice none 0 0, .slice none 0 0, .int .i64 0, .int .i64 0, .slice none 0 0, .slice none 0 0]) := ⟨L0, u0, hz0.symm, by rw [Below.heap_alloc _ _ _ (by simp)]; exact heap_alloc_new _ _⟩
        have HBM2 := Lib.hid (HBM.out.trans (((Below.refl y2.heap.size y2).alloc (Nat.le_refl _) (.cells #[.int .i64 0, .int .i64 0, .slice none 0 0, .int .i64 0, .int .i64 0, .slice none 0 0, .slice none 0 0, .int .i64 0, .int .i64 0, .slice none 0 0, .slice none 0 0, .int .i64 0, .int .i64 0, .slice none 0 0, .slice none 0 0] 28)).alloc (by simp) (.cells #[.int .i64 170, .int .i64 (q : Nat)] 43) |>.mono HBM.out.size))
        clear hb HDEC hq1 hq2 HCH
        go_wp2_with (first | (refine wpList_load_boxg rfl (.tmp 14) rfl _ rfl q3 ?_) | ((with_reducible refine (HZ.out _).mono ?_)))
        rintro e y3 ⟨rfl, hb⟩
        have HBM3 := Lib.hid (HBM2.out.trans (hb.mono HBM2.out.size))
        clear hb q3
        go_wp2_with fail
        go_ret
        exact ⟨rfl, HB1.out.trans (HBM3.out.mono HB1.out.size)⟩
end Go.Proofs.Ytcelcognmdcenaa
