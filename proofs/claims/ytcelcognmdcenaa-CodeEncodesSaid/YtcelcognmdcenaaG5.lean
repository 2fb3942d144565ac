/-
  WALKS: a program's bytes, in the reference's words.
-/
import Derived.Test.YtcelcognmdcenaaG4
namespace Go.Proofs.Ytcelcognmdcenaa
open Go.RowKit

theorem ok_const {p : Pr} (h : p.ok = true) {j : Nat} {x : Ins} (hx : p.code[j]? = some x) : -512 ≤ x.c ∧ x.c ≤ 512 := by
  unfold Pr.ok at h
  rw [Bool.and_eq_true] at h
  have h2 := List.all_eq_true.1 h.2 x (List.mem_of_getElem? hx)
  unfold Ins.ok at h2
  rw [Bool.and_eq_true] at h2
  have h3 := h2.2
  split at h3
  · have := of_decide_eq_true h3; omega
  · rw [Bool.and_eq_true] at h3
    have h4 := h3.2
    unfold constOk at h4
    split at h4
    · have := of_decide_eq_true h4; omega
    · split at h4
      · have := of_decide_eq_true h4; omega
      · have := of_decide_eq_true h4; omega
/-- A row with an element lies somewhere. -/
theorem own_form {w : World} {base size n : Nat} {e : TypeId} {v : Value} {xs : List Value} (h : w.ownsRow base e size v n xs) (hn : 0 < n) : ∃ g cap, v = .slice (some ⟨g, 0, none⟩) n cap ∧ ∀ j u, xs[j]? = some u → w.cell? ⟨g, j, none⟩ = some u := by
  obtain ⟨g, cap, rfl⟩ := Joins.ownsRow_form h hn
  refine ⟨g, cap, rfl, fun j u hu => ?_⟩
  have hj : j < n * size := by rw [← h.1]; exact (List.getElem?_eq_some_iff.1 hu).1
  rw [h.cellAt j hj, hu]

set_option maxRecDepth 100000 in
set_option maxHeartbeats 8000000 in
theorem program42 (p : Pr) (L : PrV) (w : World) (hp : PrIn w L p) (hok : p.ok = true) : Calls Try.prog 42 #[L.val p] w fun e w' => ∃ v n, e = .returned v ∧ w'.ownsRow w.heap.size 5 1 v n (vB p.bytes) ∧ Below w.heap.size w w' := by
  obtain ⟨i5, hi, hz0, hz1, hz2⟩ := info_parts info5
  obtain ⟨hpc, hpo⟩ := Pr.ok_len hok
  have HOK := Lib.hid hok
  clear hok
  obtain ⟨w1, hw1⟩ : ∃ w1, w1 = w.alloc (.cells #[.int .i64 p.ins, .int .i64 p.regs, .slice L.A p.code.length L.c, .slice L.B p.outs.length L.d] 26) := ⟨_, rfl⟩
  have HP1 : Hid (PrIn w1 L p) := Lib.hid (by rw [hw1]; exact hp.below (below_a _ _))
  have HQ1 : Hid (w1.heap[w.heap.size]? = some (.cells #[.int .i64 p.ins, .int .i64 p.regs, .slice L.A p.code.length L.c, .slice L.B p.outs.length L.d] 26 (0, 0))) := Lib.hid (by rw [hw1]; exact heap_alloc_new w _)
  have HBL : Hid (Below w.heap.size w w1) := Lib.hid (by rw [hw1]; exact below_a w _)
  have HS1 : Hid (w1.heap.size = w.heap.size + 1) := Lib.hid (by rw [hw1]; simp)
  have HOL : Hid ((w1.alloc (.cells #[.int .u8 (by8 p.ins : Nat), .int .u8 (by8 p.regs : Nat)] 5)).ownsRow (w.heap.size + 1) 5 1 (.slice (some ⟨w.heap.size + 1, 0, none⟩) 2 2) 2 (vB [by8 p.ins, by8 p.regs])) := Lib.hid (by
    have := World.ownsRow_lit (base := w.heap.size + 1) (e := 5) (size := 1) w1 #[.int .u8 (by8 p.ins : Nat), .int .u8 (by8 p.regs : Nat)] 2 (by rw [HS1.out]; exact Nat.le_refl _) (by unfold maxLen; omega) rfl
    rw [HS1.out] at this
    exact this)
  have HC1 := Lib.hid (two43 (p.code.length : Int) (w1.alloc (.cells #[.int .u8 (by8 p.ins : Nat), .int .u8 (by8 p.regs : Nat)] 5)) (by omega) (by omega))
  have HW := Lib.hid hw1
  rw [hw1] at HC1
  clear hw1 hp
  have e1 := u8_by8 p.ins
  have e2 := u8_by8 p.regs
  unfold PrV.val
  go_enter Try.func42, Try.ntmps42
  go_wp2_with fail
  (with_reducible refine HC1.out.mono ?_)
  rintro e w3 ⟨v3, rfl, ho3, hb3⟩
  have HB3 : Hid (Below (w.heap.size + 1) w1 w3) := Lib.hid ((show Below (w.heap.size + 1) w1 (w1.alloc (.cells #[.int .u8 (by8 p.ins : Nat), .int .u8 (by8 p.regs : Nat)] 5)) from by have := below_a w1 (.cells #[.int .u8 (by8 p.ins : Nat), .int .u8 (by8 p.regs : Nat)] 5); rw [HS1.out] at this; exact this).trans (by rw [← HW.out] at hb3; exact hb3.mono (by have := HS1.out; simp; omega)))
  have HO3 : Hid (w3.ownsRow (w.heap.size + 1) 5 1 (.slice (some ⟨w.heap.size + 1, 0, none⟩) 2 2) 2 (vB [by8 p.ins, by8 p.regs])) := Lib.hid (own_below HOL.out (by rw [← HW.out] at hb3; exact hb3))
  obtain ⟨g3, k3, rfl, hc3⟩ := own_form ho3 (by omega)
  have HC3 := Lib.hid hc3
  have hws : w.heap.size + 1 ≤ w3.heap.size := by have := HB3.out.size; have := HS1.out; omega
  have hl1 : w.heap.size < w.heap.size + 1 := by omega
  clear ho3 hb3 hc3 HC1 HOL
  go_wp2_with (at_builtin; refine wpList_appM rfl (.tmp 14) (.tmp 18) 31 rfl (w.heap.size + 1) 5 i5 (.int .u8 0) 1 Try.underlying31 hi hz0 hz1 hz2 rfl (by decide) (.slice (some ⟨w.heap.size + 1, 0, none⟩) 2 2) 2 (vB [by8 p.ins, by8 p.regs]) rfl HO3.out g3 2 k3 (vB (by16 (p.code.length : Int))) rfl rfl HC3.out (vB_one _) (by omega) hws ?_)
  intro v4 w4 ho4 hg4 _
  have HB4 := Lib.hid (HB3.out.grown hg4 hws (fun g hg => by cases hg; exact Nat.le_refl _))
  have HO4 := Lib.hid (tel_app (n' := 4) ho4 rfl (show [by8 p.ins, by8 p.regs] ++ by16 (p.code.length : Int) = p.upC 0 from p.upC_0 []))
  obtain ⟨A4, C4, rfl, _, _⟩ := own_slice ho4
  clear ho4 hg4 HO3 HC3 HB3
  go_wp2_with fail
  go_loopw [3, 4] (fun v i wr => ∃ (j m : Nat) (A : Option Addr) (c : Nat), j ≤ p.code.length ∧ i = .int .i64 j ∧ v = .slice A m c ∧ Hid (wr.ownsRow (w.heap.size + 1) 5 1 (.slice A m c) m (vB (p.upC j)) ∧ Below (w.heap.size + 1) w1 wr)) (fun _ i _ => p.code.length - (intOf i).toNat)
  case atStart => exact ⟨0, 4, A4, C4, Nat.zero_le _, rfl, rfl, HO4.out, HB4.out⟩
  case round =>
    obtain ⟨j, m7, A7, C7, hj, rfl, rfl, HR⟩ := hrel
    have hm7 : m7 ≤ 98308 := by rw [← tel_len HR.out.1]; exact p.upC_len hpc j
    have HQR := Lib.hid ((HR.out.2.block _ hl1).trans HQ1.out)
    have c2 : wr.cell? ⟨w.heap.size, 2, none⟩ = some (.slice L.A p.code.length L.c) := cell_of_row _ _ 2 _ 26 (0, 0) HQR.out
    have hws : w.heap.size + 1 ≤ wr.heap.size := by have := HR.out.2.size; have := HS1.out; omega
    by_cases hlt2 : j < p.code.length
    · obtain ⟨gc, oc, hAA, hgl, hcc⟩ := (HP1.out.below (HR.out.2.mono (by rw [HS1.out]; exact Nat.le_refl _))).code.code.2 (by omega)
      obtain ⟨x, hx⟩ : ∃ x, p.code[j]? = some x := ⟨p.code[j]'hlt2, List.getElem?_eq_getElem _⟩
      obtain ⟨a0, a1, a2, a3, a4⟩ := hcc j x hx
      have HX := Lib.hid (Pr.upC_next hx [])
      have hxc := ok_const HOK.out hx
      have e1 := u8_by8 x.op
      have e2 := u8_by8 x.to
      have e3 := u8_by8 x.a
      have e4 := u8_by8 x.b
      clear hcc hx
      generalize hMx : L.A = Mx at *
      subst hAA
      clear hMx
      obtain ⟨x0, x1, x2, x3, x4⟩ := x
      simp only at a0 a1 a2 a3 a4 e1 e2 e3 e4 HX hxc
      have HO1 := Lib.hid ((HR.out.1.alloc (.cells #[.int .i64 x0, .int .i64 x1, .int .i64 x2, .int .i64 x3, .int .i64 x4] 63)).alloc (.cells #[.int .u8 (by8 x0 : Nat), .int .u8 (by8 x1 : Nat), .int .u8 (by8 x2 : Nat), .int .u8 (by8 x3 : Nat)] 5))
      have HB1 := Lib.hid (((HR.out.2.alloc hws (.cells #[.int .i64 x0, .int .i64 x1, .int .i64 x2, .int .i64 x3, .int .i64 x4] 63)).alloc (by simp; omega) (.cells #[.int .u8 (by8 x0 : Nat), .int .u8 (by8 x1 : Nat), .int .u8 (by8 x2 : Nat), .int .u8 (by8 x3 : Nat)] 5)))
      have HROW := Lib.hid (fun g hg => HR.out.1.lt g hg)
      have HK4 := Lib.hid (cell_al (cell_of_row (wr.alloc (.cells #[.int .i64 x0, .int .i64 x1, .int .i64 x2, .int .i64 x3, .int .i64 x4] 63)) wr.heap.size 4 _ 63 (0, 0) (heap_alloc_new _ _)) (.cells #[.int .u8 (by8 x0 : Nat), .int .u8 (by8 x1 : Nat), .int .u8 (by8 x2 : Nat), .int .u8 (by8 x3 : Nat)] 5))
      go_wp2_with (at_builtin; refine wpList_appM rfl (.tmp 32) (.tmp 45) 31 rfl (w.heap.size + 1) 5 i5 (.int .u8 0) 1 Try.underlying31 hi hz0 hz1 hz2 rfl (by decide) (.slice A7 m7 C7) m7 (vB (p.upC j)) rfl HO1.out (wr.heap.size + 1) 4 4 (vB [by8 x0, by8 x1, by8 x2, by8 x3]) rfl rfl (lit_cells2 (wr.alloc (.cells #[.int .i64 x0, .int .i64 x1, .int .i64 x2, .int .i64 x3, .int .i64 x4] 63)) (vB [by8 x0, by8 x1, by8 x2, by8 x3]) 5 _ (by simp)) (vB_one _) (by omega) (by simp; omega) ?_)
      intro v8 w8 ho8 hg8 _
      have HB8 := Lib.hid (HB1.out.grown hg8 (by simp; omega) (fun g hg => (HROW.out g hg).1))
      have c4 : w8.cell? ⟨wr.heap.size, 4, none⟩ = some (.int .i64 x4) := (World.cell?_of_block (a := ⟨wr.heap.size, 4, none⟩) (hg8.block wr.heap.size (by simp; omega) (fun e => by have := (HROW.out _ e.symm).2; omega))).trans HK4.out
      have HO8 := Lib.hid (tel_app (n' := m7 + 4) ho8 rfl rfl)
      obtain ⟨A8, C8, rfl, _, _⟩ := own_slice ho8
      have HC8 := Lib.hid (two43 x4 w8 (by omega) (by omega))
      clear ho8 hg8 HO1 HB1 HROW HK4
      go_wp2_with fail
      (with_reducible refine HC8.out.mono ?_)
      rintro e w9 ⟨v9, rfl, ho9, hb9⟩
      have hw8 : w.heap.size + 1 ≤ w8.heap.size := by have := HB8.out.size; have := HS1.out; omega
      have HB9 := Lib.hid (HB8.out.trans (hb9.mono hw8))
      have HO9 := Lib.hid (own_below HO8.out hb9)
      obtain ⟨g9, k9, rfl, hc9⟩ := own_form ho9 (by omega)
      have HC9 := Lib.hid hc9
      have hw9 : w.heap.size + 1 ≤ w9.heap.size := by have := HB9.out.size; have := HS1.out; omega
      have HROW9 := Lib.hid (fun g hg => HO9.out.lt g hg)
      clear ho9 hb9 hc9 HC8 c4
      go_wp2_with (at_builtin; refine wpList_appM rfl (.tmp 47) (.tmp 50) 31 rfl (w.heap.size + 1) 5 i5 (.int .u8 0) 1 Try.underlying31 hi hz0 hz1 hz2 rfl (by decide) (.slice A8 (m7 + 4) C8) (m7 + 4) (vB (p.upC j ++ [by8 x0, by8 x1, by8 x2, by8 x3])) rfl HO9.out g9 2 k9 (vB (by16 x4)) rfl rfl HC9.out (vB_one _) (by omega) hw9 ?_)
      intro v10 w10 ho10 hg10 _
      have HB10 := Lib.hid (HB9.out.grown hg10 hw9 (fun g hg => (HROW9.out g hg).1))
      have HO10 := Lib.hid (tel_app (n' := m7 + 6) ho10 rfl HX.out)
      obtain ⟨A10, C10, rfl, _, _⟩ := own_slice ho10
      clear ho10 hg10 HO9 HB9 HC9 HROW9
      go_wp2_with fail
      go_roundw
      case rel => exact ⟨j + 1, m7 + 6, A10, C10, by omega, by go_num, rfl, HO10.out, HB10.out⟩
      case measure => simp [intOf]; omega
    · obtain rfl : j = p.code.length := by omega
      have c3 : wr.cell? ⟨w.heap.size, 3, none⟩ = some (.slice L.B p.outs.length L.d) := cell_of_row _ _ 3 _ 26 (0, 0) HQR.out
      have e1 := u8_by8 (p.outs.length : Int)
      have HO1 := Lib.hid (HR.out.1.alloc (.cells #[.int .u8 (by8 (p.outs.length : Int) : Nat)] 5))
      have HB1 := Lib.hid (HR.out.2.alloc hws (.cells #[.int .u8 (by8 (p.outs.length : Int) : Nat)] 5))
      have HROW := Lib.hid (fun g hg => HR.out.1.lt g hg)
      go_wp2_with (at_builtin; refine wpList_appM rfl (.tmp 52) (.tmp 57) 31 rfl (w.heap.size + 1) 5 i5 (.int .u8 0) 1 Try.underlying31 hi hz0 hz1 hz2 rfl (by decide) (.slice A7 m7 C7) m7 (vB (p.upC p.code.length)) rfl HO1.out wr.heap.size 1 1 (vB [by8 (p.outs.length : Int)]) rfl rfl (lit_cells2 wr (vB [by8 (p.outs.length : Int)]) 5 _ rfl) (vB_one _) (by omega) (by simp; omega) ?_)
      intro v8 w8 ho8 hg8 _
      have HB8 := Lib.hid (HB1.out.grown hg8 (by simp; omega) (fun g hg => (HROW.out g hg).1))
      have HO8 := Lib.hid (tel_app (n' := m7 + 1) ho8 rfl (p.upO_0 []))
      obtain ⟨A8, C8, rfl, _, _⟩ := own_slice ho8
      clear ho8 hg8 HO1 HB1 HROW HR hws hj e1 c3 c2 HQR
      go_wp2_with fail
      go_loopw [3, 6] (fun v i wr => ∃ (j m : Nat) (A : Option Addr) (c : Nat), j ≤ p.outs.length ∧ i = .int .i64 j ∧ v = .slice A m c ∧ Hid (wr.ownsRow (w.heap.size + 1) 5 1 (.slice A m c) m (vB (p.upO j)) ∧ Below (w.heap.size + 1) w1 wr)) (fun _ i _ => p.outs.length - (intOf i).toNat)
      case atStart => exact ⟨0, m7 + 1, A8, C8, Nat.zero_le _, rfl, rfl, HO8.out, HB8.out⟩
      case round =>
        obtain ⟨j, m9, A9, C9, hj, rfl, rfl, HR⟩ := hrel
        have hm9 : m9 ≤ 98437 := by rw [← tel_len HR.out.1]; exact p.upO_len hpc hpo j
        have HQR := Lib.hid ((HR.out.2.block _ hl1).trans HQ1.out)
        have c3 : wr.cell? ⟨w.heap.size, 3, none⟩ = some (.slice L.B p.outs.length L.d) := cell_of_row _ _ 3 _ 26 (0, 0) HQR.out
        have hws : w.heap.size + 1 ≤ wr.heap.size := by have := HR.out.2.size; have := HS1.out; omega
        by_cases hlt3 : j < p.outs.length
        · obtain ⟨gc, oc, hAA, hgl, hcc⟩ := (HP1.out.below (HR.out.2.mono (by rw [HS1.out]; exact Nat.le_refl _))).outs.ints.2 (by omega)
          obtain ⟨x, hx⟩ : ∃ x, p.outs[j]? = some x := ⟨p.outs[j]'hlt3, List.getElem?_eq_getElem _⟩
          have a0 := hcc j x hx
          have HX := Lib.hid (Pr.upO_next hx [])
          have e1 := u8_by8 x
          clear hcc hx
          generalize hMx : L.B = Mx at *
          subst hAA
          clear hMx
          have HO1 := Lib.hid (HR.out.1.alloc (.cells #[.int .u8 (by8 x : Nat)] 5))
          have HB1 := Lib.hid (HR.out.2.alloc hws (.cells #[.int .u8 (by8 x : Nat)] 5))
          have HROW := Lib.hid (fun g hg => HR.out.1.lt g hg)
          go_wp2_with (at_builtin; refine wpList_appM rfl (.tmp 66) (.tmp 73) 31 rfl (w.heap.size + 1) 5 i5 (.int .u8 0) 1 Try.underlying31 hi hz0 hz1 hz2 rfl (by decide) (.slice A9 m9 C9) m9 (vB (p.upO j)) rfl HO1.out wr.heap.size 1 1 (vB [by8 x]) rfl rfl (lit_cells2 wr (vB [by8 x]) 5 _ rfl) (vB_one _) (by omega) (by simp; omega) ?_)
          intro v10 w10 ho10 hg10 _
          have HB10 := Lib.hid (HB1.out.grown hg10 (by simp; omega) (fun g hg => (HROW.out g hg).1))
          have HO10 := Lib.hid (tel_app (n' := m9 + 1) ho10 rfl HX.out)
          obtain ⟨A10, C10, rfl, _, _⟩ := own_slice ho10
          clear ho10 hg10 HO1 HB1 HROW
          go_wp2_with fail
          go_roundw
          case rel => exact ⟨j + 1, m9 + 1, A10, C10, by omega, by go_num, rfl, HO10.out, HB10.out⟩
          case measure => simp [intOf]; omega
        · obtain rfl : j = p.outs.length := by omega
          have HO11 := Lib.hid (own_base (tel_eq (n' := m9) (l' := p.bytes) HR.out.1 rfl (by rw [Pr.upO_all])) (Nat.le_of_lt hl1))
          have HB11 := Lib.hid (HBL.out.trans (HR.out.2.mono (Nat.le_of_lt hl1)))
          clear HR
          go_wp2_with fail
          go_ret
          exact ⟨_, _, rfl, HO11.out, HB11.out⟩
end Go.Proofs.Ytcelcognmdcenaa
