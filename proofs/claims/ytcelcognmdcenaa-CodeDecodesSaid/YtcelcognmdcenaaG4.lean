/-
  WALKS: Encode, in the program's words.
-/
import Derived.Test.YtcelcognmdcenaaG1
import Derived.Test.YtcelcognmdcenaaG2
import Derived.Test.YtcelcognmdcenaaE0
import Derived.Test.YtcelcognmdcenaaEn
import Derived.ArgAppend
import Derived.Lib.SmallJoins
import Derived.Deep.RegionLaw
namespace Go.Proofs.Ytcelcognmdcenaa
open Go.RowKit

/-- A unit's box, its three programs alike. -/
theorem prog_at {w : World} {B : Nat} {L : UnV} {u : Un} (k : Nat) (hk : k < 3) (h : w.heap[B]? = some (.cells (L.cells u) 28 (0, 0))) (hin : UnIn w L u) : ∃ (off : Nat) (M : PrV),
    (∀ w', (Instr.index 58 (.agg #[.pointer (some ⟨B, 3, none⟩), .pointer (some ⟨B, 7, none⟩), .pointer (some ⟨B, 11, none⟩)]) (.int .i64 (k : Nat))).run Try.prog w' = .ok (.pointer (some ⟨B, off, none⟩)) w') ∧
    w.cell? ⟨B, off, none⟩ = some (.int .i64 (pk u k).ins) ∧ w.cell? ⟨B, off + 1, none⟩ = some (.int .i64 (pk u k).regs) ∧ w.cell? ⟨B, off + 2, none⟩ = some (.slice M.A (pk u k).code.length M.c) ∧ w.cell? ⟨B, off + 3, none⟩ = some (.slice M.B (pk u k).outs.length M.d) ∧ PrIn w M (pk u k) := by
  have hk3 : k = 0 ∨ k = 1 ∨ k = 2 := by omega
  rcases hk3 with rfl | rfl | rfl
  · obtain ⟨a, b, c, d⟩ := (box15 h).1
    exact ⟨3, L.l, fun _ => rfl, a, b, c, d, hin.l⟩
  · obtain ⟨a, b, c, d⟩ := (box15 h).2.1
    exact ⟨7, L.r, fun _ => rfl, a, b, c, d, hin.r⟩
  · obtain ⟨a, b, c, d⟩ := (box15 h).2.2
    exact ⟨11, L.b, fun _ => rfl, a, b, c, d, hin.b⟩

theorem mark_cells (w : World) (o : Obj) : ∀ b, (some ⟨w.heap.size, 0, none⟩ : Option Addr) = some b → ∀ j u, (vB [65, 78, 86, 49])[j]? = some u → ((w.alloc (.cells #[.int .u8 65, .int .u8 78, .int .u8 86, .int .u8 49] 5 (4, 5))).alloc o).cell? (b.add j) = some u := by
  intro b hb j u hu
  cases hb
  rw [Addr.add_lit, Nat.zero_add]
  refine cell_al ?_ o
  rw [cell_of_row _ w.heap.size j _ 5 (4, 5) (heap_alloc_new w _), ← hu]
  simp [vB]
theorem tel_eq {w : World} {B n n' : Nat} {v : Value} {l l' : List Nat} (h : w.ownsRow B 5 1 v n (vB l)) (hn : n' = n) (e : l = l') : w.ownsRow B 5 1 v n' (vB l') := by
  subst hn e; exact h
theorem news_cells (w : World) (l : List Value) (T : TypeId) (b : Nat) (hb : w.heap.size = b) : ∀ j u, l[j]? = some u → (w.alloc (.cells l.toArray T)).cell? ((⟨b, 0, none⟩ : Addr).add j) = some u := by
  intro j u hu
  rw [Addr.add_lit, Nat.zero_add]
  exact lit_cells2 w l T b hb j u hu

set_option maxRecDepth 100000 in
set_option maxHeartbeats 4000000 in
theorem encode12_no (u : Un) (L : UnV) (w : World) (hu : UnIn w L u) (hf : u.fault ≠ 0) : Calls Try.prog 12 #[L.val u] w fun e w' => e = .returned (.tuple #[.slice none 0 0, .int .i64 (u.fault : Nat)]) ∧ Below w.heap.size w w' := by
  obtain ⟨N, hN⟩ : ∃ N, N = u.fault := ⟨_, rfl⟩
  rw [← hN] at hf ⊢
  have HM := Lib.hid (may20 u L (w.alloc (.cells (L.cells u) 28)) (hu.below (below_a _ _)))
  rw [← hN] at HM
  clear hN
  have e0 : ((N : Int) == 0) = false := by simp; omega
  have e1 : ((N : Int) != 0) = true := by simp; omega
  have HBL := Lib.hid (below_a w (.cells (L.cells u) 28))
  clear hf
  have c0 := cell_of_row (w.alloc (.cells (L.cells u) 28)) w.heap.size
  clear c0
  unfold UnV.val at HM ⊢
  unfold UnV.cells at HM HBL ⊢
  go_enter Try.func12, Try.ntmps12
  go_wp2_with fail
  (with_reducible refine HM.out.mono ?_)
  rintro e w2 ⟨rfl, hb⟩
  have HB := Lib.hid (HBL.out.trans (hb.mono HBL.out.size))
  clear hb
  go_wp2_with fail
  go_ret2
  exact ⟨rfl, HB.out⟩

set_option maxRecDepth 100000 in
set_option maxHeartbeats 8000000 in
theorem encode12_ok (u : Un) (L : UnV) (w : World) (hu : UnIn w L u) (hf : u.fault = 0) : Calls Try.prog 12 #[L.val u] w fun e w' => ∃ v n, e = .returned (.tuple #[v, .int .i64 0]) ∧ w'.ownsRow w.heap.size 5 1 v n (vB u.bytes) ∧ Below w.heap.size w w' := by
  obtain ⟨i5, hi, hz0, hz1, hz2⟩ := info_parts info5
  have HF := Lib.hid hf
  have HM := Lib.hid (may20 u L (w.alloc (.cells (L.cells u) 28)) (hu.below (below_a _ _)))
  rw [hf] at HM
  have hu1 := hu.below (below_a w (.cells (L.cells u) 28))
  have HU1 := Lib.hid hu1
  have HQ1 := Lib.hid (heap_alloc_new w (.cells (L.cells u) 28))
  have HBL := Lib.hid (below_a w (.cells (L.cells u) 28))
  have HS1 : Hid ((w.alloc (.cells (L.cells u) 28)).heap.size = w.heap.size + 1) := Lib.hid (by simp)
  have hpl := (fault_parts hf).1
  clear hf hu hu1
  unfold UnV.val at HM ⊢
  unfold UnV.cells at HM HU1 HQ1 HBL HS1 ⊢
  go_enter Try.func12, Try.ntmps12
  go_wp2_with fail
  (with_reducible refine HM.out.mono ?_)
  rintro e w2 ⟨rfl, hb⟩
  have HB2 := Lib.hid (HBL.out.trans (hb.mono HBL.out.size))
  have HU2 := Lib.hid (HU1.out.below hb)
  have hlt1 : w.heap.size < w2.heap.size := Nat.lt_of_lt_of_le (by rw [HS1.out]; omega) hb.size
  have HQ2 : Hid (w2.heap[w.heap.size]? = some (.cells (L.cells u) 28 (0, 0))) := Lib.hid ((hb.block _ (by rw [HS1.out]; omega)).trans HQ1.out)
  have c0 : w2.cell? ⟨w.heap.size, 0, none⟩ = some (.int .i64 u.k1) := cell_of_row w2 _ 0 _ 28 (0, 0) HQ2.out
  have c1 : w2.cell? ⟨w.heap.size, 1, none⟩ = some (.int .i64 u.k2) := cell_of_row w2 _ 1 _ 28 (0, 0) HQ2.out
  have c2 : w2.cell? ⟨w.heap.size, 2, none⟩ = some (.slice L.P u.pts.length L.c) := cell_of_row w2 _ 2 _ 28 (0, 0) HQ2.out
  clear hb HM HU1 HQ1 HBL HS1
  have kc := Go.Joins.run_convert_bytes_const_at (P := Try.prog) w2 31 5 #[.int .u8 65, .int .u8 78, .int .u8 86, .int .u8 49] 4 4 w2.heap.size rfl Try.underlying31 Try.underlying5
  have e1 := u8_by8 u.k1
  have e2 := u8_by8 u.k2
  have e3 := u8_by8 u.pts.length
  go_wp2_with (at_builtin; refine wpList_append_grows ((w2.alloc (.cells #[.int .u8 65, .int .u8 78, .int .u8 86, .int .u8 49] 5 (4, 5))).alloc (.cells #[.int .u8 (by8 u.k1 : Nat), .int .u8 (by8 u.k2 : Nat), .int .u8 (by8 u.pts.length : Nat)] 5)) rfl (.tmp 20) (.tmp 31) 31 rfl 5 i5 (.int .u8 0) 1 1 Try.underlying31 hi hz0 hz1 hz2 rfl (by decide) (some ⟨w2.heap.size, 0, none⟩) 4 4 (vB [65, 78, 86, 49]) rfl (fun h => by cases h) rfl (mark_cells w2 _) ⟨w2.heap.size + 1, 0, none⟩ 3 3 (vB [by8 u.k1, by8 u.k2, by8 u.pts.length]) rfl rfl (news_cells (w2.alloc (.cells #[.int .u8 65, .int .u8 78, .int .u8 86, .int .u8 49] 5 (4, 5))) (vB [by8 u.k1, by8 u.k2, by8 u.pts.length]) 5 _ (by simp)) (vB_one _) (by decide) (by unfold maxLen; decide) (by decide) ?_)
  intro v0 w3 ho3 hg3
  have HB3 := Lib.hid (((((Below.refl w2.heap.size w2).alloc (Nat.le_refl _) (.cells #[.int .u8 65, .int .u8 78, .int .u8 86, .int .u8 49] 5 (4, 5))).alloc (by simp) (.cells #[.int .u8 (by8 u.k1 : Nat), .int .u8 (by8 u.k2 : Nat), .int .u8 (by8 u.pts.length : Nat)] 5))).grown hg3 (by simp; omega) (fun k hk => by cases hk))
  have HO3 := Lib.hid (tel_app (n' := 7) (own_base ho3 (b' := w2.heap.size) (by omega)) rfl (upP_0 u).symm)
  obtain ⟨A3, C3, rfl, _, _⟩ := own_slice ho3
  clear ho3 hg3 kc e1 e2 e3 c0 c1
  have c3 : w3.cell? ⟨w.heap.size, 2, none⟩ = some (.slice L.P u.pts.length L.c) := (HB3.out.cell (p := ⟨w.heap.size, 2, none⟩) hlt1).trans c2
  clear c2
  go_wp2_with fail
  go_loopw [5, 36] (fun v k wr => ∃ (j m : Nat) (A : Option Addr) (c : Nat), j ≤ u.pts.length ∧ k = .int .i64 j ∧ v = .slice A m c ∧ Hid (wr.ownsRow w2.heap.size 5 1 (.slice A m c) m (vB (upP u j)) ∧ Below w2.heap.size w2 wr)) (fun _ k _ => u.pts.length - (intOf k).toNat)
  case atStart => exact ⟨0, 7, A3, C3, Nat.zero_le _, rfl, rfl, HO3.out, HB3.out⟩
  case round =>
    obtain ⟨j, m, A, c, hj, rfl, rfl, HR⟩ := hrel
    have hm : m ≤ 517 := by rw [← tel_len HR.out.1]; exact upP_len hpl j
    by_cases hlt : j < u.pts.length
    · obtain ⟨gp, op, hPP, hgl, hcp⟩ := (HU2.out.pts.below HR.out.2).points.2 (by omega)
      obtain ⟨x, hx⟩ : ∃ x, u.pts[j]? = some x := ⟨u.pts[j]'hlt, List.getElem?_eq_getElem _⟩
      obtain ⟨a0, a1⟩ := hcp j x hx
      have HX := Lib.hid (upP_next hx)
      have e1 := u8_by8 x.1
      have e2 := u8_by8 x.2
      have hws := HR.out.2.size
      clear hcp hx
      generalize hPx : L.P = Px at *
      subst hPP
      clear hPx
      obtain ⟨xa, xb⟩ := x
      simp only at a0 a1 e1 e2 HX
      have HO1 := Lib.hid ((HR.out.1.alloc (.cells #[.int .i64 xa, .int .i64 xb] 48)).alloc (.cells #[.int .u8 (by8 xa : Nat), .int .u8 (by8 xb : Nat)] 5))
      have HB1 := Lib.hid (((HR.out.2.alloc hws (.cells #[.int .i64 xa, .int .i64 xb] 48)).alloc (by simp; omega) (.cells #[.int .u8 (by8 xa : Nat), .int .u8 (by8 xb : Nat)] 5)))
      have HROW := Lib.hid (fun g hg => (HR.out.1.lt g hg).1)
      go_wp2_with (at_builtin; refine wpList_appM rfl (.tmp 40) (.tmp 47) 31 rfl w2.heap.size 5 i5 (.int .u8 0) 1 Try.underlying31 hi hz0 hz1 hz2 rfl (by decide) (.slice A m c) m (vB (upP u j)) rfl HO1.out (wr.heap.size + 1) 2 2 (vB [by8 xa, by8 xb]) rfl rfl (lit_cells2 (wr.alloc (.cells #[.int .i64 xa, .int .i64 xb] 48)) (vB [by8 xa, by8 xb]) 5 _ (by simp)) (vB_one _) (by omega) (by simp; omega) ?_)
      intro v4 w4 ho4 hg4 _
      have HB4 := Lib.hid (HB1.out.grown hg4 (by simp; omega) (fun g hg => HROW.out g hg))
      have HO4 := Lib.hid (tel_app (n' := m + 2) ho4 rfl HX.out)
      obtain ⟨A4, C4, rfl, _, _⟩ := own_slice ho4
      clear ho4 hg4
      go_wp2_with fail
      go_roundw
      case rel => exact ⟨j + 1, m + 2, A4, C4, by omega, by go_num, rfl, HO4.out, HB4.out⟩
      case measure => simp [intOf]; omega
    · obtain rfl : j = u.pts.length := by omega
      have HPR := Lib.hid (programs27 w.heap.size wr)
      have hws := HR.out.2.size
      go_wp2_with fail
      (with_reducible refine HPR.out.mono ?_)
      rintro e w4 ⟨rfl, hb4⟩
      have HB4 := Lib.hid (HR.out.2.trans (hb4.mono hws))
      have HO4 : Hid (w4.ownsRow w2.heap.size 5 1 (.slice A m c) m (vB (upB u 0))) := Lib.hid (own_below HR.out.1 hb4)
      clear hb4 HPR HR
      go_wp2_with fail
      go_loopw [5, 51] (fun v i wr => ∃ (k m : Nat) (A : Option Addr) (c : Nat), k ≤ 3 ∧ i = .int .i64 k ∧ v = .slice A m c ∧ Hid (wr.ownsRow w2.heap.size 5 1 (.slice A m c) m (vB (upB u k)) ∧ Below w2.heap.size w2 wr)) (fun _ i _ => 3 - (intOf i).toNat)
      case atStart => exact ⟨0, m, A, c, by omega, rfl, rfl, HO4.out, HB4.out⟩
      case round =>
        obtain ⟨k, m, A, c, hk, rfl, rfl, HR⟩ := hrel
        have hm : m ≤ 517 + k * 98437 := by rw [← tel_len HR.out.1]; exact upB_len HF.out k
        by_cases hlt : k < 3
        · obtain ⟨off, M, hix, t0, t1, t2, t3, hpin⟩ := prog_at k hlt HQ2.out HU2.out
          have hpl2 := pk_len HF.out k
          obtain ⟨hpc, hpo⟩ := hpl2
          have HUP : Hid (upB u (k + 1) = upB u k ++ (pk u k).bytes) := Lib.hid rfl
          have HPIN := Lib.hid hpin
          clear hpin
          generalize pk u k = p at *
          have HT0 := Lib.hid t0
          have HT1 := Lib.hid t1
          have HT2 := Lib.hid t2
          have HT3 := Lib.hid t3
          have s0 : wr.cell? ⟨w.heap.size, off, none⟩ = some (.int .i64 p.ins) := (HR.out.2.cell (p := ⟨w.heap.size, off, none⟩) hlt1).trans t0
          have s1 : wr.cell? ⟨w.heap.size, off + 1, none⟩ = some (.int .i64 p.regs) := (HR.out.2.cell (p := ⟨w.heap.size, off + 1, none⟩) hlt1).trans t1
          clear t0 t1 t2 t3
          have e1 := u8_by8 p.ins
          have e2 := u8_by8 p.regs
          have hws := HR.out.2.size
          have HO1 := Lib.hid ((own_congr (w' := wr.drew) HR.out.1 (fun _ _ => rfl)).alloc (.cells #[.int .u8 (by8 p.ins : Nat), .int .u8 (by8 p.regs : Nat)] 5))
          have HB1 := Lib.hid (HR.out.2.drew.alloc hws (.cells #[.int .u8 (by8 p.ins : Nat), .int .u8 (by8 p.regs : Nat)] 5))
          have HROW := Lib.hid (fun g hg => (HR.out.1.lt g hg).1)
          have HW1 : Hid (w2.heap.size ≤ (wr.drew.alloc (.cells #[.int .u8 (by8 p.ins : Nat), .int .u8 (by8 p.regs : Nat)] 5)).heap.size) := Lib.hid HB1.out.size
          have hm2 : m + 2 < 4294967296 := by omega
          have HM : Hid (m + 98437 ≤ 517 + 3 * 98437 ∧ m = (upB u k).length) := Lib.hid ⟨by omega, (tel_len HR.out.1).symm⟩
          go_upto_region 13 with (fail)
          go_cut [5] from 52 to 66 (fun v wx => Hid (∃ (A' : Option Addr) (c' : Nat), v = .slice A' (m + 2) c' ∧ wx.ownsRow w2.heap.size 5 1 (.slice A' (m + 2) c') (m + 2) (vB (upB u k ++ [by8 p.ins, by8 p.regs])) ∧ Below w2.heap.size w2 wx))
          case first =>
            go_region_law (refine step_appM rfl (.tmp 54) (.tmp 65) 31 rfl w2.heap.size 5 i5 (.int .u8 0) 1 Try.underlying31 hi hz0 hz1 hz2 rfl (by decide) (.slice A m c) m (vB (upB u k)) (by rfl) HO1.out wr.heap.size 2 2 (vB [by8 p.ins, by8 p.regs]) (by rfl) rfl (lit_cells2 wr.drew (vB [by8 p.ins, by8 p.regs]) 5 _ rfl) (vB_one _) hm2 HW1.out ?_; intro v4 w4 ho4 hg4 _; have HB4 := Lib.hid (HB1.out.grown hg4 HW1.out (fun g hg => HROW.out g hg)); have HO4 := Lib.hid (tel_app (n' := m + 2) ho4 rfl rfl); obtain ⟨A4, C4, rfl, _, _⟩ := own_slice ho4; clear ho4 hg4)
            all_goals (go_wp2_with fail; go_meet; exact Lib.hid ⟨A4, C4, rfl, HO4.out, HB4.out⟩)
          case rest =>
            obtain ⟨A5, C5, rfl, ho5, hb5⟩ := hcut.out
            have HB5 := Lib.hid hb5
            have HC5 := Lib.hid (pair28 _ _ _ _ (p.code.length : Int) wc ho5 hb5.size (by omega))
            have c2 : wc.cell? ⟨w.heap.size, off + 2, none⟩ = some (.slice M.A p.code.length M.c) := (hb5.cell (p := ⟨w.heap.size, off + 2, none⟩) hlt1).trans HT2.out
            clear hcut ho5 hb5 s0 s1 e1 e2 HO1 HB1 HROW HW1 HR hws hm hm2
            go_wp2_with fail
            (with_reducible refine HC5.out.mono ?_)
            rintro e w6 ⟨v6, rfl, ho6, hb6⟩
            have HB6 := Lib.hid (HB5.out.trans hb6)
            have HO6 := Lib.hid (tel_eq (n' := m + 4) ho6 rfl (p.upC_0 (upB u k)))
            obtain ⟨A6, C6, rfl, _, _⟩ := own_slice ho6
            have d2 : w6.cell? ⟨w.heap.size, off + 2, none⟩ = some (.slice M.A p.code.length M.c) := (HB6.out.cell (p := ⟨w.heap.size, off + 2, none⟩) hlt1).trans HT2.out
            clear ho6 hb6 HC5 HB5 c2
            go_wp2_with fail
            go_loopw [5, 79] (fun v i wr => ∃ (j m : Nat) (A : Option Addr) (c : Nat), j ≤ p.code.length ∧ i = .int .i64 j ∧ v = .slice A m c ∧ Hid (wr.ownsRow w2.heap.size 5 1 (.slice A m c) m (vB (upB u k ++ p.upC j)) ∧ Below w2.heap.size w2 wr)) (fun _ i _ => p.code.length - (intOf i).toNat)
            case atStart => exact ⟨0, m + 4, A6, C6, Nat.zero_le _, rfl, rfl, HO6.out, HB6.out⟩
            case round =>
              obtain ⟨j, m7, A7, C7, hj, rfl, rfl, HR⟩ := hrel
              have hm7 : m7 ≤ m + 98308 := by rw [← tel_len HR.out.1, HM.out.2, List.length_append]; have := p.upC_len hpc j; omega
              have hmm : m ≤ 300000 := by have := HM.out.1; omega
              by_cases hlt2 : j < p.code.length
              · obtain ⟨gc, oc, hAA, hgl, hcc⟩ := (HPIN.out.below HR.out.2).code.code.2 (by omega)
                obtain ⟨x, hx⟩ : ∃ x, p.code[j]? = some x := ⟨p.code[j]'hlt2, List.getElem?_eq_getElem _⟩
                obtain ⟨a0, a1, a2, a3, a4⟩ := hcc j x hx
                have HX := Lib.hid (Pr.upC_next hx (upB u k))
                have e1 := u8_by8 x.op
                have e2 := u8_by8 x.to
                have e3 := u8_by8 x.a
                have e4 := u8_by8 x.b
                have hws := HR.out.2.size
                clear hcc hx
                generalize hMx : M.A = Mx at *
                subst hAA
                clear hMx
                obtain ⟨x0, x1, x2, x3, x4⟩ := x
                simp only at a0 a1 a2 a3 a4 e1 e2 e3 e4 HX
                have HO1 := Lib.hid ((HR.out.1.alloc (.cells #[.int .i64 x0, .int .i64 x1, .int .i64 x2, .int .i64 x3, .int .i64 x4] 63)).alloc (.cells #[.int .u8 (by8 x0 : Nat), .int .u8 (by8 x1 : Nat), .int .u8 (by8 x2 : Nat), .int .u8 (by8 x3 : Nat)] 5))
                have HB1 := Lib.hid (((HR.out.2.alloc hws (.cells #[.int .i64 x0, .int .i64 x1, .int .i64 x2, .int .i64 x3, .int .i64 x4] 63)).alloc (by simp; omega) (.cells #[.int .u8 (by8 x0 : Nat), .int .u8 (by8 x1 : Nat), .int .u8 (by8 x2 : Nat), .int .u8 (by8 x3 : Nat)] 5)))
                have HROW := Lib.hid (fun g hg => HR.out.1.lt g hg)
                have HK4 := Lib.hid (cell_al (cell_of_row (wr.alloc (.cells #[.int .i64 x0, .int .i64 x1, .int .i64 x2, .int .i64 x3, .int .i64 x4] 63)) wr.heap.size 4 _ 63 (0, 0) (heap_alloc_new _ _)) (.cells #[.int .u8 (by8 x0 : Nat), .int .u8 (by8 x1 : Nat), .int .u8 (by8 x2 : Nat), .int .u8 (by8 x3 : Nat)] 5))
                go_wp2_with (at_builtin; refine wpList_appM rfl (.tmp 83) (.tmp 96) 31 rfl w2.heap.size 5 i5 (.int .u8 0) 1 Try.underlying31 hi hz0 hz1 hz2 rfl (by decide) (.slice A7 m7 C7) m7 (vB (upB u k ++ p.upC j)) rfl HO1.out (wr.heap.size + 1) 4 4 (vB [by8 x0, by8 x1, by8 x2, by8 x3]) rfl rfl (lit_cells2 (wr.alloc (.cells #[.int .i64 x0, .int .i64 x1, .int .i64 x2, .int .i64 x3, .int .i64 x4] 63)) (vB [by8 x0, by8 x1, by8 x2, by8 x3]) 5 _ (by simp)) (vB_one _) (by omega) (by simp; omega) ?_)
                intro v8 w8 ho8 hg8 _
                have HB8 := Lib.hid (HB1.out.grown hg8 (by simp; omega) (fun g hg => (HROW.out g hg).1))
                have c4 : w8.cell? ⟨wr.heap.size, 4, none⟩ = some (.int .i64 x4) := (World.cell?_of_block (a := ⟨wr.heap.size, 4, none⟩) (hg8.block wr.heap.size (by simp; omega) (fun e => by have := (HROW.out _ e.symm).2; omega))).trans HK4.out
                have ho8' := tel_app (n' := m7 + 4) ho8 rfl rfl
                obtain ⟨A8, C8, rfl, _, _⟩ := own_slice ho8
                have HC8 := Lib.hid (pair28 _ _ _ _ x4 w8 ho8' HB8.out.size (by omega))
                clear ho8 hg8 ho8' HO1 HB1 HROW HK4
                go_wp2_with fail
                (with_reducible refine HC8.out.mono ?_)
                rintro e w9 ⟨v9, rfl, ho9, hb9⟩
                have HB9 := Lib.hid (HB8.out.trans hb9)
                have HO9 := Lib.hid (tel_eq (n' := m7 + 6) ho9 rfl HX.out)
                obtain ⟨A9, C9, rfl, _, _⟩ := own_slice ho9
                clear ho9 hb9 HC8 c4
                go_wp2_with fail
                go_roundw
                case rel => exact ⟨j + 1, m7 + 6, A9, C9, by omega, by go_num, rfl, HO9.out, HB9.out⟩
                case measure => simp [intOf]; omega
              · obtain rfl : j = p.code.length := by omega
                have c3 : wr.cell? ⟨w.heap.size, off + 3, none⟩ = some (.slice M.B p.outs.length M.d) := (HR.out.2.cell (p := ⟨w.heap.size, off + 3, none⟩) hlt1).trans HT3.out
                have e1 := u8_by8 (p.outs.length : Int)
                have hws := HR.out.2.size
                have HO1 := Lib.hid (HR.out.1.alloc (.cells #[.int .u8 (by8 (p.outs.length : Int) : Nat)] 5))
                have HB1 := Lib.hid (HR.out.2.alloc hws (.cells #[.int .u8 (by8 (p.outs.length : Int) : Nat)] 5))
                have HROW := Lib.hid (fun g hg => HR.out.1.lt g hg)
                go_wp2_with (at_builtin; refine wpList_appM rfl (.tmp 103) (.tmp 110) 31 rfl w2.heap.size 5 i5 (.int .u8 0) 1 Try.underlying31 hi hz0 hz1 hz2 rfl (by decide) (.slice A7 m7 C7) m7 (vB (upB u k ++ p.upC p.code.length)) rfl HO1.out wr.heap.size 1 1 (vB [by8 (p.outs.length : Int)]) rfl rfl (lit_cells2 wr (vB [by8 (p.outs.length : Int)]) 5 _ rfl) (vB_one _) (by omega) (by simp; omega) ?_)
                intro v8 w8 ho8 hg8 _
                have HB8 := Lib.hid (HB1.out.grown hg8 (by simp; omega) (fun g hg => (HROW.out g hg).1))
                have HO8 := Lib.hid (tel_app (n' := m7 + 1) ho8 rfl (p.upO_0 (upB u k)))
                obtain ⟨A8, C8, rfl, _, _⟩ := own_slice ho8
                have d3 : w8.cell? ⟨w.heap.size, off + 3, none⟩ = some (.slice M.B p.outs.length M.d) := (HB8.out.cell (p := ⟨w.heap.size, off + 3, none⟩) hlt1).trans HT3.out
                clear ho8 hg8 HO1 HB1 HROW HR hws hj e1 c3
                go_wp2_with fail
                go_loopw [5, 117] (fun v i wr => ∃ (j m : Nat) (A : Option Addr) (c : Nat), j ≤ p.outs.length ∧ i = .int .i64 j ∧ v = .slice A m c ∧ Hid (wr.ownsRow w2.heap.size 5 1 (.slice A m c) m (vB (upB u k ++ p.upO j)) ∧ Below w2.heap.size w2 wr)) (fun _ i _ => p.outs.length - (intOf i).toNat)
                case atStart => exact ⟨0, m7 + 1, A8, C8, Nat.zero_le _, rfl, rfl, HO8.out, HB8.out⟩
                case round =>
                  obtain ⟨j, m9, A9, C9, hj, rfl, rfl, HR⟩ := hrel
                  have hm9 : m9 ≤ m + 98437 := by rw [← tel_len HR.out.1, HM.out.2, List.length_append]; have := p.upO_len hpc hpo j; omega
                  by_cases hlt3 : j < p.outs.length
                  · obtain ⟨gc, oc, hAA, hgl, hcc⟩ := (HPIN.out.below HR.out.2).outs.ints.2 (by omega)
                    obtain ⟨x, hx⟩ : ∃ x, p.outs[j]? = some x := ⟨p.outs[j]'hlt3, List.getElem?_eq_getElem _⟩
                    have a0 := hcc j x hx
                    have HX := Lib.hid (Pr.upO_next hx (upB u k))
                    have e1 := u8_by8 x
                    have hws := HR.out.2.size
                    clear hcc hx
                    generalize hMx : M.B = Mx at *
                    subst hAA
                    clear hMx
                    have HO1 := Lib.hid (HR.out.1.alloc (.cells #[.int .u8 (by8 x : Nat)] 5))
                    have HB1 := Lib.hid (HR.out.2.alloc hws (.cells #[.int .u8 (by8 x : Nat)] 5))
                    have HROW := Lib.hid (fun g hg => HR.out.1.lt g hg)
                    go_wp2_with (at_builtin; refine wpList_appM rfl (.tmp 121) (.tmp 124) 31 rfl w2.heap.size 5 i5 (.int .u8 0) 1 Try.underlying31 hi hz0 hz1 hz2 rfl (by decide) (.slice A9 m9 C9) m9 (vB (upB u k ++ p.upO j)) rfl HO1.out wr.heap.size 1 1 (vB [by8 x]) rfl rfl (lit_cells2 wr (vB [by8 x]) 5 _ rfl) (vB_one _) (by omega) (by simp; omega) ?_)
                    intro v10 w10 ho10 hg10 _
                    have HB10 := Lib.hid (HB1.out.grown hg10 (by simp; omega) (fun g hg => (HROW.out g hg).1))
                    have HO10 := Lib.hid (tel_app (n' := m9 + 1) ho10 rfl HX.out)
                    obtain ⟨A10, C10, rfl, _, _⟩ := own_slice ho10
                    clear ho10 hg10 HO1 HB1 HROW
                    go_wp2_with fail
                    go_roundw
                    case rel => exact ⟨j + 1, m9 + 1, A10, C10, by omega, by go_num, rfl, HO10.out, HB10.out⟩
                    case measure => simp [intOf]; omega
                  · obtain rfl : j = p.outs.length := by omega
                    have HO11 := Lib.hid (tel_eq (n' := m9) (l' := upB u (k + 1)) HR.out.1 rfl (by rw [HUP.out, Pr.upO_all]))
                    have HB11 := Lib.hid HR.out.2
                    clear HR
                    go_wp2_with fail
                    go_roundw
                    case rel => exact ⟨k + 1, m9, A9, C9, by omega, by go_num, rfl, HO11.out, HB11.out⟩
                    case measure => simp [intOf]; omega
        · obtain rfl : k = 3 := by omega
          have hws := HR.out.2.size
          have HK := Lib.hid (check29 A m c u.body wr (Reads.of_own (by have := HR.out.1; rw [upB_3] at this; exact this)) (body_lt u) (by omega))
          have HC8 := Lib.hid (pair28 _ _ _ _ (chk u.body : Int) wr HR.out.1 hws (by omega))
          have HX : Hid (upB u 3 ++ by16 (chk u.body) = u.bytes) := Lib.hid (by rw [upB_3]; rfl)
          go_wp2_with fail
          (with_reducible refine HK.out.mono ?_)
          rintro e w4 ⟨rfl, rfl⟩
          go_wp2_with fail
          (with_reducible refine HC8.out.mono ?_)
          rintro e w9 ⟨v9, rfl, ho9, hb9⟩
          have HB9 := Lib.hid (HB2.out.trans ((HR.out.2.trans hb9).mono (Nat.le_of_lt hlt1)))
          have HO9 := Lib.hid (own_base (tel_eq (n' := m + 2) ho9 rfl HX.out) (Nat.le_of_lt hlt1))
          obtain ⟨A9, C9, rfl, _, _⟩ := own_slice ho9
          clear ho9 hb9 HC8 HK
          go_wp2_with fail
          go_ret2
          exact ⟨_, _, rfl, HO9.out, HB9.out⟩
end Go.Proofs.Ytcelcognmdcenaa
