/-
  THE WALK of the law CodeBegins.
-/
import Derived.Test.YtcelcognmdcenaaL0
import Derived.Test.YtcelcognmdcenaaReg
namespace Go.Proofs.Ytcelcognmdcenaa
open Go.RowKit

/-- What holds in the midst of the last statement, whatever has come up so far. -/
def I3 (w1 : World) (B : Nat) (U V X Y : Value) (d : Bool) (S : Nat → Bool) (a : Act) (w' : World) : Prop :=
  ∃ x33 x34 x35 x36 x37 x38 x39 x40 x41 x42 x43 x44 x45 x46 x47 x48 x4 : Value, a = ⟨#[U, V, .pointer (some ⟨B, 0, none⟩), .pointer (some ⟨B + 1, 0, none⟩), x4, X, .int .i64 0, Y, .int .i64 0, .bool true, .bool false, U, .bool false, .bool false, V, .bool false, .bool false, .tuple #[X, .int .i64 0], U, .tuple #[X, .int .i64 0], X, .int .i64 0, .tuple #[Y, .int .i64 0], V, .tuple #[Y, .int .i64 0], Y, .int .i64 0, .int .i64 0, .bool false, .bool false, .int .i64 0, .bool false, .bool false, x33, x34, x35, x36, x37, x38, x39, x40, x41, x42, x43, x44, x45, x46, x47, x48], []⟩ ∧ Below w1.heap.size w1 w' ∧ (S 0 = true → x33 = X) ∧ (S 1 = true → x34 = Y) ∧ (S 2 = true → x35 = (.bool d)) ∧ (S 3 = true → x36 = U) ∧ (S 4 = true → x37 = V) ∧ (S 5 = true → x38 = (.bool d)) ∧ (S 6 = true → x39 = (.bool true)) ∧ (S 7 = true → x40 = (.bool true)) ∧ (S 8 = true → x41 = Y) ∧ (S 9 = true → x42 = X) ∧ (S 10 = true → x43 = (.bool d)) ∧ (S 11 = true → x44 = U) ∧ (S 12 = true → x45 = V) ∧ (S 13 = true → x46 = (.bool d)) ∧ (S 14 = true → x47 = (.bool true)) ∧ (S 15 = true → x48 = (.bool true)) ∧ (S 16 = true → x4 = (.bool true))

/-- What a unit told in bytes leaves: an error, or its bytes. -/
def EncB (w : World) (u : Un) (e : Ending) (w' : World) : Prop :=
  Below w.heap.size w w' ∧ ((u.fault ≠ 0 ∧ e = .returned (.tuple #[.slice none 0 0, .int .i64 (u.fault : Nat)])) ∨
    (u.fault = 0 ∧ ∃ A n c, e = .returned (.tuple #[.slice A n c, .int .i64 0]) ∧ n ≤ c ∧ n ≤ 4294967296 ∧ w'.ownsRow w.heap.size 5 1 (.slice A n c) n (vB u.bytes)))
theorem bytes_len {u : Un} (h : u.fault = 0) : u.bytes.length ≤ 295830 := by
  have := upB_len h 3
  unfold Un.bytes
  rw [List.length_append, ← upB_3, by16_len]
  omega
theorem encode12_any {u : Un} {L : UnV} {w : World} (hu : UnIn w L u) : Calls Try.prog 12 #[L.val u] w (EncB w u) := by
  by_cases hf : u.fault = 0
  · refine (encode12_ok u L w hu hf).mono fun e w' ⟨v, n, he, ho, hb⟩ => ⟨hb, .inr ⟨hf, ?_⟩⟩
    obtain ⟨A, c, rfl, hnc, _⟩ := own_slice ho
    have hn := tel_len ho
    have := bytes_len hf
    exact ⟨A, n, c, he, hnc, by omega, ho⟩
  · exact (encode12_no u L w hu hf).mono fun e w' ⟨he, hb⟩ => ⟨hb, .inl ⟨hf, he⟩⟩

/-- Of units that may be: one's bytes begin another's just if they are the same. -/
theorem pre_units {u v : Un} (hu : u.fault = 0) (hv : v.fault = 0) : u = v ↔ v.bytes <+: u.bytes := by
  constructor
  · rintro rfl; exact List.prefix_refl _
  · intro h
    have hle := h.length_le
    have ht : u.bytes.take v.bytes.length = v.bytes := (List.prefix_iff_eq_take.1 h).symm
    rcases Nat.lt_or_ge v.bytes.length u.bytes.length with hlt | hge
    · have h1 := dec_cut hu hlt
      rw [ht, dec_self hv] at h1
      cases h1
    · have h2 : u.bytes = v.bytes := by rw [← ht, List.take_of_length_le hge]
      have h3 := dec_self hu
      rw [h2, dec_self hv] at h3
      injection h3 with h3
      exact h3.symm

set_option maxRecDepth 100000 in
set_option maxHeartbeats 8000000 in
theorem begins_law (u v : Un) (L M : UnV) (w : World) (hu : UnIn w L u) (hv : UnIn w M v) (fu : u.fits) (fv : v.fits) : Calls Try.prog 3 #[L.val u, M.val v] w (LawOut w) := by
  obtain ⟨w1, hw1⟩ : ∃ w1, w1 = (w.alloc (.cells (L.cells u) 28)).alloc (.cells (M.cells v) 28) := ⟨_, rfl⟩
  have HB1 : Hid (Below w.heap.size w w1) := Lib.hid (by rw [hw1]; exact (below_a w _).alloc (by simp) _)
  have HS1 : Hid (w1.heap.size = w.heap.size + 2) := Lib.hid (by rw [hw1]; simp)
  have HQ1 : Hid (BoxAt w1 w.heap.size (L.val u)) := Lib.hid ⟨L, u, rfl, by rw [hw1, Below.heap_alloc _ _ _ (by simp)]; exact heap_alloc_new w _⟩
  have HQ2 : Hid (BoxAt w1 (w.heap.size + 1) (M.val v)) := Lib.hid ⟨M, v, rfl, by rw [hw1]; have := heap_alloc_new (w.alloc (.cells (L.cells u) 28)) (.cells (M.cells v) 28); simpa using this⟩
  have HU := Lib.hid (hu.below HB1.out)
  have HV := Lib.hid (hv.below HB1.out)
  have HFU := Lib.hid fu
  have HFV := Lib.hid fv
  have HC1 := Lib.hid (works10 w1)
  rw [hw1] at HC1
  have HW := Lib.hid hw1
  have HX1 := Lib.hid (fun x1 (_ : Below w1.heap.size w1 x1) => (long11 u L x1 HFU.out))
  have HX2 := Lib.hid (fun x1 (_ : Below w1.heap.size w1 x1) => (long11 v M x1 HFV.out))
  have HE1 := Lib.hid (fun x1 (h : Below w1.heap.size w1 x1) => (encode12_any (HU.out.below h)))
  have HE2 := Lib.hid (fun x1 (h : Below w1.heap.size w1 x1) => (encode12_any (HV.out.below h)))
  obtain ⟨d, hd⟩ := decided (u = v)
  have HD := Lib.hid hd
  have S14 := Lib.hid (fun wx (h : Below w1.heap.size w1 wx) => bool_out (same14 u v L M wx (HU.out.below h) (HV.out.below h)) HD.out)
  clear hw1 hu hv fu fv hd
  unfold UnV.val at HQ1 HQ2 HX1 HX2 HE1 HE2 S14 ⊢
  unfold UnV.cells at HC1 HW HQ1 HQ2 HX1 HX2 HE1 HE2 S14 ⊢
  go_enter Try.func3, Try.ntmps3
  go_wp2_with fail
  (with_reducible refine HC1.out.mono ?_)
  rintro e x1 ⟨rfl, hb⟩
  rw [← HW.out] at hb
  have hs1 := HS1.out
  have HBL := Lib.hid hb
  clear hb HC1 HW
  generalize Value.agg #[.int .i64 u.k1, .int .i64 u.k2, .slice L.P u.pts.length L.c, .int .i64 u.left.ins, .int .i64 u.left.regs, .slice L.l.A u.left.code.length L.l.c, .slice L.l.B u.left.outs.length L.l.d, .int .i64 u.right.ins, .int .i64 u.right.regs, .slice L.r.A u.right.code.length L.r.c, .slice L.r.B u.right.outs.length L.r.d, .int .i64 u.back.ins, .int .i64 u.back.regs, .slice L.b.A u.back.code.length L.b.c, .slice L.b.B u.back.outs.length L.b.d] = U at *
  generalize Value.agg #[.int .i64 v.k1, .int .i64 v.k2, .slice M.P v.pts.length M.c, .int .i64 v.left.ins, .int .i64 v.left.regs, .slice M.l.A v.left.code.length M.l.c, .slice M.l.B v.left.outs.length M.l.d, .int .i64 v.right.ins, .int .i64 v.right.regs, .slice M.r.A v.right.code.length M.r.c, .slice M.r.B v.right.outs.length M.r.d, .int .i64 v.back.ins, .int .i64 v.back.regs, .slice M.b.A v.back.code.length M.b.c, .slice M.b.B v.back.outs.length M.b.d] = V at *
  generalize longB u = b1 at *
  generalize longB v = b2 at *
  have q1 := HQ1.out.below HBL.out
  go_wp2_with (first | (refine wpList_load_box rfl (.tmp 2) rfl _ rfl q1 ?_) | ((with_reducible refine (HX1.out _ HBL.out).mono ?_)))
  rintro e x2 ⟨rfl, hb⟩
  have HBN := Lib.hid (HBL.out.trans (hb.mono HBL.out.size))
  clear hb HBL q1
  have HBL := HBN
  clear HBN
  have q2 := HQ2.out.below HBL.out
  cases b1 with
  | true =>
    go_wp2_with fail
    go_ret
    exact ⟨rfl, HB1.out.trans (HBL.out.mono HB1.out.size)⟩
  | false =>
    go_wp2_with (first | (refine wpList_load_boxg rfl (.tmp 3) rfl _ rfl q2 ?_) | ((with_reducible refine (HX2.out _ HBL.out).mono ?_)))
    rintro e x3 ⟨rfl, hb⟩
    have HBN := Lib.hid (HBL.out.trans (hb.mono HBL.out.size))
    clear hb HBL q2
    have HBL := HBN
    clear HBN
    have q1 := HQ1.out.below HBL.out
    cases b2 with
    | true =>
      go_wp2_with fail
      go_ret
      exact ⟨rfl, HB1.out.trans (HBL.out.mono HB1.out.size)⟩
    | false =>
      go_wp2_with (first | (refine wpList_load_box rfl (.tmp 2) rfl _ rfl q1 ?_) | ((with_reducible refine (HE1.out _ HBL.out).mono ?_)))
      rintro e x4 ⟨hb, ⟨hf, rfl⟩ | ⟨hf, A, n, c, rfl, hnc, hnb, ho⟩⟩
      · have e0 : ((u.fault : Int) == 0) = false := by simp; omega
        have e1 : ((u.fault : Int) != 0) = true := by simp; omega
        have HBN := Lib.hid (HBL.out.trans (hb.mono HBL.out.size))
        clear hb HBL q1 hf
        have HBL := HBN
        clear HBN
        generalize (u.fault : Int) = f1 at *
        have q2 := HQ2.out.below HBL.out
        go_wp2_with (first | (refine wpList_load_box rfl (.tmp 3) rfl _ rfl q2 ?_) | ((with_reducible refine (HE2.out _ HBL.out).mono ?_)))
        rintro e x5 ⟨hb, ⟨hf, rfl⟩ | ⟨hf, A, n, c, rfl, hnc, hnb, ho⟩⟩
        all_goals
          have HBN := Lib.hid (HBL.out.trans (hb.mono HBL.out.size))
          clear hb HBL q2 hf
          go_wp2_with fail
          go_ret
          exact ⟨rfl, HB1.out.trans (HBN.out.mono HB1.out.size)⟩
      · have HBN := Lib.hid (HBL.out.trans (hb.mono HBL.out.size))
        have HR1 := Lib.hid (Reads.of_own ho)
        have HF1 := Lib.hid hf
        clear hb HBL q1 hf ho
        have HBL := HBN
        clear HBN
        have q2 := HQ2.out.below HBL.out
        go_wp2_with (first | (refine wpList_load_box rfl (.tmp 3) rfl _ rfl q2 ?_) | ((with_reducible refine (HE2.out _ HBL.out).mono ?_)))
        rintro e x5 ⟨hb, ⟨hf, rfl⟩ | ⟨hf, A2, n2, c2, rfl, hnc2, hnb2, ho⟩⟩
        · have e0 : ((v.fault : Int) == 0) = false := by simp; omega
          have e1 : ((v.fault : Int) != 0) = true := by simp; omega
          have HBN := Lib.hid (HBL.out.trans (hb.mono HBL.out.size))
          clear hb HBL q2 hf
          generalize (v.fault : Int) = f1 at *
          go_wp2_with fail
          go_ret
          exact ⟨rfl, HB1.out.trans (HBN.out.mono HB1.out.size)⟩
        · have HBN := Lib.hid (HBL.out.trans (hb.mono HBL.out.size))
          have HR1' := Lib.hid (HR1.out.below hb)
          have HR2 := Lib.hid (Reads.of_own ho)
          have HF2 := Lib.hid hf
          have HBW := Lib.hid (HB1.out.trans (HBN.out.mono HB1.out.size))
          have HZ1 := Lib.hid (HQ1.out.below HBN.out)
          have HZ2 := Lib.hid (HQ2.out.below HBN.out)
          have HDP : Hid (d = true ↔ v.bytes <+: u.bytes) := Lib.hid (HD.out.trans (pre_units HF1.out HF2.out))
          have HDQ : Hid (d = true ↔ u.bytes <+: v.bytes) := Lib.hid (HD.out.trans (eq_comm.trans (pre_units HF2.out HF1.out)))
          have P13 := Lib.hid (fun wx (h : Below x5.heap.size x5 wx) => bool_out (prefix13 A A2 n c n2 c2 u.bytes v.bytes wx hnc (bytes_lt u) (bytes_lt v) (HR1'.out.below h) (HR2.out.below h)) HDP.out)
          have Q13 := Lib.hid (fun wx (h : Below x5.heap.size x5 wx) => bool_out (prefix13 A2 A n2 c2 n c v.bytes u.bytes wx hnc2 (bytes_lt v) (bytes_lt u) (HR2.out.below h) (HR1'.out.below h)) HDQ.out)
          have S14' := Lib.hid (fun wx (h : Below x5.heap.size x5 wx) => S14.out wx (HBN.out.trans (h.mono HBN.out.size)))
          clear hb HBL q2 hf ho S14
          have S14 := S14'
          clear S14'
          generalize Value.slice A n c = X at *
          generalize Value.slice A2 n2 c2 = Y at *
          go_wp2_with fail
          have HB0 := Lib.hid (Below.refl x5.heap.size x5).drew
          refine wp_region_inv (by kernel_rfl) (I3 x5 w.heap.size U V X Y d) ?_ ?_ ?_ ?_
          · exact ⟨_, _, _, _, _, _, _, _, _, _, _, _, _, _, _, _, _, rfl, HB0.out, (fun h => by cases h), (fun h => by cases h), (fun h => by cases h), (fun h => by cases h), (fun h => by cases h), (fun h => by cases h), (fun h => by cases h), (fun h => by cases h), (fun h => by cases h), (fun h => by cases h), (fun h => by cases h), (fun h => by cases h), (fun h => by cases h), (fun h => by cases h), (fun h => by cases h), (fun h => by cases h), (fun h => by cases h)⟩
          · intro i o ho e he
            have hi : i < 17 := by
              rcases Nat.lt_or_ge i 17 with h | h
              · exact h
              · rw [Array.getElem?_eq_none (by simpa using h)] at ho; cases ho
            revert e
            match i, hi with
            | 0, _ => (cases ho; decide)
            | 1, _ => (cases ho; decide)
            | 2, _ => (cases ho; decide)
            | 3, _ => (cases ho; decide)
            | 4, _ => (cases ho; decide)
            | 5, _ => (cases ho; decide)
            | 6, _ => (cases ho; decide)
            | 7, _ => (cases ho; decide)
            | 8, _ => (cases ho; decide)
            | 9, _ => (cases ho; decide)
            | 10, _ => (cases ho; decide)
            | 11, _ => (cases ho; decide)
            | 12, _ => (cases ho; decide)
            | 13, _ => (cases ho; decide)
            | 14, _ => (cases ho; decide)
            | 15, _ => (cases ho; decide)
            | 16, _ => (cases ho; decide)
          · intro S a wx i o hI ho hS hd
            obtain ⟨x33, x34, x35, x36, x37, x38, x39, x40, x41, x42, x43, x44, x45, x46, x47, x48, x4, rfl, hb, f0, f1, f2, f3, f4, f5, f6, f7, f8, f9, f10, f11, f12, f13, f14, f15, f16⟩ := hI
            have hi : i < 17 := by
              rcases Nat.lt_or_ge i 17 with h | h
              · exact h
              · rw [Array.getElem?_eq_none (by simpa using h)] at ho; cases ho
            match i, hi with
            | 0, _ =>
              simp only [List.getElem?_toArray, List.getElem?_cons_zero, Option.some.injEq] at ho
              subst ho
              refine wpOp_of rfl rfl ?_
              unfold Oper.wp
              go_simp
              exact ⟨_, _, _, _, _, _, _, _, _, _, _, _, _, _, _, _, _, rfl, hb, (fun _ => rfl), (fun h => f1 (by simpa using h)), (fun h => f2 (by simpa using h)), (fun h => f3 (by simpa using h)), (fun h => f4 (by simpa using h)), (fun h => f5 (by simpa using h)), (fun h => f6 (by simpa using h)), (fun h => f7 (by simpa using h)), (fun h => f8 (by simpa using h)), (fun h => f9 (by simpa using h)), (fun h => f10 (by simpa using h)), (fun h => f11 (by simpa using h)), (fun h => f12 (by simpa using h)), (fun h => f13 (by simpa using h)), (fun h => f14 (by simpa using h)), (fun h => f15 (by simpa using h)), (fun h => f16 (by simpa using h))⟩
            | 1, _ =>
              simp only [List.getElem?_toArray, List.getElem?_cons_zero, List.getElem?_cons_succ, Option.some.injEq] at ho
              subst ho
              refine wpOp_of rfl rfl ?_
              unfold Oper.wp
              go_simp
              exact ⟨_, _, _, _, _, _, _, _, _, _, _, _, _, _, _, _, _, rfl, hb, (fun h => f0 (by simpa using h)), (fun _ => rfl), (fun h => f2 (by simpa using h)), (fun h => f3 (by simpa using h)), (fun h => f4 (by simpa using h)), (fun h => f5 (by simpa using h)), (fun h => f6 (by simpa using h)), (fun h => f7 (by simpa using h)), (fun h => f8 (by simpa using h)), (fun h => f9 (by simpa using h)), (fun h => f10 (by simpa using h)), (fun h => f11 (by simpa using h)), (fun h => f12 (by simpa using h)), (fun h => f13 (by simpa using h)), (fun h => f14 (by simpa using h)), (fun h => f15 (by simpa using h)), (fun h => f16 (by simpa using h))⟩
            | 2, _ =>
              simp only [List.getElem?_toArray, List.getElem?_cons_zero, List.getElem?_cons_succ, Option.some.injEq] at ho
              subst ho
              have g0 := f0 (hd ⟨0, Ground.data⟩ (by simp) rfl)
              subst x33
              have g1 := f1 (hd ⟨1, Ground.data⟩ (by simp) rfl)
              subst x34
              refine wpOp_of rfl rfl ?_
              unfold Oper.wp
              go_simp
              (with_reducible refine (P13.out _ hb).mono ?_)
              rintro e w2 ⟨rfl, hbel⟩
              exact ⟨_, _, _, _, _, _, _, _, _, _, _, _, _, _, _, _, _, rfl, hb.trans (hbel.mono hb.size), (fun h => f0 (by simpa using h)), (fun h => f1 (by simpa using h)), (fun _ => rfl), (fun h => f3 (by simpa using h)), (fun h => f4 (by simpa using h)), (fun h => f5 (by simpa using h)), (fun h => f6 (by simpa using h)), (fun h => f7 (by simpa using h)), (fun h => f8 (by simpa using h)), (fun h => f9 (by simpa using h)), (fun h => f10 (by simpa using h)), (fun h => f11 (by simpa using h)), (fun h => f12 (by simpa using h)), (fun h => f13 (by simpa using h)), (fun h => f14 (by simpa using h)), (fun h => f15 (by simpa using h)), (fun h => f16 (by simpa using h))⟩
            | 3, _ =>
              simp only [List.getElem?_toArray, List.getElem?_cons_zero, List.getElem?_cons_succ, Option.some.injEq] at ho
              subst ho
              refine wpOp_of rfl rfl ?_
              refine wp_load_box (.tmp 2) rfl w.heap.size rfl (HZ1.out.below hb) ?_
              exact ⟨_, _, _, _, _, _, _, _, _, _, _, _, _, _, _, _, _, rfl, hb, (fun h => f0 (by simpa using h)), (fun h => f1 (by simpa using h)), (fun h => f2 (by simpa using h)), (fun _ => rfl), (fun h => f4 (by simpa using h)), (fun h => f5 (by simpa using h)), (fun h => f6 (by simpa using h)), (fun h => f7 (by simpa using h)), (fun h => f8 (by simpa using h)), (fun h => f9 (by simpa using h)), (fun h => f10 (by simpa using h)), (fun h => f11 (by simpa using h)), (fun h => f12 (by simpa using h)), (fun h => f13 (by simpa using h)), (fun h => f14 (by simpa using h)), (fun h => f15 (by simpa using h)), (fun h => f16 (by simpa using h))⟩
            | 4, _ =>
              simp only [List.getElem?_toArray, List.getElem?_cons_zero, List.getElem?_cons_succ, Option.some.injEq] at ho
              subst ho
              refine wpOp_of rfl rfl ?_
              refine wp_load_box (.tmp 3) rfl (w.heap.size + 1) rfl (HZ2.out.below hb) ?_
              exact ⟨_, _, _, _, _, _, _, _, _, _, _, _, _, _, _, _, _, rfl, hb, (fun h => f0 (by simpa using h)), (fun h => f1 (by simpa using h)), (fun h => f2 (by simpa using h)), (fun h => f3 (by simpa using h)), (fun _ => rfl), (fun h => f5 (by simpa using h)), (fun h => f6 (by simpa using h)), (fun h => f7 (by simpa using h)), (fun h => f8 (by simpa using h)), (fun h => f9 (by simpa using h)), (fun h => f10 (by simpa using h)), (fun h => f11 (by simpa using h)), (fun h => f12 (by simpa using h)), (fun h => f13 (by simpa using h)), (fun h => f14 (by simpa using h)), (fun h => f15 (by simpa using h)), (fun h => f16 (by simpa using h))⟩
            | 5, _ =>
              simp only [List.getElem?_toArray, List.getElem?_cons_zero, List.getElem?_cons_succ, Option.some.injEq] at ho
              subst ho
              have g3 := f3 (hd ⟨3, Ground.data⟩ (by simp) rfl)
              subst x36
              have g4 := f4 (hd ⟨4, Ground.data⟩ (by simp) rfl)
              subst x37
              refine wpOp_of rfl rfl ?_
              unfold Oper.wp
              go_simp
              (with_reducible refine (S14.out _ hb).mono ?_)
              rintro e w2 ⟨rfl, hbel⟩
              exact ⟨_, _, _, _, _, _, _, _, _, _, _, _, _, _, _, _, _, rfl, hb.trans (hbel.mono hb.size), (fun h => f0 (by simpa using h)), (fun h => f1 (by simpa using h)), (fun h => f2 (by simpa using h)), (fun h => f3 (by simpa using h)), (fun h => f4 (by simpa using h)), (fun _ => rfl), (fun h => f6 (by simpa using h)), (fun h => f7 (by simpa using h)), (fun h => f8 (by simpa using h)), (fun h => f9 (by simpa using h)), (fun h => f10 (by simpa using h)), (fun h => f11 (by simpa using h)), (fun h => f12 (by simpa using h)), (fun h => f13 (by simpa using h)), (fun h => f14 (by simpa using h)), (fun h => f15 (by simpa using h)), (fun h => f16 (by simpa using h))⟩
            | 6, _ =>
              simp only [List.getElem?_toArray, List.getElem?_cons_zero, List.getElem?_cons_succ, Option.some.injEq] at ho
              subst ho
              have g2 := f2 (hd ⟨2, Ground.data⟩ (by simp) rfl)
              subst x35
              have g5 := f5 (hd ⟨5, Ground.data⟩ (by simp) rfl)
              subst x38
              refine wpOp_of rfl rfl ?_
              unfold Oper.wp
              go_simp
              exact ⟨_, _, _, _, _, _, _, _, _, _, _, _, _, _, _, _, _, rfl, hb, (fun h => f0 (by simpa using h)), (fun h => f1 (by simpa using h)), (fun h => f2 (by simpa using h)), (fun h => f3 (by simpa using h)), (fun h => f4 (by simpa using h)), (fun h => f5 (by simpa using h)), (fun _ => rfl), (fun h => f7 (by simpa using h)), (fun h => f8 (by simpa using h)), (fun h => f9 (by simpa using h)), (fun h => f10 (by simpa using h)), (fun h => f11 (by simpa using h)), (fun h => f12 (by simpa using h)), (fun h => f13 (by simpa using h)), (fun h => f14 (by simpa using h)), (fun h => f15 (by simpa using h)), (fun h => f16 (by simpa using h))⟩
            | 7, _ =>
              simp only [List.getElem?_toArray, List.getElem?_cons_zero, List.getElem?_cons_succ, Option.some.injEq] at ho
              subst ho
              have g6 := f6 (hd ⟨6, Ground.data⟩ (by simp) rfl)
              subst x39
              refine wpOp_of rfl rfl ?_
              unfold Oper.wp
              go_simp
              exact ⟨_, _, _, _, _, _, _, _, _, _, _, _, _, _, _, _, _, rfl, hb, (fun h => f0 (by simpa using h)), (fun h => f1 (by simpa using h)), (fun h => f2 (by simpa using h)), (fun h => f3 (by simpa using h)), (fun h => f4 (by simpa using h)), (fun h => f5 (by simpa using h)), (fun h => f6 (by simpa using h)), (fun _ => rfl), (fun h => f8 (by simpa using h)), (fun h => f9 (by simpa using h)), (fun h => f10 (by simpa using h)), (fun h => f11 (by simpa using h)), (fun h => f12 (by simpa using h)), (fun h => f13 (by simpa using h)), (fun h => f14 (by simpa using h)), (fun h => f15 (by simpa using h)), (fun h => f16 (by simpa using h))⟩
            | 8, _ =>
              simp only [List.getElem?_toArray, List.getElem?_cons_zero, List.getElem?_cons_succ, Option.some.injEq] at ho
              subst ho
              have g7 := f7 (hd ⟨7, Ground.guard⟩ (by simp) rfl)
              subst x40
              refine wpOp_want rfl (by rfl) ?_
              unfold Oper.wp
              go_simp
              exact ⟨_, _, _, _, _, _, _, _, _, _, _, _, _, _, _, _, _, rfl, hb, (fun h => f0 (by simpa using h)), (fun h => f1 (by simpa using h)), (fun h => f2 (by simpa using h)), (fun h => f3 (by simpa using h)), (fun h => f4 (by simpa using h)), (fun h => f5 (by simpa using h)), (fun h => f6 (by simpa using h)), (fun h => f7 (by simpa using h)), (fun _ => rfl), (fun h => f9 (by simpa using h)), (fun h => f10 (by simpa using h)), (fun h => f11 (by simpa using h)), (fun h => f12 (by simpa using h)), (fun h => f13 (by simpa using h)), (fun h => f14 (by simpa using h)), (fun h => f15 (by simpa using h)), (fun h => f16 (by simpa using h))⟩
            | 9, _ =>
              simp only [List.getElem?_toArray, List.getElem?_cons_zero, List.getElem?_cons_succ, Option.some.injEq] at ho
              subst ho
              have g7 := f7 (hd ⟨7, Ground.guard⟩ (by simp) rfl)
              subst x40
              refine wpOp_want rfl (by rfl) ?_
              unfold Oper.wp
              go_simp
              exact ⟨_, _, _, _, _, _, _, _, _, _, _, _, _, _, _, _, _, rfl, hb, (fun h => f0 (by simpa using h)), (fun h => f1 (by simpa using h)), (fun h => f2 (by simpa using h)), (fun h => f3 (by simpa using h)), (fun h => f4 (by simpa using h)), (fun h => f5 (by simpa using h)), (fun h => f6 (by simpa using h)), (fun h => f7 (by simpa using h)), (fun h => f8 (by simpa using h)), (fun _ => rfl), (fun h => f10 (by simpa using h)), (fun h => f11 (by simpa using h)), (fun h => f12 (by simpa using h)), (fun h => f13 (by simpa using h)), (fun h => f14 (by simpa using h)), (fun h => f15 (by simpa using h)), (fun h => f16 (by simpa using h))⟩
            | 10, _ =>
              simp only [List.getElem?_toArray, List.getElem?_cons_zero, List.getElem?_cons_succ, Option.some.injEq] at ho
              subst ho
              have g8 := f8 (hd ⟨8, Ground.data⟩ (by simp) rfl)
              subst x41
              have g9 := f9 (hd ⟨9, Ground.data⟩ (by simp) rfl)
              subst x42
              have g7 := f7 (hd ⟨7, Ground.guard⟩ (by simp) rfl)
              subst x40
              refine wpOp_want rfl (by rfl) ?_
              unfold Oper.wp
              go_simp
              (with_reducible refine (Q13.out _ hb).mono ?_)
              rintro e w2 ⟨rfl, hbel⟩
              exact ⟨_, _, _, _, _, _, _, _, _, _, _, _, _, _, _, _, _, rfl, hb.trans (hbel.mono hb.size), (fun h => f0 (by simpa using h)), (fun h => f1 (by simpa using h)), (fun h => f2 (by simpa using h)), (fun h => f3 (by simpa using h)), (fun h => f4 (by simpa using h)), (fun h => f5 (by simpa using h)), (fun h => f6 (by simpa using h)), (fun h => f7 (by simpa using h)), (fun h => f8 (by simpa using h)), (fun h => f9 (by simpa using h)), (fun _ => rfl), (fun h => f11 (by simpa using h)), (fun h => f12 (by simpa using h)), (fun h => f13 (by simpa using h)), (fun h => f14 (by simpa using h)), (fun h => f15 (by simpa using h)), (fun h => f16 (by simpa using h))⟩
            | 11, _ =>
              simp only [List.getElem?_toArray, List.getElem?_cons_zero, List.getElem?_cons_succ, Option.some.injEq] at ho
              subst ho
              have g7 := f7 (hd ⟨7, Ground.guard⟩ (by simp) rfl)
              subst x40
              refine wpOp_want rfl (by rfl) ?_
              refine wp_load_box (.tmp 2) rfl w.heap.size rfl (HZ1.out.below hb) ?_
              exact ⟨_, _, _, _, _, _, _, _, _, _, _, _, _, _, _, _, _, rfl, hb, (fun h => f0 (by simpa using h)), (fun h => f1 (by simpa using h)), (fun h => f2 (by simpa using h)), (fun h => f3 (by simpa using h)), (fun h => f4 (by simpa using h)), (fun h => f5 (by simpa using h)), (fun h => f6 (by simpa using h)), (fun h => f7 (by simpa using h)), (fun h => f8 (by simpa using h)), (fun h => f9 (by simpa using h)), (fun h => f10 (by simpa using h)), (fun _ => rfl), (fun h => f12 (by simpa using h)), (fun h => f13 (by simpa using h)), (fun h => f14 (by simpa using h)), (fun h => f15 (by simpa using h)), (fun h => f16 (by simpa using h))⟩
            | 12, _ =>
              simp only [List.getElem?_toArray, List.getElem?_cons_zero, List.getElem?_cons_succ, Option.some.injEq] at ho
              subst ho
              have g7 := f7 (hd ⟨7, Ground.guard⟩ (by simp) rfl)
              subst x40
              refine wpOp_want rfl (by rfl) ?_
              refine wp_load_box (.tmp 3) rfl (w.heap.size + 1) rfl (HZ2.out.below hb) ?_
              exact ⟨_, _, _, _, _, _, _, _, _, _, _, _, _, _, _, _, _, rfl, hb, (fun h => f0 (by simpa using h)), (fun h => f1 (by simpa using h)), (fun h => f2 (by simpa using h)), (fun h => f3 (by simpa using h)), (fun h => f4 (by simpa using h)), (fun h => f5 (by simpa using h)), (fun h => f6 (by simpa using h)), (fun h => f7 (by simpa using h)), (fun h => f8 (by simpa using h)), (fun h => f9 (by simpa using h)), (fun h => f10 (by simpa using h)), (fun h => f11 (by simpa using h)), (fun _ => rfl), (fun h => f13 (by simpa using h)), (fun h => f14 (by simpa using h)), (fun h => f15 (by simpa using h)), (fun h => f16 (by simpa using h))⟩
            | 13, _ =>
              simp only [List.getElem?_toArray, List.getElem?_cons_zero, List.getElem?_cons_succ, Option.some.injEq] at ho
              subst ho
              have g11 := f11 (hd ⟨11, Ground.data⟩ (by simp) rfl)
              subst x44
              have g12 := f12 (hd ⟨12, Ground.data⟩ (by simp) rfl)
              subst x45
              have g7 := f7 (hd ⟨7, Ground.guard⟩ (by simp) rfl)
              subst x40
              refine wpOp_want rfl (by rfl) ?_
              unfold Oper.wp
              go_simp
              (with_reducible refine (S14.out _ hb).mono ?_)
              rintro e w2 ⟨rfl, hbel⟩
              exact ⟨_, _, _, _, _, _, _, _, _, _, _, _, _, _, _, _, _, rfl, hb.trans (hbel.mono hb.size), (fun h => f0 (by simpa using h)), (fun h => f1 (by simpa using h)), (fun h => f2 (by simpa using h)), (fun h => f3 (by simpa using h)), (fun h => f4 (by simpa using h)), (fun h => f5 (by simpa using h)), (fun h => f6 (by simpa using h)), (fun h => f7 (by simpa using h)), (fun h => f8 (by simpa using h)), (fun h => f9 (by simpa using h)), (fun h => f10 (by simpa using h)), (fun h => f11 (by simpa using h)), (fun h => f12 (by simpa using h)), (fun _ => rfl), (fun h => f14 (by simpa using h)), (fun h => f15 (by simpa using h)), (fun h => f16 (by simpa using h))⟩
            | 14, _ =>
              simp only [List.getElem?_toArray, List.getElem?_cons_zero, List.getElem?_cons_succ, Option.some.injEq] at ho
              subst ho
              have g10 := f10 (hd ⟨10, Ground.data⟩ (by simp) rfl)
              subst x43
              have g13 := f13 (hd ⟨13, Ground.data⟩ (by simp) rfl)
              subst x46
              have g7 := f7 (hd ⟨7, Ground.guard⟩ (by simp) rfl)
              subst x40
              refine wpOp_want rfl (by rfl) ?_
              unfold Oper.wp
              go_simp
              exact ⟨_, _, _, _, _, _, _, _, _, _, _, _, _, _, _, _, _, rfl, hb, (fun h => f0 (by simpa using h)), (fun h => f1 (by simpa using h)), (fun h => f2 (by simpa using h)), (fun h => f3 (by simpa using h)), (fun h => f4 (by simpa using h)), (fun h => f5 (by simpa using h)), (fun h => f6 (by simpa using h)), (fun h => f7 (by simpa using h)), (fun h => f8 (by simpa using h)), (fun h => f9 (by simpa using h)), (fun h => f10 (by simpa using h)), (fun h => f11 (by simpa using h)), (fun h => f12 (by simpa using h)), (fun h => f13 (by simpa using h)), (fun _ => rfl), (fun h => f15 (by simpa using h)), (fun h => f16 (by simpa using h))⟩
            | 15, _ =>
              simp only [List.getElem?_toArray, List.getElem?_cons_zero, List.getElem?_cons_succ, Option.some.injEq] at ho
              subst ho
              have g7 := f7 (hd ⟨7, Ground.data⟩ (by simp) rfl)
              subst x40
              have g14 := f14 (hd ⟨14, Ground.data⟩ (by simp) rfl)
              subst x47
              refine wpOp_of rfl rfl ?_
              unfold Oper.wp
              go_simp
              exact ⟨_, _, _, _, _, _, _, _, _, _, _, _, _, _, _, _, _, rfl, hb, (fun h => f0 (by simpa using h)), (fun h => f1 (by simpa using h)), (fun h => f2 (by simpa using h)), (fun h => f3 (by simpa using h)), (fun h => f4 (by simpa using h)), (fun h => f5 (by simpa using h)), (fun h => f6 (by simpa using h)), (fun h => f7 (by simpa using h)), (fun h => f8 (by simpa using h)), (fun h => f9 (by simpa using h)), (fun h => f10 (by simpa using h)), (fun h => f11 (by simpa using h)), (fun h => f12 (by simpa using h)), (fun h => f13 (by simpa using h)), (fun h => f14 (by simpa using h)), (fun _ => rfl), (fun h => f16 (by simpa using h))⟩
            | 16, _ =>
              simp only [List.getElem?_toArray, List.getElem?_cons_zero, List.getElem?_cons_succ, Option.some.injEq] at ho
              subst ho
              have g15 := f15 (hd ⟨15, Ground.data⟩ (by simp) rfl)
              subst x48
              refine wpOp_of rfl rfl ?_
              unfold Oper.wp
              go_simp
              exact ⟨_, _, _, _, _, _, _, _, _, _, _, _, _, _, _, _, _, rfl, hb, (fun h => f0 (by simpa using h)), (fun h => f1 (by simpa using h)), (fun h => f2 (by simpa using h)), (fun h => f3 (by simpa using h)), (fun h => f4 (by simpa using h)), (fun h => f5 (by simpa using h)), (fun h => f6 (by simpa using h)), (fun h => f7 (by simpa using h)), (fun h => f8 (by simpa using h)), (fun h => f9 (by simpa using h)), (fun h => f10 (by simpa using h)), (fun h => f11 (by simpa using h)), (fun h => f12 (by simpa using h)), (fun h => f13 (by simpa using h)), (fun h => f14 (by simpa using h)), (fun h => f15 (by simpa using h)), (fun _ => rfl)⟩
          · intro S a wx hI hall
            obtain ⟨x33, x34, x35, x36, x37, x38, x39, x40, x41, x42, x43, x44, x45, x46, x47, x48, x4, rfl, hb, f0, f1, f2, f3, f4, f5, f6, f7, f8, f9, f10, f11, f12, f13, f14, f15, f16⟩ := hI
            have gl := f16 (hall 16 (by simp))
            subst x4
            go_wp2_with fail
            go_ret
            exact ⟨rfl, HBW.out.trans (hb.mono HBW.out.size)⟩
end Go.Proofs.Ytcelcognmdcenaa
