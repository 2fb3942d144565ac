/-
  WALKS: is a unit too long? Are bytes the same, do they begin others?
-/
import Derived.Test.YtcelcognmdcenaaH2
import Derived.Test.YtcelcognmdcenaaF4
import Derived.Test.YtcelcognmdcenaaH3
import Derived.Laws.BytesArg
namespace Go.Proofs.Ytcelcognmdcenaa
open Go.RowKit

/-- Is a unit too long? -/
def longB (u : Un) : Bool := decide (3000 < u.left.code.length + u.right.code.length + u.back.code.length) || decide (400 < u.pts.length)
/-- What long answers. -/
def LongOut (w : World) (b : Bool) (e : Ending) (w' : World) : Prop := e = .returned (.bool b) ∧ Below w.heap.size w w'

set_option maxRecDepth 100000 in
set_option maxHeartbeats 2000000 in
theorem long11 (u : Un) (L : UnV) (w : World) (hs : u.fits) : Calls Try.prog 11 #[L.val u] w (LongOut w (longB u)) := by
  obtain ⟨fp, ⟨fl1, fl2⟩, ⟨fr1, fr2⟩, fb1, fb2⟩ := hs
  unfold UnV.val UnV.cells
  go_enter Try.func11, Try.ntmps11
  go_wp2_with fail
  all_goals
    go_ret
    refine ⟨ret_bool ?_, below_a _ _⟩
    unfold longB
    rw [Bool.eq_iff_iff]
    simp only [Bool.or_eq_true, decide_eq_true_eq, true_iff]
    omega

/-- Bytes as a string. -/
def toS (l : List Nat) : ByteArray := strOfNums (l.map fun (x : Nat) => (x : Int))
theorem toS_inj {l k : List Nat} (hl : ∀ x ∈ l, x < 256) (hk : ∀ x ∈ k, x < 256) : ((toS l).toList == (toS k).toList) = true ↔ l = k := by
  rw [beq_iff_eq, ByteArray.toList_eq, ByteArray.toList_eq]
  constructor
  · intro h
    have h1 := h
    simp only [toS, strOfNums_data, List.map_map] at h1
    apply List.ext_getElem?
    intro i
    have h2 := congrArg (fun l => l[i]?) h1
    simp only [List.getElem?_map] at h2
    cases e1 : l[i]? with
    | none =>
      cases e2 : k[i]? with
      | none => rfl
      | some y => rw [e1, e2] at h2; cases h2
    | some x =>
      cases e2 : k[i]? with
      | none => rw [e1, e2] at h2; cases h2
      | some y =>
        rw [e1, e2] at h2
        simp only [Option.map_some, Option.some.injEq, Function.comp] at h2
        have hx := hl x (List.mem_of_getElem? e1)
        have hy := hk y (List.mem_of_getElem? e2)
        have h3 := congrArg UInt8.toNat h2
        simp only [Int.toNat_natCast, UInt8.toNat_ofNat'] at h3
        rw [Nat.mod_eq_of_lt (by omega), Nat.mod_eq_of_lt (by omega)] at h3
        rw [h3]
  · intro h; rw [h]
theorem conv_zero (w : World) (p : Option Addr) (c : Nat) : (convert 31 9 (.slice p 0 c)).run Try.prog w = .ok (.string ByteArray.empty) w := by
  rw [run_convert_bytes_string w 31 9 5 _ 0 c Try.underlying31 Try.underlying5 Try.underlying9]
  cases p <;> simp [Conv.bytesToString, loadCells]
  all_goals rfl
theorem Reads.str {w : World} {A : Option Addr} {n c : Nat} {l : List Nat} (h : Reads w 1 (.slice A n c) n (vB l)) : (convert 31 9 (.slice A n c)).run Try.prog w = .ok (.string (toS l)) w := by
  obtain ⟨hl, hc⟩ := h.bytes
  rcases Nat.eq_zero_or_pos n with e | e
  · subst e
    have : l = [] := List.eq_nil_of_length_eq_zero hl
    subst this
    exact conv_zero w A c
  · obtain ⟨b, o, rfl, _, hcc⟩ := hc e
    refine run_convert_bytes_arg w 31 5 Try.underlying31 Try.underlying5 b o n c (l.map fun (x : Nat) => (x : Int)) (by simp [hl]) (fun i hi => ?_) 9 Try.underlying9
    obtain ⟨x, hx⟩ : ∃ x, l[i]? = some x := ⟨l[i]'(by omega), List.getElem?_eq_getElem _⟩
    rw [hcc i x hx]
    simp [List.getD, hx]

set_option maxHeartbeats 1000000 in
theorem equal26 (A B : Option Addr) (n c m d : Nat) (l k : List Nat) (w : World) (hl : ∀ x ∈ l, x < 256) (hk : ∀ x ∈ k, x < 256) (h1 : Reads w 1 (.slice A n c) n (vB l)) (h2 : Reads w 1 (.slice B m d) m (vB k)) :
    Calls Try.prog 26 #[.slice A n c, .slice B m d] w (SmOut w (l = k)) := by
  have r1 := h1.str
  have r2 := h2.str
  have HI := Lib.hid (toS_inj hl hk)
  clear h1 h2 hl hk
  generalize toS l = s1 at *
  generalize toS k = s2 at *
  go_enter Try.func26, Try.ntmps26
  go_wp2_with fail
  go_ret
  exact ⟨_, rfl, HI.out, Below.refl _ _⟩

/-- Is l the beginning? -/
theorem pre_take {l k : List Nat} (h : k.length ≤ l.length) : l.take k.length = k ↔ k <+: l := by
  constructor
  · intro e; rw [← e]; exact List.take_prefix _ _
  · rintro ⟨t, rfl⟩; simp

set_option maxHeartbeats 1000000 in
theorem prefix13 (A B : Option Addr) (n c m d : Nat) (l k : List Nat) (w : World) (hnc : n ≤ c) (hl : ∀ x ∈ l, x < 256) (hk : ∀ x ∈ k, x < 256) (h1 : Reads w 1 (.slice A n c) n (vB l)) (h2 : Reads w 1 (.slice B m d) m (vB k)) :
    Calls Try.prog 13 #[.slice A n c, .slice B m d] w (SmOut w (k <+: l)) := by
  have hn : n ≤ 9223372036854775807 := h1.2.1
  have hm : m ≤ 9223372036854775807 := h2.2.1
  have e1 := h1.bytes.1
  have e2 := h2.bytes.1
  by_cases hmn : m ≤ n
  · have HE := Lib.hid (equal26 A B m c m d (l.take m) k w (fun x hx => hl x (List.mem_of_mem_take hx)) hk (h1.take hmn) h2)
    have HI : Hid (l.take m = k ↔ k <+: l) := Lib.hid (by rw [← e2]; exact pre_take (by omega))
    clear e1 e2 h1 h2 hl hk
    go_enter Try.func13, Try.ntmps13
    go_wp2_with fail
    (with_reducible refine HE.out.mono ?_)
    rintro e w' ⟨b, rfl, hb, hbel⟩
    have HB := Lib.hid (hb.trans HI.out)
    have HL := Lib.hid hbel
    clear hb hbel
    go_wp2_with fail
    go_ret
    exact ⟨b, rfl, HB.out, HL.out⟩
  · have HN : Hid (¬ (k <+: l)) := Lib.hid (fun h => by have := h.length_le; omega)
    clear e1 e2 h1 h2 hl hk
    go_enter Try.func13, Try.ntmps13
    go_wp2_with fail
    go_ret
    exact SmOut.no rfl HN.out (Below.refl _ _)

/-- What works answers. -/
def WkOut (w : World) (e : Ending) (w' : World) : Prop := e = .returned (.bool true) ∧ Below w.heap.size w w'

set_option maxRecDepth 100000 in
set_option maxHeartbeats 4000000 in
theorem works10 (w : World) : Calls Try.prog 10 #[] w (WkOut w) := by
  have HC1 := Lib.hid (example15 w)
  go_enter Try.func10, Try.ntmps10
  go_wp2_with fail
  (with_reducible refine HC1.out.mono ?_)
  rintro e x1 ⟨L, A, c, rfl, hu, ho, hb⟩
  have HU := Lib.hid hu.in
  have HR := Lib.hid (Reads.of_own ho)
  have HB := Lib.hid hb
  obtain ⟨x2, hx2⟩ : ∃ x2, x2 = x1.alloc (.cells (L.cells exU) 28) := ⟨_, rfl⟩
  have HU2 : Hid (UnIn x2 L exU) := Lib.hid (by rw [hx2]; exact hu.in.below (below_a _ _))
  have HR2 : Hid (Reads x2 1 (.slice A 29 c) 29 (vB exU.bytes)) := Lib.hid (by rw [hx2]; exact (Reads.of_own ho).below (below_a _ _))
  have HB2 : Hid (Below w.heap.size w x2) := Lib.hid (by rw [hx2]; exact hb.alloc hb.size _)
  have HQ2 : Hid (x2.heap[x1.heap.size]? = some (.cells (L.cells exU) 28 (0, 0))) := Lib.hid (by rw [hx2]; exact heap_alloc_new _ _)
  have HS2 : Hid (x2.heap.size = x1.heap.size + 1) := Lib.hid (by rw [hx2]; simp)
  have HC2 := Lib.hid (encode12_ok exU L x2 HU2.out exU_fault)
  have hAc : 29 ≤ c := (own_slice ho).choose_spec.choose_spec.2.1 |> fun h => by
    obtain ⟨A', c', e, h1, _⟩ := own_slice ho
    cases e; exact h1
  rw [hx2] at HC2
  have HW2 := Lib.hid hx2
  clear hu ho hb HC1 hx2 HU HR HB
  unfold UnV.val at HC2 ⊢
  unfold UnV.cells at HC2 HW2 ⊢
  go_wp2_with fail
  (with_reducible refine HC2.out.mono ?_)
  rintro e x3 ⟨v3, n3, rfl, ho3, hb3⟩
  rw [← HW2.out] at ho3 hb3
  have hn3 : n3 = 29 := by rw [← tel_len ho3]; decide +kernel
  subst hn3
  obtain ⟨A3, C3, rfl, _, _⟩ := own_slice ho3
  have HO3 := Lib.hid (Reads.of_own ho3)
  have HR3 := Lib.hid (HR2.out.below hb3)
  have HB3 := Lib.hid (HB2.out.trans (hb3.mono HB2.out.size))
  have HB23 := Lib.hid hb3
  have HC3 := Lib.hid (decode17 HR3.out (bytes_lt exU) (by omega) hAc)
  clear ho3 hb3 HC2 HW2
  go_wp2_with fail
  (with_reducible refine HC3.out.mono ?_)
  rintro e x4 ⟨hb4, h4⟩
  rw [dec_self exU_fault] at h4
  obtain ⟨M, rfl, hu4⟩ := h4
  have HU4 := Lib.hid hu4
  have HB34 := Lib.hid hb4
  obtain ⟨x5, hx5⟩ : ∃ x5, x5 = (x4.alloc (.cells (M.cells exU) 28)).alloc (.cells #[.int .i64 0, .int .i64 0] 43) := ⟨_, rfl⟩
  have HB45 : Hid (Below x4.heap.size x4 x5) := Lib.hid (by rw [hx5]; exact (below_a _ _).alloc (by simp) _)
  have HS5 : Hid (x5.heap.size = x4.heap.size + 2) := Lib.hid (by rw [hx5]; simp)
  have HQ5 : Hid (x5.heap[x4.heap.size]? = some (.cells (M.cells exU) 28 (0, 0))) := Lib.hid (by rw [hx5, Below.heap_alloc _ _ _ (by simp)]; exact heap_alloc_new _ _)
  have HQ6 : Hid (x5.heap[x4.heap.size + 1]? = some (.cells #[.int .i64 0, .int .i64 0] 43 (0, 0))) := Lib.hid (by rw [hx5]; have := heap_alloc_new (x4.alloc (.cells (M.cells exU) 28)) (.cells #[.int .i64 0, .int .i64 0] 43); simpa using this)
  have HB35 := Lib.hid (hb4.trans (HB45.out.mono hb4.size))
  have HC4 := Lib.hid (equal22 A3 A 29 29 C3 c exU.bytes exU.bytes x5 (HO3.out.below HB35.out) (HR3.out.below HB35.out))
  rw [hx5] at HC4
  have HW5 := Lib.hid hx5
  clear hx5 hu4 hb4 HC3
  unfold UnV.val
  unfold UnV.cells at HC4 HW5 ⊢
  go_wp2_with fail
  (with_reducible refine HC4.out.mono ?_)
  rintro e x6 ⟨b, rfl, hb, j, rfl⟩
  rw [← HW5.out]
  have hbt := hb.2 (by first | rfl | trivial)
  subst hbt
  have HB56 := Lib.hid (below_drewN (Below.refl x5.heap.size x5) j)
  have hs2 := HS2.out
  have hs5 := HS5.out
  have hs23 := HB23.out.size
  have hs34 := HB34.out.size
  clear hb HC4 HW5
  generalize x5.drewN j = x6 at *
  have HQa : Hid (x6.heap[x1.heap.size]? = some (.cells (L.cells exU) 28 (0, 0))) := Lib.hid ((HB56.out.block _ (by omega)).trans ((HB35.out.block _ (by omega)).trans ((HB23.out.block _ (by omega)).trans HQ2.out)))
  have HQb : Hid (x6.heap[x4.heap.size]? = some (.cells (M.cells exU) 28 (0, 0))) := Lib.hid ((HB56.out.block _ (by omega)).trans HQ5.out)
  have HQc : Hid (x6.heap[x4.heap.size + 1]? = some (.cells #[.int .i64 0, .int .i64 0] 43 (0, 0))) := Lib.hid ((HB56.out.block _ (by omega)).trans HQ6.out)
  have HU6 := Lib.hid (((HU2.out.below HB23.out).below HB35.out).below HB56.out)
  have HV6 := Lib.hid ((HU4.out.below HB45.out).below HB56.out)
  have HB6 : Hid (Below w.heap.size w x6) := Lib.hid (HB2.out.trans ((HB23.out.trans ((HB35.out.trans (HB56.out.mono HB35.out.size)).mono HB23.out.size)).mono HB2.out.size))
  have HC5 := Lib.hid (same18 exU exU L M x6 HU6.out HV6.out)
  have p0 : x6.cell? ⟨x4.heap.size + 1, 0, none⟩ = some (.int .i64 0) := cell_of_row _ _ 0 _ 43 (0, 0) HQc.out
  have p1 : x6.cell? ⟨x4.heap.size + 1, 1, none⟩ = some (.int .i64 0) := cell_of_row _ _ 1 _ 43 (0, 0) HQc.out
  have a0 : x6.cell? ⟨x1.heap.size, 0, none⟩ = some (.int .i64 exU.k1) := cell_of_row _ _ 0 _ 28 (0, 0) HQa.out
  have a1 : x6.cell? ⟨x1.heap.size, 1, none⟩ = some (.int .i64 exU.k2) := cell_of_row _ _ 1 _ 28 (0, 0) HQa.out
  have a2 : x6.cell? ⟨x1.heap.size, 2, none⟩ = some (.slice L.P exU.pts.length L.c) := cell_of_row _ _ 2 _ 28 (0, 0) HQa.out
  have a3 : x6.cell? ⟨x1.heap.size, 3, none⟩ = some (.int .i64 exU.left.ins) := cell_of_row _ _ 3 _ 28 (0, 0) HQa.out
  have a4 : x6.cell? ⟨x1.heap.size, 4, none⟩ = some (.int .i64 exU.left.regs) := cell_of_row _ _ 4 _ 28 (0, 0) HQa.out
  have a5 : x6.cell? ⟨x1.heap.size, 5, none⟩ = some (.slice L.l.A exU.left.code.length L.l.c) := cell_of_row _ _ 5 _ 28 (0, 0) HQa.out
  have a6 : x6.cell? ⟨x1.heap.size, 6, none⟩ = some (.slice L.l.B exU.left.outs.length L.l.d) := cell_of_row _ _ 6 _ 28 (0, 0) HQa.out
  have a7 : x6.cell? ⟨x1.heap.size, 7, none⟩ = some (.int .i64 exU.right.ins) := cell_of_row _ _ 7 _ 28 (0, 0) HQa.out
  have a8 : x6.cell? ⟨x1.heap.size, 8, none⟩ = some (.int .i64 exU.right.regs) := cell_of_row _ _ 8 _ 28 (0, 0) HQa.out
  have a9 : x6.cell? ⟨x1.heap.size, 9, none⟩ = some (.slice L.r.A exU.right.code.length L.r.c) := cell_of_row _ _ 9 _ 28 (0, 0) HQa.out
  have a10 : x6.cell? ⟨x1.heap.size, 10, none⟩ = some (.slice L.r.B exU.right.outs.length L.r.d) := cell_of_row _ _ 10 _ 28 (0, 0) HQa.out
  have a11 : x6.cell? ⟨x1.heap.size, 11, none⟩ = some (.int .i64 exU.back.ins) := cell_of_row _ _ 11 _ 28 (0, 0) HQa.out
  have a12 : x6.cell? ⟨x1.heap.size, 12, none⟩ = some (.int .i64 exU.back.regs) := cell_of_row _ _ 12 _ 28 (0, 0) HQa.out
  have a13 : x6.cell? ⟨x1.heap.size, 13, none⟩ = some (.slice L.b.A exU.back.code.length L.b.c) := cell_of_row _ _ 13 _ 28 (0, 0) HQa.out
  have a14 : x6.cell? ⟨x1.heap.size, 14, none⟩ = some (.slice L.b.B exU.back.outs.length L.b.d) := cell_of_row _ _ 14 _ 28 (0, 0) HQa.out
  have b0 : x6.cell? ⟨x4.heap.size, 0, none⟩ = some (.int .i64 exU.k1) := cell_of_row _ _ 0 _ 28 (0, 0) HQb.out
  have b1 : x6.cell? ⟨x4.heap.size, 1, none⟩ = some (.int .i64 exU.k2) := cell_of_row _ _ 1 _ 28 (0, 0) HQb.out
  have b2 : x6.cell? ⟨x4.heap.size, 2, none⟩ = some (.slice M.P exU.pts.length M.c) := cell_of_row _ _ 2 _ 28 (0, 0) HQb.out
  have b3 : x6.cell? ⟨x4.heap.size, 3, none⟩ = some (.int .i64 exU.left.ins) := cell_of_row _ _ 3 _ 28 (0, 0) HQb.out
  have b4 : x6.cell? ⟨x4.heap.size, 4, none⟩ = some (.int .i64 exU.left.regs) := cell_of_row _ _ 4 _ 28 (0, 0) HQb.out
  have b5 : x6.cell? ⟨x4.heap.size, 5, none⟩ = some (.slice M.l.A exU.left.code.length M.l.c) := cell_of_row _ _ 5 _ 28 (0, 0) HQb.out
  have b6 : x6.cell? ⟨x4.heap.size, 6, none⟩ = some (.slice M.l.B exU.left.outs.length M.l.d) := cell_of_row _ _ 6 _ 28 (0, 0) HQb.out
  have b7 : x6.cell? ⟨x4.heap.size, 7, none⟩ = some (.int .i64 exU.right.ins) := cell_of_row _ _ 7 _ 28 (0, 0) HQb.out
  have b8 : x6.cell? ⟨x4.heap.size, 8, none⟩ = some (.int .i64 exU.right.regs) := cell_of_row _ _ 8 _ 28 (0, 0) HQb.out
  have b9 : x6.cell? ⟨x4.heap.size, 9, none⟩ = some (.slice M.r.A exU.right.code.length M.r.c) := cell_of_row _ _ 9 _ 28 (0, 0) HQb.out
  have b10 : x6.cell? ⟨x4.heap.size, 10, none⟩ = some (.slice M.r.B exU.right.outs.length M.r.d) := cell_of_row _ _ 10 _ 28 (0, 0) HQb.out
  have b11 : x6.cell? ⟨x4.heap.size, 11, none⟩ = some (.int .i64 exU.back.ins) := cell_of_row _ _ 11 _ 28 (0, 0) HQb.out
  have b12 : x6.cell? ⟨x4.heap.size, 12, none⟩ = some (.int .i64 exU.back.regs) := cell_of_row _ _ 12 _ 28 (0, 0) HQb.out
  have b13 : x6.cell? ⟨x4.heap.size, 13, none⟩ = some (.slice M.b.A exU.back.code.length M.b.c) := cell_of_row _ _ 13 _ 28 (0, 0) HQb.out
  have b14 : x6.cell? ⟨x4.heap.size, 14, none⟩ = some (.slice M.b.B exU.back.outs.length M.b.d) := cell_of_row _ _ 14 _ 28 (0, 0) HQb.out
  unfold UnV.val UnV.cells at HC5
  go_wp2_with fail
  (with_reducible refine HC5.out.mono ?_)
  rintro e x7 ⟨b, rfl, hb, hbel⟩
  have hbt := hb.2 (by first | rfl | trivial)
  subst hbt
  have HB67 := Lib.hid hbel
  have hs56 := HB56.out.size
  have HQd : Hid (x7.heap[x1.heap.size]? = some (.cells (L.cells exU) 28 (0, 0))) := Lib.hid ((hbel.block _ (by omega)).trans HQa.out)
  have HQe : Hid (x7.heap[x4.heap.size]? = some (.cells (M.cells exU) 28 (0, 0))) := Lib.hid ((hbel.block _ (by omega)).trans HQb.out)
  have HC6 := Lib.hid (same14 exU exU L M x7 (HU6.out.below hbel) (HV6.out.below hbel))
  clear hb hbel HC5 p0 p1 a0 b0 a1 b1 a2 b2 a3 b3 a4 b4 a5 b5 a6 b6 a7 b7 a8 b8 a9 b9 a10 b10 a11 b11 a12 b12 a13 b13 a14 b14
  have a0 : x7.cell? ⟨x1.heap.size, 0, none⟩ = some (.int .i64 exU.k1) := cell_of_row _ _ 0 _ 28 (0, 0) HQd.out
  have a1 : x7.cell? ⟨x1.heap.size, 1, none⟩ = some (.int .i64 exU.k2) := cell_of_row _ _ 1 _ 28 (0, 0) HQd.out
  have a2 : x7.cell? ⟨x1.heap.size, 2, none⟩ = some (.slice L.P exU.pts.length L.c) := cell_of_row _ _ 2 _ 28 (0, 0) HQd.out
  have a3 : x7.cell? ⟨x1.heap.size, 3, none⟩ = some (.int .i64 exU.left.ins) := cell_of_row _ _ 3 _ 28 (0, 0) HQd.out
  have a4 : x7.cell? ⟨x1.heap.size, 4, none⟩ = some (.int .i64 exU.left.regs) := cell_of_row _ _ 4 _ 28 (0, 0) HQd.out
  have a5 : x7.cell? ⟨x1.heap.size, 5, none⟩ = some (.slice L.l.A exU.left.code.length L.l.c) := cell_of_row _ _ 5 _ 28 (0, 0) HQd.out
  have a6 : x7.cell? ⟨x1.heap.size, 6, none⟩ = some (.slice L.l.B exU.left.outs.length L.l.d) := cell_of_row _ _ 6 _ 28 (0, 0) HQd.out
  have a7 : x7.cell? ⟨x1.heap.size, 7, none⟩ = some (.int .i64 exU.right.ins) := cell_of_row _ _ 7 _ 28 (0, 0) HQd.out
  have a8 : x7.cell? ⟨x1.heap.size, 8, none⟩ = some (.int .i64 exU.right.regs) := cell_of_row _ _ 8 _ 28 (0, 0) HQd.out
  have a9 : x7.cell? ⟨x1.heap.size, 9, none⟩ = some (.slice L.r.A exU.right.code.length L.r.c) := cell_of_row _ _ 9 _ 28 (0, 0) HQd.out
  have a10 : x7.cell? ⟨x1.heap.size, 10, none⟩ = some (.slice L.r.B exU.right.outs.length L.r.d) := cell_of_row _ _ 10 _ 28 (0, 0) HQd.out
  have a11 : x7.cell? ⟨x1.heap.size, 11, none⟩ = some (.int .i64 exU.back.ins) := cell_of_row _ _ 11 _ 28 (0, 0) HQd.out
  have a12 : x7.cell? ⟨x1.heap.size, 12, none⟩ = some (.int .i64 exU.back.regs) := cell_of_row _ _ 12 _ 28 (0, 0) HQd.out
  have a13 : x7.cell? ⟨x1.heap.size, 13, none⟩ = some (.slice L.b.A exU.back.code.length L.b.c) := cell_of_row _ _ 13 _ 28 (0, 0) HQd.out
  have a14 : x7.cell? ⟨x1.heap.size, 14, none⟩ = some (.slice L.b.B exU.back.outs.length L.b.d) := cell_of_row _ _ 14 _ 28 (0, 0) HQd.out
  have b0 : x7.cell? ⟨x4.heap.size, 0, none⟩ = some (.int .i64 exU.k1) := cell_of_row _ _ 0 _ 28 (0, 0) HQe.out
  have b1 : x7.cell? ⟨x4.heap.size, 1, none⟩ = some (.int .i64 exU.k2) := cell_of_row _ _ 1 _ 28 (0, 0) HQe.out
  have b2 : x7.cell? ⟨x4.heap.size, 2, none⟩ = some (.slice M.P exU.pts.length M.c) := cell_of_row _ _ 2 _ 28 (0, 0) HQe.out
  have b3 : x7.cell? ⟨x4.heap.size, 3, none⟩ = some (.int .i64 exU.left.ins) := cell_of_row _ _ 3 _ 28 (0, 0) HQe.out
  have b4 : x7.cell? ⟨x4.heap.size, 4, none⟩ = some (.int .i64 exU.left.regs) := cell_of_row _ _ 4 _ 28 (0, 0) HQe.out
  have b5 : x7.cell? ⟨x4.heap.size, 5, none⟩ = some (.slice M.l.A exU.left.code.length M.l.c) := cell_of_row _ _ 5 _ 28 (0, 0) HQe.out
  have b6 : x7.cell? ⟨x4.heap.size, 6, none⟩ = some (.slice M.l.B exU.left.outs.length M.l.d) := cell_of_row _ _ 6 _ 28 (0, 0) HQe.out
  have b7 : x7.cell? ⟨x4.heap.size, 7, none⟩ = some (.int .i64 exU.right.ins) := cell_of_row _ _ 7 _ 28 (0, 0) HQe.out
  have b8 : x7.cell? ⟨x4.heap.size, 8, none⟩ = some (.int .i64 exU.right.regs) := cell_of_row _ _ 8 _ 28 (0, 0) HQe.out
  have b9 : x7.cell? ⟨x4.heap.size, 9, none⟩ = some (.slice M.r.A exU.right.code.length M.r.c) := cell_of_row _ _ 9 _ 28 (0, 0) HQe.out
  have b10 : x7.cell? ⟨x4.heap.size, 10, none⟩ = some (.slice M.r.B exU.right.outs.length M.r.d) := cell_of_row _ _ 10 _ 28 (0, 0) HQe.out
  have b11 : x7.cell? ⟨x4.heap.size, 11, none⟩ = some (.int .i64 exU.back.ins) := cell_of_row _ _ 11 _ 28 (0, 0) HQe.out
  have b12 : x7.cell? ⟨x4.heap.size, 12, none⟩ = some (.int .i64 exU.back.regs) := cell_of_row _ _ 12 _ 28 (0, 0) HQe.out
  have b13 : x7.cell? ⟨x4.heap.size, 13, none⟩ = some (.slice M.b.A exU.back.code.length M.b.c) := cell_of_row _ _ 13 _ 28 (0, 0) HQe.out
  have b14 : x7.cell? ⟨x4.heap.size, 14, none⟩ = some (.slice M.b.B exU.back.outs.length M.b.d) := cell_of_row _ _ 14 _ 28 (0, 0) HQe.out
  unfold UnV.val UnV.cells at HC6
  go_wp2_with fail
  (with_reducible refine HC6.out.mono ?_)
  rintro e x8 ⟨b, rfl, hb, hbel⟩
  have hbt := hb.2 (by first | rfl | trivial)
  subst hbt
  have HB8 := Lib.hid (HB6.out.trans ((HB67.out.trans (hbel.mono HB67.out.size)).mono HB6.out.size))
  clear hb hbel HC6
  go_wp2_with fail
  go_ret
  exact ⟨rfl, HB8.out⟩
end Go.Proofs.Ytcelcognmdcenaa
