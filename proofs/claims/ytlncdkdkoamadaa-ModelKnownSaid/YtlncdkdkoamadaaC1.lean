/-
  WALKS: slices.Clone at []int, []bool, [][]int; slices.Equal, Contains, Index.
-/
import Derived.Test.YtlncdkdkoamadaaHeap
import Derived.Test.YtlncdkdkoamadaaApp
import Derived.WalkSpells
import Derived.WalkLawsBesides
import Derived.Deep.QuietTactic
import Derived.BigQuiet
import Derived.Deep.DeepFit
import Derived.Lib.Hide
import Derived.Lib.SliceRun
namespace Go.Proofs.Ytlncdkdkoamadaa
open Go.RowKit

theorem info3 : (Try.prog.info? 3).map (fun i => (i.zero, i.size, i.bytes)) = some (some (.int .i64 0), 1, 8) := by kernel_rfl
theorem info22 : (Try.prog.info? 22).map (fun i => (i.zero, i.size, i.bytes)) = some (some (.slice none 0 0), 1, 24) := by kernel_rfl
theorem info4 : (Try.prog.info? 4).map (fun i => (i.zero, i.size, i.bytes)) = some (some (.bool false), 1, 1) := by kernel_rfl

set_option maxHeartbeats 400000 in
theorem clone_ints (A : Option Addr) (n c : Nat) (xs : List Value) (w : World) (hA : A = none → n = 0 ∧ c = 0) (hl : xs.length = n) (hc : ∀ ad, A = some ad → ∀ j u, xs[j]? = some u → w.cell? (ad.add j) = some u) (h1 : ∀ u ∈ xs, u.oneCell' = true)
    (hlt : ∀ ad, A = some ad → ∀ j, j < n → (ad.add j).block < w.heap.size) (hb : n * 8 ≤ 140737488351232) :
    Calls Try.prog 10 #[.slice A n c] w fun e w' => ∃ v, e = .returned v ∧ w'.ownsRow w.heap.size 3 1 v n xs ∧ Below w.heap.size w w' := by
  obtain ⟨i0, hi, hz0, hz1, hz2⟩ := info_parts info3
  have he := fun wx => Lib.run_eql_slice_nil (P := Try.prog) wx 22 3 A n c 0 0 Try.underlying22
  cases A with
  | none =>
    obtain ⟨rfl, rfl⟩ := hA rfl
    have hx : xs = [] := List.eq_nil_of_length_eq_zero hl
    subst hx
    simp only [Option.isNone] at he
    clear hA hc hlt
    go_enter Try.func10, Try.ntmps10
    go_wp2
    go_ret
    exact ⟨_, rfl, World.ownsRow_nil _ _ _ _, Below.refl _ _⟩
  | some ad =>
    have hcl : ∀ j u, xs[j]? = some u → (w.alloc (.cells #[] 3)).cell? (ad.add j) = some u := fun j u hu => by
      have hj := (List.getElem?_eq_some_iff.1 hu).1
      rw [World.cell?_alloc_lt _ _ _ (hlt ad rfl j (by omega))]
      exact hc ad rfl j u hu
    have hown := World.ownsRow_lit (base := w.heap.size) (e := 3) (size := 1) w #[] 0 (Nat.le_refl _) (Nat.zero_le _) rfl
    have HCL := Lib.hid hcl
    have H1 := Lib.hid h1
    have HL := Lib.hid hl
    simp only [Option.isNone] at he
    clear hA hc hlt hcl h1 hl
    go_enter Try.func10, Try.ntmps10
    go_wp2_with (at_builtin; refine wpList_appN rfl _ _ 22 rfl w.heap.size 3 i0 (.int .i64 0) 8 Try.underlying22 hi hz0 hz1 hz2 rfl _ _ _ rfl hown ad n c xs rfl HL.out HCL.out H1.out ?_ ?_ ?_ ?_)
    all_goals first | (unfold maxLen; omega) | omega | (simp; done) | (simp; omega) | skip
    intro v1 w1 hown1 hg1 hat
    have hb1 : Below w.heap.size w w1 := ((Below.refl _ _).alloc (Nat.le_refl _) _).grown hg1 (by simp) (fun b hb => by simp [Value.ownBlock] at hb; omega)
    have HO := Lib.hid hown1
    clear hown1 hg1 hat
    go_wp2
    go_ret
    refine ⟨v1, rfl, ?_, hb1⟩
    have := HO.out
    simpa using this

set_option maxHeartbeats 400000 in
theorem clone_bools (A : Option Addr) (n c : Nat) (xs : List Value) (w : World) (hA : A = none → n = 0 ∧ c = 0) (hl : xs.length = n) (hc : ∀ ad, A = some ad → ∀ j u, xs[j]? = some u → w.cell? (ad.add j) = some u) (h1 : ∀ u ∈ xs, u.oneCell' = true)
    (hlt : ∀ ad, A = some ad → ∀ j, j < n → (ad.add j).block < w.heap.size) (hb : n * 1 ≤ 140737488351232) :
    Calls Try.prog 34 #[.slice A n c] w fun e w' => ∃ v, e = .returned v ∧ w'.ownsRow w.heap.size 4 1 v n xs ∧ Below w.heap.size w w' := by
  obtain ⟨i0, hi, hz0, hz1, hz2⟩ := info_parts info4
  have he := fun wx => Lib.run_eql_slice_nil (P := Try.prog) wx 49 4 A n c 0 0 Try.underlying49
  cases A with
  | none =>
    obtain ⟨rfl, rfl⟩ := hA rfl
    have hx : xs = [] := List.eq_nil_of_length_eq_zero hl
    subst hx
    simp only [Option.isNone] at he
    clear hA hc hlt
    go_enter Try.func34, Try.ntmps34
    go_wp2
    go_ret
    exact ⟨_, rfl, World.ownsRow_nil _ _ _ _, Below.refl _ _⟩
  | some ad =>
    have hcl : ∀ j u, xs[j]? = some u → (w.alloc (.cells #[] 4)).cell? (ad.add j) = some u := fun j u hu => by
      have hj := (List.getElem?_eq_some_iff.1 hu).1
      rw [World.cell?_alloc_lt _ _ _ (hlt ad rfl j (by omega))]
      exact hc ad rfl j u hu
    have hown := World.ownsRow_lit (base := w.heap.size) (e := 4) (size := 1) w #[] 0 (Nat.le_refl _) (Nat.zero_le _) rfl
    have HCL := Lib.hid hcl
    have H1 := Lib.hid h1
    have HL := Lib.hid hl
    simp only [Option.isNone] at he
    clear hA hc hlt hcl h1 hl
    go_enter Try.func34, Try.ntmps34
    go_wp2_with (at_builtin; refine wpList_appN rfl _ _ 49 rfl w.heap.size 4 i0 (.bool false) 1 Try.underlying49 hi hz0 hz1 hz2 rfl _ _ _ rfl hown ad n c xs rfl HL.out HCL.out H1.out ?_ ?_ ?_ ?_)
    all_goals first | (unfold maxLen; omega) | omega | (simp; done) | (simp; omega) | skip
    intro v1 w1 hown1 hg1 hat
    have hb1 : Below w.heap.size w w1 := ((Below.refl _ _).alloc (Nat.le_refl _) _).grown hg1 (by simp) (fun b hb => by simp [Value.ownBlock] at hb; omega)
    have HO := Lib.hid hown1
    clear hown1 hg1 hat
    go_wp2
    go_ret
    refine ⟨v1, rfl, ?_, hb1⟩
    have := HO.out
    simpa using this

set_option maxHeartbeats 400000 in
theorem clone_rows (A : Option Addr) (n c : Nat) (xs : List Value) (w : World) (hA : A = none → n = 0 ∧ c = 0) (hl : xs.length = n) (hc : ∀ ad, A = some ad → ∀ j u, xs[j]? = some u → w.cell? (ad.add j) = some u) (h1 : ∀ u ∈ xs, u.oneCell' = true)
    (hlt : ∀ ad, A = some ad → ∀ j, j < n → (ad.add j).block < w.heap.size) (hb : n * 24 ≤ 140737488351232) :
    Calls Try.prog 35 #[.slice A n c] w fun e w' => ∃ v, e = .returned v ∧ w'.ownsRow w.heap.size 22 1 v n xs ∧ Below w.heap.size w w' := by
  obtain ⟨i0, hi, hz0, hz1, hz2⟩ := info_parts info22
  have he := fun wx => Lib.run_eql_slice_nil (P := Try.prog) wx 61 22 A n c 0 0 Try.underlying61
  cases A with
  | none =>
    obtain ⟨rfl, rfl⟩ := hA rfl
    have hx : xs = [] := List.eq_nil_of_length_eq_zero hl
    subst hx
    simp only [Option.isNone] at he
    clear hA hc hlt
    go_enter Try.func35, Try.ntmps35
    go_wp2
    go_ret
    exact ⟨_, rfl, World.ownsRow_nil _ _ _ _, Below.refl _ _⟩
  | some ad =>
    have hcl : ∀ j u, xs[j]? = some u → (w.alloc (.cells #[] 22)).cell? (ad.add j) = some u := fun j u hu => by
      have hj := (List.getElem?_eq_some_iff.1 hu).1
      rw [World.cell?_alloc_lt _ _ _ (hlt ad rfl j (by omega))]
      exact hc ad rfl j u hu
    have hown := World.ownsRow_lit (base := w.heap.size) (e := 22) (size := 1) w #[] 0 (Nat.le_refl _) (Nat.zero_le _) rfl
    have HCL := Lib.hid hcl
    have H1 := Lib.hid h1
    have HL := Lib.hid hl
    simp only [Option.isNone] at he
    clear hA hc hlt hcl h1 hl
    go_enter Try.func35, Try.ntmps35
    go_wp2_with (at_builtin; refine wpList_appN rfl _ _ 61 rfl w.heap.size 22 i0 (.slice none 0 0) 24 Try.underlying61 hi hz0 hz1 hz2 rfl _ _ _ rfl hown ad n c xs rfl HL.out HCL.out H1.out ?_ ?_ ?_ ?_)
    all_goals first | (unfold maxLen; omega) | omega | (simp; done) | (simp; omega) | skip
    intro v1 w1 hown1 hg1 hat
    have hb1 : Below w.heap.size w w1 := ((Below.refl _ _).alloc (Nat.le_refl _) _).grown hg1 (by simp) (fun b hb => by simp [Value.ownBlock] at hb; omega)
    have HO := Lib.hid hown1
    clear hown1 hg1 hat
    go_wp2
    go_ret
    refine ⟨v1, rfl, ?_, hb1⟩
    have := HO.out
    simpa using this

/-- Equality of two slices of numbers that are read. -/
def RdI (w : World) (A : Option Addr) (n : Nat) (f : Nat → Int) : Prop := 0 < n → ∃ b off, A = some ⟨b, off, none⟩ ∧ b < w.heap.size ∧ ∀ i, i < n → w.cell? ⟨b, off + i, none⟩ = some (.int .i64 (f i))
theorem RdI.of_own {w : World} {base : Nat} {e : TypeId} {A : Option Addr} {n c : Nat} {f : Nat → Int} (h : w.ownsRow base e 1 (.slice A n c) n ((List.range n).map fun i => .int .i64 (f i))) : RdI w A n f := by
  intro hn
  obtain ⟨g, cap, hv, _, hl, _, _, hc, _⟩ := own_some h hn
  cases hv
  exact ⟨g, 0, rfl, hl, fun i hi => by rw [Nat.zero_add]; exact hc i _ (vals_get hi)⟩
theorem RdI.below {w w' : World} {A : Option Addr} {n : Nat} {f : Nat → Int} (h : RdI w A n f) {B : Nat} (hb : Below B w w') (hB : w.heap.size ≤ B) : RdI w' A n f := fun hn => by
  obtain ⟨b, off, hA, hl, hc⟩ := h hn
  exact ⟨b, off, hA, Nat.lt_of_lt_of_le hl hb.size, fun i hi => (hb.cell (p := ⟨b, off + i, none⟩) (Nat.lt_of_lt_of_le hl hB)).trans (hc i hi)⟩

/-- Do two rows of numbers agree? -/
def eqI (n m : Nat) (f g : Nat → Int) : Bool := n == m && (List.range n).all fun i => f i == g i

set_option maxHeartbeats 1600000 in
theorem equal_ints (A B : Option Addr) (n c m d : Nat) (f g : Nat → Int) (w : World) (ha : RdI w A n f) (hb : RdI w B m g) (hn : n ≤ 4294967296) (hm : m ≤ 4294967296) :
    Calls Try.prog 32 #[.slice A n c, .slice B m d] w fun e w' => e = .returned (.bool (eqI n m f g)) ∧ ∃ j, w.drewN j = w' := by
  by_cases hnm : n = m
  · subst hnm
    have e0 : eqI n n f g = (List.range n).all fun i => f i == g i := by simp [eqI]
    rw [e0]
    have HA := Lib.hid ha
    have HB := Lib.hid hb
    clear ha hb e0
    go_enter Try.func32, Try.ntmps32
    go_wp2
    go_loopw [13] (fun i wr => ∃ j : Nat, j ≤ n ∧ i = .int .i64 j ∧ Hid (∀ i, i < j → f i = g i) ∧ Hid (∃ q, w.drewN q = wr)) (fun i _ => n - (intOf i).toNat)
    case atStart => exact ⟨0, Nat.zero_le _, rfl, fun u hu => absurd hu (by omega), ⟨0, rfl⟩⟩
    case round =>
      obtain ⟨j, hj, rfl, hall, hd⟩ := hrel
      obtain ⟨q, rfl⟩ := hd.out
      by_cases hlt : j < n
      · obtain ⟨b, off, rfl, hbl, hcx⟩ := HA.out (by omega)
        obtain ⟨b', off', rfl, hbl', hcx'⟩ := HB.out (by omega)
        have k1 := hcx j hlt
        have k2 := hcx' j hlt
        clear hcx hcx'
        by_cases hfg : f j = g j
        · have hall' : Hid (∀ i, i < j + 1 → f i = g i) := fun i hi => by
            by_cases e : i = j
            · subst e; exact hfg
            · exact hall.out i (by omega)
          rw [← hfg] at k2
          have HF := Lib.hid hfg
          clear hfg hd
          go_wp2
          go_quiet (fail)
          go_wp2
          go_roundw
          case rel => exact ⟨j + 1, by omega, by go_num, hall', ⟨_, rfl⟩⟩
          case measure => simp [intOf]; omega
        · have HR := Lib.hid (show ((List.range n).all fun i => f i == g i) = false by
            rw [List.all_eq_false]
            exact ⟨j, by simpa using hlt, by simpa using hfg⟩)
          have hne : (f j != g j) = true := by simpa using hfg
          clear hfg hd
          go_wp2
          go_quiet (fail)
          go_wp2
          go_ret
          rw [HR.out]
          exact ⟨rfl, dr2 _ _ _⟩
      · have HR := Lib.hid (show ((List.range n).all fun i => f i == g i) = true by
          rw [List.all_eq_true]
          intro i hi
          simpa using hall.out i (by have := List.mem_range.1 hi; omega))
        clear hd
        go_wp2
        go_ret
        rw [HR.out]
        exact ⟨rfl, _, rfl⟩
  · have e0 : eqI n m f g = false := by simp [eqI, hnm]
    have hne : ((n : Int) != (m : Int)) = true := by simp; omega
    rw [e0]
    clear e0
    go_enter Try.func32, Try.ntmps32
    go_wp2
    go_ret
    exact ⟨rfl, 0, rfl⟩

end Go.Proofs.Ytlncdkdkoamadaa
