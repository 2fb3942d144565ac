/-
  WALKS: may an instruction be? In the program's words.
-/
import Derived.Test.YtcelcognmdcenaaA1
namespace Go.Proofs.Ytcelcognmdcenaa
open Go.RowKit

/-- An instruction's value. -/
def Ins.val (i : Ins) : Value := .agg #[.int .i64 i.op, .int .i64 i.to, .int .i64 i.a, .int .i64 i.b, .int .i64 i.c]

theorem ok_iff (i : Ins) (regs : Int) : i.ok regs = true ↔ (1 ≤ i.op ∧ i.op ≤ 8 ∧ 0 ≤ i.to ∧ i.to < regs) ∧ (¬ (i.op = 3 ∨ i.op = 4) → i.b = 0) ∧ constOk i.op i.c = true ∧ ∀ r ∈ asks i, 0 ≤ r ∧ r < regs := by
  obtain ⟨op, to, a, b, c⟩ := i
  unfold Ins.ok asks
  simp only [Bool.and_eq_true, decide_eq_true_eq]
  by_cases h : op = 3 ∨ op = 4
  · rw [if_pos h, if_pos h, constOk_no (by omega) (by omega)]
    simp only [decide_eq_true_eq, List.mem_cons, List.not_mem_nil, or_false, forall_eq_or_imp, forall_eq]
    constructor
    · intro h; exact ⟨by omega, fun h' => by contradiction, by omega, by omega, by omega⟩
    · intro h; omega
  · rw [if_neg h, if_neg h]
    simp only [Bool.and_eq_true, decide_eq_true_eq, List.mem_cons, List.not_mem_nil, or_false, forall_eq]
    constructor
    · intro h'; exact ⟨by omega, fun _ => h'.2.1, h'.2.2, by omega⟩
    · intro h'; exact ⟨by omega, h'.2.1 h, h'.2.2.1⟩
theorem ok_f {i : Ins} {regs : Int} (h : ¬ ((1 ≤ i.op ∧ i.op ≤ 8 ∧ 0 ≤ i.to ∧ i.to < regs) ∧ (¬ (i.op = 3 ∨ i.op = 4) → i.b = 0) ∧ constOk i.op i.c = true ∧ ∀ r ∈ asks i, 0 ≤ r ∧ r < regs)) : i.ok regs = false := by
  cases e : i.ok regs with
  | false => rfl
  | true => exact absurd ((ok_iff i regs).1 e) h
theorem two_t {op : Int} (h : op = 3 ∨ op = 4) (w : World) : Calls Try.prog 65 #[.int .i64 op] w fun e w' => e = .returned (.bool true) ∧ w = w' := by
  have := two65 op w
  rwa [decide_eq_true h] at this
theorem two_f {op : Int} (h : ¬ (op = 3 ∨ op = 4)) (w : World) : Calls Try.prog 65 #[.int .i64 op] w fun e w' => e = .returned (.bool false) ∧ w = w' := by
  have := two65 op w
  rwa [decide_eq_false h] at this
theorem asks_len (i : Ins) : (asks i).length = 1 ∨ (asks i).length = 2 := by
  unfold asks; split
  · exact .inr rfl
  · exact .inl rfl

/-- The loop over what it asks. -/
def AskRel (i : Ins) (regs : Int) (k : Nat) : Prop := ∀ j, j < k → ∀ r, (asks i)[j]? = some r → 0 ≤ r ∧ r < regs
theorem AskRel.succ {i : Ins} {regs : Int} {k : Nat} (h : AskRel i regs k) {r : Int} (hr : (asks i)[k]? = some r) (h0 : 0 ≤ r) (h1 : r < regs) : AskRel i regs (k + 1) := by
  intro j hj r' hr'
  by_cases e : j = k
  · subst e; rw [hr] at hr'; cases hr'; exact ⟨h0, h1⟩
  · exact h j (by omega) r' hr'
theorem AskRel.all {i : Ins} {regs : Int} (h : AskRel i regs (asks i).length) : ∀ r ∈ asks i, 0 ≤ r ∧ r < regs := by
  intro r hr
  obtain ⟨j, hj⟩ := List.mem_iff_getElem?.1 hr
  exact h j (List.getElem?_eq_some_iff.1 hj).1 r hj

theorem const66' (op to a b c : Int) (w : World) : Calls Try.prog 66 #[.agg #[.int .i64 op, .int .i64 to, .int .i64 a, .int .i64 b, .int .i64 c]] w fun e w' => e = .returned (.bool (constOk op c)) ∧ Below w.heap.size w w' := const66 ⟨op, to, a, b, c⟩ w
theorem asks67' (op to a b c : Int) (w : World) (h1 : 1 ≤ op) (h8 : op ≤ 8) : Calls Try.prog 67 #[.agg #[.int .i64 op, .int .i64 to, .int .i64 a, .int .i64 b, .int .i64 c]] w fun e w' =>
    ∃ v, e = .returned v ∧ w'.ownsRow w.heap.size 3 1 v (asks ⟨op, to, a, b, c⟩).length (vI (asks ⟨op, to, a, b, c⟩)) ∧ Below w.heap.size w w' := asks67 ⟨op, to, a, b, c⟩ w h1 h8

def May58 (op to a b c regs : Int) (w : World) (r : Bool) : Prop := Calls Try.prog 58 #[.agg #[.int .i64 op, .int .i64 to, .int .i64 a, .int .i64 b, .int .i64 c], .int .i64 regs] w fun e w' => e = .returned (.bool r) ∧ Below w.heap.size w w'
theorem below_a (w : World) (o : Obj) : Below w.heap.size w (w.alloc o) := (Below.refl w.heap.size w).alloc (Nat.le_refl _) o

set_option maxHeartbeats 1000000 in
theorem may58_head (op to a b c regs : Int) (w : World) (h : ¬ (1 ≤ op ∧ op ≤ 8 ∧ 0 ≤ to ∧ to < regs)) : May58 op to a b c regs w false := by
  unfold May58
  have H := Lib.hid h
  clear h
  by_cases c1 : 1 ≤ op
  case neg =>
    go_enter Try.func58, Try.ntmps58
    go_wp2_with fail
    go_ret
    exact ⟨rfl, below_a _ _⟩
  by_cases c2 : op ≤ 8
  case neg =>
    go_enter Try.func58, Try.ntmps58
    go_wp2_with fail
    go_ret
    exact ⟨rfl, below_a _ _⟩
  by_cases c3 : 0 ≤ to
  case neg =>
    go_enter Try.func58, Try.ntmps58
    go_wp2_with fail
    go_ret
    exact ⟨rfl, below_a _ _⟩
  have c4 : ¬ to < regs := fun c4 => H.out ⟨c1, c2, c3, c4⟩
  go_enter Try.func58, Try.ntmps58
  go_wp2_with fail
  go_ret
  exact ⟨rfl, below_a _ _⟩

set_option maxHeartbeats 1000000 in
theorem may58_b (op to a b c regs : Int) (w : World) (c1 : 1 ≤ op) (c2 : op ≤ 8) (c3 : 0 ≤ to) (c4 : to < regs) (h2 : ¬ (op = 3 ∨ op = 4)) (h0 : b ≠ 0) : May58 op to a b c regs w false := by
  unfold May58
  have HT := Lib.hid (fun wx => two_f h2 wx)
  have h0' : (b != 0) = true := by simpa using h0
  clear h2 h0
  go_enter Try.func58, Try.ntmps58
  go_wp2_with fail
  (with_reducible refine (HT.out _).mono ?_)
  rintro e w' ⟨rfl, rfl⟩
  go_wp2_with fail
  go_ret
  exact ⟨rfl, below_a _ _⟩

set_option maxHeartbeats 1000000 in
theorem may58_c (op to a b c regs : Int) (w : World) (c1 : 1 ≤ op) (c2 : op ≤ 8) (c3 : 0 ≤ to) (c4 : to < regs) (h2 : ¬ (op = 3 ∨ op = 4) → b = 0) (hc : constOk op c = false) : May58 op to a b c regs w false := by
  unfold May58
  by_cases h : op = 3 ∨ op = 4
  · have HT := Lib.hid (fun wx => two_t h wx)
    have HC := Lib.hid (fun wx => const66' op to a b c wx)
    rw [hc] at HC
    clear h2 hc h
    go_enter Try.func58, Try.ntmps58
    go_wp2_with fail
    (with_reducible refine (HT.out _).mono ?_)
    rintro e w' ⟨rfl, rfl⟩
    go_wp2_with fail
    (with_reducible refine (HC.out _).mono ?_)
    rintro e w' ⟨rfl, hb⟩
    go_wp2_with fail
    go_ret
    exact ⟨rfl, (below_a _ _).trans (hb.mono (by simp))⟩
  · obtain rfl := h2 h
    have HT := Lib.hid (fun wx => two_f h wx)
    have HC := Lib.hid (fun wx => const66' op to a 0 c wx)
    rw [hc] at HC
    clear h2 hc h
    go_enter Try.func58, Try.ntmps58
    go_wp2_with fail
    (with_reducible refine (HT.out _).mono ?_)
    rintro e w' ⟨rfl, rfl⟩
    go_wp2_with fail
    (with_reducible refine (HC.out _).mono ?_)
    rintro e w' ⟨rfl, hb⟩
    go_wp2_with fail
    go_ret
    exact ⟨rfl, (below_a _ _).trans (hb.mono (by simp))⟩

set_option maxHeartbeats 1000000 in
theorem may58_r (op to a b c regs : Int) (w : World) (c1 : 1 ≤ op) (c2 : op ≤ 8) (c3 : 0 ≤ to) (c4 : to < regs) (h2 : ¬ (op = 3 ∨ op = 4) → b = 0) (hc : constOk op c = true) : May58 op to a b c regs w ((Ins.mk op to a b c).ok regs) := by
  unfold May58
  have HOK := Lib.hid (ok_iff ⟨op, to, a, b, c⟩ regs)
  have H2 := Lib.hid h2
  have HCT := Lib.hid hc
  have HC := Lib.hid (fun wx => const66' op to a b c wx)
  rw [hc] at HC
  have HK := Lib.hid (fun wx => asks67' op to a b c wx c1 c2)
  have HL := Lib.hid (asks_len ⟨op, to, a, b, c⟩)
  obtain ⟨l, hl⟩ : ∃ l, l = asks ⟨op, to, a, b, c⟩ := ⟨_, rfl⟩
  rw [← hl] at HK HL
  have HE := Lib.hid hl
  obtain ⟨res, hres⟩ : ∃ res, res = (Ins.mk op to a b c).ok regs := ⟨_, rfl⟩
  rw [← hres] at HOK ⊢
  clear hl h2 hc hres
  have hbz : ∃ tw : Bool, (∀ wx, Calls Try.prog 65 #[.int .i64 op] wx fun e w' => e = .returned (.bool tw) ∧ wx = w') ∧ (tw = false → b = 0) := by
    by_cases h : op = 3 ∨ op = 4
    · exact ⟨true, two_t h, fun h => by cases h⟩
    · exact ⟨false, two_f h, fun _ => H2.out h⟩
  obtain ⟨tw, ht, hb0⟩ := hbz
  have HT := Lib.hid ht
  clear ht
  cases tw
  case' false => obtain rfl := hb0 rfl
  all_goals
    clear hb0
    go_enter Try.func58, Try.ntmps58
    go_wp2_with fail
    (with_reducible refine (HT.out _).mono ?_)
    rintro e w' ⟨rfl, rfl⟩
    go_wp2_with fail
    (with_reducible refine (HC.out _).mono ?_)
    rintro e w2 ⟨rfl, hb2⟩
    have HB2 := Lib.hid ((below_a _ _).trans (hb2.mono (by simp)))
    obtain ⟨q0, q1⟩ : w.heap.size < w2.heap.size ∧ w2.heap[w.heap.size]? = (w.alloc _).heap[w.heap.size]? := ⟨by have := hb2.size; simp at this; omega, hb2.block _ (by simp)⟩
    rw [heap_alloc_new] at q1
    have e0 := fun j => cell_of_row w2 w.heap.size j _ 63 (0, 0) q1
    have e00 : w2.cell? ⟨w.heap.size, 0, none⟩ = some (.int .i64 op) := e0 0
    have e01 : w2.cell? ⟨w.heap.size, 1, none⟩ = some (.int .i64 to) := e0 1
    have e02 : w2.cell? ⟨w.heap.size, 2, none⟩ = some (.int .i64 a) := e0 2
    have e03 := e0 3
    have e04 : w2.cell? ⟨w.heap.size, 4, none⟩ = some (.int .i64 c) := e0 4
    change w2.cell? ⟨w.heap.size, 3, none⟩ = some (.int .i64 _) at e03
    clear hb2 q1 e0 HT HC
    go_wp2_with fail
    (with_reducible refine (HK.out _).mono ?_)
    rintro e w3 ⟨v, rfl, ho, hb3⟩
    obtain ⟨A, cp, rfl, hcp, hcm⟩ := own_slice ho
    have HR := Lib.hid (Reads.of_own ho).ints
    have HB3 := Lib.hid (HB2.out.trans (hb3.mono HB2.out.size))
    have hlen : l.length ≤ 2 := by rcases HL.out with h | h <;> omega
    clear ho hb3 hcp hcm HK HB2 e00 e01 e02 e03 e04 q0
    go_wp2_with fail
    go_loop [6, 45] (fun _ k => ∃ j : Nat, j ≤ l.length ∧ k = .int .i64 j ∧ Hid (∀ j', j' < j → ∀ r, l[j']? = some r → 0 ≤ r ∧ r < regs)) (fun _ k => l.length - (intOf k).toNat)
    case atStart => exact ⟨0, Nat.zero_le _, rfl, fun j' h => absurd h (by omega)⟩
    case round =>
      obtain ⟨j, hj, rfl, HP⟩ := hrel
      by_cases hlt : j < l.length
      · obtain ⟨r, hr⟩ : ∃ r, l[j]? = some r := ⟨l[j], List.getElem?_eq_getElem hlt⟩
        obtain ⟨_, hq⟩ := HR.out
        obtain ⟨bb, o, rfl, _, hcell⟩ := hq (by omega)
        have hce := hcell j r hr
        have HRJ := Lib.hid hr
        clear hq hcell hr
        by_cases r0 : 0 ≤ r
        · by_cases r1 : r < regs
          · go_wp2_with fail
            go_round
            case rel => exact ⟨j + 1, by omega, by go_num, fun j' hj' r' hr' => by
              by_cases e : j' = j
              · subst e; rw [HRJ.out] at hr'; cases hr'; exact ⟨r0, r1⟩
              · exact HP.out j' (by omega) r' hr'⟩
            case measure => simp [intOf]; omega
          · have hf : res = false := by
              cases hre : res with
              | false => rfl
              | true =>
                have := (HOK.out.1 hre).2.2.2 r (by rw [← HE.out]; exact List.mem_iff_getElem?.2 ⟨j, HRJ.out⟩)
                omega
            subst hf
            go_wp2_with fail
            go_ret
            exact ⟨rfl, HB3.out⟩
        · have hf : res = false := by
            cases hre : res with
            | false => rfl
            | true =>
              have := (HOK.out.1 hre).2.2.2 r (by rw [← HE.out]; exact List.mem_iff_getElem?.2 ⟨j, HRJ.out⟩)
              omega
          subst hf
          go_wp2_with fail
          go_ret
          exact ⟨rfl, HB3.out⟩
      · have hf : res = true := HOK.out.2 ⟨⟨c1, c2, c3, c4⟩, H2.out, HCT.out, fun r hr => by
          rw [← HE.out] at hr
          obtain ⟨j', hj'⟩ := List.mem_iff_getElem?.1 hr
          have := (List.getElem?_eq_some_iff.1 hj').1
          exact HP.out j' (by omega) r hj'⟩
        subst hf
        go_wp2_with fail
        go_ret
        exact ⟨rfl, HB3.out⟩
theorem may58 (i : Ins) (regs : Int) (w : World) : Calls Try.prog 58 #[.agg #[.int .i64 i.op, .int .i64 i.to, .int .i64 i.a, .int .i64 i.b, .int .i64 i.c], .int .i64 regs] w fun e w' => e = .returned (.bool (i.ok regs)) ∧ Below w.heap.size w w' := by
  obtain ⟨op, to, a, b, c⟩ := i
  show May58 op to a b c regs w _
  by_cases h1 : 1 ≤ op ∧ op ≤ 8 ∧ 0 ≤ to ∧ to < regs
  · obtain ⟨c1, c2, c3, c4⟩ := h1
    by_cases h2 : ¬ (op = 3 ∨ op = 4) → b = 0
    · cases hc : constOk op c with
      | false =>
        rw [ok_f (by simp only; rw [hc]; simp)]
        exact may58_c op to a b c regs w c1 c2 c3 c4 h2 hc
      | true => exact may58_r op to a b c regs w c1 c2 c3 c4 h2 hc
    · rw [ok_f (fun h => h2 h.2.1)]
      exact may58_b op to a b c regs w c1 c2 c3 c4 (fun h => h2 fun h' => absurd h h') (fun h => h2 fun _ => h)
  · rw [ok_f (fun h => h1 h.1)]
    exact may58_head op to a b c regs w h1
end Go.Proofs.Ytcelcognmdcenaa
